/-
  Part 5 of the texts that the claim leans on.
-/
import Derived.ProofKit
import Derived.SizedLaws
import Derived.OpenShut
import Derived.Laws.IdiomStrings
import Derived.Test.YtdcokeoodcfphaaGreatMgGhEdges3
set_option maxRecDepth 100000
namespace Lf
open Go Go.Proofs Tryz
section
variable {h:Hp} {b:Nat} {x:aw} {y:aB} {c:bd} {s:fe}
theorem aaW (t:eo h x c) (V:cW h y s) (ok:(fq c).1=0) (M:lK s) {Q:Bool->Hp->Prop} (a:∀r,(r=true↔xn c s)->Q r h):Vq prog x y Q h:=by
 unfold Vq;obtain ⟨H,S,a8⟩:=V.parts;obtain ⟨I,b5,b0⟩:=V.procs;obtain ⟨cs,b9,b7⟩:=t.procs;have l1:=a8.len;have l2:=b0.len;have l3:=b7.len;have e1:y.bt.len=H.length:=S.1;have e2:y.aC.len=I.length:=b5.1;have e3:x.aC.len=cs.length:=b9.1;have e4:x.bg.len=c.labels.length:=t.labels.1;obtain ⟨⟨c9,d0⟩, -, -, -,⟨d1,d2⟩, -⟩:=EM ok;have s1:=M.parts;have s2:=M.procs;refine λy1 d3=> ?_;have a1:y1=true↔¬(s.parts.length=c.labels.length/\s.procs.length=c.procs.length):=by grind
 refine ju (λr=>r=true↔0<=s.tick/\s.tick<=4611686018427387904) false (λ_ d=>OG (Pl (V.tick▸d))) λr hr=>λy2 d4=> ?_;have a2:y2=true↔¬((s.parts.length=c.labels.length/\s.procs.length=c.procs.length)/\(0<=s.tick/\s.tick<=4611686018427387904)):=by grind
 dsimp only;by_cases F:y2=true
 ·rw [if_pos F];exact a _ ⟨λe=>(by cases e),λf=>absurd ⟨f.1.2,f.1.1⟩ (a2.1 F)⟩
 rw [if_neg F];obtain ⟨b1,b2⟩:=Classical.not_not.1 λR=>F (a2.2 R);have hZ:xn c s↔(∀x∈s.parts,(x.av.length:Int)=c.ak/\(x.ah.length:Int)=c.ak/\(x.log.length:Int)<=c.log)/\∀x∈s.procs,x.ae.length=c.labels.length+1/\∀l∈x.ae,(l.values.length:Int)<=c.lane:=
  ⟨λf=>f.2,λf=>⟨⟨b2,b1⟩,f⟩⟩
 rw [t.ak,t.log];refine jv (n:=H.length) (by omega) (by omega) (λj A=>A=h/\∀(k:Nat) z,k<j->s.parts[k]? =some z->(z.av.length:Int)=c.ak/\(z.ah.length:Int)=c.ak/\(z.log.length:Int)<=c.log) ⟨rfl,λ_ _ C=>by omega⟩ ?_ ?_
 ·rintro j C J ⟨rfl,hI⟩ K Z;refine Rw.mh S (λ_=>rfl) (by omega) (sh:=af) (λq=>q.bN) (λ_=>rfl) (by omega) (by omega) λw E=> ?_;have E:H[j]? =some w:=E;obtain ⟨z,o,B⟩:=a8.get E;have f1:w.bN.len=z.av.length:=B.av.1;obtain ⟨us,c6,b8⟩:=B.ah;have f2:w.bI.len=us.length:=c6.1;have c7:=b8.len;obtain ⟨W,c0,c5⟩:=B.log;have f3:w.Log.len=W.length:=c0.1;have c8:z.log.length=W.length:=by rw [<-c5,List.length_map]
  have one:∀(g:bS->Sl) (off:Nat) (hg:∀x,((ba (bQ.enc x)).drop off).take (ba (af.enc (g x))).length=ba (af.enc (g x))) {dH:Bool} {p:Sl->Prop},p (g w)->
    ((dH=true->(aG y.bt.base y.bt.len (j:Int)))/\aD (some dH) af J (Addr.add (sat y.bt.base 6 (j:Int)) off) p):=λg off hg {dH} {p} d=>by
   obtain ⟨c1,v,hv,rfl⟩:=Rw.mh S (λ_=>rfl) (by omega) (sh:=af) g hg (i:=(j:Int)) (by omega) (by omega) (K:=λv=>v=g w) λq a=>by have a:H[j]? =some q:=a;rw [E] at a;cases a;rfl
   exact ⟨λ_=>c1,_,λ_=>hv,d⟩
  refine one (λq=>q.bI) 5 (λ_=>rfl) (aE ?_);refine one (λq=>q.Log) 1 (λ_=>rfl) λy3 d5=> ?_;grind
 ·rintro J ⟨rfl,hI⟩;have hA:∀z∈s.parts,(z.av.length:Int)=c.ak/\(z.ah.length:Int)=c.ak/\(z.log.length:Int)<=c.log:=λz o=>by obtain ⟨m,P⟩:=List.getElem?_of_mem o;grind
  refine jv (n:=I.length) (by omega) (by omega) (λj A=>A=J/\∀(k:Nat) z,k<j->s.procs[k]? =some z->z.ae.length=c.labels.length+1/\∀l∈z.ae,(l.values.length:Int)<=c.lane) ⟨rfl,λ_ _ C=>by omega⟩ ?_ ?_
  ·rintro j C L ⟨rfl,X⟩ K Z;have N:=List.getElem?_eq_getElem C;generalize I[j]=w at N;have one:∀ {p:Sl->Prop},p w.cC->(aG y.aC.base y.aC.len (j:Int))/\aD none af L (Addr.add (sat y.aC.base 15 (j:Int)) 14) p:=λ{p} d=>
    Rw.mh b5 (λ_=>rfl) (by omega) (sh:=af) (λq=>q.cC) (λ_=>rfl) (by omega) (by omega) λq a=>by have a:I[j]? =some q:=a;rw [N] at a;cases a;exact d
   obtain ⟨z,o,B⟩:=b0.get N;obtain ⟨G,b3,a9⟩:=B.ae;have f1:w.cC.len=G.length:=b3.1;have f2:=a9.len;have d6:=M.ae z (List.mem_of_getElem? o);refine one ?_;rw [f1,f2,e4,aI];by_cases R:z.ae.length=c.labels.length+1
   ·rw [if_neg (by rw [bne_iff_ne];omega)];refine AQ (n:=G.length) (by omega) (λm A=>A=L/\∀(k:Nat) l,k<m->z.ae[k]? =some l->(l.values.length:Int)<=c.lane) ⟨rfl,λ_ _ P=>by omega⟩ ?_;rintro m P h4 ⟨rfl,Y⟩ K2 b6;refine one ?_;by_cases b4:m<G.length
    ·rw [if_pos (fT)];refine one ?_;refine Rw.mh b3 (λ_=>rfl) (by omega) (sh:=af) (λq=>q.dm) (λ_=>rfl) (by omega) (by omega) λu T=> ?_;have T:G[m]? =some u:=T;obtain ⟨l,D,c4⟩:=a9.get T;have f3:u.dm.len=l.values.length:=c4.values.1;rw [t.lane,f3];by_cases hv:(l.values.length:Int)<=c.lane
     ·rw [if_neg (λe=>by have:=of_decide_eq_true e;omega)];refine b6 b4 _ ⟨rfl,λk l' d O=> ?_⟩;by_cases c3:k<m
      ·exact Y k l' c3 O
      ·have:k=m:=by omega
       subst this;rw [D] at O;cases O;exact hv
     ·rw [if_pos (fT)];exact a _ ⟨λe=>(by cases e),λf=>absurd (((hZ.1 f).2 z (List.mem_of_getElem? o)).2 l (List.mem_of_getElem? D)) hv⟩
    ·rw [if_neg (λe=>b4 (by have:=of_decide_eq_true e;omega))];refine Z _ ⟨rfl,λk z' d U=> ?_⟩;by_cases c2:k<j
     ·exact X k z' c2 U
     ·have:k=j:=by omega
      subst this;rw [o] at U;cases U;refine ⟨R,λl D=> ?_⟩;obtain ⟨k,d⟩:=List.getElem?_of_mem D;exact Y k l (by have:=(List.getElem?_eq_some_iff.1 d).1;omega) d
   grind
  ·rintro L ⟨rfl,X⟩;refine a _ ⟨λ_=>hZ.2 ⟨hA,λz o=> ?_⟩,λ_=>rfl⟩;obtain ⟨m,P⟩:=List.getElem?_of_mem o;grind
end
def vr (c:bd) (s:fe) (x:ai) (y:eu) (k:Nat) (l:br):Prop:=
 fF l.taken/\fF l.dropped/\(k<c.labels.length->lL l->fl c.labels (k:Int) y.part=true)/\(l.waiters≠ []->(k:Int)=y.part/\x.state<5/\c.lane<=l.values.length)/\
  ∀w∈l.waiters,(∀i:Nat,(i:Int)=y.part->rn c s w.proc i)/\qE s w.proc λz=>z.state=2
section
variable {h:Hp} {b:Nat} {x:aw} {y:aB} {c:bd} {s:fe}
theorem RM.tF (k:RM h b x y c s) {p:Nat} {z:ai} (g:s.procs[p]? =some z) {Z:bh->Prop}:(∃w,dV h w z/\∀ {K:bh->Prop},K w->(aG y.aC.base y.aC.len (p:Int)/\aD none aN h (sat y.aC.base 15 (p:Int)) K)):=by obtain ⟨m,d,a⟩:=k.st.procs;obtain ⟨w,e,f⟩:=a.get' g;have l:=(List.getElem?_eq_some_iff.1 e).1;refine ⟨w,f,λ{K} i=> ?_⟩;refine kV (sh:=aN) d λn j=> ?_;grind
theorem RM.vM (k:RM h b x y c s) {p:Nat} {u:eu} (o:c.procs[p]? =some u):(∃q,kz h q u/\(∀ {K:Int->Prop},K u.part->(aG x.aC.base x.aC.len (p:Int)/\aD none (ab .i64) h (Addr.add (sat x.aC.base 2 (p:Int)) 0) K))/\
  ∀ {dH:Option Bool} {K:Sl->Prop},K q.Code->(aG x.aC.base x.aC.len (p:Int)/\aD dH af h (Addr.add (sat x.aC.base 2 (p:Int)) 1) K)):=by
 obtain ⟨r,e,m⟩:=k.cfg.procs;obtain ⟨q,f,g⟩:=m.get' o;have t:=(List.getElem?_eq_some_iff.1 f).1;refine ⟨q,g,λ{K} d=> ?_,λ{dH} {K} d=> ?_⟩
 ·refine Rw.mh e (λ_=>rfl) (by omega) (sh:=ab .i64) (λq=>q.Part) (λ_=>rfl) (by omega) (by omega) λl a=> ?_;have a:r[p]? =some l:=a;rw [f] at a;cases a;rw [g.1];exact d
 ·obtain ⟨n,v,hv,rfl⟩:=Rw.mh e (λ_=>rfl) (by omega) (sh:=af) (λq=>q.Code) (j:=1) (λ_=>rfl) (i:=(p:Int)) (by omega) (by omega) (K:=λv=>v=q.Code) λl a=>by grind
  refine ⟨n,q.Code,?_,d⟩;cases dH with
  | none=>exact hv
  | some _=>exact λ_=>hv
theorem nT (k:RM h b x y c s) {i:Nat} {j:Int} (hi:i<c.labels.length) (d:0<=j/\j<c.labels.length) {Q:Bool->Hp->Prop} (a:Q (fl c.labels (i:Int) j) h):Oy prog (some ⟨b,0,none⟩) (i:Int) j Q h:=by
 have e:j=((j.toNat:Nat):Int):=by omega
 rw [e] at a ⊢;exact Zc k hi (by omega) a
theorem uA (k:RM h b x y c s) {p i:Int} (hi:0<=i) {Q:Bool->Hp->Prop} (a:∀r,(r=true↔rn c s p i.toNat)->Q r h):OD prog (some ⟨b,0,none⟩) p i Q h:=by
 have e:i=((i.toNat:Nat):Int):=by omega
 have:=EA k (p:=p) (i:=i.toNat) a;grind
theorem QR (k:RM h b x y c s) (hS:lK s) {p:Nat} {z:ai} {u:eu} (hz:s.procs[p]? =some z) (hu:c.procs[p]? =some u) {Q:Bool->Hp->Prop}
  (H:∀r,(r=true↔qO c s (λ(i:Nat) q=>fl c.labels (i:Int) q=true) z u)->Q r h):R3 prog (some ⟨b,0,none⟩) (p:Int) Q h:=by
 unfold R3;obtain ⟨w,t,e4⟩:=k.tF hz (Z:=λ_=>True);obtain ⟨q,f7,e5,b8⟩:=k.vM hu;obtain ⟨is,e6,f4⟩:=f7.2;have e3:q.Code.len=u.code.length:=by rw [<-f4,List.length_map];exact e6.1
 obtain ⟨ls,b9,b6⟩:=t.ae;have e9:w.cC.len=ls.length:=b9.1;have f0:=b6.len;obtain ⟨⟨i5,i6⟩, -, -, -,⟨i7,i9⟩,e2⟩:=EM k.ok;obtain ⟨⟨f6,j1⟩,j0, -⟩:=e2 u (List.mem_of_getElem? hu);have b3:aR h (Addr.add (Addr.add ⟨b,0,none⟩ 0) 6) (ba (af.enc x.aC)):=k.box.fw (off:=6) (n:=1) rfl;have b4:aR h (Addr.add (Addr.add ⟨b,0,none⟩ 7) 2) (ba (af.enc y.aC)):=k.box.fw (off:=9) (n:=1) rfl;have k5:=k.gP.2.2 z (List.mem_of_getElem? hz);have i4:=hS.ae z (List.mem_of_getElem? hz);have ht:=k.gP.1.1;have g6:y.di=s.tick:=k.st.tick;refine aP (eB (sh:=af) y.aC b4 (e4 ?_));refine aP (eB (sh:=af) x.aC b3 (e5 ?_));rw [t.state,t.pc,t.ag,t.timer,t.cp,t.bK,e9,f0];refine aE (aE (aP (mE (sh:=af) x.aC b3 ?_)));refine ⟨λ_=>(b8 (dH:=none) (K:=λ_=>True) trivial).1,(b8 (dH:=some _) ?_).2⟩;rw [e3];refine aE (aE λy4 h7=> ?_);have a4:y4=true↔¬((0<=z.state/\z.state<=6)/\(0<=z.pc/\z.pc<=u.code.length)/\(0<=z.ag/\z.ag<z.ae.length)):=by subst h7;simp only [Bool.or_eq_true,decide_eq_true_eq];omega
 dsimp only;by_cases I:y4=true
 ·rw [if_pos I];exact H _ ⟨λe=>(by cases e),λa=>absurd ⟨a.1,a.2.1,a.2.2.1⟩ (a4.1 I)⟩
 rw [if_neg I];obtain ⟨c1,c2,c3⟩:=Classical.not_not.1 λd=>I (a4.2 d);refine aP (eB (sh:=ab .i64) y.di (k.box.fw (off:=7) (n:=1) rfl) ?_);rw [g6,aI];refine OG (Pl λr0 f8=> ?_);refine ju (λr=>r=true↔0<=z.cp/\z.cp<=s.tick+1099511627776) false (λ_ B=>OG (Pl B)) λr1 f9=>λy5 h8=>λy6 h9=> ?_;have a5:y5=true↔¬((0<=z.timer/\z.timer<=s.tick+1099511627776)/\(0<=z.cp/\z.cp<=s.tick+1099511627776)):=by subst h8;exact KI (y:= !r0) (by rw [<-f8];simp) f9
 have a6:y6=true↔¬(((0<=z.timer/\z.timer<=s.tick+1099511627776)/\(0<=z.cp/\z.cp<=s.tick+1099511627776))/\(0<z.cp↔z.state=4)):=by subst h9;refine sZ a5 λ_=> ?_;by_cases o:0<z.cp<;>by_cases f:z.state=4<;>simp [o,f]
 dsimp only;by_cases J:y6=true
 ·rw [if_pos J];exact H _ ⟨λe=>(by cases e),λa=>absurd ⟨⟨a.2.2.2.1,a.2.2.2.2.1⟩,a.2.2.2.2.2.1⟩ (a6.1 J)⟩
 rw [if_neg J];obtain ⟨⟨c4,c5⟩,c6⟩:=Classical.not_not.1 λd=>J (a6.2 d);refine aE λy8 i1=> ?_;have a8:y8=true↔¬(5<=z.state->z.timer=0/\z.bK=false):=by subst i1;by_cases g:5<=z.state<;>by_cases f:z.timer=0<;>cases z.bK<;>simp [g,f]
 dsimp only;by_cases M:y8=true
 ·rw [if_pos M];exact H _ ⟨λe=>(by cases e),λa=>absurd a.2.2.2.2.2.2.1 (a8.1 M)⟩
 rw [if_neg M];have c7:=Classical.not_not.1 λd=>M (a8.2 d);have hP:qO c s (λ(i:Nat) q=>fl c.labels (i:Int) q=true) z u↔∀(k:Nat) l,z.ae[k]? =some l->vr c s z u k l:=
  ⟨λa=>a.2.2.2.2.2.2.2,λa=>⟨c1,c2,c3,c4,c5,c6,c7,a⟩⟩
 have k2:u.part=((u.part.toNat:Nat):Int):=by omega
 refine jv (n:=ls.length) (by omega) (by omega) (λj N=>N=h/\∀(k:Nat) l,k<j->z.ae[k]? =some l->vr c s z u k l) ⟨rfl,λ_ _ hj=>by omega⟩ ?_ ?_
 ·rintro j hj h2 ⟨rfl,hI⟩ K hK;rw [show z.ae.length=w.cC.len by omega];refine kV (sh:=bD) b9 λL P=> ?_;have P:ls[j]? =some L:=P;obtain ⟨l,T,F⟩:=b6.get P;have g8:L.dm.len=l.values.length:=F.values.1;obtain ⟨D,d6,d5⟩:=F.waiters;have d0:L.bB.len=D.length:=d6.1;have k4:l.waiters.length=D.length:=by rw [<-d5,List.length_map]
  have k3:=(i4.2 l (List.mem_of_getElem? T)).waiters;have G:¬vr c s z u j l->Q false h2:=λd=>H _ ⟨λe=>(by cases e),λa=>absurd (hP.1 a j l T) d⟩;rw [F.taken,F.dropped,g8,d0];refine OF (Pq λr2 g0=> ?_);refine ju (λr=>r=true↔fF l.dropped) false (λ_ B=>OF (Pq B)) λr3 g5=>λy9 i2=> ?_;have a9:y9=true↔¬(fF l.taken/\fF l.dropped):=by subst i2;exact KI (y:= !r2) (by rw [<-g0];simp) g5
  dsimp only;by_cases o:y9=true
  ·rw [if_pos o];exact G λa=>a9.1 o ⟨a.1,a.2.1⟩
  rw [if_neg o];obtain ⟨d1,d2⟩:=Classical.not_not.1 λd=>o (a9.2 d);refine aP (eB (sh:=af) x.bg (k.box.fw (off:=0) (n:=1) rfl) ?_);have e8:x.bg.len=c.labels.length:=k.cfg.labels.1;rw [e8];refine ju (λr=>r=fl c.labels (j:Int) u.part) false (λe B=> ?_) λr4 c8=>λk6 g9=>aE (aE λd8 h1=> ?_)
  ·have:=of_decide_eq_true e;exact zov (nT k (by omega) (by omega) (B _ rfl))
  have b0:d8=true↔¬(j<c.labels.length->lL l->fl c.labels (j:Int) u.part=true):=by
   subst h1 g9;have hU:((decide (((l.values.length:Nat):Int)>0) || decide (l.taken>0)) || decide (l.dropped>0))=true↔lL l:=by unfold lL;simp only [Bool.or_eq_true,decide_eq_true_eq,ne_eq,<-List.length_eq_zero_iff];omega
   rw [Bool.and_eq_true,Bool.and_eq_true,hU,decide_eq_true_eq];constructor
   ·rintro ⟨⟨o,f⟩,A⟩ a;have e:=c8 (decide_eq_true o);rw [e,a (by omega) A] at f;cases f
   ·intro d;by_cases o:j<c.labels.length
    ·by_cases f:lL l
     ·refine ⟨⟨by omega,?_⟩,f⟩;rw [c8 (fT)];cases hf:fl c.labels (j:Int) u.part with
      | true=>exact absurd (λ_ _=>hf) d
      | false=>rfl
     ·exact absurd (λ_ e=>absurd e f) d
    ·exact absurd (λe=>absurd e o) d
  dsimp only;by_cases f:d8=true
  ·rw [if_pos f];exact G λa=>b0.1 f a.2.2.1
  rw [if_neg f];have d3:=Classical.not_not.1 λd=>f (b0.2 d);refine λk7 h4=>aP (mE (sh:=ab .i64) x.gy (k.box.fw (off:=3) (n:=1) rfl) (aE λd9 h5=> ?_));have b1:d9=true↔¬(l.waiters≠ []->(j:Int)=u.part/\z.state<5/\c.lane<=l.values.length):=by subst h5 h4;rw [k.cfg.lane];simp only [Bool.or_eq_true,Bool.and_eq_true,decide_eq_true_eq,bne_iff_ne,ne_eq,<-List.length_eq_zero_iff];omega
  dsimp only;by_cases A:d9=true
  ·rw [if_pos A];exact G λa=>b1.1 A a.2.2.2.1
  rw [if_neg A];have d4:=Classical.not_not.1 λd=>A (b1.2 d);refine jv (n:=D.length) (by omega) (by omega) (λm N=>N=h2/\∀(k:Nat) w,k<m->l.waiters[k]? =some w->(∀i:Nat,(i:Int)=u.part->rn c s w.proc i)/\qE s w.proc λz=>z.state=2) ⟨rfl,λ_ _ hj=>by omega⟩ ?_ ?_
  ·rintro m hm h3 ⟨rfl,O⟩ K2 e1;rw [show D.length=L.bB.len from d0.symm];refine kV (sh:=aF) d6 λW R=> ?_;have R:D[m]? =some W:=R;have b5:l.waiters[m]? =some (pB W):=by rw [<-d5,List.getElem?_map,R];rfl
   refine Sx (uA k f6 λr5 V=> ?_);refine aP (mE (sh:=af) y.aC b4 ?_);obtain ⟨pp,c0,b7⟩:=k.st.procs;have k1:y.aC.len=pp.length:=c0.1;have j2:=b7.len;have k0:=k.gP.1.2.2;refine Rw.pf c0 (λ_=>rfl) (by omega) (sh:=ab .i64) (λq=>q.State) (λ_=>rfl) (0:Int) (λe=> ?_) λ(v:Int) hv=>λe0 h6=> ?_
   ·obtain ⟨⟨h0,u',X,_⟩,_⟩:=V.1 (by simpa using e);have:=(List.getElem?_eq_some_iff.1 X).1;omega
   have b2:e0=true↔¬(rn c s W.bT u.part.toNat/\qE s W.bT λz=>z.state=2):=by subst h6;refine sZ (y:= !r5) (by rw [<-V];simp) λhA=> ?_;have:=V.2 hA;rw [this] at hv;obtain ⟨u',X,rfl⟩:=hv rfl;obtain ⟨v',c9,g7⟩:=b7.get X;rw [bne_iff_ne,g7.state];refine not_congr ⟨λe=>⟨_,c9,e⟩,λ⟨z1,d7,i3⟩=> ?_⟩;rw [c9] at d7;cases d7;exact i3
   dsimp only;by_cases E:e0=true
   ·rw [if_pos E];refine G λa=>b2.1 E ?_;have:=a.2.2.2.2 _ (List.mem_of_getElem? b5);exact ⟨this.1 _ (by omega),this.2⟩
   ·rw [if_neg E];obtain ⟨f1,f2⟩:=Classical.not_not.1 λd=>E (b2.2 d);refine e1 _ ⟨rfl,λC w' S Y=> ?_⟩;by_cases e7:C<m
    ·exact O C w' e7 Y
    ·have:C=m:=by omega
     subst this;rw [b5] at Y;cases Y;refine ⟨λi hi=> ?_,f2⟩;have:i=u.part.toNat:=by omega
     rw [this];exact f1
  ·rintro h3 ⟨rfl,O⟩;refine hK _ ⟨rfl,λm l' hm U=> ?_⟩;by_cases f5:m<j
   ·exact hI m l' f5 U
   ·have:m=j:=by omega
    subst this;rw [T] at U;cases U;refine ⟨d1,d2,d3,d4,λw t=> ?_⟩;obtain ⟨C,S⟩:=List.getElem?_of_mem t;exact O C w (by have:=(List.getElem?_eq_some_iff.1 S).1;omega) S
 grind
end
section
variable {h:Hp}
theorem Xi {n:dF} {len ak:Int} (a:(j8 n len ak).1=0) (g:n.op=24):(0<=n.b/\n.b<8)/\(0<=n.c/\n.c<8):=by
 have f:jh n.op=(true,true,true,false):=by rw [g];decide
 unfold j8 at a;rw [f] at a;have i:∀m,fg true m=0->0<=m/\m<8:=λm e=>by
  unfold fg at e;rw [iT] at e;by_cases d:m<0\/8<=m
  ·rw [if_pos d] at e;cases e
  ·omega
 grind
theorem U0 {core:cQ} {code:Sl} {a:List aZ} {ak:Int} (b:nv h code a) (j:a.length<=256) (d:ak<=8) (hv:∀n∈a.map bE,(j8 n a.length ak).1=0) {Q:aZ->Bool->Hp->Prop}
  (g:∀c r2,(r2=true/\(if 0<=core.PC then (a.map bE)[core.PC.toNat]? else none)=some (bE c))\/(r2=false/\(if 0<=core.PC then (a.map bE)[core.PC.toNat]? else none)=none)->Q c r2 h):
  Xw prog core code Q h:=by
 unfold Xw;have e:code.len=a.length:=b.1;refine aE ?_;by_cases hp:0<=core.PC/\core.PC<(a.length:Int)
 ·rw [if_neg (by simp;omega)];refine Rs.get (sh:=aU) b (λ_=>rfl) (by omega) hp.1 hp.2 λi hi=> ?_;refine zmi (KV ⟨⟨trivial,trivial⟩,?_⟩);have f:bE i∈a.map bE:=List.mem_map.2 ⟨i,List.mem_of_getElem? hi,rfl⟩;have:=aaG d (hv _ f);rw [e,this];refine g _ _ (.inl ⟨rfl,?_⟩);rw [if_pos hp.1,List.getElem?_map,hi];rfl
 grind
theorem CP {c:Type} (f:c->Nat) (M:Nat):∀l:List c,(∀x∈l,f x<=M)->(l.map f).sum<=l.length*M
 | [],_=>by simp
 | a::l,b=>by have e:=b a (List.mem_cons_self ..);have g:=CP f M l λx d=>b x (List.mem_cons_of_mem _ d);rw [List.map_cons,List.sum_cons,List.length_cons,Nat.succ_mul];omega
variable {b:Nat} {x:aw} {y:aB} {c:bd} {s:fe}
theorem RM.uv (k:RM h b x y c s) {i:Nat} {z:cR} (g:s.parts[i]? =some z):∃w,gR h w z/\∀ {K:Sl->Prop},K w.bI->(aG y.bt.base y.bt.len (i:Int)/\aD none af h (Addr.add (sat y.bt.base 6 (i:Int)) 5) K):=by obtain ⟨n,d,a⟩:=k.st.parts;obtain ⟨w,e,f⟩:=a.get' g;have m:=(List.getElem?_eq_some_iff.1 e).1;refine ⟨w,f,λ{K} j=> ?_⟩;refine Rw.mh d (λ_=>rfl) (by omega) (sh:=af) (λq=>q.bI) (λ_=>rfl) (by omega) (by omega) λq l=> ?_;grind
theorem RM.vN (k:RM h b x y c s) {p:Nat} {z:ai} (g:s.procs[p]? =some z):∃w,dV h w z/\∀ {K:Sl->Prop},K w.cC->(aG y.aC.base y.aC.len (p:Int)/\aD none af h (Addr.add (sat y.aC.base 15 (p:Int)) 14) K):=by obtain ⟨m,d,a⟩:=k.st.procs;obtain ⟨w,e,f⟩:=a.get' g;have l:=(List.getElem?_eq_some_iff.1 e).1;refine ⟨w,f,λ{K} i=> ?_⟩;refine Rw.mh d (λ_=>rfl) (by omega) (sh:=af) (λq=>q.cC) (λ_=>rfl) (by omega) (by omega) λq j=> ?_;grind
def Ft (u:eu) (z:ai) (k:Nat):Prop:=∃n,ff u z.pc=some n/\n.op=29/\n.kf=(k:Int)
def Bk (u:eu) (z:ai) (r:Nat) (v:Int):Prop:=∃n,ff u z.pc=some n/\n.op=24/\z.aO[n.b.toNat]? =some (r:Int)/\z.aO[n.c.toNat]? =some v
theorem QS (p:Int) (q:List Int) {n:Nat} {v:Int} (hv:q[n]? =some v):(q.take (n+1)).countP (λz=>decide (z=p))=(q.take n).countP (λz=>decide (z=p))+if v=p then 1 else 0:=by rw [List.take_add_one,hv,List.countP_append];simp
theorem aaX (p:Int) (q:List ly) {n:Nat} {v:ly} (hv:q[n]? =some v):(q.take (n+1)).countP (λz=>decide (z.proc=p))=(q.take n).countP (λz=>decide (z.proc=p))+if v.proc=p then 1 else 0:=by rw [List.take_add_one,hv,List.countP_append];simp
theorem NU {a:Type} (f:a->Nat) (l:List a) {n:Nat} {v:a} (hv:l[n]? =some v):((l.take (n+1)).map f).sum=((l.take n).map f).sum+f v:=by rw [List.take_add_one,hv];simp
theorem aaY (k:RM h b x y c s) (hS:lK s) {p i:Nat} {z:ai} {u:eu} (hz:s.procs[p]? =some z) (hu:c.procs[p]? =some u) (hi:u.part=(i:Int)) {Q:Bool->Hp->Prop}
  (o:∀r,(r=true↔qR s p i z u)->Q r h):Sr prog (some ⟨b,0,none⟩) (p:Int) Q h:=by
 unfold Sr;obtain ⟨w,hw,h0⟩:=k.tF hz (Z:=λ_=>True);obtain ⟨q,l3,h5,g9⟩:=k.vM hu;obtain ⟨is,k9,c4⟩:=l3.2;obtain ⟨ls,h9,e1⟩:=hw.ae;have h7:w.cC.len=ls.length:=h9.1;have m8:=e1.len;obtain ⟨⟨m2,m3⟩,⟨m4,j1⟩, -, -,⟨m5,m6⟩,f8⟩:=EM k.ok;obtain ⟨⟨n1,n2⟩,f7,f9⟩:=f8 u (List.mem_of_getElem? hu);have d8:aR h (Addr.add (Addr.add ⟨b,0,none⟩ 0) 6) (ba (af.enc x.aC)):=k.box.fw (off:=6) (n:=1) rfl;have b9:aR h (Addr.add (Addr.add ⟨b,0,none⟩ 7) 2) (ba (af.enc y.aC)):=k.box.fw (off:=9) (n:=1) rfl;have d7:aR h (Addr.add (Addr.add ⟨b,0,none⟩ 7) 1) (ba (af.enc y.bt)):=k.box.fw (off:=8) (n:=1) rfl;have o5:=k.gP.2.2 z (List.mem_of_getElem? hz);have o9:=hS.ae z (List.mem_of_getElem? hz);obtain ⟨-,p1,p2⟩:=k.gP.1;have n3:=(List.getElem?_eq_some_iff.1 hz).1;obtain ⟨D,b1⟩:∃D,s.parts[i]? =some D:=⟨_,List.getElem?_eq_getElem (by omega)⟩;obtain ⟨o6,o7, -⟩:=k.gP.2.1 D (List.mem_of_getElem? b1);obtain ⟨-, -, -,i2⟩:=hS.log D (List.mem_of_getElem? b1);obtain ⟨wp,l8,e3⟩:=k.uv b1;obtain ⟨us,i4,f6⟩:=l8.ah;have n8:wp.bI.len=us.length:=i4.1;have o0:=f6.len;rw [hi] at h5;refine aP (eB (sh:=af) y.aC b9 (h0 ?_));refine aP (eB (sh:=af) x.aC d8 (h5 ?_));refine aP (eB (sh:=af) x.aC d8 (g9 ?_));refine zpg ?_;unfold ziu;refine aP (eB (sh:=af) y.aC b9 (h0 ?_));refine ⟨⟨d8,?_,trivial⟩,?_⟩
 ·obtain ⟨_,v,hv,rfl⟩:=g9 (dH:=none) (K:=λv=>v=q.Code) rfl;exact hv
 refine zzp (c:=⟨w.PC,w.cD,w.cE,w.cF,w.cG,w.cH,w.cI,w.cJ,w.cK⟩) (code:=q.Code) (U0 (ak:=c.ak) k9 (by rw [<-c4,List.length_map] at f7;exact f7) j1 ?_ λd r2 hr=> ?_)
 ·rw [c4];have e:is.length=u.code.length:=by rw [<-c4,List.length_map]
  rw [e];exact f9
 have hr:(r2=true/\ff u z.pc=some (bE d))\/(r2=false/\ff u z.pc=none):=by unfold ff;rw [<-c4,<-hw.pc];exact hr
 clear f9;have l5:d.Op=24->r2=true->(0<=d.B/\d.B<8)/\(0<=d.C/\d.C<8):=λho e=>by
  rcases hr with ⟨_,a⟩ | ⟨f,_⟩
  ·have hm:bE d∈u.code:=by
    unfold ff at a;by_cases h1:0<=z.pc
    ·rw [if_pos h1] at a;exact List.mem_of_getElem? a
    ·rw [if_neg h1] at a;cases a
   exact Xi ((f8 u (List.mem_of_getElem? hu)).2.2 _ hm) ho
  ·rw [e] at f;cases f
 refine ri (n:=us.length) (by omega) (λj (v:Int) F=>F=h/\v=(((D.ah.take j).map λq=>q.countP (λz=>decide (z=(p:Int)))).sum:Nat)/\∀(J:Nat) q,J<j->D.ah[J]? =some q->(p:Int)∈q->Ft u z J) ⟨rfl,by simp,λ_ _ hj=>by omega⟩ ?_;rintro j hj v1 h1 ⟨rfl,rfl,hI⟩ K hK;refine aP (eB (sh:=af) y.bt d7 (e3 ?_));by_cases e4:j<us.length
 ·rw [if_pos (fT)];have e9:=List.getElem?_eq_getElem e4;generalize us[j]=ql at e9;obtain ⟨H,c5,i3⟩:=f6.get e9;have h6:∀ {K':Sl->Prop},K' ql->(aG wp.bI.base wp.bI.len (j:Int)/\aD none af h1 (sat wp.bI.base 1 (j:Int)) K'):=λ{K'} hk=>by refine kV (sh:=af) i4 λv hv=> ?_;have hv:us[j]? =some v:=hv;rw [e9] at hv;cases hv;exact hk
  have n5:ql.len=H.length:=i3.1;have n4:=i2 H (List.mem_of_getElem? c5);have e8:=CP (λq:List Int=>q.countP (λz=>decide (z=(p:Int)))) 140737488355328 (D.ah.take j) λq o=>Nat.le_trans List.countP_le_length (i2 q (List.mem_of_mem_take o));have b4:(D.ah.take j).length<=8:=by rw [List.length_take];omega
  have l1:=Nat.mul_le_mul_right 140737488355328 b4;have X:=NU (λq:List Int=>q.countP (λz=>decide (z=(p:Int)))) D.ah c5;generalize ((D.ah.take j).map λq=>q.countP (λz=>decide (z=(p:Int)))).sum=S at e8 X;refine ri (n:=H.length) (by omega) (λn (v:Int) F=>F=h1/\v=((S+(H.take n).countP (λz=>decide (z=(p:Int))):Nat):Int)/\((p:Int)∈H.take n->Ft u z j)) ⟨rfl,by simp,λe=>by simp at e⟩ ?_;rintro n a v2 h2 ⟨rfl,rfl,T⟩ K2 d4;refine aP (eB (sh:=af) y.bt d7 (e3 (h6 ?_)));by_cases a9:n<H.length
  ·rw [if_pos (fT)];have b7:=List.getElem?_eq_getElem a9;generalize H[n]=v at b7;have a8:=QS (p:Int) H b7;have k3:(H.take n).countP (λz=>decide (z=(p:Int)))<=n:=Nat.le_trans List.countP_le_length (by rw [List.length_take];omega);refine bH.intro (λ(v2:Int) F=>F=h2/\v2=((S+(H.take (n+1)).countP (λz=>decide (z=(p:Int))):Nat):Int)/\((p:Int)∈H.take (n+1)->Ft u z j)) ?_ ?_
   ·refine aP (eB (sh:=af) y.bt d7 (e3 (h6 ?_)));refine kV (sh:=ab .i64) i3 λ(v':Int) c7=> ?_;have c7:H[n]? =some v':=c7;rw [b7] at c7;cases c7;by_cases G:v=(p:Int)
    ·rw [if_neg (by simp [G])];refine aE λy1 f4=> ?_;have a1:y1=true↔¬Ft u z j:=by
      subst f4;unfold Ft;rcases hr with ⟨f,a⟩ | ⟨f,a⟩
      ·rw [f,a];simp only [Bool.not_true,Bool.false_or,Bool.or_eq_true,bne_iff_ne,ne_eq];constructor
       ·rintro g ⟨m,e,N,t⟩;cases e;rcases g with g | g
        ·exact g N
        ·exact g t
       ·intro a;refine Classical.byContradiction λb3=>a ⟨_,rfl,?_,?_⟩
        ·exact Classical.byContradiction λO=>b3 (.inl O)
        ·exact Classical.byContradiction λO=>b3 (.inr O)
      ·rw [f,a];simp
     dsimp only;by_cases d1:y1=true
     ·rw [if_pos d1];refine o _ ⟨λe=>(by cases e),λhh=>absurd (hh.1 D b1 j H c5 ?_) (a1.1 d1)⟩;rw [<-G];exact List.mem_of_getElem? b7
     ·rw [if_neg d1];rw [if_pos G] at a8;rw [aI];exact ⟨rfl,by omega,λ_=>Classical.not_not.1 λa=>d1 (a1.2 a)⟩
    ·rw [if_pos (by simpa using G)];rw [if_neg G] at a8;refine ⟨rfl,by omega,λe=>T ?_⟩;rw [List.take_add_one,b7] at e;rcases List.mem_append.1 e with e | e
     ·exact e
     ·have:(p:Int)=v:=by simpa using e
      exact absurd this.symm G
   ·rintro v3 h3 ⟨rfl,rfl,d3⟩;exact d4 a9 _ _ ⟨rfl,rfl,d3⟩
  ·rw [if_neg (λe=>a9 (by have:=of_decide_eq_true e;omega))];rw [List.take_of_length_le (by omega)] at T ⊢;refine hK e4 _ _ ⟨rfl,by rw [X],λJ q' m7 e7 hm=> ?_⟩;by_cases l0:J<j
   ·exact hI J q' l0 e7 hm
   ·have:J=j:=by omega
    subst this;rw [c5] at e7;cases e7;exact T hm
 rw [if_neg (λe=>e4 (by have:=of_decide_eq_true e;omega))];rw [List.take_of_length_le (by omega)];have j2:∀(J:Nat) q,D.ah[J]? =some q->(p:Int)∈q->Ft u z J:=λJ q o hm=>hI J q (by have:=(List.getElem?_eq_some_iff.1 o).1;omega) o hm;rw [show ((D.ah.map λq=>q.countP (λz=>decide (z=(p:Int)))).sum)=gJ (p:Int) D from rfl];generalize g0:gJ (p:Int) D=CQ;have k5:∀z∈s.procs,((z.ae[i]?).map (jo (p:Int))).getD 0<=140737488355328:=λz hz=>by
  cases e:z.ae[i]? with
  | none=>exact Nat.zero_le _
  | some l=>exact Nat.le_trans List.countP_le_length (((hS.ae z hz).2 l (List.mem_of_getElem? e)).waiters)
 have o4:y.aC.len=s.procs.length:=by obtain ⟨qs,l4,k1⟩:=k.st.procs;rw [<-k1.len];exact l4.1
 refine ri (n:=s.procs.length) (by omega) (λj (v:Int) F=>F=h1/\v=(((s.procs.take j).map λz=>((z.ae[i]?).map (jo (p:Int))).getD 0).sum:Nat)/\
  ∀(r:Nat) M,r<j->s.procs[r]? =some M->∀l,M.ae[i]? =some l->∀w∈l.waiters,w.proc=(p:Int)->Bk u z r w.value) ⟨rfl,by simp,λ_ _ hj=>by omega⟩ ?_
 rintro r n7 v3 h3 ⟨rfl,rfl,hL⟩ K3 i9;refine aP (eB (sh:=af) y.aC b9 ?_);by_cases e5:r<s.procs.length
 ·rw [if_pos (fT)];have b2:=List.getElem?_eq_getElem e5;generalize s.procs[r]=zr at b2;obtain ⟨wr,l9,k6⟩:=k.vN b2;have o8:=k.gP.2.2 zr (List.mem_of_getElem? b2);have m1:=hS.ae zr (List.mem_of_getElem? b2);obtain ⟨lr,h8,f5⟩:=l9.ae;have m9:wr.cC.len=lr.length:=h8.1;have n0:=f5.len;refine aP (eB (sh:=af) y.aC b9 (k6 ?_));refine Rw.mh h8 (λ_=>rfl) (by omega) (sh:=af) (λq=>q.bB) (λ_=>rfl) (by omega) (by omega) λL d5=> ?_;have d5:lr[i]? =some L:=d5;obtain ⟨l,U,b5⟩:=f5.get d5;obtain ⟨ws,f0,i6⟩:=b5.waiters;have o2:L.bB.len=ws.length:=f0.1;have o3:l.waiters.length=ws.length:=by rw [<-i6,List.length_map]
  have o1:=(m1.2 l (List.mem_of_getElem? U)).waiters;have e8:=CP (λz:ai=>((z.ae[i]?).map (jo (p:Int))).getD 0) 140737488355328 (s.procs.take r) λz hz=>k5 z (List.mem_of_mem_take hz);have b4:(s.procs.take r).length<=32:=by rw [List.length_take];omega
  have l1:=Nat.mul_le_mul_right 140737488355328 b4;have X:=NU (λz:ai=>((z.ae[i]?).map (jo (p:Int))).getD 0) s.procs b2;rw [U] at X;have X:((s.procs.take (r+1)).map λz:ai=>((z.ae[i]?).map (jo (p:Int))).getD 0).sum=((s.procs.take r).map λz:ai=>((z.ae[i]?).map (jo (p:Int))).getD 0).sum+l.waiters.countP (λz=>decide (z.proc=(p:Int))):=X;generalize ((s.procs.take r).map λz:ai=>((z.ae[i]?).map (jo (p:Int))).getD 0).sum=S at e8 X;refine ri (n:=ws.length) (by omega) (λn (v:Int) F=>F=h3/\v=((S+(l.waiters.take n).countP (λz=>decide (z.proc=(p:Int))):Nat):Int)/\∀w∈l.waiters.take n,w.proc=(p:Int)->Bk u z r w.value) ⟨rfl,by simp,λw e=>by simp at e⟩ ?_;rintro n a v2 h2 ⟨rfl,rfl,T⟩ K2 d4;by_cases a9:n<ws.length
  ·rw [if_pos (fT)];have d0:=List.getElem?_eq_getElem a9;generalize ws[n]=W at d0;have c2:l.waiters[n]? =some (pB W):=by rw [<-i6,List.getElem?_map,d0];rfl
   have a8:=aaX (p:Int) l.waiters c2;have k3:(l.waiters.take n).countP (λz=>decide (z.proc=(p:Int)))<=n:=Nat.le_trans List.countP_le_length (by rw [List.length_take];omega);refine bH.intro (λ(v2:Int) F=>F=h2/\v2=((S+(l.waiters.take (n+1)).countP (λz=>decide (z.proc=(p:Int))):Nat):Int)/\∀w∈l.waiters.take (n+1),w.proc=(p:Int)->Bk u z r w.value) ?_ ?_
   ·refine Rw.mh f0 (λ_=>rfl) (by omega) (sh:=ab .i64) (λq=>q.bT) (λ_=>rfl) (by omega) (by omega) λW' c1=> ?_;have c1:ws[n]? =some W':=c1;rw [d0] at c1;cases c1;by_cases G:W.bT=(p:Int)
    ·rw [if_neg (by simp [G])];have a8:_=_+1:=a8.trans (by rw [if_pos (show (pB W).proc=(p:Int) from G)]);have i5:∀ {dH:Bool} {K':Int->Prop},K' W.cS->((dH=true->(aG L.bB.base L.bB.len (n:Int)))/\aD (some dH) (ab .i64) h2 (Addr.add (sat L.bB.base 2 (n:Int)) 1) K'):=λ{dH} {K'} hk=>by
      obtain ⟨k8,v,hv,rfl⟩:=Rw.mh f0 (λ_=>rfl) (by omega) (sh:=ab .i64) (λq=>q.cS) (j:=1) (λ_=>rfl) (i:=(n:Int)) (by omega) (by omega) (K:=λ(v:Int)=>v=W.cS) λq o=>by have o:ws[n]? =some q:=o;rw [d0] at o;cases o;rfl
      exact ⟨λ_=>k8,_,λ_=>hv,hk⟩
     have g6:∀y2:Bool,(y2=true↔¬Bk u z r W.cS)->(if y2=true then Q false h2 else (λ(v2:Int) F=>F=h2/\v2=((S+(l.waiters.take (n+1)).countP (λz=>decide (z.proc=(p:Int))):Nat):Int)/\∀w∈l.waiters.take (n+1),w.proc=(p:Int)->Bk u z r w.value) (yw (((S+(l.waiters.take n).countP (λz=>decide (z.proc=(p:Int))):Nat):Int)+1)) h2):=λy2 a2=>by
      by_cases d2:y2=true
      ·rw [if_pos d2];exact o _ ⟨λe=>(by cases e),λhh=>absurd (hh.2.1 r zr b2 l U (pB W) (List.mem_of_getElem? c2) G) (a2.1 d2)⟩
      ·rw [if_neg d2,aI];refine ⟨rfl,by omega,λw hw1 Y=> ?_⟩;rw [List.take_add_one,c2] at hw1;rcases List.mem_append.1 hw1 with hw1 | hw1
       ·exact T w hw1 Y
       ·have:w=pB W:=by simpa using hw1
        rw [this];exact Classical.not_not.1 λa=>d2 (a2.2 a)
     refine λy0 i7=> ?_;by_cases R:r2=true/\d.Op=24
     ·obtain ⟨⟨b0,b8⟩,c0,c8⟩:=l5 R.2 R.1;have a:ff u z.pc=some (bE d):=by
       rcases hr with ⟨_,a⟩ | ⟨f,_⟩
       ·exact a
       ·rw [R.1] at f;cases f
      have c6:=hw.aO;have g7:z.aO[d.B.toNat]? =some (z.aO.getD d.B.toNat 0):=by
       have:d.B.toNat<z.aO.length:=by rw [<-c6];simp;omega
       rw [List.getElem?_eq_getElem this,List.getD_eq_getElem?_getD,List.getElem?_eq_getElem this];rfl
      have g8:z.aO[d.C.toNat]? =some (z.aO.getD d.C.toNat 0):=by
       have:d.C.toNat<z.aO.length:=by rw [<-c6];simp;omega
       rw [List.getElem?_eq_getElem this,List.getD_eq_getElem?_getD,List.getElem?_eq_getElem this];rfl
      refine ⟨λ_=>⟨b0,b8⟩,z.aO.getD d.B.toNat 0,λ_=> ?_,λy1 f4=>⟨λ_=>⟨c0,c8⟩,z.aO.getD d.C.toNat 0,λ_=> ?_,i5 λy2 m0=>g6 y2 ?_⟩⟩
      ·rw [<-c6];exact zk w (by omega)
      ·rw [<-c6];exact zk w (by omega)
      ·subst m0 f4 i7;rw [R.1,R.2];unfold Bk;rw [a];simp only [Bool.not_true,Bool.false_or,bne_self_eq_false,Bool.or_eq_true,bne_iff_ne,ne_eq];constructor
       ·rintro g ⟨m,e,N,t,E⟩;cases e;have t:z.aO[d.B.toNat]? =some (r:Int):=t;have E:z.aO[d.C.toNat]? =some W.cS:=E;rw [g7] at t;rw [g8] at E;rcases g with g | g
        ·exact g (Option.some.inj t)
        ·exact g (Option.some.inj E)
       ·intro k4;refine Classical.byContradiction λb3=>k4 ⟨_,rfl,R.2,?_,?_⟩
        ·show z.aO[d.B.toNat]? =_;rw [g7];congr 1;exact Classical.byContradiction λO=>b3 (.inl O)
        ·show z.aO[d.C.toNat]? =_;rw [g8];congr 1;exact Classical.byContradiction λO=>b3 (.inr O)
     ·have e0:y0=true:=by
       subst i7;cases e:r2 with
       | false=>rfl
       | true=>simp only [Bool.not_true,Bool.false_or,bne_iff_ne];exact λO=>R ⟨e,O⟩
      subst e0;refine ⟨λe=>(by cases e),0,λe=>(by cases e),aE ⟨λe=>(by cases e),0,λe=>(by cases e),i5 (aE (g6 _ ?_))⟩⟩;simp only [Bool.true_or,true_iff];rintro ⟨m,e,N, -⟩;rcases hr with ⟨f,a⟩ | ⟨f,a⟩
      ·rw [a] at e;cases e;exact R ⟨f,N⟩
      ·rw [a] at e;cases e
    ·rw [if_pos (by simpa using G)];have a8:_=_+0:=a8.trans (by rw [if_neg (show ¬(pB W).proc=(p:Int) from G)]);refine ⟨rfl,by omega,λw hw1 Y=> ?_⟩;rw [List.take_add_one,c2] at hw1;rcases List.mem_append.1 hw1 with hw1 | hw1
     ·exact T w hw1 Y
     ·have:w=pB W:=by simpa using hw1
      rw [this] at Y;exact absurd Y G
   ·rintro v3 h3 ⟨rfl,rfl,d3⟩;exact d4 a9 _ _ ⟨rfl,rfl,d3⟩
  ·rw [if_neg (λe=>a9 (by have:=of_decide_eq_true e;omega))];rw [List.take_of_length_le (by omega)] at T ⊢;refine i9 e5 _ _ ⟨rfl,by rw [X],λr' M n6 I l' P w hw1 Y=> ?_⟩;by_cases l6:r'<r
   ·exact hL r' M l6 I l' P w hw1 Y
   ·have:r'=r:=by omega
    subst this;rw [b2] at I;cases I;rw [U] at P;cases P;exact T w hw1 Y
 rw [if_neg (λe=>e5 (by have:=of_decide_eq_true e;omega))];rw [List.take_of_length_le (by omega)];have k0:∀(r:Nat) M,s.procs[r]? =some M->∀l,M.ae[i]? =some l->∀w∈l.waiters,w.proc=(p:Int)->Bk u z r w.value:=λr M I=>hL r M (by have:=(List.getElem?_eq_some_iff.1 I).1;omega) I;generalize k2:(s.procs.map λz=>((z.ae[i]?).map (jo (p:Int))).getD 0).sum=CL;have hP:qR s p i z u↔(CQ=if z.state=3 then 1 else 0)/\(CL=if z.state=2 then 1 else 0)/\(z.state=1->(∃n,ff u z.pc=some n/\n.op=25)/\(∀l∈z.ae,l.values=[])/\z.bK=false)/\(z.state=4->∃n,ff u z.pc=some n/\n.op=28):=by
  unfold qR;rw [k2];constructor
  ·rintro ⟨-, -,E,g4⟩;exact ⟨by rw [<-g0];exact E D b1,g4⟩
  ·rintro ⟨E,g4⟩;refine ⟨λM I=> ?_,k0,λM I=> ?_,g4⟩
   ·rw [b1] at I;cases I;exact j2
   ·rw [b1] at I;cases I;rw [g0];exact E
 rw [h7,hw.state,hw.bK];refine bq.intro (λsome_ j F=>F=h3/\0<=j/\j<=(ls.length:Int)/\(some_=true↔∃(i:Nat) (l:br),(i:Int)<j/\z.ae[i]? =some l/\l.values≠ [])) (λ_ j _=>(ls.length-j).toNat)
  ⟨rfl,by omega,by omega,⟨λe=>(by cases e),λ⟨i,l,hi,_⟩=>by omega⟩⟩ ?_
 rintro some_ j h4 ⟨rfl,j0,p0,d9⟩;by_cases l2:j<(ls.length:Int)
 ·rw [if_pos (fT),<-h7];refine Rw.pf h9 (λ_=>rfl) (by omega) (sh:=af) (λq=>q.dm) (λ_=>rfl) (⟨none,0,0⟩:Sl) (λ_=>⟨j0,by omega⟩) λV hV=>aE ?_;rw [aI];refine ⟨⟨rfl,by omega,by omega,?_⟩,by omega⟩;have b4:j.toNat<z.ae.length:=by omega
  have b6:=List.getElem?_eq_getElem b4;generalize z.ae[j.toNat]=l at b6;constructor
  ·intro e;cases hs:some_ with
   | true=>obtain ⟨i',l',N,t⟩:=d9.1 hs;exact ⟨i',l',by omega,t⟩
   | false=>rw [hs] at e hV;obtain ⟨L,d6,rfl⟩:=hV rfl;obtain ⟨l',P,b5⟩:=e1.get d6;rw [b6] at P;cases P;have c9:L.dm.len=l.values.length:=b5.values.1;refine ⟨j.toNat,l,by omega,b6,λf=> ?_⟩;rw [f] at c9;rw [Bool.false_or,c9] at e;simp at e
  ·rintro ⟨i',l',N,t,E⟩;by_cases k7:(i':Int)<j
   ·rw [d9.2 ⟨i',l',k7,t,E⟩];rfl
   ·have:i'=j.toNat:=by omega
    subst this;rw [b6] at t;cases t;cases hs:some_ with
    | true=>rfl
    | false=>rw [hs] at hV;obtain ⟨L,d6,rfl⟩:=hV rfl;obtain ⟨l',P,b5⟩:=e1.get d6;rw [b6] at P;cases P;have c9:L.dm.len=l.values.length:=b5.values.1;have:=List.length_pos_iff.2 E;rw [Bool.false_or,decide_eq_true_eq,c9];omega
 rw [if_neg (λe=>l2 (by have:=of_decide_eq_true e;omega))];have l7:some_=false↔∀l∈z.ae,l.values=[]:=by
  rw [<-Bool.not_eq_true,d9];constructor
  ·intro a l U;obtain ⟨i,hi⟩:=List.getElem?_of_mem U;exact Classical.byContradiction λe6=>a ⟨i,l,by have:=(List.getElem?_eq_some_iff.1 hi).1;omega,hi,e6⟩
  ·rintro hh ⟨i,l,_,U,e6⟩;exact e6 (hh l (List.mem_of_getElem? U))
 have i1:∀m:Int,(r2&&(d.Op==m))=true↔∃n,ff u z.pc=some n/\n.op=m:=λm=>by
  rcases hr with ⟨f,a⟩ | ⟨f,a⟩
  ·rw [f,a,Bool.true_and,beq_iff_eq];exact ⟨λe=>⟨_,rfl,e⟩,λ⟨n,e,g⟩=>by cases e;exact g⟩
  ·rw [f,a,Bool.false_and];exact ⟨λe=>(by cases e),λ⟨n,e,_⟩=>by cases e⟩
 have c3:∀(A B:Nat),(((CQ:Int)==(A:Int))&&((CL:Int)==(B:Int)))=true↔CQ=A/\CL=B:=λA B=>by rw [Bool.and_eq_true,beq_iff_eq,beq_iff_eq];omega
 by_cases s3:z.state=3
 ·rw [if_pos (by simpa using s3)];refine aE (o _ ?_);rw [hP,s3];refine (c3 1 0).trans ?_;simp
 rw [if_neg (by simpa using s3)];by_cases s2:z.state=2
 ·rw [if_pos (by simpa using s2)];refine aE (o _ ?_);rw [hP,s2];refine (c3 0 1).trans ?_;simp
 rw [if_neg (by simpa using s2)];by_cases s1:z.state=1
 ·rw [if_pos (by simpa using s1)];refine aE (aE (aE (aE (aE (o _ ?_)))));rw [hP,s1,Bool.and_assoc (_&&_) r2,Bool.and_eq_true,Bool.and_eq_true,Bool.and_eq_true,i1,Bool.not_eq_true',Bool.not_eq_true',l7];rw [show ((CQ:Int)==(0:Int)&&(CL:Int)==(0:Int))=true↔CQ=0/\CL=0 from c3 0 0];simp only [show ¬(1:Int)=3 by decide,show ¬(1:Int)=2 by decide,show ¬(1:Int)=4 by decide,if_false,false_implies,and_true,true_implies];constructor
  ·rintro ⟨⟨⟨⟨N,t⟩,E⟩,g4⟩,g5⟩;exact ⟨N,t,E,g4,g5⟩
  ·rintro ⟨N,t,E,g4,g5⟩;exact ⟨⟨⟨⟨N,t⟩,E⟩,g4⟩,g5⟩
 rw [if_neg (by simpa using s1)];by_cases s4:z.state=4
 ·rw [if_pos (by simpa using s4)];refine aE (aE (aE (o _ ?_)));rw [hP,s4,Bool.and_assoc (_&&_) r2,Bool.and_eq_true,i1];rw [show ((CQ:Int)==(0:Int)&&(CL:Int)==(0:Int))=true↔CQ=0/\CL=0 from c3 0 0];simp only [show ¬(4:Int)=3 by decide,show ¬(4:Int)=2 by decide,show ¬(4:Int)=1 by decide,if_false,false_implies,true_and,true_implies,and_assoc]
 rw [if_neg (by simpa using s4)];refine aE (o _ ?_);grind
end
theorem qL.uniq {c:bd} {s:fe} {e g:Int} (h:qL c s e) (i:qL c s g):e=g:=by
 rcases h with ⟨d,rfl⟩ | ⟨d,j⟩
 ·rcases i with ⟨_,rfl⟩ | ⟨f,_⟩
  ·rfl
  ·exact absurd f d
 ·rcases i with ⟨f,_⟩ | ⟨_,k⟩
  ·exact absurd d f
  ·rcases j with ⟨rfl,a⟩ | ⟨rfl,a⟩<;>rcases k with ⟨rfl,b⟩ | ⟨rfl,b⟩
   ·rfl
   ·exact absurd a b
   ·exact absurd b a
   ·rfl
theorem fb.rows {d:Type} {h:Hp} {b:Nat} {a:List Value} {sz:Nat} {enc:d->List Value} (k:fb h b a) (c:List d) {n m:Nat} (e:a=c.flatMap enc) (g:n=c.length) (f:∀x,(enc x).length=sz):Rw h sz enc ⟨some ⟨b,0,none⟩,n,m⟩ c:=by refine ⟨g,by rw [iW f],.inr ⟨_,rfl,?_⟩⟩;refine k.fw (off:=0) (n:=a.length) ?_;rw [List.drop_zero,List.take_length,e]
end Lf
namespace Lf
open Go Go.ChangeShapes Go.WideShapes Go.ChangeAt Go.RowKit
def whole (W:World):Hp:=λb=>W.heap[b]?
theorem S0 (W:World):Sub (whole W) W:=λ_ _ e=>e
theorem aaZ (W:World) (a:Addr):dh (whole W) a=W.cell? a:=rfl
theorem Ze {W a:World} {b:Hp} (c:whole W<=b) (st:Step (whole W) b W a):Below W.heap.size W a:=
 ⟨st.os,st.tape,st.output,st.size,λk d=>by
  cases e:W.heap[k]? with
  | some o=>exact st.sub _ _ (c _ _ e)
  | none=>simp at e;omega⟩
theorem JJ {H:Type} {enc:TypeId×Value->H} {P:Program} (i:laidOutB P=true) {W g:World} {sp:Nat->Bool} (hb:Below W.heap.size W g):∀ {c:List TypeId} {f:List Value} {e:List (DataW H)} {b:List MemPlace},
  (∀t∈c,P.readableRec t=true/\t<P.types.size)->DataW.TrodAll enc P W 0 (λ_=>true) true c f e b->(∀x∈b,x.block<W.heap.size)->(∀x∈b,sp x.block=true)->DataW.TrodAll enc P g 0 sp true c f e b
 | [],_,_,_,_,h,_,_=>by obtain ⟨rfl,rfl,rfl⟩:=trodAll_nil h;exact trodAll_mk0
 | t::c,_,_,_,k,h,j,l=>by
  obtain ⟨v,f,d,e,p,q,rfl,rfl,rfl,m,n⟩:=trodAll_cons h;obtain ⟨o,r⟩:=k t (List.mem_cons_self ..);exact ⟨p,q,WideElems.Trod_stays i o r m (λx a=>hb.same (j x (List.mem_append_left _ a))) (λx a=>l x (List.mem_append_left _ a)),
   JJ i hb (λt s=>k t (List.mem_cons_of_mem _ s)) n (λx a=>j x (List.mem_append_right _ a)) (λx a=>l x (List.mem_append_right _ a)),rfl⟩
theorem U1 {H:Type} {enc:TypeId×Value->H} {P:Program} {f:Func} {s:ChangeSpec} {W d:World} {h:Hp} {args:Array Value} {a gs:List (DataW H)} {g:List MemPlace} {t:TypeId} (o:laidOutB P=true)
  (u:∀t∈f.params.toList,P.readableRec t=true/\t<P.types.size) (k:s.vars=[]) (v:f.resultTypes= #[t]) (w:P.underlying t=some .bool)
  (n:gs=[]->s.fn H (a++gs)={results:=[.lit (.bool true)],args:=a}) (b:DataW.Whole enc P f.params.toList s.vars false W args.toList a gs g) (r:whole W<=h) (st:Step (whole W) h W d):
  s.post enc P f false true false false W args (.bool true) d:=by
 have hb:=Ze r st;have j:∀p∈g,p.block<W.heap.size:=λp hp=>b.lt p hp;have m:=b;obtain ⟨p,q,l,i,rfl,y,z⟩:=m;rw [k] at i;obtain ⟨rfl,rfl⟩:=trodVars_none i;rw [List.append_nil] at j;have c:=n rfl;refine ⟨a,[],p++ [],[],p,[],b,?_,?_,?_,Below.frame hb _,λe=>(by cases e)⟩
 ·rw [c,v];exact trodAll_mk1 (shut_bool w true)
 ·rw [c];exact JJ o hb u l j (λx A=>by grind)
 ·rw [c,k];exact rfl
theorem rf {H:Type} {enc:TypeId×Value->H} {C:Checked} {os:Os} {f:FuncId} {fn:Func} {s:ChangeSpec} {t:TypeId} (own:ownKnob C.prog.godebug=none) (L:os.Started) (K:C.prog.inits.idxOf? f=none) (o:C.prog.funcs[f]? =some fn)
  (N:∃(w:World) (tape:Tape) (i:Input),w.os=os/\(w.forCall tape i).Shaped C.prog/\i.vars=[]/\Input.okWide C.prog (w.forCall tape i) .any w.heap.size f i/\
   s.pre6 enc C.prog fn [] false (w.forCall tape i).memory i.args/\({}:Assume).holds C.prog (lone (Frame.enter C.prog f i.args .normal) [] (w.forCall tape i)))
  (z:laidOutB C.prog=true) (B:∀t∈fn.params.toList,C.prog.readableRec t=true/\t<C.prog.types.size) (b:s.vars=[]) (D:fn.resultTypes= #[t]) (G:C.prog.underlying t=some .bool)
  (M:∀(W:World) (base:Nat) (args:Array Value) (a:List (DataW H)) (p:List MemPlace),(∀(j:Nat) t v,fn.params[j]? =some t->args[j]? =some v->Value.okWide C.prog W .any base t v)->DataW.TrodAll enc C.prog W 0 (λ_=>true) true fn.params.toList args.toList a p->
   (DataW.weightsEach C.prog fn.params.toList a).all (· <=reachBytes)=true->
   s.fn H a={results:=[.lit (.bool true)],args:=a}/\aa C.prog f args.toList aW (λr c=>r=true/\whole W<=c) (whole W)):
  ReturnsInHanded {} C os f .any (s.pre6 enc C.prog fn [] false) (s.post enc C.prog fn false true false false):=by
 refine returnsInHanded_of_change_sized own L K o N ?_;intro W base args a gs P I g Q k _;have m:=g;obtain ⟨p,q,l,d,_,R,S⟩:=m;have u:gs=[]:=by rw [b] at d;exact (trodVars_none d).1
 subst u;have J:s.plain.varTypes C.prog=[]:=by unfold ChangeSpec.plain DataSpec.varTypes;rw [b];rfl
 rw [J,List.append_nil,List.append_nil] at k;obtain ⟨E,n⟩:=M W base args a p I l k;have h:=n W (S0 W);simp only [Array.toArray_toList] at h;refine h.mono λe O y=> ?_;obtain ⟨v,c,rfl,⟨x,rfl,rfl,A⟩,F⟩:=y;exact ⟨_,rfl,U1 z B b D G (λe=>by rw [e,List.append_nil];exact E) g A F⟩
theorem YT {x:Int} (h:(Lit.int .u64 x).wf=true):0<=x/\x<18446744073709551616:=by simp [Lit.wf,IntKind.min,IntKind.max,IntKind.signed,IntKind.bits] at h;omega
theorem KM {x:Int} (h:(Lit.int .i64 x).wf=true): -9223372036854775808<=x/\x<=9223372036854775807:=by simp [Lit.wf,IntKind.min,IntKind.max,IntKind.signed,IntKind.bits] at h;omega
end Lf
namespace Lf
open Go Go.Proofs Go.ChangeShapes Go.WideShapes Go.ChangeAt Go.RowKit
section
variable {H:Type} {enc:TypeId×Value->H} {P:Program} {W:World}
def fR (enc:TypeId×Value->H) (P:Program) (W:World) (t:TypeId) (R:List Value->Prop):Prop:=
 ∀fuel a y,DataW.trod enc P W 0 (λ_=>true) true fuel t a=some y->(DataW.weights P t y.1).all (· <=reachBytes)=true->R a
theorem EB {t:TypeId} {k:IntKind} (b:P.underlying t=some (.int k)):fR enc P W t λa=>∃n,a=[.int k n]/\(Lit.int k n).wf=true:=λfuel a y h _=>by obtain ⟨n,c,_,d⟩:=DataW.trod_int b h;grind
theorem S2 {t:TypeId} (d:P.underlying t=some .bool):fR enc P W t λa=>∃b,a=[.bool b]:=λfuel a y h _=>by obtain ⟨b,c,_⟩:=DataW.trod_bool d h;exact ⟨b,c⟩
theorem Fb {l m:List Nat} {p:Nat->Bool} (h:(l++m).all p=true):l.all p=true/\m.all p=true:=by grind
theorem Ir {e:TypeId}:∀ {l:List (DataW H)} {d:DataW H},d∈l->(DataW.weightsAll P e l).all (· <=reachBytes)=true->(DataW.weights P e d).all (· <=reachBytes)=true
 | d::r,c,hm,h=>by
  rw [DataW.weightsAll] at h;obtain ⟨a,b⟩:=Fb h;rcases List.mem_cons.1 hm with rfl | hm
  ·exact a
  ·exact Ir hm b
theorem rJ :∀ {ts:List TypeId} {a:List (DataW H)} {i:Nat} {t:TypeId} {d:DataW H},ts[i]? =some t->a[i]? =some d->(DataW.weightsEach P ts a).all (· <=reachBytes)=true->(DataW.weights P t d).all (· <=reachBytes)=true
 | [],_,i,t,d,h,_,_=>by simp at h
 | _::_,[],i,t,d,_,h,_=>by simp at h
 | t::ts,d::a,0,f,e,b,c,h=>by simp at b c;subst b c;rw [DataW.weightsEach] at h;grind
 | t::ts,d::a,i+1,f,e,b,c,h=>by rw [DataW.weightsEach] at h;exact rJ (by simpa using b) (by simpa using c) (Fb h).2
theorem iQ {t:TypeId} {a:Array Field} {fuel:Nat} {c:List Value} {y:DataW H×List MemPlace} (e:P.underlying t=some (.struct a)) (h:DataW.trod enc P W 0 (λ_=>true) true fuel t c=some y) (b:(DataW.weights P t y.1).all (· <=reachBytes)=true)
  {i n off:Nat} {f:Field} {R:List Value->Prop} (k:a[i]? =some f) (p:f.offset=off) (j:P.cellsOf f.type=n) (g:fR enc P W f.type R):R ((c.drop off).take n):=by
 subst p;obtain ⟨q,m,_,rfl,r,s,l⟩:=DataW.trod_struct e h;have d:=l i f k;have o:i<q.length:=by grind
 rw [List.getElem?_eq_getElem o,j] at d;refine g m _ _ d ?_;dsimp only at b;rw [DataW.weights,e] at b;refine rJ (i:=i) (ts:=a.toList.map (·.type)) ?_ ?_ b
 ·grind
 grind
theorem xz {t:TypeId} {b:Array Field} {fuel:Nat} {a:List Value} {y:DataW H×List MemPlace} (d:P.underlying t=some (.struct b)) (h:DataW.trod enc P W 0 (λ_=>true) true fuel t a=some y):a.length=P.cellsOf t:=by obtain ⟨g,m,_,rfl,c,f,e⟩:=DataW.trod_struct d h;exact c
theorem ir {b a:List Value} {off n m:Nat} (h:(b.drop off).take n=a) (c:off+n=m):b.drop off=a++b.drop m:=by rw [<-c,<-h,<-List.drop_drop,List.take_append_drop]
structure gU {α:Type} (W:World) (sz:Nat) (en:α->List Value) (iw:α->Prop) (l:Sl) (xs:List α):Prop where
 qx:Rw (whole W) sz en l xs
 cap:l.len<=l.cap
 lN:l.cap<=9223372036854775807
 iC:xs.length<=140737488355328
 all:∀x∈xs,iw x
theorem va {t e:TypeId} {u:Type} (E:P.underlying t=some (.slice e)) (f:u->List Value) (iw:u->Prop) {sz:Nat} (R:P.cellsOf e=sz) (hb:0<P.bytesOf e) (L:fR enc P W e λd=>∃x,d=f x/\iw x) (C:∀x,(f x).length=sz):
  fR enc P W t λd=>∃(l:Sl) (b:List u),d=[l.v]/\gU W sz f iw l b:=by
 intro fuel d y h o;subst R;rcases DataW.trod_slice E h with ⟨w,_⟩ | ⟨a,s,F,g,rest,n,_,w,K,Y,N,O,a9,M,_,_⟩
 ·exact ⟨⟨none,0,0⟩,[],w,⟨⟨rfl,by simp,.inl (by simp)⟩,Nat.le_refl _,by simp,by simp,λx r=>by cases r⟩⟩
 ·subst K;dsimp only at o;rw [DataW.weights,E] at o;dsimp only at o;rw [List.all_cons,Bool.and_eq_true,decide_eq_true_eq] at o;obtain ⟨S,z⟩:=o;have z:=(Fb z).1;have I:∀i,i<s->∃x,iw x/\aR (whole W) (a.add (i*P.cellsOf e)) (f x):=by
   intro i hi;have c:=M i hi;have k:g[i]? =some g[i]:=List.getElem?_eq_getElem (by omega);rw [k] at c;cases B:W.cells? 0 (a.add (i*P.cellsOf e)) (P.cellsOf e) with
   | none=>grind
   | some d=>rw [B] at c;obtain ⟨_,Z,J⟩:=World.cells?_some B;obtain ⟨x,r,D⟩:=L n d _ c (Ir (List.mem_map.2 ⟨g[i],List.mem_of_getElem? k,rfl⟩) z);refine ⟨x,D,λj v p=> ?_⟩;have a8:j<(f x).length:=(List.getElem?_eq_some_iff.1 p).1;rw [aaZ,J j (by grind),r];exact p
  have build:∀m,m<=s->∃b:List u,b.length=m/\(∀x∈b,iw x)/\∀i x,b[i]? =some x->aR (whole W) (a.add (i*P.cellsOf e)) (f x):=by
   intro m
   induction m with
   | zero=>simp
   | succ m U=>
    intro b0;obtain ⟨b,c,k,A⟩:=U (by omega);obtain ⟨x,D,r⟩:=I m (by omega);refine ⟨b++ [x],by simp [c],λy T=> ?_,λi y T=> ?_⟩
    ·grind
    grind
  obtain ⟨b,c,k,A⟩:=build s (Nat.le_refl _);refine ⟨⟨some a,s,F⟩,b,w,⟨⟨c.symm,iW C b,.inr ⟨a,rfl,λi v hv=> ?_⟩⟩,N,O,?_,k⟩⟩
  ·obtain ⟨q,x,j,Q,p,G⟩:=I9 C b i v hv;rw [G];rw [<-rY];exact A q x Q j v p
  ·have V:reachBytes<=140737488355328:=by decide
   rw [List.length_map,List.length_map] at S;have X:g.length+rest.length<=(g.length+rest.length)*P.bytesOf e:=Nat.le_mul_of_pos_right _ hb;omega
theorem S3 {t e:TypeId} (G:P.underlying t=some (.array 8 e)) (C:P.underlying e=some (.int .i64)) (A:P.cellsOf e=1) (B:P.cellsOf t=8):
  fR enc P W t λb=>∃a0 a1 a2 a3 a4 a5 a6 a7:Int,b=[.int .i64 a0,.int .i64 a1,.int .i64 a2,.int .i64 a3,.int .i64 a4,.int .i64 a5,.int .i64 a6,.int .i64 a7]/\∀v∈ [a0,a1,a2,a3,a4,a5,a6,a7],iE v:=by
 intro fuel b y h _;obtain ⟨K,m,_,rfl,E,J,D⟩:=DataW.trod_array G h;rw [B] at E;have a:∀i,i<8->∃n,(b.drop i).take 1=[.int .i64 n]/\iE n:=λi hi=>by have c:=D i hi;rw [List.getElem?_eq_getElem (by omega),A,Nat.mul_one] at c;obtain ⟨n,F,_,I⟩:=DataW.trod_int C c;have:=KM I;exact ⟨n,F,by unfold iE;omega⟩
 obtain ⟨a0,q,d⟩:=a 0 (by omega);obtain ⟨a1,c,f⟩:=a 1 (by omega);obtain ⟨a2,r,g⟩:=a 2 (by omega);obtain ⟨a3,s,j⟩:=a 3 (by omega);obtain ⟨a4,u,k⟩:=a 4 (by omega);obtain ⟨a5,w,l⟩:=a 5 (by omega);obtain ⟨a6,x,o⟩:=a 6 (by omega);obtain ⟨a7,z,p⟩:=a 7 (by omega);refine ⟨a0,a1,a2,a3,a4,a5,a6,a7,?_,by simp [d,f,g,j,k,l,o,p]⟩;have e:b=b.drop 0:=rfl;rw [e,ir (m:=1) q rfl,ir (m:=2) c rfl,ir (m:=3) r rfl,ir (m:=4) s rfl,ir (m:=5) u rfl,ir (m:=6) w rfl,ir (m:=7) x rfl,ir (m:=8) z rfl,List.drop_of_length_le (by omega)];rfl
end
section
variable {H:Type} {enc:TypeId×Value->H} {W:World}
theorem li :fR enc Tryz.prog W 3 λa=>∃n,a=[.int .i64 n]/\(Lit.int .i64 n).wf=true:=EB (bW.cm 3 Ou rfl)
theorem qp :fR enc Tryz.prog W 2 λa=>∃n,a=[.int .i64 n]/\(Lit.int .i64 n).wf=true:=EB (bW.cm 2 yr rfl)
theorem P6 :fR enc Tryz.prog W 149 λa=>∃n,a=[.int .u64 n]/\(Lit.int .u64 n).wf=true:=EB (bW.cm 149 A5 rfl)
theorem od {x:Int} (h:(Lit.int .i64 x).wf=true):iE x:=by have:=KM h;unfold iE;omega
abbrev eI (x:Int):List Value:=ba ((ab .i64).enc x)
abbrev eU (x:Int):List Value:=ba ((ab .u64).enc x)
abbrev yc (x:aZ):List Value:=ba (aU.enc x)
abbrev tA (x:bO):List Value:=ba (bV.enc x)
abbrev tB (x:bp):List Value:=ba (aF.enc x)
abbrev yb (x:dw):List Value:=ba (du.enc x)
abbrev tx (x:cd):List Value:=ba (bD.enc x)
abbrev zm (x:bh):List Value:=ba (aN.enc x)
abbrev tz (x:bS):List Value:=ba (bQ.enc x)
abbrev PX (x:Sl):List Value:=ba (af.enc x)
theorem fE :Tryz.prog.cellsOf 3=1:=by kernel_rfl
theorem xQ :Tryz.prog.cellsOf 2=1:=by kernel_rfl
theorem U2 :Tryz.prog.cellsOf 149=1:=by kernel_rfl
theorem YV :Tryz.prog.cellsOf 4=1:=by kernel_rfl
theorem AG :Tryz.prog.cellsOf 142=5:=by kernel_rfl
theorem YX :Tryz.prog.cellsOf 45=1:=by kernel_rfl
theorem KO :Tryz.prog.cellsOf 47=2:=by kernel_rfl
theorem Xj :Tryz.prog.cellsOf 24=1:=by kernel_rfl
theorem PT :Tryz.prog.cellsOf 22=1:=by kernel_rfl
theorem Bt :Tryz.prog.cellsOf 23=1:=by kernel_rfl
theorem YY :Tryz.prog.cellsOf 92=1:=by kernel_rfl
theorem AE :Tryz.prog.cellsOf 26=7:=by kernel_rfl
theorem AF :Tryz.prog.cellsOf 115=3:=by kernel_rfl
theorem Y0 :Tryz.prog.cellsOf 88=1:=by kernel_rfl
theorem KP :Tryz.prog.cellsOf 97=2:=by kernel_rfl
theorem Xk :Tryz.prog.cellsOf 93=1:=by kernel_rfl
theorem KQ :Tryz.prog.cellsOf 95=4:=by kernel_rfl
theorem Xl :Tryz.prog.cellsOf 50=1:=by kernel_rfl
theorem AH :Tryz.prog.cellsOf 49=8:=by kernel_rfl
theorem My :Tryz.prog.cellsOf 52=15:=by kernel_rfl
theorem aa0 :Tryz.prog.cellsOf 31=1:=by kernel_rfl
theorem Gc :Tryz.prog.cellsOf 89=1:=by kernel_rfl
theorem KS :Tryz.prog.cellsOf 91=6:=by kernel_rfl
theorem Xn :Tryz.prog.cellsOf 30=1:=by kernel_rfl
theorem Xp :Tryz.prog.cellsOf 33=3:=by kernel_rfl
theorem BC :fR enc Tryz.prog W 23 λa=>∃(l:Sl) (d:List Int),a=[l.v]/\gU W 1 eI (λ_=>True) l d:=
 va (bW.cm 23 rH rfl) eI _ fE (by rw [show Tryz.prog.bytesOf 3=8 by kernel_rfl];omega) (λf a y h c=>by obtain ⟨n,b,_⟩:=li f a y h c;exact ⟨n,b,trivial⟩) λ_=>rfl
theorem Y1 :fR enc Tryz.prog W 92 λa=>∃(l:Sl) (e:List Int),a=[l.v]/\gU W 1 eI iE l e:=
 va (bW.cm 92 yx rfl) eI _ xQ (by rw [show Tryz.prog.bytesOf 2=8 by kernel_rfl];omega) (λf a y h d=>by obtain ⟨n,b,c⟩:=qp f a y h d;exact ⟨n,b,od c⟩) λ_=>rfl
theorem P5 :fR enc Tryz.prog W 22 λa=>∃(l:Sl) (e:List Int),a=[l.v]/\gU W 1 eU lW l e:=
 va (bW.cm 22 yu rfl) eU _ U2 (by rw [show Tryz.prog.bytesOf 149=8 by kernel_rfl];omega) (λf a y h d=>by obtain ⟨n,b,c⟩:=P6 f a y h d;exact ⟨n,b,YT c⟩) λ_=>rfl
theorem Gq :fR enc Tryz.prog W 142 λc=>∃x,c=yc x/\iE x.iZ:=λf c y h b=>by have a:=bW.cm 142 A4 rfl;have d:=xz a h;rw [AG] at d;obtain ⟨a0,g,_⟩:=iQ a h b (i:=0) (off:=0) rfl rfl fE li;obtain ⟨a1,j,_⟩:=iQ a h b (i:=1) (off:=1) rfl rfl fE li;obtain ⟨a2,k,_⟩:=iQ a h b (i:=2) (off:=2) rfl rfl fE li;obtain ⟨a3,l,_⟩:=iQ a h b (i:=3) (off:=3) rfl rfl fE li;obtain ⟨a4,n,o⟩:=iQ a h b (i:=4) (off:=4) rfl rfl xQ qp;refine ⟨⟨a0,a1,a2,a3,a4⟩,?_,od o⟩;have e:c=c.drop 0:=rfl;rw [e,ir (m:=1) g rfl,ir (m:=2) j rfl,ir (m:=3) k rfl,ir (m:=4) l rfl,ir (m:=5) n rfl,List.drop_of_length_le (Nat.le_of_eq d)];rfl
theorem Y2 :fR enc Tryz.prog W 45 λa=>∃(l:Sl) (b:List aZ),a=[l.v]/\gU W 5 yc (λx=>iE x.iZ) l b:=
 va (bW.cm 45 BW rfl) yc _ AG (by rw [show Tryz.prog.bytesOf 142=40 by kernel_rfl];omega) Gq λ_=>rfl
def zn (W:World) (q:bO):Prop:=∃a,gU W 5 yc (λx=>iE x.iZ) q.Code a
theorem Y4 :fR enc Tryz.prog W 47 λa=>∃x,a=tA x/\zn W x:=λf a y h d=>by have b:=bW.cm 47 If rfl;have c:=xz b h;rw [KO] at c;obtain ⟨a0,j,_⟩:=iQ b h d (i:=0) (off:=0) rfl rfl fE li;obtain ⟨l,n,k,g⟩:=iQ b h d (i:=1) (off:=1) rfl rfl YX Y2;refine ⟨⟨a0,l⟩,?_,n,g⟩;have e:a=a.drop 0:=rfl;rw [e,ir (m:=1) j rfl,ir (m:=2) k rfl,List.drop_of_length_le (Nat.le_of_eq c)];rfl
theorem Xr :fR enc Tryz.prog W 24 λa=>∃(l:Sl) (b:List bO),a=[l.v]/\gU W 2 tA (zn W) l b:=
 va (bW.cm 24 BV rfl) tA _ KO (by rw [show Tryz.prog.bytesOf 47=32 by kernel_rfl];omega) Y4 λ_=>rfl
structure vn (W:World) (x:aw):Prop where
 labels:∃ls,gU W 1 eU lW x.bg ls
 table:∃ts,gU W 1 eI (λ_=>True) x.Table ts
 procs:∃ps,gU W 2 tA (zn W) x.aC ps
theorem AO :fR enc Tryz.prog W 26 λc=>∃x,c=PU x/\vn W x:=λf c y h b=>by have a:=bW.cm 26 HU rfl;have d:=xz a h;rw [AE] at d;obtain ⟨t,w,l,g⟩:=iQ a h b (i:=0) (off:=0) rfl rfl PT P5;obtain ⟨u,z,n,j⟩:=iQ a h b (i:=1) (off:=1) rfl rfl Bt BC;obtain ⟨a2,o,_⟩:=iQ a h b (i:=2) (off:=2) rfl rfl fE li;obtain ⟨a3,p,_⟩:=iQ a h b (i:=3) (off:=3) rfl rfl fE li;obtain ⟨a4,q,_⟩:=iQ a h b (i:=4) (off:=4) rfl rfl fE li;obtain ⟨a5,r,_⟩:=iQ a h b (i:=5) (off:=5) rfl rfl fE li;obtain ⟨v,A,s,k⟩:=iQ a h b (i:=6) (off:=6) rfl rfl Xj Xr;refine ⟨⟨t,u,a2,a3,a4,a5,v⟩,?_,⟨w,g⟩,⟨z,j⟩,A,k⟩;have e:c=c.drop 0:=rfl;rw [e,ir (m:=1) l rfl,ir (m:=2) n rfl,ir (m:=3) o rfl,ir (m:=4) p rfl,ir (m:=5) q rfl,ir (m:=6) r rfl,ir (m:=7) s rfl,List.drop_of_length_le (Nat.le_of_eq d)];rfl
theorem Gp :fR enc Tryz.prog W 115 λa=>∃x,a=yb x/\(iE x.di/\iE x.cS):=λf a y h c=>by have b:=bW.cm 115 A3 rfl;have d:=xz b h;rw [AF] at d;obtain ⟨a0,g,l⟩:=iQ b h c (i:=0) (off:=0) rfl rfl xQ qp;obtain ⟨a1,j,_⟩:=iQ b h c (i:=1) (off:=1) rfl rfl fE li;obtain ⟨a2,k,n⟩:=iQ b h c (i:=2) (off:=2) rfl rfl xQ qp;refine ⟨⟨a0,a1,a2⟩,?_,od l,od n⟩;have e:a=a.drop 0:=rfl;rw [e,ir (m:=1) g rfl,ir (m:=2) j rfl,ir (m:=3) k rfl,List.drop_of_length_le (Nat.le_of_eq d)];rfl
theorem Y6 :fR enc Tryz.prog W 88 λa=>∃(l:Sl) (b:List dw),a=[l.v]/\gU W 3 yb (λx=>iE x.di/\iE x.cS) l b:=
 va (bW.cm 88 yv rfl) yb _ AF (by rw [show Tryz.prog.bytesOf 115=24 by kernel_rfl];omega) Gp λ_=>rfl
theorem Y7 :fR enc Tryz.prog W 97 λa=>∃x,a=tB x/\iE x.cS:=λf a y h d=>by have b:=bW.cm 97 BX rfl;have c:=xz b h;rw [KP] at c;obtain ⟨a0,g,_⟩:=iQ b h d (i:=0) (off:=0) rfl rfl fE li;obtain ⟨a1,j,k⟩:=iQ b h d (i:=1) (off:=1) rfl rfl xQ qp;refine ⟨⟨a0,a1⟩,?_,od k⟩;have e:a=a.drop 0:=rfl;rw [e,ir (m:=1) g rfl,ir (m:=2) j rfl,List.drop_of_length_le (Nat.le_of_eq c)];rfl
theorem Xt :fR enc Tryz.prog W 93 λa=>∃(l:Sl) (b:List bp),a=[l.v]/\gU W 2 tB (λx=>iE x.cS) l b:=
 va (bW.cm 93 wF rfl) tB _ KP (by rw [show Tryz.prog.bytesOf 97=16 by kernel_rfl];omega) Y7 λ_=>rfl
def zo (W:World) (x:cd):Prop:=(∃a,gU W 1 eI iE x.dm a)/\∃b,gU W 2 tB (λx=>iE x.cS) x.bB b
theorem Y8 :fR enc Tryz.prog W 95 λb=>∃x,b=tx x/\zo W x:=λf b y h c=>by have a:=bW.cm 95 Im rfl;have d:=xz a h;rw [KQ] at d;obtain ⟨p,r,k,g⟩:=iQ a h c (i:=0) (off:=0) rfl rfl YY Y1;obtain ⟨q,s,l,j⟩:=iQ a h c (i:=1) (off:=1) rfl rfl Xk Xt;obtain ⟨a2,n,_⟩:=iQ a h c (i:=2) (off:=2) rfl rfl fE li;obtain ⟨a3,o,_⟩:=iQ a h c (i:=3) (off:=3) rfl rfl fE li;refine ⟨⟨p,q,a2,a3⟩,?_,⟨r,g⟩,s,j⟩;have e:b=b.drop 0:=rfl;rw [e,ir (m:=1) k rfl,ir (m:=2) l rfl,ir (m:=3) n rfl,ir (m:=4) o rfl,List.drop_of_length_le (Nat.le_of_eq d)];rfl
theorem Xv :fR enc Tryz.prog W 50 λa=>∃(l:Sl) (b:List cd),a=[l.v]/\gU W 4 tx (zo W) l b:=
 va (bW.cm 50 Ih rfl) tx _ KQ (by rw [show Tryz.prog.bytesOf 95=64 by kernel_rfl];omega) Y8 λ_=>rfl
structure PK (W:World) (x:bh):Prop where
 aO:∀v∈ [x.cD,x.cE,x.cF,x.cG,x.cH,x.cI,x.cJ,x.cK],iE v
 timer:iE x.Timer
 cp:iE x.jl
 ae:∃ls,gU W 4 tx (zo W) x.cC ls
theorem S4 :fR enc Tryz.prog W 52 λc=>∃x,c=zm x/\PK W x:=λf c y h b=>by have a:=bW.cm 52 Ii rfl;have d:=xz a h;rw [My] at d;obtain ⟨a0,t,_⟩:=iQ a h b (i:=0) (off:=0) rfl rfl fE li;obtain ⟨a1,u,_⟩:=iQ a h b (i:=1) (off:=1) rfl rfl fE li;obtain ⟨g,j,k,l,n,o,p,q,v,r⟩:=iQ a h b (i:=2) (off:=2) rfl rfl AH (S3 (bW.cm 49 Ig rfl) (bW.cm 2 yr rfl) xQ AH);obtain ⟨a3,w,_⟩:=iQ a h b (i:=3) (off:=10) rfl rfl fE li;obtain ⟨a4,z,E⟩:=iQ a h b (i:=4) (off:=11) rfl rfl xQ qp;obtain ⟨a5,A⟩:=iQ a h b (i:=5) (off:=12) rfl rfl YV (S2 (bW.cm 4 ty4 rfl));obtain ⟨a6,B,F⟩:=iQ a h b (i:=6) (off:=13) rfl rfl xQ qp;obtain ⟨D,G,C,s⟩:=iQ a h b (i:=7) (off:=14) rfl rfl Xl Xv;refine ⟨⟨a0,a1,g,j,k,l,n,o,p,q,a3,a4,a5,a6,D⟩,?_,r,od E,od F,G,s⟩;have e:c=c.drop 0:=rfl;rw [e,ir (m:=1) t rfl,ir (m:=2) u rfl,ir (m:=10) v rfl,ir (m:=11) w rfl,ir (m:=12) z rfl,ir (m:=13) A rfl,ir (m:=14) B rfl,ir (m:=15) C rfl,List.drop_of_length_le (Nat.le_of_eq d)];rfl
theorem aa1 :fR enc Tryz.prog W 31 λa=>∃(l:Sl) (b:List bh),a=[l.v]/\gU W 15 zm (PK W) l b:=
 va (bW.cm 31 Ib rfl) zm _ My (by rw [show Tryz.prog.bytesOf 52=136 by kernel_rfl];omega) S4 λ_=>rfl
theorem Gr :fR enc Tryz.prog W 89 λb=>∃(l:Sl) (a:List Sl),b=[l.v]/\gU W 1 PX (λq=>∃a,gU W 1 eI (λ_=>True) q a) l a:=
 va (bW.cm 89 Ik rfl) PX _ Bt (by rw [show Tryz.prog.bytesOf 23=24 by kernel_rfl];omega) (λf b y h e=>by obtain ⟨l,a,c,d⟩:=BC f b y h e;exact ⟨l,c,a,d⟩) λ_=>rfl
structure zt (W:World) (x:bS):Prop where
 log:∃es,gU W 3 yb (λx=>iE x.di/\iE x.cS) x.Log es
 av:∃os,gU W 1 eI (λ_=>True) x.bN os
 ah:∃qs,gU W 1 PX (λq=>∃xs,gU W 1 eI (λ_=>True) q xs) x.bI qs
theorem Za :fR enc Tryz.prog W 91 λc=>∃x,c=tz x/\zt W x:=λf c y h b=>by have a:=bW.cm 91 Il rfl;have d:=xz a h;rw [KS] at d;obtain ⟨a0,l,_⟩:=iQ a h b (i:=0) (off:=0) rfl rfl fE li;obtain ⟨s,v,n,g⟩:=iQ a h b (i:=1) (off:=1) rfl rfl Y0 Y6;obtain ⟨a2,o,_⟩:=iQ a h b (i:=2) (off:=2) rfl rfl fE li;obtain ⟨a3,p,_⟩:=iQ a h b (i:=3) (off:=3) rfl rfl fE li;obtain ⟨t,w,q,j⟩:=iQ a h b (i:=4) (off:=4) rfl rfl Bt BC;obtain ⟨u,z,r,k⟩:=iQ a h b (i:=5) (off:=5) rfl rfl Gc Gr;refine ⟨⟨a0,s,a2,a3,t,u⟩,?_,⟨v,g⟩,⟨w,j⟩,z,k⟩;have e:c=c.drop 0:=rfl;rw [e,ir (m:=1) l rfl,ir (m:=2) n rfl,ir (m:=3) o rfl,ir (m:=4) p rfl,ir (m:=5) q rfl,ir (m:=6) r rfl,List.drop_of_length_le (Nat.le_of_eq d)];rfl
theorem Xx :fR enc Tryz.prog W 30 λa=>∃(l:Sl) (b:List bS),a=[l.v]/\gU W 6 tz (zt W) l b:=
 va (bW.cm 30 H6 rfl) tz _ KS (by rw [show Tryz.prog.bytesOf 91=96 by kernel_rfl];omega) Za λ_=>rfl
structure Bo (W:World) (x:aB):Prop where
 tick:iE x.di
 parts:∃ps,gU W 6 tz (zt W) x.bt ps
 procs:∃ps,gU W 15 zm (PK W) x.aC ps
theorem Xz :fR enc Tryz.prog W 33 λa=>∃x,a=ba (be.enc x)/\Bo W x:=λf a y h c=>by have b:=bW.cm 33 Ie rfl;have d:=xz b h;rw [Xp] at d;obtain ⟨a0,k,q⟩:=iQ b h c (i:=0) (off:=0) rfl rfl xQ qp;obtain ⟨o,r,l,g⟩:=iQ b h c (i:=1) (off:=1) rfl rfl Xn Xx;obtain ⟨p,s,n,j⟩:=iQ b h c (i:=2) (off:=2) rfl rfl aa0 aa1;refine ⟨⟨a0,o,p⟩,?_,od q,⟨r,g⟩,s,j⟩;have e:a=a.drop 0:=rfl;rw [e,ir (m:=1) k rfl,ir (m:=2) l rfl,ir (m:=3) n rfl,List.drop_of_length_le (Nat.le_of_eq d)];rfl
end
theorem uK {b c:Type} {R:b->c->Prop} {G:c->Prop}:∀ {l:List b},(∀x∈l,∃p,R x p/\G p)->∃m,dB R l m/\∀p∈m,G p
 | [],_=>⟨[],trivial,λp hp=>by cases hp⟩
 | a::l,h=>by obtain ⟨p,d,g⟩:=h a (List.mem_cons_self ..);obtain ⟨m,e,i⟩:=uK (l:=l) λx f=>h x (List.mem_cons_of_mem _ f);refine ⟨p::m,⟨d,e⟩,λq j=> ?_⟩;grind
section
variable {W:World}
theorem XB {q:bO} (k:zn W q):∃p,kz (whole W) q p/\((∀x∈p.code,iE x.kf)/\p.code.length<=140737488355328):=by
 obtain ⟨a,h⟩:=k;refine ⟨⟨q.Part,a.map bE⟩,⟨rfl,a,h.qx,rfl⟩,λx b=> ?_,?_⟩
 ·obtain ⟨y,c,rfl⟩:=List.mem_map.1 b;exact h.all y c
 ·show (a.map bE).length<=_;rw [List.length_map];exact h.iC
theorem vD {x:aw} (k:vn W x):∃c,eo (whole W) x c/\Typed c/\FQ c:=by obtain ⟨j,b⟩:=k.labels;obtain ⟨n,e⟩:=k.table;obtain ⟨l,d⟩:=k.procs;obtain ⟨m,f,g⟩:=uK λq i=>XB (d.all q i);have r:=f.len;have o:=d.iC;refine ⟨⟨j,n,x.Fuel,x.gy,x.bR,x.Log,m⟩,⟨b.qx,e.qx,rfl,rfl,rfl,rfl,l,d.qx,f⟩,⟨λa h=> ?_,λp hp=>(g p hp).1⟩,⟨b.iC,e.iC,by show m.length<=_;omega,λp hp=>(g p hp).2⟩⟩;have:=b.all a h;omega
theorem XD {x:cd} (k:zo W x):∃p,kr (whole W) x p/\((∀v∈p.values,iE v)/\(∀w∈p.waiters,iE w.value)/\CO p):=by
 obtain ⟨⟨f,a⟩,c,b⟩:=k;refine ⟨⟨f,c.map pB,x.jk,x.fM⟩,⟨a.qx,⟨c,b.qx,rfl⟩,rfl,rfl⟩,a.all,λw d=> ?_,a.iC,?_⟩
 ·obtain ⟨y,e,rfl⟩:=List.mem_map.1 d;exact b.all y e
 ·show (c.map pB).length<=_;rw [List.length_map];exact b.iC
theorem QT {x:bh} (k:PK W x):∃p,dV (whole W) x p/\((p.aO.length=8/\(∀v∈p.aO,iE v)/\iE p.timer/\iE p.cp/\∀l∈p.ae,(∀v∈l.values,iE v)/\∀w∈l.waiters,iE w.value)/\
  p.ae.length<=140737488355328/\∀l∈p.ae,CO l):=by
 obtain ⟨f,b⟩:=k.ae;obtain ⟨m,d,c⟩:=uK λq e=>XD (b.all q e);have a:=d.len;have g:=b.iC;exact ⟨⟨x.State,x.PC,_,x.Cursor,x.Timer,x.gx,x.jl,m⟩,⟨rfl,rfl,rfl,rfl,rfl,rfl,rfl,f,b.qx,d⟩,⟨rfl,k.aO,k.timer,k.cp,λl a=>⟨(c l a).1,(c l a).2.1⟩⟩,by grind,λl a=>(c l a).2.2⟩
theorem XF {x:bS} (k:zt W x):∃p,gR (whole W) x p/\((∀e∈p.log,iE e.tick/\iE e.value)/\(p.log.length<=140737488355328/\p.av.length<=140737488355328/\p.ah.length<=140737488355328/\∀q∈p.ah,q.length<=140737488355328)):=by
 obtain ⟨a,b⟩:=k.log;obtain ⟨os,d⟩:=k.av;obtain ⟨n,c⟩:=k.ah;obtain ⟨m,f,h⟩:=uK (R:=Is (whole W)) (G:=λq=>q.length<=140737488355328) λq j=>by obtain ⟨o,g⟩:=c.all q j;exact ⟨o,g.qx,g.iC⟩
 have s:=f.len;have r:=c.iC;refine ⟨⟨x.Cursor,a.map uU,x.lJ,x.eD,os,m⟩,⟨rfl,⟨a,b.qx,rfl⟩,rfl,rfl,d.qx,n,c.qx,f⟩,λe i=> ?_,?_,d.iC,by grind,h⟩
 ·obtain ⟨y,l,rfl⟩:=List.mem_map.1 i;exact b.all y l
 ·show (a.map uU).length<=_;rw [List.length_map];exact b.iC
theorem GL {x:aB} (k:Bo W x):∃s,cW (whole W) x s/\YR s/\lK s:=by obtain ⟨h,a⟩:=k.parts;obtain ⟨i,b⟩:=k.procs;obtain ⟨m,d,e⟩:=uK λq c=>XF (a.all q c);obtain ⟨n,f,g⟩:=uK λq c=>QT (b.all q c);have j:=d.len;have l:=f.len;have f1:=a.iC;have f2:=b.iC;exact ⟨⟨x.di,m,n⟩,⟨rfl,⟨h,a.qx,d⟩,i,b.qx,f⟩,⟨k.tick,λp hp=>(e p hp).1,λp hp=>(g p hp).1⟩,⟨by grind,by grind,λp hp=>(e p hp).2,λp hp=>(g p hp).2⟩⟩
end
theorem Zb {s:fe} (k:lK s) (b:s.parts.length<=8) (c:∀x∈s.parts,x.ah.length<=8) (d:s.procs.length<=32) (f:∀x∈s.procs,x.ae.length<=9):(tD s).length<=1152921504606846976:=by
 have i:(s.parts.flatMap xC).length<=s.parts.length*1125899906842624:=wU _ λx a=>by
  have e:(xC x).length<=x.ah.length*140737488355328:=by unfold xC;rw [<-List.flatMap_id];exact wU _ λq h=>(k.log x a).2.2.2 q h
  have:=Nat.mul_le_mul_right 140737488355328 (c x a);omega
 have j:(s.procs.flatMap uY).length<=s.procs.length*1266637395197952:=wU _ λx a=>by
  have e:(uY x).length<=x.ae.length*140737488355328:=wU _ λl g=>by rw [List.length_map];exact ((k.ae x a).2 l g).waiters
  have:=Nat.mul_le_mul_right 140737488355328 (f x a);omega
 have m:=Nat.mul_le_mul_right 1125899906842624 b;have n:=Nat.mul_le_mul_right 1266637395197952 d;unfold tD;grind
section
variable {H:Type} {enc:TypeId×Value->H} {W:World}
theorem CR {v:Value} {b:List Value} (h:v.cells.toList=b) (c:b.length≠1):v=.agg b.toArray:=by
 cases v with
 | agg a=>rw [<-h];rfl
 | _=>subst h;simp [Value.cells] at c
theorem xW {v:Value} {d:DataW H} {f:List MemPlace} (h:DataW.Trod enc Tryz.prog W 0 (λ_=>true) true 26 v d f) (c:(DataW.weights Tryz.prog 26 d).all (· <=reachBytes)=true):
  ∃x:aw,v=aK.enc x/\vn W x:=by
 obtain ⟨fuel,a⟩:=h;obtain ⟨x,e,b⟩:=AO fuel _ _ a c;exact ⟨x,CR e (by simp),b⟩
theorem uo {v:Value} {d:DataW H} {f:List MemPlace} (h:DataW.Trod enc Tryz.prog W 0 (λ_=>true) true 33 v d f) (c:(DataW.weights Tryz.prog 33 d).all (· <=reachBytes)=true):
  ∃x:aB,v=be.enc x/\Bo W x:=by
 obtain ⟨fuel,a⟩:=h;obtain ⟨x,e,b⟩:=Xz fuel _ _ a c;exact ⟨x,CR e (by simp [ba]),b⟩
end
end Lf
namespace Lf
open Go Go.Proofs Tryz
theorem rI {c:bd} (b:Typed c):∀l∈c.labels,lW l:=λl a=>⟨(b.1 l a).1,(b.1 l a).2⟩
theorem QU {h:Hp} {x:aw} {y:aB} {c:bd} {s:fe} {Q:Int->Hp->Prop} (a:eo h x c) (b:cW h y s) (m:∀l∈c.labels,lW l) (j:lK s) (i:∀e d,h<=d->qL c s e->Q e d):Po prog x y Q h:=
 QP a b m (Zb j) (λf d g=>i _ d g (.inl ⟨f,rfl⟩)) λf n d g k=>i n d g (.inr ⟨f,k⟩)
section
variable {h:Hp} {x:aw} {y:aB} {c:bd} {s:fe}
theorem S5 (N:eo h x c) (M:cW h y s) (F:∀l∈c.labels,lW l) (C:lK s) {Q:Int->Hp->Prop} (V:∀e a,h<=a->qL c s e->Q e a):Wt prog x y Q h:=by
 unfold Wt;refine zos (J5 N λat_=> ?_);by_cases I:(fq c).1≠0
 ·rw [if_pos (by simpa using I)];exact V _ h (Hp.le_refl h) (.inl ⟨I,rfl⟩)
 rw [if_neg (by simpa using I)];have ok:(fq c).1=0:=Classical.not_not.1 I;have a9:∀y∈c.procs,0<=y.part/\y.part<c.labels.length:=λy hy=>by obtain ⟨⟨G,H⟩, -⟩:=(EM ok).2.2.2.2.2 y hy;omega
 have hM:lZ c s↔ui c s (λ(i:Nat) q=>fl c.labels (i:Int) q=true):=Xd a9;have yes:∀a,h<=a->ui c s (λ(i:Nat) q=>fl c.labels (i:Int) q=true)->Q 0 a:=λa D m=>V _ a D (.inr ⟨ok,.inl ⟨rfl,hM.2 m⟩⟩);have no:∀a,h<=a->¬ui c s (λ(i:Nat) q=>fl c.labels (i:Int) q=true)->Q 4 a:=λa D m=>V _ a D (.inr ⟨ok,.inr ⟨rfl,λe=>m (hM.1 e)⟩⟩);refine zvp (aaW N M ok C λr2 b5=> ?_);by_cases f:xn c s
 case neg=>rw [if_pos (by grind)];exact no h (Hp.le_refl h) λm=>f m.1
 have e2:=b5.2 f;subst e2;rw [iT];refine BI (cs:=Gb x y) λb h1 Y hB=> ?_;have k:RM h1 b x y c s:=⟨hB,N.mono Y,M.mono Y,ok,F,f⟩;have b9:y.bt.len=s.parts.length:=by obtain ⟨ps,U,P⟩:=M.parts;rw [<-P.len];exact U.1
 have c0:y.aC.len=s.procs.length:=by obtain ⟨ps,U,P⟩:=M.procs;rw [<-P.len];exact U.1
 have b1:=C.parts;have b2:=C.procs;have b8:=f.1.2.2;refine forA (n:=s.parts.length) (by omega) (by omega) (λj (v:Bool) a=>h1<=a/\(v=true↔∀(i:Nat) z,i<j->s.parts[i]? =some z->qM c s i z)) ⟨Hp.le_refl _,⟨λ_ i z hi=>by omega,λ_=>rfl⟩⟩ ?_ ?_
 ·rintro j J v h2 ⟨B,hv⟩ K E;have g:=List.getElem?_eq_getElem J;generalize s.parts[j]=z at g;refine ⟨λe=> ?_,λe=>⟨false,aE (E _ _ ⟨B,?_⟩)⟩⟩
  ·refine zpf (QQ (k.mono B) C g λr O l3 L=>aE (E _ _ ⟨Hp.le_trans B l3,?_⟩));rw [e,Bool.true_and,L];constructor
   ·intro hp i Z hi o;by_cases S:i<j
    ·exact hv.1 e i Z S o
    ·have:i=j:=by omega
     subst this;rw [g] at o;cases o;exact hp
   ·exact λd=>d j z (by omega) g
  grind
 rintro v1 h2 ⟨B,b0⟩;have hA:v1=true↔∀(i:Nat) z,s.parts[i]? =some z->qM c s i z:=b0.trans ⟨λd i z f=>d i z (List.getElem?_eq_some_iff.1 f).1 f,λd i z _=>d i z⟩;clear b0;refine forA (n:=s.procs.length) (by omega) (by omega) (λj (v:Bool) a=>a=h2/\(v=true↔v1=true/\∀(p:Nat) z u,p<j->s.procs[p]? =some z->c.procs[p]? =some u->qO c s (λ(i:Nat) q=>fl c.labels (i:Int) q=true) z u)) ⟨rfl,⟨λe=>⟨e,λp z u hp=>by omega⟩,λe=>e.1⟩⟩ ?_ ?_
 ·rintro j J v O ⟨rfl,hv⟩ K E;have g:=List.getElem?_eq_getElem J;generalize s.procs[j]=z at g;have T:j<c.procs.length:=by omega
  have w:=List.getElem?_eq_getElem T;generalize c.procs[j]=u at w;refine ⟨λe=> ?_,λe=>⟨false,aE (E _ _ ⟨rfl,?_⟩)⟩⟩
  ·refine znc (QR (k.mono B) C g w λr L=>aE (E _ _ ⟨rfl,?_⟩));obtain ⟨G,H⟩:=hv.1 e;rw [e,Bool.true_and,L];constructor
   ·intro hp;refine ⟨G,λi Z u' hi o X=> ?_⟩;by_cases S:i<j
    ·exact H i Z u' S o X
    ·have:i=j:=by omega
     subst this;rw [g] at o;cases o;rw [w] at X;cases X;exact hp
   ·exact λd=>d.2 j z u (by omega) g w
  grind
 rintro v2 O ⟨rfl,b3⟩;have a8:v2=true↔v1=true/\∀(p:Nat) z u,s.procs[p]? =some z->c.procs[p]? =some u->qO c s (λ(i:Nat) q=>fl c.labels (i:Int) q=true) z u:=
  b3.trans ⟨λd=>⟨d.1,λi z u f F=>d.2 i z u (List.getElem?_eq_some_iff.1 f).1 f F⟩,λd=>⟨d.1,λi z u _ f F=>d.2 i z u f F⟩⟩
 clear b3;have W:Nat->Prop:=λp=>True;refine bq.intro (λ(v:Bool) t a=>a=O/\∃j:Nat,t=(j:Int)/\j<=s.procs.length/\(v=true↔v2=true/\∀(p i:Nat) z u,p<j->s.procs[p]? =some z->c.procs[p]? =some u->u.part=(i:Int)->qR s p i z u)) (λ_ t _=>((s.procs.length:Int)-t).toNat)
  ⟨rfl,0,rfl,by omega,⟨λe=>⟨e,λp i z u hp=>by omega⟩,λe=>e.1⟩⟩ ?_
 rintro v t h4 ⟨rfl,j,rfl,J,hv⟩;refine aE ?_;by_cases R:j<s.procs.length/\v=true
 ·obtain ⟨b4,A⟩:=R;rw [if_pos (by rw [A,Bool.and_true];exact fT)];have g:=List.getElem?_eq_getElem b4;generalize s.procs[j]=z at g;have T:j<c.procs.length:=by omega
  have w:=List.getElem?_eq_getElem T;generalize c.procs[j]=u at w;obtain ⟨p0,p1⟩:=a9 u (List.mem_of_getElem? w);refine ⟨λ_=> ?_,λe=>by rw [A] at e;cases e⟩;refine zot (aaY (k.mono B) C (i:=u.part.toNat) g w (by omega) λr L=>aE ?_);rw [aI];refine ⟨⟨rfl,j+1,by omega,by omega,?_⟩,by omega⟩;grind
 ·rw [if_neg (λe=>R (by
   grind))]
  have D:=Hp.le_trans Y B;by_cases A:v=true
  ·rw [if_neg (by rw [A];simp)];have b7:¬j<s.procs.length:=λe=>R ⟨e,A⟩;obtain ⟨G,H⟩:=hv.1 A;obtain ⟨g3,g4⟩:=a8.1 G;refine yes _ D ⟨f,hA.1 g3,g4,λp i z u o=>H p i z u (by grind) o⟩
  ·have b6:v=false:=by simpa using A
   rw [if_pos (by rw [b6];rfl)];exact no _ D λm=>A (hv.2 ⟨a8.2 ⟨hA.2 m.2.1,m.2.2.1⟩,λp i z u _=>m.2.2.2 p i z u⟩)
end
structure dR where
 R:Hp->(Nat->Prop)->Prop
 same:∀ {k k':Hp} {F:Nat->Prop},R k F->(∀b,F b->k' b=k b)->R k' F
 known:∀ {k:Hp} {F:Nat->Prop},R k F->∀b,F b->k b≠none
def Has (h0:Hp) (A:dR) (k:Hp):Prop:=h0<=k/\∃F,A.R k F/\∀b,F b->h0 b=none
def dR.star (A B:dR):dR where
 R k F:=∃f g:Nat->Prop,(∀b,F b↔f b\/g b)/\(∀b,f b->¬g b)/\A.R k f/\B.R k g
 same:=by rintro k i F ⟨f,g,e,d,a,b⟩ h;exact ⟨f,g,e,d,A.same a λc hc=>h c ((e c).2 (.inl hc)),B.same b λc hc=>h c ((e c).2 (.inr hc))⟩
 known:=by
  rintro k F ⟨f,g,e,d,a,b⟩ c hc;rcases (e c).1 hc with hc | hc
  ·exact A.known a c hc
  ·exact B.known b c hc
def dR.fact (p:Prop):dR:=⟨λ_ F=>p/\∀b,¬F b,λh _=>h,λh b hb=>absurd hb (h.2 b)⟩
def dR.some_ {b:Type} (A:b->dR):dR:=⟨λk F=>∃x,(A x).R k F,λ⟨x,h⟩ a=>⟨x,(A x).same h a⟩,λ⟨x,h⟩=>(A x).known h⟩
def dR.first (A:Nat->dR):Nat->dR
 | 0=>.fact True
 | n+1=>(dR.first A n).star (A n)
noncomputable def Hp.less (k:Hp) (F:Nat->Prop):Hp:=λb=>open Classical in if F b then none else k b
theorem Hp.tH {k:Hp} {F:Nat->Prop}:k.less F<=k:=λb o e=>by unfold Hp.less at e;grind
theorem Hp.nl {k:Hp} {F:Nat->Prop} {b:Nat} (h:¬F b):k.less F b=k b:=if_neg h
theorem Hp.tG {k:Hp} {F:Nat->Prop} {b:Nat} (h:F b):k.less F b=none:=if_pos h
section
variable {h0 h1 k f:Hp} {A g B C D:dR}
theorem Has.le (o:Has h0 A k):h0<=k:=o.1
theorem Has.fst (o:Has h0 (A.star B) k):∃h1,h0<=h1/\Has h1 A k/\(∃i,B.R h1 i/\∀b,i b->h0 b=none)/\∀g f,Has h1 g f->Has h0 (g.star B) f:=by
 obtain ⟨w,F,⟨l,i,e,d,a,b⟩,u⟩:=o;have n:B.R (k.less l) i:=B.same b λc hc=>Hp.nl λh=>d c h hc;have f2:∀b,i b->h0 b=none:=λc hc=>u c ((e c).2 (.inr hc));have p:h0<=k.less l:=λc j m=>by
  have:¬l c:=λh=>by grind
  rw [Hp.nl this];exact w c j m
 refine ⟨k.less l,p,⟨Hp.tH,l,a,λc hc=>Hp.tG hc⟩,⟨i,n,f2⟩,λg f j=> ?_⟩;obtain ⟨r,q,s,v⟩:=j;refine ⟨Hp.le_trans p r,λc=>q c\/i c,⟨q,i,λ_=>Iff.rfl,λc hc t=> ?_,s,B.same n λc hc=> ?_⟩,λc hc=> ?_⟩
 ·exact B.known n c t (v c hc)
 ·cases m:(k.less l) c with
  | none=>exact absurd m (B.known n c hc)
  | some j=>exact r c j m
 ·rcases hc with hc | hc
  ·cases m:h0 c with
   | none=>rfl
   | some j=>have:=p c j m;grind
  ·exact f2 c hc
theorem Has.map (h:∀k F,A.R k F->g.R k F) (o:Has h0 A k):Has h0 g k:=by obtain ⟨c,F,a,b⟩:=o;exact ⟨c,F,h k F a,b⟩
theorem FO {F:Nat->Prop} (h:(A.star B).R k F):(B.star A).R k F:=by obtain ⟨i,j,e,d,a,b⟩:=h;exact ⟨j,i,λc=>(e c).trans or_comm,λc h1 l=>d c l h1,b,a⟩
theorem yJ {F:Nat->Prop} (h:((A.star B).star C).R k F):(A.star (B.star C)).R k F:=by
 obtain ⟨o,j,e,d,⟨n,i,l,p,a,b⟩,c⟩:=h;refine ⟨n,λx=>i x\/j x,λx=> ?_,λx h1 m=> ?_,a,i,j,λ_=>Iff.rfl,λx h1 m=>d x ((l x).2 (.inr h1)) m,b,c⟩
 ·rw [e,l,or_assoc]
 grind
theorem FP {F:Nat->Prop} (j:∀F,A.R k F->C.R k F) (hb:∀F,B.R k F->D.R k F) (h:(A.star B).R k F):(C.star D).R k F:=by obtain ⟨c,i,e,d,a,b⟩:=h;exact ⟨c,i,e,d,j _ a,hb _ b⟩
theorem Has.comm (o:Has h0 (A.star B) k):Has h0 (B.star A) k:=o.map λ_ _=>FO
theorem Has.assoc (o:Has h0 ((A.star B).star C) k):Has h0 (A.star (B.star C)) k:=o.map λ_ _=>yJ
theorem Has.Bs (o:Has h0 (A.star (B.star C)) k):Has h0 ((A.star B).star C) k:=o.map λ_ _ h=>FO (yJ (FO (yJ (FO h))))
theorem Has.snd (o:Has h0 (A.star B) k):∃h1,h0<=h1/\Has h1 B k/\(∃h,A.R h1 h/\∀b,h b->h0 b=none)/\∀e f,Has h1 e f->Has h0 (A.star e) f:=by obtain ⟨h1,a,b,c,d⟩:=o.comm.fst;exact ⟨h1,a,b,c,λe f i=>(d e f i).comm⟩
theorem Has.left (o:Has h0 (A.star B) k):Has h0 A k:=by obtain ⟨l,F,⟨h,m,e,d,a,b⟩,j⟩:=o;exact ⟨l,h,a,λc i=>j c ((e c).2 (.inl i))⟩
theorem Has.right (o:Has h0 (A.star B) k):Has h0 B k:=o.comm.left
theorem Has.mono (o:Has h1 A k) (c:h0<=h1):Has h0 A k:=by obtain ⟨h,F,a,d⟩:=o;exact ⟨Hp.le_trans c h,F,a,λb hb=>tY c (d b hb)⟩
theorem Has.grow (o:Has h0 A k) (c:k<=f):Has h0 A f:=by
 obtain ⟨h,F,a,d⟩:=o;refine ⟨Hp.le_trans h c,F,A.same a λb hb=> ?_,d⟩;cases e:k b with
 | none=>exact absurd e (A.known a b hb)
 | some i=>exact c b i e
theorem Has.beside (o:Has h0 A k) (n:Has k B f):Has h0 (A.star B) f:=by
 obtain ⟨h,F,a,l⟩:=o;obtain ⟨i,G,b,d⟩:=n;refine ⟨Hp.le_trans h i,λc=>F c\/G c,⟨F,G,λ_=>Iff.rfl,λc h1 j=>A.known a c h1 (d c j),A.same a λc hc=> ?_,b⟩,λc hc=> ?_⟩
 ·cases e:k c with
  | none=>exact absurd e (A.known a c hc)
  | some m=>exact i c m e
 ·rcases hc with hc | hc
  ·exact l c hc
  ·exact tY h (d c hc)
theorem Has.carry {X:dR} (put:∀f,Has h1 A f->Has h0 X f) (o:Has h1 (A.star B) k):Has h0 (X.star B) k:=by
 obtain ⟨p,F,⟨l,j,e,d,a,b⟩,n⟩:=o;have ol:Has h1 A (k.less j):=⟨λc r m=>by
  have q:¬j c:=λh=>by grind
  rw [Hp.nl q];exact p c r m,l,A.same a λc i=>Hp.nl (λh=>d c i h),λc i=>n c ((e c).2 (.inl i))⟩
 exact (put _ ol).beside ⟨Hp.tH,j,b,λc i=>Hp.tG i⟩
theorem Has.fact {p:Prop} (hp:p) (a:h0<=k):Has h0 (.fact p) k:=⟨a,λ_=>False,⟨hp,λ_ h=>h⟩,λ_ h=>h.elim⟩
theorem Has.vY {p:Prop} (o:Has h0 (.fact p) k):p:=by obtain ⟨_,_,h,_⟩:=o;exact h.1
theorem Has.fB {p:Prop} (o:Has h0 A k) (hp:p):Has h0 (A.star (.fact p)) k:=o.beside (Has.fact hp (Hp.le_refl _))
theorem Has.jP {p:Prop} (o:Has h0 (A.star (.fact p)) k):Has h0 A k/\p:=⟨o.left,o.right.vY⟩
theorem Has.ex {d:Type} {A:d->dR}:Has h0 (.some_ A) k↔∃x,Has h0 (A x) k:=
 ⟨λ⟨c,F,⟨x,a⟩,b⟩=>⟨x,c,F,a,b⟩,λ⟨x,c,F,a,b⟩=>⟨c,F,⟨x,a⟩,b⟩⟩
end
theorem tW {A B:Nat->dR}:∀ {n:Nat},(∀i,i<n->A i=B i)->dR.first A n=dR.first B n
 | 0,_=>rfl
 | n+1,h=>by show (dR.first A n).star (A n)=(dR.first B n).star (B n);rw [tW λi hi=>h i (by omega),h n (by omega)]
section
variable {h0 k:Hp} {A:Nat->dR} {B:dR}
theorem Has.one {n i:Nat} (hi:i<n) (o:Has h0 (dR.first A n) k):∃f,h0<=f/\Has f (A i) k/\(∀j,j<n->j≠i->∃l,(A j).R f l)/\∀g h,Has f g h->Has h0 (dR.first (dd A i g) n) h:=by
 induction n generalizing h0 with
 | zero=>omega
 | succ n r=>
  by_cases e:i=n
  ·subst e;obtain ⟨f,a,b,c,d⟩:=Has.snd o;obtain ⟨l,H,x⟩:=c;refine ⟨f,a,b,λj q G=> ?_,λg h p=> ?_⟩
   ·have key:∀m (F:Nat->Prop),(dR.first A m).R f F->j<m->∃l,(A j).R f l:=by
     intro m
     induction m with
     | zero=>intro F _ q;omega
     | succ m r=>
      rintro F ⟨u,v,_,_,C,D⟩ q;by_cases e:j=m
      ·subst e;exact ⟨v,D⟩
      ·exact r u C (by omega)
    grind
   ·have:=d g h p;show Has h0 ((dR.first (dd A i g) i).star (dd A i g i)) h;rw [lS,tW (B:=A) λj q=>lz (by omega)];exact this
  ·obtain ⟨f,a,b,c,d⟩:=Has.fst o;obtain ⟨E,a2,w,x,y⟩:=r (h0:=f) (by omega) b;obtain ⟨l,s,I⟩:=c;refine ⟨E,Hp.le_trans a a2,w,λj q G=> ?_,λg h p=> ?_⟩
   ·by_cases z:j=n
    ·subst z;refine ⟨l,(A j).same s λb hb=> ?_⟩;cases t:f b with
     | none=>exact absurd t ((A j).known s b hb)
     | some p=>exact a2 b p t
    grind
   ·have:=d _ _ (y g h p);show Has h0 ((dR.first (dd A i g) n).star (dd A i g n)) h;rw [lz (by omega)];exact this
theorem Has.at_ {n i:Nat} (hi:i<n) (o:Has h0 (dR.first A n) k):Has h0 (A i) k:=by obtain ⟨c,a,b,_,_⟩:=o.one hi;exact b.mono a
end
def Bh (b:Nat) (a:List Value):dR:=⟨λk F=>fb k b a/\∀c,F c↔c=b,λh f=>⟨h.1.imp λt e=>(by grind),h.2⟩,λh c d=>by rw [(h.2 c).1 d];exact h.1.known⟩
theorem Has.eV {d k:Hp} {b:Nat} {c:List Value} (o:Has d (Bh b c) k):fb k b c/\d b=none:=by obtain ⟨_,F,⟨a,e⟩,f⟩:=o;grind
theorem Has.Gw {a k:Hp} {b:Nat} {d:List Value} (f:a<=k) (hb:fb k b d) (g:a b=none):Has a (Bh b d) k:=
 ⟨f,λc=>c=b,⟨hb,λ_=>Iff.rfl⟩,λc e=>by rw [e];exact g⟩
def dJ (sh:Shape) (p:Addr) (x:sh.T):dR:=(Bh p.block (ba (sh.enc x))).star (.fact (p=⟨p.block,0,none⟩))
section
variable {h0 k:Hp} {sh:Shape} {p:Addr} {x:sh.T}
theorem Has.qw (o:Has h0 (dJ sh p x) k):∃b,p=⟨b,0,none⟩/\fb k b (ba (sh.enc x))/\h0 b=none:=⟨p.block,o.right.vY,(Has.left o).eV⟩
theorem Has.AU {b:Nat} (a:h0<=k) (hb:fb k b (ba (sh.enc x))) (c:h0 b=none):Has h0 (dJ sh ⟨b,0,none⟩ x) k:=(Has.Gw a hb c).fB rfl
theorem Has.ld (o:Has h0 (dJ sh p x) k) {shf:Shape} (v:shf.T) {off:Nat} (hv:((ba (sh.enc x)).drop off).take (ba (shf.enc v)).length=ba (shf.enc v)) {K:shf.T->Prop} (a:K v):aD none shf k (p.add off) K:=by obtain ⟨b,rfl,hb,_⟩:=o.qw;refine ⟨v,?_,a⟩;rw [km,Nat.zero_add];exact hb.fw hv
theorem Has.uZ (o:Has h0 (dJ sh p x) k) {shf:Shape} (v:shf.T) (hv:(ba (sh.enc x)).take (ba (shf.enc v)).length=ba (shf.enc v)) {K:shf.T->Prop} (a:K v):aD none shf k p K:=by obtain ⟨b,rfl,hb,_⟩:=o.qw;exact ⟨v,hb.fw (off:=0) (by simpa using hv),a⟩
theorem Has.mE (o:Has h0 (dJ sh p x) k) {shf:Shape} {c:Bool} (v:shf.T) {off:Nat} (hv:((ba (sh.enc x)).drop off).take (ba (shf.enc v)).length=ba (shf.enc v)) {K:shf.T->Prop} (a:K v):aD (some c) shf k (p.add off) K:=by obtain ⟨b,rfl,hb,_⟩:=o.qw;refine ⟨v,λ_=> ?_,a⟩;rw [km,Nat.zero_add];exact hb.fw hv
theorem Has.eM (o:Has h0 (dJ sh p x) k) {off n:Nat} {vs:List Value} (hv:((ba (sh.enc x)).drop off).take n=vs):aR k (p.add off) vs:=by obtain ⟨b,rfl,hb,_⟩:=o.qw;rw [km,Nat.zero_add];exact hb.fw hv
theorem Has.st (o:Has h0 (dJ sh p x) k) (x':sh.T) {off:Nat} {new:List Value} (g:off+new.length<=(ba (sh.enc x)).length) (l:(ba (sh.enc x)).take off++new++(ba (sh.enc x)).drop (off+new.length)=ba (sh.enc x'))
  {K:Hp->Prop} (f:∀a,Has h0 (dJ sh p x') a->K a):cl k (p.add off) new K:=by
 obtain ⟨b,rfl,hb,h⟩:=o.qw;rw [km,Nat.zero_add];refine uS hb g λa m i=>f a (Has.AU (λc d e=> ?_) (by grind) h);exact m.cT c d (o.1 c d e) λj=>by grind
theorem Has.BS (o:Has h0 (dJ sh p x) k) (a:sh.T) {new:List Value} (f:new.length<=(ba (sh.enc x)).length) (g:new++(ba (sh.enc x)).drop new.length=ba (sh.enc a))
  {K:Hp->Prop} (d:∀c,Has h0 (dJ sh p a) c->K c):cl k p new K:=by
 obtain ⟨b,e,_⟩:=o.qw;have:=o.st a (off:=0) (new:=new) (by omega) (by grind) d;subst e;simpa [km] using this
theorem rQ {k:Hp} (x:sh.T) {c:List Value} (d:c=ba (sh.enc x)) {K:Addr->Hp->Prop} (e:∀p a,k<=a->Has k (dJ sh p x) a->K p a):bG c K k:=by intro b t hb;refine e _ _ (lx hb) ?_;exact Has.AU (lx hb) ⟨t,by rw [<-d];exact kK⟩ hb
end
def dA {g:Type} (sz:Nat) (enc:g->List Value) (l:Sl) (xs:List g):dR where
 R k F:=l.len=xs.length/\l.len<=l.cap/\((l.base=none/\l.cap=0/\∀b,¬F b)\/∃(b off:Nat) (cs:List Value),l.base=some ⟨b,off,none⟩/\(∀c,F c↔c=b)/\fb k b cs/\off+l.cap*sz<=cs.length/\(cs.drop off).take (l.len*sz)=xs.flatMap enc)
 same:=by rintro k p F ⟨j,m,d⟩ o;refine ⟨j,m,d.imp id ?_⟩;rintro ⟨b,off,cs,e,a,⟨t,f⟩,i⟩;exact ⟨b,off,cs,e,a,⟨t,by grind⟩,i⟩
 known:=by
  rintro k F ⟨_,_,d⟩ c n;rcases d with ⟨_,_,h⟩ | ⟨b,off,cs,e,a,f,_⟩
  ·grind
  ·rw [(a c).1 n];exact f.known
section
variable {α:Type} {h0 k:Hp} {sz:Nat} {enc:α->List Value} {l:Sl} {xs:List α}
theorem Has.j5 {h0 k:Hp} (a:h0<=k):Has h0 (dA sz enc ⟨none,0,0⟩ ([]:List α)) k:=⟨a,λ_=>False,⟨rfl,Nat.le_refl _,.inl ⟨rfl,rfl,λ_ h=>h⟩⟩,λ_ h=>h.elim⟩
theorem Has.iy (o:Has h0 (dA sz enc l xs) k):l.len=xs.length:=by obtain ⟨_,_,h,_⟩:=o;exact h.1
theorem Has.wv (o:Has h0 (dA sz enc l xs) k):l.len<=l.cap:=by obtain ⟨_,_,h,_⟩:=o;exact h.2.1
theorem Has.jW (o:Has h0 (dA sz enc l xs) k) (c:∀x,(enc x).length=sz):Rw k sz enc l xs:=by
 obtain ⟨_,F,⟨h1,h,a⟩,_⟩:=o;refine ⟨h1,iW c xs,?_⟩;rcases a with ⟨e,g,_⟩ | ⟨b,off,f,e,_,hb,i,d⟩
 ·grind
 ·right;exact ⟨_,e,hb.fw (n:=l.len*sz) d⟩
theorem Has.vZ {b:Nat} {cs:List Value} (h:h0<=k) (i:h0 b=none) (hb:fb k b cs) (f:l.base=some ⟨b,0,none⟩) (a:l.len=xs.length) (d:l.len<=l.cap) (j:cs.length=l.cap*sz) (e:cs.take (l.len*sz)=xs.flatMap enc):Has h0 (dA sz enc l xs) k:=
 ⟨h,λc=>c=b,⟨a,d,.inr ⟨b,0,cs,f,λ_=>Iff.rfl,hb,by omega,by simpa using e⟩⟩,λc g=>by rw [g];exact i⟩
theorem Has.BK {F:List Nat} (o:db k sz enc l xs F) (d:h0<=k) (j:∀b∈F,h0 b=none):Has h0 (dA sz enc l xs) k:=by
 obtain ⟨a,c,g⟩:=o;rcases g with ⟨e,f,rfl⟩ | ⟨b,n,e,rfl,hb,i,m⟩
 ·exact ⟨d,λ_=>False,⟨a,c,.inl ⟨e,f,λ_ h=>h⟩⟩,λ_ h=>h.elim⟩
 ·exact Has.vZ d (j b (List.mem_singleton.2 rfl)) hb e a c i m
theorem mr {k:Hp} {cs:List Value} {K:Addr->Hp->Prop} (d:cs=xs.flatMap enc) (e:∀x,(enc x).length=sz) (f:∀a c,k<=c->Has k (dA sz enc ⟨some a,xs.length,xs.length⟩ xs) c->K a c):bG cs K k:=by intro b t hb;refine f _ _ (lx hb) (Has.vZ (b:=b) (cs:=cs) (lx hb) hb ⟨t,kK⟩ rfl rfl (Nat.le_refl _) (by rw [d,iW e]) ?_);rw [d];show List.take (xs.length*sz) _=_;rw [<-iW e xs,List.take_length]
theorem Has.app {zero:List Value} {bytes:Nat} {x:Sl} {d:List α} {K:Sl->Hp->Prop} (o:Has h0 (dA sz enc l xs) k) (r:Rw k sz enc x d) (f:∀x,(enc x).length=sz) (J:∀x,iX (enc x)=true)
  (N:zero.length=sz) (hb:xs.length+d.length<=140737488355328/\(xs.length+d.length)*bytes<=140737488355328)
  (q:∀z y,Has h0 (dA sz enc z (xs++d)) y->K z y):gv sz bytes zero l x K k:=by
 have L:=o.jW f;obtain ⟨i,F,⟨h1,D,E⟩,p⟩:=o;obtain ⟨g,X⟩:=r;refine ⟨d.flatMap enc,by grind,xs.flatMap enc,by rw [h1];exact L.2,by grind,sP J d,λw=> ?_,λw c b t G v=> ?_⟩
 ·rcases E with ⟨e,m,h⟩ | ⟨b,off,cs,e,h,u,T,M⟩
  ·have A:d.length=0:=by omega
   have B:d=[]:=List.length_eq_zero_iff.1 A;subst B;refine ⟨λa n=>(by grind),?_⟩;have j:gu k l.base (l.len*sz) (([]:List α).flatMap enc)=k:=by rw [e];rfl
   rw [j,g];exact q _ k ⟨i,F,⟨by simp [h1],by simpa using D,.inl ⟨e,m,h⟩⟩,p⟩
  ·have V:l.len*sz+(d.flatMap enc).length<=l.cap*sz:=by rw [iW f,<-Nat.add_mul];exact Nat.mul_le_mul_right sz (by omega)
   obtain ⟨P,Q⟩:=u.put (off:=off+l.len*sz) (new:=d.flatMap enc) (by omega);have W:h0 b=none:=p b ((h b).2 rfl);refine ⟨λa n=> ?_,?_⟩
   ·rw [e] at n;cases n;rw [km];refine u.sK _ ?_;rw [g,<-iW f d];omega
   ·have j:gu k l.base (l.len*sz) (d.flatMap enc)=ki k ⟨b,off+l.len*sz,none⟩ (d.flatMap enc) 0:=by rw [e];simp only [gu,km]
    rw [j];refine q _ _ ⟨λc O m=> ?_,F,⟨by simp [h1,g],w,.inr ⟨b,off,_,e,h,P,?_,?_⟩⟩,p⟩
    ·have I:c≠b:=λR=>by grind
     rw [Q c I];exact i c O m
    ·grind
    ·have U:off+l.len*sz<=cs.length:=by omega
     have s:(l.len+x.len)*sz=l.len*sz+(d.flatMap enc).length:=by rw [g,iW f,Nat.add_mul]
     have C:(cs.take (off+l.len*sz)).drop off=xs.flatMap enc:=by rw [List.drop_take,<-M];congr 1;omega
     show List.take ((l.len+x.len)*sz) _=_;rw [s,List.append_assoc,List.drop_append_of_le_length (by rw [List.length_take];omega),C,List.flatMap_append,<-List.append_assoc];have S:l.len*sz+(d.flatMap enc).length=(xs.flatMap enc++d.flatMap enc).length:=by rw [List.length_append,iW f xs,h1]
     grind
 ·have H:h0 b=none:=tY i v;refine q _ _ (Has.vZ (b:=b) (cs:=xs.flatMap enc++d.flatMap enc++fm zero (c-(l.len+x.len))) (Hp.le_trans i (lx v)) H ⟨t,kK⟩ rfl (by simp [h1,g]) G ?_ ?_)
  ·rw [List.length_append,List.length_append,iW f,iW f,zB,N,<-Nat.add_mul,<-Nat.add_mul];grind
  ·have s:(l.len+x.len)*sz=(xs.flatMap enc++d.flatMap enc).length:=by rw [List.length_append,iW f,iW f,h1,g,Nat.add_mul]
   grind
theorem Has.push {zero:List Value} {bytes:Nat} {e:α} {cs:List Value} {K:Sl->Hp->Prop} (o:Has h0 (dA sz enc l xs) k) (g:cs=enc e) (b:∀x,(enc x).length=sz) (j:∀x,iX (enc x)=true)
  (m:zero.length=sz) (hb:xs.length+1<=140737488355328/\(xs.length+1)*bytes<=140737488355328)
  (h:∀f c,Has h0 (dA sz enc f (xs++ [e])) c->K f c):bG cs (λa d=>gv sz bytes zero l ⟨some a,1,1⟩ K d) k:=by
 refine mr (xs:=[e]) (sz:=sz) (enc:=enc) (by rw [g];simp) b λa d i n=> ?_;exact (o.grow i).app (n.jW b) b j m hb h
theorem Has.xY (o:Has h0 (dA sz enc l xs) k) (i:∀x,(enc x).length=sz) {n c:Nat} (w:n<=xs.length) (t:n<=c) (u:c<=l.cap):Has h0 (dA sz enc ⟨aV l.base sz 0 c,n-0,c-0⟩ (xs.take n)) k:=by
 obtain ⟨m,F,⟨r,s,g⟩,j⟩:=o;have hb:aV l.base sz 0 c=l.base:=by
  unfold aV;split
  ·rfl
  ·cases l.base with
   | none=>rfl
   | some a=>obtain ⟨b,off,sp⟩:=a;simp [Addr.add]
 refine ⟨m,F,⟨by simp;omega,by simp;omega,?_⟩,j⟩;rw [hb];rcases g with ⟨e,q,d⟩ | ⟨b,off,f,e,d,h,v,p⟩
 ·grind
 ·refine .inr ⟨b,off,f,e,d,h,?_,?_⟩
  ·have:(c-0)*sz<=l.cap*sz:=Nat.mul_le_mul_right sz (by omega);grind
  ·show List.take ((n-0)*sz) _=_;rw [zJ i,<-p,List.take_take];congr 1;have:n*sz<=l.len*sz:=Nat.mul_le_mul_right sz (by omega);grind
theorem Has.qj {a:α} {r:List α} (o:Has h0 (dA sz enc l (a::r)) k) (y:∀x,(enc x).length=sz) {c:Nat} (v:l.len<=c) (w:c<=l.cap):Has h0 (dA sz enc ⟨aV l.base sz 1 c,l.len-1,c-1⟩ r) k:=by
 obtain ⟨n,F,⟨h1,u,j⟩,m⟩:=o;have p:l.len=r.length+1:=by simpa using h1
 refine ⟨n,F,⟨by grind,by grind,?_⟩,m⟩;rcases j with ⟨e,t,d⟩ | ⟨b,off,f,e,d,g,z,s⟩
 ·omega
 ·by_cases h:c=1
  ·have q:r=[]:=List.length_eq_zero_iff.1 (by omega);subst q;refine .inr ⟨b,off,f,?_,d,g,?_,?_⟩
   ·show aV l.base sz 1 c=_;unfold aV;rw [if_pos h];exact e
   ·show off+(c-1)*sz<=_;have:(c-1)*sz<=l.cap*sz:=Nat.mul_le_mul_right sz (by omega);omega
   grind
  ·refine .inr ⟨b,off+1*sz,f,?_,d,g,?_,?_⟩
   ·show aV l.base sz 1 c=_;rw [e,uM h]
   ·show off+1*sz+(c-1)*sz<=_;have:1*sz+(c-1)*sz<=l.cap*sz:=by rw [<-Nat.add_mul];exact Nat.mul_le_mul_right sz (by omega)
    omega
   ·show List.take ((l.len-1)*sz) _=_;have i:(List.flatMap enc (a::r)).drop sz=r.flatMap enc:=by grind
    rw [<-i,<-s,List.drop_take,List.drop_drop,Nat.one_mul];congr 1;rw [p,Nat.add_mul,Nat.one_mul];simp
theorem S7 (b:∀x,(enc x).length=sz) {off n:Nat} {a:List Value} (g:n=xs.length) (e:off+n*sz<=a.length) (c:(a.drop off).take (n*sz)=xs.flatMap enc) {i:Nat} (hi:i<xs.length) (x:α):
  ((a.take (off+i*sz)++enc x++a.drop (off+i*sz+sz)).drop off).take (n*sz)=(xs.set i x).flatMap enc:=by
 have f:i*sz+sz<=n*sz:=by have:=Nat.mul_le_mul_right sz (show i+1<=n by omega);rw [Nat.add_mul,Nat.one_mul] at this;exact this
 rw [DH x hi,List.flatMap_append,List.flatMap_cons,zJ b,zH b,<-c];have t1:((a.take (off+i*sz)).drop off)=(a.drop off).take (i*sz):=by rw [List.drop_take];congr 1;omega
 rw [List.append_assoc,List.drop_append_of_le_length (by rw [List.length_take];omega),t1,List.take_take,Nat.min_eq_left (by omega)];have d:((a.drop off).take (i*sz)).length=i*sz:=by rw [List.length_take,List.length_drop];omega
 rw [List.take_append,d,List.take_of_length_le (by omega),List.take_append,b,List.take_of_length_le (l:=enc x) (by rw [b];omega)];congr 2;rw [List.drop_take,List.drop_drop];grind
theorem Has.yn (o:Has h0 (dA sz enc l xs) k) (g:∀x,(enc x).length=sz) {i:Nat} {x x':α} (r:xs[i]? =some x) {off:Nat} {new:List Value} (R:off+new.length<=sz) (L:(enc x).take off++new++(enc x).drop (off+new.length)=enc x')
  {K:Hp->Prop} (I:∀j,Has h0 (dA sz enc l (xs.set i x')) j->K j):cl k ((sat l.base sz (i:Int)).add off) new K:=by
 have hi:i<xs.length:=(List.getElem?_eq_some_iff.1 r).1;obtain ⟨J,F,⟨s,f,n⟩,v⟩:=o;rcases n with ⟨e,h,q⟩ | ⟨b,a,d,e,q,G,O,z⟩
 ·omega
 ·have M:h0 b=none:=v b ((q b).2 rfl);have P:i*sz+sz<=l.len*sz:=by have:=Nat.mul_le_mul_right sz (show i+1<=l.len by omega);rw [Nat.add_mul,Nat.one_mul] at this;exact this
  have Q:l.len*sz<=l.cap*sz:=Nat.mul_le_mul_right sz f;have E:(sat l.base sz (i:Int)).add off=⟨b,a+i*sz+off,none⟩:=by unfold sat;rw [e,Option.getD_some,km,km,Int.toNat_natCast]
  rw [E];have N:(d.drop (a+i*sz)).take sz=enc x:=by
   have f:(xs.drop i).flatMap enc=enc x++(xs.drop (i+1)).flatMap enc:=by rw [List.drop_eq_getElem_cons hi,List.flatMap_cons];rw [List.getElem?_eq_getElem hi] at r;rw [Option.some.inj r]
   have n:(xs.drop i).flatMap enc=(d.drop (a+i*sz)).take (l.len*sz-i*sz):=by rw [zH g,<-z,List.drop_take,List.drop_drop]
   rw [n] at f;have p:=congrArg (List.take sz) f;rw [List.take_take,Nat.min_eq_left (by omega),<-g x,List.take_left] at p;rw [g x] at p;exact p
  have u:d=d.take (a+i*sz)++(enc x++d.drop (a+i*sz+sz)):=by
   have D:d.drop (a+i*sz+sz)=(d.drop (a+i*sz)).drop sz:=by rw [List.drop_drop]
   rw [<-N,D,List.take_append_drop,List.take_append_drop]
  have w:(d.take (a+i*sz)).length=a+i*sz:=by rw [List.length_take];omega
  have y:(enc x).length=sz:=g x;have B:d.take (a+i*sz+off)=d.take (a+i*sz)++(enc x).take off:=by
   conv=>lhs;rw [u]
   rw [List.take_append,w,List.take_of_length_le (by omega),List.take_append,y,show a+i*sz+off-(a+i*sz)=off by omega,show off-sz=0 by omega,List.take_zero,List.append_nil]
  have C:d.drop (a+i*sz+off+new.length)=(enc x).drop (off+new.length)++d.drop (a+i*sz+sz):=by
   conv=>lhs;rw [u]
   rw [List.drop_append,w,List.drop_eq_nil_of_le (by omega),List.nil_append,List.drop_append,y,show a+i*sz+off+new.length-(a+i*sz)=off+new.length by omega,show off+new.length-sz=0 by omega,List.drop_zero]
  refine uS G (by omega) λj m t=> ?_;rw [B,C,show d.take (a+i*sz)++(enc x).take off++new++((enc x).drop (off+new.length)++d.drop (a+i*sz+sz))=d.take (a+i*sz)++enc x'++d.drop (a+i*sz+sz) by rw [<-L];simp] at t;refine I j ⟨λc A h=>m.cT c A (J c A h) (λH=>(by rw [List.mem_singleton.1 H,M] at h;cases h)),F,⟨by simp [s],f,.inr ⟨b,a,_,e,q,t,?_,S7 g s (by omega) z hi x'⟩⟩,v⟩;grind
end
section
variable {P:Program} {α:Type} {h0 k:Hp} {sz:Nat} {enc:α->List Value} {s:Sl} {xs:List α}
theorem Mz {g q bytes:Nat} {zero:List Value} {x y:Operand} {Q:Sl->Hp->Prop} (m:P.underlying g=some (.slice q)) (r:Rw k sz enc s xs) (w:0<sz) (d:∀x,(enc x).length=sz) (l:∀x,iX (enc x)=true) (p:zero.length=sz)
  (hb:xs.length<=140737488355328/\xs.length*bytes<=140737488355328) (f:∀c b,k<=b->Has k (dA sz enc c xs) b->Q c b):
  jj none P (dt .eql g x y s.v (.slice none 0 0)) aW k λx=>(if x=true then Q ⟨none,0,0⟩ k else bG [] (λa h=>gv sz bytes zero ⟨(some a),0,0⟩ s (λr i=>Q r i) h) k):=by
 refine ⟨s.base.isNone,MP m s,?_⟩;cases u:s.base with
 | none=>
  rw [if_pos (show (none:Option Addr).isNone=true from rfl)];have:xs=[]:=by
   rcases r.2.2 with e | ⟨a,t,_⟩
   ·exact List.length_eq_zero_iff.1 ((Nat.mul_eq_zero.1 e).resolve_right (by omega))
   grind
  subst this;exact f _ k (Hp.le_refl k) (Has.j5 (Hp.le_refl k))
 | some a=>rw [iT];refine mr (xs:=([]:List α)) (enc:=enc) (sz:=sz) rfl d λa z j n=> ?_;refine n.app (Rw.mono j r) d l p (by simpa using hb) λc b o=> ?_;exact f c b o.le (by simpa using o)
def iO (f:α->Bool) (xs:List α):Int:=match xs.findIdx? f with
 | some i=>i
 | none=> -1
theorem Cd (f:α->Bool):∀xs:List α,iD f xs=if 0<=iO f xs then xs.take (iO f xs).toNat++xs.drop ((iO f xs).toNat+1) else xs
 | []=>by simp [iD,iO]
 | a::l=>by
  unfold iD;by_cases h:f a=true
  ·have:iO f (a::l)=0:=by unfold iO;grind
   rw [if_pos h,this];simp
  ·have b:=Cd f l;rw [if_neg h,b];unfold iO;grind
theorem JK {f:α->Bool} {xs:List α} (h:0<=iO f xs):iO f xs<xs.length:=by
 unfold iO at*;cases e:xs.findIdx? f with
 | none=>grind
 | some i=>have:=(List.findIdx?_eq_some_iff_getElem.1 e).1;grind
theorem JL {f:α->Bool} {xs:List α} {t:Nat} {x:α} (c:xs[t]? =some x) (a:f x=true) (b:∀(j:Nat) y,j<t->xs[j]? =some y->f y=false):iO f xs=t:=by
 have:xs.findIdx? f=some t:=by rw [List.findIdx?_eq_some_iff_getElem];grind
 unfold iO;rw [this]
theorem yY {f:α->Bool} {xs:List α} (a:∀x∈xs,f x=false):iO f xs= -1:=by have:xs.findIdx? f=none:=List.findIdx?_eq_none_iff.2 a;unfold iO;rw [this]
theorem Has.GF {bytes r G:Nat} {z:Value} {i j:Nat} {Q:Sl->Hp->Prop} (ht:P.underlying r=some (.slice G)) (b0:∀ {K:Value->Hp->Prop} {h:Hp},K z h->dg P (zeroValue G) K h) (e:∀x,(enc x).length=sz) (X:∀x,iX (enc x)=true) (hz:(ba z).length=sz) (a9:∀n,iX (fm (ba z) n)=true)
  (o:Has h0 (dA sz enc s xs) k) (b6:i<j) (T:j<=xs.length) (hb:xs.length<=140737488355328/\xs.length*bytes<=140737488355328)
  (Y:∀C A,Has h0 (dA sz enc C (xs.take i++xs.drop j)) A->Q C A):xZ P sz bytes (ba z) r s (i:Int) (j:Int) Q k:=by
 obtain ⟨U,F,⟨hs,c0,L⟩,v⟩:=o;unfold xZ;have it:(i:Int).toNat=i:=by omega
 have jt:(j:Int).toNat=j:=by omega
 have st:(s.len:Int).toNat=xs.length:=by omega
 rw [it,jt,st];refine ⟨by omega,aE ?_⟩;rw [if_neg (show ¬(((i:Int)==(j:Int))=true) by simp;omega)];have l:∀a b:Nat,a<=b->a*sz<=b*sz:=λa b M=>Nat.mul_le_mul_right sz M;have a8:((xs.take i).flatMap enc).length=i*sz:=by rw [iW e,List.length_take];congr 1;omega
 have uw:((xs.drop j).flatMap enc).length=(xs.length-j)*sz:=by rw [iW e,List.length_drop]
 rcases L with ⟨D,oc,_⟩ | ⟨b,off,d,D,u,q,b4,f⟩
 ·omega
 rw [D];rw [hs] at f;have hn:h0 b=none:=v b ((u b).2 rfl);have b5:off+xs.length*sz<=d.length:=by grind
 have N:aV (some (⟨b,off,none⟩:Addr)) sz 0 s.cap=some ⟨b,off,none⟩:=by rw [uM (by omega)];simp
 have b7:=l i xs.length (by omega);have b8:=l j xs.length T;have c3:xs.length*sz=j*sz+(xs.length-j)*sz:=by rw [<-Nat.add_mul];congr 1;omega
 have c2:i*sz<=j*sz:=l _ _ (by omega);have c1:(d.drop off).take (i*sz)=(xs.take i).flatMap enc:=by rw [zJ e,<-f,List.take_take];congr 1;omega
 have b2:pC k (some ⟨b,off,none⟩) ((i-0)*sz) ((xs.take i).flatMap enc):=q.rd a8 (by omega);have b1:pC k (aV (some (⟨b,off,none⟩:Addr)) sz j s.cap) ((xs.length-j)*sz) ((xs.drop j).flatMap enc):=by
  by_cases R:s.cap=j
  ·refine ⟨uw,.inl ?_⟩;grind
  ·rw [uM R];refine q.rd uw ?_;rw [zH e,<-f,List.drop_take,List.drop_drop];grind
 refine ⟨by omega,aE ⟨by omega,aE ?_⟩⟩;rw [N];have V:i-0+(xs.length-j)<=xs.length:=by omega
 have b3:(i-0+(xs.length-j))*bytes<=xs.length*bytes:=Nat.mul_le_mul_right _ V;have y:(⟨aV (some (⟨b,off,none⟩:Addr)) sz j s.cap,s.len-j,s.cap-j⟩:Sl).len=xs.length-j:=by grind
 have g:i-0=i:=by omega
 refine KC (n:=xs.length-j) q b2 (by rw [y];exact b1) y (sP X _) ⟨by omega,by omega⟩ (by omega) (by
  grind) λJ m1 B=> ?_
 rw [g] at B;show ((0:Int)<=((i-0+(xs.length-j):Nat):Int)/\((i-0+(xs.length-j):Nat):Int)<=(s.len:Int)/\(s.len:Int)<=((s.cap-0:Nat):Int))/\aA (α:=Sl) ⟨aV (some ⟨b,off,none⟩) sz (((i-0+(xs.length-j):Nat):Int)).toNat (s.cap-0),xs.length-(((i-0+(xs.length-j):Nat):Int)).toNat,s.cap-0-(((i-0+(xs.length-j):Nat):Int)).toNat⟩ _;refine ⟨by omega,aE ?_⟩;have W:(((i-0+(xs.length-j):Nat):Int)).toNat=i+(xs.length-j):=by omega
 have O:s.cap-0=s.cap:=by omega
 rw [W,O,uM (show s.cap≠i+(xs.length-j) by omega)];have S:xs.length-(i+(xs.length-j))=j-i:=by omega
 have p:(i+(xs.length-j))*sz=i*sz+(xs.length-j)*sz:=Nat.add_mul _ _ _;have w:(d.take (off+i*sz)++(xs.drop j).flatMap enc++d.drop (off+i*sz+(xs.length-j)*sz)).length=d.length:=by grind
 show mU P (Builtin.clear_ #[r] 0 #[.slice (some ⟨b,off+(i+(xs.length-j))*sz,none⟩) (xs.length-(i+(xs.length-j))) (s.cap-(i+(xs.length-j)))]) uf _ J;rw [S];have b9:i*sz+(j-i)*sz=j*sz:=by rw [<-Nat.add_mul];congr 1;omega
 refine Ma ht b0 a9 B (by
  grind) λh2 m2 k2=> ?_
 have Z:(xs.take i++xs.drop j).length=i+(xs.length-j):=by simp;omega
 have m:=m1.trans m2;refine Y _ _ ⟨λc E I=>m.cT c E (U c E I) (λhc=>(by grind)),F,⟨?_,?_,.inr ⟨b,off,_,rfl,u,k2,?_,?_⟩⟩,v⟩
 ·rw [Z,g]
 ·grind
 ·simp only [List.length_append,List.length_take,List.length_drop,w,zB,hz];omega
 ·show List.take ((i-0+(xs.length-j))*sz) _=_;have t1:((d.take (off+i*sz)).drop off)=(xs.take i).flatMap enc:=by grind
  have t:i*sz+(xs.length-j)*sz=((xs.take i).flatMap enc++(xs.drop j).flatMap enc).length:=by grind
  have H:List.drop off (List.take (off+(i+(xs.length-j))*sz) (d.take (off+i*sz)++(xs.drop j).flatMap enc++d.drop (off+i*sz+(xs.length-j)*sz)))=(xs.take i).flatMap enc++(xs.drop j).flatMap enc:=by rw [List.drop_take,show off+(i+(xs.length-j))*sz-off=i*sz+(xs.length-j)*sz by rw [p];omega,List.append_assoc,List.drop_append_of_le_length (by grind),t1,<-List.append_assoc,t,List.take_left]
  rw [g,List.append_assoc,List.drop_append_of_le_length (by rw [List.length_take,w,p];omega),H,p,t,List.flatMap_append,List.take_left]
end
abbrev fC :Int->List Value:=λx=> [.int .i64 x]
abbrev eW :ly->List Value:=λw=> [.int .i64 w.proc,.int .i64 w.value]
def nY (w:ly):bp:=⟨w.proc,w.value⟩
section
variable {h0 k:Hp} {A B C:dR}
theorem Has.f1 (o:Has h0 (A.star (B.star C)) k):∃c,h0<=c/\Has c A k/\∀e f,Has c e f->Has h0 (e.star (B.star C)) f:=by obtain ⟨c,a,b,_,d⟩:=o.fst;grind
theorem Has.f2 (o:Has h0 (A.star (B.star C)) k):∃c,h0<=c/\Has c B k/\∀B' e,Has c B' e->Has h0 (A.star (B'.star C)) e:=by obtain ⟨c,a,b,_,d⟩:=o.snd;obtain ⟨h,a2,f,_,g⟩:=b.fst;exact ⟨h,Hp.le_trans a a2,f,λB' e i=>d _ _ (g _ _ i)⟩
theorem Has.f3 (o:Has h0 (A.star (B.star C)) k):∃h1,h0<=h1/\Has h1 C k/\∀e c,Has h1 e c->Has h0 (A.star (B.star e)) c:=by obtain ⟨h1,a,b,_,d⟩:=o.snd;obtain ⟨h,a2,f,_,g⟩:=b.snd;exact ⟨h,Hp.le_trans a a2,f,λj c i=>d _ _ (g _ _ i)⟩
theorem KT {l:Option Addr} {sz c:Nat}:aV l sz 0 c=l:=by
 unfold aV;split
 ·rfl
 ·cases l with
  | none=>rfl
  | some a=>obtain ⟨b,off,sp⟩:=a;simp [Addr.add]
theorem Has.shift {i:Type} {sz:Nat} {enc:i->List Value} {l:Sl} {a:i} {r:List i} {K:Int->Hp->Prop} (o:Has h0 (dA sz enc l (a::r)) k) (h:∀x,(enc x).length=sz) (D:∀x,iX (enc x)=true)
  (w:∀f,Has h0 (dA sz enc ⟨l.base,r.length,l.cap⟩ r) f->K (r.length:Nat) f):fW sz l ⟨aV l.base sz 1 l.cap,l.len-1,l.cap-1⟩ K k:=by
 have H:=o.iy;have g:=o.wv;have G:=(o.qj h (c:=l.cap) g (Nat.le_refl _)).jW h;obtain ⟨y,F,⟨J,L,t⟩,p⟩:=o;have N:l.len=r.length+1:=by simpa using H
 rcases t with ⟨e,d,_⟩ | ⟨b,off,I,e,j,v,M,P⟩
 ·omega
 ·have z:h0 b=none:=p b ((j b).2 rfl);have O:r.length*sz<=l.cap*sz:=Nat.mul_le_mul_right sz (by omega);have s:l=⟨some ⟨b,off,none⟩,l.len,l.cap⟩:=by cases l;simp at e;subst e;rfl
  have E:(r.flatMap enc).length=r.length*sz:=iW h r;rw [show (fW sz l:Sl->_)=fW sz ⟨some ⟨b,off,none⟩,l.len,l.cap⟩ by rw [<-s]];refine EO (n:=r.length) (new:=r.flatMap enc) v (by show min (l.len-1) l.len=_;omega) G.2 (sP D r) (by omega) λf m u=>w f ⟨λc q d=>m.cT c q (y c q d) (λg=>(by rw [List.mem_singleton.1 g,z] at d;cases d)),F,⟨rfl,by show r.length<=l.cap;omega,.inr ⟨b,off,_,e,j,u,?_,?_⟩⟩,p⟩
  ·simp only [List.length_append,List.length_take,List.length_drop,E];show off+l.cap*sz<=_;omega
  grind
theorem Rw.map {α β:Type} {sz:Nat} {enc:β->List Value} {f:α->β} {l:Sl} {xs:List α} (r:Rw k sz (λx=>enc (f x)) l xs):Rw k sz enc l (xs.map f):=by obtain ⟨b,a⟩:=r;refine ⟨by grind,?_⟩;rw [List.length_map,List.flatMap_map];exact a
theorem NV {n:Int} (h:fF n):fK (yw (n+(1:Int))) (65535:Int)=more n:=by rw [wrap64 (by have:=h.1;omega) (by have:=h.2;omega)];unfold fK more;omega
end
def dK (q:Addr) (room:Int) (l:br):dR:=
 .some_ λx:dx=>((dJ DR q x).star ((dA 1 fC x.values l.values).star (dA 2 eW x.waiters l.waiters))).star (.fact (x.room=room/\x.taken=l.taken/\x.dropped=l.dropped))
section
variable {h0 k:Hp} {q:Addr} {room:Int} {l:br}
theorem Has.bY (o:Has h0 (dK q room l) k):∃x:dx,x.room=room/\x.taken=l.taken/\x.dropped=l.dropped/\Has h0 ((dJ DR q x).star ((dA 1 fC x.values l.values).star (dA 2 eW x.waiters l.waiters))) k:=by obtain ⟨x,o⟩:=Has.ex.1 o;obtain ⟨o,a,b,c⟩:=o.jP;grind
theorem Has.jQ {x:dx} (o:Has h0 ((dJ DR q x).star ((dA 1 fC x.values l.values).star (dA 2 eW x.waiters l.waiters))) k) (a:x.room=room) (b:x.taken=l.taken) (c:x.dropped=l.dropped):Has h0 (dK q room l) k:=
 Has.ex.2 ⟨x,o.fB ⟨a,b,c⟩⟩
theorem Zd {Q:Int->Hp->Prop} (o:Has h0 (dK q room l) k) (a:Q (l.values.length:Int) k):ztu prog (some q) Q k:=by obtain ⟨x,_,_,_,o⟩:=o.bY;unfold ztu;refine aP (o.left.ld (shf:=af) x.values rfl ?_);rw [o.right.left.iy];exact a
theorem JM {Q:Bool->Hp->Prop} (o:Has h0 (dK q room l) k) (b:Q (decide (room<=(l.values.length:Int))) k):ZR prog (some q) Q k:=by obtain ⟨x,a,_,_,o⟩:=o.bY;unfold ZR;refine aP (o.left.ld (shf:=af) x.values rfl ?_);refine aP (o.left.ld (shf:=ab .i64) x.room rfl ?_);rw [o.right.left.iy,a];exact b
theorem XH {v:Int} {Q:Int->Hp->Prop} (o:Has h0 (dK q room l) k) (u:room<=64) (t:room<=(l.values.length:Int)->Q 19 k) (g:∀b,¬room<=(l.values.length:Int)->Has h0 (dK q room (vQ v l)) b->Q 0 b):ztp prog (some q) v Q k:=by
 unfold ztp;refine zua (JM o ?_);by_cases a:room<=(l.values.length:Int)
 ·grind
 ·rw [if_neg (λh=>a (of_decide_eq_true h))];obtain ⟨x,d,e,f,o⟩:=o.bY;refine aP (o.left.ld (shf:=af) x.values rfl ?_);obtain ⟨r,_,j,put⟩:=o.f2;refine j.push rfl (λ_=>rfl) (λ_=>rfl) rfl ⟨by omega,by omega⟩ λc w m=> ?_;have o:=put _ _ m;obtain ⟨s,_,n,put⟩:=o.f1;refine aP (n.st {x with values:=c} (show (2:Nat)<=5 by decide) rfl λi p=> ?_);exact g i a (Has.jQ (x:={x with values:=c}) (put _ _ p) d e f)
theorem U3 {Q:Hp->Prop} (o:Has h0 (dK q room l) k) (e:fF l.dropped) (f:∀a,Has h0 (dK q room (mq l)) a->Q a):ZQ prog (some q) Q k:=by obtain ⟨x,b,c,d,o⟩:=o.bY;unfold ZQ;refine aP (o.left.ld (shf:=ab .i64) x.dropped rfl ?_);refine I0 ?_;unfold CD;rw [d,NV e];obtain ⟨j,_,h,put⟩:=o.f1;refine aP (h.st {x with dropped:=more l.dropped} (show (5:Nat)<=5 by decide) rfl λg i=> ?_);exact f g (Has.jQ (x:={x with dropped:=more l.dropped}) (put _ _ i) b c rfl)
theorem U4 {Q:Int->bp->Bool->Int->Hp->Prop} (o:Has h0 (dK q room l) k) (E:fF l.taken) (i:l.values.length<=64) (Y:l.values=[]->Q 0 ⟨0,0⟩ false 21 k)
  (C:∀v b h,l.values=v::b->l.waiters=[]->Has h0 (dK q room (dQ l)) h->Q v ⟨0,0⟩ false 0 h)
  (D:∀v b w g h,l.values=v::b->l.waiters=w::g->Has h0 (dK q room (dQ l)) h->Q v (nY w) true 0 h):ZU prog (some q) Q k:=by
 obtain ⟨x,p,B,r,o⟩:=o.bY;unfold ZU;have j:=o.right.left.iy;refine aP (o.left.ld (shf:=af) x.values rfl ?_);cases hv:l.values with
 | nil=>grind
 | cons v b=>
  rw [hv] at o j i;have j:x.values.len=b.length+1:=by simpa using j
  rw [if_neg (show ¬((x.values.len:Int)==0)=true by simp;omega)];refine aP (o.left.ld (shf:=af) x.values rfl ?_);have W:Rs k (ab .i64) 1 x.values (v::b):=o.right.left.jW (λ_=>rfl);refine W.get (λ_=>rfl) (by omega) (by omega) (by simp) λ(y:Int) t=> ?_;have t:y=v:=by grind
  subst t;refine aP (o.left.ld (shf:=af) x.values rfl ?_);refine aP (o.left.ld (shf:=af) x.values rfl ?_);refine ⟨by omega,aE ?_⟩;obtain ⟨e,_,J,put⟩:=o.f2;refine J.shift (λ_=>rfl) (λ_=>rfl) λZ A=> ?_;have o:=put _ _ A;have s:=A.wv;refine aP (o.left.ld (shf:=af) x.values rfl ?_);have s:b.length<=x.values.cap:=s;refine ⟨by omega,aE ?_⟩;rw [KT,Int.toNat_natCast,Nat.sub_zero,Nat.sub_zero];obtain ⟨e,_,O,put⟩:=o.f1;refine aP (O.st {x with values:=⟨x.values.base,b.length,x.values.cap⟩} (show (2:Nat)<=5 by decide) rfl λk2 P=> ?_);have o:=put _ _ P;refine aP (o.left.ld (shf:=ab .i64) x.taken rfl ?_);refine I0 ?_;unfold CD;rw [B,NV E];obtain ⟨e,_,R,put⟩:=o.f1;refine aP (R.st {x with values:=⟨x.values.base,b.length,x.values.cap⟩,taken:=more l.taken} (show (4:Nat)<=5 by decide) rfl λu S=> ?_);have o:=put _ _ S;refine aP (o.left.ld (shf:=af) x.waiters rfl ?_);have f:=o.right.right.iy;cases d:l.waiters with
  | nil=>
   rw [d] at f;rw [if_neg (show ¬(decide ((x.waiters.len:Int)>0))=true by simp at f;simp [f])];refine C y b u hv d (Has.jQ (x:={x with values:=⟨x.values.base,b.length,x.values.cap⟩,taken:=more l.taken}) ?_ p (by unfold dQ;rw [d]) (by unfold dQ;rw [d];exact r));have:dQ l={l with values:=b,taken:=more l.taken}:=by unfold dQ;rw [d,hv];rfl
   grind
  | cons w g=>
   rw [d] at f o;have f:x.waiters.len=g.length+1:=by simpa using f
   rw [if_pos (decide_eq_true (show (x.waiters.len:Int)>0 by omega))];refine aP (o.left.ld (shf:=af) x.waiters rfl ?_);have qx:Rs u aF 2 x.waiters ((w::g).map nY):=(o.right.right.jW (λ_=>rfl)).map (enc:=λx=>ba (aF.enc x));refine qx.get (λ_=>rfl) (by omega) (by omega) (by simp) λ(X:bp) m=> ?_;have m:X=nY w:=by simpa using m.symm
   subst m;refine aP (o.left.ld (shf:=af) x.waiters rfl ?_);refine aP (o.left.ld (shf:=af) x.waiters rfl ?_);refine aP (o.left.ld (shf:=af) x.waiters rfl ?_);have G:=o.right.right.wv;refine ⟨by omega,aE ?_⟩;rw [Int.toNat_natCast];obtain ⟨e,_,T,put⟩:=o.f3;have U:=T.qj (λ_=>rfl) (c:=x.waiters.len) (Nat.le_refl _) G;have o:=put _ _ U;obtain ⟨e,_,V,put⟩:=o.f1;refine aP (V.st {x with values:=⟨x.values.base,b.length,x.values.cap⟩,taken:=more l.taken,waiters:=⟨aV x.waiters.base 2 1 x.waiters.len,x.waiters.len-1,x.waiters.len-1⟩} (show (3:Nat)<=5 by decide) rfl λk4 K=> ?_);have o:=put _ _ K;refine aP (o.left.ld (shf:=af) ⟨x.values.base,b.length,x.values.cap⟩ rfl ?_);refine mr (xs:=[w.value]) (sz:=1) (enc:=fC) rfl (λ_=>rfl) λa k5 F I=> ?_;have o:=o.grow F;refine ⟨⟨?_,trivial⟩,?_⟩
   ·exact (Has.left o).eM (n:=1) rfl
   obtain ⟨e,_,L,put⟩:=o.f2;refine L.app (I.jW (λ_=>rfl)) (λ_=>rfl) (λ_=>rfl) rfl ⟨by simp at i ⊢;omega,by simp at i ⊢;omega⟩ λz k6 M=> ?_;have o:=put _ _ M;obtain ⟨e,_,N,put⟩:=o.f1;refine aP (N.st {x with values:=z,taken:=more l.taken,waiters:=⟨aV x.waiters.base 2 1 x.waiters.len,x.waiters.len-1,x.waiters.len-1⟩} (show (2:Nat)<=5 by decide) rfl λH a8=> ?_);refine D y b w g H hv d (Has.jQ (x:={x with values:=z,taken:=more l.taken,waiters:=⟨aV x.waiters.base 2 1 x.waiters.len,x.waiters.len-1,x.waiters.len-1⟩}) ?_ p (by unfold dQ;rw [d]) (by unfold dQ;rw [d];exact r));have:dQ l={values:=b++ [w.value],waiters:=g,taken:=more l.taken,dropped:=l.dropped}:=by unfold dQ;rw [d,hv];rfl
   grind
end
theorem cV {P:Program} {g:FuncId} {first captured:Array Value} {args:List Value} {sh:Shape} {K:sh.T->Hp->Prop} {h:Hp} (b:tb.call g=true) (a:aa P g (first.toList++args++captured.toList) sh K h):ig P tb (.func (.func g) first captured) args sh K h:=
 ⟨g,first,captured,rfl,b,a⟩
def nh (p:Int) (a:List ly):Int:=iO (λw=>decide (w.proc=p)) a
def pk (v:Int) (xs:List Int):Int:=iO (λz=>decide (z=v)) xs
theorem S9 {k:Hp} {s:Sl} {b:List ly} {a:Addr} {p:Int} {Q:Int->Hp->Prop} (r:Rw k 2 eW s b) (t:b.length<=1000000) (o:aR k a [.int .i64 p]) (m:Q (nh p b) k):
  Rb prog s ⟨OY, #[], #[.pointer (some a)]⟩ Q k:=by
 unfold Rb;have u:=r.1;have r:Rs k aF 2 s (b.map nY):=r.map (enc:=λx=>ba (aF.enc x));refine au.intro (λi q=>q=k/\0<=i/\i<=(b.length:Int)/\∀(j:Nat) y,j<i.toNat->b[j]? =some y->decide (y.proc=p)=false) (λi _=>(b.length-i).toNat) ⟨rfl,by omega,by omega,λj y c=>by simp at c⟩ ?_;rintro i _ ⟨rfl,i0,v,l⟩;by_cases n:i<(b.length:Int)
 ·rw [if_pos (fT)];refine r.get (λ_=>rfl) (by omega) i0 (by grind) λ(x:bp) h=> ?_;rw [List.getElem?_map] at h;cases d:b[i.toNat]? with
  | none=>grind
  | some w=>
   rw [d] at h;have h:x=nY w:=by grind
   subst h;refine cV (g:=OY) rfl (zzr ?_);unfold ztw;refine eB (sh:=ab .i64) p o ?_;dsimp only;by_cases e:w.proc=p
   ·rw [if_pos (show ((nY w).bT==p)=true by unfold nY;simp [e])];have:nh p b=i:=by have:=JL (f:=λw=>decide (w.proc=p)) d (by simp [e]) l;unfold nh;rw [this];omega
    grind
   ·rw [if_neg (show ¬((nY w).bT==p)=true by unfold nY;simp [e]),aI];grind
 ·rw [if_neg (λe=>n (by have:=of_decide_eq_true e;omega))];have:nh p b= -1:=yY λw d=>by obtain ⟨j,c⟩:=List.getElem?_of_mem d;have:=(List.getElem?_eq_some_iff.1 c).1;exact l j w (by omega) c
  rw [this] at m;exact m
theorem MA {k:Hp} {s:Sl} {a:List Int} {v:Int} {Q:Int->Hp->Prop} (r:Rw k 1 fC s a) (o:a.length<=1000000) (g:Q (pk v a) k):Jl prog s v Q k:=by
 unfold Jl;have p:=r.1;have r:Rs k (ab .i64) 1 s a:=r;refine au.intro (λi n=>n=k/\0<=i/\i<=(a.length:Int)/\∀(j:Nat) y,j<i.toNat->a[j]? =some y->decide (y=v)=false) (λi _=>(a.length-i).toNat) ⟨rfl,by omega,by omega,λj y b=>by simp at b⟩ ?_;rintro i _ ⟨rfl,i0,q,d⟩;by_cases c:i<(a.length:Int)
 ·rw [if_pos (fT)];refine r.get (λ_=>rfl) (by omega) i0 c λ(x:Int) m=> ?_;by_cases e:x=v
  ·rw [if_pos (show (v==x)=true by simp [e])];have:pk v a=i:=by have:=JL (f:=λz=>decide (z=v)) m (by simp [e]) d;unfold pk;rw [this];omega
   grind
  ·rw [if_neg (show ¬(v==x)=true by simp;exact λh=>e h.symm),aI];grind
 ·rw [if_neg (λe=>c (by have:=of_decide_eq_true e;omega))];have:pk v a= -1:=yY λw l=>by obtain ⟨j,b⟩:=List.getElem?_of_mem l;have:=(List.getElem?_eq_some_iff.1 b).1;exact d j w (by omega) b
  rw [this] at g;exact g
theorem U5 {a:Type} {f:a->Bool} {xs:List a}:0<=iO f xs↔∃x∈xs,f x=true:=by
 constructor
 ·intro h;refine Classical.byContradiction λd=> ?_;rw [yY λx b=>by
   grind] at h
  omega
 ·rintro ⟨x,b,c⟩;unfold iO;grind
theorem J6 {k:Hp} {s:Sl} {a:List Int} {v:Int} {Q:Bool->Hp->Prop} (r:Rw k 1 fC s a) (b:a.length<=1000000) (d:Q (decide (v∈a)) k):TC prog s v Q k:=by
 unfold TC;refine OJ (MA r b ?_);have:decide (pk v a>=0)=decide (v∈a):=by have:(pk v a>=0)↔v∈a:=(U5 (f:=λz=>decide (z=v))).trans ⟨λ⟨x,c,e⟩=>(of_decide_eq_true e)▸c,λh=>⟨v,h,(by simp)⟩⟩;simp only [this]
 grind
section
variable {h0 k:Hp} {q:Addr} {room:Int} {l:br}
theorem NW {p:Int} {Q:Int->Hp->Prop} (o:Has h0 (dK q room l) k) (d:l.waiters.length<=1000000) (i:∀b,Has h0 (dK q room l) b->Q (nh p l.waiters) b):ZC prog (some q) p Q k:=by
 unfold ZC;refine mr (xs:=[p]) (sz:=1) (enc:=fC) rfl (λ_=>rfl) λa j g n=> ?_;have o:=o.grow g;obtain ⟨x,_,_,_,c⟩:=o.bY;refine aP (c.left.ld (shf:=af) x.waiters rfl ?_);refine zim (f:=⟨OY, #[], #[.pointer (some a)]⟩) (S9 (p:=p) (c.right.right.jW (λ_=>rfl)) d ?_ (i j o));obtain ⟨_,h⟩:=n.jW (λ_=>rfl);rcases h.2 with e | ⟨m,r,s⟩
 ·simp at e
 grind
theorem U6 {p v:Int} {Q:Int->Hp->Prop} (o:Has h0 (dK q room l) k) (z:l.waiters.length<=100) (g:room<=(l.values.length:Int)) (h:∀w∈l.waiters,w.proc≠p) (i:∀a,Has h0 (dK q room (iM p v l)) a->Q 0 a):ZV prog (some q) p v Q k:=by
 unfold ZV;refine zua (JM o ?_);rw [if_neg (by simp;exact g)];refine zso (NW o (by omega) λA o=> ?_);have:nh p l.waiters= -1:=yY λw j=>by simp [h w j]
 rw [this,if_neg (by decide)];obtain ⟨x,c,d,f,o⟩:=o.bY;refine aP (o.left.ld (shf:=af) x.waiters rfl ?_);obtain ⟨u,_,n,put⟩:=o.f3;refine n.push (e:=⟨p,v⟩) rfl (λ_=>rfl) (λ_=>rfl) rfl ⟨by omega,by omega⟩ λb B r=> ?_;have o:=put _ _ r;obtain ⟨y,_,s,put⟩:=o.f1;refine aP (s.st {x with waiters:=b} (show (3:Nat)<=5 by decide) rfl λm t=> ?_);exact i m (Has.jQ (x:={x with waiters:=b}) (put _ _ t) c d f)
def rR (p:Int) (l:br):br:={l with waiters:=iD (λw=>decide (w.proc=p)) l.waiters}
theorem Ta {p:Int} {Q:Bool->Hp->Prop} (o:Has h0 (dK q room l) k) (K:l.waiters.length<=100) (g:∀b a,Has h0 (dK q room (rR p l)) a->Q b a):Zy prog (some q) p Q k:=by
 unfold Zy;refine zso (NW o (by omega) λi o=> ?_);have A:=Cd (λw:ly=>decide (w.proc=p)) l.waiters;by_cases hp:nh p l.waiters<0
 ·rw [if_pos (decide_eq_true hp)];refine g false i ?_;have:rR p l=l:=by unfold rR;rw [A,if_neg (show ¬0<=iO (λw:ly=>decide (w.proc=p)) l.waiters by unfold nh at hp;omega)]
  rw [this];exact o
 ·rw [if_neg (λh=>hp (of_decide_eq_true h))];have t:0<=nh p l.waiters:=by omega
  have L:nh p l.waiters<l.waiters.length:=JK t;obtain ⟨x,j,r,s,o⟩:=o.bY;refine aP (o.left.ld (shf:=af) x.waiters rfl ?_);obtain ⟨u,_,F,put⟩:=o.f3;have C:prog.underlying 93=some (.slice 97):=bW.cm 93 wF rfl;obtain ⟨n,f⟩:∃n:Nat,nh p l.waiters=n:=⟨(nh p l.waiters).toNat,by omega⟩;have B:∀(d:Sl->Hp->Prop),(∀c a,Has u (dA 2 eW c (l.waiters.take n++l.waiters.drop (n+1))) a->d c a)->Rf prog x.waiters (n:Int) ((n+1:Nat):Int) d i:=λd y=>by
   unfold Rf;exact Has.GF (bytes:=16) (z:=.agg #[.int .i64 0,.int .i64 0]) C (λv=>DG bW (e:=BX) rfl v) (λ_=>rfl) (λ_=>rfl) rfl (λm=>by induction m with
    | zero=>rfl
    | succ m D=>exact D) F (by omega) (by omega) ⟨by omega,by omega⟩ y
  rw [f,aI];refine zkb (B _ λc N G=> ?_);have o:=put _ _ G;obtain ⟨J,_,H,put⟩:=o.f1;refine aP (H.st {x with waiters:=c} (show (3:Nat)<=5 by decide) rfl λE I=> ?_);refine g true E (Has.jQ (x:={x with waiters:=c}) ?_ j r s);have:(rR p l).waiters=l.waiters.take n++l.waiters.drop (n+1):=by show iD (λw=>decide (w.proc=p)) l.waiters=_;have M:iO (λw:ly=>decide (w.proc=p)) l.waiters=n:=f;grind
  rw [this];exact put _ _ I
def uu (l:br):br:={l with waiters:=[]}
theorem XJ {Q:Sl->Hp->Prop} (o:Has h0 (dK q room l) k) (i:∀s b,Has h0 ((dK q room (uu l)).star (dA 2 eW s l.waiters)) b->Q s b):ztt prog (some q) Q k:=by unfold ztt;obtain ⟨x,e,f,g,o⟩:=o.bY;refine aP (o.left.ld (shf:=af) x.waiters rfl ?_);refine aP (o.left.ld (shf:=af) x.waiters rfl ?_);refine aP (o.left.ld (shf:=af) x.waiters rfl ?_);have z:=o.right.right.iy;have h:=o.right.right.wv;refine ⟨by omega,aE ?_⟩;rw [Int.toNat_natCast];obtain ⟨v,_,j,put⟩:=o.f3;have d:=j.xY (λ_=>rfl) (n:=x.waiters.len) (c:=x.waiters.len) (by omega) (Nat.le_refl _) h;rw [List.take_of_length_le (by omega)] at d;have o:=put _ _ d;obtain ⟨w,_,m,put⟩:=o.f1;refine aP (m.st {x with waiters:=⟨none,0,0⟩} (show (3:Nat)<=5 by decide) rfl λa p=> ?_);have o:=put _ _ p;refine i _ a ?_;have u:=o.Bs;obtain ⟨y,_,r,_,put⟩:=u.fst;have nil:Has a (dA 2 eW (⟨none,0,0⟩:Sl) ([]:List ly)) a:=Has.j5 (Hp.le_refl _);have t:=(r.beside nil).assoc;exact put _ _ (Has.jQ (l:=uu l) (x:={x with waiters:=⟨none,0,0⟩}) t e f g)
end
def jI {d f:Type} {R:d->f->Hp->List Nat->Prop} (ok:iA R) (v:d) (p:f):dR where
 R k F:=∃B,R v p k B/\B.Nodup/\∀b,F b↔b∈B
 same:=λ⟨B,h,n,e⟩ g=>⟨B,ok.same h λc a=>g c ((e c).2 a),n,e⟩
 known:=λ⟨B,h,n,e⟩ c a=>ok.known h c ((e c).1 a)
def fS {d:Type} (sz:Nat) (enc:d->List Value) (l:Sl) (g:List d):dR where
 R k F:=∃B,db k sz enc l g B/\∀b,F b↔b∈B
 same:=λ⟨B,h,e⟩ f=>⟨B,h.same λc a=>f c ((e c).2 a),e⟩
 known:=λ⟨B,h,e⟩ c a=>h.known c ((e c).1 a)
section
variable {h0 k:Hp} {α β:Type} {R:α->β->Hp->List Nat->Prop} {ok:iA R}
theorem Has.as_ {v:α} {p:β} (o:Has h0 (jI ok v p) k):∃B,R v p k B/\B.Nodup/\∀b∈B,h0 b=none:=by obtain ⟨_,F,⟨B,h,n,e⟩,a⟩:=o;grind
theorem Has.sE {v:α} {p:β} {B:List Nat} (c:h0<=k) (h:R v p k B) (n:B.Nodup) (a:∀b∈B,h0 b=none):Has h0 (jI ok v p) k:=⟨c,(· ∈B),⟨B,h,n,λ_=>Iff.rfl⟩,a⟩
theorem Has.we {sz:Nat} {enc:α->List Value} {l:Sl} {a:List α} (o:Has h0 (fS sz enc l a) k):Has h0 (dA sz enc l a) k:=by obtain ⟨d,F,⟨B,h,e⟩,c⟩:=o;exact Has.BK h d λb hb=>c b ((e b).2 hb)
theorem EC {b c:Type} {S:b->c->Prop} {h:Hp}:∀ {l:List b} {m:List c},dB S l m->oJ (fD S) l m h []
 | [],[],_=>rfl
 | _::_,_::_,a=>⟨[],[],rfl,⟨rfl,a.1⟩,EC a.2⟩
 | [],_::_,a=>a.elim
 | _::_,[],a=>a.elim
theorem Has.two {i j:Type} {f:i->j->Hp->List Nat->Prop} {l:iA f} {v:α} {p:β} {h:i} {g:j} (o:Has h0 ((jI ok v p).star (jI l h g)) k):
  ∃B c,R v p k B/\f h g k c/\(B++c).Nodup/\∀b∈B++c,h0 b=none:=by
 obtain ⟨_,F,⟨m,q,e,d,⟨B,a,n,r⟩,⟨c,b,u,s⟩⟩,t⟩:=o;grind
theorem Has.row {j:Type} {sh:Shape} {sz:Nat} {Q:sh.T->j->Hp->List Nat->Prop} {okQ:iA Q} {l:Sl} {g:List j} {v:sh.T} {p:j} {cs zero:List Value} {bytes:Nat} {K:Sl->Hp->Prop} (o:Has h0 ((jI (cf.ok (sh:=sh) (sz:=sz) okQ) l g).star (jI okQ v p)) k)
  (u:cs=ba (sh.enc v)) (i:∀x,(ba (sh.enc x)).length=sz) (D:∀x,iX (ba (sh.enc x))=true) (E:zero.length=sz) (hb:g.length+1<=140737488355328/\(g.length+1)*bytes<=140737488355328)
  (z:∀f d,Has h0 (jI (cf.ok (sh:=sh) (sz:=sz) okQ) f (g++ [p])) d->K f d):bG cs (λa m=>gv sz bytes zero l ⟨some a,1,1⟩ K m) k:=by
 refine mr (xs:=[v]) (sz:=sz) (enc:=λx=>ba (sh.enc x)) (by rw [u];simp) i λa m C n=> ?_;have o:=o.grow C;obtain ⟨B,H,r,e,nd,w⟩:=o.two;refine UZ okQ r e nd (n.jW i) i D E hb λf d I G F A y=> ?_;refine z f d (Has.sE (λb q s=>A b q (o.1 b q s) λhb=> ?_) G F λc t=> ?_)
 ·grind
 ·rcases y c t with h | h
  ·exact w c h
  ·exact tY o.1 h
theorem Has.nI {a:Type} {sh:Shape} {sz:Nat} {Q:sh.T->a->Hp->List Nat->Prop} {okQ:iA Q} (b:h0<=k):Has h0 (jI (cf.ok (sh:=sh) (sz:=sz) okQ) (⟨none,0,0⟩:Sl) ([]:List a)) k:=
 Has.sE b cf.nil .nil λ_ h=>by cases h
theorem Has.jC {d:Type} {sh:Shape} {sz:Nat} {enc:d->List Value} {S:sh.T->d->Prop} {f:d->sh.T} {l:Sl} {c:List d} (o:Has h0 (fS sz enc l c) k) (n:∀x,enc x=ba (sh.enc (f x))) (j:∀x,S (f x) x):
  Has h0 (jI (cf.ok (sh:=sh) (sz:=sz) (fD.ok S)) l c) k:=by
 obtain ⟨q,F,⟨B,⟨s,h,t⟩,e⟩,p⟩:=o;have u:c.flatMap enc=(c.map f).flatMap λx=>ba (sh.enc x):=by rw [List.flatMap_map];congr 1;exact funext n
 have i:∀m:List d,dB S (m.map f) m:=λm=>by
  induction m with
  | nil=>trivial
  | cons a m r=>exact ⟨j a,r⟩
 have g:db k sz (λx=>ba (sh.enc x)) l (c.map f) B:=⟨by grind,h,by grind⟩;refine Has.sE q ⟨c.map f,B,[],by simp,g,EC (i c)⟩ g.nodup λb hb=>p b ((e b).2 hb)
theorem xO {P:Program} {sz:Nat} {enc:α->List Value} {s:Sl} {xs:List α} {p B bytes:Nat} {zero:List Value} {x y:Operand} {Q:Sl->Hp->Prop} (w:P.underlying p=some (.slice B)) (r:Rw k sz enc s xs) (G:0<sz) (j:∀x,(enc x).length=sz) (u:∀x,iX (enc x)=true) (z:zero.length=sz)
  (hb:xs.length<=140737488355328/\xs.length*bytes<=140737488355328) (l:∀f d,k<=d->Has k (fS sz enc f xs) d->Q f d):
  jj none P (dt .eql p x y s.v (.slice none 0 0)) aW k λx=>(if x=true then Q ⟨none,0,0⟩ k else bG [] (λa q=>gv sz bytes zero ⟨(some a),0,0⟩ s (λr t=>Q r t) q) k):=by
 refine ⟨s.base.isNone,MP w s,?_⟩;cases D:s.base with
 | none=>
  rw [if_pos (show (none:Option Addr).isNone=true from rfl)];have:xs=[]:=by
   rcases r.2.2 with e | ⟨a,C,_⟩
   ·exact List.length_eq_zero_iff.1 ((Nat.mul_eq_zero.1 e).resolve_right (by omega))
   grind
  subst this;exact l _ k (Hp.le_refl k) ⟨Hp.le_refl k,λ_=>False,⟨[],⟨rfl,Nat.le_refl _,.inl ⟨rfl,rfl,rfl⟩⟩,λb=>by simp⟩,λ_ h=>h.elim⟩
 | some a=>
  rw [iT];refine sD (xs:=([]:List α)) (enc:=enc) (sz:=sz) rfl j λb H E n I A=> ?_;refine sm A (Rw.mono n r) j u z (by simpa using hb) λf d i o m=> ?_;have g:=m.le (h0:=k) n λc F=>by grind
  exact l f d g.1 ⟨g.1,(· ∈i),⟨i,by simpa using o,λ_=>Iff.rfl⟩,g.2⟩
end
abbrev um (l:Sl) (a:List Int):dR:=jI lO l a
abbrev PQ (l:Sl) (a:List ly):dR:=jI (cf.ok (sh:=aF) (sz:=2) (fD.ok λx p=>pB x=p)) l a
section
variable {h0 k:Hp} {q:Addr} {room:Int} {l:br}
theorem MB {Q:cd->Hp->Prop} (o:Has h0 (dK q room l) k) (hv:l.values.length<=100) (D:l.waiters.length<=100) (z:∀r g,Has h0 ((dK q room l).star (jI s6 r l)) g->Q r g):Zt prog (some q) Q k:=by
 unfold Zt;obtain ⟨x,u,c,d,o⟩:=o.bY;refine aP (o.left.ld (shf:=af) x.values rfl ?_);refine aP (o.left.ld (shf:=af) x.waiters rfl ?_);refine aP (o.left.ld (shf:=ab .i64) x.taken rfl ?_);refine aP (o.left.ld (shf:=ab .i64) x.dropped rfl ?_);refine ziy ?_;unfold Tl;refine xO (bW.cm 92 yx rfl) (o.right.left.jW (λ_=>rfl)) (by decide) (λ_=>rfl) (λ_=>rfl) rfl ⟨by omega,by omega⟩ λj h w A=> ?_;have a:=o.grow w;refine ⟨⟨a.left.eM (n:=1) rfl,a.left.eM (n:=1) rfl,a.left.eM (n:=1) rfl,trivial⟩,?_⟩;refine zeo ?_;unfold Ru;refine xO (bW.cm 93 wF rfl) (a.right.right.jW (λ_=>rfl)) (by decide) (λ_=>rfl) (λ_=>rfl) rfl ⟨by omega,by omega⟩ λm b y C=> ?_;have i:=a.grow y;refine ⟨⟨i.left.eM (n:=1) rfl,i.left.eM (n:=1) rfl,trivial⟩,?_⟩;refine z _ b ?_;have s:Has k (um j l.values) h:=A.jC (f:=λx=>x) (λ_=>rfl) λ_=>rfl;have t:Has h (PQ m l.waiters) b:=C.jC (f:=nY) (λ_=>rfl) λ_=>rfl;have both:=s.beside t;have lane:Has k (jI s6 (⟨j,m,x.taken,x.dropped⟩:cd) l) b:=by obtain ⟨B,p,r,e,nd,v⟩:=both.two;exact Has.sE both.le ⟨B,p,rfl,r,e,c,d⟩ nd v
 exact (Has.jQ o u c d).beside lane
end
section
variable {h0 k:Hp} {q:Addr} {room:Int} {l:br}
theorem U7 {s:Sl} {b:List ly} {Q:Bool->Hp->Prop} (r:Rw k 2 eW s b) (N:b.length<=1000000) (B:(b.map (·.proc)).Nodup) (R:∀c,k<=c->Q false c):B7 prog s Q k:=by
 unfold B7;have O:=r.1;intro m u;have J:k<=k.set m (.map #[] 0):=lx u;refine au.intro (λi c=>k<=c/\0<=i/\i<=(b.length:Int)/\∃f:List (Int×Int),gz c m .i64 (ab .i64).enc f/\(∀a,cN a f≠none->a∈(b.take i.toNat).map (·.proc))) (λi _=>(b.length-i).toNat)
  ⟨J,by omega,by omega,[],⟨[],0,kK,rfl⟩,λa h=>absurd rfl h⟩ ?_
 rintro i c ⟨p,i0,S,f,A,t⟩;by_cases F:i<(b.length:Int)
 ·rw [if_pos (fT)];have rs:Rs c aF 2 s (b.map nY):=(r.mono p).map (enc:=λx=>ba (aF.enc x));refine rs.get (λ_=>rfl) (by omega) i0 (by rw [List.length_map];exact F) λ(x:bp) d=> ?_;rw [List.getElem?_map] at d;cases g:b[i.toNat]? with
  | none=>rw [g] at d;cases d
  | some w=>
   rw [g] at d;have d:x=nY w:=by simpa using d.symm
   subst d;have L:cN w.proc f=none:=by
    cases e:cN w.proc f with
    | none=>rfl
    | some v=>
     have D:=t w.proc (by rw [e];simp);obtain ⟨E,G⟩:=List.getElem?_eq_some_iff.1 g;have H:(b.map (·.proc))=(b.take i.toNat).map (·.proc)++(w.proc::(b.drop (i.toNat+1)).map (·.proc)):=by
      have:b=b.take i.toNat++w::b.drop (i.toNat+1):=by rw [<-G,<-List.drop_eq_getElem_cons E,List.take_append_drop]
      conv=>lhs;rw [this]
      simp
     rw [H] at B;exact absurd rfl ((List.nodup_append.1 B).2.2 _ D _ (List.mem_cons_self ..))
   refine wN (sh:=ab .i64) (z:=(0:Int)) A rfl (λ_=> ?_) λv hv=>by rw [show (nY w).bT=w.proc from rfl,L] at hv;cases hv
   rw [aI];refine Mf (ev:=(ab .i64).enc) (v:=(1:Int)) A λo P y=> ?_;have K:k m=none:=u;have I:k<=c.set m o:=Nz p K;have n:cN w.proc (gC w.proc (1:Int) f)=some 1:=by rw [xh,if_pos rfl]
   refine wN (sh:=ab .i64) (z:=(0:Int)) y rfl (λhv=>by rw [show (nY w).bT=w.proc from rfl,n] at hv;cases hv) λv hv=> ?_;have M:v=1:=by rw [show (nY w).bT=w.proc from rfl,n] at hv;exact (Option.some.inj hv).symm
   subst M;dsimp only;rw [if_neg (by decide),aI];refine ⟨⟨I,by omega,by omega,_,y,λa j=> ?_⟩,by omega⟩;have C:(i+1).toNat=i.toNat+1:=by omega
   rw [C,List.take_add_one,g];rw [xh] at j;by_cases e:a=(nY w).bT
   ·rw [e];simp [nY]
   ·rw [if_neg e] at j;have:=t a j;simp only [List.map_append,List.mem_append];exact .inl this
 grind
theorem XK {Q:Option Addr->Int->Hp->Prop} (d:1<=room/\room<=64) (c:∀p a,k<=a->Has k (dJ DR p ⟨room,⟨none,0,0⟩,⟨none,0,0⟩,0,0⟩) a->Q (some p) 0 a):Dc prog room Q k:=by unfold Dc;refine ZW ?_;unfold Pp;refine aE ?_;rw [show (decide (room>=1)&&decide (room<=64))=true by simp;omega];dsimp only;rw [if_neg (by decide)];exact rQ (sh:=DR) ⟨room,⟨none,0,0⟩,⟨none,0,0⟩,0,0⟩ rfl λp a b o=>c p a b o
structure PM (room:Int) (l:br):Prop where
 len:(l.values.length:Int)<=room
 full:l.waiters≠ []->(l.values.length:Int)=room
 taken:fF l.taken
 dropped:fF l.dropped
 once:(l.waiters.map (·.proc)).Nodup
 iC:l.waiters.length<=100
theorem NX {n:Int} {Q:Bool->Hp->Prop} (h:fF n) (a:Q true k):Pp prog n 0 65535 Q k:=by
 unfold Pp;refine aE ?_;have:(decide (n>=0)&&decide (n<=65535))=true:=by unfold fF at h;simp;omega
 grind
theorem XL {x:cd} {Q:Option Addr->Int->Hp->Prop} (g:1<=room/\room<=64) (a:kr k x l) (v:PM room l) (C:∀p f,k<=f->Has k (dK p room l) f->Q (some p) 0 f):C9 prog room x Q k:=by
 unfold C9;refine YU (XK g λp r h s=> ?_);have hv:=a.values.1;obtain ⟨u,n,D⟩:=a.waiters;have m:u.length=l.waiters.length:=by grind
 have R:=n.1;have P:=v.len;have N:=v.iC;rw [if_neg (by decide)];have w:(decide (((x.bB.len:Nat):Int)>(0:Int))&&decide (((x.dm.len:Nat):Int)<room))=false:=by
  by_cases e:l.waiters=[]
  ·grind
  ·have:=v.full e;grind
 refine aE (aE ?_);rw [w,Bool.or_false,show decide (((x.dm.len:Nat):Int)>room)=false by simp;omega];refine ⟨λ_=>ZW (NX (by rw [a.taken];exact v.taken) ?_),λe=>by cases e⟩;refine aE ⟨λ_=>ZW (NX (by rw [a.dropped];exact v.dropped) ?_),λe=>by cases e⟩;refine aE ⟨λ_=>V7 ?_,λe=>by cases e⟩;have j:Rw r 2 eW x.bB l.waiters:=by have A:Rw r 2 (λx=>ba (aF.enc x)) x.bB u:=Rw.mono h n;obtain ⟨y,z⟩:=A;refine ⟨by rw [y,m],?_⟩;rw [<-m,<-D,List.flatMap_map];exact z
 refine U7 j (by omega) v.once λS c=> ?_;refine aE ?_;rw [if_neg (by decide)];refine ziy ?_;unfold Tl;have hb:=g.2;refine Mz (bW.cm 92 yx rfl) (xs:=l.values) (enc:=fC) (Rw.mono (Hp.le_trans h c) a.values) (by decide) (λ_=>rfl) (λ_=>rfl) rfl ⟨by omega,by omega⟩ λb T i G=> ?_;refine ⟨⟨trivial,trivial⟩,?_⟩;refine zeo ?_;unfold Ru;refine Mz (bW.cm 93 wF rfl) (xs:=l.waiters) (Rw.mono (Hp.le_trans c i) j) (by decide) (λ_=>rfl) (λ_=>rfl) rfl ⟨by omega,by omega⟩ λd E B H=> ?_;have o:=(s.grow (Hp.le_trans c (Hp.le_trans i B)));have o:Has k ((dJ DR p ⟨room,⟨none,0,0⟩,⟨none,0,0⟩,0,0⟩).star ((dA 1 fC b l.values).star (dA 2 eW d l.waiters))) E:=(s.grow c).grow (Hp.le_refl _) |>.beside (G.beside H)
 obtain ⟨O,_,I,put⟩:=o.f1;refine aP (I.st (⟨room,b,⟨none,0,0⟩,0,0⟩:dx) (show (2:Nat)<=5 by decide) rfl λU J=> ?_);refine aP (J.st (⟨room,b,d,0,0⟩:dx) (show (3:Nat)<=5 by decide) rfl λV K=> ?_);refine aP (K.st (⟨room,b,d,x.jk,0⟩:dx) (show (4:Nat)<=5 by decide) rfl λW L=> ?_);refine ⟨⟨trivial,trivial⟩,?_⟩;refine aP (L.st (⟨room,b,d,x.jk,x.fM⟩:dx) (show (5:Nat)<=5 by decide) rfl λF M=> ?_);have t:=put _ _ M;exact C p F t.le (Has.jQ t rfl a.taken a.dropped)
end
abbrev eP :Addr->List Value:=λa=> [.pointer (some a)]
def a0 :Addr:=⟨0,0,none⟩
def mo :br:=⟨[],[],0,0⟩
def xu (b:List Addr) (room:Int) (a:List br):dR:=dR.first (λi=>dK (b.getD i a0) room (a.getD i mo)) a.length
def iz (p:Addr) (x:dk) (a:List Addr) (room:Int) (b:List br):dR:=(dJ Px p x).star ((dA 1 eP x.ae a).star (xu a room b))
def dT (p:Addr) (room:Int) (a:List br) (ag:Int):dR:=
 .some_ λx:dk=>.some_ λb:List Addr=>(iz p x b room a).star (.fact (x.ag=ag/\b.length=a.length))
section
variable {h0 k:Hp} {p:Addr} {room ag:Int} {c:List br} {x:dk} {g:List Addr}
theorem pD {b:Type} {l:List b} {i:Nat} {a d:b} (h:l[i]? =some a):l.getD i d=a:=by grind
theorem Has.nO (o:Has h0 (dT p room c ag) k):∃x g,x.ag=ag/\g.length=c.length/\Has h0 (iz p x g room c) k:=by obtain ⟨x,o⟩:=Has.ex.1 o;obtain ⟨g,o⟩:=Has.ex.1 o;obtain ⟨o,a,b⟩:=o.jP;grind
theorem Has.kF (o:Has h0 (iz p x g room c) k) (a:x.ag=ag) (b:g.length=c.length):Has h0 (dT p room c ag) k:=Has.ex.2 ⟨x,Has.ex.2 ⟨g,o.fB ⟨a,b⟩⟩⟩
theorem Has.nF {i:Nat} {l:br} (o:Has h0 (iz p x g room c) k) (f:c[i]? =some l):∃a,h0<=a/\Has a (dK (g.getD i a0) room l) k/\∀d b,Has a (dK (g.getD i a0) room d) b->Has h0 (iz p x g room (c.set i d)) b:=by
 obtain ⟨a,a1,r,put⟩:=o.f3;have hi:i<c.length:=(List.getElem?_eq_some_iff.1 f).1;obtain ⟨m,a2,h,_,s⟩:=r.one hi;rw [pD f] at h;refine ⟨m,Hp.le_trans a1 a2,h,λd b q=>put _ _ ?_⟩;have:=s _ _ q;unfold xu;rw [List.length_set];refine cast (congrArg (λA=>Has a A b) (tW λj n=> ?_)) this;by_cases e:j=i
 ·subst e;rw [lS,pD (List.getElem?_set_self n)]
 ·rw [lz e];grind
theorem Has.ptr (o:Has h0 (iz p x g room c) k) (a:g.length=c.length) {i:Nat} (hi:i<c.length) {K:Option Addr->Prop} (b:K (some (g.getD i a0))):aG x.ae.base x.ae.len (i:Int)/\aD none an k (sat x.ae.base 1 (i:Int)) K:=by have rs:Rs k an 1 x.ae (g.map some):=(o.right.left.jW (λ_=>rfl)).map (f:=some) (enc:=λx=>ba (an.enc x));refine rs.get (λ_=>rfl) (by omega) (by omega) (by rw [List.length_map];omega) λ(y:Option Addr) d=> ?_;grind
theorem ED {n:Int} {Q:Bool->Hp->Prop} (o:Has h0 (dT p room c ag) k) (d:0<=n/\n<c.length) (e:Q true k):Zu prog (some p) n Q k:=by obtain ⟨x,g,a,b,o⟩:=o.nO;unfold Zu;have f:=o.right.left.iy;refine aP ((Has.left o).mE (shf:=af) x.ae rfl ?_);refine aE ?_;grind
theorem Has.vT {i:Nat} {l:br} (o:Has h0 (dT p room c ag) k) (h:c[i]? =some l):∃(x:dk) (a:Addr) (b:Hp),(∀ {K:Sl->Prop},K x.ae->aD none af k (p.add 0) K)/\(∀ {K:Option Addr->Prop},K (some a)->aG x.ae.base x.ae.len (i:Int)/\aD none an k (sat x.ae.base 1 (i:Int)) K)/\h0<=b/\Has b (dK a room l) k/\
  ∀e d,Has b (dK a room e) d->Has h0 (dT p room (c.set i e) ag) d:=by
 obtain ⟨x,g,j,m,o⟩:=o.nO;obtain ⟨b,a1,q,put⟩:=o.nF h;exact ⟨x,_,b,λf=>(Has.left o).ld (shf:=af) x.ae rfl f,λf=>o.ptr m (List.getElem?_eq_some_iff.1 h).1 f,a1,q,λe d n=>(put e d n).kF j (by grind)⟩
theorem XM {i:Nat} {l:br} {v:Int} {Q:Int->Hp->Prop} (o:Has h0 (dT p room c ag) k) (d:c[i]? =some l) (j:room<=64) (e:room<=(l.values.length:Int)->Q 19 k)
  (h:∀b,¬room<=(l.values.length:Int)->Has h0 (dT p room (c.set i (vQ v l)) ag) b->Q 0 b):Pd prog (some p) (i:Int) v Q k:=by
 unfold Pd;refine WX (ED o ⟨by omega,by have:=(List.getElem?_eq_some_iff.1 d).1;omega⟩ ?_);obtain ⟨x,a,r,ld,m,_,q,put⟩:=o.vT d;rw [if_neg (by decide)];refine aP (ld (m ?_));exact SL (XH q j e λb f n=>h b f (put _ _ n))
theorem U8 {i:Nat} {l:br} {Q:Hp->Prop} (o:Has h0 (dT p room c ag) k) (d:c[i]? =some l) (e:fF l.dropped) (f:∀b,Has h0 (dT p room (c.set i (mq l)) ag) b->Q b):O7 prog (some p) (i:Int) Q k:=by unfold O7;refine WX (ED o ⟨by omega,by have:=(List.getElem?_eq_some_iff.1 d).1;omega⟩ ?_);obtain ⟨x,a,n,ld,h,_,m,put⟩:=o.vT d;rw [if_pos rfl];refine aP (ld (h ?_));exact Sc (U3 m e λb j=>f b (put _ _ j))
theorem zu {b:Type} {f:b->b} {a:List b} {t:Nat} {y:b} (h:a[t]? =some y):((a.take t).map f++a.drop t).set t (f y)=(a.take (t+1)).map f++a.drop (t+1):=by
 obtain ⟨d,i⟩:=List.getElem?_eq_some_iff.1 h;have j:((a.take t).map f).length=t:=by rw [List.length_map,List.length_take];omega
 have e:a.drop t=y::a.drop (t+1):=by rw [List.drop_eq_getElem_cons d,i]
 rw [e,List.set_append_right _ _ (by omega),j,Nat.sub_self,List.set_cons_zero,List.take_add_one,h];simp
theorem EE {a:Type} {f:a->a} {b:List a} {t:Nat} {y:a} (h:b[t]? =some y):((b.take t).map f++b.drop t)[t]? =some y:=by grind
theorem Tc {w:Int} {Q:Bool->Hp->Prop} (o:Has h0 (dT p room c ag) k) (u:c.length<=1000000/\∀l∈c,l.waiters.length<=100) (t:∀b a,Has h0 (dT p room (c.map (rR w)) ag) a->Q b a):Zv prog (some p) w Q k:=by
 obtain ⟨x,g,m,C,o⟩:=o.nO;unfold Zv;have E:=o.right.left.iy;refine aP ((Has.left o).ld (shf:=af) x.ae rfl ?_);refine bq.intro (λ(_:Bool) (i:Int) a=>0<=i/\i<=(c.length:Int)/\Has h0 (iz p x g room ((c.take i.toNat).map (rR w)++c.drop i.toNat)) a) (λ_ i _=>(c.length-i).toNat) ⟨by omega,by omega,by simpa using o⟩ ?_;rintro b i a ⟨i0,F,o⟩;by_cases s:i<(c.length:Int)
 ·rw [if_pos (fT)];have hi:i.toNat<c.length:=by omega
  have d:=List.getElem?_eq_getElem hi;generalize c[i.toNat]=l at d;have n:g.length=((c.take i.toNat).map (rR w)++c.drop i.toNat).length:=by grind
  obtain ⟨D,_,A,put⟩:=o.nF (EE d);have h:=o.ptr n (i:=i.toNat) (by omega) (K:=λy=>y=some (g.getD i.toNat a0)) rfl;have f:((i.toNat:Nat):Int)=i:=by omega
  rw [f] at h;refine ⟨λr q=>0<=i/\i<(c.length:Int)/\Has h0 (iz p x g room ((c.take (i.toNat+1)).map (rR w)++c.drop (i.toNat+1))) q,⟨h.1,?_⟩,?_⟩
  ·obtain ⟨y,v,rfl⟩:=h.2;refine ⟨_,v,?_⟩;refine Rm (Ta A (u.2 l (List.mem_of_getElem? d)) λj z B=> ?_);have o:=put _ _ B;rw [zu d] at o;grind
  ·rintro j z ⟨_,_,o⟩;rw [aI];grind
 ·rw [if_neg (λe=>s (by grind))];refine t b a ?_;have f:i.toNat=c.length:=by omega
  rw [f,List.take_length,List.drop_length,List.append_nil] at o;exact o.kF m (by grind)
end
section
variable {h0 k:Hp} {p:Addr} {room ag:Int} {c:List br} {x:dk} {d:List Addr}
theorem Fo {e:Type}:∀ {l:List e} {i:Nat} {a:e},l[i]? =some a->l.set i a=l
 | [],_,_,h=>by cases h
 | b::l,0,a,h=>by cases h;rfl
 | b::l,i+1,a,h=>by rw [List.set_cons_succ,Fo (by simpa using h)]
theorem U9 {w:Int} {Q:Int->Hp->Prop} (o:Has h0 (dT p room c ag) k) (h:c.length<=1000000/\∀l∈c,l.waiters.length<=100/\l.values.length<=100) (F:∀l∈c,∀z∈l.waiters,z.proc≠w) (H:∀a,Has h0 (dT p room c ag) a->Q (-1) a):ZE prog (some p) w Q k:=by
 obtain ⟨x,d,v,n,o⟩:=o.nO;unfold ZE;have T:=o.right.left.iy;refine aP ((Has.left o).ld (shf:=af) x.ae rfl ?_);refine au.intro (λ(i:Int) a=>0<=i/\i<=(c.length:Int)/\Has h0 (iz p x d room c) a) (λi _=>(c.length-i).toNat) ⟨by omega,by omega,o⟩ ?_;rintro i a ⟨i0,V,o⟩;by_cases D:i<(c.length:Int)
 ·rw [if_pos (fT)];have hi:i.toNat<c.length:=by omega
  have b:=List.getElem?_eq_getElem hi;generalize c[i.toNat]=l at b;have f:=List.mem_of_getElem? b;obtain ⟨P,_,N,put⟩:=o.nF b;have A:((i.toNat:Nat):Int)=i:=by omega
  have s:=o.ptr n hi (K:=λy=>y=some (d.getD i.toNat a0)) rfl;rw [A] at s;obtain ⟨C,y,m,rfl⟩:=s;refine ⟨C,_,m,?_⟩;refine zsn (MB N (h.2 l f).2 (h.2 l f).1 λr M u=> ?_);have I:c.set i.toNat l=c:=Fo b;have O:=put _ _ u.left;rw [I] at O;obtain ⟨B,E,_⟩:=u.right.as_;obtain ⟨g,t,J⟩:=(qG.rd E).waiters;have U:g.length=l.waiters.length:=by grind
  have S:=t.1;have R:=(h.2 l f).1;refine au.intro (λ(j:Int) a=>a=M/\0<=j/\j<=(g.length:Int)) (λj _=>(g.length-j).toNat) ⟨rfl,by omega,by omega⟩ ?_;rintro j _ ⟨rfl,L,W⟩;by_cases q:j<(g.length:Int)
  ·rw [if_pos (fT)];refine Rs.get (sh:=aF) t (λ_=>rfl) (by omega) L q λ(y:bp) m=> ?_;have G:y.bT≠w:=by
    have:pB y∈l.waiters:=by rw [<-J];exact List.mem_map_of_mem (List.mem_of_getElem? m)
    exact F l f _ this
   rw [if_neg (show ¬(y.bT==w)=true by simp [G]),aI];grind
  ·rw [if_neg (λe=>q (by have:=of_decide_eq_true e;omega)),aI];grind
 ·rw [if_neg (λe=>D (by grind))];exact H a (o.kF v n)
theorem Va {i:Nat} {l:br} {w v:Int} {Q:Int->Hp->Prop} (o:Has h0 (dT p room c ag) k) (h:c.length<=1000000/\∀l∈c,l.waiters.length<=100/\l.values.length<=100) (g:∀l∈c,∀z∈l.waiters,z.proc≠w) (e:c[i]? =some l) (j:room<=(l.values.length:Int))
  (m:∀b,Has h0 (dT p room (c.set i (iM w v l)) ag) b->Q 0 b):ZT prog (some p) (i:Int) w v Q k:=by
 unfold ZT;refine WX (ED o ⟨by omega,by grind⟩ ?_);rw [if_neg (by decide)];refine RA (U9 o h g λt o=> ?_);rw [if_neg (by decide)];obtain ⟨x,a,s,ld,n,_,r,put⟩:=o.vT e;refine aP (ld (n ?_));have f:=List.mem_of_getElem? e;exact Sh (U6 r (h.2 l f).1 j (g l f) λb q=>m b (put _ _ q))
theorem XN {Q:Sl->Hp->Prop} (o:Has h0 (dT p room c ag) k) (G:c.length<=1000/\∀l∈c,l.waiters.length<=100) (F:∀s f,Has h0 ((dT p room (c.map uu) ag).star (dA 2 eW s (c.flatMap (·.waiters)))) f->Q s f):ztq prog (some p) Q k:=by
 obtain ⟨x,d,w,V,o⟩:=o.nO;unfold ztq;have hs:=o.right.left.iy;refine aP ((Has.left o).ld (shf:=af) x.ae rfl ?_);have nil:Has k (dA 2 eW (⟨none,0,0⟩:Sl) ([]:List ly)) k:=Has.j5 (Hp.le_refl _);have E:∀t,((c.take t).flatMap (·.waiters)).length<=t*100:=by
  have:∀m:List br,(∀l∈m,l.waiters.length<=100)->(m.flatMap (·.waiters)).length<=m.length*100:=λm=>by
   induction m with
   | nil=>intro _;simp
   | cons a m I=>intro h;have:=I λl b=>h l (List.mem_cons_of_mem _ b);have:=h a (List.mem_cons_self ..);simp only [List.flatMap_cons,List.length_append,List.length_cons];omega
  grind
 refine bq.intro (λ(s:Sl) (i:Int) f=>0<=i/\i<=(c.length:Int)/\Has h0 ((iz p x d room ((c.take i.toNat).map uu++c.drop i.toNat)).star (dA 2 eW s ((c.take i.toNat).flatMap (·.waiters)))) f) (λ_ i _=>(c.length-i).toNat)
  ⟨by omega,by omega,by simpa using o.beside nil⟩ ?_
 rintro s i f ⟨i0,i1,o⟩;by_cases D:i<(c.length:Int)
 ·rw [if_pos (fT)];have hi:i.toNat<c.length:=by omega
  have b:=List.getElem?_eq_getElem hi;generalize c[i.toNat]=l at b;have z:d.length=((c.take i.toNat).map uu++c.drop i.toNat).length:=by grind
  obtain ⟨C,_,g,_,n⟩:=o.fst;obtain ⟨W,_,M,put⟩:=g.nF (EE b);have q:=g.ptr z (i:=i.toNat) (by omega) (K:=λy=>y=some (d.getD i.toNat a0)) rfl;have j:((i.toNat:Nat):Int)=i:=by omega
  rw [j] at q;obtain ⟨B,y,H,rfl⟩:=q;refine ⟨B,_,H,?_⟩;refine SQ (XJ M λr J N=> ?_);have u:Has h0 (((iz p x d room ((c.take (i.toNat+1)).map uu++c.drop (i.toNat+1))).star (dA 2 eW s ((c.take i.toNat).flatMap (·.waiters)))).star (dA 2 eW r l.waiters)) J:=
   N.carry λf L=>by have op:=put _ _ L;rw [zu b] at op;exact n _ _ op
  have a8:l.waiters.length<=100:=G.2 l (List.mem_of_getElem? b);have X:=E i.toNat;have v:(⟨s.base,s.len,s.cap⟩:Sl)=s:=rfl;rw [v];obtain ⟨Y,_,O,_,T⟩:=u.fst;obtain ⟨Z,_,P,_,U⟩:=O.snd;refine P.app (u.right.jW (λ_=>rfl)) (λ_=>rfl) (λ_=>rfl) rfl ⟨by omega,by omega⟩ λs' k3 R=> ?_;have S:=T _ _ (U _ _ R);rw [aI];refine ⟨⟨by omega,by omega,?_⟩,by omega⟩;rw [show (i+1).toNat=i.toNat+1 by omega];have A:(c.take (i.toNat+1)).flatMap (·.waiters)=(c.take i.toNat).flatMap (·.waiters)++l.waiters:=by rw [List.take_add_one,b];simp
  rw [A];exact S.left
 ·rw [if_neg (λe=>D (by grind))];refine F _ f ?_;have j:i.toNat=c.length:=by omega
  rw [j,List.take_length,List.drop_length,List.append_nil] at o;obtain ⟨C,_,g,_,n⟩:=o.fst;exact n _ _ (g.kF w (by grind))
end
abbrev vq (l:Sl) (a:List br):dR:=jI (cf.ok (sh:=bD) (sz:=4) s6) l a
section
variable {h0 k:Hp} {p:Addr} {room ag:Int} {b:List br} {x:dk} {c:List Addr}
theorem Td {Q:Sl->Int->Hp->Prop} (o:Has h0 (dT p room b ag) k) (A:b.length<=1000/\∀l∈b,l.waiters.length<=100/\l.values.length<=100) (z:∀s a,Has h0 ((dT p room b ag).star (vq s b)) a->Q s ag a):Zs prog (some p) Q k:=by
 obtain ⟨x,c,j,m,o⟩:=o.nO;unfold Zs;have O:=o.right.left.iy;refine aP ((Has.left o).ld (shf:=af) x.ae rfl ?_);have nil:Has k (vq (⟨none,0,0⟩:Sl) ([]:List br)) k:=Has.nI (okQ:=s6) (Hp.le_refl _);refine bq.intro (λ(s:Sl) (i:Int) a=>0<=i/\i<=(b.length:Int)/\Has h0 ((iz p x c room b).star (vq s (b.take i.toNat))) a) (λ_ i _=>(b.length-i).toNat) ⟨by omega,by omega,by simpa using o.beside nil⟩ ?_;rintro s i a ⟨i0,P,o⟩;by_cases w:i<(b.length:Int)
 ·rw [if_pos (fT)];have hi:i.toNat<b.length:=by omega
  have d:=List.getElem?_eq_getElem hi;generalize b[i.toNat]=l at d;have q:=A.2 l (List.mem_of_getElem? d);obtain ⟨v,_,f,_,h⟩:=o.fst;obtain ⟨M,_,E,put⟩:=f.nF d;have n:=f.ptr m hi (K:=λy=>y=some (c.getD i.toNat a0)) rfl;have g:((i.toNat:Nat):Int)=i:=by omega
  rw [g] at n;obtain ⟨u,y,B,rfl⟩:=n;refine ⟨u,_,B,?_⟩;refine zsn (MB E q.2 q.1 λr C F=> ?_);have I:Has h0 (((iz p x c room b).star (vq s (b.take i.toNat))).star (jI s6 r l)) C:=F.carry λa D=>by have op:=put _ _ D;rw [Fo d] at op;exact h _ _ op
  obtain ⟨N,_,G,_,J⟩:=I.assoc.snd;have t:(⟨s.base,s.len,s.cap⟩:Sl)=s:=rfl;rw [t];refine G.row rfl (λ_=>rfl) (λ_=>rfl) rfl ⟨by rw [List.length_take];omega,by rw [List.length_take];omega⟩ λT R H=> ?_;have S:=J _ _ H;rw [aI];refine ⟨⟨by omega,by omega,?_⟩,by omega⟩;have L:b.take (i.toNat+1)=b.take i.toNat++ [l]:=by rw [List.take_add_one,d];rfl
  grind
 ·rw [if_neg (λe=>w (by grind))];refine aP ((Has.left (Has.left o)).ld (shf:=ab .i64) x.ag rfl ?_);rw [j];refine z _ a ?_;have g:i.toNat=b.length:=by omega
  rw [g,List.take_length] at o;obtain ⟨v,_,f,_,h⟩:=o.fst;exact h _ _ (f.kF j m)
theorem QV {q:Addr} {l:br} (e:c.length=b.length) (o:Has h0 ((xu c room b).star (dK q room l)) k):Has h0 (xu (c++ [q]) room (b++ [l])) k:=by
 unfold xu;rw [List.length_append];show Has h0 ((dR.first (λi=>dK ((c++ [q]).getD i a0) room ((b++ [l]).getD i mo)) b.length).star (dK ((c++ [q]).getD b.length a0) room ((b++ [l]).getD b.length mo))) k;have a:(c++ [q]).getD b.length a0=q:=by simp [List.getD,<-e]
 have d:(b++ [l]).getD b.length mo=l:=by simp [List.getD]
 rw [a,d];refine cast (congrArg (λA=>Has h0 (A.star (dK q room l)) k) (tW λi hi=> ?_)) o;grind
theorem XO {s:Sl} {v:List cd} {Q:Option Addr->Int->Hp->Prop} (z:1<=room/\room<=64) (W:1<=b.length/\b.length<=9) (S:0<=ag/\ag<b.length) (r:Rs k bD 4 s v) (a:dB (kr k) v b) (hv:∀l∈b,PM room l)
  (E:∀p d,k<=d->Has k (dT p room b ag) d->Q (some p) 0 d):C6 prog room s ag Q k:=by
 unfold C6;have V:=r.1;have X:=a.len;refine aE (aE (aE ?_));rw [show (decide ((s.len:Int)<1) || decide ((s.len:Int)>9) || decide (room<1) || decide (room>64))=false by simp;omega,if_neg (by decide)];refine aE ?_;rw [show (decide (ag<0) || decide (ag>=(s.len:Int)))=false by simp;omega,if_neg (by decide)];refine rQ (sh:=Px) ⟨⟨none,0,0⟩,ag⟩ rfl λp f T G=> ?_;have BS:Has k (iz p ⟨⟨none,0,0⟩,ag⟩ [] room []) f:=G.beside ((Has.j5 (Hp.le_refl f)).beside (Has.fact trivial (Hp.le_refl f)));refine au.intro (λ(i:Int) d=>0<=i/\i<=(b.length:Int)/\∃(sl:Sl) (c:List Addr),c.length=i.toNat/\Has k (iz p ⟨sl,ag⟩ c room (b.take i.toNat)) d) (λi _=>(b.length-i).toNat) ⟨by omega,by omega,_,[],rfl,BS⟩ ?_;rintro i d ⟨i0,Y,sl,c,hp,o⟩;by_cases A:i<(b.length:Int)
 ·rw [if_pos (fT)];refine Rs.get (sh:=bD) (Rw.mono o.le r) (λ_=>rfl) (by omega) i0 (by omega) λ(y:cd) F=> ?_;obtain ⟨l,t,D⟩:=a.get F;refine YQ (XL z (D.mono o.le) (hv l (List.mem_of_getElem? t)) λq Z U H=> ?_);rw [if_neg (by decide)];have o:=(o.beside H);refine aP ((Has.left (Has.left o)).ld (shf:=af) sl rfl ?_);obtain ⟨B,_,g,_,j⟩:=o.fst;obtain ⟨C,_,h,m⟩:=g.f2;refine h.push (e:=q) rfl (λ_=>rfl) (λ_=>rfl) rfl ⟨by omega,by omega⟩ λu k3 I=> ?_;have o:=j _ _ (m _ _ I);obtain ⟨B,_,g,_,j⟩:=o.fst;obtain ⟨C,_,h,m⟩:=g.f1;refine aP (h.st (⟨u,ag⟩:dk) (show (1:Nat)<=2 by decide) rfl λk4 J=> ?_);have o:=j _ _ (m _ _ J);rw [aI];have w:b.take (i.toNat+1)=b.take i.toNat++ [l]:=by rw [List.take_add_one,t];rfl
  refine ⟨⟨by omega,by omega,u,c++ [q],by simp;omega,?_⟩,by omega⟩;rw [show (i+1).toNat=i.toNat+1 by omega,w];have M:=o.assoc;obtain ⟨P,_,K,_,N⟩:=M.snd;obtain ⟨R,_,L,_,O⟩:=K.assoc.snd;exact N _ _ (O _ _ (QV (by grind) L))
 ·rw [if_neg (λe=>A (by grind))];have n:i.toNat=b.length:=by omega
  rw [n,List.take_length] at o;rw [n] at hp;exact E p d o.le (o.kF rfl hp)
end
abbrev eL :aL->List Value:=λx=>ba (fj.enc x)
def tI :aL:=⟨0,⟨none,0,0⟩⟩
def uj (b:List aL) (a:List (List Int)):dR:=dR.first (λi=>dA 1 fC (b.getD i tI).queue (a.getD i [])) a.length
def dv (p:Addr) (sl:Sl) (a:List aL) (b:List (List Int)):dR:=(dJ FC p ⟨sl⟩).star ((dA 2 eL sl a).star (uj a b))
def nb (p:Addr) (os:List Int) (qs:List (List Int)):dR:=
 .some_ λsl:Sl=>.some_ λa:List aL=>(dv p sl a qs).star (.fact (a.map (·.owner)=os/\a.length=qs.length))
section
variable {h0 k:Hp} {p:Addr} {os:List Int} {qs:List (List Int)} {sl:Sl} {xs:List aL}
theorem Has.mO (o:Has h0 (nb p os qs) k):∃sl xs,xs.map (·.owner)=os/\xs.length=qs.length/\Has h0 (dv p sl xs qs) k:=by obtain ⟨sl,o⟩:=Has.ex.1 o;obtain ⟨xs,o⟩:=Has.ex.1 o;obtain ⟨o,a,b⟩:=o.jP;grind
theorem Has.iU (o:Has h0 (dv p sl xs qs) k) (a:xs.map (·.owner)=os) (b:xs.length=qs.length):Has h0 (nb p os qs) k:=Has.ex.2 ⟨sl,Has.ex.2 ⟨xs,o.fB ⟨a,b⟩⟩⟩
theorem Has.sI {i:Nat} {x:aL} {q:List Int} (o:Has h0 (uj xs qs) k) (f:xs[i]? =some x) (d:qs[i]? =some q):∃h1,h0<=h1/\Has h1 (dA 1 fC x.queue q) k/\∀c b a,Has h1 (dA 1 fC c.queue b) a->Has h0 (uj (xs.set i c) (qs.set i b)) a:=by
 have hi:i<qs.length:=(List.getElem?_eq_some_iff.1 d).1;have h:i<xs.length:=(List.getElem?_eq_some_iff.1 f).1;obtain ⟨h1,a1,g,_,put⟩:=Has.one hi o;rw [pD f,pD d] at g;refine ⟨h1,a1,g,λc b a m=> ?_⟩;have:=put _ _ m;unfold uj;rw [List.length_set];refine cast (congrArg (λA=>Has h0 A a) (tW λj l=> ?_)) this;by_cases e:j=i
 ·subst e;rw [lS,pD (List.getElem?_set_self h),pD (List.getElem?_set_self l)]
 ·rw [lz e];grind
theorem Has.u6 (o:Has h0 (dv p sl xs qs) k) {K:Sl->Prop} (a:K sl):aD none af k (p.add 0) K:=(Has.left o).ld (shf:=af) sl rfl a
theorem Has.BG (o:Has h0 (dv p sl xs qs) k):Rs k fj 2 sl xs:=o.right.left.jW (λ_=>rfl)
theorem Has.qt {i:Nat} {x:aL} (o:Has h0 (dv p sl xs qs) k) (c:xs[i]? =some x) {K:Int->Prop} (b:K x.owner):aG sl.base sl.len (i:Int)/\aD none (ab .i64) k ((sat sl.base 2 (i:Int)).add 0) K:=
 Rw.mh (sh:=ab .i64) (o.right.left.jW (λ_=>rfl)) (λ_=>rfl) (by decide) (λx=>x.owner) (j:=0) (λ_=>rfl) (by omega) (by grind) λy a=>by rw [Int.toNat_natCast,c] at a;cases a;exact b
theorem Has.rm {i:Nat} {x:aL} (o:Has h0 (dv p sl xs qs) k) (c:xs[i]? =some x) {K:Sl->Prop} (b:K x.queue):aG sl.base sl.len (i:Int)/\aD none af k ((sat sl.base 2 (i:Int)).add 1) K:=
 Rw.mh (sh:=af) (o.right.left.jW (λ_=>rfl)) (λ_=>rfl) (by decide) (λx=>x.queue) (j:=1) (λ_=>rfl) (by omega) (by grind) λy a=>by rw [Int.toNat_natCast,c] at a;cases a;exact b
theorem Tf {i:Nat} {x x':aL} (a:xs[i]? =some x) (e:x'.queue=x.queue):uj (xs.set i x') qs=uj xs qs:=by unfold uj;grind
theorem Has.nW {i:Nat} {x:aL} {v:Int} {K:Hp->Prop} (o:Has h0 (dv p sl xs qs) k) (b:xs[i]? =some x) (c:∀a,Has h0 (dv p sl (xs.set i ⟨v,x.queue⟩) qs) a->K a):cl k ((sat sl.base 2 (i:Int)).add 0) [.int .i64 v] K:=by obtain ⟨f,_,e,put⟩:=o.f2;refine e.yn (λ_=>rfl) b (x':=⟨v,x.queue⟩) (show (1:Nat)<=2 by decide) rfl λa d=>c a ?_;have:=put _ _ d;unfold dv;rw [Tf (x':=⟨v,x.queue⟩) b rfl];exact this
theorem Has.sJ {i:Nat} {x:aL} {s:Sl} {q b:List Int} {K:Hp->Prop} {h1:Hp} (g:Has h0 ((dJ FC p ⟨sl⟩).star ((dA 2 eL sl xs).star (uj (xs.set i ⟨x.owner,s⟩) (qs.set i b)))) k) (d:xs[i]? =some x)
  (c:∀a,Has h0 (dv p sl (xs.set i ⟨x.owner,s⟩) (qs.set i b)) a->K a):cl k ((sat sl.base 2 (i:Int)).add 1) [s.v] K:=by
 obtain ⟨h,_,f,put⟩:=g.f2;refine f.yn (λ_=>rfl) d (x':=⟨x.owner,s⟩) (show (2:Nat)<=2 by decide) rfl λa e=>c a (put _ _ e)
theorem MC {n w:Int} {Q:Int->Hp->Prop} (o:Has h0 (nb p os qs) k) (c:0<=n/\n<qs.length) (f:0<=w) (d:Q 0 k):XG prog (some p) n w Q k:=by obtain ⟨sl,xs,a,b,o⟩:=o.mO;unfold XG;have e:=o.right.left.iy;refine aP ((Has.left o).mE (shf:=af) sl rfl ?_);refine aE ?_;grind
theorem MD {w:Int} {Q:Int->Bool->Hp->Prop} (o:Has h0 (dv p sl xs qs) k) (h:xs.length=qs.length) (c:qs.length<=1000/\∀q∈qs,q.length<=100) (d:∀q∈qs,w∉q) (m:Q 0 false k):XE prog (some p) w Q k:=by
 unfold XE;have n:=o.right.left.iy;refine aP (o.u6 ?_);refine au.intro (λ(i:Int) f=>f=k/\0<=i/\i<=(qs.length:Int)) (λi _=>(qs.length-i).toNat) ⟨rfl,by omega,by omega⟩ ?_;rintro i _ ⟨rfl,i0,r⟩;by_cases l:i<(qs.length:Int)
 ·rw [if_pos (fT)];refine o.BG.get (λ_=>rfl) (by omega) i0 (by omega) λ(y:aL) e=> ?_;have hi:i.toNat<qs.length:=by omega
  have a:=List.getElem?_eq_getElem hi;generalize qs[i.toNat]=q at a;have b:=List.mem_of_getElem? a;obtain ⟨j,_,g,_⟩:=o.right.right.sI e a;refine zjy (J6 (g.jW (λ_=>rfl)) (by have:=c.2 q b;omega) ?_);dsimp only;rw [if_neg (by simpa using d q b),aI];exact ⟨⟨rfl,by omega,by omega⟩,by omega⟩
 grind
theorem Th {n:Nat} {w a:Int} {Q:Bool->Int->Hp->Prop} {q:List Int} (o:Has h0 (nb p os qs) k) (h:qs.length<=1000/\∀q∈qs,q.length<=100) (y:∀q∈qs,w∉q) (B:0<=w) (z:os[n]? =some a) (f:qs[n]? =some q)
  (h1:(a= -1\/a=w)->∀b,Has h0 (nb p (os.set n w) qs) b->Q true 0 b) (r:¬(a= -1\/a=w)->∀b,Has h0 (nb p os (qs.set n (q++ [w]))) b->Q false 0 b):Yn prog (some p) (n:Int) w Q k:=by
 unfold Yn;have O:n<qs.length:=(List.getElem?_eq_some_iff.1 f).1;refine zpu (MC o ⟨by omega,by omega⟩ B ?_);rw [if_neg (by decide)];obtain ⟨sl,xs,l,m,o⟩:=o.mO;refine zpt (MD o m h y ?_);rw [if_neg (by decide)];obtain ⟨x,d,C⟩:∃x,xs[n]? =some x/\x.owner=a:=by grind
 have t:=(o.qt d (K:=λ_=>True) trivial).1;refine aP (o.u6 ⟨t,?_⟩);refine ⟨λ_ b=>∃v,((a= -1/\v=w)\/(a≠ -1/\v=a))/\Has h0 (dv p sl (xs.set n ⟨v,x.queue⟩) qs) b,?_,?_⟩
 ·refine aP (o.qt d ?_).2;rw [C];by_cases e:a= -1
  ·rw [if_pos (by simp [e])];refine aP (o.nW d λb S=> ?_);grind
  ·rw [if_neg (by simp [e])];refine ⟨a,.inr ⟨e,rfl⟩,?_⟩;have:(⟨a,x.queue⟩:aL)=x:=by cases x;grind
   rw [this,Fo d];exact o
 ·rintro _ E ⟨v,hv,o⟩;have c:(xs.set n ⟨v,x.queue⟩)[n]? =some ⟨v,x.queue⟩:=List.getElem?_set_self (List.getElem?_eq_some_iff.1 d).1;have u:(xs.set n ⟨v,x.queue⟩).length=qs.length:=by grind
  have i:(xs.set n ⟨v,x.queue⟩).map (·.owner)=os.set n v:=by rw [List.map_set,l]
  refine aP (o.qt c ?_).2;dsimp only;by_cases e:v=w
  ·rw [if_neg (show ¬(v !=w)=true by simp [e])];refine aP (o.qt c ?_).2;rw [show (v==w)=true by simp [e]];refine h1 (by omega) E (o.iU ?_ u);rw [i,e]
  ·rw [if_pos (show (v !=w)=true by simp [e])];refine aP (o.rm c ?_).2;obtain ⟨s,_,G,L⟩:=o.f3;obtain ⟨N,_,H,M⟩:=G.sI c f;have P:=h.2 q (List.mem_of_getElem? f);refine H.push (e:=w) rfl (λ_=>rfl) (λ_=>rfl) rfl ⟨by omega,by omega⟩ λg R I=> ?_;have J:=L _ _ (M ⟨v,g⟩ _ _ I);refine aP (Has.sJ (x:=⟨v,x.queue⟩) (q:=q) (h1:=s) J c λF j=> ?_);have D:((xs.set n ⟨v,x.queue⟩).set n ⟨v,g⟩)[n]? =some ⟨v,g⟩:=List.getElem?_set_self (List.getElem?_eq_some_iff.1 c).1;refine aP (j.qt D ?_).2;rw [show (v==w)=false by simp [e]];refine r (by omega) F (j.iU ?_ (by grind));rw [List.map_set,i];have A:v=a:=by omega
   subst A;rw [List.set_set,Fo z]
end
def hold (w:Int):List Int->Nat->List Int
 | [],_=> []
 | o::r,i=>if o=w then (i:Int)::hold w r (i+1) else hold w r (i+1)
theorem uH {w:Int}:∀ {os:List Int} {i:Nat} {n:Int},n∈hold w os i->∃j:Nat,n=((i+j:Nat):Int)/\os[j]? =some w
 | [],_,_,h=>by cases h
 | o::r,i,n,h=>by
  unfold hold at h;split at h
  ·rename_i e;rcases List.mem_cons.1 h with h | h
   ·grind
   ·obtain ⟨j,b,a⟩:=uH h;exact ⟨j+1,by omega,by simpa using a⟩
  ·obtain ⟨j,b,a⟩:=uH h;exact ⟨j+1,by omega,by simpa using a⟩
theorem Dg {w:Int}:∀ {os:List Int} {i:Nat},(hold w os i).Nodup
 | [],_=>.nil
 | o::r,i=>by
  unfold hold;split
  ·refine List.nodup_cons.2 ⟨λh=> ?_,Dg⟩;obtain ⟨j,a,_⟩:=uH h;omega
  ·exact Dg
theorem EF {w:Int}:∀ {os:List Int} {i:Nat},(hold w os i).length<=os.length
 | [],_=>by simp [hold]
 | o::r,i=>by unfold hold;have:=EF (w:=w) (os:=r) (i:=i+1);grind
theorem ME {w:Int}:∀ {os:List Int} {i t:Nat} {o:Int},os[t]? =some o->hold w (os.take (t+1)) i=hold w (os.take t) i++(if o=w then [((i+t:Nat):Int)] else [])
 | [],_,_,_,h=>by cases h
 | a::r,i,0,o,h=>by
  have h:a=o:=by simpa using h
  subst h;simp [hold]
 | a::r,i,t+1,o,h=>by have b:=ME (w:=w) (i:=i+1) (t:=t) (o:=o) (os:=r) (by simpa using h);rw [List.take_succ_cons,List.take_succ_cons];unfold hold;grind
def lF (z:List Int×List (List Int)×List Int) (n:Int):List Int×List (List Int)×List Int:=
 match z.2.1.getD n.toNat [] with
 | []=>(z.1.set n.toNat (-1),z.2.1,z.2.2++ [-1])
 | a::r=>(z.1.set n.toNat a,z.2.1.set n.toNat r,z.2.2++ [a])
theorem MF {w:Int}:∀ {os:List Int} {qs:List (List Int)} {po:List Int} {pq:List (List Int)} {G:List Int},os.length=qs.length->po.length=pq.length->
  (hold w os po.length).foldl lF (po++os,pq++qs,G)=(po++(jH w os qs).1,pq++(jH w os qs).2.1,G++(jH w os qs).2.2)
 | [],[],po,pq,G,_,_=>by simp [hold,jH]
 | o::os,q::qs,po,pq,G,f,hp=>by
  have f:os.length=qs.length:=by simpa using f
  have step:∀(c:Int) (d:List Int) (b:List Int),(hold w os (po.length+1)).foldl lF (po++c::os,pq++d::qs,b)=(po++c::(jH w os qs).1,pq++d::(jH w os qs).2.1,b++(jH w os qs).2.2):=λc d b=>by have:=MF (w:=w) (po:=po++ [c]) (pq:=pq++ [d]) (G:=b) f (by simp [hp]);simpa using this
  by_cases e:o=w
  ·unfold hold jH;rw [if_pos e,if_pos e,List.foldl_cons];have i:(pq++q::qs).getD po.length []=q:=by rw [hp];simp [List.getD]
   have g:∀v:Int,(po++o::os).set po.length v=po++v::os:=λv=>by rw [List.set_append_right _ _ (Nat.le_refl _)];simp
   have j:∀v:List Int,(pq++q::qs).set po.length v=pq++v::qs:=λv=>by rw [hp,List.set_append_right _ _ (Nat.le_refl _)];simp
   have k:lF (po++o::os,pq++q::qs,G) (po.length:Int)=(match q with
     | []=>(po++ -1::os,pq++ []::qs,G++ [-1])
     | a::r=>(po++a::os,pq++r::qs,G++ [a])):=by
    unfold lF;dsimp only;rw [Int.toNat_natCast,i];cases q with
    | nil=>dsimp only;rw [g]
    | cons a r=>dsimp only;rw [g,j]
   grind
  ·unfold hold jH;grind
 | [],_::_,_,_,_,h,_=>by cases h
 | _::_,[],_,_,_,h,_=>by cases h
theorem QW (z:List Int×List (List Int)×List Int) (n:Int):(lF z n).1.length=z.1.length/\(lF z n).2.1.length=z.2.1.length:=by unfold lF;split<;>simp
theorem NY :∀(l:List Int) (z:List Int×List (List Int)×List Int),(l.foldl lF z).1.length=z.1.length/\(l.foldl lF z).2.1.length=z.2.1.length
 | [],_=>⟨rfl,rfl⟩
 | n::l,z=>by have a:=NY l (lF z n);have b:=QW z n;grind
theorem JP :∀(l:List Int) (z:List Int×List (List Int)×List Int) (j:Nat),(∀n∈l,n.toNat≠j)->(l.foldl lF z).1[j]? =z.1[j]?/\(l.foldl lF z).2.1[j]? =z.2.1[j]?
 | [],_,_,_=>⟨rfl,rfl⟩
 | n::l,z,j,h=>by
  have c:=JP l (lF z n) j λm b=>h m (List.mem_cons_of_mem _ b);have a:=h n (List.mem_cons_self ..);have d:(lF z n).1[j]? =z.1[j]?/\(lF z n).2.1[j]? =z.2.1[j]?:=by
   unfold lF;split
   ·exact ⟨List.getElem?_set_ne a,rfl⟩
   ·exact ⟨List.getElem?_set_ne a,List.getElem?_set_ne a⟩
  grind
section
variable {h0 k:Hp} {p:Addr} {os:List Int} {qs:List (List Int)} {sl:Sl} {xs:List aL}
theorem Zf {n:Nat} {w:Int} (a:xs.map (·.owner)=os) (b:os[n]? =some w):∃x,xs[n]? =some x/\x.owner=w:=by grind
theorem NZ {n:Nat} {w:Int} {q:List Int} {Q:Int->Int->Hp->Prop} (o:Has h0 (nb p os qs) k) (E:0<=w) (D:os[n]? =some w) (j:qs[n]? =some q)
  (h1:q=[]->∀g,Has h0 (nb p (os.set n (-1)) qs) g->Q (-1) 0 g) (A:∀a r,q=a::r->∀g,Has h0 (nb p (os.set n a) (qs.set n r)) g->Q a 0 g):Yp prog (some p) (n:Int) w Q k:=by
 unfold Yp;have V:n<qs.length:=(List.getElem?_eq_some_iff.1 j).1;refine zpu (MC o ⟨by omega,by omega⟩ E ?_);rw [if_neg (by decide)];obtain ⟨sl,xs,h,R,o⟩:=o.mO;obtain ⟨x,b,G⟩:=Zf h D;have C:=(o.qt b (K:=λ_=>True) trivial).1;have l:=(List.getElem?_eq_some_iff.1 b).1;refine aP (o.u6 ⟨C,?_⟩);refine aP (o.qt b ?_).2;rw [if_neg (show ¬(x.owner !=w)=true by simp [G])];refine aP (o.rm b ?_).2;obtain ⟨S,_,I,W⟩:=o.f3;obtain ⟨T,_,u,X⟩:=I.sI b j;have f:=u.iy;cases q with
 | nil=>have f:x.queue.len=0:=f;rw [if_pos (by simp [f])];refine aP (o.nW (v:= -1) b λs e=> ?_);have d:(xs.set n (⟨-1,x.queue⟩:aL))[n]? =some ⟨-1,x.queue⟩:=List.getElem?_set_self l;refine aP (e.qt d ?_).2;exact h1 rfl s (e.iU (by rw [List.map_set,h]) (by grind))
 | cons a r=>
  have f:x.queue.len=r.length+1:=by simpa using f
  rw [if_neg (by simp;omega)];refine aP (o.rm b ?_).2;have P:Rs k (ab .i64) 1 x.queue (a::r):=u.jW (λ_=>rfl);refine P.get (λ_=>rfl) (by omega) (by omega) (by simp) λ(y:Int) m=> ?_;have m:y=a:=by grind
  subst m;refine aP (o.nW (v:=y) b λs e=> ?_);have d:(xs.set n (⟨y,x.queue⟩:aL))[n]? =some ⟨y,x.queue⟩:=List.getElem?_set_self l;refine aP (e.rm d ?_).2;refine aP (e.rm d ?_).2;refine aP (e.rm d ?_).2;obtain ⟨B,_,J,N⟩:=e.f3;obtain ⟨U,_,z,O⟩:=J.sI d j;have i:=z.wv;have i:x.queue.len<=x.queue.cap:=i;refine ⟨by dsimp only;omega,aE ?_⟩;dsimp only;rw [Int.toNat_natCast];have L:=z.qj (λ_=>rfl) (c:=x.queue.len) (Nat.le_refl _) i;have M:=N _ _ (O ⟨y,⟨aV x.queue.base 1 1 x.queue.len,x.queue.len-1,x.queue.len-1⟩⟩ _ _ L);refine aP (Has.sJ (x:=⟨y,x.queue⟩) (q:=y::r) (h1:=B) M d λH t=> ?_);have F:((xs.set n (⟨y,x.queue⟩:aL)).set n ⟨y,⟨aV x.queue.base 1 1 x.queue.len,x.queue.len-1,x.queue.len-1⟩⟩)[n]? =some ⟨y,⟨aV x.queue.base 1 1 x.queue.len,x.queue.len-1,x.queue.len-1⟩⟩:=List.getElem?_set_self (by grind);refine aP (t.qt F ?_).2;exact A y r rfl H (t.iU (by rw [List.map_set,List.map_set,h,List.set_set]) (by grind))
theorem MG {w:Int} {Q:Sl->Hp->Prop} (o:Has h0 (nb p os qs) k) (u:qs.length<=1000) (z:0<=w) (t:∀s a,Has h0 ((nb p os qs).star (dA 1 fC s (hold w os 0))) a->Q s a):Xy prog (some p) w Q k:=by
 unfold Xy;obtain ⟨sl,xs,j,l,o⟩:=o.mO;have x:=o.right.left.iy;have v:os.length=qs.length:=by grind
 refine aP (o.u6 ?_);have nil:Has k (dA 1 fC (⟨none,0,0⟩:Sl) ([]:List Int)) k:=Has.j5 (Hp.le_refl _);refine bq.intro (λ(s:Sl) (i:Int) a=>0<=i/\i<=(qs.length:Int)/\Has h0 ((dv p sl xs qs).star (dA 1 fC s (hold w (os.take i.toNat) 0))) a) (λ_ i _=>(qs.length-i).toNat) ⟨by omega,by omega,by simpa [hold] using o.beside nil⟩ ?_;rintro s i a ⟨i0,B,o⟩;by_cases g:i<(qs.length:Int)
 ·rw [if_pos (fT)];refine ⟨λf c=>i<(qs.length:Int)/\Has h0 ((dv p sl xs qs).star (dA 1 fC f (hold w (os.take (i.toNat+1)) 0))) c,?_,?_⟩
  ·refine (Has.left o).BG.get (λ_=>rfl) (by omega) i0 (by omega) λ(y:aL) A=>aE ?_;have r:os[i.toNat]? =some y.owner:=by grind
   have b:=ME (w:=w) (i:=0) r;rw [show (w !=(-1:Int))=true by simp;omega,Bool.and_true];by_cases e:y.owner=w
   ·rw [if_pos (by simp [e])];rw [if_pos e] at b;obtain ⟨n,_,d,_,h⟩:=o.snd;have q:=EF (w:=w) (os:=os.take i.toNat) (i:=0);rw [List.length_take] at q;refine d.push (e:=i) rfl (λ_=>rfl) (λ_=>rfl) rfl ⟨by omega,by omega⟩ λf c C=> ?_;grind
   ·rw [if_neg (by simp [e])];rw [if_neg e,List.append_nil] at b;exact ⟨g,by rw [b];exact o⟩
  ·rintro f c ⟨_,o⟩;rw [aI];grind
 ·rw [if_neg (λe=>g (by grind))];refine t _ a ?_;have m:i.toNat=os.length:=by omega
  rw [m,List.take_length] at o;obtain ⟨n,_,d,_,h⟩:=o.fst;exact h _ _ (d.iU j l)
end
abbrev eG :cO->List Value:=λg=> [.int .i64 g.FV,.int .i64 g.bT]
abbrev xU (l:Sl) (a:List (List Int)):dR:=jI (cf.ok (sh:=af) (sz:=1) lO) l a
section
variable {h0 k:Hp} {p:Addr} {os:List Int} {qs:List (List Int)} {sl:Sl} {xs:List aL}
def fc (w:Int) (q:List Int):List Int:=iD (λz=>decide (z=w)) q
theorem Vb {w:Int} {Q:Sl->Hp->Prop} (o:Has h0 (nb p os qs) k) (hl:qs.length<=1000/\∀q∈qs,q.length<=100) (d6:os.length=qs.length) (hw:0<=w)
  (hq:∀s b gs,gs.map cO.bT=(jH w os (qs.map (fc w))).2.2->Has h0 ((nb p (jH w os (qs.map (fc w))).1 (jH w os (qs.map (fc w))).2.1).star (dA 2 eG s gs)) b->Q s b):Zw prog (some p) w Q k:=by
 unfold Zw;obtain ⟨sl,xs,d,u,o⟩:=o.mO;have hs:=o.right.left.iy;refine aP (o.u6 ?_);refine au.intro (λ(i:Int) b=>0<=i/\i<=(qs.length:Int)/\∃xs,xs.map (·.owner)=os/\xs.length=qs.length/\Has h0 (dv p sl xs ((qs.take i.toNat).map (fc w)++qs.drop i.toNat)) b) (λi _=>(qs.length-i).toNat) ⟨by omega,by omega,xs,d,u,by simpa using o⟩ ?_;rintro i b ⟨i0,i1,xs,d,u,o⟩;by_cases O:i<(qs.length:Int)
 ·rw [if_pos (fT)];have hi:i.toNat<qs.length:=by omega
  have F:=List.getElem?_eq_getElem hi;generalize qs[i.toNat]=q at F;have Y:=EE (f:=fc w) F;have b5:i.toNat<xs.length:=by omega
  have H:=List.getElem?_eq_getElem b5;generalize xs[i.toNat]=x at H;have D:((i.toNat:Nat):Int)=i:=by omega
  have d7:=hl.2 q (List.mem_of_getElem? F);refine ⟨λ_ c=>i<(qs.length:Int)/\∃xs,xs.map (·.owner)=os/\xs.length=qs.length/\Has h0 (dv p sl xs ((qs.take (i.toNat+1)).map (fc w)++qs.drop (i.toNat+1))) c,?_,?_⟩
  ·refine aP (o.u6 ?_);have X:=o.rm H (K:=λy=>y=x.queue) rfl;rw [D] at X;obtain ⟨N,y,hy,rfl⟩:=X;refine ⟨N,_,hy,?_⟩;obtain ⟨P,_,o4,c9⟩:=o.f3;obtain ⟨E,_,C,J⟩:=o4.sI H Y;refine OJ (MA (C.jW (λ_=>rfl)) (by omega) ?_);have U:=Cd (λz:Int=>decide (z=w)) q;by_cases hp:pk w q>=0
   ·rw [if_pos (decide_eq_true hp)];have b7:pk w q<q.length:=JK hp;refine aP (o.u6 ?_);refine aP (o.u6 ?_);refine ⟨N,_,hy,?_⟩;obtain ⟨n,B⟩:∃n:Nat,pk w q=n:=⟨(pk w q).toNat,by omega⟩;have I:prog.underlying 23=some (.slice 3):=bW.cm 23 rH rfl;have b3:∀(M:Sl->Hp->Prop),(∀g b,Has E (dA 1 fC g (q.take n++q.drop (n+1))) b->M g b)->UN prog x.queue (n:Int) ((n+1:Nat):Int) M b:=λM b0=>by
     unfold UN;exact Has.GF (bytes:=8) (z:=.int .i64 0) I (λhK=>DG bW (e:=Ou) rfl hK) (λ_=>rfl) (λ_=>rfl) rfl (λm=>by induction m with
      | zero=>rfl
      | succ m ih=>exact ih) C (by omega) (by omega) ⟨by omega,by omega⟩ b0
    rw [B,aI];refine zuk (b3 _ λg c R=> ?_);have l:=c9 _ _ (J ⟨x.owner,g⟩ _ _ R);refine ⟨⟨l.left.eM (n:=1) rfl,trivial⟩,N,?_⟩;have c6:q.take n++q.drop (n+1)=fc w q:=by have b8:iO (λz:Int=>decide (z=w)) q=n:=B;show _=iD (λz=>decide (z=w)) q;rw [U,b8,if_pos (by omega),Int.toNat_natCast]
    rw [c6,zu F] at l;have key:cl c ((sat sl.base 2 ((i.toNat:Nat):Int)).add 1) [g.v] λk4=>i<(qs.length:Int)/\∃xs,xs.map (·.owner)=os/\xs.length=qs.length/\Has h0 (dv p sl xs ((qs.take (i.toNat+1)).map (fc w)++qs.drop (i.toNat+1))) k4:=by obtain ⟨h8,_,S,a8⟩:=l.f2;refine S.yn (λ_=>rfl) H (x':=⟨x.owner,g⟩) (show (2:Nat)<=2 by decide) rfl λk4 o9=> ?_;refine ⟨O,xs.set i.toNat ⟨x.owner,g⟩,?_,by rw [List.length_set];exact u,a8 _ _ o9⟩;rw [List.map_set,d];refine Fo ?_;rw [<-d,List.getElem?_map,H];rfl
    grind
   ·rw [if_neg (λh=>hp (of_decide_eq_true h))];refine ⟨O,xs,d,u,?_⟩;have c5:fc w q=q:=by show iD (λz=>decide (z=w)) q=q;rw [U,if_neg (show ¬0<=iO (λz:Int=>decide (z=w)) q from hp)]
    have:=zu (f:=fc w) F;rw [c5,Fo Y] at this;grind
  ·rintro _ c ⟨_,xs,d,u,o⟩;rw [aI];refine ⟨⟨by omega,by omega,xs,d,u,?_⟩,by omega⟩;rw [show (i+1).toNat=i.toNat+1 by omega];exact o
 ·rw [if_neg (λe=>O (by grind))];have D:i.toNat=qs.length:=by omega
  rw [D,List.take_length,List.drop_length,List.append_nil] at o;have o:Has h0 (nb p os (qs.map (fc w))) b:=o.iU d (by grind);refine zpr (MG o (by grind) hw λs k1 o=> ?_);have d5:=o.right.iy;have d2:=EF (w:=w) (os:=os) (i:=0);have rs:∀c,Has h0 ((nb p os (qs.map (fc w))).star (dA 1 fC s (hold w os 0))) c->Rw c 1 fC s (hold w os 0):=λc o=>o.right.jW (λ_=>rfl);have nil:Has k1 (dA 2 eG (⟨none,0,0⟩:Sl) ([]:List cO)) k1:=Has.j5 (Hp.le_refl _);have V:=MF (w:=w) (os:=os) (qs:=qs.map (fc w)) (po:=[]) (pq:=[]) (G:=[]) (by grind) rfl;simp only [List.nil_append,List.length_nil] at V;refine bq.intro (λ(t:Sl) (i:Int) b=>0<=i/\i<=((hold w os 0).length:Int)/\∃gs:List cO,gs.map cO.bT=(((hold w os 0).take i.toNat).foldl lF (os,qs.map (fc w),[])).2.2/\gs.length=i.toNat/\
   Has h0 (((nb p (((hold w os 0).take i.toNat).foldl lF (os,qs.map (fc w),[])).1 (((hold w os 0).take i.toNat).foldl lF (os,qs.map (fc w),[])).2.1).star (dA 1 fC s (hold w os 0))).star (dA 2 eG t gs)) b) (λ_ i _=>((hold w os 0).length-i).toNat)
   ⟨by omega,by omega,[],by simp,rfl,by simpa using o.beside nil⟩ ?_
  rintro t i b ⟨i0,i1,gs,L,b4,o⟩;by_cases P:i<((hold w os 0).length:Int)
  ·rw [if_pos (fT)];have hr:Rs b (ab .i64) 1 s (hold w os 0):=o.left.right.jW (λ_=>rfl);refine hr.get (λ_=>rfl) (by omega) i0 P λ(n:Int) B=> ?_;obtain ⟨j,hj,c4⟩:=uH (List.mem_of_getElem? B);have b6:n=(j:Int):=by omega
   subst b6;generalize I:((hold w os 0).take i.toNat).foldl lF (os,qs.map (fc w),[])=z at o L;have c3:∀m∈(hold w os 0).take i.toNat,m.toNat≠j:=λm hm e=>by
    obtain ⟨a,A⟩:=List.getElem?_of_mem hm;rw [List.getElem?_take] at A;split at A
    ·rename_i b7;obtain ⟨j2,d3,_⟩:=uH (List.mem_of_getElem? A);have em:m=(j:Int):=by omega
     rw [em] at A;have b9:=Dg (w:=w) (os:=os) (i:=0);obtain ⟨b1,b2⟩:=List.getElem?_eq_some_iff.1 A;obtain ⟨c1,c2⟩:=List.getElem?_eq_some_iff.1 B;exact List.pairwise_iff_getElem.1 b9 a i.toNat b1 c1 (by omega) (b2.trans c2.symm)
    ·cases A
   have T:=JP ((hold w os 0).take i.toNat) (os,qs.map (fc w),[]) j c3;rw [I] at T;have c7:=NY ((hold w os 0).take i.toNat) (os,qs.map (fc w),[]);rw [I] at c7;have d4:j<qs.length:=by grind
   obtain ⟨q,Z⟩:∃q,z.2.1[j]? =some q:=⟨_,List.getElem?_eq_getElem (by grind)⟩;have c8:z.1[j]? =some w:=T.1.trans c4;obtain ⟨E,_,C,_,J⟩:=o.fst;obtain ⟨h6,_,R,_,d0⟩:=C.fst;have c0:((hold w os 0).take (i.toNat+1)).foldl lF (os,qs.map (fc w),[])=lF z (j:Int):=by rw [List.take_add_one,B,List.foldl_append,I];rfl
   have W:z.2.1.getD j []=q:=pD Z;have d1:∀(v:Int) c,(lF z (j:Int)).2.2=z.2.2++ [v]->Has h6 (nb p (lF z (j:Int)).1 (lF z (j:Int)).2.1) c->
     bG [.int .i64 (j:Int),.int .i64 v] (λa E=>gv 2 16 [(.int .i64 (0:Int)),(.int .i64 (0:Int))] ⟨t.base,t.len,t.cap⟩ ⟨(some a),1,1⟩ (λr3 a9=>
      (λ(t:Sl) (i:Int) b=>0<=i/\i<=((hold w os 0).length:Int)/\∃gs:List cO,gs.map cO.bT=(((hold w os 0).take i.toNat).foldl lF (os,qs.map (fc w),[])).2.2/\gs.length=i.toNat/\
       Has h0 (((nb p (((hold w os 0).take i.toNat).foldl lF (os,qs.map (fc w),[])).1 (((hold w os 0).take i.toNat).foldl lF (os,qs.map (fc w),[])).2.1).star (dA 1 fC s (hold w os 0))).star (dA 2 eG t gs)) b) r3 (yw (i+1)) a9/\((hold w os 0).length-yw (i+1)).toNat<((hold w os 0).length-i).toNat) E) c:=by
    intro v c hv l;have oo:=J _ _ (d0 _ _ l);obtain ⟨h8,_,S,_,a8⟩:=oo.snd;refine S.push (e:=⟨(j:Int),v⟩) rfl (λ_=>rfl) (λ_=>rfl) rfl ⟨by omega,by omega⟩ λs2 k3 o9=> ?_;rw [aI];refine ⟨⟨by omega,by omega,gs++ [⟨(j:Int),v⟩],?_,?_,?_⟩,by omega⟩
    ·rw [show (i+1).toNat=i.toNat+1 by omega,c0,hv,List.map_append,L];rfl
    ·rw [List.length_append,b4];simp;omega
    grind
   refine zrg (NZ R hw c8 Z (λeq c l=> ?_) λa r eq c l=> ?_)
   ·have hg:lF z (j:Int)=(z.1.set j (-1),z.2.1,z.2.2++ [-1]):=by unfold lF;rw [Int.toNat_natCast,W,eq]
    grind
   ·have hg:lF z (j:Int)=(z.1.set j a,z.2.1.set j r,z.2.2++ [a]):=by unfold lF;rw [Int.toNat_natCast,W,eq]
    grind
  ·rw [if_neg (λe=>P (by grind))];have D:i.toNat=(hold w os 0).length:=by omega
   rw [D,List.take_length,V] at o L;refine hq _ b gs L ?_;obtain ⟨E,_,C,_,J⟩:=o.fst;exact J _ _ C.left
end
section
variable {h0 k:Hp} {p:Addr} {os:List Int} {qs:List (List Int)} {sl:Sl} {xs:List aL}
theorem Has.P8 {c:Type} {sh:Shape} {sz:Nat} {S:sh.T->c->Prop} {l:Sl} {b:List c} {v:sh.T} {q:c} {d zero:List Value} {bytes:Nat} {K:Sl->Hp->Prop} (o:Has h0 (jI (cf.ok (sh:=sh) (sz:=sz) (fD.ok S)) l b) k) (g:S v q)
  (i:d=ba (sh.enc v)) (j:∀x,(ba (sh.enc x)).length=sz) (n:∀x,iX (ba (sh.enc x))=true) (r:zero.length=sz) (hb:b.length+1<=140737488355328/\(b.length+1)*bytes<=140737488355328)
  (m:∀f e,Has h0 (jI (cf.ok (sh:=sh) (sz:=sz) (fD.ok S)) f (b++ [q])) e->K f e):bG d (λa s=>gv sz bytes zero l ⟨some a,1,1⟩ K s) k:=
 Has.row (okQ:=fD.ok S) (o.beside (Has.sE (Hp.le_refl k) ⟨rfl,g⟩ .nil λ_ h=>by cases h)) i j n r hb m
theorem QX {Q:Sl->Sl->Hp->Prop} (o:Has h0 (nb p os qs) k) (r:qs.length<=1000/\∀q∈qs,q.length<=100) (t:os.length=qs.length)
  (w:∀s a b,Has h0 ((nb p os qs).star ((um s os).star (xU a qs))) b->Q s a b):Xs prog (some p) Q k:=by
 unfold Xs;obtain ⟨sl,xs,j,l,o⟩:=o.mO;have hs:=o.right.left.iy;refine aP (o.u6 ?_);have D:Has k (um (⟨none,0,0⟩:Sl) ([]:List Int)) k:=Has.nI (okQ:=fD.ok Eq) (Hp.le_refl _);have E:Has k (xU (⟨none,0,0⟩:Sl) ([]:List (List Int))) k:=Has.nI (okQ:=lO) (Hp.le_refl _);refine qd.intro (λ(s a:Sl) (i:Int) b=>0<=i/\i<=(qs.length:Int)/\Has h0 ((dv p sl xs qs).star ((um s (os.take i.toNat)).star (xU a (qs.take i.toNat)))) b) (λ_ _ i _=>(qs.length-i).toNat)
  ⟨by omega,by omega,by simpa using o.beside (D.beside E)⟩ ?_
 rintro s a i b ⟨i0,i1,o⟩;by_cases n:i<(qs.length:Int)
 ·rw [if_pos (fT)];refine (Has.left o).BG.get (λ_=>rfl) (by omega) i0 (by omega) λ(y:aL) z=> ?_;have hi:i.toNat<qs.length:=by omega
  have c:=List.getElem?_eq_getElem hi;generalize qs[i.toNat]=q at c;have a9:=r.2 q (List.mem_of_getElem? c);have u:os[i.toNat]? =some y.owner:=by grind
  have g:(⟨s.base,s.len,s.cap⟩:Sl)=s:=rfl;have h:(⟨a.base,a.len,a.cap⟩:Sl)=a:=rfl;rw [g,h];obtain ⟨W,_,H,P⟩:=o.f2;refine H.P8 (S:=Eq) (v:=y.owner) (q:=y.owner) rfl rfl (λ_=>rfl) (λ_=>rfl) rfl ⟨by rw [List.length_take];omega,by rw [List.length_take];omega⟩ λs1 A I=> ?_;have o:=P _ _ I;refine IF ?_;unfold A6;obtain ⟨X,_,J,_⟩:=(Has.left o).right.right.sI z c;refine xO (bW.cm 23 rH rfl) (J.jW (λ_=>rfl)) (by decide) (λ_=>rfl) (λ_=>rfl) rfl ⟨by omega,by omega⟩ λU B a8 C=> ?_;have d:Has A (um U q) B:=C.jC (f:=λx=>x) (λ_=>rfl) λ_=>rfl;have N:=(o.beside d).assoc;obtain ⟨Y,_,K,_,R⟩:=N.snd;obtain ⟨Z,_,L,_,T⟩:=K.assoc.snd;refine Has.row (sh:=af) (okQ:=lO) L rfl (λ_=>rfl) (λ_=>rfl) rfl ⟨by rw [List.length_take];omega,by rw [List.length_take];omega⟩ λs2 k3 M=> ?_;have F:=R _ _ (T _ _ M);rw [aI];refine ⟨⟨by omega,by omega,?_⟩,by omega⟩;have t1:os.take (i.toNat+1)=os.take i.toNat++ [y.owner]:=by rw [List.take_add_one,u];rfl
  have t2:qs.take (i.toNat+1)=qs.take i.toNat++ [q]:=by rw [List.take_add_one,c];rfl
  rw [show (i+1).toNat=i.toNat+1 by omega,t1,t2];exact F
 ·rw [if_neg (λe=>n (by grind))];refine w _ _ b ?_;have m:i.toNat=qs.length:=by omega
  rw [m,List.take_length,<-t,List.take_length] at o;obtain ⟨V,_,G,_,O⟩:=o.fst;exact O _ _ (G.iU j l)
structure KU (os:List Int) (qs:List (List Int)):Prop where
 len:os.length=qs.length/\os.length<=8
 own:∀o∈os, -1<=o
 jT:∀(i:Nat) o q,os[i]? =some o->qs[i]? =some q->q.length<=100/\(o= -1->q=[])/\(∀z∈q,0<=z/\z≠o)/\q.Nodup
 once:∀(i j:Nat) q q',qs[i]? =some q->qs[j]? =some q'->i<j->∀z∈q',z∉q
theorem XP {x:aL} {q:List Int} (c:xs.length=qs.length) (o:Has h0 ((uj xs qs).star (dA 1 fC x.queue q)) k):Has h0 (uj (xs++ [x]) (qs++ [q])) k:=by
 unfold uj;rw [List.length_append];show Has h0 ((dR.first (λi=>dA 1 fC ((xs++ [x]).getD i tI).queue ((qs++ [q]).getD i [])) qs.length).star (dA 1 fC ((xs++ [x]).getD qs.length tI).queue ((qs++ [q]).getD qs.length []))) k;have a:(xs++ [x]).getD qs.length tI=x:=by simp [List.getD,<-c]
 have b:(qs++ [q]).getD qs.length []=q:=by simp [List.getD]
 rw [a,b];refine cast (congrArg (λA=>Has h0 (A.star (dA 1 fC x.queue q)) k) (tW λi hi=> ?_)) o;grind
theorem dv.uw {b:Sl} {K:Hp->Prop} (o:Has h0 ((dJ FC p ⟨sl⟩).star ((dA 2 eL b xs).star (uj xs qs))) k) (c:∀a,Has h0 (dv p b xs qs) a->K a):cl k (p.add 0) [b.v] K:=by obtain ⟨f,_,e,put⟩:=o.f1;exact e.st (⟨b⟩:fI) (show (1:Nat)<=1 by decide) rfl λa d=>c a (put _ _ d)
theorem Vc {M sq:Sl} {B:List Sl} {Q:Option Addr->Int->Hp->Prop} (v:KU os qs) (X:Is k M os) (L:Rs k af 1 sq B) (a:dB (Is k) B qs) (hq:∀p c,k<=c->Has k (nb p os qs) c->Q (some p) 0 c):CB prog M sq Q k:=by
 unfold CB;have d3:=X.1;have d4:=L.1;have d6:=a.len;have a9:=v.len;refine aE ?_;rw [show (decide ((M.len:Int)>8) || decide ((sq.len:Int)>8))=false by simp;omega,if_neg (by decide),if_neg (by simp;omega)];refine rQ (sh:=FC) ⟨⟨none,0,0⟩⟩ rfl λp H d2 o1=> ?_;have BS:Has k (dv p ⟨none,0,0⟩ [] []) H:=o1.beside ((Has.j5 (Hp.le_refl H)).beside (Has.fact trivial (Hp.le_refl H)));refine au.intro (λ(i:Int) c=>0<=i/\i<=(os.length:Int)/\∃(sl:Sl) (xs:List aL),xs.map (·.owner)=os.take i.toNat/\Has k (dv p sl xs (qs.take i.toNat)) c) (λi _=>(os.length-i).toNat) ⟨by omega,by omega,_,[],by simp,by simpa using BS⟩ ?_;rintro i c ⟨i0,i1,sl,xs,l,o⟩;by_cases O:i<(os.length:Int)
 ·rw [if_pos (fT)];have F:xs.length=i.toNat:=by have:=congrArg List.length l;grind
  refine Rs.get (sh:=ab .i64) (Rw.mono o.le X) (λ_=>rfl) (by omega) i0 O λ(w:Int) D=> ?_;have d5:=v.own w (List.mem_of_getElem? D);have c8:Rs c af 1 sq B:=Rw.mono o.le L;have hi:i.toNat<qs.length:=by omega
  have f:=List.getElem?_eq_getElem hi;generalize qs[i.toNat]=q at f;obtain ⟨y,S,G⟩:=a.get' f;obtain ⟨v1,v2,v3,v4⟩:=v.jT i.toNat w q D f;refine c8.mj (⟨none,0,0⟩:Sl) (λ_=>rfl) (by omega) (λ_=>⟨i0,by omega⟩) λ(y0:Sl) b6=> ?_;have g:((w==(-1:Int))&&decide ((y0.len:Int)>0))=false:=by
   by_cases e:w= -1
   ·have:=b6 (by simp [e]);rw [S] at this;cases this;have b0:=G.1;grind
   ·simp [e]
  refine aE (aE ?_);rw [g,show decide (w<(-1:Int))=false by simp;omega,if_neg (by decide)];refine aP (o.u6 ?_);obtain ⟨h4,_,o4,c5⟩:=o.f2;refine o4.push (e:=⟨w,⟨none,0,0⟩⟩) rfl (λ_=>rfl) (λ_=>rfl) rfl ⟨by omega,by omega⟩ λA I o5=> ?_;have o6:=c5 _ _ o5;have nil:Has I (dA 1 fC (⟨w,⟨none,0,0⟩⟩:aL).queue []) I:=Has.j5 (Hp.le_refl _);have o7:Has k ((dJ FC p ⟨sl⟩).star ((dA 2 eL A (xs++ [⟨w,⟨none,0,0⟩⟩])).star (uj (xs++ [⟨w,⟨none,0,0⟩⟩]) (qs.take i.toNat++ [[]])))) I:=by have oo:=(o6.beside nil).assoc;obtain ⟨h8,_,u,_,c6⟩:=oo.snd;obtain ⟨h9,_,d,_,c7⟩:=u.assoc.snd;exact c6 _ _ (c7 _ _ (XP (by grind) d))
  refine aP (dv.uw o7 λk3 u=> ?_);have c9:Rs k3 af 1 sq B:=Rw.mono u.le L;refine c9.get (λ_=>rfl) (by omega) i0 (by omega) λ(h:Sl) T=> ?_;rw [S] at T;cases T;have b0:=G.1;have r:(qs.take i.toNat).length=i.toNat:=by grind
  refine au.intro (λ(j:Int) c=>0<=j/\j<=(q.length:Int)/\∃(s:Sl),Has k (dv p A (xs++ [⟨w,s⟩]) (qs.take i.toNat++ [q.take j.toNat])) c) (λj _=>(q.length-j).toNat) ⟨by omega,by omega,_,by simpa using u⟩ ?_;rintro j k4 ⟨j0,j1,s,d⟩;by_cases P:j<(q.length:Int)
  ·rw [if_pos (fT)];have b5:Is k4 y q:=Rw.mono d.le G;refine b5.get (λ_=>rfl) (by omega) j0 P λ(z:Int) g=> ?_;have V:=List.mem_of_getElem? g;have d7:=v3 z V;have b3:(xs++ [(⟨w,s⟩:aL)]).length=(qs.take i.toNat++ [q.take j.toNat]).length:=by simp [r,F]
   refine zpt (MD d b3 ⟨by simp [r];omega,λJ hq'=> ?_⟩ (λJ hq'=> ?_) ?_)
   ·rcases List.mem_append.1 hq' with hq' | hq'
    ·obtain ⟨b,hb⟩:=List.getElem?_of_mem (List.mem_of_mem_take hq');have d1:=(List.getElem?_eq_some_iff.1 hb).1;exact (v.jT b _ J (List.getElem?_eq_getElem (show b<os.length by omega)) hb).1
    grind
   ·rcases List.mem_append.1 hq' with hq' | hq'
    ·obtain ⟨b,hb⟩:=List.getElem?_of_mem hq';rw [List.getElem?_take] at hb;split at hb
     ·rename_i C;exact v.once b i.toNat J q hb f C z V
     ·cases hb
    ·rw [List.mem_singleton.1 hq'];intro hm;obtain ⟨b,hb⟩:=List.getElem?_of_mem hm;rw [List.getElem?_take] at hb;split at hb
     ·rename_i C;obtain ⟨Z,b2⟩:=List.getElem?_eq_some_iff.1 hb;obtain ⟨c1,c2⟩:=List.getElem?_eq_some_iff.1 g;exact List.pairwise_iff_getElem.1 v4 b j.toNat Z c1 C (b2.trans c2.symm)
     ·cases hb
   ·refine aE (aE ?_);rw [show (false || decide (z<0) || z==w)=false by simp;omega,if_neg (by decide)];have E:(xs++ [(⟨w,s⟩:aL)])[i.toNat]? =some ⟨w,s⟩:=by rw [<-F];simp
    have b4:(qs.take i.toNat++ [q.take j.toNat])[i.toNat]? =some (q.take j.toNat):=by rw [List.getElem?_append_right (by omega),r];simp
    have m:((i.toNat:Nat):Int)=i:=by omega
    refine aP (d.u6 ?_);refine aP (d.u6 ?_);have R:=d.rm E (K:=λy=>y=s) rfl;rw [m] at R;obtain ⟨N,Y,U,rfl⟩:=R;refine ⟨N,_,U,?_⟩;obtain ⟨a8,_,b7,c3⟩:=d.f3;obtain ⟨d0,_,b8,c4⟩:=b7.sI E b4;refine mr (xs:=[z]) (sz:=1) (enc:=fC) rfl (λ_=>rfl) λa2 k5 t n5=> ?_;refine ⟨⟨nr t (d.left.eM (n:=1) rfl),nr t (d.left.eM (n:=1) rfl),nr t U,trivial⟩,?_⟩;refine (b8.grow t).app (n5.jW (λ_=>rfl)) (λ_=>rfl) (λ_=>rfl) rfl ⟨by simp [List.length_take];omega,by simp [List.length_take];omega⟩ λs2 k6 b9=> ?_;have W:=c3 _ _ (c4 ⟨w,s2⟩ _ _ b9);refine ⟨⟨W.left.eM (n:=1) rfl,trivial⟩,N,?_⟩;have key:=Has.sJ (x:=⟨w,Y⟩) (q:=q.take j.toNat) (h1:=a8) W E λk7 c0=>(show (λh c=>(0<=h/\h<=(q.length:Int)/\∃(s:Sl),Has k (dv p A (xs++ [⟨w,s⟩]) (qs.take i.toNat++ [q.take h.toNat])) c)/\((q.length:Int)-h).toNat<((q.length:Int)-j).toNat) (yw (j+1)) k7 from by
     rw [aI];refine ⟨⟨by omega,by omega,s2,?_⟩,by omega⟩;have t1:(xs++ [(⟨w,Y⟩:aL)]).set i.toNat ⟨w,s2⟩=xs++ [⟨w,s2⟩]:=by rw [List.set_append_right _ _ (by omega),<-F];simp
     have t2:(qs.take i.toNat++ [q.take j.toNat]).set i.toNat (q.take j.toNat++ [z])=qs.take i.toNat++ [q.take (j+1).toNat]:=by rw [List.set_append_right _ _ (by omega),r,show (j+1).toNat=j.toNat+1 by omega,List.take_add_one,g];simp
     rw [<-t1,<-t2];exact c0)
    grind
  ·rw [if_neg (λe=>P (by grind))];rw [aI];have ej:j.toNat=q.length:=by omega
   rw [ej,List.take_length] at d;refine ⟨⟨by omega,by omega,A,xs++ [⟨w,s⟩],?_,?_⟩,by omega⟩
   ·rw [List.map_append,l,show (i+1).toNat=i.toNat+1 by omega,List.take_add_one,D];rfl
   ·rw [show (i+1).toNat=i.toNat+1 by omega,List.take_add_one,f];exact d
 ·rw [if_neg (λe=>O (by grind))];have m:i.toNat=os.length:=by omega
  rw [m,List.take_length] at l;rw [m,a9.1,List.take_length] at o;exact hq p c o.le (o.iU l (by grind))
end
abbrev eE :az->List Value:=λx=>ba (aX.enc x)
def kQ (a b:az):Prop:=a.due<b.due\/a.due=b.due/\a.dI<b.dI
theorem XQ (a:az):¬kQ a a:=by unfold kQ;omega
theorem KW {a b c:az} (h:kQ a b) (k:kQ b c):kQ a c:=by unfold kQ at*;omega
theorem XR {a b:az} (h:¬kQ a b) (c:a≠b):kQ b a:=by
 unfold kQ at*;by_cases d:a.due=b.due
 ·by_cases e:a.dI=b.dI
  ·exact absurd (by cases a;cases b;grind) c
  ·omega
 ·omega
def oX (x y:Int):Int:=if x<y then -1 else if x>y then 1 else 0
theorem Vd {x y:Int} {Q:Int->Hp->Prop} {h:Hp} (a:Q (oX x y) h):XI prog x y Q h:=by
 unfold XI;refine zsp ?_;unfold ZD;refine zsp ?_;unfold ZD;dsimp only;rw [iT,if_neg (by simp)];unfold oX at a;by_cases b:x<y
 ·rw [if_pos (by simpa using b)];rw [if_pos b] at a;exact a
 ·rw [if_neg (by simpa using b)];rw [if_neg b] at a;by_cases c:x>y
  ·rw [if_pos (by simpa using c)];rw [if_pos c] at a;exact a
  ·rw [if_neg (by simpa using c)];rw [if_neg c] at a;exact a
theorem Tk {x y:Int} {Q:Int->Hp->Prop} {h:Hp} (a:Q (oX x y) h):ZA prog x y Q h:=by
 unfold ZA;refine YJ ?_;unfold Pf;refine YJ ?_;unfold Pf;dsimp only;rw [iT,if_neg (by simp)];unfold oX at a;by_cases b:x<y
 ·rw [if_pos (by simpa using b)];rw [if_pos b] at a;exact a
 ·rw [if_neg (by simpa using b)];rw [if_neg b] at a;by_cases c:x>y
  ·rw [if_pos (by simpa using c)];rw [if_pos c] at a;exact a
  ·rw [if_neg (by simpa using c)];rw [if_neg c] at a;exact a
theorem Zg {l:Sl} {u v:Int} {Q:Int->Hp->Prop} {h:Hp} (r:Rs h (ab .i64) 1 l [u,v]) (c:Q (if u≠0 then u else v) h):B8 prog l Q h:=by
 unfold B8;have a:=r.1;simp at a;refine au.intro (λi k=>k=h/\(i=0\/(i=1/\u=0)\/(i=2/\u=0/\v=0))) (λi _=>(2-i).toNat) ⟨rfl,.inl rfl⟩ ?_;rintro i k ⟨rfl,hi⟩;have w:yw (i+1)=i+1:=aI;rw [w];by_cases b:i=2
 ·grind
 ·rw [if_pos (show decide (i<(l.len:Int))=true by simp;omega)];refine Rs.get r (λ_=>rfl) (by omega) (by omega) (by simp;omega) λ(x:Int) d=> ?_;grind
def yk (a b:az):Int:=if oX a.due b.due≠0 then oX a.due b.due else oX a.dI b.dI
theorem tK {a b:az}:yk a b<0↔kQ a b:=by unfold yk oX kQ;omega
theorem N0 {a b:az} {Q:Int->Hp->Prop} {h:Hp} (e:∀c,h<=c->Q (yk a b) c):zyi prog a b Q h:=by unfold zyi;refine zzq (Vd ⟨⟨trivial,trivial,trivial⟩,?_⟩);refine Rr (Tk ?_);refine uJ (xs:=([oX a.due b.due,oX a.dI b.dI]:List Int)) (enc:=λx=>ba ((ab .i64).enc x)) (sz:=1) (Hp.le_refl h) rfl (λ_=>rfl) λa1 d f g=> ?_;exact V9 (eh:=⟨some a1,2,2⟩) (Zg (g.rw λ_=>rfl) (e d f))
theorem Zh {i j:Int} (d:0<=i) (e:0<=j) (c:i+j<9223372036854775808):yw (fA .u64 (IntKind.wrap .u64 (yw (i+j))) 1)=(i+j) / 2:=by
 rw [wrap64 (by omega) c];have a:IntKind.wrap .u64 (i+j)=i+j:=by
  (try unfold yw);unfold IntKind.wrap
  simp only [IntKind.signed,IntKind.bits];grind
 rw [a];have b:fA .u64 (i+j) 1=(i+j) / 2:=by
  unfold fA;have:min (1:Int).toNat (IntKind.bits .u64)=1:=by decide
  grind
 rw [b,aI]
theorem Tm {x:Sl} {c:List az} {d:az} {Q:Int->Bool->Hp->Prop} {h:Hp} (r:Rw h 2 eE x c) (F:c.length<=4398046511104) (K:c.Pairwise kQ)
  (P:∀(i:Nat) b f,h<=f->i<=c.length->(∀e∈c.take i,kQ e d)->(∀e∈c.drop i,¬kQ e d)->Q (i:Int) b f):
  QJ prog x d ⟨LO, #[], #[]⟩ Q h:=by
 unfold QJ;have T:=r.1;refine bq.intro (λi j k=>h<=k/\0<=i/\i<=j/\j<=(c.length:Int)/\(∀e∈c.take i.toNat,kQ e d)/\(∀e∈c.drop j.toNat,¬kQ e d)) (λi j _=>(j-i).toNat) ⟨Hp.le_refl h,by omega,by omega,by omega,λe v=>by simp at v,λe v=>by simp [T] at v⟩ ?_;rintro i j k ⟨o,E,W,M,G,D⟩;have B:=r.mono o;split
 ·rename_i e;have e:i<j:=by simpa using e
  rw [Zh E (by omega) (by omega)];have H:i<=(i+j) / 2:=by omega
  have O:(i+j) / 2<j:=by omega
  generalize (i+j) / 2=m at H O;refine fQ.intro (λs t U=>h<=U/\0<=s/\s<=t/\t<=(c.length:Int)/\(∀e∈c.take s.toNat,kQ e d)/\(∀e∈c.drop t.toNat,¬kQ e d)/\t - s<j-i) ?_ ?_
  ·refine ⟨by omega,?_⟩;refine kV (sh:=aX) B λ(l:az) A=> ?_;refine ⟨LO, #[], #[],rfl,rfl,zzj (a:=l) (b:=d) (N0 λf u=> ?_)⟩;obtain ⟨I,J⟩:=List.getElem?_eq_some_iff.1 A;by_cases p:yk l d<0
   ·rw [if_pos (by simpa using p),aI];have n:=tK.1 p;refine ⟨Hp.le_trans o u,by omega,by omega,M,λy hy=> ?_,D,by omega⟩;have:(m+1).toNat=m.toNat+1:=by omega
    rw [this,List.take_add_one,A] at hy;rcases List.mem_append.1 hy with hy | hy
    ·obtain ⟨q,g⟩:=List.mem_iff_getElem?.1 hy;rw [List.getElem?_take] at g;split at g
     ·rename_i S;obtain ⟨w,z⟩:=List.getElem?_eq_some_iff.1 g;have:=List.pairwise_iff_getElem.1 K q m.toNat w I S;rw [z,J] at this;exact KW this n
     ·cases g
    ·have:y=l:=by simpa using hy
     rw [this];exact n
   ·rw [if_neg (by simpa using p)];have n:¬kQ l d:=λh=>p (tK.2 h);refine ⟨Hp.le_trans o u,E,H,by omega,G,λy hy=> ?_,by omega⟩;obtain ⟨q,g⟩:=List.mem_iff_getElem?.1 hy;rw [List.getElem?_drop] at g;obtain ⟨w,z⟩:=List.getElem?_eq_some_iff.1 g;by_cases R:q=0
    ·subst R;rw [Nat.add_zero,A] at g;cases g;exact n
    ·have:=List.pairwise_iff_getElem.1 K m.toNat (m.toNat+q) I w (by omega);rw [z,J] at this;exact λhy=>n (KW this hy)
  grind
 ·rename_i e;have e:¬i<j:=by simpa using e
  have N:j=i:=by omega
  subst N;have X:(j.toNat:Int)=j:=by omega
  have C:∀b f,k<=f->Q j b f:=λb f F=>by have:=P j.toNat b f (Hp.le_trans o F) (by omega) G D;grind
  cases L:decide (j<(x.len:Int)) with
  | false=>refine Rs.mj (sh:=aX) B (⟨0,0⟩:az) (λ_=>rfl) (by omega) (λe=>by cases e) λ(l:az) _=> ?_;exact ⟨λe=>(by cases e),λ_=>⟨0,aE (C _ k (Hp.le_refl k))⟩⟩
  | true=>
   have V:j<(x.len:Int):=by simpa using L
   refine Rs.mj (sh:=aX) B (⟨0,0⟩:az) (λ_=>rfl) (by omega) (λ_=>by omega) λ(l:az) _=> ?_;refine PY ⟨LO, #[], #[],rfl,rfl,zzj (a:=l) (b:=d) (N0 λf u=>aE (C _ f u))⟩
def Wh (h:Hp) (p:Addr) (a:List az) (F:List Nat):Prop:=
 ∃(b m:Nat) (sl:Sl) (G:List Nat) (c:List (Int×az)),p=⟨b,0,none⟩/\F=b::m::G/\fb h b [sl.v,.map (some m)]/\db h 2 eE sl a G/\gz h m .i64 aX.enc c/\b∉G/\b≠m/\m∉G/\
  (c.map (·.1)).Nodup/\(∀id e,cN id c=some e↔e∈a/\e.dI=id)/\a.Pairwise kQ
theorem gz.same {V:Type} {h a:Hp} {m:Nat} {k:IntKind} {ev:V->Value} {b:List (Int×V)} (f:gz h m k ev b) (e:a m=h m):gz a m k ev b:=by obtain ⟨g,ck,c,d⟩:=f;exact ⟨g,ck,by rw [e];exact c,d⟩
theorem gz.known {V:Type} {h:Hp} {m:Nat} {k:IntKind} {ev:V->Value} {c:List (Int×V)} (b:gz h m k ev c):h m≠none:=by obtain ⟨e,ck,a,d⟩:=b;rw [a];simp
theorem gz.mv {V:Type} {h b:Hp} {m:Nat} {k:IntKind} {ev:V->Value} {c:List (Int×V)} {F d:List Nat} (g:gz h m k ev c) (a:Mv F h d b) (i:m∉F):gz b m k ev c:=by obtain ⟨j,ck,e,f⟩:=g;exact ⟨j,ck,a.cT m _ e i,f⟩
theorem fb.same {h c:Hp} {b:Nat} {a:List Value} (k:fb h b a) (e:c b=h b):fb c b a:=by obtain ⟨t,d⟩:=k;exact ⟨t,by rw [e];exact d⟩
theorem Wh.same {h e:Hp} {p:Addr} {d:List az} {F:List Nat} (w:Wh h p d F) (a:∀b∈F,e b=h b):Wh e p d F:=by obtain ⟨b,m,sl,G,o,f,g,i,j,k,l⟩:=w;subst g;exact ⟨b,m,sl,G,o,f,rfl,i.same (a b (by simp)),j.same (λc n=>a c (by simp [n])),k.same (a m (by simp)),l⟩
theorem Wh.known {h:Hp} {p:Addr} {a:List az} {F:List Nat} (w:Wh h p a F):∀b∈F,h b≠none:=by
 obtain ⟨b,m,sl,G,k,i,d,e,f,g,j⟩:=w;subst d;intro c hc;simp only [List.mem_cons] at hc;rcases hc with rfl | rfl | hc
 ·exact e.known
 ·exact g.known
 ·exact f.known c hc
theorem Wh.sorted {h:Hp} {p:Addr} {a:List az} {F:List Nat} (w:Wh h p a F):a.Pairwise kQ:=by obtain ⟨b,m,sl,G,q,d,f,g,i,j,k,l,n,o,e,c⟩:=w;exact c
theorem Wh.ids {h:Hp} {p:Addr} {a:List az} {F:List Nat} (w:Wh h p a F) {x y:az} (d:x∈a) (f:y∈a) (e:x.dI=y.dI):x=y:=by obtain ⟨b,m,sl,G,v,j,l,n,o,q,r,s,t,u,c,k⟩:=w;have g:=(c x.dI x).2 ⟨d,rfl⟩;have i:=(c x.dI y).2 ⟨f,e.symm⟩;grind
theorem vk {h:Hp} {b:Nat} {a:List Value} (k:fb h b a) {sh:Shape} (x:sh.T) {j:Nat} (c:(a.drop j).take (ba (sh.enc x)).length=ba (sh.enc x)) {K:sh.T->Prop} (d:K x):aD none sh h ((⟨b,0,none⟩:Addr).add j) K:=by refine ⟨x,?_,d⟩;show aR h ((⟨b,0,none⟩:Addr).add j) _;rw [km,Nat.zero_add];exact k.fw c
theorem XS {h:Hp} {b:Nat} {a:List Value} (k:fb h b a) {sh:Shape} (x:sh.T) {j:Nat} {c:Bool} (f:(a.drop j).take (ba (sh.enc x)).length=ba (sh.enc x)) {K:sh.T->Prop} (g:K x):aD (some c) sh h ((⟨b,0,none⟩:Addr).add j) K:=by obtain ⟨y,d,e⟩:=vk k (sh:=sh) x f (K:=λy=>y=x) rfl;exact ⟨y,λ_=>d,e▸g⟩
theorem Vf {Q:Option Addr->Hp->Prop} {h:Hp} (k:∀p F a,h<=a->(∀b∈F,h b=none)->Wh a p [] F->Q (some p) a):PI prog Q h:=by
 unfold PI;intro m f;have g:=lx (o:=.map #[] 0) f;intro b t hb;have i:=lx (o:=.cells (([.slice none 0 0,.map (some m)]:List Value).toArray) t (0,0)) hb;have j:b≠m:=λe=>by rw [e,kK] at hb;cases hb
 refine k ⟨b,0,none⟩ [b,m] _ (Hp.le_trans g i) (λc d=> ?_) ⟨b,m,⟨none,0,0⟩,[],[],rfl,rfl,⟨t,kK⟩,⟨rfl,Nat.le_refl _,.inl ⟨rfl,rfl,rfl⟩⟩,⟨[],0,i _ _ kK,rfl⟩,by simp,j,by simp,by simp,λid e=>by simp [cN],List.Pairwise.nil⟩;simp only [List.mem_cons,List.not_mem_nil,or_false] at d;rcases d with rfl | rfl
 ·exact tY g hb
 ·exact f
theorem Vh {p:Addr} {a:List az} {F:List Nat} {id:Int} {Q:Int->Bool->Hp->Prop} {h:Hp} (w:Wh h p a F) (d:(∀e∈a,e.dI≠id)->Q 0 false h) (k:∀e∈a,e.dI=id->Q e.due true h):
  O4 prog (some p) id Q h:=by
 obtain ⟨b,m,sl,G,t,rfl,rfl,g,n,i,o,q,r,s,f,l⟩:=w;unfold O4;refine aP (vk g (sh:=gE) (some m) rfl ?_);refine wN (sh:=aX) (z:=⟨0,0⟩) i rfl (λj=>d λe c hid=> ?_) λe c=> ?_
 ·have:=(f id e).2 ⟨c,hid⟩;rw [j] at this;cases this
 grind
theorem Vj {a b:List az} (c:a.Pairwise kQ) (h:b.Sublist a):b.Pairwise kQ:=c.sublist h
theorem Ce {a:List az} (b:a.Pairwise kQ):a.Nodup:=b.imp λh e=>by subst e;exact XQ _ h
set_option maxHeartbeats 1000000 in
theorem Di {p:Addr} {a:List az} {F:List Nat} {id:Int} {Q:Bool->Hp->Prop} {h:Hp} (w:Wh h p a F) (hl:a.length<=4398046511104) (X:(∀e∈a,e.dI≠id)->Q false h)
  (u:∀(i:Nat) e d,a[i]? =some e->e.dI=id->Mv F h F d->Wh d p (a.take i++a.drop (i+1)) F->Q true d):OZ prog (some p) id Q h:=by
 obtain ⟨b,m,sl,G,E,rfl,rfl,y,B,N,O,R,S,T,L,M⟩:=w;unfold OZ;refine aP (vk y (sh:=gE) (some m) rfl ?_);refine wN (sh:=aX) (z:=⟨0,0⟩) N rfl (λhn=> ?_) λe C=> ?_
 ·rw [if_pos (by rfl)];refine X λe C hid=> ?_;have:=(L id e).2 ⟨C,hid⟩;grind
 rw [iT];obtain ⟨b8,hid⟩:=(L id e).1 C;refine aP (vk y (sh:=af) sl rfl ?_);have b7:=B.1;have rs:Rw h 2 eE sl a:=B.rw λ_=>rfl;refine au.intro (λi k=>k=h/\0<=i/\i<=(a.length:Int)/\e∉a.take i.toNat) (λi _=>(a.length-i).toNat) ⟨rfl,by omega,by omega,by simp⟩ ?_;rintro i k ⟨rfl,a9,b5,c0⟩;split
 ·rename_i r;have r:i<(sl.len:Int):=by simpa using r
  refine Rs.get (sh:=aX) rs (λ_=>rfl) (by omega) a9 (by omega) λ(x:az) A=> ?_;refine ⟨_,SV [(⟨ "due",2,0,false, "", "firebreak/wheel",0⟩,.i64,x.due,e.due),(⟨ "id",3,1,false, "", "firebreak/wheel",8⟩,.i64,x.dI,e.dI)] (bW.cm 176 tT rfl) (by kernel_rfl) (by kernel_rfl) (λq U=> ?_),?_⟩
  ·simp only [List.mem_cons,List.not_mem_nil,or_false] at U;rcases U with rfl | rfl
   ·exact ⟨by simp,bW.cm 2 yr rfl,rfl,rfl⟩
   ·exact ⟨by simp,bW.cm 3 Ou rfl,rfl,rfl⟩
  ·dsimp only;by_cases V:x=e
   ·subst V;rw [if_pos (by simp)];refine aP (vk y (sh:=af) sl rfl ?_);have b6:i.toNat<a.length:=(List.getElem?_eq_some_iff.1 A).1;have b0:((i.toNat:Nat):Int)=i:=by omega
    have b1:((i.toNat+1:Nat):Int)=i+1:=by omega
    rw [aI];have a8:∀(s:Sl->Hp->Prop),(∀l d,db d 2 eE l (a.take i.toNat++a.drop (i.toNat+1)) G->Mv G k G d->s l d)->zel prog sl i (i+1) s k:=by
     intro s Y;have:=YC (P:=prog) (h:=k) (sz:=2) (enc:=eE) (bytes:=16) (tS:=178) (tE:=176) (z:=.agg #[.int .i64 0,.int .i64 0]) (i:=i.toNat) (j:=i.toNat+1) (Q:=s) (bW.cm 178 wC rfl)
      (λhk=>DG bW (t:=176) (e:=tT) rfl hk)
      (λ_=>rfl) (λ_=>rfl) rfl (λn=>by
       induction n with
       | zero=>rfl
       | succ n ih=>exact ih) B (by omega) (by omega) (by omega) Y
     rw [b0,b1] at this;exact this
    refine ziz (a8 _ λl d o' H=> ?_);have k3:fb d b [sl.v,.map (some m)]:=y.mv H O;refine aP ?_;refine uS (b:=b) (off:=0) k3 (by simp) λf I k2=> ?_;have o2:db f 2 eE l (a.take i.toNat++a.drop (i.toNat+1)) G:=o'.mv I (λc g=>by grind);have W:fb f b [l.v,.map (some m)]:=by simpa using k2
    refine aP (vk W (sh:=gE) (some m) rfl ?_);have b3:gz f m .i64 aX.enc E:=(N.mv H S).mv I (by grind);refine R7 b3 λo ho b4=> ?_;have D:Mv [m] f [m] (f.set m o):=Mv.set;refine u i.toNat x _ A hid ?_ ⟨b,m,l,G,mN id E,rfl,rfl,W.mv D (by simp;exact R),o2.mv D (λc g=>by grind),b4,O,R,S,Qs id T,?_,?_⟩
    ·have J:Mv (b::m::G) k (b::m::G) d:=H.sub (λc g=>by simp [g]) λc g=>.inr (.inl g);have K:Mv (b::m::G) d (b::m::G) f:=I.sub (λc g=>by grind) λc g=>.inr (.inl g);have q3:Mv (b::m::G) f (b::m::G) (f.set m o):=D.sub (λc g=>by grind) λc g=>.inr (.inl g);exact J.trans (K.trans q3)
    ·intro b2 e';rw [NA b2 id E T];have b9:=Ce M;have c1:a=a.take i.toNat++x::a.drop (i.toNat+1):=by
      have Z:a.drop i.toNat=x::a.drop (i.toNat+1):=by obtain ⟨J,K⟩:=List.getElem?_eq_some_iff.1 A;rw [List.drop_eq_getElem_cons J,K]
      rw [<-Z,List.take_append_drop]
     grind
    ·refine Vj M ?_;have:(a.take i.toNat++a.drop (i.toNat+1)).Sublist (a.take i.toNat++a.drop i.toNat):=by grind
     rw [List.take_append_drop] at this;exact this
   ·rw [if_neg (by
     simp;intro u f;exact V (by cases x;cases e;simp at u f;simp [u,f])),aI]
    refine ⟨⟨rfl,by omega,by omega,?_⟩,by omega⟩;have:(i+1).toNat=i.toNat+1:=by omega
    rw [this,List.take_add_one,A];grind
 ·rename_i r;have r:¬i<(sl.len:Int):=by simpa using r
  have:i.toNat=a.length:=by omega
  grind
theorem QY {l:List az} {e:az} {i:Nat} (c:l.Pairwise kQ) (d:∀x∈l.take i,kQ x e) (b:∀x∈l.drop i,kQ e x):(l.take i++e::l.drop i).Pairwise kQ:=by have a:=c;rw [<-List.take_append_drop i l] at a;obtain ⟨a1,a2,a3⟩:=List.pairwise_append.1 a;refine List.pairwise_append.2 ⟨a1,List.pairwise_cons.2 ⟨b,a2⟩,λx f y g=> ?_⟩;grind
set_option maxHeartbeats 1000000 in
theorem Vl {p:Addr} {g:List az} {F:List Nat} {id due:Int} {Q:Int->Hp->Prop} {h:Hp} (w:Wh h p g F) (hl:g.length<=4398046511104) (h0:id<0\/due<0->Q 1 h)
  (h1:0<=id->0<=due->∀J B u,Mv F h B u->Wh u p J B->(∀x,x∈J↔x=⟨due,id⟩\/(x∈g/\x.dI≠id))->J.length<=g.length+1->Q 0 u):O5 prog (some p) id due Q h:=by
 unfold O5;refine aE ?_;by_cases d0:id<0\/due<0
 ·grind
 rw [if_neg (by simp;omega)];have hid:0<=id:=by omega
 have b4:0<=due:=by omega
 have core:∀(f:List az) (k:Hp),Mv F h F k->Wh k p f F->(∀x,x∈f↔(x∈g/\x.dI≠id))->f.length<=g.length->
   aj none (some p) λp0=>aD none af k (Addr.add p0 0) λx=>
   bu prog Ow [x.v,(.agg #[(.int .i64 due),(.int .i64 id)]),(.func (.func 141) #[] #[])] (ab .i64) aW (λr1 r2 L=>
    aj none (some p) λp1=>aD none af L (Addr.add p1 0) λx1=>
    bG [(.int .i64 due),(.int .i64 id)] (λa l=>
    (((aR l (Addr.add p1 0) [x1.v])/\True)/\aa prog Rd [x1.v,(.int .i64 r1),(.slice (some a) 1 1)] af (λr3 D=>
    aj none (some p) λp2=>cl D (Addr.add p2 0) [r3.v] (λr=>
    aj none (some p) λp3=>aD none gE r (Addr.add p3 1) λx2=>
    tZ (.int .i64) x2 (.int .i64 id) (.agg #[(.int .i64 due),(.int .i64 id)]) (λh6=>Q 0 h6) r)) l)) L) k:=by
  intro f k mk wk b6 c7;obtain ⟨b,m,sl,G,O,rfl,rfl,E,N,k5,k6,k7,k8,k9,d2,a9⟩:=wk;refine aP (vk E (sh:=af) sl rfl ?_);have hE:(⟨due,id⟩:az)∉f:=λhm=>((b6 _).1 hm).2 rfl;refine zcu (x:=sl) (target:=⟨due,id⟩) (cmp:=⟨LO, #[], #[]⟩) (Tm (N.rw λ_=>rfl) (by omega) a9 λi _ L S hi b9 b7=> ?_);refine aP (vk (E.le S) (sh:=af) sl rfl ?_);refine sD (xs:=[(⟨due,id⟩:az)]) (enc:=eE) (sz:=2) rfl (λ_=>rfl) λC l b3 l3 m3 o3=> ?_;have A:=Hp.le_trans S l3;refine ⟨⟨?_,trivial⟩,?_⟩
  ·obtain ⟨y,hy,c2⟩:=vk (E.le A) (sh:=af) sl (j:=0) rfl (K:=λy=>y=sl) rfl;subst c2;exact hy
  have hG:∀c∈G,c≠C:=λc d e=>by have:=N.known c d;rw [e] at this;exact this (tY S b3)
  have o4:db l 2 eE sl f G:=by refine N.mv (Mv.of_le [] A) λc _=>by simp
  have kv:∃W,fb l C W:=by obtain ⟨_,_,d3⟩:=o3;grind
  obtain ⟨W,kv⟩:=kv;have b8:∀(I:Sl->Hp->Prop),(∀z u B,db u 2 eE z (f.take i++⟨due,id⟩::f.drop i) B->Mv G l B u->I z u)->zek prog sl (i:Int) ⟨some ⟨C,0,none⟩,1,1⟩ I l:=by
   intro I hQ;obtain ⟨ti,e1,_⟩:=bW.info 176 tT rfl;exact YA (P:=prog) (h:=l) (sz:=2) (enc:=eE) (bytes:=16) (tS:=178) (tR:=4) (tE:=176) (zero:=[.int .i64 0,.int .i64 0]) (R:=λy K h=>bA prog zgu [y.v,.int .i64 1] K h) (i:=i) (Q:=I)
    (bW.cm 178 wC rfl) e1 (λ_=>rfl) (by omega) (λ_=>rfl) rfl (λn=>by
     induction n with
     | zero=>rfl
     | succ n ih=>exact ih) o4 (o3.rw λ_=>rfl) rfl kv (λd=>hG C d rfl) hi (by omega) hQ
  refine zix (s:=sl) (i:=(i:Int)) (v:=⟨some ⟨C,0,none⟩,1,1⟩) (b8 _ λz D t o5 H=> ?_);have c4:fb D b [sl.v,.map (some m)]:=(E.le A).mv H k6;have b2:b∉t:=λd=>by
   rcases H.from_ b d with q | q
   ·exact k6 q
   ·exact (E.le A).known q
  have b1:gz l m .i64 aX.enc O:=k5.mv (Mv.of_le [] A) (by simp);have c0:m∉t:=λd=>by
   rcases H.from_ m d with q | q
   ·exact k8 q
   ·exact b1.known q
  refine aP ?_;refine uS (b:=b) (off:=0) c4 (by simp) λr T c3=> ?_;have b0:fb r b [z.v,.map (some m)]:=by simpa using c3
  refine aP (vk b0 (sh:=gE) (some m) rfl ?_);have c5:gz r m .i64 aX.enc O:=(b1.mv H k8).mv T (by grind);have o6:db r 2 eE z (f.take i++⟨due,id⟩::f.drop i) t:=o5.mv T (λc d=>by grind);refine Mf (v:=(⟨due,id⟩:az)) c5 λo ho c6=> ?_;have M:Mv [m] r [m] (r.set m o):=Mv.set;have c9:∀x,x∈f.take i++(⟨due,id⟩:az)::f.drop i↔x=⟨due,id⟩\/x∈f:=by
   intro x;constructor
   ·grind
   ·rintro (rfl | hx)
    ·simp
    ·rw [<-List.take_append_drop i f] at hx;grind
  refine h1 hid b4 _ (b::m::t) _ ?_ ⟨b,m,z,t,gC id ⟨due,id⟩ O,rfl,rfl,b0.mv M (by simp;exact k7),o6.mv M (λc d=>by grind),c6,b2,k7,c0,M5 id _ k9,?_,?_⟩ ?_ ?_
  ·have U:Mv (b::m::G) h (b::m::G) l:=mk.trans (Mv.of_le _ A);have V:Mv (b::m::G) l (b::m::t) D:=H.sub (λc d=>by simp [d]) λc d=>by grind
   have q3:Mv (b::m::t) D (b::m::t) r:=T.sub (λc d=>by grind) λc d=>.inr (.inl d);have q4:Mv (b::m::t) r (b::m::t) (r.set m o):=M.sub (λc d=>by grind) λc d=>.inr (.inl d);exact U.trans (V.trans (q3.trans q4))
  ·intro d1 X;rw [xh];grind
  ·refine QY a9 b9 λx hx=>XR (b7 x hx) λe=> ?_;grind
  ·grind
  ·simp;omega
 refine Jn (Di w hl (λhn=> ?_) λi e u hi b5 m' w'=> ?_)
 ·exact core g h (Mv.refl _ _) w (λx=>⟨λhx=>⟨hx,hn x hx⟩,λhx=>hx.1⟩) (Nat.le_refl _)
 ·have c8:=(List.getElem?_eq_some_iff.1 hi).1;refine core _ u m' w' (λx=> ?_) (by simp;omega);have hd:g.drop i=e::g.drop (i+1):=by obtain ⟨U,V⟩:=List.getElem?_eq_some_iff.1 hi;rw [List.drop_eq_getElem_cons U,V]
  have c1:g=g.take i++e::g.drop (i+1):=by rw [<-hd,List.take_append_drop]
  have Y:=Ce w.sorted;rw [c1] at Y;have Z:=List.nodup_append.1 Y;constructor
  ·intro hx;have a8:x∈g:=by
    rcases List.mem_append.1 hx with hx | hx
    ·exact List.mem_of_mem_take hx
    ·exact List.mem_of_mem_drop hx
   refine ⟨a8,λX=> ?_⟩;have:x=e:=w.ids a8 (List.mem_of_getElem? hi) (X.trans b5.symm);subst this;rcases List.mem_append.1 hx with hx | hx
   ·exact Z.2.2 x hx x (List.mem_cons_self ..) rfl
   ·exact (List.nodup_cons.1 Z.2.1).1 hx
  grind
abbrev Gh :Int->List Value:=λx=>ba ((ab .i64).enc x)
set_option maxHeartbeats 1000000 in
theorem Vn {p:Addr} {f:List az} {F:List Nat} {now:Int} {Q:Sl->Hp->Prop} {h:Hp} (w:Wh h p f F) (hl:f.length<=4398046511104)
  (M:∀out h' done rest G F',f=done++rest->(∀x∈done,x.due<=now)->(∀x r,rest=x::r->now<x.due)->db h' 1 Gh out (done.map (·.dI)) G->Wh h' p rest F'->(∀c∈G,c∉F')->Mv F h (F'++G) h'->Q out h'):
  O6 prog (some p) now Q h:=by
 unfold O6;refine au.intro (λout k=>∃done rest G F',f=done++rest/\(∀x∈done,x.due<=now)/\db k 1 Gh out (done.map (·.dI)) G/\Wh k p rest F'/\(∀c∈G,c∉F')/\Mv F h (F'++G) k) (λout _=>f.length-out.len)
  ⟨[],f,[],F,rfl,by simp,⟨rfl,Nat.le_refl _,.inl ⟨rfl,rfl,rfl⟩⟩,w,by simp,by simpa using Mv.refl F h⟩ ?_
 rintro out k ⟨done,rest,G,F',hsp,hdn,ho,wk,hdis,hm⟩;have b0:=ho.1;have n:=wk;obtain ⟨b,m,sl,a,b6,rfl,rfl,v,H,h5,h6⟩:=wk;have K:=H.1;refine aP (vk v (sh:=af) sl rfl ?_);have rs:Rw k 2 eE sl rest:=H.rw λ_=>rfl;refine ⟨_,λ_=>rfl,?_⟩;refine XS v (sh:=af) sl rfl ?_;refine rs.pf (λ_=>rfl) (by omega) (sh:=ab .i64) (λx=>x.due) (j:=0) (λ_=>rfl) (0:Int) (λhc=>by simp at hc;omega) λ(y:Int) hy=> ?_;refine aE ?_;cases rest with
 | nil=>
  have R:sl.len=0:=by simpa using K
  rw [if_neg (by simp [R])];exact M out k done [] G _ hsp hdn (λx r e=>by cases e) ho n hdis hm
 | cons e r=>
  simp at K;have L:decide ((sl.len:Int)>0)=true:=by simp;omega
  obtain ⟨x,hx,b2⟩:=hy L;have W:e=x:=by simpa using hx
  subst W;subst b2;rw [L,Bool.true_and];by_cases A:e.due<=now
  ·rw [if_pos (by simpa using A)];refine aP (vk v (sh:=af) sl rfl ?_);refine rs.mh (λ_=>rfl) (by omega) (sh:=ab .i64) (λx=>x.dI) (j:=1) (λ_=>rfl) (by omega) (by simp<;>omega) λx' b1=> ?_;have:e=x':=by simpa using b1
   subst this;have b5:done.length+(r.length+1)=f.length:=by rw [hsp];simp
   refine sD (xs:=[e.dI]) (enc:=Gh) (sz:=1) rfl (λ_=>rfl) λP g S B m1 o1=> ?_;have b4:∀c∈G,c≠P:=λc hc s=>ho.known c hc (by rw [s];exact S);have a9:db g 1 Gh out (done.map (·.dI)) G:=ho.mv (Mv.of_le [] B) (by simp);have D:Wh g ⟨b,0,none⟩ (e::r) (b::m::a):=by
    refine n.same λc hc=> ?_;cases l:k c with
    | none=>exact absurd l (n.known c hc)
    | some o=>exact B c o l
   refine sm a9 (o1.rw λ_=>rfl) (λ_=>rfl) (λ_=>rfl) rfl (by simp;omega) λl' u d O C=> ?_;have E:Wh u ⟨b,0,none⟩ (e::r) (b::m::a):=by
    refine D.same λc hc=> ?_;cases l:g c with
    | none=>exact absurd l (D.known c hc)
    | some o=>exact C.cT c o l λT=>hdis c T hc
   have J:∀c∈d,c∉b::m::a:=λc hc I=>by
    rcases C.from_ c hc with q | q
    ·exact hdis c q I
    ·exact D.known c I q
   refine Jn (Di E (by simp;omega) (λhn=>absurd rfl (hn e (List.mem_cons_self ..))) λi t z hi V N w3=> ?_);have U:t=e:=E.ids (List.mem_of_getElem? hi) (List.mem_cons_self ..) V;subst U;have X:i=0:=by have a8:=Ce E.sorted;obtain ⟨Z,Y⟩:=List.getElem?_eq_some_iff.1 hi;have:=(List.getElem_inj (i:=i) (j:=0) (h₀:=Z) (h₁:=by simp) a8).1 (by rw [Y];rfl);exact this
   subst X;have b3:Wh z ⟨b,0,none⟩ r (b::m::a):=by simpa using w3
   have o3:db z 1 Gh l' (done.map (·.dI)++ [t.dI]) d:=O.mv N J;refine ⟨⟨done++ [t],r,d,b::m::a,by rw [hsp];simp,λx hx=> ?_,by simpa using o3,b3,J,?_⟩,?_⟩
   ·rcases List.mem_append.1 hx with hx | hx
    ·exact hdn x hx
    ·rw [List.mem_singleton.1 hx];exact A
   ·have q1:Mv (b::m::a++G) k (b::m::a++G) g:=Mv.of_le _ B;have q2:Mv (b::m::a++G) g (b::m::a++d) u:=C.sub (λc hc=>List.mem_append_right _ hc) λc hc=>by
     rcases List.mem_append.1 hc with hc | hc
     ·exact .inr (.inl (List.mem_append_left _ hc))
     ·exact .inl hc
    have q3:Mv (b::m::a++d) u (b::m::a++d) z:=N.wide d;exact hm.trans (q1.trans (q2.trans q3))
   ·have:=O.1;simp at this b0;omega
  ·rw [if_neg (by simpa using A)];refine M out k done (e::r) G _ hsp hdn (λx r' s=> ?_) ho n hdis hm;cases s;omega
def Fu (p:Addr) (d:List az):dR where
 R k F:=∃B,Wh k p d B/\∀b,F b↔b∈B
 same:=λ⟨B,h,e⟩ f=>⟨B,h.same λc a=>f c ((e c).2 a),e⟩
 known:=λ⟨B,h,e⟩ c a=>h.known c ((e c).1 a)
structure WT (es:List az) (tm:Nat->Int) (n:Nat):Prop where
 low:∀i,0<=tm i
 AM:∀x∈es,0<=x.dI/\x.dI<n/\0<x.due/\tm x.dI.toNat=x.due
 has:∀i:Nat,0<tm i->(⟨tm i,(i:Int)⟩:az)∈es
def s8 (p:Addr) (a:Nat->Int) (n:Nat):dR:=.some_ λes:List az=>(Fu p es).star (.fact (WT es a n))
section
variable {h0 k:Hp} {p:Addr} {es:List az} {g:Nat->Int} {n:Nat}
theorem Has.both {A B:dR} {F1 F2:Nat->Prop} (f:h0<=k) (a:A.R k F1) (b:B.R k F2) (d:∀c,F1 c->¬F2 c) (f1:∀c,F1 c->h0 c=none) (f2:∀c,F2 c->h0 c=none):Has h0 (A.star B) k:=
 ⟨f,λc=>F1 c\/F2 c,⟨F1,F2,λ_=>Iff.rfl,d,a,b⟩,λc e=>e.elim (f1 c) (f2 c)⟩
theorem slR {i:Type} {sz:Nat} {enc:i->List Value} {l:Sl} {f:List i} {F:List Nat} (o:db k sz enc l f F):(dA sz enc l f).R k λb=>b∈F:=by
 obtain ⟨a,d,q⟩:=o;rcases q with ⟨e,m,rfl⟩ | ⟨b,j,e,rfl,hb,s,r⟩
 ·exact ⟨a,d,.inl ⟨e,m,λ_ h=>by cases h⟩⟩
 ·exact ⟨a,d,.inr ⟨b,0,j,e,λc=>List.mem_singleton,hb,by omega,by simpa using r⟩⟩
theorem Has.Ov (o:Has h0 (Fu p es) k):∃B,Wh k p es B/\∀b∈B,h0 b=none:=by obtain ⟨l,F,⟨B,w,e⟩,f⟩:=o;grind
theorem Has.BN {B a:List Nat} {c:Hp} {d:List az} (f:h0<=k) (h:∀b∈B,h0 b=none) (m:Mv B k a c) (w:Wh c p d a):Has h0 (Fu p d) c:=by
 refine ⟨λb o e=>m.cT b o (f b o e) λhb=> ?_,λb=>b∈a,⟨a,w,λb=>Iff.rfl⟩,λb hb=> ?_⟩
 ·grind
 ·rcases m.from_ b hb with h1 | h1
  ·exact h b h1
  ·cases e:h0 b with
   | none=>rfl
   | some o=>rw [f b o e] at h1;cases h1
theorem Has.qy (o:Has h0 (s8 p g n) k):∃es,WT es g n/\Has h0 (Fu p es) k:=by obtain ⟨es,o⟩:=Has.ex.1 o;obtain ⟨a,b⟩:=o.jP;grind
theorem Has.nm {k:Hp} (t:WT es g n) (o:Has h0 (Fu p es) k):Has h0 (s8 p g n) k:=Has.ex.2 ⟨es,o.fB t⟩
theorem CZ {B:List Nat} (t:WT es g n) (w:Wh k p es B):es.length<=n:=by
 have h:(es.map λx=>x.dI.toNat).Nodup:=by
  have m:=w.sorted;have hid:=λx d y f=> @Wh.ids _ _ _ _ w x y d f;clear w;have hp:=t.AM;have j:es.Pairwise λa b=>a.dI≠b.dI:=by refine m.imp_of_mem λ{a b} c hb i e=> ?_;have:=hid a c b hb e;subst this;unfold kQ at i;omega
  refine List.pairwise_map.2 (j.imp_of_mem λ{a b} c hb l e=>l ?_);have:=hp a c;have:=hp b hb;omega
 have:=PA n (es.map λx=>x.dI.toNat) h λx d=>by obtain ⟨y,f,rfl⟩:=List.mem_map.1 d;have:=t.AM y f;omega
 grind
theorem Vp {n:Nat} {Q:Option Addr->Hp->Prop} (d:∀p a,k<=a->Has k (s8 p (λ_=>0) n) a->Q (some p) a):PI prog Q k:=by refine Vf λp F a l c w=>d p a l (Has.nm (es:=[]) ⟨λ_=>Int.le_refl _,by simp,λi h=>absurd h (by decide)⟩ ⟨l,λb=>b∈F,⟨F,w,λb=>Iff.rfl⟩,c⟩)
theorem N1 {i:Nat} {Q:Int->Bool->Hp->Prop} (o:Has h0 (s8 p g n) k) (f:∀b,Q (g i) b k):O4 prog (some p) (i:Int) Q k:=by
 obtain ⟨es,t,o⟩:=o.qy;obtain ⟨B,w,d⟩:=o.Ov;refine Vh w (λc=> ?_) λe a hid=> ?_
 ·have:g i=0:=by
   have:=t.low i;by_cases h:0<g i
   ·exact absurd rfl (c _ (t.has i h))
   ·omega
  grind
 ·have:=(t.AM e a).2.2.2;grind
theorem Dj {i:Nat} {Q:Bool->Hp->Prop} (o:Has h0 (s8 p g n) k) (G:n<=1000000) (s:∀b c,Has h0 (s8 p (dd g i 0) n) c->Q b c):OZ prog (some p) (i:Int) Q k:=by
 obtain ⟨es,t,o⟩:=o.qy;obtain ⟨B,w,z⟩:=o.Ov;have F:=CZ t w;refine Di w (by omega) (λA=> ?_) λj e c f hid m E=> ?_
 ·refine s false k (Has.nm ?_ o);have y:g i=0:=by
   have:=t.low i;by_cases h:0<g i
   ·exact absurd rfl (A _ (t.has i h))
   ·omega
  have:dd g i 0=g:=by rw [<-y];exact zN
  rw [this];exact t
 ·refine s true c (Has.nm ⟨λa=> ?_,λx C=> ?_,λa d=> ?_⟩ (Has.BN o.le z m E))
  ·by_cases h:a=i
   ·subst h;rw [lS];omega
   ·rw [lz h];exact t.low a
  ·have v:x∈es:=by grind
   obtain ⟨a1,a2,a3,a4⟩:=t.AM x v;refine ⟨a1,a2,a3,?_⟩;have r:=w.sorted;have q:=(List.getElem?_eq_some_iff.1 f);obtain ⟨q,l⟩:=q;have H:x.dI≠(i:Int):=by
    intro ex;have D:x=e:=w.ids v (List.mem_of_getElem? f) (by rw [ex,hid]);subst D;have u:es=es.take j++x::es.drop (j+1):=by rw [<-l,List.getElem_cons_drop,List.take_append_drop]
    rw [u,List.pairwise_append] at r;rcases List.mem_append.1 C with h | h
    ·have:=r.2.2 x h x (List.mem_cons_self ..);unfold kQ at this;omega
    ·have:=(List.pairwise_cons.1 r.2.1).1 x h;unfold kQ at this;omega
   rw [lz (by omega)];exact a4
  ·by_cases h:a=i
   ·subst h;rw [lS] at d;omega
   ·rw [lz h] at d ⊢;have:=t.has a d;obtain ⟨q,l⟩:=List.getElem?_eq_some_iff.1 f;have u:es=es.take j++e::es.drop (j+1):=by rw [<-l,List.getElem_cons_drop,List.take_append_drop]
    grind
theorem EG {i:Nat} {due:Int} {Q:Int->Hp->Prop} (o:Has h0 (s8 p g n) k) (z:n<=1000000) (hi:i<n) (f:0<due) (l:∀b,Has h0 (s8 p (dd g i due) n) b->Q 0 b):O5 prog (some p) (i:Int) due Q k:=by
 obtain ⟨es,t,o⟩:=o.qy;obtain ⟨B,w,j⟩:=o.Ov;have y:=CZ t w;refine Vl w (by omega) (λh=>by omega) λ_ _ u s b m r d _=> ?_;refine l b (Has.nm ⟨λa=> ?_,λx q=> ?_,λa c=> ?_⟩ (Has.BN o.le j m r))
 ·by_cases h:a=i
  ·subst h;rw [lS];omega
  ·rw [lz h];exact t.low a
 ·rcases (d x).1 q with rfl | ⟨e,v⟩
  ·refine ⟨by omega,by grind,f,?_⟩;show dd g i due ((i:Int)).toNat=due;rw [show ((i:Int)).toNat=i by omega];exact lS
  ·obtain ⟨a1,a2,a3,a4⟩:=t.AM x e;refine ⟨a1,a2,a3,?_⟩;rw [lz (by omega)];exact a4
 ·refine (d _).2 ?_;by_cases h:a=i
  ·subst h;left;rw [lS]
  ·right;rw [lz h] at c ⊢;exact ⟨t.has a c,by grind⟩
def nN (g:Nat->Int) (now:Int):Nat->Int:=λi=>if 0<g i/\g i<=now then 0 else g i
theorem Vr {now:Int} {Q:Sl->Hp->Prop} (o:Has h0 (s8 p g n) k) (L:n<=1000000)
  (E:∀s f (ids:List Int),(∀x∈ids,0<=x/\x<n)->ids.Nodup->(∀i:Nat,(i:Int)∈ids↔0<g i/\g i<=now)->Has h0 ((s8 p (nN g now) n).star (dA 1 fC s ids)) f->Q s f):O6 prog (some p) now Q k:=by
 obtain ⟨es,t,o⟩:=o.qy;obtain ⟨B,w,q⟩:=o.Ov;have K:=CZ t w;refine Vn w (by omega) λout f done rest G j hsp hd hr ho w' hdis m=> ?_;have l:=w.sorted;have C:=λx hx y d=> @Wh.ids _ _ _ _ w x y hx d;have M:es.Pairwise λa b=>a.dI≠b.dI:=by refine l.imp_of_mem λ{a b} c hb D e=> ?_;have:=C a c b hb e;subst this;unfold kQ at D;omega
 have N:∀x∈rest,now<x.due:=by
  cases rest with
  | nil=>simp
  | cons y r=>
   have h1:=hr y r rfl;intro x hx;rcases List.mem_cons.1 hx with rfl | hx
   ·exact h1
   ·rw [hsp,List.pairwise_append] at l;have:=(List.pairwise_cons.1 l.2.1).1 x hx;unfold kQ at this;omega
 have A:∀x∈es,(x∈done↔x.due<=now):=by grind
 have v:∀x∈done,x∈es:=λx hx=>by grind
 have F:∀x∈rest,x∈es:=λx hx=>by grind
 refine E out f (done.map (·.dI)) (λx hx=> ?_) ?_ (λi=>⟨λhi=> ?_,λhi=> ?_⟩) ?_
 ·obtain ⟨y,d,rfl⟩:=List.mem_map.1 hx;have:=t.AM y (v y d);omega
 ·grind
 ·obtain ⟨y,d,e⟩:=List.mem_map.1 hi;obtain ⟨_,_,a3,a4⟩:=t.AM y (v y d);grind
 ·exact List.mem_map.2 ⟨_,(A _ (t.has i hi.1)).2 hi.2,rfl⟩
 ·have H:Has h0 (Fu p rest) f:=by refine Has.BN o.le q ⟨λb J e hb=>m.cT b J e hb,λb hb=>m.from_ b (List.mem_append_left _ hb)⟩ w'
  have I:WT rest (nN g now) n:=by
   refine ⟨λa=> ?_,λx hx=> ?_,λa c=> ?_⟩
   ·unfold nN;split
    ·omega
    ·exact t.low a
   ·obtain ⟨a1,a2,a3,a4⟩:=t.AM x (F x hx);refine ⟨a1,a2,a3,?_⟩;unfold nN;grind
   ·unfold nN at c ⊢;by_cases h:0<g a/\g a<=now
    ·omega
    ·rw [if_neg h] at c ⊢;have h1:=t.has a c;grind
  have u:∀b∈j++G,h0 b=none:=λb hb=>by
   rcases m.from_ b hb with h1 | h1
   ·exact q b h1
   ·cases e:h0 b with
    | none=>rfl
    | some x=>rw [o.le b x e] at h1;cases h1
  refine Has.both H.le (F1:=λb=>b∈j) (F2:=λb=>b∈G) ⟨rest,λb=>b∈j,λ_=>False,λb=>by simp,λb _ h=>h,⟨j,w',λb=>Iff.rfl⟩,I,λ_ h=>h⟩ (slR ho) (λb h1 z=>hdis b z h1) (λb hb=>u b (List.mem_append_left _ hb)) λb hb=>u b (List.mem_append_right _ hb)
end
abbrev f64 :FloatKind:=.f64
def tM (b c:Int):Int:=if c=0 then 0 else if c= -1 then yw ((0:Int)-b) else yw (Int.tdiv b c)
def ux (b:Bool):Int:=if b then 1 else 0
def xV (op b c:Int):Int:=
 if op=3 then yw (b+c)
 else if op=4 then yw (b-c)
 else if op=5 then yw (b*c)
 else if op=6 then tM b c
 else if op=7 then yw (b-yw (tM b c*c))
 else if op=8 then df .and .i64 b c
 else if op=9 then df .or .i64 b c
 else if op=10 then df .xor .i64 b c
 else if op=11 then (if c<0 then b else mQ .i64 b (IntKind.wrap .u64 c))
 else if op=12 then (if c<0 then b else fA .i64 b (IntKind.wrap .u64 c))
 else if op=13 then ux (decide (b<c))
 else if op=14 then ux (decide (b=c))
 else 0
def Gu :Int:=9221120237041090560
def isNaN (f:Nat):Bool:=f64.format.order f f !=some .eq
def pQ (f:Nat):Int:=if isNaN f then Gu else yw (f:Int)
def wu :Option Nat->Int
 | some r=>pQ r
 | none=>Gu
def se (b:Int):Nat:=(IntKind.wrap .u64 b).toNat
def C1 (f:Nat):Int:=
 if isNaN f then 0
 else if f64.format.order f 4890909195324358656=some .gt\/f64.format.order f 4890909195324358656=some .eq then 9223372036854775807
 else if f64.format.order f 14114281232179134464=some .lt then -9223372036854775808
 else ((f64.decode f).toInt .zero).getD 0
def vL (op b c:Int):Int:=
 if op=15 then wu (f64.format.add (se b) (se c))
 else if op=16 then wu (f64.format.sub (se b) (se c))
 else if op=17 then wu (f64.format.mul (se b) (se c))
 else if op=18 then wu (f64.format.div (se b) (se c))
 else if op=19 then ux (f64.format.order (se b) (se c)==some .lt)
 else if op=20 then pQ (f64.nearest b)
 else if op=21 then C1 (se b)
 else 0
def gK (op b c:Int):Int:=if 3<=op/\op<=14 then xV op b c else vL op b c
section
variable {P:Program} {h:Hp}
theorem KZ {b c:Int} {Q:Int->Hp->Prop} (a:Q (tM b c) h):zvj prog b c Q h:=by
 unfold zvj;unfold tM at a;by_cases d:c=0
 ·rw [if_pos (by simp [d])];rw [if_pos d] at a;exact a
 ·rw [if_neg (by simp [d])];rw [if_neg d] at a;by_cases e:c= -1
  ·rw [if_pos (by simp [e])];rw [if_pos e] at a;exact a
  ·rw [if_neg (by simp [e])];rw [if_neg e] at a;exact ⟨d,a⟩
theorem J7 (c:Int):(0:Int)<=IntKind.wrap .u64 c:=by
 (try unfold yw);unfold IntKind.wrap
 simp only [IntKind.signed,IntKind.bits];simp;omega
theorem KX {b:Bool} {Q:Int->Hp->Prop} (a:Q (ux b) h):DU prog b Q h:=by unfold DU;unfold ux at a;cases b<;>simpa using a
theorem Vt {op b c:Int} {Q:Int->Int->Hp->Prop} (a:3<=op/\op<=14->Q (xV op b c) 0 h) (t:¬(3<=op/\op<=14)->Q 0 9 h):Eu prog op b c Q h:=by
 have case:∀n:Int,(op==n)=decide (op=n):=λn=>by by_cases e:op=n<;>simp [e]
 unfold Eu;unfold xV at a;simp only [case];by_cases l:op=3
 ·subst l;simpa using a
 by_cases m:op=4
 ·subst m;simpa using a
 by_cases o:op=5
 ·subst o;simpa using a
 by_cases p:op=6
 ·subst p;simp only [decide_true,if_true];simp at a ⊢;exact zxb (KZ a)
 by_cases q:op=7
 ·subst q;simp at a ⊢;exact zxb (KZ a)
 by_cases r:op=8
 ·subst r;simpa using a
 by_cases s:op=9
 ·subst s;simpa using a
 by_cases f:op=10
 ·subst f;simpa using a
 by_cases g:op=11
 ·subst g;simp at a ⊢;refine YW ?_;unfold LA;by_cases d:c<0
  ·rw [if_pos (by simpa using d)];rw [if_pos d] at a;exact a
  ·rw [if_neg (by simpa using d)];rw [if_neg d] at a;exact ⟨J7 c,a⟩
 by_cases i:op=12
 ·subst i;simp at a ⊢;refine W5 ?_;unfold KB;by_cases d:c<0
  ·rw [if_pos (by simpa using d)];rw [if_pos d] at a;exact a
  ·rw [if_neg (by simpa using d)];rw [if_neg d] at a;exact ⟨J7 c,a⟩
 by_cases j:op=13
 ·subst j;simp at a ⊢;exact J4 (KX a)
 by_cases k:op=14
 ·subst k;have e:(b==c)=decide (b=c):=by by_cases e:b=c<;>simp [e]
  simp at a ⊢;rw [e];exact J4 (KX a)
 simp only [l,m,o,p,q,r,s,f,g,i,j,k,decide_false,if_false,Bool.false_eq_true];exact t (by omega)
theorem XT (x y t:Nat):isNaN ((Question.nanBits .f64 x y).cut t)=true:=by
 have key:∀s z:Nat,s<2->z<2^52-1->isNaN (s*2^63+0x7ff0000000000000+1+z)=true:=by
  intro s z e f;have c:(s*2^63+0x7ff0000000000000+1+z)%Ieee.double.signWeight=0x7ff0000000000000+1+z:=by show (s*2^63+0x7ff0000000000000+1+z)%9223372036854775808=_;omega
  have d:Ieee.double.read (s*2^63+0x7ff0000000000000+1+z)=.nan ((s*2^63+0x7ff0000000000000+1+z) / Ieee.double.signWeight%2==1) (1+z):=by unfold Ieee.Format.read;rw [c];have a:Ieee.double.binade=4503599627370496:=rfl;have b:Ieee.double.infRung=9218868437227405312:=rfl;dsimp only;rw [a,b,if_neg (by omega),if_neg (by omega),if_neg (by omega),show 0x7ff0000000000000+1+z-9218868437227405312=1+z by omega]
  unfold isNaN;show ((Ieee.double.read _).order (Ieee.double.read _) !=some .eq)=true;rw [d];rfl
 have:=key (t%2) ((t / 2)%(2^52-1)) (by omega) (Nat.mod_lt _ (by decide));exact this
end
section
variable {P:Program} {h:Hp}
theorem XU {P:Program} {s:Sem Value} {sh:Shape} {K:sh.T->Hp->Prop} {h:Hp} (b:dg P s (λv a=>∃x,v=sh.enc x/\K x a) h):ji P s sh K h:=b
theorem yK {op : BinOp} {t : Nat} {x y : Operand} {a b : Nat} {r : Option Nat} {K : Nat -> Hp -> Prop} (d : dt op t x y (.float .f64 a) (.float .f64 b) = (match r with
      | some r=>Sem.pure (Value.float .f64 r)
      | none=>Sem.bind (choose (.nanBits .f64 a b)) λn=>Sem.pure (Value.float .f64 n)))
  (c:∀f,(∀v,r=some v->f=v)->(r=none->isNaN f=true)->K f h):ji P (dt op t x y (.float .f64 a) (.float .f64 b)) (jD .f64) K h:=by
 refine XU ?_;rw [d];cases r with
 | some r=>exact ⟨r,rfl,c r (λv e=>(Option.some.inj e)) λe=>by cases e⟩
 | none=>intro n;exact ⟨_,rfl,c _ (λv e=>by cases e) λ_=>XT a b n⟩
theorem XV {t : Nat} {x y : Operand} {a b : Nat} : dt .add t x y (.float .f64 a) (.float .f64 b) = (match f64.format.add a b with
      | some r=>Sem.pure (Value.float .f64 r)
      | none=>Sem.bind (choose (.nanBits .f64 a b)) λn=>Sem.pure (Value.float .f64 n)):=by
 cases e:f64.format.add a b<;>(show Op.floatArith .add .f64 a b=_;unfold Op.floatArith;simp only [pure,bind,Sem.bind,e])
theorem XW {t : Nat} {x y : Operand} {a b : Nat} : dt .sub t x y (.float .f64 a) (.float .f64 b) = (match f64.format.sub a b with
      | some r=>Sem.pure (Value.float .f64 r)
      | none=>Sem.bind (choose (.nanBits .f64 a b)) λn=>Sem.pure (Value.float .f64 n)):=by
 cases e:f64.format.sub a b<;>(show Op.floatArith .sub .f64 a b=_;unfold Op.floatArith;simp only [pure,bind,Sem.bind,e])
theorem XX {t : Nat} {x y : Operand} {a b : Nat} : dt .mul t x y (.float .f64 a) (.float .f64 b) = (match f64.format.mul a b with
      | some r=>Sem.pure (Value.float .f64 r)
      | none=>Sem.bind (choose (.nanBits .f64 a b)) λn=>Sem.pure (Value.float .f64 n)):=by
 cases e:f64.format.mul a b<;>(show Op.floatArith .mul .f64 a b=_;unfold Op.floatArith;simp only [pure,bind,Sem.bind,e])
theorem XY {t : Nat} {x y : Operand} {a b : Nat} : dt .quo t x y (.float .f64 a) (.float .f64 b) = (match f64.format.div a b with
      | some r=>Sem.pure (Value.float .f64 r)
      | none=>Sem.bind (choose (.nanBits .f64 a b)) λn=>Sem.pure (Value.float .f64 n)):=by
 cases e:f64.format.div a b<;>(show Op.floatArith .quo .f64 a b=_;unfold Op.floatArith;simp only [pure,bind,Sem.bind,e])
theorem wK {s:Sem Value} {sh:Shape} {v:sh.T} {K:sh.T->Prop} (a:s=Sem.pure (sh.enc v)) (b:K v):jj none P s sh h K:=by refine ⟨v,Ju ?_,b⟩;rw [a];exact ⟨rfl,rfl⟩
theorem N2 {b:Int} {Q:Nat->Hp->Prop} (a:Q (se b) h):CE prog b Q h:=by unfold CE;exact ⟨_,rfl,a⟩
theorem xf {f:Nat} {Q:Int->Hp->Prop} (a:Q (pQ f) h):Dd prog f Q h:=by
 unfold Dd;refine wK (sh:=aW) (v:=isNaN f) rfl ?_;unfold pQ at a;by_cases e:isNaN f=true
 ·rw [if_pos e];rw [if_pos e] at a;exact a
 ·rw [if_neg e];rw [if_neg e] at a;exact ⟨(f:Int),rfl,a⟩
theorem Vv {s:Bool} {n d:Nat}:Ieee.Toward.zero.cut s n d*2^d<=n:=by
 unfold Ieee.Toward.cut;simp only [Bool.toNat_false,Nat.add_zero,Nat.shiftLeft_eq,Nat.one_mul];by_cases a:d<=n.log2+2
 ·rw [Nat.min_eq_left a];exact Nat.div_mul_le_self n (2^d)
 ·rw [Nat.min_eq_right (by omega)];have:n<2^(n.log2+2):=by
   by_cases b:n=0
   ·grind
   ·have:=Nat.lt_log2_self (n:=n);grind
  rw [Nat.div_eq_of_lt this,Nat.zero_mul];omega
theorem xg (m i:Nat):m<<<i=m*2^i:=Nat.shiftLeft_eq m i
theorem Vx {s:Bool} {m:Nat} {i:Int} (a:Ieee.Datum.order (.number s m i) (.number false 4503599627370496 11)=some .lt) (b:Ieee.Datum.order (.number s m i) (.number true 4503599627370496 11)≠some .lt):
  ∃n,(Ieee.Datum.number s m i).toInt .zero=some n/\ -9223372036854775808<=n/\n<=9223372036854775807:=by
 refine ⟨_,rfl,?_⟩;have a:compare (Ieee.signed s m (i-min i 11).toNat) (Ieee.signed false 4503599627370496 (11-min i 11).toNat)=.lt:=Option.some.inj a;have b:compare (Ieee.signed s m (i-min i 11).toNat) (Ieee.signed true 4503599627370496 (11-min i 11).toNat)≠ .lt:=λe=>b (congrArg some e);rw [Int.compare_eq_lt] at a;rw [ne_eq,Int.compare_eq_lt] at b;have g:=Vv (s:=s) (n:=m<<<i.toNat) (d:=(-i).toNat);generalize x:Ieee.Toward.zero.cut s (m<<<i.toNat) (-i).toNat=w at g;have o:Ieee.signed s w 0=if s then -(w:Int) else (w:Int):=by unfold Ieee.signed;simp
 show -9223372036854775808<=Ieee.signed s w 0/\Ieee.signed s w 0<=9223372036854775807;rw [o];have key:∃C B:Nat,0<C/\0<B/\w*B<=(m<<<(i-min i 11).toNat)*C/\(4503599627370496<<<(11-min i 11).toNat)*C=9223372036854775808*B:=by
  by_cases hi:i<=11
  ·have j:min i 11=i:=by omega
   rw [j,Int.sub_self];by_cases u:0<=i
   ·refine ⟨2^i.toNat,1,Nat.two_pow_pos _,by decide,?_,?_⟩
    ·have k:(-i).toNat=0:=by omega
     rw [k,Nat.pow_zero,xg] at g;grind
    ·rw [xg,Nat.mul_assoc,<-Nat.pow_add,show (11-i).toNat+i.toNat=11 by omega]
   ·refine ⟨1,2^(-i).toNat,by decide,Nat.two_pow_pos _,?_,?_⟩
    ·grind
    ·rw [xg,Nat.mul_one,show (11-i).toNat=11+(-i).toNat by omega,Nat.pow_add,<-Nat.mul_assoc]
  ·have j:min i 11=11:=by omega
   rw [j];refine ⟨2^11,1,by decide,by decide,?_,by decide⟩;have k:(-i).toNat=0:=by omega
   rw [k,Nat.pow_zero,xg] at g;rw [xg,Nat.mul_assoc,<-Nat.pow_add,show (i-11).toNat+11=i.toNat by omega];exact g
 obtain ⟨C,B,q,p,y,v⟩:=key;generalize r:m<<<(i-min i 11).toNat=c at*;generalize l:4503599627370496<<<(11-min i 11).toNat=f at*;have s1:Ieee.signed s m (i-min i 11).toNat=if s then -(c:Int) else (c:Int):=by unfold Ieee.signed;rw [r]
 have s2:Ieee.signed false 4503599627370496 (11-min i 11).toNat=(f:Int):=by unfold Ieee.signed;rw [l];rfl
 have t:Ieee.signed true 4503599627370496 (11-min i 11).toNat= -(f:Int):=by unfold Ieee.signed;rw [l];rfl
 rw [s1,s2] at a;rw [s1,t] at b;cases s with
 | false=>
  simp only [Bool.false_eq_true,if_false] at a ⊢;have a:c<f:=by omega
  have:c*C<f*C:=Nat.mul_lt_mul_of_pos_right a q;have:w*B<9223372036854775808*B:=by omega
  have:=Nat.lt_of_mul_lt_mul_right this;omega
 | true=>
  simp only [if_true] at b ⊢;have b:c<=f:=by omega
  have:c*C<=f*C:=Nat.mul_le_mul_right C b;have:w*B<=9223372036854775808*B:=by omega
  have:=Nat.le_of_mul_le_mul_right this p;omega
theorem XZ {b:Nat} {n:Int} (a:(f64.decode b).toInt .zero=some n) (c:IntKind.min .i64<=n/\n<=IntKind.max .i64):kA prog (convert 283 2 (.float .f64 b)) h (.int .i64 n):=by refine Pw λw=> ?_;have d:=ay (e:=wD) bW (t:=283) rfl w;have f:=ay (e:=yr) bW (t:=2) rfl w;simp only [convert,Sem.run_bind,d,f,Result.andThen_ok];show (Conv.floatToInt .f64 b .i64).run prog w=_;unfold Conv.floatToInt;rw [a];dsimp only;rw [if_pos c];rfl
theorem X0 {b:Int}:kA prog (convert 2 283 (.int .i64 b)) h (.float .f64 (f64.nearest b)):=by refine Pw λw=> ?_;have a:=ay (e:=wD) bW (t:=283) rfl w;have c:=ay (e:=yr) bW (t:=2) rfl w;simp only [convert,Sem.run_bind,a,c,Result.andThen_ok];rfl
theorem X1 :f64.format.read 4890909195324358656=.number false 4503599627370496 11:=by decide
theorem X2 :f64.format.read 14114281232179134464=.number true 4503599627370496 11:=by decide
theorem QZ {f:Nat} (g:isNaN f=false) (e:¬(f64.format.order f 4890909195324358656=some .gt\/f64.format.order f 4890909195324358656=some .eq)) (j:f64.format.order f 14114281232179134464≠some .lt):
  ∃n,(f64.decode f).toInt .zero=some n/\IntKind.min .i64<=n/\n<=IntKind.max .i64:=by
 have k:f64.format.order f 4890909195324358656=(f64.format.read f).order (.number false 4503599627370496 11):=by show (f64.format.read f).order (f64.format.read _)=_;rw [X1]
 have l:f64.format.order f 14114281232179134464=(f64.format.read f).order (.number true 4503599627370496 11):=by show (f64.format.read f).order (f64.format.read _)=_;rw [X2]
 rw [k] at e;rw [l] at j;unfold isNaN at g;have g:(((f64.format.read f).order (f64.format.read f)) !=some .eq)=false:=g;show ∃n,(f64.format.read f).toInt .zero=some n/\_;generalize f64.format.read f=d at*;cases d with
 | nan a b=>simp [Ieee.Datum.order] at g
 | infinity a=>cases a<;>simp [Ieee.Datum.order] at e j
 | number a m i=>refine Vx ?_ j;have e:¬(some (compare _ _)=_\/some (compare _ _)=_):=e;show some (compare _ _)=some .lt;generalize compare (Ieee.signed a m (i-min i 11).toNat) (Ieee.signed false 4503599627370496 (11-min i 11).toNat)=c at*;cases c<;>simp at e ⊢
theorem Tr {f:Nat} {Q:Int->Hp->Prop} (a:Q (C1 f) h):CF prog f Q h:=by
 unfold CF;refine wK (sh:=aW) (v:=isNaN f) rfl ?_;unfold C1 at a;by_cases e:isNaN f=true
 ·rw [if_pos e];rw [if_pos e] at a;exact a
 rw [if_neg e];rw [if_neg e] at a;refine wK (sh:=aW) (v:=f64.format.order f 4890909195324358656==some .gt || f64.format.order f 4890909195324358656==some .eq) rfl ?_;by_cases b:f64.format.order f 4890909195324358656=some .gt\/f64.format.order f 4890909195324358656=some .eq
 ·grind
 rw [if_neg (by simpa using b)];rw [if_neg b] at a;refine wK (sh:=aW) (v:=f64.format.order f 14114281232179134464==some .lt) rfl ?_;by_cases c:f64.format.order f 14114281232179134464=some .lt
 ·grind
 rw [if_neg (by simpa using c)];rw [if_neg c] at a;obtain ⟨n,d,g⟩:=QZ (by simpa using e) b c;rw [d] at a;exact ⟨n,XZ d g,a⟩
theorem Au {o:Option Nat} {f:Nat} (a:∀v,o=some v->f=v) (b:o=none->isNaN f=true):pQ f=wu o:=by
 cases o with
 | some v=>rw [a v rfl];rfl
 | none=>unfold pQ;rw [if_pos (b rfl)];rfl
theorem Vz {op b c:Int} {Q:Int->Int->Hp->Prop} (a:15<=op/\op<=21->Q (vL op b c) 0 h) (q:¬(15<=op/\op<=21)->Q 0 9 h):Ev prog op b c Q h:=by
 have case:∀n:Int,(op==n)=decide (op=n):=λn=>by by_cases e:op=n<;>simp [e]
 unfold Ev;refine I2 (N2 ?_);refine I2 (N2 ?_);unfold vL at a;simp only [case];by_cases i:op=15
 ·subst i;refine yK XV λf d g=>LP (xf ?_);rw [Au d g];simpa using a
 by_cases j:op=16
 ·subst j;refine yK XW λf d g=>LP (xf ?_);rw [Au d g];simpa using a
 by_cases k:op=17
 ·subst k;refine yK XX λf d g=>LP (xf ?_);rw [Au d g];simpa using a
 by_cases l:op=18
 ·subst l;refine yK XY λf d g=>LP (xf ?_);rw [Au d g];simpa using a
 by_cases m:op=19
 ·subst m;refine wK (sh:=aW) (v:=f64.format.order (se b) (se c)==some .lt) rfl ?_;simp [ux] at a ⊢;by_cases e:f64.format.order (se b) (se c)=some .lt
  ·rw [if_pos e];rw [if_pos e] at a;exact a
  ·rw [if_neg e];rw [if_neg e] at a;exact a
 by_cases o:op=20
 ·subst o;refine ⟨f64.nearest b,X0,LP (xf ?_)⟩;simpa using a
 by_cases p:op=21
 ·subst p;refine W7 (Tr ?_);simpa using a
 grind
end
def gO (c:bc):List Int:=[c.cD,c.cE,c.cF,c.cG,c.cH,c.cI,c.cJ,c.cK]
def gI (c:bc):Core:=⟨c.PC,gO c⟩
def s7 (w:ed):Want:=⟨w.Kind,w.To,w.cS⟩
def rowOf (c:bc):gS:=⟨c.cD,c.cE,c.cF,c.cG,c.cH,c.cI,c.cJ,c.cK⟩
def GH (c:bc):Nat->Int->bc
 | 0,v=>{c with cD:=v}
 | 1,v=>{c with cE:=v}
 | 2,v=>{c with cF:=v}
 | 3,v=>{c with cG:=v}
 | 4,v=>{c with cH:=v}
 | 5,v=>{c with cI:=v}
 | 6,v=>{c with cJ:=v}
 | 7,v=>{c with cK:=v}
 | _,_=>c
section
variable {h0 k:Hp} {p:Addr} {c:bc}
theorem Ts {n:Nat} {v:Int} (a:n<8):gI (GH c n v)=⟨c.PC,(gO c).set n v⟩:=by
 match n,a with
 | 0,_=>rfl
 | 1,_=>rfl
 | 2,_=>rfl
 | 3,_=>rfl
 | 4,_=>rfl
 | 5,_=>rfl
 | 6,_=>rfl
 | 7,_=>rfl
theorem oe {i:Int} {K:Int->Prop} (h:0<=i/\i<8) (a:K (fy (gO c) i)):
  ((0:Int)<=i/\i<(8:Int))/\∃x:Int,((List.get?Internal [(.int .i64 (rowOf c).a0),(.int .i64 (rowOf c).a1),(.int .i64 (rowOf c).a2),(.int .i64 (rowOf c).a3),(.int .i64 (rowOf c).a4),(.int .i64 (rowOf c).a5),(.int .i64 (rowOf c).a6),(.int .i64 (rowOf c).a7)] (0+((Int.toNat i)*1)))=(some (Value.int .i64 x))/\K x):=by
 refine ⟨h,_,?_,a⟩;unfold fy;have:i.toNat<8:=by omega
 generalize i.toNat=n at*
 match n,this with
 | 0,_=>rfl
 | 1,_=>rfl
 | 2,_=>rfl
 | 3,_=>rfl
 | 4,_=>rfl
 | 5,_=>rfl
 | 6,_=>rfl
 | 7,_=>rfl
theorem rK {a v:Int} {Q:Hp->Prop} (o:Has h0 (dJ fh p c) k) (f:∀e b,Has h0 (dJ fh p e) b->gI e=⟨c.PC,jS (gO c) a v⟩->Q b):zvh prog (some p) a v Q k:=by
 unfold zvh;refine aE ?_;by_cases h:0<=a/\a<8
 ·rw [if_pos (by simp [h.1,h.2])];refine aP ⟨h,?_⟩;rw [rY,Nat.mul_one];have d:a.toNat<8:=by omega
  refine o.st (GH c a.toNat v) (by show 1+a.toNat+1<=9;omega) ?_ λb g=>f _ b g ?_
  ·generalize a.toNat=n at d
   match n,d with
   | 0,_=>rfl
   | 1,_=>rfl
   | 2,_=>rfl
   | 3,_=>rfl
   | 4,_=>rfl
   | 5,_=>rfl
   | 6,_=>rfl
   | 7,_=>rfl
  ·rw [Ts d];unfold jS;rw [if_pos h]
 ·rw [if_neg (by simp;omega)];refine f c k o ?_;unfold jS;rw [if_neg h];rfl
theorem Fc {K:Addr->Hp->Prop} (b:∀p a,k<=a->Has k (dJ fh p c) a->K p a):bG [(.int .i64 c.PC),(.int .i64 c.cD),(.int .i64 c.cE),(.int .i64 c.cF),(.int .i64 c.cG),(.int .i64 c.cH),(.int .i64 c.cI),(.int .i64 c.cJ),(.int .i64 c.cK)] K k:=rQ (sh:=fh) c rfl b
theorem Fp {Q:bc->Hp->Prop} (hp:0<=c.PC/\c.PC<4611686018427387904) (b:∀a,gI a=fL (gI c)->Q a k):C7 prog c Q k:=by unfold C7;refine b _ ?_;unfold gI fL gO;dsimp only;rw [aI]
variable {l:Sl} {xs:List aZ}
theorem C5 {Q:aZ->Bool->Hp->Prop} (r:nv k l xs) (a:∀x:aZ,ik (xs.map bE) c.PC=some (bE x)->0<=c.PC->c.PC<(xs.length:Int)->Q x true k) (b:ik (xs.map bE) c.PC=none->Q ⟨0,0,0,0,0⟩ false k):Et prog c l Q k:=by
 unfold Et;refine aE ?_;have d:=r.1;unfold ik at a b;by_cases h:c.PC<0\/(xs.length:Int)<=c.PC
 ·grind
 ·rw [if_neg (by simp;omega)];refine kV r λx e=>a x ?_ (by omega) (by omega);grind
theorem X3 {x:dF} {n m:Int} (h:(j8 x n m).1=0):(0<=x.a/\x.a<8)/\(0<=x.b/\x.b<8)/\(0<=x.c/\x.c<8):=by
 have key:∀ {b:Bool} {v:Int},fg b v=0->0<=v/\v<8:=by
  intro b v h;unfold fg at h;by_cases d:b=false/\v≠0
  ·rw [if_pos d] at h;cases h
  ·rw [if_neg d] at h;by_cases hp:v<0\/8<=v
   ·rw [if_pos hp] at h;cases h
   ·omega
 obtain ⟨_,a,b,c,_⟩:=yU h;grind
theorem Tt {x:aZ} {Q:ed->Bool->Bool->Hp->Prop} (q:0<=x.A/\x.A<8) (hb:0<=x.B/\x.B<8) (t:0<=x.C/\x.C<8) (b:ln (bE x) (gO c)=none->Q ⟨0,0,0⟩ false false k)
  (a:∀w st,ln (bE x) (gO c)=some (s7 w,st)->Q w st true k):CC prog x (rowOf c) Q k:=by
 have case:∀n:Int,(x.Op==n)=decide (x.Op=n):=λn=>by by_cases e:x.Op=n<;>simp [e]
 unfold CC;unfold ln at b a;simp only [case,decide_eq_true_eq];have s:(bE x).op=x.Op:=rfl;rw [s] at b a;by_cases d:x.Op=0
 ·rw [if_pos d];rw [if_pos d] at a;exact a ⟨1,0,0⟩ true rfl
 rw [if_neg d];rw [if_neg d] at b a;by_cases f:x.Op=24
 ·rw [if_pos f];rw [if_pos f] at a;exact oe hb (oe t (a ⟨2,_,_⟩ true rfl))
 rw [if_neg f];rw [if_neg f] at b a;by_cases g:x.Op=25
 ·rw [if_pos g];rw [if_pos g] at a;exact a ⟨3,0,0⟩ true rfl
 rw [if_neg g];rw [if_neg g] at b a;by_cases h:x.Op=26
 ·rw [if_pos h];rw [if_pos h] at a;exact a ⟨4,0,0⟩ true rfl
 rw [if_neg h];rw [if_neg h] at b a;by_cases i:x.Op=27
 ·rw [if_pos i];rw [if_pos i] at a;exact oe q (a ⟨5,0,_⟩ false rfl)
 rw [if_neg i];rw [if_neg i] at b a;by_cases j:x.Op=28
 ·rw [if_pos j];rw [if_pos j] at a;exact oe q (a ⟨6,0,_⟩ true rfl)
 rw [if_neg j];rw [if_neg j] at b a;by_cases m:x.Op=29
 ·rw [if_pos m];rw [if_pos m] at a;exact a ⟨7,x.iZ,0⟩ true rfl
 rw [if_neg m];rw [if_neg m] at b a;by_cases o:x.Op=30
 ·rw [if_pos o];rw [if_pos o] at a;exact a ⟨8,x.iZ,0⟩ false rfl
 rw [if_neg o];rw [if_neg o] at b a;by_cases r:x.Op=31
 ·rw [if_pos r];rw [if_pos r] at a;exact oe q (a ⟨9,0,_⟩ false rfl)
 grind
theorem VB {v:Int} {Q:bc->Hp->Prop} (r:nv k l xs) (hp:0<=c.PC/\c.PC<4611686018427387904) (i:∀b g,k<=g->gI b=kI (xs.map bE) (gI c) v->Q b g):Db prog c l v Q k:=by
 unfold Db;refine Fc λp u t o=> ?_;unfold kI at i;refine bM.intro (λg=>∃b,Has k (dJ fh p b) g/\fL (gI b)=(match ik (xs.map bE) (gI c).pc with
  | some n=>⟨(gI c).pc+1,jS (gI c).aO n.a v⟩
  | none=>fL (gI c))) ?_ ?_
 ·refine o.uZ (shf:=fh) c rfl ?_;refine CG (C5 (r.mono t) (λx f _ _=> ?_) λf=> ?_)
  ·rw [if_pos rfl];refine A7 (rK o λb j h e=>⟨b,h,?_⟩);have f:ik (xs.map bE) (gI c).pc=some (bE x):=f;rw [f,e];rfl
  ·rw [if_neg (by decide)];have f:ik (xs.map bE) (gI c).pc=none:=f;refine ⟨c,o,?_⟩;rw [f]
 ·rintro j ⟨b,h,e⟩;refine h.uZ (shf:=fh) b rfl ?_;have s:b.PC=c.PC:=by
   have d:(fL (gI b)).pc=b.PC+1:=rfl;rw [e] at d;cases hi:ik (xs.map bE) (gI c).pc with
   | none=>rw [hi] at d;have d:c.PC+1=b.PC+1:=d;omega
   | some n=>rw [hi] at d;have d:c.PC+1=b.PC+1:=d;omega
  exact Dq (Fp (by rw [s];exact hp) λm q=>i m j h.le (q.trans e))
theorem EH {v from_:Int} {Q:bc->Hp->Prop} (r:nv k l xs) (hp:0<=c.PC/\c.PC<4611686018427387904) (j:∀d h,k<=h->gI d=gQ (xs.map bE) (gI c) v from_->Q d h):Da prog c l v from_ Q k:=by
 unfold Da;refine Fc λp D B o=> ?_;unfold gQ at j;refine bM.intro (λh=>∃d,Has k (dJ fh p d) h/\fL (gI d)=(match ik (xs.map bE) (gI c).pc with
  | some n=>⟨(gI c).pc+1,jS (jS (gI c).aO n.a v) n.b from_⟩
  | none=>fL (gI c))) ?_ ?_
 ·refine o.uZ (shf:=fh) c rfl ?_;refine CG (C5 (r.mono B) (λx g _ _=> ?_) λg=> ?_)
  ·rw [if_pos rfl];refine A7 (rK o λd m i e=> ?_);refine A7 (rK i λs E C u=>⟨s,C,?_⟩);have g:ik (xs.map bE) (gI c).pc=some (bE x):=g;have w:d.PC=c.PC:=congrArg Core.pc e;have y:gO d=jS (gO c) x.A v:=congrArg Core.aO e;rw [g,u,w,y];rfl
  ·rw [if_neg (by decide)];have g:ik (xs.map bE) (gI c).pc=none:=g;refine ⟨c,o,?_⟩;rw [g]
 ·rintro m ⟨d,i,e⟩;refine i.uZ (shf:=fh) d rfl ?_;have z:d.PC=c.PC:=by
   have f:(fL (gI d)).pc=d.PC+1:=rfl;rw [e] at f;cases hi:ik (xs.map bE) (gI c).pc with
   | none=>rw [hi] at f;have f:c.PC+1=d.PC+1:=f;omega
   | some n=>rw [hi] at f;have f:c.PC+1=d.PC+1:=f;omega
  exact Dq (Fp (by rw [z];exact hp) λq t=>j q m i.le (t.trans e))
end
section
variable {h0 k:Hp} {p:Addr} {c:bc} {l:Sl} {xs:List aZ}
theorem wV {a:bc} {r:List Int} (e:gI a=⟨c.PC,r⟩):fL (gI a)=⟨c.PC+1,r⟩:=by rw [e];rfl
theorem VD {tick self:Int} {Q:bc->ed->Hp->Prop} (r:nv k l xs) (Y:xs.length<1073741824)
  (b:∀d w t,k<=t->gI d=(j7 gK (xs.map bE) (gI c) tick self).1->s7 w=(j7 gK (xs.map bE) (gI c) tick self).2->Q d w t):C8 prog c l tick self Q k:=by
 unfold C8;refine Fc λp k1 K o=> ?_;refine o.uZ (shf:=fh) c rfl ?_;have X:=r.1;unfold j7 at b;refine CG (C5 (r.mono K) (λx hi i0 Z=> ?_) λhi=> ?_)
 case _=>
  refine ⟨λ_=> ?_,λe=>(by cases e)⟩;refine IA (NS λW P=> ?_);have hi:ik (xs.map bE) (gI c).pc=some (bE x):=hi;rw [hi] at b;dsimp only at b;have S:((xs.map bE).length:Int)=(l.len:Int):=by grind
  rw [S] at b;refine aE ?_;have h:=o.grow P;by_cases m:(j8 (bE x) (l.len:Int) 8).1≠0
  ·rw [if_pos m] at b;rw [if_pos (by simp [m])];refine h.uZ (shf:=fh) c rfl ?_;exact b c ⟨1,0,0⟩ _ (Hp.le_trans K P) rfl rfl
  ·rw [if_neg m] at b;rw [if_neg (by simpa using m)];have m:(j8 (bE x) (l.len:Int) 8).1=0:=by simpa using m
   obtain ⟨u,hb,s⟩:=X3 m;have u:0<=x.A/\x.A<8:=u;have hb:0<=x.B/\x.B<8:=hb;have s:0<=x.C/\x.C<8:=s;have O:0<=c.PC/\c.PC<4611686018427387904:=by omega
   refine h.ld (shf:=xK) (rowOf c) (off:=1) rfl ?_;refine W1 (Tt u hb s (λI=> ?_) λw st J=> ?_)
   ·rw [if_neg (by decide)];refine h.ld (shf:=xK) (rowOf c) (off:=1) rfl ?_;have I:ln (bE x) (gI c).aO=none:=I;rw [I] at b;dsimp only at b;unfold sQ at b;have R:(bE x).op=x.Op:=rfl;rw [R] at b;have case:∀n:Int,(x.Op==n)=decide (x.Op=n):=λn=>by grind
    simp only [case,decide_eq_true_eq];refine fQ.intro (λ_ _ t=>∃d,Has k (dJ fh p d) t/\d.PC=c.PC/\∀g,gI g=fL (gI d)->Q g ⟨0,0,0⟩ t) ?_ ?_
    ·by_cases y:x.Op=1
     ·rw [if_pos y];rw [if_pos y] at b;refine A7 (rK h λd q f e=>⟨d,f,congrArg Core.pc e,λg i=>b g _ _ f.le (i.trans (wV e)) rfl⟩)
     rw [if_neg y];rw [if_neg y] at b;by_cases z:x.Op=2
     ·rw [if_pos z];rw [if_pos z] at b;refine oe hb ?_;refine A7 (rK h λd q f e=>⟨d,f,congrArg Core.pc e,λg i=>b g _ _ f.le (i.trans (wV e)) rfl⟩)
     rw [if_neg z];rw [if_neg z] at b;by_cases D:x.Op=32
     ·rw [if_pos D];rw [if_pos D] at b;refine A7 (rK h λd q f e=>⟨d,f,congrArg Core.pc e,λg i=>b g _ _ f.le (i.trans (wV e)) rfl⟩)
     rw [if_neg D];rw [if_neg D] at b;by_cases E:x.Op=33
     ·rw [if_pos E];rw [if_pos E] at b;refine A7 (rK h λd q f e=>⟨d,f,congrArg Core.pc e,λg i=>b g _ _ f.le (i.trans (wV e)) rfl⟩)
     rw [if_neg E];rw [if_neg E] at b;by_cases F:x.Op=22
     ·rw [if_pos F];rw [if_pos F] at b;refine h.st {c with PC:=x.iZ} (by show 0+1<=9;omega) rfl λq f=> ?_;refine f.uZ (shf:=fh) {c with PC:=x.iZ} rfl ?_;exact b _ _ _ f.le rfl rfl
     rw [if_neg F];rw [if_neg F] at b;by_cases G:x.Op=23
     ·rw [if_pos G];rw [if_pos G] at b;refine oe u ?_;by_cases j:fy (gO c) x.A=0
      ·rw [if_pos (by simp [j])];have j:fy (gI c).aO (bE x).a=0:=j;rw [if_pos j] at b;exact ⟨c,h,rfl,λg i=>b g _ _ h.le i rfl⟩
      ·rw [if_neg (by simp [j])];have j:¬fy (gI c).aO (bE x).a=0:=j;rw [if_neg j] at b;refine h.st {c with PC:=x.iZ} (by show 0+1<=9;omega) rfl λq f=> ?_;refine f.uZ (shf:=fh) {c with PC:=x.iZ} rfl ?_;exact b _ _ _ f.le rfl rfl
     rw [if_neg G];rw [if_neg G] at b;refine oe hb (oe s ?_);have H:gK x.Op (fy (gO c) x.B) (fy (gO c) x.C)=if 3<=x.Op/\x.Op<=14 then xV x.Op (fy (gO c) x.B) (fy (gO c) x.C) else vL x.Op (fy (gO c) x.B) (fy (gO c) x.C):=rfl
     have L:∀v,v=gK x.Op (fy (gO c) x.B) (fy (gO c) x.C)->bA prog wL [(.pointer (some p)),(.int .i64 x.A),(.int .i64 v)] (λN=>∃d,Has k (dJ fh p d) N/\d.PC=c.PC/\∀g,gI g=fL (gI d)->Q g ⟨0,0,0⟩ N) W:=by intro v hv;subst hv;exact A7 (rK h λd q f e=>⟨d,f,congrArg Core.pc e,λg i=>b g _ _ f.le (i.trans (wV e)) rfl⟩)
     refine aay (Vt (λM=> ?_) λM=> ?_)
     ·refine bH.direct ?_;grind
     ·refine bH.direct ?_;rw [if_pos (by decide)];refine oe hb (oe s ?_);rw [if_neg M] at H;refine aaz (Vz (λU=>L _ H.symm) λU=>L _ ?_);rw [H];unfold vL;omega
    ·rintro _ _ q ⟨d,f,T,V⟩;refine f.uZ (shf:=fh) d rfl ?_;exact Dq (Fp (by rw [T];exact O) λg i=>V g i)
   ·rw [if_pos rfl];have J:ln (bE x) (gI c).aO=some (s7 w,st):=J;rw [J] at b;dsimp only at b;cases st with
    | true=>rw [if_pos rfl];refine h.uZ (shf:=fh) c rfl ?_;exact ⟨⟨trivial,trivial⟩,b c w _ h.le rfl rfl⟩
    | false=>rw [if_neg (by decide)];refine h.uZ (shf:=fh) c rfl ?_;exact Dq (Fp O λg i=>⟨⟨trivial,trivial⟩,⟨trivial,trivial⟩,b g w _ h.le i rfl⟩)
 case _=>refine ⟨λe=>(by cases e),λ_=>⟨0,?_⟩⟩;refine aE ?_;rw [if_pos (by decide)];have hi:ik (xs.map bE) (gI c).pc=none:=hi;rw [hi] at b;refine o.uZ (shf:=fh) c rfl ?_;exact b c ⟨1,0,0⟩ _ K rfl rfl
end
structure MK where
 c:bd
 x:aT
 t:Addr
 sl:Addr
 pt:List Addr
 pr:List Addr
 own:Nat->Sl
 code:Nat->Sl
 ins:Nat->List aZ
def Ge (x:aT):aw:=⟨x.dG,x.fO,x.ja,x.gV,x.fN,x.iI,x.bZ⟩
structure dD (h:Hp) (K:MK):Prop where
 iw:(fq K.c).1=0
 BD:∀l∈K.c.labels,lW l
 cfg:eo h (Ge K.x) K.c
 t1:K.x.table=some K.t
 t2:rW h K.t K.c.labels
 s1:K.x.tO=some K.sl
 s2:∃(s:Sl) (n:Int),aR h K.sl [s.v,.int .i64 n]/\Is h s K.c.table
 Oq:K.pt.length=nP K.c
 pt:Rs h an 1 K.x.parts (K.pt.map some)
 Oo:K.pr.length=nQ K.c
 pr:Rs h an 1 K.x.procs (K.pr.map some)
 own:∀i,i<nP K.c->Is h (K.own i) ((eC K.c i).map λ(q:Nat)=>(q:Int))
 code:∀p,p<nQ K.c->nv h (K.code p) (K.ins p)/\(K.ins p).map bE=jX K.c p
 owned:∀p,p<nQ K.c->aH K.c p<nP K.c
abbrev Gg :uh->List Value:=λe=> [.int .i64 e.tick,.int .i64 e.proc,.int .i64 e.value]
def mS (K:MK) (i:Nat) (x:bm) (lp a:Addr) (y:cR):Prop:=x.procs=K.own i/\x.ag=y.ag/\x.lost=y.lost/\x.forbidden=y.forbidden/\x.ak=some lp/\x.dU=some a
def pK (K:MK) (i:Nat) (x:bm) (lp b:Addr) (y:cR) (a:Nat->Int):dR:=
 (dJ xI (K.pt.getD i a0) x).star ((dA 3 Gg x.log y.log).star ((nb lp y.av y.ah).star (s8 b a (2*nQ K.c))))
def pJ (K:MK) (i:Nat) (y:cR) (b:Nat->Int):dR:=.some_ λx:bm=>.some_ λlp:Addr=>.some_ λa:Addr=>(pK K i x lp a y b).star (.fact (mS K i x lp a y))
def dW (z:aM):bc:=⟨z.jL,z.fX,z.fY,z.fZ,z.gg,z.gh,z.gi,z.gk,z.gl⟩
def fH (K:MK) (p:Nat) (z:aM) (q:Addr) (y:ai):Prop:=z.dI=(p:Int)/\z.part=(aH K.c p:Int)/\z.code=K.code p/\z.state=y.state/\gI (dW z)=y.core/\z.bK=y.bK/\z.post=some q
def tj (K:MK) (p:Nat) (z:aM) (q:Addr) (y:ai):dR:=(dJ bz (K.pr.getD p a0) z).star (dT q K.c.lane y.ae y.ag)
def pL (K:MK) (p:Nat) (y:ai):dR:=.some_ λz:aM=>.some_ λq:Addr=>(tj K p z q y).star (.fact (fH K p z q y))
def rG (x:aT) (t:Int):aT:=⟨x.dG,x.fO,x.ja,x.gV,x.fN,x.iI,x.bZ,x.table,x.tO,t,x.parts,x.procs⟩
def aJ (K:MK) (pm:Addr) (s:MS) (a:Nat->Nat->Int):dR:=
 (dJ JQ pm (rG K.x s.tick)).star ((dR.first (λi=>pJ K i (s.part i) (a i)) (nP K.c)).star (dR.first (λp=>pL K p (s.proc p)) (nQ K.c)))
section
variable {h0 h1 k:Hp} {K:MK} {pm:Addr} {s:MS} {d:Nat->Nat->Int}
theorem dD.mono (m:dD h0 K) (c:h0<=h1):dD h1 K where
 iw:=m.iw
 BD:=m.BD
 cfg:=m.cfg.mono c
 t1:=m.t1
 t2:=m.t2.mono c
 s1:=m.s1
 s2:=by obtain ⟨s,n,a,b⟩:=m.s2;exact ⟨s,n,nr c a,b.mono c⟩
 Oq:=m.Oq
 pt:=m.pt.mono c
 Oo:=m.Oo
 pr:=m.pr.mono c
 own:=λi hi=>(m.own i hi).mono c
 code:=λp hp=>⟨(m.code p hp).1.mono c,(m.code p hp).2⟩
 owned:=m.owned
theorem Has.AW {p:Nat} (o:Has h0 (aJ K pm s d) k) (hp:p<nQ K.c):∃h1 z q,h0<=h1/\fH K p z q (s.proc p)/\Has h1 (tj K p z q (s.proc p)) k/\
  ∀g a b,fH K p g q a->Has h1 (tj K p g q a) b->Has h0 (aJ K pm (s.bw p a) d) b:=by
 obtain ⟨h1,a1,n,put⟩:=o.f3;obtain ⟨h,a2,f,_,t⟩:=n.one hp;obtain ⟨z,f⟩:=Has.ex.1 f;obtain ⟨q,f⟩:=Has.ex.1 f;obtain ⟨r,i⟩:=f.jP;refine ⟨h,z,q,Hp.le_trans a1 a2,i,r,λg a b l m=>put _ _ ?_⟩;have:=t _ _ (Has.ex.2 ⟨g,Has.ex.2 ⟨q,m.fB l⟩⟩:Has h (pL K p a) b);refine cast (congrArg (λA=>Has h1 A b) (tW λj u=> ?_)) this;by_cases e:j=p
 ·subst e;rw [lS];show _=pL K j (dd s.proc j a j);rw [lS];rfl
 ·rw [lz e];show _=pL K j (dd s.proc p a j);rw [lz e]
theorem Has.ru {i:Nat} (o:Has h0 (aJ K pm s d) k) (hi:i<nP K.c):∃h1 x lp b,h0<=h1/\mS K i x lp b (s.part i)/\Has h1 (pK K i x lp b (s.part i) (d i)) k/\
  ∀l f g h,mS K i l lp b f->Has h1 (pK K i l lp b f g) h->Has h0 (aJ K pm (s.eS i f) (dd d i g)) h:=by
 obtain ⟨h1,a1,r,put⟩:=o.f2;obtain ⟨m,a2,a,_,u⟩:=r.one hi;obtain ⟨x,a⟩:=Has.ex.1 a;obtain ⟨lp,a⟩:=Has.ex.1 a;obtain ⟨b,a⟩:=Has.ex.1 a;obtain ⟨t,n⟩:=a.jP;refine ⟨m,x,lp,b,Hp.le_trans a1 a2,n,t,λl f g h p q=>put _ _ ?_⟩;have:=u _ _ (Has.ex.2 ⟨l,Has.ex.2 ⟨lp,Has.ex.2 ⟨b,q.fB p⟩⟩⟩:Has m (pJ K i f g) h);refine cast (congrArg (λA=>Has h1 A h) (tW λj v=> ?_)) this;by_cases e:j=i
 ·subst e;rw [lS];show _=pJ K j (dd s.part j f j) (dd d j g j);rw [lS,lS];rfl
 ·rw [lz e];show _=pJ K j (dd s.part i f j) (dd d i g j);rw [lz e,lz e]
theorem Has.eO (o:Has h0 (aJ K pm s d) k):Has h0 (dJ JQ pm (rG K.x s.tick)) k:=Has.left o
theorem dD.wi (m:dD h0 K) (a:h0<=k) {p:Nat} (hp:p<nQ K.c) {Q:Option Addr->Prop} (b:Q (some (K.pr.getD p a0))):aG K.x.procs.base K.x.procs.len (p:Int)/\aD none an k (sat K.x.procs.base 1 (p:Int)) Q:=by have e:=m.Oo;refine Rs.get (m.pr.mono a) (λ_=>rfl) (by omega) (by omega) (by rw [List.length_map];omega) λ(y:Option Addr) f=> ?_;grind
theorem dD.partAt (m:dD h0 K) (a:h0<=k) {p:Nat} (hp:p<nP K.c) {Q:Option Addr->Prop} (b:Q (some (K.pt.getD p a0))):aG K.x.parts.base K.x.parts.len (p:Int)/\aD none an k (sat K.x.parts.base 1 (p:Int)) Q:=by have e:=m.Oq;refine Rs.get (m.pt.mono a) (λ_=>rfl) (by omega) (by omega) (by rw [List.length_map];omega) λ(y:Option Addr) f=> ?_;grind
theorem dD.nS (m:dD h0 K):K.x.procs.len=nQ K.c:=by have:=m.pr.1;rw [List.length_map,m.Oo] at this;exact this
theorem dD.rA (m:dD h0 K):K.x.parts.len=nP K.c:=by have:=m.pt.1;rw [List.length_map,m.Oq] at this;exact this
end
abbrev MK.p (K:MK) (p:Nat):Addr:=K.pr.getD p a0
abbrev MK.q (K:MK) (i:Nat):Addr:=K.pt.getD i a0
section
variable {h0 h1 k:Hp} {K:MK} {pm:Addr} {s:MS} {a:Nat->Nat->Int}
theorem Has.dz {p:Nat} (o:Has h0 (aJ K pm s a) k) (hp:p<nQ K.c):∃h1 z q,h0<=h1/\fH K p z q (s.proc p)/\Has h1 (dJ bz (K.p p) z) k/\
  ∀e b d,fH K p e q b->b.ae=(s.proc p).ae->b.ag=(s.proc p).ag->Has h1 (dJ bz (K.p p) e) d->Has h0 (aJ K pm (s.bw p b) a) d:=by
 obtain ⟨h1,z,q,i,g,m,put⟩:=o.AW hp;obtain ⟨f,j,n,_,r⟩:=m.fst;refine ⟨f,z,q,Hp.le_trans i j,g,n,λe b d h t u l=>put e b d h ?_⟩;have:=r _ _ l;unfold tj;grind
theorem Has.nR {p:Nat} (o:Has h0 (aJ K pm s a) k) (hp:p<nQ K.c):∃h1 z q,h0<=h1/\fH K p z q (s.proc p)/\Has h0 (dJ bz (K.p p) z) k/\Has h1 (dT q K.c.lane (s.proc p).ae (s.proc p).ag) k/\
  ∀e d b,Has h1 (dT q K.c.lane e d) b->Has h0 (aJ K pm (s.bw p {s.proc p with ae:=e,ag:=d}) a) b:=by
 obtain ⟨h1,z,q,g,f,h,put⟩:=o.AW hp;obtain ⟨i,j,m,_,n⟩:=h.snd;exact ⟨i,z,q,Hp.le_trans g j,f,(Has.left h).mono g,m,λe d b l=>put z _ b f (n _ _ l)⟩
def vG (z:aM) (c:bc):aM:=⟨z.dI,z.part,z.code,z.state,c.PC,c.cD,c.cE,c.cF,c.cG,c.cH,c.cI,c.cJ,c.cK,z.bK,z.post⟩
def og (z:aM) (n:Int):aM:=⟨z.dI,z.part,z.code,n,z.jL,z.fX,z.fY,z.fZ,z.gg,z.gh,z.gi,z.gk,z.gl,z.bK,z.post⟩
def uR (z:aM) (b:Bool):aM:=⟨z.dI,z.part,z.code,z.state,z.jL,z.fX,z.fY,z.fZ,z.gg,z.gh,z.gi,z.gk,z.gl,b,z.post⟩
theorem fH.core {p:Nat} {z:aM} {q:Addr} {y:ai} (b:fH K p z q y) (c:bc):fH K p (vG z c) q (y.put (gI c)):=⟨b.1,b.2.1,b.2.2.1,b.2.2.2.1,rfl,b.2.2.2.2.2⟩
theorem fH.state {p:Nat} {z:aM} {q:Addr} {y:ai} (b:fH K p z q y) (n:Int):fH K p (og z n) q {y with state:=n}:=⟨b.1,b.2.1,b.2.2.1,rfl,b.2.2.2.2⟩
theorem fH.bK {p:Nat} {z:aM} {q:Addr} {y:ai} (c:fH K p z q y) (b:Bool):fH K p (uR z b) q {y with bK:=b}:=⟨c.1,c.2.1,c.2.2.1,c.2.2.2.1,c.2.2.2.2.1,rfl,c.2.2.2.2.2.2⟩
theorem DX {n:Int} {Q:Bool->Hp->Prop} (b:Q (decide (n≠5)&&decide (n≠6)) k):KN prog n Q k:=by unfold KN;refine aE ?_;grind
theorem N3 {n:Int} {Q:Int->Hp->Prop} (b:fF n) (c:Q (more n) k):zvg prog n Q k:=by
 unfold zvg;unfold fF at b;rw [aI];have:fK (n+1) 65535=more n:=by unfold fK more;split<;>split<;>omega
 grind
theorem EI {p:Nat} {c:bc} {m:Option Addr} {Q:Hp->Prop} (o:Has h0 (aJ K pm s a) k) (hp:p<nQ K.c) (d:∀b,Has h0 (aJ K pm (s.bw p (vO (s.proc p) (gI c))) a) b->Q b):VC prog m (some (K.p p)) c Q k:=by unfold VC;obtain ⟨h1,z,q,l,e,f,put⟩:=o.dz hp;refine aP (f.st (og z 0) (by show 3+1<=15;omega) rfl λi g=> ?_);refine ⟨⟨trivial,trivial⟩,aP (g.st (vG (og z 0) c) (by show 4+9<=15;omega) rfl λj h=> ?_)⟩;exact d _ (put _ _ _ ((e.state 0).core c) rfl rfl h)
theorem dD.q7 (m:dD h0 K) (b:h0<=k) {p:Nat} (hp:p<nQ K.c) {z:aM} {q:Addr} {y:ai} (d:fH K p z q y):nv k z.code (K.ins p):=by rw [d.2.2.1];exact ((m.code p hp).1).mono b
theorem D8 {p:Nat} {v:Int} {n:Option Addr} {Q:Hp->Prop} (m:dD h0 K) (o:Has h0 (aJ K pm s a) k) (hp:p<nQ K.c) (u:0<=(s.proc p).pc/\(s.proc p).pc<4611686018427387904) (i:∀d,Has h0 (aJ K pm (da K.c s p v) a) d->Q d):
  TF prog n (some (K.p p)) v Q k:=by
 unfold TF;obtain ⟨h1,z,q,x,b,f,put⟩:=o.dz hp;refine aP (f.ld (shf:=fh) (dW z) rfl ?_);refine aP (f.ld (shf:=af) z.code rfl ?_);have e:gI (dW z)=(s.proc p).core:=b.2.2.2.2.1;have t:(dW z).PC=(s.proc p).pc:=congrArg Core.pc e;refine YS (VB (m.q7 o.le hp b) (by omega) λr w l h=> ?_);refine TL (EI (o.grow l) hp λj g=>i j ?_);rw [h,e,(m.code p hp).2] at g;exact g
theorem EJ {p:Nat} {i:Option Addr} {Q:Hp->Prop} (o:Has h0 (aJ K pm s a) k) (hp:p<nQ K.c) (b:∀g,Has h0 (aJ K pm (s.bw p (eT (s.proc p))) a) g->Q g):Vw prog i (some (K.p p)) Q k:=by
 unfold Vw;obtain ⟨h1,z,q,m,d,f,put⟩:=o.dz hp;refine aP (f.ld (shf:=ab .i64) z.state rfl ?_);have e:z.state=(s.proc p).state:=d.2.2.2.1;unfold eT at b;by_cases h:(s.proc p).state=1
 ·rw [if_pos (show (z.state==1)=true by rw [e,h];rfl)];rw [if_pos h] at b;exact aP (f.st (og z 0) (by show 3+1<=15;omega) rfl λl j=>b _ (put _ _ _ (d.state 0) rfl rfl j))
 ·rw [if_neg (show ¬(z.state==1)=true by grind)];rw [if_neg h] at b;exact b _ (put z (s.proc p) k d rfl rfl f)
theorem DY {kS:Int} {Q:Hp->Prop} (m:dD h0 K) (o:Has h0 (aJ K pm s a) k) (t:0<=kS->kS<(nQ K.c:Int)/\0<=(s.proc kS.toNat).pc/\(s.proc kS.toNat).pc<4611686018427387904) (b:∀g,Has h0 (aJ K pm (jY s kS) a) g->Q g):
  UL prog (some pm) kS Q k:=by
 unfold UL;unfold jY at b;by_cases h:0<=kS
 ·rw [if_pos (by simpa using h)];rw [if_pos h] at b;obtain ⟨D,A⟩:=t h;have hp:kS.toNat<nQ K.c:=by omega
  have r:((kS.toNat:Nat):Int)=kS:=by omega
  have at_:=m.wi o.le hp (Q:=λy=>y=some (K.p kS.toNat)) rfl;rw [r] at at_;obtain ⟨f,y,d,rfl⟩:=at_;refine aP (o.eO.ld (shf:=af) K.x.procs rfl ⟨f,_,d,aP (o.eO.ld (shf:=af) K.x.procs rfl ⟨f,_,d,?_⟩)⟩);obtain ⟨h1,z,q,C,u,w,put⟩:=o.dz hp;have e:gI (dW z)=(s.proc kS.toNat).core:=u.2.2.2.2.1;have l:(dW z).PC=(s.proc kS.toNat).pc:=congrArg Core.pc e;refine aP (w.ld (shf:=fh) (dW z) rfl ?_);refine Dq (Fp (by rw [l];exact A) λB j=> ?_);refine ⟨⟨o.eO.eM (n:=1) rfl,d,trivial⟩,?_⟩;refine TL (EI o hp λv i=>b v ?_);rw [j,e] at i;exact i
 grind
end
def jO (c:bd) (i j:Nat):Bool:=fl c.labels (i:Int) (j:Int)
structure F6 (n:Nat) (l:br):Prop where
 values:l.values.length<=64
 waiters:l.waiters.length<=100
 taken:fF l.taken
 dropped:fF l.dropped
 nd:(l.waiters.map (·.proc)).Nodup
 kS:∀w∈l.waiters,0<=w.proc/\w.proc<(n:Int)
structure qP (c:bd) (x:ai):Prop where
 pc:0<=x.pc/\x.pc<=1000
 len:x.ae.length=nP c+1
 cur:0<=x.ag/\x.ag<x.ae.length
 dY:∀l∈x.ae,F6 (nQ c) l
structure F0 (c:bd) (x:cR):Prop where
 cur:0<=x.ag/\x.ag<4611686018427387904
 kg:x.log.length<=4096
 lost:fF x.lost
 lM:fF x.forbidden
 im:x.av.length=x.ah.length
 iP:(x.ah.length:Int)=c.ak
 iC:x.ah.length<=8/\∀q∈x.ah,q.length<=100
 nd:∀q∈x.ah,q.Nodup/\∀z∈q,0<=z/\z<(nQ c:Int)
structure jK (c:bd) (s:MS):Prop where
 proc:∀p,p<nQ c->qP c (s.proc p)
 part:∀i,i<nP c->F0 c (s.part i)
theorem yZ {x:ai} {i:Nat} {l:br} {f:br->br} (h:x.ae[i]? =some l):bY x i f={x with ae:=x.ae.set i (f l)}:=by unfold bY;congr 1;refine List.ext_getElem? λj=> ?_;grind
section
variable {h0 h1 k:Hp} {K:MK} {pm:Addr} {s:MS} {d:Nat->Nat->Int}
theorem Has.tL {i:Nat} (o:Has h0 (aJ K pm s d) k) (hi:i<nP K.c):∃h1 x lp f,h0<=h1/\mS K i x lp f (s.part i)/\Has h1 (dJ xI (K.q i) x) k/\
  ∀b a e,mS K i b lp f a->b.log=x.log->a.log=(s.part i).log->a.av=(s.part i).av->a.ah=(s.part i).ah->Has h1 (dJ xI (K.q i) b) e->Has h0 (aJ K pm (s.eS i a) d) e:=by
 obtain ⟨h1,x,lp,f,n,l,t,put⟩:=o.ru hi;obtain ⟨g,p,u,_,v⟩:=t.fst;refine ⟨g,x,lp,f,Hp.le_trans n p,l,u,λb a e m w y z A r=> ?_⟩;have B:=v _ _ r;have h:Has h1 (pK K i b lp f a (d i)) e:=by unfold pK;grind
 have j:=put b a (d i) e m h
 rwa [zN] at j
theorem jK.told (a:jK K.c s) {p:Nat} (hp:p<nQ K.c):0<=(s.proc p).pc/\(s.proc p).pc<4611686018427387904:=by have:=(a.proc p hp).pc;omega
theorem dD.ptr (m:dD h0 K) (o:Has h0 (aJ K pm s d) k) {p:Nat} (hp:p<nQ K.c):aG K.x.procs.base K.x.procs.len (p:Int)/\aR k (sat K.x.procs.base 1 (p:Int)) [.pointer (some (K.p p))]:=by obtain ⟨a,y,b,rfl⟩:=m.wi o.le hp (Q:=λy=>y=some (K.p p)) rfl;exact ⟨a,b⟩
theorem dD.uz (m:dD h0 K) (o:Has h0 (aJ K pm s d) k) {p:Nat} (hp:p<nP K.c):aG K.x.parts.base K.x.parts.len (p:Int)/\aR k (sat K.x.parts.base 1 (p:Int)) [.pointer (some (K.q p))]:=by obtain ⟨a,y,b,rfl⟩:=m.partAt o.le hp (Q:=λy=>y=some (K.q p)) rfl;exact ⟨a,b⟩
theorem Fe {q i:Nat} {v:Int} {z:aM} {a:Addr} {Q:Int->Hp->Prop} (o:Has h0 (aJ K pm s d) k) (L:q<nQ K.c) (S:qP K.c (s.proc q)) (J:K.c.lane<=64) (hi:i<=nP K.c) (M:fH K q z a (s.proc q)) (O:Has h1 (dJ bz (K.p q) z) k)
  (u:gB K.c (s.proc q) i=true->Q 19 k) (w:∀j,gB K.c (s.proc q) i=false->Has h0 (aJ K pm (s.bw q (bY (s.proc q) i (vQ v))) d) j->Q 0 j):Pd prog (some a) (i:Int) v Q k:=by
 obtain ⟨T,e,x,V,N,R,P,put⟩:=o.nR L;have F:x=a:=by
  obtain ⟨b,G,hb,_⟩:=O.qw;obtain ⟨y,r,I,_⟩:=R.qw;rw [G] at r;have A:b=y:=congrArg Addr.block r;subst A;obtain ⟨t,B⟩:=hb;obtain ⟨X,f⟩:=I;rw [B] at f;have C:(ba (bz.enc z)).toArray=(ba (bz.enc e)).toArray:=by injection f with f;injection f
  have D:ba (bz.enc z)=ba (bz.enc e):=by simpa using C
  have E:(ba (bz.enc z))[14]? =(ba (bz.enc e))[14]?:=by rw [D]
  have m:some (Value.pointer z.post)=some (Value.pointer e.post):=E;have n:z.post=e.post:=by injection m with m;injection m
  rw [M.2.2.2.2.2.2,N.2.2.2.2.2.2] at n;exact (Option.some.inj n).symm
 subst F;have U:=S.len;have g:=List.getElem?_eq_getElem (show i<(s.proc q).ae.length by omega);generalize (s.proc q).ae[i]=l at g;have H:gB K.c (s.proc q) i=decide (K.c.lane<=(l.values.length:Int)):=by unfold gB;rw [g]
 rw [H] at u w;refine XM P g J (λh=>u (decide_eq_true h)) λj h W=>w j (decide_eq_false h) ?_;rw [yZ g];grind
end
section
variable {h0 h1 k:Hp} {K:MK} {pm:Addr} {s:MS} {b:Nat->Nat->Int}
theorem MH {p:Nat}:s.bw p (s.proc p)=s:=by unfold MS.bw;rw [zN]
theorem N4 {x:ai}:(eT x).pc=x.pc:=rfl
theorem EK {x:ai} {i:Nat} {f:br->br}:(bY x i f).pc=x.pc:=rfl
theorem AV {p q:Nat} {y:ai} (e:y.pc=(s.proc q).pc):((s.bw q y).proc p).pc=(s.proc p).pc:=by
 by_cases h:p=q
 ·subst h;rw [fV,e]
 ·rw [iN h]
theorem N5 {q i:Nat} {Q:Hp->Prop} (o:Has h0 (aJ K pm s b) k) (n:q<nQ K.c) (h:qP K.c (s.proc q)) (hi:i<=nP K.c) {C:Prop} (m:∀e,Has h0 (aJ K pm (s.bw q (bY (s.proc q) i mq)) b) e->Q e):
  ∃z a,fH K q z a (s.proc q)/\(∀ {f:Option Addr->Prop},f (some a)->aD none an k ((K.p q).add 14) f)/\O7 prog (some a) (i:Int) Q k:=by
 obtain ⟨u,z,a,w,g,t,r,put⟩:=o.nR n;refine ⟨z,a,g,λj=>t.ld (shf:=an) z.post rfl (by rw [g.2.2.2.2.2.2];exact j),?_⟩;have v:=h.len;have d:=List.getElem?_eq_getElem (show i<(s.proc q).ae.length by omega);generalize (s.proc q).ae[i]=l at d;refine U8 r d (h.dY l (List.mem_of_getElem? d)).dropped λe x=>m e ?_;rw [yZ d];grind
def Ff (c:bd) (s:MS) (p q:Nat) (v:Int):MS:=
 if kO (s.proc q)=false then da c s p 2
 else if gB c (s.proc q) (aH c p) then
  let s1:=s.bw q (bY (s.proc q) (aH c p) (iM p v))
  s1.bw p {s1.proc p with state:=2}
 else da c (s.bw q (eT (bY (s.proc q) (aH c p) (vQ v)))) p 0
theorem Q0 {p q:Nat} {v:Int} {Q:Hp->Prop} (m:dD h0 K) (A:cP K.c) (o:Has h0 (aJ K pm s b) k) (j:jK K.c s) (hp:p<nQ K.c) (f:q<nQ K.c) (T:∀l∈(s.proc q).ae,∀z∈l.waiters,z.proc≠(p:Int))
  (d:∀x,Has h0 (aJ K pm (Ff K.c s p q v) b) x->Q x):TX prog (some pm) (some (K.p p)) (some (K.p q)) v Q k:=by
 unfold TX;obtain ⟨h1,n,ap,l1,E,op,_⟩:=o.dz hp;obtain ⟨h2,a,B,l2,t,i,_⟩:=o.dz f;unfold Ff at d;have U:aH K.c p<=nP K.c:=Nat.le_of_lt A.fo;refine aP (i.ld (shf:=ab .i64) a.state rfl ?_);refine Fz (DX ?_);have S:a.state=(s.proc q).state:=t.2.2.2.1;have R:(decide (a.state≠5)&&decide (a.state≠6))=kO (s.proc q):=by rw [S];rfl
 rw [R];by_cases e:kO (s.proc q)=false
 ·rw [if_pos (by rw [e];rfl)];rw [if_pos e] at d;exact Cb (D8 m o hp (j.told hp) d)
 ·rw [if_neg (by grind)];rw [if_neg e] at d;refine aP (i.ld (shf:=an) a.post rfl ?_);refine aP (op.ld (shf:=ab .i64) n.part rfl ?_);have C:n.part=(aH K.c p:Int):=E.2.1;have eq:a.post=some B:=t.2.2.2.2.2.2;rw [C,eq];refine Yz (Fe o f (j.proc q f) A.lane.2 U t i (λh=> ?_) λx h Z=> ?_)
  ·rw [if_pos (by decide)];rw [if_pos h] at d;refine aP (i.ld (shf:=an) a.post rfl ?_);refine aP (op.ld (shf:=ab .i64) n.part rfl ?_);refine aP (op.ld (shf:=ab .i64) n.dI rfl ?_);have P:n.dI=(p:Int):=E.1;rw [C,eq,P];obtain ⟨h3,u,H,l3,V,o3,o2,put⟩:=o.nR f;have N:H=B:=by
    have I:=o3.ld (shf:=an) (off:=14) u.post rfl (K:=λy=>y=u.post) rfl;have J:=i.ld (shf:=an) (off:=14) a.post rfl (K:=λy=>y=a.post) rfl;obtain ⟨y1,w,rfl⟩:=I;obtain ⟨y2,g,rfl⟩:=J;have w:=w 0 (.pointer u.post) rfl;have g:=g 0 (.pointer a.post) rfl;rw [w] at g;have M:u.post=a.post:=by injection g with g;injection g
    rw [t.2.2.2.2.2.2,V.2.2.2.2.2.2] at M;grind
   subst N;have a9:=(j.proc q f).len;have r:=List.getElem?_eq_getElem (show aH K.c p<(s.proc q).ae.length by omega);generalize (s.proc q).ae[aH K.c p]=l at r;have O:gB K.c (s.proc q) (aH K.c p)=decide (K.c.lane<=(l.values.length:Int)):=by unfold gB;rw [r]
   have D:=λl e=>(j.proc q f).dY l e;have b0:=A.parts;refine Se (Va o2 ⟨by omega,λl e=>⟨(D l e).waiters,by have:=(D l e).values;omega⟩⟩ T r (by rw [O] at h;exact of_decide_eq_true h) λX o4=> ?_);have G:=put _ _ _ o4;have L:({s.proc q with ae:=(s.proc q).ae.set (aH K.c p) (iM p v l),ag:=(s.proc q).ag}:ai)=bY (s.proc q) (aH K.c p) (iM p v):=(yZ r).symm;rw [L] at G;obtain ⟨h4,z4,a4,l4,W,o6,a8⟩:=G.dz hp;refine aP (o6.st (og z4 2) (by show 3+1<=15;omega) rfl λY o7=> ?_);exact d Y (a8 _ _ _ (W.state 2) rfl rfl o7)
  ·rw [if_neg (by decide)];rw [if_neg (by rw [h];decide)] at d;refine TJ (EJ Z f λX F=> ?_);rw [fV,Ba] at F;refine Cb (D8 m F hp ?_ d);rw [AV (by rw [N4,EK])];exact j.told hp
end
end Lf
