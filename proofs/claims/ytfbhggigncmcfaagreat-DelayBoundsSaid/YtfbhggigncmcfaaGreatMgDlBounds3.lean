/-
  Part 4 of the texts that the claim leans on.
-/
import Derived.Test.YtfbhggigncmcfaaGreatMgDlBounds2
set_option maxRecDepth 100000
namespace Lf
open Go Go.Proofs Tryz
theorem T8 {l:List av} {e:av} {i:Nat} (c:l.Pairwise j7) (d:∀x∈l.take i,j7 x e) (b:∀x∈l.drop i,j7 e x):(l.take i++e::l.drop i).Pairwise j7:=by have a:=c;rw [<-List.take_append_drop i l] at a;obtain ⟨a1,a2,a3⟩:=List.pairwise_append.1 a;refine List.pairwise_append.2 ⟨a1,List.pairwise_cons.2 ⟨b,a2⟩,λx f y g=> ?_⟩;grind
set_option maxHeartbeats 1000000 in
theorem MN {p:Addr} {g:List av} {F:List Nat} {id due:Int} {Q:Int->Hp->Prop} {h:Hp} (w:Wh h p g F) (hl:g.length<=4398046511104) (h0:id<0\/due<0->Q 1 h)
  (h1:0<=id->0<=due->∀L B u,Mv F h B u->Wh u p L B->(∀x,x∈L↔x=⟨due,id⟩\/(x∈g/\x.df≠id))->L.length<=g.length+1->Q 0 u):KL prog (some p) id due Q h:=by
 unfold KL;refine aI ?_;by_cases d1:id<0\/due<0
 ·grind
 rw [if_neg (by simp;omega)];have hid:0<=id:=by omega
 have b5:0<=due:=by omega
 have core:∀(f:List av) (k:Hp),Mv F h F k->Wh k p f F->(∀x,x∈f↔(x∈g/\x.df≠id))->f.length<=g.length->
   ag none (some p) λp0=>aQ none al k (Addr.add p0 0) λx=>
   aZ prog Ko [x.v,(.agg #[(.int .i64 due),(.int .i64 id)]),(.func (.func 134) #[] #[])] (ae .i64) bu (λr1 r2 M=>
    ag none (some p) λp1=>aQ none al M (Addr.add p1 0) λx1=>
    bq [(.int .i64 due),(.int .i64 id)] (λa l=>
    (((aT l (Addr.add p1 0) [x1.v])/\True)/\aa prog Nl [x1.v,(.int .i64 r1),(.slice (some a) 1 1)] al (λr3 D=>
    ag none (some p) λp2=>cq D (Addr.add p2 0) [r3.v] (λr=>
    ag none (some p) λp3=>aQ none dI r (Addr.add p3 1) λx2=>
    yu (.int .i64) x2 (.int .i64 id) (.agg #[(.int .i64 due),(.int .i64 id)]) (λh6=>Q 0 h6) r)) l)) M) k:=by
  intro f k mk wk b7 c8;obtain ⟨b,m,sl,G,S,rfl,rfl,H,O,k5,k6,k7,k8,k9,d3,b0⟩:=wk;refine aK (sQ H (sh:=al) sl rfl ?_);have hE:(⟨due,id⟩:av)∉f:=λhm=>((b7 _).1 hm).2 rfl;refine YL (x:=sl) (target:=⟨due,id⟩) (cmp:=⟨Hn, #[], #[]⟩) (Vs (O.rw λ_=>rfl) (by omega) b0 λi _ M T E c0 b8=> ?_);refine aK (sQ (H.le T) (sh:=al) sl rfl ?_);refine zf (xs:=[(⟨due,id⟩:av)]) (enc:=eE) (sz:=2) rfl (λ_=>rfl) λC l b4 l3 m3 o3=> ?_;have A:=Hp.le_trans T l3;refine ⟨⟨?_,trivial⟩,?_⟩
  ·obtain ⟨y,hy,c3⟩:=sQ (H.le A) (sh:=al) sl (j:=0) rfl (K:=λy=>y=sl) rfl;subst c3;exact hy
  have hG:∀c∈G,c≠C:=λc d e=>by have:=O.known c d;rw [e] at this;exact this (uK T b4)
  have o4:cT l 2 eE sl f G:=by refine O.mv (Mv.of_le [] A) λc _=>by simp
  have kv:∃X,fH l C X:=by obtain ⟨_,_,d4⟩:=o3;grind
  obtain ⟨X,kv⟩:=kv;have b9:∀(J:Sl->Hp->Prop),(∀z u B,cT u 2 eE z (f.take i++⟨due,id⟩::f.drop i) B->Mv G l B u->J z u)->WN prog sl (i:Int) ⟨some ⟨C,0,none⟩,1,1⟩ J l:=by
   intro J hQ;obtain ⟨ti,e1,_⟩:=bK.info 205 rF rfl;exact Px (P:=prog) (h:=l) (sz:=2) (enc:=eE) (bytes:=16) (tS:=207) (tR:=4) (tE:=205) (zero:=[.int .i64 0,.int .i64 0]) (R:=λy K h=>bx prog WV [y.v,.int .i64 1] K h) (i:=i) (Q:=J)
    (bK.bE 207 uh rfl) e1 (λ_=>rfl) (by omega) (λ_=>rfl) rfl (λn=>by
     induction n with
     | zero=>rfl
     | succ n ih=>exact ih) o4 (o3.rw λ_=>rfl) rfl kv (λd=>hG C d rfl) E (by omega) hQ
  refine YN (s:=sl) (i:=(i:Int)) (v:=⟨some ⟨C,0,none⟩,1,1⟩) (b9 _ λz D t o5 I=> ?_);have c5:fH D b [sl.v,.map (some m)]:=(H.le A).mv I k6;have b3:b∉t:=λd=>by
   rcases I.from_ b d with q | q
   ·exact k6 q
   ·exact (H.le A).known q
  have b2:fe l m .i64 aO.enc S:=k5.mv (Mv.of_le [] A) (by simp);have c1:m∉t:=λd=>by
   rcases I.from_ m d with q | q
   ·exact k8 q
   ·exact b2.known q
  refine aK ?_;refine yv (b:=b) (off:=0) c5 (by simp) λr U c4=> ?_;have b1:fH r b [z.v,.map (some m)]:=by simpa using c4
  refine aK (sQ b1 (sh:=dI) (some m) rfl ?_);have c6:fe r m .i64 aO.enc S:=(b2.mv I k8).mv U (by grind);have o6:cT r 2 eE z (f.take i++⟨due,id⟩::f.drop i) t:=o5.mv U (λc d=>by grind);refine HM (v:=(⟨due,id⟩:av)) c6 λo ho c7=> ?_;have N:Mv [m] r [m] (r.set m o):=Mv.set;have d0:∀x,x∈f.take i++(⟨due,id⟩:av)::f.drop i↔x=⟨due,id⟩\/x∈f:=by
   intro x;constructor
   ·grind
   ·rintro (rfl | hx)
    ·simp
    ·rw [<-List.take_append_drop i f] at hx;grind
  refine h1 hid b5 _ (b::m::t) _ ?_ ⟨b,m,z,t,jM id ⟨due,id⟩ S,rfl,rfl,b1.mv N (by simp;exact k7),o6.mv N (λc d=>by grind),c7,b3,k7,c1,G6 id _ k9,?_,?_⟩ ?_ ?_
  ·have V:Mv (b::m::G) h (b::m::G) l:=mk.trans (Mv.of_le _ A);have W:Mv (b::m::G) l (b::m::t) D:=I.sub (λc d=>by simp [d]) λc d=>by grind
   have q3:Mv (b::m::t) D (b::m::t) r:=U.sub (λc d=>by grind) λc d=>.inr (.inl d);have q4:Mv (b::m::t) r (b::m::t) (r.set m o):=N.sub (λc d=>by grind) λc d=>.inr (.inl d);exact V.trans (W.trans (q3.trans q4))
  ·intro d2 Y;rw [wC];grind
  ·refine T8 b0 c0 λx hx=>Oj (b8 x hx) λe=> ?_;grind
  ·grind
  ·simp;omega
 refine F8 (Ae w hl (λhn=> ?_) λi e u E b6 m' w'=> ?_)
 ·exact core g h (Mv.refl _ _) w (λx=>⟨λhx=>⟨hx,hn x hx⟩,λhx=>hx.1⟩) (Nat.le_refl _)
 ·have c9:=(List.getElem?_eq_some_iff.1 E).1;refine core _ u m' w' (λx=> ?_) (by simp;omega);have hd:g.drop i=e::g.drop (i+1):=by obtain ⟨V,W⟩:=List.getElem?_eq_some_iff.1 E;rw [List.drop_eq_getElem_cons V,W]
  have c2:g=g.take i++e::g.drop (i+1):=by rw [<-hd,List.take_append_drop]
  have Z:=U1 w.sorted;rw [c2] at Z;have a8:=List.nodup_append.1 Z;constructor
  ·intro hx;have a9:x∈g:=by
    rcases List.mem_append.1 hx with hx | hx
    ·exact List.mem_of_mem_take hx
    ·exact List.mem_of_mem_drop hx
   refine ⟨a9,λY=> ?_⟩;have:x=e:=w.ids a9 (List.mem_of_getElem? E) (Y.trans b6.symm);subst this;rcases List.mem_append.1 hx with hx | hx
   ·exact a8.2.2 x hx x (List.mem_cons_self ..) rfl
   ·exact (List.nodup_cons.1 a8.2.1).1 hx
  grind
abbrev Dj :Int->List Value:=λx=>aY ((ae .i64).enc x)
set_option maxHeartbeats 1000000 in
theorem MO {p:Addr} {f:List av} {F:List Nat} {n:Int} {Q:Sl->Hp->Prop} {h:Hp} (w:Wh h p f F) (hl:f.length<=4398046511104)
  (O:∀out h' done rest G F',f=done++rest->(∀x∈done,x.due<=n)->(∀x r,rest=x::r->n<x.due)->cT h' 1 Dj out (done.map (·.df)) G->Wh h' p rest F'->(∀c∈G,c∉F')->Mv F h (F'++G) h'->Q out h'):
  KM prog (some p) n Q h:=by
 unfold KM;refine ay.intro (λout k=>∃done rest G F',f=done++rest/\(∀x∈done,x.due<=n)/\cT k 1 Dj out (done.map (·.df)) G/\Wh k p rest F'/\(∀c∈G,c∉F')/\Mv F h (F'++G) k) (λout _=>f.length-out.len)
  ⟨[],f,[],F,rfl,by simp,⟨rfl,Nat.le_refl _,.inl ⟨rfl,rfl,rfl⟩⟩,w,by simp,by simpa using Mv.refl F h⟩ ?_
 rintro out k ⟨done,rest,G,F',hsp,hdn,ho,wk,hdis,hm⟩;have b2:=ho.1;have s:=wk;obtain ⟨b,m,sl,a,b8,rfl,rfl,z,I,h5,h6⟩:=wk;have M:=I.1;refine aK (sQ z (sh:=al) sl rfl ?_);have rs:Rw k 2 eE sl rest:=I.rw λ_=>rfl;refine ⟨_,λ_=>rfl,?_⟩;refine Om z (sh:=al) sl rfl ?_;refine rs.LQ (λ_=>rfl) (by omega) (sh:=ae .i64) (λx=>x.due) (j:=0) (λ_=>rfl) (0:Int) (λhc=>by simp at hc;omega) λ(y:Int) hy=> ?_;refine aI ?_;cases rest with
 | nil=>
  have T:sl.len=0:=by simpa using M
  rw [if_neg (by simp [T])];exact O out k done [] G _ hsp hdn (λx r e=>by cases e) ho s hdis hm
 | cons e r=>
  simp at M;have N:decide ((sl.len:Int)>0)=true:=by simp;omega
  obtain ⟨x,hx,b4⟩:=hy N;have Y:e=x:=by simpa using hx
  subst Y;subst b4;rw [N,Bool.true_and];by_cases B:e.due<=n
  ·rw [if_pos (by simpa using B)];refine aK (sQ z (sh:=al) sl rfl ?_);refine rs.vc (λ_=>rfl) (by omega) (sh:=ae .i64) (λx=>x.df) (j:=1) (λ_=>rfl) (by omega) (by simp<;>omega) λx' b3=> ?_;have:e=x':=by simpa using b3
   subst this;have b7:done.length+(r.length+1)=f.length:=by rw [hsp];simp
   refine zf (xs:=[e.df]) (enc:=Dj) (sz:=1) rfl (λ_=>rfl) λS g U C m1 o1=> ?_;have b6:∀c∈G,c≠S:=λc hc t=>ho.known c hc (by rw [t];exact U);have b1:cT g 1 Dj out (done.map (·.df)) G:=ho.mv (Mv.of_le [] C) (by simp);have E:Wh g ⟨b,0,none⟩ (e::r) (b::m::a):=by
    refine s.same λc hc=> ?_;cases l:k c with
    | none=>exact absurd l (s.known c hc)
    | some o=>exact C c o l
   refine vL b1 (o1.rw λ_=>rfl) (λ_=>rfl) (λ_=>rfl) rfl (by simp;omega) λl' v d R D=> ?_;have H:Wh v ⟨b,0,none⟩ (e::r) (b::m::a):=by
    refine E.same λc hc=> ?_;cases l:g c with
    | none=>exact absurd l (E.known c hc)
    | some o=>exact D.cv c o l λV=>hdis c V hc
   have K:∀c∈d,c∉b::m::a:=λc hc J=>by
    rcases D.from_ c hc with q | q
    ·exact hdis c q J
    ·exact E.known c J q
   refine F8 (Ae H (by simp;omega) (λhn=>absurd rfl (hn e (List.mem_cons_self ..))) λi u A L X P w3=> ?_);have W:u=e:=H.ids (List.mem_of_getElem? L) (List.mem_cons_self ..) X;subst W;have Z:i=0:=by have b0:=U1 H.sorted;obtain ⟨a9,a8⟩:=List.getElem?_eq_some_iff.1 L;have:=(List.getElem_inj (i:=i) (j:=0) (h₀:=a9) (h₁:=by simp) b0).1 (by rw [a8];rfl);exact this
   subst Z;have b5:Wh A ⟨b,0,none⟩ r (b::m::a):=by simpa using w3
   have o3:cT A 1 Dj l' (done.map (·.df)++ [u.df]) d:=R.mv P K;refine ⟨⟨done++ [u],r,d,b::m::a,by rw [hsp];simp,λx hx=> ?_,by simpa using o3,b5,K,?_⟩,?_⟩
   ·rcases List.mem_append.1 hx with hx | hx
    ·exact hdn x hx
    ·rw [List.mem_singleton.1 hx];exact B
   ·have q1:Mv (b::m::a++G) k (b::m::a++G) g:=Mv.of_le _ C;have q2:Mv (b::m::a++G) g (b::m::a++d) v:=D.sub (λc hc=>List.mem_append_right _ hc) λc hc=>by
     rcases List.mem_append.1 hc with hc | hc
     ·exact .inr (.inl (List.mem_append_left _ hc))
     ·exact .inl hc
    have q3:Mv (b::m::a++d) v (b::m::a++d) A:=P.wide d;exact hm.trans (q1.trans (q2.trans q3))
   ·have:=R.1;simp at this b2;omega
  ·rw [if_neg (by simpa using B)];refine O out k done (e::r) G _ hsp hdn (λx r' t=> ?_) ho s hdis hm;cases t;omega
def Cp (p:Addr) (d:List av):dg where
 R k F:=∃B,Wh k p d B/\∀b,F b↔b∈B
 same:=λ⟨B,h,e⟩ f=>⟨B,h.same λc a=>f c ((e c).2 a),e⟩
 known:=λ⟨B,h,e⟩ c a=>h.known c ((e c).1 a)
structure WT (es:List av) (tm:Nat->Int) (n:Nat):Prop where
 low:∀i,0<=tm i
 xR:∀x∈es,0<=x.df/\x.df<n/\0<x.due/\tm x.df.toNat=x.due
 has:∀i:Nat,0<tm i->(⟨tm i,(i:Int)⟩:av)∈es
def qY (p:Addr) (a:Nat->Int) (n:Nat):dg:=.some_ λes:List av=>(Cp p es).star (.fact (WT es a n))
section
variable {h0 k:Hp} {p:Addr} {es:List av} {g:Nat->Int} {n:Nat}
theorem Has.both {A B:dg} {F1 F2:Nat->Prop} (f:h0<=k) (a:A.R k F1) (b:B.R k F2) (d:∀c,F1 c->¬F2 c) (f1:∀c,F1 c->h0 c=none) (f2:∀c,F2 c->h0 c=none):Has h0 (A.star B) k:=
 ⟨f,λc=>F1 c\/F2 c,⟨F1,F2,λ_=>Iff.rfl,d,a,b⟩,λc e=>e.elim (f1 c) (f2 c)⟩
theorem YF {i:Type} {sz:Nat} {enc:i->List Value} {l:Sl} {f:List i} {F:List Nat} (o:cT k sz enc l f F):(dC sz enc l f).R k λb=>b∈F:=by
 obtain ⟨a,d,q⟩:=o;rcases q with ⟨e,m,rfl⟩ | ⟨b,j,e,rfl,hb,s,r⟩
 ·exact ⟨a,d,.inl ⟨e,m,λ_ h=>by cases h⟩⟩
 ·exact ⟨a,d,.inr ⟨b,0,j,e,λc=>List.mem_singleton,hb,by omega,by simpa using r⟩⟩
theorem Has.Kn (o:Has h0 (Cp p es) k):∃B,Wh k p es B/\∀b∈B,h0 b=none:=by obtain ⟨l,F,⟨B,w,e⟩,f⟩:=o;grind
theorem Has.zl {B a:List Nat} {c:Hp} {d:List av} (f:h0<=k) (h:∀b∈B,h0 b=none) (m:Mv B k a c) (w:Wh c p d a):Has h0 (Cp p d) c:=by
 refine ⟨λb o e=>m.cv b o (f b o e) λhb=> ?_,λb=>b∈a,⟨a,w,λb=>Iff.rfl⟩,λb hb=> ?_⟩
 ·grind
 ·rcases m.from_ b hb with h1 | h1
  ·exact h b h1
  ·cases e:h0 b with
   | none=>rfl
   | some o=>rw [f b o e] at h1;cases h1
theorem Has.pk (o:Has h0 (qY p g n) k):∃es,WT es g n/\Has h0 (Cp p es) k:=by obtain ⟨es,o⟩:=Has.ex.1 o;obtain ⟨a,b⟩:=o.iC;grind
theorem Has.mE {k:Hp} (t:WT es g n) (o:Has h0 (Cp p es) k):Has h0 (qY p g n) k:=Has.ex.2 ⟨es,o.eB t⟩
theorem Ca {B:List Nat} (t:WT es g n) (w:Wh k p es B):es.length<=n:=by
 have h:(es.map λx=>x.df.toNat).Nodup:=by
  have m:=w.sorted;have hid:=λx d y f=> @Wh.ids _ _ _ _ w x y d f;clear w;have hp:=t.xR;have j:es.Pairwise λa b=>a.df≠b.df:=by refine m.imp_of_mem λ{a b} c hb i e=> ?_;have:=hid a c b hb e;subst this;unfold j7 at i;omega
  refine List.pairwise_map.2 (j.imp_of_mem λ{a b} c hb l e=>l ?_);have:=hp a c;have:=hp b hb;omega
 have:=Lb n (es.map λx=>x.df.toNat) h λx d=>by obtain ⟨y,f,rfl⟩:=List.mem_map.1 d;have:=t.xR y f;omega
 grind
theorem MP {n:Nat} {Q:Option Addr->Hp->Prop} (d:∀p a,k<=a->Has k (qY p (λ_=>0) n) a->Q (some p) a):K8 prog Q k:=by refine MI λp F a l c w=>d p a l (Has.mE (es:=[]) ⟨λ_=>Int.le_refl _,by simp,λi h=>absurd h (by decide)⟩ ⟨l,λb=>b∈F,⟨F,w,λb=>Iff.rfl⟩,c⟩)
theorem Jc {i:Nat} {Q:Int->Bool->Hp->Prop} (o:Has h0 (qY p g n) k) (f:∀b,Q (g i) b k):KK prog (some p) (i:Int) Q k:=by
 obtain ⟨es,t,o⟩:=o.pk;obtain ⟨B,w,d⟩:=o.Kn;refine MJ w (λc=> ?_) λe a hid=> ?_
 ·have:g i=0:=by
   have:=t.low i;by_cases h:0<g i
   ·exact absurd rfl (c _ (t.has i h))
   ·omega
  grind
 ·have:=(t.xR e a).2.2.2;grind
theorem Af {i:Nat} {Q:Bool->Hp->Prop} (o:Has h0 (qY p g n) k) (G:n<=1000000) (s:∀b c,Has h0 (qY p (cn g i 0) n) c->Q b c):KF prog (some p) (i:Int) Q k:=by
 obtain ⟨es,t,o⟩:=o.pk;obtain ⟨B,w,z⟩:=o.Kn;have F:=Ca t w;refine Ae w (by omega) (λA=> ?_) λj e c f hid m E=> ?_
 ·refine s false k (Has.mE ?_ o);have y:g i=0:=by
   have:=t.low i;by_cases h:0<g i
   ·exact absurd rfl (A _ (t.has i h))
   ·omega
  have:cn g i 0=g:=by rw [<-y];exact xi
  rw [this];exact t
 ·refine s true c (Has.mE ⟨λa=> ?_,λx C=> ?_,λa d=> ?_⟩ (Has.zl o.le z m E))
  ·by_cases h:a=i
   ·subst h;rw [kM];omega
   ·rw [ku h];exact t.low a
  ·have v:x∈es:=by grind
   obtain ⟨a1,a2,a3,a4⟩:=t.xR x v;refine ⟨a1,a2,a3,?_⟩;have r:=w.sorted;have q:=(List.getElem?_eq_some_iff.1 f);obtain ⟨q,l⟩:=q;have H:x.df≠(i:Int):=by
    intro ex;have D:x=e:=w.ids v (List.mem_of_getElem? f) (by rw [ex,hid]);subst D;have u:es=es.take j++x::es.drop (j+1):=by rw [<-l,List.getElem_cons_drop,List.take_append_drop]
    rw [u,List.pairwise_append] at r;rcases List.mem_append.1 C with h | h
    ·have:=r.2.2 x h x (List.mem_cons_self ..);unfold j7 at this;omega
    ·have:=(List.pairwise_cons.1 r.2.1).1 x h;unfold j7 at this;omega
   rw [ku (by omega)];exact a4
  ·by_cases h:a=i
   ·subst h;rw [kM] at d;omega
   ·rw [ku h] at d ⊢;have:=t.has a d;obtain ⟨q,l⟩:=List.getElem?_eq_some_iff.1 f;have u:es=es.take j++e::es.drop (j+1):=by rw [<-l,List.getElem_cons_drop,List.take_append_drop]
    grind
theorem Bg {i:Nat} {due:Int} {Q:Int->Hp->Prop} (o:Has h0 (qY p g n) k) (A:n<=1000000) (y:i<n) (f:0<due) (l:∀b,Has h0 (qY p (cn g i due) n) b->Q 0 b):KL prog (some p) (i:Int) due Q k:=by
 obtain ⟨es,t,o⟩:=o.pk;obtain ⟨B,w,j⟩:=o.Kn;have z:=Ca t w;refine MN w (by omega) (λh=>by omega) λ_ _ u s b m r d _=> ?_;refine l b (Has.mE ⟨λa=> ?_,λx q=> ?_,λa c=> ?_⟩ (Has.zl o.le j m r))
 ·by_cases h:a=i
  ·subst h;rw [kM];omega
  ·rw [ku h];exact t.low a
 ·rcases (d x).1 q with rfl | ⟨e,v⟩
  ·refine ⟨by omega,by grind,f,?_⟩;show cn g i due ((i:Int)).toNat=due;rw [show ((i:Int)).toNat=i by omega];exact kM
  ·obtain ⟨a1,a2,a3,a4⟩:=t.xR x e;refine ⟨a1,a2,a3,?_⟩;rw [ku (by omega)];exact a4
 ·refine (d _).2 ?_;by_cases h:a=i
  ·subst h;left;rw [kM]
  ·right;rw [ku h] at c ⊢;exact ⟨t.has a c,by grind⟩
def nh (g:Nat->Int) (a:Int):Nat->Int:=λi=>if 0<g i/\g i<=a then 0 else g i
theorem MQ {c:Int} {Q:Sl->Hp->Prop} (o:Has h0 (qY p g n) k) (N:n<=1000000)
  (H:∀s j (ids:List Int),(∀x∈ids,0<=x/\x<n)->ids.Nodup->(∀i:Nat,(i:Int)∈ids↔0<g i/\g i<=c)->Has h0 ((qY p (nh g c) n).star (dC 1 dZ s ids)) j->Q s j):KM prog (some p) c Q k:=by
 obtain ⟨es,t,o⟩:=o.pk;obtain ⟨B,w,v⟩:=o.Kn;have M:=Ca t w;refine MO w (by omega) λout j done rest G l hsp hd hr ho w' hdis m=> ?_;have u:=w.sorted;have E:=λx hx y f=> @Wh.ids _ _ _ _ w x y hx f;have O:es.Pairwise λa b=>a.df≠b.df:=by refine u.imp_of_mem λ{a b} d hb F e=> ?_;have:=E a d b hb e;subst this;unfold j7 at F;omega
 have P:∀x∈rest,c<x.due:=by
  cases rest with
  | nil=>simp
  | cons y r=>
   have h1:=hr y r rfl;intro x hx;rcases List.mem_cons.1 hx with rfl | hx
   ·exact h1
   ·rw [hsp,List.pairwise_append] at u;have:=(List.pairwise_cons.1 u.2.1).1 x hx;unfold j7 at this;omega
 have D:∀x∈es,(x∈done↔x.due<=c):=by grind
 have A:∀x∈done,x∈es:=λx hx=>by grind
 have I:∀x∈rest,x∈es:=λx hx=>by grind
 refine H out j (done.map (·.df)) (λx hx=> ?_) ?_ (λi=>⟨λq=> ?_,λq=> ?_⟩) ?_
 ·obtain ⟨y,f,rfl⟩:=List.mem_map.1 hx;have:=t.xR y (A y f);omega
 ·grind
 ·obtain ⟨y,f,e⟩:=List.mem_map.1 q;obtain ⟨_,_,a3,a4⟩:=t.xR y (A y f);grind
 ·exact List.mem_map.2 ⟨_,(D _ (t.has i q.1)).2 q.2,rfl⟩
 ·have J:Has h0 (Cp p rest) j:=by refine Has.zl o.le v ⟨λb L e hb=>m.cv b L e hb,λb hb=>m.from_ b (List.mem_append_left _ hb)⟩ w'
  have K:WT rest (nh g c) n:=by
   refine ⟨λa=> ?_,λx hx=> ?_,λa d=> ?_⟩
   ·unfold nh;split
    ·omega
    ·exact t.low a
   ·obtain ⟨a1,a2,a3,a4⟩:=t.xR x (I x hx);refine ⟨a1,a2,a3,?_⟩;unfold nh;grind
   ·unfold nh at d ⊢;by_cases h:0<g a/\g a<=c
    ·omega
    ·rw [if_neg h] at d ⊢;have h1:=t.has a d;grind
  have z:∀b∈l++G,h0 b=none:=λb hb=>by
   rcases m.from_ b hb with h1 | h1
   ·exact v b h1
   ·cases e:h0 b with
    | none=>rfl
    | some x=>rw [o.le b x e] at h1;cases h1
  refine Has.both J.le (F1:=λb=>b∈l) (F2:=λb=>b∈G) ⟨rest,λb=>b∈l,λ_=>False,λb=>by simp,λb _ h=>h,⟨l,w',λb=>Iff.rfl⟩,K,λ_ h=>h⟩ (YF ho) (λb h1 C=>hdis b C h1) (λb hb=>z b (List.mem_append_left _ hb)) λb hb=>z b (List.mem_append_right _ hb)
end
abbrev f64 :FloatKind:=.f64
def rC (b c:Int):Int:=if c=0 then 0 else if c= -1 then yw ((0:Int)-b) else yw (Int.tdiv b c)
def sb (b:Bool):Int:=if b then 1 else 0
def vK (op b c:Int):Int:=
 if op=3 then yw (b+c)
 else if op=4 then yw (b-c)
 else if op=5 then yw (b*c)
 else if op=6 then rC b c
 else if op=7 then yw (b-yw (rC b c*c))
 else if op=8 then de .and .i64 b c
 else if op=9 then de .or .i64 b c
 else if op=10 then de .xor .i64 b c
 else if op=11 then (if c<0 then b else v8 .i64 b (IntKind.wrap .u64 c))
 else if op=12 then (if c<0 then b else fW .i64 b (IntKind.wrap .u64 c))
 else if op=13 then sb (decide (b<c))
 else if op=14 then sb (decide (b=c))
 else 0
def Dv :Int:=9221120237041090560
def isNaN (f:Nat):Bool:=f64.format.order f f !=some .eq
def nY (f:Nat):Int:=if isNaN f then Dv else yw (f:Int)
def ua :Option Nat->Int
 | some r=>nY r
 | none=>Dv
def qA (b:Int):Nat:=(IntKind.wrap .u64 b).toNat
def Cb (f:Nat):Int:=
 if isNaN f then 0
 else if f64.format.order f 4890909195324358656=some .gt\/f64.format.order f 4890909195324358656=some .eq then 9223372036854775807
 else if f64.format.order f 14114281232179134464=some .lt then -9223372036854775808
 else ((f64.decode f).toInt .zero).getD 0
def tC (op b c:Int):Int:=
 if op=15 then ua (f64.format.add (qA b) (qA c))
 else if op=16 then ua (f64.format.sub (qA b) (qA c))
 else if op=17 then ua (f64.format.mul (qA b) (qA c))
 else if op=18 then ua (f64.format.div (qA b) (qA c))
 else if op=19 then sb (f64.format.order (qA b) (qA c)==some .lt)
 else if op=20 then nY (f64.nearest b)
 else if op=21 then Cb (qA b)
 else 0
def fS (op b c:Int):Int:=if 3<=op/\op<=14 then vK op b c else tC op b c
section
variable {P:Program} {h:Hp}
theorem Gt {b c:Int} {Q:Int->Hp->Prop} (a:Q (rC b c) h):Th prog b c Q h:=by
 unfold Th;unfold rC at a;by_cases d:c=0
 ·rw [if_pos (by simp [d])];rw [if_pos d] at a;exact a
 ·rw [if_neg (by simp [d])];rw [if_neg d] at a;by_cases e:c= -1
  ·rw [if_pos (by simp [e])];rw [if_pos e] at a;exact a
  ·rw [if_neg (by simp [e])];rw [if_neg e] at a;exact ⟨d,a⟩
theorem FZ (c:Int):(0:Int)<=IntKind.wrap .u64 c:=by
 (try unfold yw);unfold IntKind.wrap
 simp only [IntKind.signed,IntKind.bits];simp;omega
theorem FT {b:Bool} {Q:Int->Hp->Prop} (a:Q (sb b) h):Ap prog b Q h:=by unfold Ap;unfold sb at a;cases b<;>simpa using a
theorem MR {op b c:Int} {Q:Int->Int->Hp->Prop} (a:3<=op/\op<=14->Q (vK op b c) 0 h) (t:¬(3<=op/\op<=14)->Q 0 9 h):AZ prog op b c Q h:=by
 have case:∀n:Int,(op==n)=decide (op=n):=λn=>by by_cases e:op=n<;>simp [e]
 unfold AZ;unfold vK at a;simp only [case];by_cases l:op=3
 ·subst l;simpa using a
 by_cases m:op=4
 ·subst m;simpa using a
 by_cases o:op=5
 ·subst o;simpa using a
 by_cases p:op=6
 ·subst p;simp only [decide_true,if_true];simp at a ⊢;exact XZ (Gt a)
 by_cases q:op=7
 ·subst q;simp at a ⊢;exact XZ (Gt a)
 by_cases r:op=8
 ·subst r;simpa using a
 by_cases s:op=9
 ·subst s;simpa using a
 by_cases f:op=10
 ·subst f;simpa using a
 by_cases g:op=11
 ·subst g;simp at a ⊢;refine Q6 ?_;unfold GJ;by_cases d:c<0
  ·rw [if_pos (by simpa using d)];rw [if_pos d] at a;exact a
  ·rw [if_neg (by simpa using d)];rw [if_neg d] at a;exact ⟨FZ c,a⟩
 by_cases i:op=12
 ·subst i;simp at a ⊢;refine Qi ?_;unfold Ge;by_cases d:c<0
  ·rw [if_pos (by simpa using d)];rw [if_pos d] at a;exact a
  ·rw [if_neg (by simpa using d)];rw [if_neg d] at a;exact ⟨FZ c,a⟩
 by_cases j:op=13
 ·subst j;simp at a ⊢;exact FU (FT a)
 by_cases k:op=14
 ·subst k;have e:(b==c)=decide (b=c):=by by_cases e:b=c<;>simp [e]
  simp at a ⊢;rw [e];exact FU (FT a)
 simp only [l,m,o,p,q,r,s,f,g,i,j,k,decide_false,if_false,Bool.false_eq_true];exact t (by omega)
theorem Oo (x y t:Nat):isNaN ((Question.nanBits .f64 x y).cut t)=true:=by
 have key:∀s z:Nat,s<2->z<2^52-1->isNaN (s*2^63+0x7ff0000000000000+1+z)=true:=by
  intro s z e f;have c:(s*2^63+0x7ff0000000000000+1+z)%Ieee.double.signWeight=0x7ff0000000000000+1+z:=by show (s*2^63+0x7ff0000000000000+1+z)%9223372036854775808=_;omega
  have d:Ieee.double.read (s*2^63+0x7ff0000000000000+1+z)=.nan ((s*2^63+0x7ff0000000000000+1+z) / Ieee.double.signWeight%2==1) (1+z):=by unfold Ieee.Format.read;rw [c];have a:Ieee.double.binade=4503599627370496:=rfl;have b:Ieee.double.infRung=9218868437227405312:=rfl;dsimp only;rw [a,b,if_neg (by omega),if_neg (by omega),if_neg (by omega),show 0x7ff0000000000000+1+z-9218868437227405312=1+z by omega]
  unfold isNaN;show ((Ieee.double.read _).order (Ieee.double.read _) !=some .eq)=true;rw [d];rfl
 have:=key (t%2) ((t / 2)%(2^52-1)) (by omega) (Nat.mod_lt _ (by decide));exact this
end
section
variable {P:Program} {h:Hp}
theorem Oq {P:Program} {s:Sem Value} {sh:Shape} {K:sh.T->Hp->Prop} {h:Hp} (b:bF P s (λv a=>∃x,v=sh.enc x/\K x a) h):jw P s sh K h:=b
theorem Lp {op : BinOp} {t : Nat} {x y : Operand} {a b : Nat} {r : Option Nat} {K : Nat -> Hp -> Prop} (d : cW op t x y (.float .f64 a) (.float .f64 b) = (match r with
      | some r=>Sem.pure (Value.float .f64 r)
      | none=>Sem.bind (choose (.nanBits .f64 a b)) λn=>Sem.pure (Value.float .f64 n)))
  (c:∀f,(∀v,r=some v->f=v)->(r=none->isNaN f=true)->K f h):jw P (cW op t x y (.float .f64 a) (.float .f64 b)) (iS .f64) K h:=by
 refine Oq ?_;rw [d];cases r with
 | some r=>exact ⟨r,rfl,c r (λv e=>(Option.some.inj e)) λe=>by cases e⟩
 | none=>intro n;exact ⟨_,rfl,c _ (λv e=>by cases e) λ_=>Oo a b n⟩
theorem Ot {t : Nat} {x y : Operand} {a b : Nat} : cW .add t x y (.float .f64 a) (.float .f64 b) = (match f64.format.add a b with
      | some r=>Sem.pure (Value.float .f64 r)
      | none=>Sem.bind (choose (.nanBits .f64 a b)) λn=>Sem.pure (Value.float .f64 n)):=by
 cases e:f64.format.add a b<;>(show Op.floatArith .add .f64 a b=_;unfold Op.floatArith;simp only [pure,bind,Sem.bind,e])
theorem Ov {t : Nat} {x y : Operand} {a b : Nat} : cW .sub t x y (.float .f64 a) (.float .f64 b) = (match f64.format.sub a b with
      | some r=>Sem.pure (Value.float .f64 r)
      | none=>Sem.bind (choose (.nanBits .f64 a b)) λn=>Sem.pure (Value.float .f64 n)):=by
 cases e:f64.format.sub a b<;>(show Op.floatArith .sub .f64 a b=_;unfold Op.floatArith;simp only [pure,bind,Sem.bind,e])
theorem Ow {t : Nat} {x y : Operand} {a b : Nat} : cW .mul t x y (.float .f64 a) (.float .f64 b) = (match f64.format.mul a b with
      | some r=>Sem.pure (Value.float .f64 r)
      | none=>Sem.bind (choose (.nanBits .f64 a b)) λn=>Sem.pure (Value.float .f64 n)):=by
 cases e:f64.format.mul a b<;>(show Op.floatArith .mul .f64 a b=_;unfold Op.floatArith;simp only [pure,bind,Sem.bind,e])
theorem Ox {t : Nat} {x y : Operand} {a b : Nat} : cW .quo t x y (.float .f64 a) (.float .f64 b) = (match f64.format.div a b with
      | some r=>Sem.pure (Value.float .f64 r)
      | none=>Sem.bind (choose (.nanBits .f64 a b)) λn=>Sem.pure (Value.float .f64 n)):=by
 cases e:f64.format.div a b<;>(show Op.floatArith .quo .f64 a b=_;unfold Op.floatArith;simp only [pure,bind,Sem.bind,e])
theorem JM {s:Sem Value} {sh:Shape} {v:sh.T} {K:sh.T->Prop} (a:s=Sem.pure (sh.enc v)) (b:K v):iz none P s sh h K:=by refine ⟨v,Ub ?_,b⟩;rw [a];exact ⟨rfl,rfl⟩
theorem Je {b:Int} {Q:Nat->Hp->Prop} (a:Q (qA b) h):VV prog b Q h:=by unfold VV;exact ⟨_,rfl,a⟩
theorem uI {f:Nat} {Q:Int->Hp->Prop} (a:Q (nY f) h):zW prog f Q h:=by
 unfold zW;refine JM (sh:=bu) (v:=isNaN f) rfl ?_;unfold nY at a;by_cases e:isNaN f=true
 ·rw [if_pos e];rw [if_pos e] at a;exact a
 ·rw [if_neg e];rw [if_neg e] at a;exact ⟨(f:Int),rfl,a⟩
theorem MT {s:Bool} {n d:Nat}:Ieee.Toward.zero.cut s n d*2^d<=n:=by
 unfold Ieee.Toward.cut;simp only [Bool.toNat_false,Nat.add_zero,Nat.shiftLeft_eq,Nat.one_mul];by_cases a:d<=n.log2+2
 ·rw [Nat.min_eq_left a];exact Nat.div_mul_le_self n (2^d)
 ·rw [Nat.min_eq_right (by omega)];have:n<2^(n.log2+2):=by
   by_cases b:n=0
   ·grind
   ·have:=Nat.lt_log2_self (n:=n);grind
  rw [Nat.div_eq_of_lt this,Nat.zero_mul];omega
theorem uJ (m i:Nat):m<<<i=m*2^i:=Nat.shiftLeft_eq m i
theorem MV {s:Bool} {m:Nat} {i:Int} (a:Ieee.Datum.order (.number s m i) (.number false 4503599627370496 11)=some .lt) (b:Ieee.Datum.order (.number s m i) (.number true 4503599627370496 11)≠some .lt):
  ∃n,(Ieee.Datum.number s m i).toInt .zero=some n/\ -9223372036854775808<=n/\n<=9223372036854775807:=by
 refine ⟨_,rfl,?_⟩;have a:compare (Ieee.signed s m (i-min i 11).toNat) (Ieee.signed false 4503599627370496 (11-min i 11).toNat)=.lt:=Option.some.inj a;have b:compare (Ieee.signed s m (i-min i 11).toNat) (Ieee.signed true 4503599627370496 (11-min i 11).toNat)≠ .lt:=λe=>b (congrArg some e);rw [Int.compare_eq_lt] at a;rw [ne_eq,Int.compare_eq_lt] at b;have g:=MT (s:=s) (n:=m<<<i.toNat) (d:=(-i).toNat);generalize y:Ieee.Toward.zero.cut s (m<<<i.toNat) (-i).toNat=w at g;have o:Ieee.signed s w 0=if s then -(w:Int) else (w:Int):=by unfold Ieee.signed;simp
 show -9223372036854775808<=Ieee.signed s w 0/\Ieee.signed s w 0<=9223372036854775807;rw [o];have key:∃C B:Nat,0<C/\0<B/\w*B<=(m<<<(i-min i 11).toNat)*C/\(4503599627370496<<<(11-min i 11).toNat)*C=9223372036854775808*B:=by
  by_cases x:i<=11
  ·have j:min i 11=i:=by omega
   rw [j,Int.sub_self];by_cases u:0<=i
   ·refine ⟨2^i.toNat,1,Nat.two_pow_pos _,by decide,?_,?_⟩
    ·have k:(-i).toNat=0:=by omega
     rw [k,Nat.pow_zero,uJ] at g;grind
    ·rw [uJ,Nat.mul_assoc,<-Nat.pow_add,show (11-i).toNat+i.toNat=11 by omega]
   ·refine ⟨1,2^(-i).toNat,by decide,Nat.two_pow_pos _,?_,?_⟩
    ·grind
    ·rw [uJ,Nat.mul_one,show (11-i).toNat=11+(-i).toNat by omega,Nat.pow_add,<-Nat.mul_assoc]
  ·have j:min i 11=11:=by omega
   rw [j];refine ⟨2^11,1,by decide,by decide,?_,by decide⟩;have k:(-i).toNat=0:=by omega
   rw [k,Nat.pow_zero,uJ] at g;rw [uJ,Nat.mul_assoc,<-Nat.pow_add,show (i-11).toNat+11=i.toNat by omega];exact g
 obtain ⟨C,B,q,p,z,v⟩:=key;generalize r:m<<<(i-min i 11).toNat=c at*;generalize l:4503599627370496<<<(11-min i 11).toNat=f at*;have s1:Ieee.signed s m (i-min i 11).toNat=if s then -(c:Int) else (c:Int):=by unfold Ieee.signed;rw [r]
 have s2:Ieee.signed false 4503599627370496 (11-min i 11).toNat=(f:Int):=by unfold Ieee.signed;rw [l];rfl
 have t:Ieee.signed true 4503599627370496 (11-min i 11).toNat= -(f:Int):=by unfold Ieee.signed;rw [l];rfl
 rw [s1,s2] at a;rw [s1,t] at b;cases s with
 | false=>
  simp only [Bool.false_eq_true,if_false] at a ⊢;have a:c<f:=by omega
  have:c*C<f*C:=Nat.mul_lt_mul_of_pos_right a q;have:w*B<9223372036854775808*B:=by omega
  have:=Nat.lt_of_mul_lt_mul_right this;omega
 | true=>
  simp only [if_true] at b ⊢;have b:c<=f:=by omega
  have:c*C<=f*C:=Nat.mul_le_mul_right C b;have:w*B<=9223372036854775808*B:=by omega
  have:=Nat.le_of_mul_le_mul_right this p;omega
theorem Oy {b:Nat} {n:Int} (a:(f64.decode b).toInt .zero=some n) (c:IntKind.min .i64<=n/\n<=IntKind.max .i64):iK prog (convert 322 2 (.float .f64 b)) h (.int .i64 n):=by refine US λw=> ?_;have d:=au (e:=uj) bK (t:=322) rfl w;have f:=au (e:=vf) bK (t:=2) rfl w;simp only [convert,Sem.run_bind,d,f,Result.andThen_ok];show (Conv.floatToInt .f64 b .i64).run prog w=_;unfold Conv.floatToInt;rw [a];dsimp only;rw [if_pos c];rfl
theorem OA {b:Int}:iK prog (convert 2 322 (.int .i64 b)) h (.float .f64 (f64.nearest b)):=by refine US λw=> ?_;have a:=au (e:=uj) bK (t:=322) rfl w;have c:=au (e:=vf) bK (t:=2) rfl w;simp only [convert,Sem.run_bind,a,c,Result.andThen_ok];rfl
theorem OC :f64.format.read 4890909195324358656=.number false 4503599627370496 11:=by decide
theorem OE :f64.format.read 14114281232179134464=.number true 4503599627370496 11:=by decide
theorem Ua {f:Nat} (g:isNaN f=false) (e:¬(f64.format.order f 4890909195324358656=some .gt\/f64.format.order f 4890909195324358656=some .eq)) (j:f64.format.order f 14114281232179134464≠some .lt):
  ∃n,(f64.decode f).toInt .zero=some n/\IntKind.min .i64<=n/\n<=IntKind.max .i64:=by
 have k:f64.format.order f 4890909195324358656=(f64.format.read f).order (.number false 4503599627370496 11):=by show (f64.format.read f).order (f64.format.read _)=_;rw [OC]
 have l:f64.format.order f 14114281232179134464=(f64.format.read f).order (.number true 4503599627370496 11):=by show (f64.format.read f).order (f64.format.read _)=_;rw [OE]
 rw [k] at e;rw [l] at j;unfold isNaN at g;have g:(((f64.format.read f).order (f64.format.read f)) !=some .eq)=false:=g;show ∃n,(f64.format.read f).toInt .zero=some n/\_;generalize f64.format.read f=d at*;cases d with
 | nan a b=>simp [Ieee.Datum.order] at g
 | infinity a=>cases a<;>simp [Ieee.Datum.order] at e j
 | number a m i=>refine MV ?_ j;have e:¬(some (compare _ _)=_\/some (compare _ _)=_):=e;show some (compare _ _)=some .lt;generalize compare (Ieee.signed a m (i-min i 11).toNat) (Ieee.signed false 4503599627370496 (11-min i 11).toNat)=c at*;cases c<;>simp at e ⊢
theorem Vt {f:Nat} {Q:Int->Hp->Prop} (a:Q (Cb f) h):VW prog f Q h:=by
 unfold VW;refine JM (sh:=bu) (v:=isNaN f) rfl ?_;unfold Cb at a;by_cases e:isNaN f=true
 ·rw [if_pos e];rw [if_pos e] at a;exact a
 rw [if_neg e];rw [if_neg e] at a;refine JM (sh:=bu) (v:=f64.format.order f 4890909195324358656==some .gt || f64.format.order f 4890909195324358656==some .eq) rfl ?_;by_cases b:f64.format.order f 4890909195324358656=some .gt\/f64.format.order f 4890909195324358656=some .eq
 ·grind
 rw [if_neg (by simpa using b)];rw [if_neg b] at a;refine JM (sh:=bu) (v:=f64.format.order f 14114281232179134464==some .lt) rfl ?_;by_cases c:f64.format.order f 14114281232179134464=some .lt
 ·grind
 rw [if_neg (by simpa using c)];rw [if_neg c] at a;obtain ⟨n,d,g⟩:=Ua (by simpa using e) b c;rw [d] at a;exact ⟨n,Oy d g,a⟩
theorem xx {o:Option Nat} {f:Nat} (a:∀v,o=some v->f=v) (b:o=none->isNaN f=true):nY f=ua o:=by
 cases o with
 | some v=>rw [a v rfl];rfl
 | none=>unfold nY;rw [if_pos (b rfl)];rfl
theorem MW {op b c:Int} {Q:Int->Int->Hp->Prop} (a:15<=op/\op<=21->Q (tC op b c) 0 h) (q:¬(15<=op/\op<=21)->Q 0 9 h):A0 prog op b c Q h:=by
 have case:∀n:Int,(op==n)=decide (op=n):=λn=>by by_cases e:op=n<;>simp [e]
 unfold A0;refine Yn (Je ?_);refine Yn (Je ?_);unfold tC at a;simp only [case];by_cases i:op=15
 ·subst i;refine Lp Ot λf d g=>HA (uI ?_);rw [xx d g];simpa using a
 by_cases j:op=16
 ·subst j;refine Lp Ov λf d g=>HA (uI ?_);rw [xx d g];simpa using a
 by_cases k:op=17
 ·subst k;refine Lp Ow λf d g=>HA (uI ?_);rw [xx d g];simpa using a
 by_cases l:op=18
 ·subst l;refine Lp Ox λf d g=>HA (uI ?_);rw [xx d g];simpa using a
 by_cases m:op=19
 ·subst m;refine JM (sh:=bu) (v:=f64.format.order (qA b) (qA c)==some .lt) rfl ?_;simp [sb] at a ⊢;by_cases e:f64.format.order (qA b) (qA c)=some .lt
  ·rw [if_pos e];rw [if_pos e] at a;exact a
  ·rw [if_neg e];rw [if_neg e] at a;exact a
 by_cases o:op=20
 ·subst o;refine ⟨f64.nearest b,OA,HA (uI ?_)⟩;simpa using a
 by_cases p:op=21
 ·subst p;refine Qj (Vt ?_);simpa using a
 grind
end
section
variable (c:bg) (fl:Nat->Nat->Bool)
def dt (p:Nat) (x:ak):Option dB:=gD (jj c p) x.pc
def LD (T:Int) (i:Nat) (l:List xG):Prop:=
 l.Pairwise (λa b=>a.tick<=b.tick)/\∀e∈l,0<=e.tick/\e.tick<T/\0<=e.proc/\e.proc.toNat<nQ c/\az c e.proc.toNat=i
structure s8 (T:Int) (i:Nat) (x:dx):Prop where
 cur:0<=x.af/\(0<x.af->x.af<(dS c i).length)
 jy:(x.log.length:Int)<=c.log
 log:LD c T i x.log
 lost:jl x.lost
 kG:jl x.forbidden
 full:0<x.lost->c.log<=x.log.length
 gG:(x.ax.length:Int)=c.ai
 ig:(x.an.length:Int)=c.ai
structure cp (t:Int) (p:Nat) (z:Prop) (x:ak):Prop where
 st:0<=x.state/\x.state<=6
 pc:0<=x.pc/\x.pc<=(jj c p).length
 lF:x.ah.length=nP c+1
 cur:0<=x.af/\x.af<x.ah.length
 mG:0<=x.timer/\x.timer<=t+1099511627776
 mH:0<=x.cx/\x.cx<=t+1099511627776
 np:z\/(0<x.cx↔x.state=4)
 dead:x.state=5\/x.state=6->(z\/x.timer=0)/\x.bN=false
 dK:∀(i:Nat) l,x.ah[i]? =some l->(l.values.length:Int)<=c.lane/\jl l.taken/\jl l.dropped/\(rT l->i<nP c->fl i (az c p)=true)
 recv:x.state=1->(∃n,dt c p x=some n/\n.op=25)/\(∀l∈x.ah,l.values=[])/\x.bN=false
 snd:x.state=2->∃n,dt c p x=some n/\n.op=24
 pe:x.state=3->∃n,dt c p x=some n/\n.op=29
 iT:x.state=4->∃n,dt c p x=some n/\n.op=28
 bf:x.bf.length=8
variable (s:MS) (X Z:Nat->Prop)
def oV (i k:Nat) (z:Int):Prop:=
 0<=z/\z.toNat<nQ c/\az c z.toNat=i/\¬X z.toNat/\(Z z.toNat\/((s.proc z.toNat).state=3/\∃n,dt c z.toNat (s.proc z.toNat)=some n/\n.op=29/\n.lJ=(k:Int)))
def mb (i r:Nat) (w:mu):Prop:=
 0<=w.proc/\w.proc.toNat<nQ c/\az c w.proc.toNat=i/\¬X w.proc.toNat/\
  (Z w.proc.toNat\/((s.proc w.proc.toNat).state=2/\∃n,dt c w.proc.toNat (s.proc w.proc.toNat)=some n/\n.op=24/\eR (s.proc w.proc.toNat).bf n.b=(r:Int)/\eR (s.proc w.proc.toNat).bf n.c=w.value))
structure Good (T:Int):Prop where
 tick:0<=s.tick
 part:∀i,i<nP c->s8 c T i (s.part i)
 proc:∀p,p<nQ c->cp c fl s.tick p (Z p) (s.proc p)
 own:∀i,i<nP c->∀(k:Nat) o,(s.part i).ax[k]? =some o->o= -1\/(0<=o/\o.toNat<nQ c/\az c o.toNat=i/\(j5 (s.proc o.toNat)=true\/Z o.toNat))
 jh:∀i,i<nP c->∀(k:Nat) q,(s.part i).an[k]? =some q->q.Nodup/\(∀z∈q,oV c s X Z i k z)/\(q≠ []->∃o,(s.part i).ax[k]? =some o/\o≠ -1/\o∉q)
 dK:∀r,r<nQ c->∀(i:Nat) l,(s.proc r).ah[i]? =some l->(l.waiters.map (·.proc)).Nodup/\(l.waiters≠ []->i=az c r/\(j5 (s.proc r)=true\/Z r)/\(l.values.length:Int)=c.lane)/\∀w∈l.waiters,mb c s X Z i r w
 qM:∀p,p<nQ c->¬X p->(s.proc p).state=3->∃(k:Nat) (q:List Int),(s.part (az c p)).an[k]? =some q/\(p:Int)∈q
 qL:∀p,p<nQ c->¬X p->(s.proc p).state=2->∃r,r<nQ c/\∃l,(s.proc r).ah[az c p]? =some l/\∃w∈l.waiters,w.proc=(p:Int)
end
structure cc (c:bg):Prop where
 parts:1<=nP c/\nP c<=8
 table:c.table≠ []/\c.table.length<=64/\∀i∈c.table,0<=i/\i<(nP c:Int)
 fuel:1<=c.fuel/\c.fuel<=256
 lane:1<=c.lane/\c.lane<=64
 ai:0<=c.ai/\c.ai<=8
 log:0<=c.log/\c.log<=4096
 procs:1<=nQ c/\nQ c<=32
 part:∀y∈c.procs,0<=y.part/\y.part<(nP c:Int)
 code:∀y∈c.procs,y.code.length<=256/\∀x∈y.code,(lz x y.code.length c.ai).1=0
section
variable {c:bg} {fl:Nat->Nat->Bool} {s:MS} {X Z:Nat->Prop} {T:Int}
theorem cc.eJ (m:cc c) {p:Nat}:az c p<nP c:=by
 unfold az;cases h:c.procs[p]? with
 | none=>simp;have:=m.parts;omega
 | some y=>have:=m.part y (List.mem_of_getElem? h);simp;omega
theorem cc.pI (m:cc c) {p:Nat}:(jj c p).length<=256:=by
 unfold jj;cases h:c.procs[p]? with
 | none=>simp
 | some y=>exact (m.code y (List.mem_of_getElem? h)).1
theorem cc.ins (m:cc c) {p:Nat} {x:ak} {n:dB} (h:dt c p x=some n):(lz n (jj c p).length c.ai).1=0/\0<=x.pc/\x.pc<(jj c p).length:=by
 unfold dt gD at h;split at h
 ·rename_i b;have a:=List.mem_of_getElem? h;have d:=(List.getElem?_eq_some_iff.1 h).1;refine ⟨?_,b,by omega⟩;unfold jj at a ⊢;cases e:c.procs[p]? with
  | none=>grind
  | some y=>rw [e] at a;exact (m.code y (List.mem_of_getElem? e)).2 n a
 ·cases h
theorem cQ {x:ak}:j5 x=true↔x.state≠5/\x.state≠6:=by unfold j5;simp
theorem OG {p:Prop} [Decidable p] {e:Int} {i:Int} {r:Int×Int} (a:e≠0) (h:(if p then (e,i) else r).1=0):¬p/\r.1=0:=by grind
theorem OH {has:Bool} {v:Int} {i:Int} {r:Int×Int} (h:(if fk has v≠0 then (fk has v,i) else r).1=0):fk has v=0/\r.1=0:=by grind
theorem BF {v:Int} (h:fk true v=0):0<=v/\v<8:=by unfold fk at h;omega
theorem wj {n:dB} {k l:Int} (h:(lz n k l).1=0):(0<=n.op/\n.op<34)/\fk (jE n.op).1 n.a=0/\fk (jE n.op).2.1 n.b=0/\fk (jE n.op).2.2.1 n.c=0/\
  ((n.op=22\/n.op=23)->0<=n.lJ/\n.lJ<=k)/\((n.op=29\/n.op=30)->0<=n.lJ/\n.lJ<l):=by
 unfold lz at h;obtain ⟨d,h⟩:=OG (by decide) h;obtain ⟨e,h⟩:=OH h;grind
theorem Lq {n:dB} {k l:Int} (h:(lz n k l).1=0) (a:n.op=29\/n.op=30):0<=n.lJ/\n.lJ<l:=(wj h).2.2.2.2.2 a
theorem Uc {n:dB} {k l:Int} (h:(lz n k l).1=0) (g:n.op=24):(0<=n.a/\n.a<8)/\(0<=n.b/\n.b<8)/\(0<=n.c/\n.c<8):=by obtain ⟨_,d,e,f,_⟩:=wj h;rw [g] at d e f;exact ⟨BF d,BF e,BF f⟩
end
def gi (c:aR):List Int:=[c.cC,c.cD,c.cE,c.cF,c.cG,c.cH,c.cI,c.cJ]
def fR (c:aR):Core:=⟨c.PC,gi c⟩
def qX (w:dL):Want:=⟨w.Kind,w.To,w.eN⟩
def rowOf (c:aR):gm:=⟨c.cC,c.cD,c.cE,c.cF,c.cG,c.cH,c.cI,c.cJ⟩
def DI (c:aR):Nat->Int->aR
 | 0,v=>{c with cC:=v}
 | 1,v=>{c with cD:=v}
 | 2,v=>{c with cE:=v}
 | 3,v=>{c with cF:=v}
 | 4,v=>{c with cG:=v}
 | 5,v=>{c with cH:=v}
 | 6,v=>{c with cI:=v}
 | 7,v=>{c with cJ:=v}
 | _,_=>c
section
variable {h0 k:Hp} {p:Addr} {c:aR}
theorem Vu {n:Nat} {v:Int} (a:n<8):fR (DI c n v)=⟨c.PC,(gi c).set n v⟩:=by
 match n,a with
 | 0,_=>rfl
 | 1,_=>rfl
 | 2,_=>rfl
 | 3,_=>rfl
 | 4,_=>rfl
 | 5,_=>rfl
 | 6,_=>rfl
 | 7,_=>rfl
theorem u7 {i:Int} {K:Int->Prop} (h:0<=i/\i<8) (a:K (eR (gi c) i)):
  ((0:Int)<=i/\i<(8:Int))/\∃x:Int,((List.get?Internal [(.int .i64 (rowOf c).a0),(.int .i64 (rowOf c).a1),(.int .i64 (rowOf c).a2),(.int .i64 (rowOf c).a3),(.int .i64 (rowOf c).a4),(.int .i64 (rowOf c).a5),(.int .i64 (rowOf c).a6),(.int .i64 (rowOf c).a7)] (0+((Int.toNat i)*1)))=(some (Value.int .i64 x))/\K x):=by
 refine ⟨h,_,?_,a⟩;unfold eR;have:i.toNat<8:=by omega
 generalize i.toNat=n at*
 match n,this with
 | 0,_=>rfl
 | 1,_=>rfl
 | 2,_=>rfl
 | 3,_=>rfl
 | 4,_=>rfl
 | 5,_=>rfl
 | 6,_=>rfl
 | 7,_=>rfl
theorem yx {a v:Int} {Q:Hp->Prop} (o:Has h0 (dd eo p c) k) (f:∀e b,Has h0 (dd eo p e) b->fR e=⟨c.PC,iD (gi c) a v⟩->Q b):Tg prog (some p) a v Q k:=by
 unfold Tg;refine aI ?_;by_cases h:0<=a/\a<8
 ·rw [if_pos (by simp [h.1,h.2])];refine aK ⟨h,?_⟩;rw [rN,Nat.mul_one];have d:a.toNat<8:=by omega
  refine o.st (DI c a.toNat v) (by show 1+a.toNat+1<=9;omega) ?_ λb g=>f _ b g ?_
  ·generalize a.toNat=n at d
   match n,d with
   | 0,_=>rfl
   | 1,_=>rfl
   | 2,_=>rfl
   | 3,_=>rfl
   | 4,_=>rfl
   | 5,_=>rfl
   | 6,_=>rfl
   | 7,_=>rfl
  ·rw [Vu d];unfold iD;rw [if_pos h]
 ·rw [if_neg (by simp;omega)];refine f c k o ?_;unfold iD;rw [if_neg h];rfl
theorem BG {K:Addr->Hp->Prop} (b:∀p a,k<=a->Has k (dd eo p c) a->K p a):bq [(.int .i64 c.PC),(.int .i64 c.cC),(.int .i64 c.cD),(.int .i64 c.cE),(.int .i64 c.cF),(.int .i64 c.cG),(.int .i64 c.cH),(.int .i64 c.cI),(.int .i64 c.cJ)] K k:=qn (sh:=eo) c rfl b
theorem BU {Q:aR->Hp->Prop} (hp:0<=c.PC/\c.PC<4611686018427387904) (b:∀a,fR a=fj (fR c)->Q a k):zR prog c Q k:=by unfold zR;refine b _ ?_;unfold fR fj gi;dsimp only;rw [aH]
variable {l:Sl} {xs:List bc}
theorem Cc {Q:bc->Bool->Hp->Prop} (r:ny k l xs) (a:∀x:bc,gD (xs.map bA) c.PC=some (bA x)->0<=c.PC->c.PC<(xs.length:Int)->Q x true k) (b:gD (xs.map bA) c.PC=none->Q ⟨0,0,0,0,0⟩ false k):AY prog c l Q k:=by
 unfold AY;refine aI ?_;have d:=r.1;unfold gD at a b;by_cases h:c.PC<0\/(xs.length:Int)<=c.PC
 ·grind
 ·rw [if_neg (by simp;omega)];refine s9 r λx e=>a x ?_ (by omega) (by omega);grind
theorem OJ {x:dB} {n m:Int} (h:(lz x n m).1=0):(0<=x.a/\x.a<8)/\(0<=x.b/\x.b<8)/\(0<=x.c/\x.c<8):=by
 have key:∀ {b:Bool} {v:Int},fk b v=0->0<=v/\v<8:=by
  intro b v h;unfold fk at h;by_cases d:b=false/\v≠0
  ·rw [if_pos d] at h;cases h
  ·rw [if_neg d] at h;by_cases hp:v<0\/8<=v
   ·rw [if_pos hp] at h;cases h
   ·omega
 obtain ⟨_,a,b,c,_⟩:=wj h;grind
theorem Vv {x:bc} {Q:dL->Bool->Bool->Hp->Prop} (q:0<=x.A/\x.A<8) (hb:0<=x.B/\x.B<8) (t:0<=x.C/\x.C<8) (b:kr (bA x) (gi c)=none->Q ⟨0,0,0⟩ false false k)
  (a:∀w st,kr (bA x) (gi c)=some (qX w,st)->Q w st true k):VS prog x (rowOf c) Q k:=by
 have case:∀n:Int,(x.Op==n)=decide (x.Op=n):=λn=>by by_cases e:x.Op=n<;>simp [e]
 unfold VS;unfold kr at b a;simp only [case,decide_eq_true_eq];have s:(bA x).op=x.Op:=rfl;rw [s] at b a;by_cases d:x.Op=0
 ·rw [if_pos d];rw [if_pos d] at a;exact a ⟨1,0,0⟩ true rfl
 rw [if_neg d];rw [if_neg d] at b a;by_cases f:x.Op=24
 ·rw [if_pos f];rw [if_pos f] at a;exact u7 hb (u7 t (a ⟨2,_,_⟩ true rfl))
 rw [if_neg f];rw [if_neg f] at b a;by_cases g:x.Op=25
 ·rw [if_pos g];rw [if_pos g] at a;exact a ⟨3,0,0⟩ true rfl
 rw [if_neg g];rw [if_neg g] at b a;by_cases h:x.Op=26
 ·rw [if_pos h];rw [if_pos h] at a;exact a ⟨4,0,0⟩ true rfl
 rw [if_neg h];rw [if_neg h] at b a;by_cases i:x.Op=27
 ·rw [if_pos i];rw [if_pos i] at a;exact u7 q (a ⟨5,0,_⟩ false rfl)
 rw [if_neg i];rw [if_neg i] at b a;by_cases j:x.Op=28
 ·rw [if_pos j];rw [if_pos j] at a;exact u7 q (a ⟨6,0,_⟩ true rfl)
 rw [if_neg j];rw [if_neg j] at b a;by_cases m:x.Op=29
 ·rw [if_pos m];rw [if_pos m] at a;exact a ⟨7,x.ju,0⟩ true rfl
 rw [if_neg m];rw [if_neg m] at b a;by_cases o:x.Op=30
 ·rw [if_pos o];rw [if_pos o] at a;exact a ⟨8,x.ju,0⟩ false rfl
 rw [if_neg o];rw [if_neg o] at b a;by_cases r:x.Op=31
 ·rw [if_pos r];rw [if_pos r] at a;exact u7 q (a ⟨9,0,_⟩ false rfl)
 grind
theorem MX {v:Int} {Q:aR->Hp->Prop} (r:ny k l xs) (hp:0<=c.PC/\c.PC<4611686018427387904) (j:∀b g,k<=g->fR b=jU (xs.map bA) (fR c) v->Q b g):zV prog c l v Q k:=by
 unfold zV;refine BG λp w u o=> ?_;unfold jU at j;refine bP.intro (λg=>∃b,Has k (dd eo p b) g/\fj (fR b)=(match gD (xs.map bA) (fR c).pc with
  | some n=>⟨(fR c).pc+1,iD (fR c).bf n.a v⟩
  | none=>fj (fR c))) ?_ ?_
 ·refine o.sH (shf:=eo) c rfl ?_;refine V6 (Cc (r.mono u) (λx f _ _=> ?_) λf=> ?_)
  ·rw [if_pos rfl];refine yk (yx o λb m h e=>⟨b,h,?_⟩);have f:gD (xs.map bA) (fR c).pc=some (bA x):=f;rw [f,e];rfl
  ·rw [if_neg (by decide)];have f:gD (xs.map bA) (fR c).pc=none:=f;refine ⟨c,o,?_⟩;rw [f]
 ·rintro m ⟨b,h,e⟩;refine h.sH (shf:=eo) b rfl ?_;have t:b.PC=c.PC:=by
   have d:(fj (fR b)).pc=b.PC+1:=rfl;rw [e] at d;cases i:gD (xs.map bA) (fR c).pc with
   | none=>rw [i] at d;have d:c.PC+1=b.PC+1:=d;omega
   | some n=>rw [i] at d;have d:c.PC+1=b.PC+1:=d;omega
  exact AQ (BU (by rw [t];exact hp) λq s=>j q m h.le (s.trans e))
theorem Bh {v from_:Int} {Q:aR->Hp->Prop} (r:ny k l xs) (hp:0<=c.PC/\c.PC<4611686018427387904) (m:∀d h,k<=h->fR d=gk (xs.map bA) (fR c) v from_->Q d h):zU prog c l v from_ Q k:=by
 unfold zU;refine BG λp E C o=> ?_;unfold gk at m;refine bP.intro (λh=>∃d,Has k (dd eo p d) h/\fj (fR d)=(match gD (xs.map bA) (fR c).pc with
  | some n=>⟨(fR c).pc+1,iD (iD (fR c).bf n.a v) n.b from_⟩
  | none=>fj (fR c))) ?_ ?_
 ·refine o.sH (shf:=eo) c rfl ?_;refine V6 (Cc (r.mono C) (λx g _ _=> ?_) λg=> ?_)
  ·rw [if_pos rfl];refine yk (yx o λd q i e=> ?_);refine yk (yx i λt F D w=>⟨t,D,?_⟩);have g:gD (xs.map bA) (fR c).pc=some (bA x):=g;have y:d.PC=c.PC:=congrArg Core.pc e;have z:gi d=iD (gi c) x.A v:=congrArg Core.bf e;rw [g,w,y,z];rfl
  ·rw [if_neg (by decide)];have g:gD (xs.map bA) (fR c).pc=none:=g;refine ⟨c,o,?_⟩;rw [g]
 ·rintro q ⟨d,i,e⟩;refine i.sH (shf:=eo) d rfl ?_;have B:d.PC=c.PC:=by
   have f:(fj (fR d)).pc=d.PC+1:=rfl;rw [e] at f;cases j:gD (xs.map bA) (fR c).pc with
   | none=>rw [j] at f;have f:c.PC+1=d.PC+1:=f;omega
   | some n=>rw [j] at f;have f:c.PC+1=d.PC+1:=f;omega
  exact AQ (BU (by rw [B];exact hp) λs u=>m s q i.le (u.trans e))
end
section
variable {h0 k:Hp} {p:Addr} {c:aR} {l:Sl} {xs:List bc}
theorem uw {a:aR} {r:List Int} (e:fR a=⟨c.PC,r⟩):fj (fR a)=⟨c.PC+1,r⟩:=by rw [e];rfl
theorem MY {tick self:Int} {Q:aR->dL->Hp->Prop} (r:ny k l xs) (Z:xs.length<1073741824)
  (b:∀d w u,k<=u->fR d=(jr fS (xs.map bA) (fR c) tick self).1->qX w=(jr fS (xs.map bA) (fR c) tick self).2->Q d w u):zS prog c l tick self Q k:=by
 unfold zS;refine BG λp k1 L o=> ?_;refine o.sH (shf:=eo) c rfl ?_;have Y:=r.1;unfold jr at b;refine V6 (Cc (r.mono L) (λx m i0 i1=> ?_) λm=> ?_)
 case _=>
  refine ⟨λ_=> ?_,λe=>(by cases e)⟩;refine Ye (I4 λX R=> ?_);have m:gD (xs.map bA) (fR c).pc=some (bA x):=m;rw [m] at b;dsimp only at b;have T:((xs.map bA).length:Int)=(l.len:Int):=by grind
  rw [T] at b;refine aI ?_;have h:=o.grow R;by_cases q:(lz (bA x) (l.len:Int) 8).1≠0
  ·rw [if_pos q] at b;rw [if_pos (by simp [q])];refine h.sH (shf:=eo) c rfl ?_;exact b c ⟨1,0,0⟩ _ (Hp.le_trans L R) rfl rfl
  ·rw [if_neg q] at b;rw [if_neg (by simpa using q)];have q:(lz (bA x) (l.len:Int) 8).1=0:=by simpa using q
   obtain ⟨y,hb,t⟩:=OJ q;have y:0<=x.A/\x.A<8:=y;have hb:0<=x.B/\x.B<8:=hb;have t:0<=x.C/\x.C<8:=t;have P:0<=c.PC/\c.PC<4611686018427387904:=by omega
   refine h.ld (shf:=vo) (rowOf c) (off:=1) rfl ?_;refine Qh (Vv y hb t (λJ=> ?_) λw st K=> ?_)
   ·rw [if_neg (by decide)];refine h.ld (shf:=vo) (rowOf c) (off:=1) rfl ?_;have J:kr (bA x) (fR c).bf=none:=J;rw [J] at b;dsimp only at b;unfold Cl at b;have S:(bA x).op=x.Op:=rfl;rw [S] at b;have case:∀n:Int,(x.Op==n)=decide (x.Op=n):=λn=>by grind
    simp only [case,decide_eq_true_eq];refine iZ.intro (λ_ _ u=>∃d,Has k (dd eo p d) u/\d.PC=c.PC/\∀g,fR g=fj (fR d)->Q g ⟨0,0,0⟩ u) ?_ ?_
    ·by_cases z:x.Op=1
     ·rw [if_pos z];rw [if_pos z] at b;refine yk (yx h λd s f e=>⟨d,f,congrArg Core.pc e,λg i=>b g _ _ f.le (i.trans (uw e)) rfl⟩)
     rw [if_neg z];rw [if_neg z] at b;by_cases D:x.Op=2
     ·rw [if_pos D];rw [if_pos D] at b;refine u7 hb ?_;refine yk (yx h λd s f e=>⟨d,f,congrArg Core.pc e,λg i=>b g _ _ f.le (i.trans (uw e)) rfl⟩)
     rw [if_neg D];rw [if_neg D] at b;by_cases E:x.Op=32
     ·rw [if_pos E];rw [if_pos E] at b;refine yk (yx h λd s f e=>⟨d,f,congrArg Core.pc e,λg i=>b g _ _ f.le (i.trans (uw e)) rfl⟩)
     rw [if_neg E];rw [if_neg E] at b;by_cases F:x.Op=33
     ·rw [if_pos F];rw [if_pos F] at b;refine yk (yx h λd s f e=>⟨d,f,congrArg Core.pc e,λg i=>b g _ _ f.le (i.trans (uw e)) rfl⟩)
     rw [if_neg F];rw [if_neg F] at b;by_cases G:x.Op=22
     ·rw [if_pos G];rw [if_pos G] at b;refine h.st {c with PC:=x.ju} (by show 0+1<=9;omega) rfl λs f=> ?_;refine f.sH (shf:=eo) {c with PC:=x.ju} rfl ?_;exact b _ _ _ f.le rfl rfl
     rw [if_neg G];rw [if_neg G] at b;by_cases H:x.Op=23
     ·rw [if_pos H];rw [if_pos H] at b;refine u7 y ?_;by_cases j:eR (gi c) x.A=0
      ·rw [if_pos (by simp [j])];have j:eR (fR c).bf (bA x).a=0:=j;rw [if_pos j] at b;exact ⟨c,h,rfl,λg i=>b g _ _ h.le i rfl⟩
      ·rw [if_neg (by simp [j])];have j:¬eR (fR c).bf (bA x).a=0:=j;rw [if_neg j] at b;refine h.st {c with PC:=x.ju} (by show 0+1<=9;omega) rfl λs f=> ?_;refine f.sH (shf:=eo) {c with PC:=x.ju} rfl ?_;exact b _ _ _ f.le rfl rfl
     rw [if_neg H];rw [if_neg H] at b;refine u7 hb (u7 t ?_);have I:fS x.Op (eR (gi c) x.B) (eR (gi c) x.C)=if 3<=x.Op/\x.Op<=14 then vK x.Op (eR (gi c) x.B) (eR (gi c) x.C) else tC x.Op (eR (gi c) x.B) (eR (gi c) x.C):=rfl
     have M:∀v,v=fS x.Op (eR (gi c) x.B) (eR (gi c) x.C)->bx prog uB [(.pointer (some p)),(.int .i64 x.A),(.int .i64 v)] (λO=>∃d,Has k (dd eo p d) O/\d.PC=c.PC/\∀g,fR g=fj (fR d)->Q g ⟨0,0,0⟩ O) X:=by intro v hv;subst hv;exact yk (yx h λd s f e=>⟨d,f,congrArg Core.pc e,λg i=>b g _ _ f.le (i.trans (uw e)) rfl⟩)
     refine SA (MR (λN=> ?_) λN=> ?_)
     ·refine bL.direct ?_;grind
     ·refine bL.direct ?_;rw [if_pos (by decide)];refine u7 hb (u7 t ?_);rw [if_neg N] at I;refine SB (MW (λV=>M _ I.symm) λV=>M _ ?_);rw [I];unfold tC;omega
    ·rintro _ _ s ⟨d,f,U,W⟩;refine f.sH (shf:=eo) d rfl ?_;exact AQ (BU (by rw [U];exact P) λg i=>W g i)
   ·rw [if_pos rfl];have K:kr (bA x) (fR c).bf=some (qX w,st):=K;rw [K] at b;dsimp only at b;cases st with
    | true=>rw [if_pos rfl];refine h.sH (shf:=eo) c rfl ?_;exact ⟨⟨trivial,trivial⟩,b c w _ h.le rfl rfl⟩
    | false=>rw [if_neg (by decide)];refine h.sH (shf:=eo) c rfl ?_;exact AQ (BU P λg i=>⟨⟨trivial,trivial⟩,⟨trivial,trivial⟩,b g w _ h.le i rfl⟩)
 case _=>refine ⟨λe=>(by cases e),λ_=>⟨0,?_⟩⟩;refine aI ?_;rw [if_pos (by decide)];have m:gD (xs.map bA) (fR c).pc=none:=m;rw [m] at b;refine o.sH (shf:=eo) c rfl ?_;exact b c ⟨1,0,0⟩ _ L rfl rfl
end
structure MK where
 c:bg
 x:aL
 t:Addr
 sl:Addr
 pt:List Addr
 pr:List Addr
 own:Nat->Sl
 code:Nat->Sl
 ins:Nat->List bc
def Df (x:aL):aw:=⟨x.fK,x.gT,x.kF,x.mR,x.kU,x.mS,x.eZ⟩
structure dq (h:Hp) (K:MK):Prop where
 iN:(iL K.c).1=0
 za:∀l∈K.c.labels,nx l
 cfg:eu h (Df K.x) K.c
 t1:K.x.table=some K.t
 t2:qG h K.t K.c.labels
 s1:K.x.oh=some K.sl
 s2:∃(s:Sl) (n:Int),aT h K.sl [s.v,.int .i64 n]/\Is h s K.c.table
 Kl:K.pt.length=nP K.c
 pt:Rs h aj 1 K.x.parts (K.pt.map some)
 Kk:K.pr.length=nQ K.c
 pr:Rs h aj 1 K.x.procs (K.pr.map some)
 own:∀i,i<nP K.c->Is h (K.own i) ((dS K.c i).map λ(q:Nat)=>(q:Int))
 code:∀p,p<nQ K.c->ny h (K.code p) (K.ins p)/\(K.ins p).map bA=jj K.c p
 owned:∀p,p<nQ K.c->az K.c p<nP K.c
abbrev Di :xG->List Value:=λe=> [.int .i64 e.tick,.int .i64 e.proc,.int .i64 e.value]
def lT (K:MK) (i:Nat) (x:aV) (lp a:Addr) (y:dx):Prop:=x.procs=K.own i/\x.af=y.af/\x.lost=y.lost/\x.forbidden=y.forbidden/\x.ai=some lp/\x.dz=some a
def nT (K:MK) (i:Nat) (x:aV) (lp b:Addr) (y:dx) (a:Nat->Int):dg:=
 (dd vk (K.pt.getD i a0) x).star ((dC 3 Di x.log y.log).star ((ma lp y.ax y.an).star (qY b a (2*nQ K.c))))
def nS (K:MK) (i:Nat) (y:dx) (b:Nat->Int):dg:=.some_ λx:aV=>.some_ λlp:Addr=>.some_ λa:Addr=>(nT K i x lp a y b).star (.fact (lT K i x lp a y))
def dG (z:aF):aR:=⟨z.jb,z.fu,z.fw,z.fy,z.fz,z.fA,z.fB,z.fC,z.fD⟩
def ff (K:MK) (p:Nat) (z:aF) (q:Addr) (y:ak):Prop:=z.df=(p:Int)/\z.part=(az K.c p:Int)/\z.code=K.code p/\z.state=y.state/\fR (dG z)=y.core/\z.bN=y.bN/\z.post=some q
def q7 (K:MK) (p:Nat) (z:aF) (q:Addr) (y:ak):dg:=(dd aX (K.pr.getD p a0) z).star (dy q K.c.lane y.ah y.af)
def nU (K:MK) (p:Nat) (y:ak):dg:=.some_ λz:aF=>.some_ λq:Addr=>(q7 K p z q y).star (.fact (ff K p z q y))
def qi (x:aL) (t:Int):aL:=⟨x.fK,x.gT,x.kF,x.mR,x.kU,x.mS,x.eZ,x.table,x.oh,t,x.parts,x.procs⟩
def aA (K:MK) (pm:Addr) (s:MS) (a:Nat->Nat->Int):dg:=
 (dd Gh pm (qi K.x s.tick)).star ((dg.first (λi=>nS K i (s.part i) (a i)) (nP K.c)).star (dg.first (λp=>nU K p (s.proc p)) (nQ K.c)))
section
variable {h0 h1 k:Hp} {K:MK} {pm:Addr} {s:MS} {d:Nat->Nat->Int}
theorem dq.mono (m:dq h0 K) (c:h0<=h1):dq h1 K where
 iN:=m.iN
 za:=m.za
 cfg:=m.cfg.mono c
 t1:=m.t1
 t2:=m.t2.mono c
 s1:=m.s1
 s2:=by obtain ⟨s,n,a,b⟩:=m.s2;exact ⟨s,n,om c a,b.mono c⟩
 Kl:=m.Kl
 pt:=m.pt.mono c
 Kk:=m.Kk
 pr:=m.pr.mono c
 own:=λi e=>(m.own i e).mono c
 code:=λp hp=>⟨(m.code p hp).1.mono c,(m.code p hp).2⟩
 owned:=m.owned
theorem Has.ya {p:Nat} (o:Has h0 (aA K pm s d) k) (hp:p<nQ K.c):∃h1 z q,h0<=h1/\ff K p z q (s.proc p)/\Has h1 (q7 K p z q (s.proc p)) k/\
  ∀g a b,ff K p g q a->Has h1 (q7 K p g q a) b->Has h0 (aA K pm (s.aW p a) d) b:=by
 obtain ⟨h1,a1,n,put⟩:=o.f3;obtain ⟨h,a2,f,_,t⟩:=n.one hp;obtain ⟨z,f⟩:=Has.ex.1 f;obtain ⟨q,f⟩:=Has.ex.1 f;obtain ⟨r,i⟩:=f.iC;refine ⟨h,z,q,Hp.le_trans a1 a2,i,r,λg a b l m=>put _ _ ?_⟩;have:=t _ _ (Has.ex.2 ⟨g,Has.ex.2 ⟨q,m.eB l⟩⟩:Has h (nU K p a) b);refine cast (congrArg (λA=>Has h1 A b) (rJ λj u=> ?_)) this;by_cases e:j=p
 ·subst e;rw [kM];show _=nU K j (cn s.proc j a j);rw [kM];rfl
 ·rw [ku e];show _=nU K j (cn s.proc p a j);rw [ku e]
theorem Has.pY {i:Nat} (o:Has h0 (aA K pm s d) k) (n:i<nP K.c):∃h1 x lp b,h0<=h1/\lT K i x lp b (s.part i)/\Has h1 (nT K i x lp b (s.part i) (d i)) k/\
  ∀l f g h,lT K i l lp b f->Has h1 (nT K i l lp b f g) h->Has h0 (aA K pm (s.dU i f) (cn d i g)) h:=by
 obtain ⟨h1,a1,t,put⟩:=o.f2;obtain ⟨m,a2,a,_,v⟩:=t.one n;obtain ⟨x,a⟩:=Has.ex.1 a;obtain ⟨lp,a⟩:=Has.ex.1 a;obtain ⟨b,a⟩:=Has.ex.1 a;obtain ⟨u,p⟩:=a.iC;refine ⟨m,x,lp,b,Hp.le_trans a1 a2,p,u,λl f g h q r=>put _ _ ?_⟩;have:=v _ _ (Has.ex.2 ⟨l,Has.ex.2 ⟨lp,Has.ex.2 ⟨b,r.eB q⟩⟩⟩:Has m (nS K i f g) h);refine cast (congrArg (λA=>Has h1 A h) (rJ λj w=> ?_)) this;by_cases e:j=i
 ·subst e;rw [kM];show _=nS K j (cn s.part j f j) (cn d j g j);rw [kM,kM];rfl
 ·rw [ku e];show _=nS K j (cn s.part i f j) (cn d i g j);rw [ku e,ku e]
theorem Has.ee (o:Has h0 (aA K pm s d) k):Has h0 (dd Gh pm (qi K.x s.tick)) k:=Has.left o
theorem dq.tX (m:dq h0 K) (a:h0<=k) {p:Nat} (hp:p<nQ K.c) {Q:Option Addr->Prop} (b:Q (some (K.pr.getD p a0))):bD K.x.procs.base K.x.procs.len (p:Int)/\aQ none aj k (sat K.x.procs.base 1 (p:Int)) Q:=by have e:=m.Kk;refine Rs.get (m.pr.mono a) (λ_=>rfl) (by omega) (by omega) (by rw [List.length_map];omega) λ(y:Option Addr) f=> ?_;grind
theorem dq.partAt (m:dq h0 K) (a:h0<=k) {p:Nat} (hp:p<nP K.c) {Q:Option Addr->Prop} (b:Q (some (K.pt.getD p a0))):bD K.x.parts.base K.x.parts.len (p:Int)/\aQ none aj k (sat K.x.parts.base 1 (p:Int)) Q:=by have e:=m.Kl;refine Rs.get (m.pt.mono a) (λ_=>rfl) (by omega) (by omega) (by rw [List.length_map];omega) λ(y:Option Addr) f=> ?_;grind
theorem dq.nj (m:dq h0 K):K.x.procs.len=nQ K.c:=by have:=m.pr.1;rw [List.length_map,m.Kk] at this;exact this
theorem dq.pZ (m:dq h0 K):K.x.parts.len=nP K.c:=by have:=m.pt.1;rw [List.length_map,m.Kl] at this;exact this
end
abbrev MK.p (K:MK) (p:Nat):Addr:=K.pr.getD p a0
abbrev MK.q (K:MK) (i:Nat):Addr:=K.pt.getD i a0
section
variable {h0 h1 k:Hp} {K:MK} {pm:Addr} {s:MS} {a:Nat->Nat->Int}
theorem Has.da {p:Nat} (o:Has h0 (aA K pm s a) k) (hp:p<nQ K.c):∃h1 z q,h0<=h1/\ff K p z q (s.proc p)/\Has h1 (dd aX (K.p p) z) k/\
  ∀e b d,ff K p e q b->b.ah=(s.proc p).ah->b.af=(s.proc p).af->Has h1 (dd aX (K.p p) e) d->Has h0 (aA K pm (s.aW p b) a) d:=by
 obtain ⟨h1,z,q,i,g,m,put⟩:=o.ya hp;obtain ⟨f,j,n,_,r⟩:=m.fst;refine ⟨f,z,q,Hp.le_trans i j,g,n,λe b d h t u l=>put e b d h ?_⟩;have:=r _ _ l;unfold q7;grind
theorem Has.kn {p:Nat} (o:Has h0 (aA K pm s a) k) (hp:p<nQ K.c):∃h1 z q,h0<=h1/\ff K p z q (s.proc p)/\Has h0 (dd aX (K.p p) z) k/\Has h1 (dy q K.c.lane (s.proc p).ah (s.proc p).af) k/\
  ∀e d b,Has h1 (dy q K.c.lane e d) b->Has h0 (aA K pm (s.aW p {s.proc p with ah:=e,af:=d}) a) b:=by
 obtain ⟨h1,z,q,g,f,h,put⟩:=o.ya hp;obtain ⟨i,j,m,_,n⟩:=h.snd;exact ⟨i,z,q,Hp.le_trans g j,f,(Has.left h).mono g,m,λe d b l=>put z _ b f (n _ _ l)⟩
def tz (z:aF) (c:aR):aF:=⟨z.df,z.part,z.code,z.state,c.PC,c.cC,c.cD,c.cE,c.cF,c.cG,c.cH,c.cI,c.cJ,z.bN,z.post⟩
def u9 (z:aF) (n:Int):aF:=⟨z.df,z.part,z.code,n,z.jb,z.fu,z.fw,z.fy,z.fz,z.fA,z.fB,z.fC,z.fD,z.bN,z.post⟩
def sy (z:aF) (b:Bool):aF:=⟨z.df,z.part,z.code,z.state,z.jb,z.fu,z.fw,z.fy,z.fz,z.fA,z.fB,z.fC,z.fD,b,z.post⟩
theorem ff.core {p:Nat} {z:aF} {q:Addr} {y:ak} (b:ff K p z q y) (c:aR):ff K p (tz z c) q (y.put (fR c)):=⟨b.1,b.2.1,b.2.2.1,b.2.2.2.1,rfl,b.2.2.2.2.2⟩
theorem ff.state {p:Nat} {z:aF} {q:Addr} {y:ak} (b:ff K p z q y) (n:Int):ff K p (u9 z n) q {y with state:=n}:=⟨b.1,b.2.1,b.2.2.1,rfl,b.2.2.2.2⟩
theorem ff.bN {p:Nat} {z:aF} {q:Addr} {y:ak} (c:ff K p z q y) (b:Bool):ff K p (sy z b) q {y with bN:=b}:=⟨c.1,c.2.1,c.2.2.1,c.2.2.2.1,c.2.2.2.2.1,rfl,c.2.2.2.2.2.2⟩
theorem AD {n:Int} {Q:Bool->Hp->Prop} (b:Q (decide (n≠5)&&decide (n≠6)) k):SM prog n Q k:=by unfold SM;refine aI ?_;grind
theorem Jf {n:Int} {Q:Int->Hp->Prop} (b:jl n) (c:Q (more n) k):Tf prog n Q k:=by
 unfold Tf;unfold jl at b;rw [aH];have:ir (n+1) 65535=more n:=by unfold ir more;split<;>split<;>omega
 grind
theorem Bi {p:Nat} {c:aR} {m:Option Addr} {Q:Hp->Prop} (o:Has h0 (aA K pm s a) k) (hp:p<nQ K.c) (d:∀b,Has h0 (aA K pm (s.aW p (tF (s.proc p) (fR c))) a) b->Q b):QC prog m (some (K.p p)) c Q k:=by unfold QC;obtain ⟨h1,z,q,l,e,f,put⟩:=o.da hp;refine aK (f.st (u9 z 0) (by show 3+1<=15;omega) rfl λi g=> ?_);refine ⟨⟨trivial,trivial⟩,aK (g.st (tz (u9 z 0) c) (by show 4+9<=15;omega) rfl λj h=> ?_)⟩;exact d _ (put _ _ _ ((e.state 0).core c) rfl rfl h)
theorem dq.pO (m:dq h0 K) (b:h0<=k) {p:Nat} (hp:p<nQ K.c) {z:aF} {q:Addr} {y:ak} (d:ff K p z q y):ny k z.code (K.ins p):=by rw [d.2.2.1];exact ((m.code p hp).1).mono b
theorem Bl {p:Nat} {v:Int} {n:Option Addr} {Q:Hp->Prop} (m:dq h0 K) (o:Has h0 (aA K pm s a) k) (hp:p<nQ K.c) (u:0<=(s.proc p).pc/\(s.proc p).pc<4611686018427387904) (i:∀d,Has h0 (aA K pm (cm K.c s p v) a) d->Q d):
  OX prog n (some (K.p p)) v Q k:=by
 unfold OX;obtain ⟨h1,z,q,x,b,f,put⟩:=o.da hp;refine aK (f.ld (shf:=eo) (dG z) rfl ?_);refine aK (f.ld (shf:=al) z.code rfl ?_);have e:fR (dG z)=(s.proc p).core:=b.2.2.2.2.1;have t:(dG z).PC=(s.proc p).pc:=congrArg Core.pc e;refine Q5 (MX (m.pO o.le hp b) (by omega) λr w l h=> ?_);refine O6 (Bi (o.grow l) hp λj g=>i j ?_);rw [h,e,(m.code p hp).2] at g;exact g
theorem Bj {p:Nat} {i:Option Addr} {Q:Hp->Prop} (o:Has h0 (aA K pm s a) k) (hp:p<nQ K.c) (b:∀g,Has h0 (aA K pm (s.aW p (dW (s.proc p))) a) g->Q g):Qz prog i (some (K.p p)) Q k:=by
 unfold Qz;obtain ⟨h1,z,q,m,d,f,put⟩:=o.da hp;refine aK (f.ld (shf:=ae .i64) z.state rfl ?_);have e:z.state=(s.proc p).state:=d.2.2.2.1;unfold dW at b;by_cases h:(s.proc p).state=1
 ·rw [if_pos (show (z.state==1)=true by rw [e,h];rfl)];rw [if_pos h] at b;exact aK (f.st (u9 z 0) (by show 3+1<=15;omega) rfl λl j=>b _ (put _ _ _ (d.state 0) rfl rfl j))
 ·rw [if_neg (show ¬(z.state==1)=true by grind)];rw [if_neg h] at b;exact b _ (put z (s.proc p) k d rfl rfl f)
theorem AE {j9:Int} {Q:Hp->Prop} (m:dq h0 K) (o:Has h0 (aA K pm s a) k) (t:0<=j9->j9<(nQ K.c:Int)/\0<=(s.proc j9.toNat).pc/\(s.proc j9.toNat).pc<4611686018427387904) (b:∀g,Has h0 (aA K pm (jk s j9) a) g->Q g):
  PY prog (some pm) j9 Q k:=by
 unfold PY;unfold jk at b;by_cases h:0<=j9
 ·rw [if_pos (by simpa using h)];rw [if_pos h] at b;obtain ⟨D,A⟩:=t h;have hp:j9.toNat<nQ K.c:=by omega
  have r:((j9.toNat:Nat):Int)=j9:=by omega
  have at_:=m.tX o.le hp (Q:=λy=>y=some (K.p j9.toNat)) rfl;rw [r] at at_;obtain ⟨f,y,d,rfl⟩:=at_;refine aK (o.ee.ld (shf:=al) K.x.procs rfl ⟨f,_,d,aK (o.ee.ld (shf:=al) K.x.procs rfl ⟨f,_,d,?_⟩)⟩);obtain ⟨h1,z,q,C,u,w,put⟩:=o.da hp;have e:fR (dG z)=(s.proc j9.toNat).core:=u.2.2.2.2.1;have l:(dG z).PC=(s.proc j9.toNat).pc:=congrArg Core.pc e;refine aK (w.ld (shf:=eo) (dG z) rfl ?_);refine AQ (BU (by rw [l];exact A) λB j=> ?_);refine ⟨⟨o.ee.dQ (n:=1) rfl,d,trivial⟩,?_⟩;refine O6 (Bi o hp λv i=>b v ?_);rw [j,e] at i;exact i
 grind
end
section
variable {c:bg} {fl:Nat->Nat->Bool} {s:MS} {X Z:Nat->Prop} {T:Int} {p:Nat} {x':ak}
theorem fp {s:MS} {p:Nat} {x:ak}:(s.aW p x).proc p=x:=kM
theorem ib {s:MS} {p q:Nat} {x:ak} (h:q≠p):(s.aW p x).proc q=s.proc q:=ku h
theorem yn {s:MS} {p:Nat} {x y:ak}:(s.aW p x).aW p y=s.aW p y:=by unfold MS.aW;rw [Ji]
theorem rP {s:MS} {i:Nat} {x:dx}:(s.dU i x).part i=x:=kM
theorem sC {s:MS} {i j:Nat} {x:dx} (h:j≠i):(s.dU i x).part j=s.part j:=ku h
def Out (s:MS) (X Z:Nat->Prop) (p:Nat):Prop:=¬Z p/\(X p\/((s.proc p).state≠2/\(s.proc p).state≠3))
theorem oV.out {i k:Nat} {z:Int} (h:oV c s X Z i k z) (o:Out s X Z p):z.toNat≠p:=λe=>by
 subst e;obtain ⟨_,_,_,a,h2⟩:=h;rcases o.2 with o2 | o2
 ·exact a o2
 ·rcases h2 with h2 | h2
  ·exact o.1 h2
  ·exact o2.2 h2.1
theorem mb.out {i r:Nat} {w:mu} (h:mb c s X Z i r w) (o:Out s X Z p):w.proc.toNat≠p:=λe=>by
 subst e;obtain ⟨_,_,_,a,h2⟩:=h;rcases o.2 with o2 | o2
 ·exact a o2
 ·rcases h2 with h2 | h2
  ·exact o.1 h2
  ·exact o2.1 h2.1
theorem oV.cv {b:MS} {a:Nat->Prop} {i k:Nat} {z:Int} (h:oV c s X Z i k z) (m:a z.toNat->X z.toNat) (e:b.proc z.toNat=s.proc z.toNat):oV c b a Z i k z:=by obtain ⟨d,f,g,j,l⟩:=h;exact ⟨d,f,g,λh=>j (m h),by rw [e];exact l⟩
theorem mb.cv {b:MS} {a:Nat->Prop} {i r:Nat} {w:mu} (h:mb c s X Z i r w) (l:a w.proc.toNat->X w.proc.toNat) (e:b.proc w.proc.toNat=s.proc w.proc.toNat):mb c b a Z i r w:=by obtain ⟨d,f,g,j,k⟩:=h;exact ⟨d,f,g,λh=>j (l h),by rw [e];exact k⟩
theorem Good.run (g:Good c fl s X Z T) (o:Out s X Z p) (pm:cp c fl s.tick p (Z p) x') (A:x'.state≠2/\x'.state≠3) (v:x'.ah=(s.proc p).ah) (hv:j5 (s.proc p)=true->j5 x'=true):
  Good c fl (s.aW p x') (λq=>X q/\q≠p) Z T where
 tick:=g.tick
 part:=g.part
 proc q hq:=by
  by_cases e:q=p
  ·subst e;rw [fp];exact pm
  ·rw [ib e];exact g.proc q hq
 own i hi k ow h:=by
  rcases g.own i hi k ow h with h | ⟨n,f,j,t⟩
  ·exact .inl h
  ·refine .inr ⟨n,f,j,t.imp (λt=> ?_) id⟩;by_cases e:ow.toNat=p
   ·rw [e,fp];grind
   ·rw [ib e];exact t
 jh i hi k q h:=by obtain ⟨n,f,j⟩:=g.jh i hi k q h;exact ⟨n,λz y=>(f z y).cv (λh=>h.1) (ib ((f z y).out o)),j⟩
 dK r u i l h:=by
  have e:((s.aW p x').proc r).ah=(s.proc r).ah:=by
   by_cases e:r=p
   ·subst e;rw [fp];exact v
   ·rw [ib e]
  rw [e] at h;obtain ⟨n,f,j⟩:=g.dK r u i l h;refine ⟨n,λm=> ?_,λw m=>(j w m).cv (λh=>h.1) (ib ((j w m).out o))⟩;obtain ⟨a,b,d⟩:=f m;refine ⟨a,b.imp (λb=> ?_) id,d⟩;by_cases e:r=p
  ·subst e;rw [fp];exact hv b
  ·rw [ib e];exact b
 qM q hq hx j:=by
  by_cases e:q=p
  ·subst e;rw [fp] at j;omega
  ·rw [ib e] at j;exact g.qM q hq (λh=>hx ⟨h,e⟩) j
 qL q hq hx f:=by
  by_cases e:q=p
  ·subst e;rw [fp] at f;omega
  ·rw [ib e] at f;obtain ⟨r,u,l,x,m⟩:=g.qL q hq (λh=>hx ⟨h,e⟩) f;refine ⟨r,u,l,?_,m⟩;by_cases e:r=p
   ·subst e;rw [fp,v];exact x
   ·rw [ib e];exact x
theorem Good.ah {X':Nat->Prop} (g:Good c fl s X Z T) (pm:cp c fl s.tick p (Z p) x') (c0:x'.state=(s.proc p).state\/((s.proc p).state=1/\x'.state=0)) (b8:x'.pc=(s.proc p).pc) (hr:x'.bf=(s.proc p).bf)
  (hl:x'.ah.length=(s.proc p).ah.length) (Q:∀(i:Nat) l o,(s.proc p).ah[i]? =some l->x'.ah[i]? =some o->o.waiters.Sublist l.waiters/\(o.waiters≠ []->(o.values.length:Int)=c.lane)/\∀w∈l.waiters,w∈o.waiters\/X' w.proc.toNat)
  (hp:p<nQ c) (S:∀q,X q->X' q) (K:∀q,X' q->X q\/(¬Z q/\∃(i:Nat) (l o:ba) (w:mu),(s.proc p).ah[i]? =some l/\x'.ah[i]? =some o/\w∈l.waiters/\w.proc∉o.waiters.map (·.proc)/\w.proc=(q:Int))):
  Good c fl (s.aW p x') X' Z T:=by
 have I:∀q,((s.aW p x').proc q).pc=(s.proc q).pc/\((s.aW p x').proc q).bf=(s.proc q).bf/\(((s.aW p x').proc q).state=(s.proc q).state\/((s.proc q).state=1/\((s.aW p x').proc q).state=0)):=λq=>by
  by_cases e:q=p
  ·subst e;rw [fp];grind
  ·rw [ib e];simp
 have a8:∀q,j5 (s.proc q)=true->j5 ((s.aW p x').proc q)=true:=λq h=>by rw [cQ] at h ⊢;grind
 have c1:∀q n,n=2\/n=3->(s.proc q).state=n->((s.aW p x').proc q).state=n:=λq n hn h=>by grind
 have b6:∀q,dt c q ((s.aW p x').proc q)=dt c q (s.proc q):=λq=>by unfold dt;rw [(I q).1]
 have b0:∀ {i k z},oV c s X Z i k z->¬X' z.toNat:=λ{i k z} h m=>by
  obtain ⟨t,d,f,B,F⟩:=h;rcases K _ m with C | ⟨E,j,l,o,w,A,N,x,O,P⟩
  ·exact B C
  ·obtain ⟨_,_,L⟩:=g.dK p hp j l A;obtain ⟨_,_,_,_,b4⟩:=L w x;grind
 have b7:∀ {i r w},r≠p->mb c s X Z i r w->¬X' w.proc.toNat:=λ{i r w} b9 h m=>by
  obtain ⟨t,d,f,B,F⟩:=h;rcases K _ m with C | ⟨E,j,l,o,M,A,N,x,O,P⟩
  ·exact B C
  ·obtain ⟨_,_,L⟩:=g.dK p hp j l A;obtain ⟨_,_,_,_,b4⟩:=L M x;grind
 have Y:∀ {i r w},mb c s X Z i r w->¬X' w.proc.toNat->mb c (s.aW p x') X' Z i r w:=λ{i r w} h m=>by obtain ⟨t,d,f,B,F⟩:=h;refine ⟨t,d,f,m,F.imp id λF=> ?_⟩;grind
 refine ⟨g.tick,g.part,λq v=> ?_,λi u k ow h=> ?_,λi u k q h=> ?_,λr y i l h=> ?_,λq v m f=> ?_,λq v m d=> ?_⟩
 ·by_cases e:q=p
  ·subst e;rw [fp];exact pm
  ·rw [ib e];exact g.proc q v
 ·rcases g.own i u k ow h with h | ⟨t,d,f,B⟩
  ·exact .inl h
  grind
 ·obtain ⟨t,d,f⟩:=g.jh i u k q h;refine ⟨t,λz E=> ?_,f⟩;have v:=b0 (d z E);obtain ⟨a1,a2,a3,a4,a5⟩:=d z E;refine ⟨a1,a2,a3,v,a5.imp id λa5=> ?_⟩;grind
 ·by_cases e:r=p
  ·subst e;rw [fp] at h ⊢;have u:i<(s.proc r).ah.length:=by grind
   have G:(s.proc r).ah[i]? =some ((s.proc r).ah[i]):=List.getElem?_eq_getElem u;generalize (s.proc r).ah[i]=U at G;obtain ⟨t,d,f⟩:=g.dK r y i U G;obtain ⟨V,w2,w3⟩:=Q i U l G h;refine ⟨t.sublist (V.map _),λa9=> ?_,λw J=> ?_⟩
   ·obtain ⟨a,b,_⟩:=d λe=>by grind
    refine ⟨a,b.imp (λb=> ?_) id,w2 a9⟩;have:=a8 r b;rw [fp] at this;exact this
   ·have D:=V.subset J;refine Y (f w D) λm=> ?_;rcases K _ m with C | ⟨E,j,l1,o,M,A,N,x,O,P⟩
    ·exact (f w D).2.2.2.1 C
    · -- the same lane
     obtain ⟨b1,W,b3⟩:=g.dK r y j l1 A;have hj:j=az c r:=(W λe=>by rw [e] at x;cases x).1;have b5:i=az c r:=(d λe=>by rw [e] at D;cases D).1;have e7:M.proc=w.proc:=by have:=(f w D).1;omega
     grind
  ·rw [ib e] at h ⊢;obtain ⟨t,d,f⟩:=g.dK r y i l h;grind
 ·have:=(I q).2.2;exact g.qM q v (λh=>m (S q h)) (by omega)
 ·have:=(I q).2.2;obtain ⟨r,y,l,H,w,J,R⟩:=g.qL q v (λh=>m (S q h)) (by omega);by_cases e:r=p
  ·subst e;have u:az c q<x'.ah.length:=by rw [hl];exact (List.getElem?_eq_some_iff.1 H).1
   obtain ⟨_,_,w3⟩:=Q _ l _ H (List.getElem?_eq_getElem u);refine ⟨r,y,x'.ah[az c q],by rw [fp];exact List.getElem?_eq_getElem u,w,?_,R⟩;grind
  ·exact ⟨r,y,l,by rw [ib e];exact H,w,J,R⟩
theorem Good.parts {i:Nat} {y:dx} (g:Good c fl s X Z T) (pm:s8 c T i y) (d:y.ax=(s.part i).ax) (l:y.an=(s.part i).an):Good c fl (s.dU i y) X Z T:=by
 have f:∀j,((s.dU i y).part j).ax=(s.part j).ax:=λj=>by
  by_cases e:j=i
  ·subst e;rw [rP,d]
  ·rw [sC e]
 have m:∀j,((s.dU i y).part j).an=(s.part j).an:=λj=>by
  by_cases e:j=i
  ·subst e;rw [rP,l]
  ·rw [sC e]
 refine ⟨g.tick,λj a=> ?_,g.proc,λj a k o h=>g.own j a k o (by grind),λj a k q h=> ?_,g.dK,λq n r b=> ?_,g.qL⟩
 ·by_cases e:j=i
  ·subst e;rw [rP];exact pm
  ·rw [sC e];exact g.part j a
 ·rw [f];exact g.jh j a k q (by grind)
 ·rw [m];exact g.qM q n r b
end
section
variable {c:bg} {fl:Nat->Nat->Bool} {s:MS} {X Z:Nat->Prop} {T:Int} {p:Nat} {x:ak} {t:Int} {z:Prop}
theorem Good.congr {a:Nat->Prop} (g:Good c fl s X Z T) (h:∀q,X q↔a q):Good c fl s a Z T:=by have:X=a:=funext λq=>propext (h q);grind
theorem hH {r:List Int} {i v:Int}:(iD r i v).length=r.length:=by unfold iD;split<;>simp
theorem ux {n:Int} (h:jl n):jl (more n):=by unfold jl more at*;split<;>omega
theorem MZ {l:List dB} {k:Core} {v:Int} (h:∃n,gD l k.pc=some n):(jU l k v).pc=k.pc+1/\(jU l k v).bf.length=k.bf.length:=by obtain ⟨n,a⟩:=h;unfold jU;rw [a];exact ⟨rfl,hH⟩
theorem M0 {l:List dB} {k:Core} {v w:Int} (h:∃n,gD l k.pc=some n):(gk l k v w).pc=k.pc+1/\(gk l k v w).bf.length=k.bf.length:=by obtain ⟨n,a⟩:=h;unfold gk;rw [a];exact ⟨rfl,by simp [hH]⟩
theorem cp.go (pm:cp c fl t p z x) (b:x.state≠4) {k:Core} (d:0<=k.pc/\k.pc<=(jj c p).length) (e:k.bf.length=8):cp c fl t p z (tF x k) where
 st:=by show (0:Int)<=0/\(0:Int)<=6;omega
 pc:=d
 lF:=pm.lF
 cur:=pm.cur
 mG:=pm.mG
 mH:=pm.mH
 np:=pm.np.imp id λh=>⟨λa=>absurd (h.1 a) b,λa=>by have:(0:Int)=4:=a;omega⟩
 dead:=λh=>by have:(0:Int)=5\/(0:Int)=6:=h;omega
 dK:=pm.dK
 recv:=λh=>by have:(0:Int)=1:=h;omega
 snd:=λh=>by have:(0:Int)=2:=h;omega
 pe:=λh=>by have:(0:Int)=3:=h;omega
 iT:=λh=>by have:(0:Int)=4:=h;omega
 bf:=e
theorem cp.put (pm:cp c fl t p z x) (a:x.state=0) {k:Core} (b:0<=k.pc/\k.pc<=(jj c p).length) (d:k.bf.length=8):cp c fl t p z (x.put k):=by
 have:=pm.go (by omega) b d;have e:x.put k=tF x k:=by unfold ak.put tF;rw [<-a]
 rw [e];exact this
theorem yy {n:dB} (h:dt c p x=some n):0<=x.pc/\x.pc<(jj c p).length:=by unfold dt gD at h;grind
theorem Good.told (g:Good c fl s X Z T) (hp:p<nQ c) (o:Out s X Z p) (e:(s.proc p).state≠4) (a:∃n,dt c p (s.proc p)=some n) (v:Int):Good c fl (cm c s p v) (λq=>X q/\q≠p) Z T:=by have pm:=g.proc p hp;have d:=MZ (l:=jj c p) (k:=(s.proc p).core) (v:=v) a;have h:0<=(s.proc p).pc/\(s.proc p).pc<(jj c p).length:=a.elim λn f=>yy f;have b:(jU (jj c p) (s.proc p).core v).pc=(s.proc p).pc+1:=d.1;refine g.run o (pm.go e ⟨by rw [b];omega,by rw [b];omega⟩ (d.2.trans pm.bf)) ⟨by show (0:Int)≠2;omega,by show (0:Int)≠3;omega⟩ rfl λ_=>rfl
theorem Good.LR (g:Good c fl s X Z T) (hp:p<nQ c) (o:Out s X Z p) (a:(s.proc p).state≠4) (b:∃n,dt c p (s.proc p)=some n):Good c fl (oa s p) (λq=>X q/\q≠p) Z T:=by have pm:=g.proc p hp;have e:0<=(s.proc p).pc/\(s.proc p).pc<(jj c p).length:=b.elim λn d=>yy d;refine g.run o (pm.go a ⟨by show 0<=(s.proc p).pc+1;omega,by show (s.proc p).pc+1<=_;omega⟩ pm.bf) ⟨by show (0:Int)≠2;omega,by show (0:Int)≠3;omega⟩ rfl λ_=>rfl
theorem cp.lane (pm:cp c fl t p z x) {i:Nat} {f:ba->ba} (r:∀l,x.ah[i]? =some l->((f l).values.length:Int)<=c.lane/\jl (f l).taken/\jl (f l).dropped/\(rT (f l)->i<nP c->fl i (az c p)=true)) (o:x.state=1->∀l,l.values=[]->(f l).values=[]):
  cp c fl t p z (bw x i f) where
 st:=pm.st
 pc:=pm.pc
 lF:=by show (x.ah.modify i f).length=_;rw [List.length_modify];exact pm.lF
 cur:=by show 0<=x.af/\x.af<((x.ah.modify i f).length:Int);rw [List.length_modify];exact pm.cur
 mG:=pm.mG
 mH:=pm.mH
 np:=pm.np
 dead:=pm.dead
 dK:=λj l h=>by
  have h:(x.ah.modify i f)[j]? =some l:=h;rw [List.getElem?_modify] at h;cases e:x.ah[j]? with
  | none=>grind
  | some k=>
   rw [e] at h;by_cases m:i=j
   ·grind
   ·simp [m] at h;subst h;exact pm.dK j k e
 recv:=λh=>by
  obtain ⟨a,b,d⟩:=pm.recv h;refine ⟨a,λl q=> ?_,d⟩;obtain ⟨j,g⟩:=List.getElem?_of_mem (show l∈x.ah.modify i f from q);rw [List.getElem?_modify] at g;cases e:x.ah[j]? with
  | none=>grind
  | some k=>
   rw [e] at g;have n:=b k (List.mem_of_getElem? e);by_cases m:i=j
   ·simp [m] at g;rw [<-g];exact o h k n
   grind
 snd:=pm.snd
 pe:=pm.pe
 iT:=pm.iT
 bf:=pm.bf
theorem cp.cx (pm:cp c fl t p z x):cp c fl t p z (dW x):=by
 by_cases h:x.state=1
 ·have:dW x=tF x x.core:=by unfold dW tF ak.core;rw [if_pos h]
  rw [this];exact pm.go (by omega) pm.pc pm.bf
 ·have:dW x=x:=by unfold dW;rw [if_neg h]
  grind
theorem Good.lane (g:Good c fl s X Z T) (hp:p<nQ c) {i:Nat} {f:ba->ba} (b:∀l,(s.proc p).ah[i]? =some l->((f l).values.length:Int)<=c.lane/\jl (f l).taken/\jl (f l).dropped/\(rT (f l)->i<nP c->fl i (az c p)=true))
  (w:∀l,(s.proc p).ah[i]? =some l->(f l).waiters=l.waiters/\(l.waiters≠ []->(f l).values.length=l.values.length)) (a:Bool) (n:a=false->∀l,l.values=[]->(f l).values=[]):
  Good c fl (s.aW p (if a then dW (bw (s.proc p) i f) else bw (s.proc p) i f)) X Z T:=by
 have pm:=g.proc p hp;have r:cp c fl s.tick p (Z p) (if a then dW (bw (s.proc p) i f) else bw (s.proc p) i f):=by
  cases a with
  | false=>exact pm.lane b λ_=>n rfl
  | true=>
   by_cases h:(s.proc p).state=1
   ·have u:cp c fl s.tick p (Z p) (tF (s.proc p) (s.proc p).core):=pm.go (by omega) pm.pc pm.bf;have:=u.lane (i:=i) (f:=f) b λh=>by have:(0:Int)=1:=h;omega
    have e:dW (bw (s.proc p) i f)=bw (tF (s.proc p) (s.proc p).core) i f:=by unfold dW bw tF ak.core;simp [h]
    grind
   ·exact (pm.lane b λm=>absurd m h).cx
 have o:(if a then dW (bw (s.proc p) i f) else bw (s.proc p) i f).ah=(s.proc p).ah.modify i f:=by cases a<;>rfl
 refine g.ah r ?_ (by cases a<;>rfl) (by cases a<;>rfl) (by grind) (λj l y d k=> ?_) hp (λ_ h=>h) λq h=>.inl h
 ·cases a with
  | false=>exact .inl rfl
  | true=>
   by_cases h:(s.proc p).state=1
   ·refine .inr ⟨h,?_⟩;show (if (s.proc p).state=1 then (0:Int) else (s.proc p).state)=0;rw [if_pos h]
   ·refine .inl ?_;show (if (s.proc p).state=1 then (0:Int) else (s.proc p).state)=_;rw [if_neg h]
 ·rw [o,List.getElem?_modify,d] at k;obtain ⟨_,v,_⟩:=g.dK p hp j l d;grind
theorem Bk {D:Int->Int->Int->Int} {l:List dB} {k:Core} {tk self:Int}:((jr D l k tk self).2.kind=1/\(jr D l k tk self).1=k)\/(∃n,gD l k.pc=some n/\(lz n l.length 8).1=0/\
  ((kr n k.bf=none/\jr D l k tk self=(Cl D n k tk self,⟨0,0,0⟩))\/∃w a,kr n k.bf=some (w,a)/\jr D l k tk self=(if a then k else fj k,w))):=by
 unfold jr;grind
theorem HZ {n:dB} {r:List Int} {w:Want} {st:Bool} (h:kr n r=some (w,st)):
  (w.kind=1/\st=true)\/(n.op=24/\w=⟨2,eR r n.b,eR r n.c⟩/\st=true)\/(n.op=25/\w.kind=3/\st=true)\/(n.op=26/\w.kind=4/\st=true)\/(w.kind=5/\st=false)\/(n.op=28/\w.kind=6/\st=true)\/
   (n.op=29/\w.kind=7/\w.to=n.lJ/\st=true)\/(n.op=30/\w.kind=8/\w.to=n.lJ/\st=false)\/(w.kind=9/\st=false):=by
 unfold kr at h;split at h
 ·cases h;exact .inl ⟨rfl,rfl⟩
 split at h
 ·rename_i e;cases h;exact .inr (.inl ⟨e,rfl,rfl⟩)
 split at h
 ·rename_i e;cases h;exact .inr (.inr (.inl ⟨e,rfl,rfl⟩))
 split at h
 ·rename_i e;cases h;exact .inr (.inr (.inr (.inl ⟨e,rfl,rfl⟩)))
 split at h
 ·rename_i e;cases h;exact .inr (.inr (.inr (.inr (.inl ⟨rfl,rfl⟩))))
 split at h
 ·rename_i e;cases h;exact .inr (.inr (.inr (.inr (.inr (.inl ⟨e,rfl,rfl⟩)))))
 grind
theorem H0 {D:Int->Int->Int->Int} {l:List dB} {k:Core} {tk self:Int} {n:dB} (b:gD l k.pc=some n) (d:(lz n l.length 8).1=0) (a:k.bf.length=8):
  (0<=(Cl D n k tk self).pc/\(Cl D n k tk self).pc<=l.length)/\(Cl D n k tk self).bf.length=8:=by
 have g:0<=k.pc/\k.pc<l.length:=yy (c:=⟨[],[],0,0,0,0,[⟨0,l⟩]⟩) (p:=0) (x:=⟨0,k.pc,[],0,0,false,0,[]⟩) b;have f:=(wj d).2.2.2.2.1;unfold Cl;split
 ·exact ⟨⟨by grind,by show k.pc+1<=_;omega⟩,hH.trans a⟩
 split
 ·exact ⟨⟨by show 0<=k.pc+1;omega,by show k.pc+1<=_;omega⟩,hH.trans a⟩
 split
 ·exact ⟨⟨by show 0<=k.pc+1;omega,by show k.pc+1<=_;omega⟩,hH.trans a⟩
 split
 ·exact ⟨⟨by show 0<=k.pc+1;omega,by show k.pc+1<=_;omega⟩,hH.trans a⟩
 split
 ·grind
 split
 ·rename_i e;split
  ·exact ⟨⟨by show 0<=k.pc+1;omega,by show k.pc+1<=_;omega⟩,a⟩
  grind
 ·exact ⟨⟨by grind,by show k.pc+1<=_;omega⟩,hH.trans a⟩
end
def lQ (p:Int) (s:MS) (l:List Nat):MS:=⟨s.tick,s.part,λq=>if q∈l then qz p (s.proc q) else s.proc q⟩
def No :Nat->Prop:=λ_=>False
section
variable {c:bg} {fl:Nat->Nat->Bool} {s:MS} {T:Int} {p:Nat} {x:ak} {t:Int} {z:Prop}
theorem vt (h:(s.proc p).state≠2/\(s.proc p).state≠3) {X:Nat->Prop}:Out s X No p:=⟨λh=>h,.inr h⟩
theorem vu (g:Good c fl s (λq=>No q/\q≠p) No T):Good c fl s No No T:=g.congr λ_=>⟨λh=>h.1,λh=>h.elim⟩
theorem Good.vT {X Z:Nat->Prop} (g:Good c fl s X Z T) {q i:Nat} (a:q<nQ c) (b:i<=nP c):∃l,(s.proc q).ah[i]? =some l:=by have:=(g.proc q a).lF;exact ⟨_,List.getElem?_eq_getElem (by omega)⟩
theorem cp.wait (pm:cp c fl t p z x) (e:x.state=0) {m:Int} (f:m=2\/m=3) {n:dB} (a:dt c p x=some n) (b:(m=2->n.op=24)/\(m=3->n.op=29)):cp c fl t p z {x with state:=m} where
 st:=by grind
 pc:=pm.pc
 lF:=pm.lF
 cur:=pm.cur
 mG:=pm.mG
 mH:=pm.mH
 np:=pm.np.imp id λh=>⟨λd=>by grind,λd=>by grind⟩
 dead:=λh=>by grind
 dK:=pm.dK
 recv:=λh=>by grind
 snd:=λh=>⟨n,a,b.1 h⟩
 pe:=λh=>⟨n,a,b.2 h⟩
 iT:=λh=>by grind
 bf:=pm.bf
theorem AF {d:Type} {l:List d} {i j:Nat} {f:d->d} {a:d} (h:(l.modify i f)[j]? =some a):∃b,l[j]? =some b/\((i=j/\a=f b)\/(i≠j/\a=b)):=by grind
theorem wF {a:Type} {l:List a} {i:Nat} {f:a->a} {b:a} (h:l[i]? =some b):(l.modify i f)[i]? =some (f b):=by grind
theorem Jg {a:Type} {l:List a} {i j:Nat} {f:a->a} (h:i≠j):(l.modify i f)[j]? =l[j]?:=by grind
def iU (c:bg) (s:MS) (p q:Nat) (v:Int):MS:=(s.aW q (bw (s.proc q) (az c p) (hZ p v))).aW p {(s.aW q (bw (s.proc q) (az c p) (hZ p v))).proc p with state:=2}
theorem Ud {q:Nat} {v:Int} (r:Nat):(iU c s p q v).proc r={(if r=q then bw (s.proc q) (az c p) (hZ p v) else s.proc r) with state:=if r=p then 2 else (s.proc r).state}:=by
 unfold iU;by_cases b:r=p
 ·subst b;rw [fp,if_pos rfl];by_cases a:r=q
  ·subst a;rw [fp,if_pos rfl]
  ·rw [ib a,if_neg a]
 ·rw [ib b,if_neg b];by_cases a:r=q
  ·subst a;rw [fp,if_pos rfl];rfl
  ·rw [ib a,if_neg a]
theorem Good.wait (m:cc c) (g:Good c fl s No No T) {q:Nat} {v:Int} {n:dB} (hp:p<nQ c) (M:q<nQ c) (h0:(s.proc p).state=0) (hn:dt c p (s.proc p)=some n) (ho:n.op=24) (hb:eR (s.proc p).bf n.b=(q:Int)) (hc:eR (s.proc p).bf n.c=v)
  (b4:az c p=az c q) (hv:j5 (s.proc q)=true) (Y:∀l,(s.proc q).ah[az c p]? =some l->(l.values.length:Int)=c.lane):Good c fl (iU c s p q v) No No T:=by
 have H:Out s No No p:=vt ⟨by omega,by omega⟩;have A:=Ud (c:=c) (s:=s) (p:=p) (q:=q) (v:=v);have b0:∀r,((iU c s p q v).proc r).pc=(s.proc r).pc/\((iU c s p q v).proc r).bf=(s.proc r).bf:=λr=>by
  rw [A];by_cases e:r=q
  ·subst e;rw [if_pos rfl];exact ⟨rfl,rfl⟩
  grind
 have O:∀r,r≠p->((iU c s p q v).proc r).state=(s.proc r).state:=λr e=>by grind
 have b6:((iU c s p q v).proc p).state=2:=by grind
 have a9:∀r,r≠q->((iU c s p q v).proc r).ah=(s.proc r).ah:=λr e=>by rw [A,if_neg e]
 have G:((iU c s p q v).proc q).ah=(s.proc q).ah.modify (az c p) (hZ p v):=by rw [A,if_pos rfl];rfl
 have Z:∀r,dt c r ((iU c s p q v).proc r)=dt c r (s.proc r):=λr=>by unfold dt;rw [(b0 r).1]
 have a8:∀r,j5 (s.proc r)=true->j5 ((iU c s p q v).proc r)=true:=λr h=>by rw [cQ] at h ⊢;grind
 have V:∀ {i r w},mb c s No No i r w->mb c (iU c s p q v) No No i r w:=λ{i r w} h=>by have C:=h.out H;obtain ⟨a1,a2,a3,a4,a5⟩:=h;refine ⟨a1,a2,a3,a4,?_⟩;grind
 have b5:mb c (iU c s p q v) No No (az c p) q ⟨(p:Int),v⟩:=by refine ⟨by show (0:Int)<=(p:Int);omega,hp,rfl,λh=>h,.inr ?_⟩;grind
 refine ⟨g.tick,g.part,λr d=> ?_,λi F k ow h=> ?_,λi F k l h=> ?_,λr d i l h=> ?_,λr d _ u=> ?_,λr d _ j=> ?_⟩
 ·have pm:=g.proc r d;have R:cp c fl s.tick r (No r) (if r=q then bw (s.proc q) (az c p) (hZ p v) else s.proc r):=by
   by_cases e:r=q
   ·subst e;rw [if_pos rfl];exact pm.lane (λl f=>pm.dK _ l f) λ_ l f=>f
   grind
  have B:(if r=q then bw (s.proc q) (az c p) (hZ p v) else s.proc r).state=(s.proc r).state:=by
   by_cases e:r=q
   ·subst e;rw [if_pos rfl];rfl
   ·rw [if_neg e]
  rw [A];by_cases e:r=p
  ·rw [if_pos e];refine R.wait (n:=n) (by grind) (.inl rfl) ?_ ⟨λ_=>ho,λh=>by omega⟩;have:=Z r;rw [A] at this;rw [e] at this ⊢;rw [<-hn];exact this
  ·rw [if_neg e,<-B];exact R
 ·rcases g.own i F k ow h with h | ⟨L,j,u,h4⟩
  ·exact .inl h
  grind
 ·obtain ⟨L,j,u⟩:=g.jh i F k l h;refine ⟨L,λy Q=> ?_,u⟩;have C:=(j y Q).out H;obtain ⟨a1,a2,a3,a4,a5⟩:=j y Q;refine ⟨a1,a2,a3,a4,?_⟩;grind
 ·by_cases e:r=q
  ·subst e;rw [G] at h;obtain ⟨D,B,X⟩:=AF h;obtain ⟨J,S,E⟩:=g.dK r d i D B;rcases X with ⟨K,o⟩ | ⟨K,o⟩
   ·subst K;subst o;refine ⟨?_,λ_=>⟨b4,.inl (a8 r hv),Y D B⟩,λw hw=> ?_⟩
    ·show ((D.waiters++ [(⟨(p:Int),v⟩:mu)]).map (·.proc)).Nodup;rw [List.map_append,List.nodup_append];refine ⟨J,by simp,λa W b hb=> ?_⟩;obtain ⟨w,hw,rfl⟩:=List.mem_map.1 W;have C:=(E w hw).out H;have:b=(p:Int):=by simpa using hb
     rw [this];intro e;rw [e] at C;exact C rfl
    ·rcases List.mem_append.1 (show w∈D.waiters++ [⟨(p:Int),v⟩] from hw) with hw | hw
     ·exact V (E w hw)
     ·rw [List.mem_singleton.1 hw];exact b5
   grind
  ·rw [a9 r e] at h;obtain ⟨J,S,E⟩:=g.dK r d i l h;grind
 ·have e:r≠p:=λe=>by grind
  rw [O r e] at u;exact g.qM r d (λh=>h) u
 ·by_cases e:r=p
  ·subst e;obtain ⟨l,f⟩:=g.vT (c:=c) (i:=az c r) M (Nat.le_of_lt m.eJ);exact ⟨q,M,hZ r v l,by grind,⟨(r:Int),v⟩,by show _∈l.waiters++ [(⟨(r:Int),v⟩:mu)];simp,rfl⟩
  ·rw [O r e] at j;obtain ⟨I,N,l,f,w,hw,P⟩:=g.qL r d (λh=>h) j;by_cases U:I=q
   ·subst U;by_cases o:az c p=az c r
    ·exact ⟨I,N,hZ p v l,by rw [G,o];exact wF f,w,by show w∈l.waiters++ [_];exact List.mem_append_left _ hw,P⟩
    ·exact ⟨I,N,l,by rw [G,Jg o];exact f,w,hw,P⟩
   grind
end
theorem fM {c:bg} {i q:Nat}:q∈dS c i↔q<nQ c/\az c q=i:=by unfold dS;simp
theorem H2 {c:bg} {i:Nat}:(dS c i).Nodup:=(List.Pairwise.filter _ List.nodup_range)
def rm (l:ba):ba:={l with waiters:=[]}
def fF (s:MS) (p:Nat) (st:Int):MS:=s.aW p {s.proc p with state:=st,bN:=false}
def dM (c:bg) (s:MS) (p:Nat) (st:Int):MS:=lQ p (fF s p st) (dS c (az c p))
def oY (c:bg) (s:MS) (p:Nat):MS:=s.dU (az c p) (xj p (s.part (az c p))).1
def iA (c:bg) (s:MS) (p:Nat):MS:=(xj p (s.part (az c p))).2.foldl jk (oY c s p)
def gK (s:MS) (p:Nat):MS:=s.aW p {s.proc p with timer:=0,cx:=0}
def iB (s:MS) (p:Nat):MS:=s.aW p {s.proc p with ah:=(s.proc p).ah.map rm}
def pK (c:bg) (s:MS) (p:Nat):MS:=((s.proc p).ah.flatMap (·.waiters)).foldl (λs w=>cm c s w.proc.toNat 2) (iB s p)
theorem wY {c:bg} {s:MS} {p:Nat} {st:Int}:oZ c s p st=pK c (gK (iA c (dM c s p st) p) p) p:=by
 have e:(⟨(fF s p st).tick,(fF s p st).part,λq=>if q<nQ c/\az c q=az c p then qz p ((fF s p st).proc q) else (fF s p st).proc q⟩:MS)=dM c s p st:=by
  unfold dM lQ;congr 1;funext q;by_cases h:q<nQ c/\az c q=az c p
  ·rw [if_pos h,if_pos (fM.2 h)]
  ·rw [if_neg h,if_neg λb=>h (fM.1 b)]
 have a:oZ c s p st=(let s2:MS:=⟨(fF s p st).tick,(fF s p st).part,λq=>if q<nQ c/\az c q=az c p then qz p ((fF s p st).proc q) else (fF s p st).proc q⟩;pK c (gK (iA c s2 p) p) p):=rfl;rw [a,e]
def jL (c:bg) (i j:Nat):Bool:=fl c.labels (i:Int) (j:Int)
structure Da (n:Nat) (l:ba):Prop where
 values:l.values.length<=64
 waiters:l.waiters.length<=100
 taken:jl l.taken
 dropped:jl l.dropped
 nd:(l.waiters.map (·.proc)).Nodup
 j9:∀w∈l.waiters,0<=w.proc/\w.proc<(n:Int)
structure pF (c:bg) (x:ak):Prop where
 pc:0<=x.pc/\x.pc<=1000
 len:x.ah.length=nP c+1
 cur:0<=x.af/\x.af<x.ah.length
 dK:∀l∈x.ah,Da (nQ c) l
structure C9 (c:bg) (x:dx):Prop where
 cur:0<=x.af/\x.af<4611686018427387904
 jy:x.log.length<=4096
 lost:jl x.lost
 kG:jl x.forbidden
 gG:x.ax.length=x.an.length
 ig:(x.an.length:Int)=c.ai
 mh:x.an.length<=8/\∀q∈x.an,q.length<=100
 nd:∀q∈x.an,q.Nodup/\∀z∈q,0<=z/\z<(nQ c:Int)
structure jv (c:bg) (s:MS):Prop where
 proc:∀p,p<nQ c->pF c (s.proc p)
 part:∀i,i<nP c->C9 c (s.part i)
theorem wo {x:ak} {i:Nat} {l:ba} {f:ba->ba} (h:x.ah[i]? =some l):bw x i f={x with ah:=x.ah.set i (f l)}:=by unfold bw;congr 1;refine List.ext_getElem? λj=> ?_;grind
section
variable {h0 h1 k:Hp} {K:MK} {pm:Addr} {s:MS} {d:Nat->Nat->Int}
theorem Has.rB {i:Nat} (o:Has h0 (aA K pm s d) k) (l:i<nP K.c):∃h1 x lp f,h0<=h1/\lT K i x lp f (s.part i)/\Has h1 (dd vk (K.q i) x) k/\
  ∀b a e,lT K i b lp f a->b.log=x.log->a.log=(s.part i).log->a.ax=(s.part i).ax->a.an=(s.part i).an->Has h1 (dd vk (K.q i) b) e->Has h0 (aA K pm (s.dU i a) d) e:=by
 obtain ⟨h1,x,lp,f,p,m,u,put⟩:=o.pY l;obtain ⟨g,r,v,_,w⟩:=u.fst;refine ⟨g,x,lp,f,Hp.le_trans p r,m,v,λb a e n y z A B t=> ?_⟩;have C:=w _ _ t;have h:Has h1 (nT K i b lp f a (d i)) e:=by unfold nT;grind
 have j:=put b a (d i) e n h
 rwa [xi] at j
theorem jv.told (a:jv K.c s) {p:Nat} (hp:p<nQ K.c):0<=(s.proc p).pc/\(s.proc p).pc<4611686018427387904:=by have:=(a.proc p hp).pc;omega
theorem dq.ptr (m:dq h0 K) (o:Has h0 (aA K pm s d) k) {p:Nat} (hp:p<nQ K.c):bD K.x.procs.base K.x.procs.len (p:Int)/\aT k (sat K.x.procs.base 1 (p:Int)) [.pointer (some (K.p p))]:=by obtain ⟨a,y,b,rfl⟩:=m.tX o.le hp (Q:=λy=>y=some (K.p p)) rfl;exact ⟨a,b⟩
theorem dq.sd (m:dq h0 K) (o:Has h0 (aA K pm s d) k) {p:Nat} (hp:p<nP K.c):bD K.x.parts.base K.x.parts.len (p:Int)/\aT k (sat K.x.parts.base 1 (p:Int)) [.pointer (some (K.q p))]:=by obtain ⟨a,y,b,rfl⟩:=m.partAt o.le hp (Q:=λy=>y=some (K.q p)) rfl;exact ⟨a,b⟩
theorem BH {q i:Nat} {v:Int} {z:aF} {a:Addr} {Q:Int->Hp->Prop} (o:Has h0 (aA K pm s d) k) (L:q<nQ K.c) (S:pF K.c (s.proc q)) (J:K.c.lane<=64) (U:i<=nP K.c) (M:ff K q z a (s.proc q)) (O:Has h1 (dd aX (K.p q) z) k)
  (u:fL K.c (s.proc q) i=true->Q 19 k) (w:∀j,fL K.c (s.proc q) i=false->Has h0 (aA K pm (s.aW q (bw (s.proc q) i (tI v))) d) j->Q 0 j):KT prog (some a) (i:Int) v Q k:=by
 obtain ⟨T,e,x,W,N,R,P,put⟩:=o.kn L;have F:x=a:=by
  obtain ⟨b,G,hb,_⟩:=O.pj;obtain ⟨y,r,I,_⟩:=R.pj;rw [G] at r;have A:b=y:=congrArg Addr.block r;subst A;obtain ⟨t,B⟩:=hb;obtain ⟨Y,f⟩:=I;rw [B] at f;have C:(aY (aX.enc z)).toArray=(aY (aX.enc e)).toArray:=by injection f with f;injection f
  have D:aY (aX.enc z)=aY (aX.enc e):=by simpa using C
  have E:(aY (aX.enc z))[14]? =(aY (aX.enc e))[14]?:=by rw [D]
  have m:some (Value.pointer z.post)=some (Value.pointer e.post):=E;have n:z.post=e.post:=by injection m with m;injection m
  rw [M.2.2.2.2.2.2,N.2.2.2.2.2.2] at n;exact (Option.some.inj n).symm
 subst F;have V:=S.len;have g:=List.getElem?_eq_getElem (show i<(s.proc q).ah.length by omega);generalize (s.proc q).ah[i]=l at g;have H:fL K.c (s.proc q) i=decide (K.c.lane<=(l.values.length:Int)):=by unfold fL;rw [g]
 rw [H] at u w;refine Ob P g J (λh=>u (decide_eq_true h)) λj h X=>w j (decide_eq_false h) ?_;rw [wo g];grind
end
section
variable {h0 h1 k:Hp} {K:MK} {pm:Addr} {s:MS} {b:Nat->Nat->Int}
theorem H3 {p:Nat}:s.aW p (s.proc p)=s:=by unfold MS.aW;rw [xi]
theorem Jh {x:ak}:(dW x).pc=x.pc:=rfl
theorem Bm {x:ak} {i:Nat} {f:ba->ba}:(bw x i f).pc=x.pc:=rfl
theorem xZ {p q:Nat} {y:ak} (e:y.pc=(s.proc q).pc):((s.aW q y).proc p).pc=(s.proc p).pc:=by
 by_cases h:p=q
 ·subst h;rw [fp,e]
 ·rw [ib h]
theorem Jj {q i:Nat} {Q:Hp->Prop} (o:Has h0 (aA K pm s b) k) (n:q<nQ K.c) (h:pF K.c (s.proc q)) (v:i<=nP K.c) {C:Prop} (m:∀e,Has h0 (aA K pm (s.aW q (bw (s.proc q) i lf)) b) e->Q e):
  ∃z a,ff K q z a (s.proc q)/\(∀ {f:Option Addr->Prop},f (some a)->aQ none aj k ((K.p q).add 14) f)/\KN prog (some a) (i:Int) Q k:=by
 obtain ⟨u,z,a,x,g,t,r,put⟩:=o.kn n;refine ⟨z,a,g,λj=>t.ld (shf:=aj) z.post rfl (by rw [g.2.2.2.2.2.2];exact j),?_⟩;have w:=h.len;have d:=List.getElem?_eq_getElem (show i<(s.proc q).ah.length by omega);generalize (s.proc q).ah[i]=l at d;refine WG r d (h.dK l (List.mem_of_getElem? d)).dropped λe y=>m e ?_;rw [wo d];grind
def BI (c:bg) (s:MS) (p q:Nat) (v:Int):MS:=
 if j5 (s.proc q)=false then cm c s p 2
 else if fL c (s.proc q) (az c p) then
  let s1:=s.aW q (bw (s.proc q) (az c p) (hZ p v))
  s1.aW p {s1.proc p with state:=2}
 else cm c (s.aW q (dW (bw (s.proc q) (az c p) (tI v)))) p 0
theorem Ue {p q:Nat} {v:Int} {Q:Hp->Prop} (m:dq h0 K) (A:cc K.c) (o:Has h0 (aA K pm s b) k) (j:jv K.c s) (hp:p<nQ K.c) (f:q<nQ K.c) (T:∀l∈(s.proc q).ah,∀z∈l.waiters,z.proc≠(p:Int))
  (d:∀x,Has h0 (aA K pm (BI K.c s p q v) b) x->Q x):Pl prog (some pm) (some (K.p p)) (some (K.p q)) v Q k:=by
 unfold Pl;obtain ⟨h1,n,ap,l1,E,op,_⟩:=o.da hp;obtain ⟨h2,a,B,l2,t,i,_⟩:=o.da f;unfold BI at d;have U:az K.c p<=nP K.c:=Nat.le_of_lt A.eJ;refine aK (i.ld (shf:=ae .i64) a.state rfl ?_);refine Ry (AD ?_);have S:a.state=(s.proc q).state:=t.2.2.2.1;have R:(decide (a.state≠5)&&decide (a.state≠6))=j5 (s.proc q):=by rw [S];rfl
 rw [R];by_cases e:j5 (s.proc q)=false
 ·rw [if_pos (by rw [e];rfl)];rw [if_pos e] at d;exact zD (Bl m o hp (j.told hp) d)
 ·rw [if_neg (by grind)];rw [if_neg e] at d;refine aK (i.ld (shf:=aj) a.post rfl ?_);refine aK (op.ld (shf:=ae .i64) n.part rfl ?_);have C:n.part=(az K.c p:Int):=E.2.1;have eq:a.post=some B:=t.2.2.2.2.2.2;rw [C,eq];refine Rx (BH o f (j.proc q f) A.lane.2 U t i (λh=> ?_) λx h Z=> ?_)
  ·rw [if_pos (by decide)];rw [if_pos h] at d;refine aK (i.ld (shf:=aj) a.post rfl ?_);refine aK (op.ld (shf:=ae .i64) n.part rfl ?_);refine aK (op.ld (shf:=ae .i64) n.df rfl ?_);have P:n.df=(p:Int):=E.1;rw [C,eq,P];obtain ⟨h3,u,H,l3,V,o3,o2,put⟩:=o.kn f;have N:H=B:=by
    have I:=o3.ld (shf:=aj) (off:=14) u.post rfl (K:=λy=>y=u.post) rfl;have J:=i.ld (shf:=aj) (off:=14) a.post rfl (K:=λy=>y=a.post) rfl;obtain ⟨y1,w,rfl⟩:=I;obtain ⟨y2,g,rfl⟩:=J;have w:=w 0 (.pointer u.post) rfl;have g:=g 0 (.pointer a.post) rfl;rw [w] at g;have M:u.post=a.post:=by injection g with g;injection g
    rw [t.2.2.2.2.2.2,V.2.2.2.2.2.2] at M;grind
   subst N;have a9:=(j.proc q f).len;have r:=List.getElem?_eq_getElem (show az K.c p<(s.proc q).ah.length by omega);generalize (s.proc q).ah[az K.c p]=l at r;have O:fL K.c (s.proc q) (az K.c p)=decide (K.c.lane<=(l.values.length:Int)):=by unfold fL;rw [r]
   have D:=λl e=>(j.proc q f).dK l e;have b0:=A.parts;refine ZF (ME o2 ⟨by omega,λl e=>⟨(D l e).waiters,by have:=(D l e).values;omega⟩⟩ T r (by rw [O] at h;exact of_decide_eq_true h) λX o4=> ?_);have G:=put _ _ _ o4;have L:({s.proc q with ah:=(s.proc q).ah.set (az K.c p) (hZ p v l),af:=(s.proc q).af}:ak)=bw (s.proc q) (az K.c p) (hZ p v):=(wo r).symm;rw [L] at G;obtain ⟨h4,z4,a4,l4,W,o6,a8⟩:=G.da hp;refine aK (o6.st (u9 z4 2) (by show 3+1<=15;omega) rfl λY o7=> ?_);exact d Y (a8 _ _ _ (W.state 2) rfl rfl o7)
  ·rw [if_neg (by decide)];rw [if_neg (by rw [h];decide)] at d;refine O3 (Bj Z f λX F=> ?_);rw [fp,yn] at F;refine zD (Bl m F hp ?_ d);rw [xZ (by rw [Jh,Bm])];exact j.told hp
end
section
variable {h0 h1 k:Hp} {K:MK} {pm:Addr} {s:MS} {b:Nat->Nat->Int}
theorem Has.agree {a:Addr} {z c:aF} (f:Has h0 (dd aX a c) k) (g:Has h1 (dd aX a z) k):c.post=z.post:=by obtain ⟨h,d,rfl⟩:=f.ld (shf:=aj) (off:=14) c.post rfl (K:=λy=>y=c.post) rfl;obtain ⟨i,e,rfl⟩:=g.ld (shf:=aj) (off:=14) z.post rfl (K:=λy=>y=z.post) rfl;have d:=d 0 (.pointer c.post) rfl;have e:=e 0 (.pointer z.post) rfl;grind
theorem ff.same {p:Nat} {z d:aF} {a c:Addr} {y h:ak} (f:ff K p z a y) (g:ff K p d c h) (e:d.post=z.post):c=a:=by rw [f.2.2.2.2.2.2,g.2.2.2.2.2.2] at e;grind
theorem M3 {c:bg} {p:Nat} {to v:Int}:ln c (jL c) s p to v=if to<0\/(nQ c:Int)<=to then cm c s p 1
 else if jL c (az c p) (az c to.toNat)=false then cm c (s.dU (az c p) {s.part (az c p) with forbidden:=more (s.part (az c p)).forbidden}) p 0
 else if az c p=az c to.toNat then BI c s p to.toNat v
 else if j5 (s.proc to.toNat)=false\/fL c (s.proc to.toNat) (az c p) then cm c (s.aW to.toNat (bw (s.proc to.toNat) (az c p) lf)) p 0
 else cm c (s.aW to.toNat (dW (bw (s.proc to.toNat) (az c p) (tI v)))) p 0:=rfl
theorem Vw {p:Nat} {to v:Int} {Q:Hp->Prop} (m:dq h0 K) (I:cc K.c) (o:Has h0 (aA K pm s b) k) (t:jv K.c s) (hp:p<nQ K.c) (hn:∀q,q<nQ K.c->∀l∈(s.proc q).ah,∀z∈l.waiters,z.proc≠(p:Int))
  (a:∀r,Has h0 (aA K pm (ln K.c (jL K.c) s p to v) b) r->Q r):PU prog (some pm) (some (K.p p)) to v Q k:=by
 unfold PU;rw [M3] at a;have b1:=m.nj;have e0:(qi K.x s.tick).procs=K.x.procs:=rfl;refine aK (o.ee.vV (shf:=al) K.x.procs rfl ?_);refine aI ?_;rw [b1];by_cases h:to<0\/(nQ K.c:Int)<=to
 ·rw [if_pos (by simp;omega)];rw [if_pos h] at a;exact zD (Bl m o hp (t.told hp) a)
 rw [if_neg (by simp;omega)];rw [if_neg h] at a;have g:to.toNat<nQ K.c:=by omega
 have Y:((to.toNat:Nat):Int)=to:=by omega
 obtain ⟨M,N⟩:=m.ptr o g;rw [Y] at M N;obtain ⟨h1,j,ap,l1,b2,op,c0⟩:=o.da hp;obtain ⟨h2,f,S,l2,B,A,_⟩:=o.da g;have u:az K.c p<nP K.c:=I.eJ;have i:j.part=(az K.c p:Int):=b2.2.1;have eq:f.part=(az K.c to.toNat:Int):=B.2.1;have W:f.post=some S:=B.2.2.2.2.2.2;refine aK (o.ee.ld (shf:=al) K.x.procs rfl ⟨M,some (K.p to.toNat),N,?_⟩);refine aK (o.ee.ld (shf:=aj) K.x.table rfl ?_);refine aK (op.ld (shf:=ae .i64) j.part rfl ?_);refine aK (A.ld (shf:=ae .i64) f.part rfl ?_);rw [m.t1,i,eq];refine Zr (SI (m.t2.mono o.le) m.za ?_);have U:fl K.c.labels (az K.c p:Int) (az K.c to.toNat:Int)=jL K.c (az K.c p) (az K.c to.toNat):=rfl;rw [U];by_cases G:jL K.c (az K.c p) (az K.c to.toNat)=false
 ·rw [if_pos (by rw [G];rfl)];rw [if_pos G] at a;obtain ⟨O,E⟩:=m.sd o u;obtain ⟨h3,x,lp,wp,l3,w,R,b6⟩:=o.rB u;refine aK (o.ee.ld (shf:=al) K.x.parts rfl ?_);refine aK (op.ld (shf:=ae .i64) j.part rfl ?_);rw [i];refine ⟨O,_,E,?_⟩;refine aK (o.ee.ld (shf:=al) K.x.parts rfl ?_);refine aK (op.ld (shf:=ae .i64) j.part rfl ?_);rw [i];refine ⟨O,_,E,?_⟩;refine aK (R.ld (shf:=ae .i64) x.forbidden rfl ?_);have ex:x.forbidden=(s.part (az K.c p)).forbidden:=w.2.2.2.1;rw [ex];refine XY (Jf (t.part _ u).kG ?_);refine ⟨⟨o.ee.dQ (n:=1) rfl,by rw [<-i];exact op.dQ (n:=1) rfl,E,trivial⟩,?_⟩;refine aK (R.st (⟨x.procs,x.af,x.log,x.lost,more (s.part (az K.c p)).forbidden,x.ai,x.dz⟩:aV) (by show 4+1<=7;omega) rfl λk1 D=> ?_);have L:=b6 (⟨x.procs,x.af,x.log,x.lost,more (s.part (az K.c p)).forbidden,x.ai,x.dz⟩:aV) {s.part (az K.c p) with forbidden:=more (s.part (az K.c p)).forbidden} _ ⟨w.1,w.2.1,w.2.2.1,rfl,w.2.2.2.2⟩ rfl rfl rfl rfl D;exact zD (Bl m L hp (t.told hp) a)
 rw [if_neg (by grind)];rw [if_neg G] at a;refine aK (op.ld (shf:=ae .i64) j.part rfl ?_);refine aK (A.ld (shf:=ae .i64) f.part rfl ?_);rw [i,eq];by_cases H:az K.c p=az K.c to.toNat
 ·rw [if_pos (by rw [H];simp)];rw [if_pos H] at a;exact YY (Ue m I o t hp g (hn _ g) a)
 rw [if_neg (by simp;omega)];rw [if_neg H] at a;have sq:=t.proc _ g;refine bP.intro (λr=>∃y:ak,y.pc=(s.proc to.toNat).pc/\Has h0 (aA K pm (s.aW to.toNat y) b) r/\∀d,Has h0 (aA K pm (cm K.c (s.aW to.toNat y) p 0) b) d->Q d) ?_ ?_
 ·have drop:∀(P:j5 (s.proc to.toNat)=false\/fL K.c (s.proc to.toNat) (az K.c p)=true),
   ag none (some (K.p to.toNat)) λb4=>
   aQ none aj k (Addr.add b4 14) λb7=>
   ag none (some (K.p p)) λb5=>
   aQ none (ae .i64) k (Addr.add b5 1) λb8=>
   bx prog GF [(.pointer b7),(.int .i64 b8)] (λF=>∃y:ak,y.pc=(s.proc to.toNat).pc/\Has h0 (aA K pm (s.aW to.toNat y) b) F/\∀d,Has h0 (aA K pm (cm K.c (s.aW to.toNat y) p 0) b) d->Q d) k:=by
   intro P;rw [if_pos P] at a;obtain ⟨z4,a4,b9,b3,T⟩:=Jj (C:=True) (Q:=λF=>∃y:ak,y.pc=(s.proc to.toNat).pc/\Has h0 (aA K pm (s.aW to.toNat y) b) F/\∀d,Has h0 (aA K pm (cm K.c (s.aW to.toNat y) p 0) b) d->Q d) o g sq (Nat.le_of_lt u) λr J=>⟨_,Bm,J,a⟩;refine aK (b3 (aK (op.ld (shf:=ae .i64) j.part rfl ?_)));rw [i];exact XJ T
  refine aK (A.ld (shf:=ae .i64) f.state rfl ?_);refine Ry (AD ?_);have X:f.state=(s.proc to.toNat).state:=B.2.2.2.1;have V:(decide (f.state≠5)&&decide (f.state≠6))=j5 (s.proc to.toNat):=by rw [X];rfl
  rw [V];refine aK (A.vV (shf:=aj) f.post rfl ?_);refine aK (op.vV (shf:=ae .i64) j.part rfl ?_);rw [i,W];by_cases hl:j5 (s.proc to.toNat)=false
  ·rw [hl];refine ⟨λe=>(by cases e),λ_=>⟨0,aI ?_⟩⟩;grind
  ·have b0:j5 (s.proc to.toNat)=true:=by grind
   rw [b0];refine ⟨λ_=> ?_,λe=>(by cases e)⟩;refine Rx (BH o g sq I.lane.2 (Nat.le_of_lt u) B A (λa8=>aI ?_) λr a8 J=>aI ?_)
   ·grind
   ·rw [if_neg (by decide)];rw [if_neg (by grind)] at a;refine O3 (Bj J g λk1 D=> ?_);rw [fp,yn] at D;exact ⟨_,by rw [Jh,Bm],D,a⟩
 ·rintro d ⟨y,Z,L,a9⟩;refine zD (Bl m L hp ?_ a9);rw [xZ Z];exact t.told hp
theorem Vx {p:Int} {Q:Int->Hp->Prop} (m:dq h0 K) (o:Has h0 (aA K pm s b) k) (a:Q (pn K.c s p) k):PR prog (some pm) p Q k:=by
 unfold PR;unfold pn at a;have l:=m.nj;refine aK (o.ee.vV (shf:=al) K.x.procs rfl ?_);refine aI ?_;rw [l];by_cases h:p<0\/(nQ K.c:Int)<=p
 ·rw [if_pos (by simp;omega)];rw [if_pos h] at a;exact a
 rw [if_neg (by simp;omega)];rw [if_neg h] at a;have g:p.toNat<nQ K.c:=by omega
 have j:((p.toNat:Nat):Int)=p:=by omega
 obtain ⟨e,f⟩:=m.ptr o g;rw [j] at e f;obtain ⟨u,d,r,v,n,q,_⟩:=o.da g;refine aK (o.ee.ld (shf:=al) K.x.procs rfl ⟨e,some (K.p p.toNat),f,?_⟩);refine aK (q.ld (shf:=ae .i64) d.state rfl ?_);refine Ry (AD ?_);have i:d.state=(s.proc p.toNat).state:=n.2.2.2.1;have t:(decide (d.state≠5)&&decide (d.state≠6))=j5 (s.proc p.toNat):=by rw [i];rfl
 grind
theorem Uf {p v:Int} {Q:Int->Hp->Prop} (m:dq h0 K) (A:cc K.c) (o:Has h0 (aA K pm s b) k) (D:jv K.c s) (a:∀e,Has h0 (aA K pm (u5 K.c s p v).1 b) e->Q (u5 K.c s p v).2 e):Kv prog (some pm) p v Q k:=by
 unfold Kv;refine Y2 (Vx m o ?_);unfold u5 at a;by_cases h:pn K.c s p≠0
 ·grind
 rw [if_neg (by simpa using h)];rw [if_neg h] at a;have G:0<=p/\p<(nQ K.c:Int):=by refine Classical.byContradiction λF=>h ?_;unfold pn;omega
 have d:p.toNat<nQ K.c:=by omega
 have w:((p.toNat:Nat):Int)=p:=by omega
 obtain ⟨g,i⟩:=m.ptr o d;rw [w] at g i;obtain ⟨E,q,r,I,j,n,_⟩:=o.da d;have u:q.post=some r:=j.2.2.2.2.2.2;have sq:=D.proc _ d;refine aK (o.ee.ld (shf:=al) K.x.procs rfl ⟨g,some (K.p p.toNat),i,?_⟩);refine aK (o.ee.ld (shf:=al) K.x.parts rfl ?_);refine aK (n.ld (shf:=aj) q.post rfl ?_);rw [u,m.pZ];refine Rx (BH o d sq A.lane.2 (Nat.le_refl _) j n (λf=> ?_) λe f B=> ?_)
 ·rw [if_pos (by decide)];rw [if_pos f] at a;obtain ⟨J,a4,H,z,t⟩:=Jj (C:=True) (Q:=λe=>Q 19 e) o d sq (Nat.le_refl _) a;exact aK (z (XJ t))
 ·rw [if_neg (by decide)];rw [if_neg (by rw [f];decide)] at a;refine O3 (Bj B d λy l=> ?_);rw [fp,yn] at l;exact a y l
end
def wG :Prop:=∀ {c k:Hp} {p:Addr} {room af:Int} {a:List ba} {Q:Int->Int->bt->Bool->Int->Hp->Prop},Has c (dy p room a af) k->(a.length<=1000/\∀l∈a,jl l.taken/\l.values.length<=64)->(0<=af/\af<a.length)->
 (vz af a=none->∀b,Has c (dy p room a af) b->Q 0 0 ⟨0,0⟩ false 21 b)->
 (∀(i:Nat) l v d,vz af a=some i->a[i]? =some l->l.values=v::d->∀b,Has c (dy p room (a.set i (du l)) (((i+1:Nat):Int)%(a.length:Int))) b->
  Q v (i:Int) (match l.waiters with | []=>⟨0,0⟩ | w::_=>nq w) (!l.waiters.isEmpty) 0 b)->
 xH prog R4 [.pointer (some p)] (ae .i64) (ae .i64) aE bu (ae .i64) Q k
section
variable {h0 h1 k:Hp} {K:MK} {pm:Addr} {s:MS} {a:Nat->Nat->Int}
theorem M4 {l:List dB} {k:Core} {v f:Int}:(gk l k v f).pc=k.pc+1:=by unfold gk;cases gD l k.pc<;>rfl
theorem uy {p:Nat} {c:aR} {Q:Hp->Prop} (o:Has h0 (aA K pm s a) k) (hp:p<nQ K.c) (d:∀b,Has h0 (aA K pm (s.aW p ((s.proc p).put (fR c))) a) b->Q b):
  cq k ((K.p p).add 4) [(.int .i64 c.PC),(.int .i64 c.cC),(.int .i64 c.cD),(.int .i64 c.cE),(.int .i64 c.cF),(.int .i64 c.cG),(.int .i64 c.cH),(.int .i64 c.cI),(.int .i64 c.cJ)] Q:=by
 obtain ⟨h1,z,q,i,e,f,put⟩:=o.da hp;exact f.st (tz z c) (by show 4+9<=15;omega) rfl λh g=>d _ (put _ _ _ (e.core c) rfl rfl g)
theorem H4 {p:Nat} {G:Bool} {Q:Hp->Prop} (tk:wG) (m:dq h0 K) (mc:cc K.c) (o:Has h0 (aA K pm s a) k) (t:jv K.c s) (hp:p<nQ K.c)
  (b:∀M,Has h0 (aA K pm (kq K.c s p G) a) M->Q M):PW prog (some pm) (some (K.p p)) G Q k:=by
 unfold PW;obtain ⟨h1,z,q,l1,hz,oz,o1,put⟩:=o.kn hp;have sp:=t.proc p hp;have eq:z.post=some q:=hz.2.2.2.2.2.2;refine aK (oz.ld (shf:=aj) z.post rfl ?_);rw [eq];have a9:=mc.parts;have a8:=sp.len;unfold kq at b;dsimp only at b;refine tk o1 ⟨by omega,λl r=>⟨(sp.dK l r).taken,(sp.dK l r).values⟩⟩ sp.cur (λX k1 E=> ?_) λi l v vs Y r hv k1 E=> ?_
 ·rw [if_neg (by decide)];rw [X] at b;dsimp only at b;have h:=put _ _ _ E;have n:s.aW p {s.proc p with ah:=(s.proc p).ah,af:=(s.proc p).af}=s:=H3;rw [n] at h;obtain ⟨W,d,q2,l2,f,j,F⟩:=h.da hp;have T:d.bN=(s.proc p).bN:=f.2.2.2.2.2.1;refine aK (j.ld (shf:=bu) d.bN rfl ?_);rw [T];by_cases B:(s.proc p).bN=true
  ·rw [if_pos B];rw [if_pos B] at b;refine aK (j.st (sy d false) (by show 13+1<=15;omega) rfl λN A=> ?_);have P:=F _ _ _ (f.bN false) rfl rfl A;have e:fR (dG d)=(s.proc p).core:=f.2.2.2.2.1;have u:(dG d).PC=(s.proc p).pc:=congrArg Core.pc e;refine aK (A.ld (shf:=eo) (dG d) rfl ?_);refine aK (A.ld (shf:=al) d.code rfl ?_);refine T9 (Bh (m.pO P.le hp f) (by rw [u];exact t.told hp) λH O y n=> ?_);refine aK (uy (P.grow y) hp λC g=>b C ?_);rw [fp,yn,n,e,(m.code p hp).2] at g;exact g
  ·rw [if_neg B];rw [if_neg B] at b;cases G with
   | true=>rw [if_pos rfl];rw [if_pos rfl] at b;have e:fR (dG d)=(s.proc p).core:=f.2.2.2.2.1;have u:(dG d).PC=(s.proc p).pc:=congrArg Core.pc e;refine aK (j.ld (shf:=eo) (dG d) rfl ?_);refine aK (j.ld (shf:=al) d.code rfl ?_);refine T9 (Bh (m.pO h.le hp f) (by rw [u];exact t.told hp) λH O y n=> ?_);refine aK (uy (h.grow y) hp λC g=>b C ?_);rw [n,e,(m.code p hp).2] at g;exact g
   | false=>rw [if_neg (by decide)];rw [if_neg (by decide)] at b;exact aK (j.st (u9 d 1) (by show 3+1<=15;omega) rfl λN A=>b N (F _ _ _ (f.state 1) rfl rfl A))
 ·rw [if_pos (by decide)];rw [Y] at b;dsimp only at b;have h:=put _ _ _ E;have R:(s.proc p).ah.getD i ⟨[],[],0,0⟩=l:=ou r;rw [R] at b;have S:({s.proc p with ah:=(s.proc p).ah.set i (du l),af:=((i+1:Nat):Int)%((s.proc p).ah.length:Int)}:ak)={bw (s.proc p) i du with af:=((i+1:Nat):Int)%((s.proc p).ah.length:Int)}:=by rw [wo r]
  rw [S] at h;obtain ⟨W,d,q2,l2,f,j,F⟩:=h.da hp;rw [fp] at f;have e:fR (dG d)=(s.proc p).core:=f.2.2.2.2.1;have u:(dG d).PC=(s.proc p).pc:=congrArg Core.pc e;refine aK (j.ld (shf:=eo) (dG d) rfl ?_);refine aK (j.ld (shf:=al) d.code rfl ?_);refine T9 (Bh (m.pO h.le hp f) (by rw [u];exact t.told hp) λH O y n=> ?_);refine aK (uy (h.grow y) hp λC g=> ?_);rw [fp,yn,n,e,(m.code p hp).2] at g;have Z:l.values.headD 0=v:=by rw [hv];rfl
  rw [Z] at b;cases hw:l.waiters with
  | nil=>grind
  | cons w ws=>
   rw [if_pos (by simp)];rw [hw] at b;dsimp only at b;have b0:=(sp.dK l (List.mem_of_getElem? r)).j9 w (by grind);have D:w.proc.toNat<nQ K.c:=by omega
   have V:((w.proc.toNat:Nat):Int)=w.proc:=by omega
   obtain ⟨I,J⟩:=m.ptr g D;rw [V] at I J;have U:(nq w).cX=w.proc:=rfl;rw [U];refine aK (g.ee.ld (shf:=al) K.x.procs rfl ⟨I,some (K.p w.proc.toNat),J,?_⟩);refine zD (Bl m g D ?_ b);by_cases L:w.proc.toNat=p
   ·rw [L,fp];show 0<=(gk _ _ _ _).pc/\(gk _ _ _ _).pc<_;rw [M4];have:=(t.proc p hp).pc;show 0<=(s.proc p).pc+1/\(s.proc p).pc+1<_;omega
   ·rw [ib L];exact t.told D
end
section
variable {h0 h1 k:Hp} {K:MK} {pm:Addr} {s:MS} {g:Nat->Nat->Int}
theorem Has.aside {A:dg} {f:Type} {sz:Nat} {enc:f->List Value} {l:Sl} {e:List f} (o:Has h0 (A.star (dC sz enc l e)) k) (i:∀x,(enc x).length=sz):∃h1,h0<=h1/\Has h1 A k/\Rw h1 sz enc l e:=by obtain ⟨h1,a,b,⟨h,c,d⟩,_⟩:=o.fst;exact ⟨h1,a,b,Has.ia (h0:=h0) ⟨a,h,c,d⟩ i⟩
theorem AG {i:Nat}:s.dU i (s.part i)=s:=by unfold MS.dU;rw [xi]
theorem Has.pX {i:Nat} (o:Has h0 (aA K pm s g) k) (m:i<nP K.c):∃h1 x lp d,h0<=h1/\lT K i x lp d (s.part i)/\Has h0 (dd vk (K.q i) x) k/\Has h1 (ma lp (s.part i).ax (s.part i).an) k/\
  ∀os b a,Has h1 (ma lp os b) a->Has h0 (aA K pm (s.dU i {s.part i with ax:=os,an:=b}) g) a:=by
 obtain ⟨h1,x,lp,d,f,e,h,put⟩:=o.pY m;obtain ⟨y,n,t,v⟩:=h.f3;obtain ⟨j,p,u,_,w⟩:=t.fst;refine ⟨j,x,lp,d,Hp.le_trans f (Hp.le_trans n p),e,(Has.left h).mono f,u,λos b a r=> ?_⟩;have l:=put x {s.part i with ax:=os,an:=b} (g i) a e (v _ _ (w _ _ r))
 rwa [xi] at l
theorem Has.iv {i:Nat} (o:Has h0 (aA K pm s g) k) (m:i<nP K.c):∃h1 x lp a,h0<=h1/\lT K i x lp a (s.part i)/\Has h0 (dd vk (K.q i) x) k/\Has h1 (qY a (g i) (2*nQ K.c)) k/\
  ∀d b,Has h1 (qY a d (2*nQ K.c)) b->Has h0 (aA K pm s (cn g i d)) b:=by
 obtain ⟨h1,x,lp,a,f,e,h,put⟩:=o.pY m;obtain ⟨y,n,t,v⟩:=h.f3;obtain ⟨j,p,u,_,w⟩:=t.snd;refine ⟨j,x,lp,a,Hp.le_trans f (Hp.le_trans n p),e,(Has.left h).mono f,u,λd b r=> ?_⟩;have l:=put x (s.part i) d b e (v _ _ (w _ _ r))
 rwa [AG] at l
theorem Has.DC {i:Nat} (o:Has h0 (aA K pm s g) k) (f:i<nP K.c):∃h1 x lp a,h0<=h1/\lT K i x lp a (s.part i)/\Has h0 (dd vk (K.q i) x) k/\Has h1 (dC 3 Di x.log (s.part i).log) k/\Has h0 (nT K i x lp a (s.part i) (g i)) k/\
  True:=by
 obtain ⟨h1,x,lp,a,b,h,d,put⟩:=o.pY f;obtain ⟨e,j,l,m⟩:=d.f2;exact ⟨e,x,lp,a,Hp.le_trans b j,h,(Has.left d).mono b,l,d.mono b,trivial⟩
theorem AH :∀(l:List Int) (s:MS) (q:Nat),(s.proc q).pc<=((l.foldl jk s).proc q).pc/\((l.foldl jk s).proc q).pc<=(s.proc q).pc+l.length
 | [],s,q=>⟨Int.le_refl _,by simp⟩
 | a::l,s,q=>by
  have h:=AH l (jk s a) q;have b:(s.proc q).pc<=((jk s a).proc q).pc/\((jk s a).proc q).pc<=(s.proc q).pc+1:=by
   unfold jk;split
   ·unfold oa;by_cases e:q=a.toNat
    ·subst e;rw [fp];show _<=(s.proc _).pc+1/\(s.proc _).pc+1<=_;omega
    ·rw [ib e];omega
   ·omega
  grind
theorem M5 {l:List dB} {k:Core} {v:Int}:(jU l k v).pc=k.pc+1:=by unfold jU;cases gD l k.pc<;>rfl
theorem Jk {c:bg} {v:Int}:∀(l:List mu) (s:MS) (q:Nat),(s.proc q).pc<=((l.foldl (λs w=>cm c s w.proc.toNat v) s).proc q).pc/\((l.foldl (λs w=>cm c s w.proc.toNat v) s).proc q).pc<=(s.proc q).pc+l.length
 | [],s,q=>⟨Int.le_refl _,by simp⟩
 | a::l,s,q=>by
  have h:=Jk (c:=c) (v:=v) l (cm c s a.proc.toNat v) q;have b:(s.proc q).pc<=((cm c s a.proc.toNat v).proc q).pc/\((cm c s a.proc.toNat v).proc q).pc<=(s.proc q).pc+1:=by
   unfold cm;by_cases e:q=a.proc.toNat
   ·subst e;rw [fp];show _<=(jU _ _ _).pc/\(jU _ _ _).pc<=_;rw [M5];show _<=(s.proc _).pc+1/\(s.proc _).pc+1<=_;omega
   ·rw [ib e];omega
  grind
theorem Jl {p:Int}:∀ {os:List Int} {qs:List (List Int)},(∀a∈(iW p os qs).2.2,a= -1\/∃q∈qs,a∈q)/\(iW p os qs).2.2.length<=qs.length
 | [],qs=>by cases qs<;>simp [iW]
 | o::os,[]=>by simp [iW]
 | o::os,q::qs=>by
  obtain ⟨h1,h⟩:=Jl (p:=p) (os:=os) (qs:=qs);have d:∀a∈(iW p os qs).2.2,a= -1\/∃c∈q::qs,a∈c:=λa ha=>(h1 a ha).imp id λ⟨c,e,f⟩=>⟨c,List.mem_cons_of_mem _ e,f⟩;unfold iW;dsimp only;split
  ·cases q with
   | nil=>
    refine ⟨λa ha=> ?_,by simp;omega⟩;rcases List.mem_cons.1 ha with rfl | ha
    ·exact .inl rfl
    ·exact d a ha
   | cons b r=>
    refine ⟨λa ha=> ?_,by simp;omega⟩;rcases List.mem_cons.1 ha with rfl | ha
    ·exact .inr ⟨a::r,List.mem_cons_self ..,List.mem_cons_self ..⟩
    ·exact d a ha
  grind
theorem Ui {c:Type} {f:c->Bool}:∀ {l:List c} {a:c},a∈gU f l->a∈l
 | [],_,h=>by cases h
 | b::l,a,h=>by
  unfold gU at h;split at h
  ·grind
  ·rcases List.mem_cons.1 h with rfl | h
   ·simp
   ·exact List.mem_cons_of_mem _ (Ui h)
theorem SP {p:Int} {l:List Nat} {q:Nat} (h:q∉l):(lQ p s l).aW q (qz p ((lQ p s l).proc q))=lQ p s (l++ [q]):=by unfold lQ MS.aW;congr 1;funext r;unfold cn;grind
end
section
variable {h0 h1 k:Hp} {K:MK} {pm:Addr} {s:MS} {a:Nat->Nat->Int}
theorem wH {p:Nat} {Q:Int->Hp->Prop} (hp:p<=1000) (b:Q ((2*p:Nat):Int) k):KR prog (p:Int) Q k:=by unfold KR;rw [aH,show (2:Int)*(p:Int)=((2*p:Nat):Int) by omega];exact b
theorem wI {p:Nat} {Q:Int->Hp->Prop} (hp:p<=1000) (b:Q ((2*p+1:Nat):Int) k):KS prog (p:Int) Q k:=by unfold KS;rw [wrap64 (show -9223372036854775808<=(2:Int)*p by omega) (by omega),aH,show (2:Int)*(p:Int)+1=((2*p+1:Nat):Int) by omega];exact b
theorem Vy {gs:List bU} {sl:Sl} {Q:Hp->Prop} {rest:Hp->Prop} (m:dq h0 K) (o:Has h0 (aA K pm s a) k) (r:Rw h0 2 eG sl gs) (z:gs.length<=1000) (y:∀g∈gs,0<=g.cX->g.cX<(nQ K.c:Int))
  (D:∀q,q<nQ K.c->0<=(s.proc q).pc/\(s.proc q).pc<=2000) (u:∀b,Has h0 (aA K pm ((gs.map (·.cX)).foldl jk s) a) b->rest b):
  ay (α1:=Int) (λj f i=>
 (if (decide (f<((sl.len:Nat):Int)))=true then
 ((bD sl.base sl.len f)/\aQ none KU i (sat sl.base 2 f) λx=>
 bx prog zM [(.pointer (some pm)),(.int .i64 x.cX)] (λn=>
 j (yw (f+(1:Int))) n) i)
 else rest i)) (0:Int) k:=by
 have B:=r.1;refine ay.intro (λ(t:Int) b=>0<=t/\t<=(gs.length:Int)/\Has h0 (aA K pm (((gs.map (·.cX)).take t.toNat).foldl jk s) a) b) (λt _=>(gs.length-t).toNat) ⟨by omega,by omega,by simpa using o⟩ ?_;rintro t b ⟨w,t1,d⟩;by_cases h:t<(gs.length:Int)
 ·rw [if_pos (gI)];refine Rs.get (sh:=KU) (Rw.mono d.le r) (λ_=>rfl) (by omega) w h λ(g:bU) p=> ?_;have C:=List.mem_of_getElem? p;have hb:=AH ((gs.map (·.cX)).take t.toNat) s g.cX.toNat;have A:((gs.map (·.cX)).take t.toNat).length<=1000:=by grind
  refine OI (AE m d (λh0=> ?_) λE v=> ?_)
  ·grind
  ·rw [aH];refine ⟨⟨by omega,by omega,?_⟩,by omega⟩;have e:(t+1).toNat=t.toNat+1:=by omega
   have l:(gs.map (·.cX))[t.toNat]? =some g.cX:=by grind
   rw [e,List.take_add_one,l];simpa using v
 ·rw [if_neg (λe=>h (by have:=of_decide_eq_true e;omega))];refine u b ?_;have e:t.toNat=gs.length:=by omega
  rw [e,List.take_of_length_le (by simp)] at d;exact d
theorem M6 {b:List mu} {sl:Sl} {rest:Hp->Prop} (m:dq h0 K) (o:Has h0 (aA K pm s a) k) (r:Rw h0 2 eW sl b) (P:b.length<=10000) (G:∀w∈b,0<=w.proc/\w.proc<(nQ K.c:Int))
  (T:∀q,q<nQ K.c->0<=(s.proc q).pc/\(s.proc q).pc<=4000) (H:∀d,Has h0 (aA K pm (b.foldl (λs w=>cm K.c s w.proc.toNat 2) s) a) d->rest d):
  ay (α1:=Int) (λC l i=>
 (if (decide (l<((sl.len:Nat):Int)))=true then
 ((bD sl.base sl.len l)/\aQ none aE i (sat sl.base 2 l) λB=>
 ag none (some pm) λJ=>
 aQ none al i (Addr.add J 11) λn=>
 ((bD n.base n.len B.cX)/\aQ none aj i (sat n.base 1 B.cX) λN=>
 bx prog vi [(.pointer (some pm)),(.pointer N),(.int .i64 (2:Int))] (λF=>
 C (yw (l+(1:Int))) F) i))
 else rest i)) (0:Int) k:=by
 have L:Rs h0 aE 2 sl (b.map nq):=r.map (f:=nq) (enc:=λx=>aY (aE.enc x));have R:=r.1;refine ay.intro (λ(t:Int) d=>0<=t/\t<=(b.length:Int)/\Has h0 (aA K pm ((b.take t.toNat).foldl (λs w=>cm K.c s w.proc.toNat 2) s) a) d) (λt _=>(b.length-t).toNat) ⟨by omega,by omega,by simpa using o⟩ ?_;rintro t d ⟨M,t1,j⟩;by_cases h:t<(b.length:Int)
 ·rw [if_pos (gI)];refine Rs.get (sh:=aE) (L.mono j.le) (λ_=>rfl) (by omega) M (by grind) λ(g:bt) O=> ?_;obtain ⟨w,z,rfl⟩:∃w,b[t.toNat]? =some w/\nq w=g:=by grind
  have S:=G w (List.mem_of_getElem? z);have hb:=Jk (c:=K.c) (v:=2) (b.take t.toNat) s w.proc.toNat;have Q:(b.take t.toNat).length<=10000:=by grind
  have A:w.proc.toNat<nQ K.c:=by omega
  have E:((w.proc.toNat:Nat):Int)=w.proc:=by omega
  obtain ⟨u,y⟩:=m.ptr j A;rw [E] at u y;have D:(nq w).cX=w.proc:=rfl;rw [D];refine aK (j.ee.ld (shf:=al) K.x.procs rfl ⟨u,some (K.p w.proc.toNat),y,?_⟩);refine zD (Bl m j A ?_ λU I=> ?_)
  ·grind
  ·rw [aH];refine ⟨⟨by omega,by omega,?_⟩,by omega⟩;have e:(t+1).toNat=t.toNat+1:=by omega
   rw [e,List.take_add_one,z];simpa using I
 ·rw [if_neg (λe=>h (by have:=of_decide_eq_true e;omega))];refine H d ?_;have e:t.toNat=b.length:=by omega
  grind
end
section
variable {h0 h1 k:Hp} {K:MK} {pm:Addr} {s:MS} {d:Nat->Nat->Int}
theorem Vz {p i:Nat} {rest:Hp->Prop} (m:dq h0 K) (D:cc K.c) (o:Has h0 (aA K pm s d) k) (sa:∀q,q<nQ K.c->pF K.c (s.proc q)) (hp:p<nQ K.c) (O:i<nP K.c)
  (P:∀j,Has h0 (aA K pm (lQ p s (dS K.c i)) d) j->rest j):
  ay (α1:=Int) (λH u f=>
 (if (decide (u<(((K.own i).len:Nat):Int)))=true then
 ((bD (K.own i).base (K.own i).len u)/\aQ none (ae .i64) f (sat (K.own i).base 1 u) λF=>
 ag none (some pm) λZ=>
 aQ none al f (Addr.add Z 11) λy=>
 ((bD y.base y.len F)/\aQ none aj f (sat y.base 1 F) λx6=>
 ag none x6 λp7=>
 aQ none aj f (Addr.add p7 14) λx7=>
 ag none (some (K.p p)) λp8=>
 aQ none (ae .i64) f (Addr.add p8 0) λx8=>
 aa prog RE [(.pointer x7),(.int .i64 x8)] bu (λr M=>
 H (yw (u+(1:Int))) M) f))
 else rest f)) (0:Int) k:=by
 have r:=m.own i O;have R:=r.1;rw [List.length_map] at R;have a8:(dS K.c i).length<=1000:=by have h1:(dS K.c i).length<=(List.range (nQ K.c)).length:=List.length_filter_le ..;rw [List.length_range] at h1;have:=D.procs;omega
 refine ay.intro (λ(t:Int) j=>0<=t/\t<=((dS K.c i).length:Int)/\Has h0 (aA K pm (lQ p s ((dS K.c i).take t.toNat)) d) j) (λt _=>((dS K.c i).length-t).toNat) ⟨by omega,by omega,by
  have e:lQ p s ((dS K.c i).take (0:Int).toNat)=s:=by unfold lQ;simp
  rw [e];exact o⟩ ?_
 rintro t j ⟨t0,t1,n⟩;by_cases h:t<((dS K.c i).length:Int)
 ·rw [if_pos (gI)];refine Rs.get (sh:=ae .i64) (r.mono n.le) (λ_=>rfl) (by omega) t0 (by grind) λ(g:Int) a9=> ?_;obtain ⟨q,w,rfl⟩:∃q:Nat,(dS K.c i)[t.toNat]? =some q/\(q:Int)=g:=by grind
  have S:=List.mem_of_getElem? w;have v:=(fM.1 S).1;have C:q∉(dS K.c i).take t.toNat:=by
   intro b0;have b3:=H2 (c:=K.c) (i:=i);obtain ⟨b2,N⟩:=List.getElem?_eq_some_iff.1 w;have b5:(dS K.c i)=(dS K.c i).take t.toNat++q::(dS K.c i).drop (t.toNat+1):=by rw [<-N,List.getElem_cons_drop,List.take_append_drop]
   grind
  obtain ⟨J,L⟩:=m.ptr n v;refine aK (n.ee.ld (shf:=al) K.x.procs rfl ⟨J,some (K.p q),L,?_⟩);obtain ⟨h2,z,a,l2,T,Y,E,put⟩:=n.kn v;have eq:z.post=some a:=T.2.2.2.2.2.2;refine aK (Y.ld (shf:=aj) z.post rfl ?_);obtain ⟨f,G,ap,l3,U,op,_⟩:=n.da hp;refine aK (op.ld (shf:=ae .i64) G.df rfl ?_);have I:G.df=(p:Int):=U.1;rw [eq,I];have B:(lQ p s ((dS K.c i).take t.toNat)).proc q=s.proc q:=if_neg C;rw [B] at E put;have sq:=sa q v;have b4:=D.parts;have b1:=sq.len;refine Zx (Vn E ⟨by omega,λl Q=>(sq.dK l Q).waiters⟩ λb V W=> ?_);have X:=put _ _ _ W;rw [aH];refine ⟨⟨by omega,by omega,?_⟩,by omega⟩;have e:(t+1).toNat=t.toNat+1:=by omega
  have A:=SP (p:=p) (s:=s) C;rw [B] at A;rw [e,List.take_add_one,w];show Has h0 (aA K pm (lQ p s ((dS K.c i).take t.toNat++ [q])) d) V;rw [<-A];exact X
 ·rw [if_neg (λe=>h (by have:=of_decide_eq_true e;omega))];refine P j ?_;have e:t.toNat=(dS K.c i).length:=by omega
  grind
theorem F6 {q:Nat}:∀ {l:List Int} {s:MS},((l.foldl jk s).proc q).ah=(s.proc q).ah
 | [],s=>rfl
 | a::l,s=>by
  rw [List.foldl_cons,F6];unfold jk;split
  ·unfold oa;by_cases e:q=a.toNat
   ·subst e;rw [fp];rfl
   ·rw [ib e]
  ·rfl
theorem Fu {a:Type} {f:a->Bool}:∀ {l:List a},(gU f l).length<=l.length
 | []=>Nat.le_refl _
 | b::l=>by have:=Fu (f:=f) (l:=l);unfold gU;grind
def qp (y:ak):ak:={y with timer:=0,cx:=0}
def sD (s:MS):MS:=⟨s.tick,s.part,λq=>qp (s.proc q)⟩
theorem CE :aA K pm s d=aA K pm (sD s) d:=rfl
theorem CI {p:Nat} {y:ak}:sD (s.aW p y)=(sD s).aW p (qp y):=by unfold sD MS.aW;dsimp only;rw [Wv]
theorem SR {c:bg} {p:Nat} {v:Int}:sD (cm c s p v)=cm c (sD s) p v:=by unfold cm;rw [CI];rfl
theorem U5 {c:bg} {v:Int}:∀ {l:List mu} {s:MS},sD (l.foldl (λs w=>cm c s w.proc.toNat v) s)=l.foldl (λs w=>cm c s w.proc.toNat v) (sD s)
 | [],s=>rfl
 | a::l,s=>by rw [List.foldl_cons,U5,SR,List.foldl_cons]
theorem VA {p:Nat} (o:Has h0 (aA K pm (((s.proc p).ah.flatMap (·.waiters)).foldl (λs w=>cm K.c s w.proc.toNat 2) (iB s p)) d) k):Has h0 (aA K pm (pK K.c (gK s p) p) d) k:=by
 have a:((gK s p).proc p).ah=(s.proc p).ah:=by unfold gK;rw [fp]
 have b:sD (iB (gK s p) p)=sD (iB s p):=by unfold iB gK;rw [fp,yn,CI,CI];rfl
 unfold pK;rw [a,CE,U5,b,<-U5,<-CE];exact o
def pL (d:Nat->Nat->Int) (i p:Nat):Nat->Nat->Int:=cn d i (cn (cn (d i) (2*p) 0) (2*p+1) 0)
theorem M7 {p:Nat} {st:Int} {Q:Hp->Prop} (m:dq h0 K) (y:cc K.c) (o:Has h0 (aA K pm s d) k) (j:jv K.c s) (hp:p<nQ K.c)
  (M:∀t,Has h0 (aA K pm (oZ K.c s p st) (pL d (az K.c p) p)) t->Q t):QA prog (some pm) (some (K.p p)) st Q k:=by
 unfold QA;rw [wY] at M;have r:az K.c p<nP K.c:=y.eJ;have i2:=y.procs;have i0:=y.parts;obtain ⟨h1,z,a,l1,T,oz,put⟩:=o.da hp;refine aK (o.ee.ld (shf:=al) K.x.parts rfl ?_);refine aK (oz.ld (shf:=ae .i64) z.part rfl ?_);have ep:z.part=(az K.c p:Int):=T.2.1;rw [ep];obtain ⟨g1,g2⟩:=m.sd o r;refine ⟨g1,some (K.q (az K.c p)),g2,?_⟩;refine aK (oz.st (u9 z st) (by show 3+1<=15;omega) rfl λk1 o1=> ?_);refine aK (o1.st (sy (u9 z st) false) (by show 13+1<=15;omega) rfl λk2 o2=> ?_);have B:=put _ _ _ ((T.state st).bN false) rfl rfl o2;have B:Has h0 (aA K pm (fF s p st) d) k2:=B;obtain ⟨h2,x,lp,wp,l2,hx,ox,_⟩:=B.rB r;refine aK (ox.ld (shf:=al) x.procs rfl ?_);have ex:x.procs=K.own (az K.c p):=hx.1;rw [ex];have b3:∀q,q<nQ K.c->pF K.c ((fF s p st).proc q):=λq f=>by
  unfold fF;by_cases e:q=p
  ·subst e;rw [fp];have:=j.proc q f;exact ⟨this.pc,this.len,this.cur,this.dK⟩
  ·rw [ib e];exact j.proc q f
 have c4:∀q,((dM K.c s p st).proc q).pc=(s.proc q).pc:=λq=>by
  have h1:((fF s p st).proc q).pc=(s.proc q).pc:=by
   unfold fF;by_cases e:q=p
   ·subst e;rw [fp]
   ·rw [ib e]
  show (if q∈dS K.c (az K.c p) then qz p ((fF s p st).proc q) else (fF s p st).proc q).pc=_;split<;>exact h1
 refine Vz m y B b3 hp r λk3 C=> ?_;have C:Has h0 (aA K pm (dM K.c s p st) d) k3:=C;obtain ⟨I,x4,d7,j0,l4,d0,e9,ol,b0⟩:=C.pX r;have el:x4.ai=some d7:=d0.2.2.2.2.1;obtain ⟨h5,z5,a5,l5,d5,f5,_⟩:=C.da hp;refine aK (e9.ld (shf:=aj) x4.ai rfl ?_);refine aK (f5.ld (shf:=ae .i64) z5.df rfl ?_);have ei:z5.df=(p:Int):=d5.1;rw [el,ei];have v:=j.part _ r;have c0:(dM K.c s p st).part=s.part:=rfl;rw [c0] at ol b0;refine Zy (MF ol ⟨by have:=v.mh.1;omega,v.mh.2⟩ v.gG (by omega) λsl k4 gs c3 o5=> ?_);have o6:Has h0 ((aA K pm (oY K.c (dM K.c s p st) p) d).star (dC 2 eG sl gs)) k4:=o5.carry λt F=>b0 _ _ t F;obtain ⟨J,W,o7,hr⟩:=o6.aside (λ_=>rfl);have X:=m.mono W;have L:=Jl (p:=(p:Int)) (os:=(s.part (az K.c p)).ax) (qs:=(s.part (az K.c p)).an.map (eh p));have g9:gs.length<=8:=by have:=L.2;rw [<-c3,List.length_map,List.length_map] at this;have:=v.mh.1;omega
 have c7:∀g∈gs,0<=g.cX->g.cX<(nQ K.c:Int):=by
  intro g hg h0;have:g.cX∈(iW (p:Int) (s.part (az K.c p)).ax ((s.part (az K.c p)).an.map (eh p))).2.2:=by grind
  rcases L.1 _ this with h | ⟨q,f,hm⟩
  ·omega
  ·obtain ⟨q',c5,rfl⟩:=List.mem_map.1 f;exact ((v.nd q' c5).2 _ (Ui hm)).2
 have S:∀q,((oY K.c (dM K.c s p st) p).proc q).pc=(s.proc q).pc:=c4;refine Vy (Q:=Q) X o7 hr (by omega) c7 (λq f=> ?_) λk5 G=> ?_
 ·rw [S];have:=(j.proc q f).pc;omega
 have H:(gs.map (·.cX)).foldl jk (oY K.c (dM K.c s p st) p)=iA K.c (dM K.c s p st) p:=by show _=(iW (p:Int) ((dM K.c s p st).part (az K.c p)).ax (((dM K.c s p st).part (az K.c p)).an.map (eh p))).2.2.foldl jk _;grind
 rw [H] at G;have i1:∀q,q<nQ K.c->0<=((iA K.c (dM K.c s p st) p).proc q).pc/\((iA K.c (dM K.c s p st) p).proc q).pc<=2000:=λq f=>by have:=AH (gs.map (·.cX)) (oY K.c (dM K.c s p st) p) q;rw [H,S,List.length_map] at this;have:=(j.proc q f).pc;omega
 have R:∀q,((iA K.c (dM K.c s p st) p).proc q).ah=((dM K.c s p st).proc q).ah:=λq=>by unfold iA;rw [F6];rfl
 generalize i3:iA K.c (dM K.c s p st) p=b at*;obtain ⟨h7,x7,i6,g0,l7,d1,Z,ow,f8⟩:=G.iv r;have c1:x7.dz=some g0:=d1.2.2.2.2.2;obtain ⟨h8,z8,a8,l8,d6,f6,_⟩:=G.da hp;refine aK (Z.ld (shf:=aj) x7.dz rfl ?_);refine aK (f6.ld (shf:=ae .i64) z8.df rfl ?_);have b8:z8.df=(p:Int):=d6.1;rw [b8];refine Gl (wH (by omega) ?_);refine ⟨⟨Z.dQ (n:=1) rfl,trivial⟩,?_⟩;rw [c1];refine F8 (Af ow (by omega) λb1 k6 o9=> ?_);have Y:=f8 _ _ o9;obtain ⟨h9,x9,i7,g3,l9,d2,a9,e7,f9⟩:=Y.iv r;have c2:x9.dz=some g3:=d2.2.2.2.2.2;obtain ⟨g5,b4,g4,i4,d3,f0,_⟩:=Y.da hp;refine aK (a9.ld (shf:=aj) x9.dz rfl ?_);refine aK (f0.ld (shf:=ae .i64) b4.df rfl ?_);have b7:b4.df=(p:Int):=d3.1;rw [b7];refine Gm (wI (by omega) ?_);refine ⟨⟨a9.dQ (n:=1) rfl,trivial⟩,?_⟩;rw [c2];refine F8 (Af e7 (by omega) λb2 k7 d8=> ?_);have A:=f9 _ _ d8;rw [kM,Ji] at A;have A:Has J (aA K pm b (pL d (az K.c p) p)) k7:=A;obtain ⟨g6,b5,b6,i5,d4,f4,e5,f7⟩:=A.kn hp;have b9:b5.post=some b6:=d4.2.2.2.2.2.2;refine aK (f4.ld (shf:=aj) b5.post rfl ?_);rw [b9];have i9:=b3 p hp;have P:∀l∈(b.proc p).ah,∃u∈(s.proc p).ah,l.waiters.length<=u.waiters.length/\∀w∈l.waiters,w∈u.waiters:=by
  intro l i;rw [R] at i;have D:((fF s p st).proc p).ah=(s.proc p).ah:=by unfold fF;rw [fp]
  have N:l∈(if p∈dS K.c (az K.c p) then qz p ((fF s p st).proc p) else (fF s p st).proc p).ah:=i;rw [if_pos (fM.2 ⟨hp,rfl⟩)] at N;obtain ⟨l0,O,rfl⟩:=List.mem_map.1 N;rw [D] at O;exact ⟨l0,O,Fu,λw E=>Ui E⟩
 have h4:(b.proc p).ah.length=nP K.c+1:=by
  rw [R];have D:((fF s p st).proc p).ah=(s.proc p).ah:=by unfold fF;rw [fp]
  show (if p∈dS K.c (az K.c p) then qz p ((fF s p st).proc p) else (fF s p st).proc p).ah.length=_;rw [if_pos (fM.2 ⟨hp,rfl⟩)];show (List.map _ _).length=_;rw [List.length_map,D];exact (j.proc p hp).len
 have c8:∀l∈(b.proc p).ah,l.waiters.length<=100:=λl i=>by obtain ⟨u,h1,h2,_⟩:=P l i;have:=((j.proc p hp).dK u h1).waiters;omega
 refine ZL (Oc e5 ⟨by omega,c8⟩ λsw k8 d9=> ?_);have e0:Has J ((aA K pm (iB b p) (pL d (az K.c p) p)).star (dC 2 eW sw ((b.proc p).ah.flatMap (·.waiters)))) k8:=d9.carry λt F=>f7 _ _ t F;obtain ⟨g7,V,e2,c6⟩:=e0.aside (λ_=>rfl);have g8:((b.proc p).ah.flatMap (·.waiters)).length<=900:=by
  have key:∀(m:List ba),(∀l∈m,l.waiters.length<=100)->(m.flatMap (·.waiters)).length<=m.length*100:=λm=>by
   induction m with
   | nil=>intro _;simp
   | cons a m ih=>intro h;have:=ih λl i=>h l (List.mem_cons_of_mem _ i);have:=h a (List.mem_cons_self ..);simp only [List.flatMap_cons,List.length_append,List.length_cons];omega
  grind
 refine M6 (X.mono V) e2 c6 (by omega) (λw E=> ?_) (λq f=> ?_) λU e3=>M U ?_
 ·obtain ⟨l,i,c9⟩:=List.mem_flatMap.1 E;obtain ⟨u,h1,_,I⟩:=P l i;exact ((j.proc p hp).dK u h1).j9 w (I w c9)
 ·have e6:((iB b p).proc q).pc=(b.proc q).pc:=by
   unfold iB;by_cases e:q=p
   ·subst e;rw [fp]
   ·rw [ib e]
  grind
 · -- timers are in the dz alone
  have e4:Has h0 (aA K pm (((b.proc p).ah.flatMap (·.waiters)).foldl (λs w=>cm K.c s w.proc.toNat 2) (iB b p)) (pL d (az K.c p) p)) U:=e3.mono (Hp.le_trans W V);exact VA e4
end
theorem Ug {b:Type} {l:List b} {n:Nat} {f:b->b} {a:b} (h:l[n]? =some a):l.modify n f=l.set n (f a):=by refine List.ext_getElem? λj=> ?_;grind
theorem JZ {a b:Int}:ir a b=ph a b:=by unfold ir ph;omega
theorem OK {a b:Int}:iq a b=tN a b:=by unfold iq tN;omega
section
variable {h0 h1 k:Hp} {K:MK} {pm:Addr} {s:MS} {d:Nat->Nat->Int}
def ud (d:Nat->Nat->Int) (i p:Nat) (t v:Int):Nat->Nat->Int:=cn d i (cn (d i) (2*p) (if 0<v then t+ph v 1099511627776 else 0))
theorem VB {p:Nat} {v:Int} {Q:Hp->Prop} (m:dq h0 K) (w:cc K.c) (o:Has h0 (aA K pm s d) k) (hp:p<nQ K.c) (ht:0<=s.tick/\s.tick<=4611686018427387904)
  (j:∀u,Has h0 (aA K pm (s.aW p {s.proc p with bN:=false}) (ud d (az K.c p) p s.tick v)) u->Q u):
 ag none (some (K.p p)) λp8=>
 cq k (Addr.add p8 13) [(.bool false)] (λi=>
 ag none (some (K.q (az K.c p))) λE=>
 aQ none aj i (Addr.add E 6) λe=>
 ag none (some (K.p p)) λZ=>
 aQ none (ae .i64) i (Addr.add Z 0) λx8=>
 aa prog vn [(.int .i64 x8)] (ae .i64) (λr2 l=>
 (((aT l (Addr.add E 6) [(.pointer e)])/\True)/\aa prog Ai [(.pointer e),(.int .i64 r2)] bu (λr3 b=>
 (if (decide (v>(0:Int)))=true then
 ag none (some (K.q (az K.c p))) λC=>
 aQ none aj b (Addr.add C 6) λf=>
 ag none (some (K.p p)) λa8=>
 aQ none (ae .i64) b (Addr.add a8 0) λb4=>
 ag none (some pm) λD=>
 aQ none (ae .i64) b (Addr.add D 9) λF=>
 aa prog vn [(.int .i64 b4)] (ae .i64) (λr4 g=>
 (((aT g (Addr.add C 6) [(.pointer f)])/\((aT g (Addr.add D 9) [(.int .i64 F)])/\(True/\True)))/\aa prog vj [(.pointer f),(.int .i64 r4),(.int .i64 (yw (F+(ir v (1099511627776:Int)))))] (ae .i64) (λr5 M=>
 Q M) g)) b
 else
 Q b)) l)) i):=by
 have r:az K.c p<nP K.c:=w.eJ;have b8:=w.procs;obtain ⟨h1,z,a,l1,t,X,put⟩:=o.da hp;refine aK (X.st (sy z false) (by show 13+1<=15;omega) rfl λk2 y=> ?_);have T:=put _ _ _ (t.bN false) rfl rfl y;obtain ⟨g,e,c0,b2,l7,N,A,V,a9⟩:=T.iv r;have J:e.dz=some b2:=N.2.2.2.2.2;refine aK (A.ld (shf:=aj) e.dz rfl ?_);refine aK (y.ld (shf:=ae .i64) z.df rfl ?_);have I:z.df=(p:Int):=t.1;rw [I];refine Gl (wH (by omega) ?_);refine ⟨⟨A.dQ (n:=1) rfl,trivial⟩,?_⟩;rw [J];refine F8 (Af V (by omega) λb1 k6 U=> ?_);have h:=a9 _ _ U;unfold ud at j;by_cases hv:0<v
 ·rw [if_pos (decide_eq_true hv)];rw [if_pos hv] at j;obtain ⟨h9,f,c1,b3,l9,O,B,W,b0⟩:=h.iv r;have L:f.dz=some b3:=O.2.2.2.2.2;obtain ⟨b6,G,b5,b9,P,Y,_⟩:=h.da hp;refine aK (B.ld (shf:=aj) f.dz rfl ?_);refine aK (Y.ld (shf:=ae .i64) G.df rfl ?_);have H:G.df=(p:Int):=P.1;rw [H];refine aK (h.ee.ld (shf:=ae .i64) s.tick rfl ?_);refine Gl (wH (by omega) ?_);refine ⟨⟨B.dQ (n:=1) rfl,h.ee.dQ (n:=1) rfl,trivial,trivial⟩,?_⟩;have b7:0<ph v 1099511627776/\ph v 1099511627776<=1099511627776:=by unfold ph;split<;>omega
  rw [L,JZ,aH];refine Q0 (Bg W (by omega) (by omega) (by omega) λR S=>j R ?_);have x:=b0 _ _ S;rw [kM,Ji,Ji] at x;exact x
 grind
theorem VC {p:Nat} {v:Int} {Q:Hp->Prop} (m:dq h0 K) (g:cc K.c) (o:Has h0 (aA K pm s d) k) (hp:p<nQ K.c) (X:0<=s.tick/\s.tick<=4611686018427387904)
  (A:∀f,Has h0 (aA K pm (s.aW p {s.proc p with state:=4}) (cn d (az K.c p) (cn (d (az K.c p)) (2*p+1) (s.tick+ph (tN v 1) 1099511627776)))) f->Q f):
 ag none (some (K.q (az K.c p))) λj=>
 aQ none aj k (Addr.add j 6) λl=>
 ag none (some (K.p p)) λN=>
 aQ none (ae .i64) k (Addr.add N 0) λR=>
 ag none (some pm) λi=>
 aQ none (ae .i64) k (Addr.add i 9) λb=>
 aa prog wx [(.int .i64 R)] (ae .i64) (λr2 e=>
 (((aT e (Addr.add j 6) [(.pointer l)])/\((aT e (Addr.add i 9) [(.int .i64 b)])/\(True/\True)))/\aa prog vj [(.pointer l),(.int .i64 r2),(.int .i64 (yw (b+(ir (iq v (1:Int)) (1099511627776:Int)))))] (ae .i64) (λr3 w=>
 ag none (some (K.p p)) λM=>
 cq w (Addr.add M 3) [(.int .i64 (4:Int))] (λx=>
 Q x)) e)) k:=by
 have y:az K.c p<nP K.c:=g.eJ;have W:=g.procs;obtain ⟨U,b,a9,P,l9,B,h,I,O⟩:=o.iv y;have u:b.dz=some P:=B.2.2.2.2.2;obtain ⟨T,r,S,a8,D,L,_⟩:=o.da hp;refine aK (h.ld (shf:=aj) b.dz rfl ?_);refine aK (L.ld (shf:=ae .i64) r.df rfl ?_);have t:r.df=(p:Int):=D.1;rw [t];refine aK (o.ee.ld (shf:=ae .i64) s.tick rfl ?_);refine Gm (wI (by omega) ?_);refine ⟨⟨h.dQ (n:=1) rfl,o.ee.dQ (n:=1) rfl,trivial,trivial⟩,?_⟩;have V:0<ph (tN v 1) 1099511627776/\ph (tN v 1) 1099511627776<=1099511627776:=by unfold ph tN;omega
 rw [u,JZ,OK,aH];refine Q0 (Bg I (by omega) (by omega) (by omega) λY F=> ?_);have G:=O _ _ F;obtain ⟨h1,z,a,Z,C,J,put⟩:=G.da hp;exact aK (J.st (u9 z 4) (by show 3+1<=15;omega) rfl λE H=>A E (put _ _ _ (C.state 4) rfl rfl H))
theorem M8 {p:Nat} {n:Int} {Q:Hp->Prop} (m:dq h0 K) (mc:cc K.c) (o:Has h0 (aA K pm s d) k) (H:jv K.c s) (hp:p<nQ K.c) (hn:0<=n/\n<K.c.ai) (S:∀q∈(s.part (az K.c p)).an,(p:Int)∉q)
  (h:∀E,Has h0 (aA K pm (jN K.c s p n) d) E->Q E):
 ag none (some (K.q (az K.c p))) λp8=>
 aQ none aj k (Addr.add p8 5) λx7=>
 ag none (some (K.p p)) λp9=>
 aQ none (ae .i64) k (Addr.add p9 0) λx8=>
 aZ prog KG [(.pointer x7),(.int .i64 n),(.int .i64 x8)] bu (ae .i64) (λr2 r3 g=>
 (if r2=true then
 ag none (some (K.p p)) λi=>
 aQ none eo g (Addr.add i 4) λC=>
 aa prog vp [C.v] eo (λb f=>
 ag none (some (K.p p)) λB=>
 cq f (Addr.add B 4) [(.int .i64 b.PC),(.int .i64 b.cC),(.int .i64 b.cD),(.int .i64 b.cE),(.int .i64 b.cF),(.int .i64 b.cG),(.int .i64 b.cH),(.int .i64 b.cI),(.int .i64 b.cJ)] (λr=>
 Q r)) g
 else
 ag none (some (K.p p)) λi=>
 cq g (Addr.add i 3) [(.int .i64 (3:Int))] (λf=>
 Q f))) k:=by
 have D:az K.c p<nP K.c:=mc.eJ;have l:=H.part _ D;have b3:=l.ig;have b2:=l.gG;obtain ⟨h3,I,Z,b5,l4,T,a8,ol,G⟩:=o.pX D;have N:I.ai=some Z:=T.2.2.2.2.1;obtain ⟨b1,J,b0,b4,U,a9,_⟩:=o.da hp;refine aK (a8.ld (shf:=aj) I.ai rfl ?_);refine aK (a9.ld (shf:=ae .i64) J.df rfl ?_);have M:J.df=(p:Int):=U.1;rw [N,M];have R:n.toNat<(s.part (az K.c p)).an.length:=by omega
 have O:((n.toNat:Nat):Int)=n:=by omega
 have u:=List.getElem?_eq_getElem R;have t:=List.getElem?_eq_getElem (show n.toNat<(s.part (az K.c p)).ax.length by omega);generalize (s.part (az K.c p)).an[n.toNat]=q at u;generalize (s.part (az K.c p)).ax[n.toNat]=ow at t;unfold jN at h;dsimp only at h;rw [ou t,Ug u] at h;have key:=Vq (n:=n.toNat) (w:=(p:Int)) (Q:=λr2 (r3:Int) g=>(if r2=true then
 ag none (some (K.p p)) λi=>
 aQ none eo g (Addr.add i 4) λC=>
 aa prog vp [C.v] eo (λb f=>
 ag none (some (K.p p)) λB=>
 cq f (Addr.add B 4) [(.int .i64 b.PC),(.int .i64 b.cC),(.int .i64 b.cD),(.int .i64 b.cE),(.int .i64 b.cF),(.int .i64 b.cG),(.int .i64 b.cH),(.int .i64 b.cI),(.int .i64 b.cJ)] (λr=>
 Q r)) g
 else
 ag none (some (K.p p)) λi=>
 cq g (Addr.add i 3) [(.int .i64 (3:Int))] (λf=>
 Q f))) ol ⟨by have:=l.mh.1;omega,l.mh.2⟩ S (by omega) t u (λf V y=> ?_) λf V y=> ?_
 ·rw [O] at key;exact Zt key
 ·dsimp only;rw [if_pos rfl];rw [if_pos f] at h;have j:=G _ _ _ y;obtain ⟨h1,z,a,Y,x,A,put⟩:=j.da hp;have e:fR (dG z)=(s.proc p).core:=x.2.2.2.2.1;have P:(dG z).PC=(s.proc p).pc:=congrArg Core.pc e;refine aK (A.ld (shf:=eo) (dG z) rfl ?_);refine AQ (BU (by rw [P];exact H.told hp) λc' L=> ?_);refine aK (uy j hp λX F=>h X ?_);rw [L,e] at F;exact F
 ·dsimp only;rw [if_neg (by decide)];rw [if_neg f] at h;have j:=G _ _ _ y;obtain ⟨h1,z,a,Y,x,A,put⟩:=j.da hp;exact aK (A.st (u9 z 3) (by show 3+1<=15;omega) rfl λW o4=>h W (put _ _ _ (x.state 3) rfl rfl o4))
theorem Jm {w:Int}:∀ {os:List Int} {i j:Nat},os[j]? =some w->((i+j:Nat):Int)∈hold w os i
 | [],_,j,h=>by simp at h
 | o::r,i,0,h=>by unfold hold;grind
 | o::r,i,j+1,h=>by have a:=Jm (i:=i+1) (j:=j) (os:=r) (w:=w) (by simpa using h);rw [show i+1+j=i+(j+1) by omega] at a;unfold hold;grind
theorem Uh {p:Nat} {n:Int} {Q:Hp->Prop} (m:dq h0 K) (mc:cc K.c) (o:Has h0 (aA K pm s d) k) (O:jv K.c s) (hp:p<nQ K.c) (hn:0<=n/\n<K.c.ai)
  (f:∀y,Has h0 (aA K pm (xD K.c s p n) d) y->Q y):
 ag none (some (K.q (az K.c p))) λp8=>
 aQ none aj k (Addr.add p8 5) λx7=>
 ag none (some (K.p p)) λp9=>
 aQ none (ae .i64) k (Addr.add p9 0) λx8=>
 aa prog KD [(.pointer x7),(.int .i64 x8)] al (λr2 D=>
 ((True/\True)/\aa prog FB [r2.v,(.int .i64 n)] bu (λr3 b=>
 (if r3=true then
 ag none (some (K.q (az K.c p))) λc1=>
 aQ none aj b (Addr.add c1 5) λx9=>
 ag none (some (K.p p)) λc2=>
 aQ none (ae .i64) b (Addr.add c2 0) λc4=>
 aZ prog Gi [(.pointer x9),(.int .i64 n),(.int .i64 c4)] (ae .i64) (ae .i64) (λI r5 g=>
 bx prog zM [(.pointer (some pm)),(.int .i64 I)] (λE=>
 Q E) g) b
 else
 Q b)) D)) k:=by
 have F:az K.c p<nP K.c:=mc.eJ;have C:=O.part _ F;have d2:=C.ig;have d1:=C.gG;have d0:=C.mh.1;obtain ⟨h3,R,b5,d7,l4,b1,b8,ol,c3⟩:=o.pX F;have W:R.ai=some b5:=b1.2.2.2.2.1;obtain ⟨c7,S,c5,d3,b2,b9,_⟩:=o.da hp;refine aK (b8.ld (shf:=aj) R.ai rfl ?_);refine aK (b9.ld (shf:=ae .i64) S.df rfl ?_);have U:S.df=(p:Int):=b2.1;rw [W,U];have a9:n.toNat<(s.part (az K.c p)).an.length:=by omega
 have Y:((n.toNat:Nat):Int)=n:=by omega
 have x:=List.getElem?_eq_getElem a9;have u:=List.getElem?_eq_getElem (show n.toNat<(s.part (az K.c p)).ax.length by omega);generalize (s.part (az K.c p)).an[n.toNat]=q at x;generalize (s.part (az K.c p)).ax[n.toNat]=M at u;unfold xD at f;dsimp only at f;rw [ou u,ou x] at f;refine Xt (HX ol (by omega) (by omega) λsl G l=> ?_);have o3:Has h0 ((aA K pm s d).star (dC 1 dZ sl (hold (p:Int) (s.part (az K.c p)).ax 0))) G:=l.carry λy o'=>by
  have D:=c3 _ _ y o';have e:s.dU (az K.c p) {s.part (az K.c p) with ax:=(s.part (az K.c p)).ax,an:=(s.part (az K.c p)).an}=s:=AG
  rwa [e] at D
 obtain ⟨g,A,B,hr⟩:=o3.aside (λ_=>rfl);refine ⟨⟨trivial,trivial⟩,?_⟩;have a8:(hold (p:Int) (s.part (az K.c p)).ax 0).length<=1000000:=by
  have:∀(os:List Int) (i:Nat),(hold (p:Int) os i).length<=os.length:=by
   intro os
   induction os with
   | nil=>intro i;exact Nat.le_refl _
   | cons a r ih=>intro i;have:=ih (i+1);unfold hold;split<;>simp<;>omega
  grind
 refine Oi (UZ (Rw.mono B.le hr) a8 ?_);have J:n∈hold (p:Int) (s.part (az K.c p)).ax 0↔M=(p:Int):=by
  constructor
  ·intro h;obtain ⟨j,e1,e2⟩:=CV h;grind
  ·intro h;subst h;have:=Jm (i:=0) u;grind
 by_cases h:M=(p:Int)
 ·rw [if_pos (decide_eq_true (J.2 h))];rw [if_pos h] at f;subst h;have L:=m.mono A;obtain ⟨c8,P,b4,d6,d4,b0,b7,b6,N⟩:=B.pX F;have X:P.ai=some b4:=b0.2.2.2.2.1;obtain ⟨c9,T,c6,d5,b3,c0,_⟩:=B.da hp;refine aK (b7.ld (shf:=aj) P.ai rfl ?_);refine aK (c0.ld (shf:=ae .i64) T.df rfl ?_);have V:T.df=(p:Int):=b3.1;rw [X,V];have key:=I9 (n:=n.toNat) (w:=(p:Int)) (Q:=λI (r5:Int) g=>bx prog zM [(.pointer (some pm)),(.int .i64 I)] (λE=>Q E) g) b6 (by omega) u x (λb G l=> ?_) λa r b G l=> ?_
  ·rw [Y] at key;exact Xx key
  ·subst b;have H:=N _ _ _ l;refine OI (AE L H (λh=>absurd h (by decide)) λz t=> ?_);have t:Has g (aA K pm (s.dU (az K.c p) {s.part (az K.c p) with ax:=(s.part (az K.c p)).ax.set n.toNat (-1),an:=(s.part (az K.c p)).an}) d) z:=t;exact f z (t.mono A)
  ·subst b;have H:=N _ _ _ l;have Z:0<=a/\a<(nQ K.c:Int):=(C.nd _ (List.mem_of_getElem? x)).2 a (List.mem_cons_self ..);refine OI (AE L H (λh=>⟨Z.2,?_⟩) λz t=>f z (t.mono A));exact O.told (by omega)
 ·rw [if_neg (λe=>h (J.1 (of_decide_eq_true e)))];rw [if_neg h] at f;exact f _ (B.mono A)
theorem OL {p:Nat} {v:Int} {Q:Hp->Prop} (m:dq h0 K) (S:cc K.c) (o:Has h0 (aA K pm s d) k) (sa:jv K.c s) (hp:p<nQ K.c)
  (f:∀J,Has h0 (aA K pm (sc K.c s p v) d) J->Q J):
 ag none (some (K.q (az K.c p))) λY=>
 aQ none al k (Addr.add Y 2) λx7=>
 ag none (some pm) λZ=>
 aQ none (ae .i64) k (Addr.add (Addr.add Z 0) 5) λx8=>
 (if (decide (((x7.len:Nat):Int)<x8))=true then
 ag none (some (K.q (az K.c p))) λy=>
 aQ none al k (Addr.add y 2) λA=>
 ag none (some pm) λF=>
 aQ none (ae .i64) k (Addr.add F 9) λa9=>
 ag none (some (K.p p)) λX=>
 aQ none (ae .i64) k (Addr.add X 0) λb0=>
 bq [(.int .i64 a9),(.int .i64 b0),(.int .i64 v)] (λa r=>
 (((aT r (Addr.add y 2) [A.v])/\True)/\fP 3 24 [(.int .i64 (0:Int)),(.int .i64 (0:Int)),(.int .i64 (0:Int))] A ⟨(some a),1,1⟩ (λr2 g=>
 ag none (some (K.q (az K.c p))) λG=>
 cq g (Addr.add G 2) [r2.v] (λi=>
 Q i)) r)) k
 else
 ag none (some (K.q (az K.c p))) λy=>
 aQ none (ae .i64) k (Addr.add y 3) λA=>
 aa prog KV [(.int .i64 A)] (ae .i64) (λr2 r=>
 ag none (some (K.q (az K.c p))) λF=>
 cq r (Addr.add F 3) [(.int .i64 r2)] (λg=>
 Q g)) k):=by
 have I:az K.c p<nP K.c:=S.eJ;have M:=sa.part _ I;have b1:=M.jy;obtain ⟨h1,x,lp,wp,l1,j,u,put⟩:=o.pY I;have w:=Has.left u;refine aK (w.ld (shf:=al) x.log rfl ?_);have B:(Df K.x).Log=K.c.log:=m.cfg.log;have B:K.x.mS=K.c.log:=B;refine aK ?_;rw [rN];refine o.ee.ld (shf:=ae .i64) K.x.mS rfl ?_;have O:=u.right.left.gH;unfold sc at f;dsimp only at f;rw [B,O];by_cases h:((s.part (az K.c p)).log.length:Int)<K.c.log
 ·rw [if_pos (decide_eq_true h)];rw [if_pos h] at f;obtain ⟨h2,z,a,l2,P,W,_⟩:=o.da hp;refine aK (w.ld (shf:=al) x.log rfl ?_);refine aK (o.ee.ld (shf:=ae .i64) s.tick rfl ?_);refine aK (W.ld (shf:=ae .i64) z.df rfl ?_);have N:z.df=(p:Int):=P.1;rw [N];obtain ⟨h3,l3,T,a8⟩:=u.f2;have key:=T.push (sz:=3) (zero:=[(.int .i64 (0:Int)),(.int .i64 (0:Int)),(.int .i64 (0:Int))]) (bytes:=24) (e:=(⟨s.tick,(p:Int),v⟩:xG)) (cs:=[(.int .i64 s.tick),(.int .i64 (p:Int)),(.int .i64 v)]) rfl (λ_=>rfl) (λ_=>rfl) rfl ⟨by omega,by omega⟩
   (K:=λr2 g=>ag none (some (K.q (az K.c p))) λG=>
 cq g (Addr.add G 2) [r2.v] (λi=>
 Q i)) λL k2 U=> ?_
  ·exact λb t hb=>⟨⟨om (kP hb) (w.dQ (n:=1) rfl),trivial⟩,key b t hb⟩
  ·have V:=a8 _ _ U;obtain ⟨i,R,C,H⟩:=V.f1;refine aK (C.st (⟨x.procs,x.af,L,x.lost,x.forbidden,x.ai,x.dz⟩:aV) (by show 2+1<=7;omega) rfl λl D=>f l ?_);have E:=H _ _ D;have:=put (⟨x.procs,x.af,L,x.lost,x.forbidden,x.ai,x.dz⟩:aV) {s.part (az K.c p) with log:=(s.part (az K.c p)).log++ [⟨s.tick,(p:Int),v⟩]} (d (az K.c p)) l j E;rw [xi] at this;exact this
 ·rw [if_neg (λe=>h (of_decide_eq_true e))];rw [if_neg h] at f;refine aK (w.ld (shf:=ae .i64) x.lost rfl ?_);have ex:x.lost=(s.part (az K.c p)).lost:=j.2.2.1;rw [ex];refine XY (Jf M.lost ?_);obtain ⟨i,R,C,H⟩:=u.f1;refine aK (C.st (⟨x.procs,x.af,x.log,more (s.part (az K.c p)).lost,x.forbidden,x.ai,x.dz⟩:aV) (by show 3+1<=7;omega) rfl λl D=>f l ?_);have E:=H _ _ D;have:=put (⟨x.procs,x.af,x.log,more (s.part (az K.c p)).lost,x.forbidden,x.ai,x.dz⟩:aV) {s.part (az K.c p) with lost:=more (s.part (az K.c p)).lost} (d (az K.c p)) l ⟨j.1,j.2.1,rfl,j.2.2.2⟩ E;rw [xi] at this;exact this
end
def mJ (c:bg) (s:MS) (i id:Nat):Int:=if id / 2<nQ c/\az c (id / 2)=i then (if id%2=0 then (s.proc (id / 2)).timer else (s.proc (id / 2)).cx) else 0
def eH (c:bg) (a:Nat->Nat->Int) (s:MS):Prop:=∀i id,i<nP c->a i id=mJ c s i id
def TW (s:MS):Nat->Int×Int:=λq=>((s.proc q).timer,(s.proc q).cx)
section
variable {c:bg} {s s':MS} {b:Nat->Nat->Int} {p:Nat} {y:ak}
theorem qt (h:(y.timer,y.cx)=((s.proc p).timer,(s.proc p).cx)):TW (s.aW p y)=TW s:=by
 funext q;unfold TW;by_cases e:q=p
 ·subst e;rw [fp,h]
 ·rw [ib e]
theorem yz {v:Int}:TW (cm c s p v)=TW s:=qt rfl
theorem OM :TW (oa s p)=TW s:=qt rfl
theorem Jn {j9:Int}:TW (jk s j9)=TW s:=by
 unfold jk;split
 ·exact OM
 ·rfl
theorem BJ {q:Nat} (h:(y.timer,y.cx)=((s.proc q).timer,(s.proc q).cx)):TW (s.aW q (dW y))=TW s:=qt h
theorem ON {to v:Int} {fl:Nat->Nat->Bool}:TW (ln c fl s p to v)=TW s:=by
 unfold ln;split
 ·exact yz
 split
 ·exact yz
 split
 ·split
  ·exact yz
  split
  ·dsimp only;have e:TW (s.aW to.toNat (bw (s.proc to.toNat) (az c p) (hZ p v)))=TW s:=qt rfl;rw [<-e];exact qt rfl
  ·rw [yz];exact BJ rfl
 split
 ·rw [yz];exact qt rfl
 ·rw [yz];exact BJ rfl
theorem J0 {t:Bool}:TW (kq c s p t)=TW s:=by
 unfold kq;dsimp only;split
 ·split
  ·exact qt rfl
  ·rw [yz];exact qt rfl
 ·split
  ·exact qt rfl
  split
  ·exact qt rfl
  ·exact qt rfl
theorem OO {n:Int}:TW (jN c s p n)=TW s:=by
 unfold jN;dsimp only;split
 ·unfold jN.goK;exact qt rfl
 ·exact qt rfl
theorem VD {n:Int}:TW (xD c s p n)=TW s:=by
 unfold xD;dsimp only;split
 ·split
  ·rfl
  ·exact Jn
 ·rfl
theorem PQ {v:Int}:TW (sc c s p v)=TW s:=rfl
theorem eH.cv (t:eH c b s) (h:TW s'=TW s):eH c b s':=λi id e=>by have:=congrFun h (id / 2);have a:(s'.proc (id / 2)).timer=(s.proc (id / 2)).timer:=congrArg Prod.fst this;have d:(s'.proc (id / 2)).cx=(s.proc (id / 2)).cx:=congrArg Prod.snd this;rw [t i id e];unfold mJ;rw [a,d]
theorem eH.set (t:eH c b s) (hp:p<nQ c) {id:Nat} {v:Int} (hid:id=2*p\/id=2*p+1) (h:∀q,TW s' q=if q=p then (if id=2*p then (v,(s.proc p).cx) else ((s.proc p).timer,v)) else TW s q):eH c (cn b (az c p) (cn (b (az c p)) id v)) s':=λi a k=>by
 have d:=h (a / 2);by_cases e:a / 2=p
 ·rw [if_pos e] at d;unfold mJ;by_cases g:az c p=i
  ·subst g;rw [kM];have f:=t _ a k;unfold mJ at f;rw [if_pos ⟨by omega,by rw [e]⟩] at f ⊢;rcases hid with rfl | rfl
   ·rw [if_pos rfl] at d;by_cases j:a=2*p
    ·subst j;rw [kM,if_pos (by omega)];exact (congrArg Prod.fst d).symm
    ·rw [ku j,if_neg (by omega)];rw [pW] at f;rw [f,e];rw [e] at d;exact (congrArg Prod.snd d).symm
   ·rw [pW] at d;by_cases j:a=2*p+1
    ·subst j;rw [kM,if_neg (by omega)];exact (congrArg Prod.snd d).symm
    ·rw [ku j,if_pos (by omega)];rw [if_pos (by omega)] at f;rw [f,e];rw [e] at d;exact (congrArg Prod.fst d).symm
  ·rw [ku (Ne.symm g)];have f:=t _ a k;unfold mJ at f;grind
 ·rw [if_neg e] at d;have n:cn b (az c p) (cn (b (az c p)) id v) i a=b i a:=by
   by_cases g:i=az c p
   ·subst g;rw [kM,ku (by omega)]
   ·rw [ku g]
  rw [n,t i a k];unfold mJ;have l:(s'.proc (a / 2)).timer=(s.proc (a / 2)).timer:=congrArg Prod.fst d;have m:(s'.proc (a / 2)).cx=(s.proc (a / 2)).cx:=congrArg Prod.snd d;rw [l,m]
theorem H5 :∀ {l:List Int} {s:MS},TW (l.foldl jk s)=TW s
 | [],s=>rfl
 | a::l,s=>by rw [List.foldl_cons,H5,Jn]
theorem Jp {v:Int}:∀ {l:List mu} {s:MS},TW (l.foldl (λs w=>cm c s w.proc.toNat v) s)=TW s
 | [],s=>rfl
 | a::l,s=>by rw [List.foldl_cons,Jp,yz]
theorem PS {st:Int} (q:Nat):TW (oZ c s p st) q=if q=p then (0,0) else TW s q:=by
 rw [wY];unfold pK;rw [Jp];have g:TW (iB (gK (iA c (dM c s p st) p) p) p)=TW (gK (iA c (dM c s p st) p) p):=qt rfl;rw [g];have f:TW (iA c (dM c s p st) p)=TW s:=by unfold iA;rw [H5];have d:TW (oY c (dM c s p st) p)=TW (dM c s p st):=rfl;rw [d];have a:TW (fF s p st)=TW s:=qt rfl;rw [<-a];funext r;show ((if r∈_ then qz p _ else _:ak).timer,(if r∈_ then qz p _ else _:ak).cx)=_;split<;>rfl
 by_cases e:q=p
 ·subst e;rw [if_pos rfl];unfold TW gK;rw [fp]
 ·rw [if_neg e,<-f];unfold TW gK;rw [ib e]
theorem eH.ended {st:Int} (t:eH c b s) (hp:p<nQ c):eH c (pL b (az c p) p) (oZ c s p st):=by
 have d:=t.set (s':=s.aW p {s.proc p with timer:=0}) hp (id:=2*p) (v:=0) (.inl rfl) λq=>by
  unfold TW;by_cases e:q=p
  ·subst e;rw [fp,if_pos rfl,if_pos rfl]
  ·rw [ib e,if_neg e]
 have a:=d.set (s':=oZ c s p st) hp (id:=2*p+1) (v:=0) (.inr rfl) λq=>by
  rw [PS];by_cases e:q=p
  ·subst e;rw [if_pos rfl,if_pos rfl,if_neg (by omega),fp]
  ·rw [if_neg e,if_neg e];unfold TW;rw [ib e]
 rw [kM,Ji] at a;exact a
end
theorem M9 {D:Int->Int->Int->Int} {l:List dB} {k:Core} {tk self:Int} (a:0<=k.pc/\k.pc<=1000) (d:k.bf.length=8) (g:l.length<=256):0<=(jr D l k tk self).1.pc/\(jr D l k tk self).1.pc<=1000:=by
 rcases Bk (D:=D) (l:=l) (k:=k) (tk:=tk) (self:=self) with ⟨_,e⟩ | ⟨n,b,f,⟨_,e⟩ | ⟨w,st,_,e⟩⟩
 ·rw [e];exact a
 ·rw [e];have:=(H0 (D:=D) (tk:=tk) (self:=self) b f d).1;grind
 ·rw [e];have h:0<=k.pc/\k.pc<l.length:=yy (c:=⟨[],[],0,0,0,0,[⟨0,l⟩]⟩) (p:=0) (x:=⟨0,k.pc,[],0,0,false,0,[]⟩) b;cases st
  ·show 0<=k.pc+1/\k.pc+1<=1000;omega
  ·exact a
section
variable {h0 h1 k:Hp} {K:MK} {pm:Addr} {s:MS} {f:Nat->Nat->Int}
theorem Na {p:Nat} {Q:Hp->Prop} (tk:wG) (m:dq h0 K) (u:cc K.c) (o:Has h0 (aA K pm s f) k) (S:jv K.c s) (hp:p<nQ K.c) (Y:0<=s.tick/\s.tick<=4611686018427387904) (hr:(s.proc p).bf.length=8)
  (hw:∀q,q<nQ K.c->∀l∈(s.proc q).ah,∀z∈l.waiters,z.proc≠(p:Int)) (b4:∀q∈(s.part (az K.c p)).an,(p:Int)∉q) (td:eH K.c f s)
  (g:∀a9 i,Has h0 (aA K pm (vP K.c fS (jL K.c) s p) a9) i->eH K.c a9 (vP K.c fS (jL K.c) s p)->Q i):Qy prog (some pm) (some (K.p p)) Q k:=by
 unfold Qy;have hi:az K.c p<nP K.c:=u.eJ;obtain ⟨h1,z,a,l1,P,R,put⟩:=o.da hp;have e:fR (dG z)=(s.proc p).core:=P.2.2.2.2.1;have ei:z.df=(p:Int):=P.1;refine aK (R.ld (shf:=eo) (dG z) rfl ?_);refine aK (R.ld (shf:=al) z.code rfl ?_);refine aK (o.ee.ld (shf:=ae .i64) s.tick rfl ?_);refine aK (R.ld (shf:=ae .i64) z.df rfl ?_);rw [ei];have U:=(m.code p hp).2;have b2:(jj K.c p).length<=256:=u.pI;have c0:(K.ins p).length<=256:=by have:=congrArg List.length U;rw [List.length_map] at this;omega
 refine Q3 (MY (m.pO o.le hp P) (by omega) λc' w k1 l2 T v=> ?_);rw [U,e] at T v;refine aK (uy (o.grow l2) hp λk2 t=> ?_);rw [T] at t;have sp:=S.proc p hp;have b5:=M9 (D:=fS) (l:=jj K.c p) (k:=(s.proc p).core) (tk:=s.tick) (self:=(p:Int)) sp.pc hr b2;have W:(w.Kind=7\/w.Kind=8)->0<=w.To/\w.To<K.c.ai:=by
  intro h;rcases Bk (D:=fS) (l:=jj K.c p) (k:=(s.proc p).core) (tk:=s.tick) (self:=(p:Int)) with ⟨C,_⟩ | ⟨n,hn,c1,⟨_,C⟩ | ⟨w',st,b7,C⟩⟩
  ·rw [<-v] at C;have:w.Kind=1:=C;omega
  ·rw [C] at v;have:w.Kind=0:=congrArg Want.kind v;omega
  ·rw [C] at v;have v:qX w=w':=v;subst v;have b3:dt K.c p (s.proc p)=some n:=hn;have Z:=(u.ins b3).1;rcases HZ b7 with ⟨a,_⟩ | ⟨_,a,_⟩ | ⟨_,a,_⟩ | ⟨_,a,_⟩ | ⟨a,_⟩ | ⟨_,a,_⟩ | ⟨b,a,d,_⟩ | ⟨b,a,d,_⟩ | ⟨a,_⟩
   ·have a:w.Kind=1:=a;omega
   ·have a:w.Kind=2:=congrArg Want.kind a;omega
   ·have a:w.Kind=3:=a;omega
   ·have a:w.Kind=4:=a;omega
   ·have a:w.Kind=5:=a;omega
   ·have a:w.Kind=6:=a;omega
   ·have d:w.To=n.lJ:=d;rw [d];exact Lq Z (.inl b)
   ·have d:w.To=n.lJ:=d;rw [d];exact Lq Z (.inr b)
   ·have a:w.Kind=9:=a;omega
 unfold vP at g;dsimp only at g;rw [<-v] at g;generalize hg:(jr fS (jj K.c p) (s.proc p).core s.tick (p:Int)).1=E at*;have B:jv K.c (s.aW p ((s.proc p).put E)):=by
  refine ⟨λq O=> ?_,S.part⟩;by_cases eq:q=p
  ·subst eq;rw [fp];exact ⟨b5,sp.len,sp.cur,sp.dK⟩
  ·rw [ib eq];exact S.proc q O
 have y:eH K.c f (s.aW p ((s.proc p).put E)):=td.cv (qt rfl);have b6:∀q,q<nQ K.c->∀l∈((s.aW p ((s.proc p).put E)).proc q).ah,∀z∈l.waiters,z.proc≠(p:Int):=λq O l V=>by
  have:((s.aW p ((s.proc p).put E)).proc q).ah=(s.proc q).ah:=by
   by_cases eq:q=p
   ·subst eq;rw [fp];rfl
   ·rw [ib eq]
  rw [this] at V;exact hw q O l V
 generalize X:s.aW p ((s.proc p).put E)=s1 at*;have F:s1.tick=s.tick:=by rw [<-X];rfl
 have b0:s1.part=s.part:=by rw [<-X];rfl
 obtain ⟨h3,z3,a3,l3,b8,b9,_⟩:=t.da hp;obtain ⟨g1,g2⟩:=m.sd t hi;refine aK (t.ee.ld (shf:=al) K.x.parts rfl ?_);refine aK (b9.ld (shf:=ae .i64) z3.part rfl ?_);have ep:z3.part=(az K.c p:Int):=b8.2.1;rw [ep];refine ⟨g1,some (K.q (az K.c p)),g2,?_⟩;dsimp only;have j:∀n:Int,(w.Kind==n)=true↔w.Kind=n:=λn=>by simp
 have ek:(qX w).kind=w.Kind:=rfl;have b1:(qX w).to=w.To:=rfl;have ev:(qX w).value=w.eN:=rfl;rw [ek,b1,ev] at g;by_cases J:w.Kind=1
 ·rw [if_pos ((j 1).2 J)];simp only [if_pos J] at g;exact Zb (M7 m u t B hp λi r=>g _ i r (y.ended hp))
 rw [if_neg (λh=>J ((j 1).1 h))];simp only [if_neg J] at g;by_cases L:w.Kind=2
 ·rw [if_pos ((j 2).2 L)];simp only [if_pos L] at g;exact Y3 (Vw m u t B hp b6 λi r=>g _ i r (y.cv ON))
 rw [if_neg (λh=>L ((j 2).1 h))];simp only [if_neg L] at g;by_cases A:w.Kind=3
 ·simp only [if_pos A] at g;refine bL.direct ?_;rw [if_pos ((j 3).2 A)];dsimp only;rw [if_pos ((j 3).2 A),show (w.Kind==4)=false by rw [A];rfl];exact W9 (H4 tk m u t B hp λi r=>g _ i r (y.cv J0))
 simp only [if_neg A] at g;by_cases G:w.Kind=4
 ·simp only [if_pos G] at g;refine bL.direct ?_;rw [if_neg (λh=>A ((j 3).1 h))];dsimp only;rw [if_pos ((j 4).2 G),(j 4).2 G];exact W9 (H4 tk m u t B hp λi r=>g _ i r (y.cv J0))
 simp only [if_neg G] at g;refine bL.direct ?_;rw [if_neg (λh=>A ((j 3).1 h))];dsimp only;rw [if_neg (λh=>G ((j 4).1 h))];by_cases M:w.Kind=5
 ·rw [if_pos ((j 5).2 M)];simp only [if_pos M] at g;refine VB m u t hp (by rw [F];exact Y) λi r=> ?_;refine g (ud f (az K.c p) p s1.tick w.eN) i ?_ ?_
  ·rw [CE,CI] at r ⊢;rw [F] at r ⊢;exact r
  ·refine y.set hp (.inl rfl) λq=> ?_;unfold TW;by_cases eq:q=p
   ·subst eq;rw [fp,if_pos rfl,if_pos rfl,F]
   ·rw [ib eq,if_neg eq]
 rw [if_neg (λh=>M ((j 5).1 h))];simp only [if_neg M] at g;by_cases N:w.Kind=6
 ·rw [if_pos ((j 6).2 N)];simp only [if_pos N] at g;refine VC m u t hp (by rw [F];exact Y) λi r=> ?_;refine g (cn f (az K.c p) (cn (f (az K.c p)) (2*p+1) (s1.tick+ph (tN w.eN 1) 1099511627776))) i ?_ ?_
  ·rw [CE,CI] at r ⊢;exact r
  ·refine y.set hp (.inr rfl) λq=> ?_;unfold TW;by_cases eq:q=p
   ·subst eq;rw [fp,if_pos rfl,if_neg (by omega),F]
   ·rw [ib eq,if_neg eq]
 rw [if_neg (λh=>N ((j 6).1 h))];simp only [if_neg N] at g;by_cases H:w.Kind=7
 ·rw [if_pos ((j 7).2 H)];simp only [if_pos H] at g;exact M8 m u t B hp (W (.inl H)) (by rw [b0];exact b4) λi r=>g _ i r (y.cv OO)
 rw [if_neg (λh=>H ((j 7).1 h))];simp only [if_neg H] at g;by_cases I:w.Kind=8
 ·rw [if_pos ((j 8).2 I)];simp only [if_pos I] at g;exact Uh m u t B hp (W (.inr I)) λi r=>g _ i r (y.cv VD)
 rw [if_neg (λh=>I ((j 8).1 h))];simp only [if_neg I] at g;by_cases a8:w.Kind=9
 ·rw [if_pos ((j 9).2 a8)];simp only [if_pos a8] at g;exact OL m u t B hp λi r=>g _ i r (y.cv PQ)
 grind
end
def ns (x:ak):ak:={x with cx:=0,state:=0,pc:=x.pc+1}
def qI (x:ak):ak:={x with timer:=0,bN:=true,state:=if x.state=1 then 0 else x.state}
def jc (a:List Int) (q:Nat) (x:ak):ak:=
 if ((2*q:Nat):Int)∈a then qI (if ((2*q+1:Nat):Int)∈a then ns x else x) else (if ((2*q+1:Nat):Int)∈a then ns x else x)
def kW (s:MS) (a:List Int):MS:=⟨s.tick,s.part,λq=>jc a q (s.proc q)⟩
theorem J1 {t:Int} {x:ak}:mg t x=(if 0<x.timer/\x.timer<=t then qI (if 0<x.cx/\x.cx<=t then ns x else x) else (if 0<x.cx/\x.cx<=t then ns x else x)):=by
 unfold mg;dsimp only;by_cases h:0<x.cx/\x.cx<=t
 ·simp only [if_pos h];rfl
 ·simp only [if_neg h];rfl
theorem VE {a:List Int} {q:Nat} {x:ak} (h:((2*q+1:Nat):Int)∉a):jc (a++ [((2*q+1:Nat):Int)]) q x=ns (jc a q x):=by
 unfold jc;have b:((2*q+1:Nat):Int)∈a++ [((2*q+1:Nat):Int)]:=by simp
 have c:((2*q:Nat):Int)∈a++ [((2*q+1:Nat):Int)]↔((2*q:Nat):Int)∈a:=by grind
 simp only [if_pos b,if_neg h,c];split
 ·unfold qI ns;simp
 ·rfl
theorem H6 {a:List Int} {q:Nat} {x:ak} (h:((2*q:Nat):Int)∉a):jc (a++ [((2*q:Nat):Int)]) q x=qI (jc a q x):=by unfold jc;grind
theorem Uj {a:List Int} {q:Nat} {x:ak} {id:Int} (b:id≠((2*q:Nat):Int)) (c:id≠((2*q+1:Nat):Int)):jc (a++ [id]) q x=jc a q x:=by unfold jc;grind
theorem VG {s:MS} {a:List Int} {id:Int} {q:Nat} {y:ak} (h:id=((2*q:Nat):Int)\/id=((2*q+1:Nat):Int)) (b:qp y=qp (jc (a++ [id]) q (s.proc q))):sD ((kW s a).aW q y)=sD (kW s (a++ [id])):=by
 rw [CI,b];unfold sD kW MS.aW;congr 1;funext r;unfold cn;by_cases e:r=q
 ·grind
 ·rw [if_neg e];show qp (jc a r (s.proc r))=qp (jc (a++ [id]) r (s.proc r));rw [Uj (by omega) (by omega)]
section
variable {h0 h1 k:Hp} {K:MK} {pm:Addr} {s:MS} {b:Nat->Nat->Int}
theorem Nb {c:bg} {i:Nat} {ids:List Int} (d:eH c b s) (a:i<nP c) (o:∀x∈ids,0<=x/\x<(2*nQ c:Nat)) (g:∀j:Nat,(j:Int)∈ids↔0<b i j/\b i j<=s.tick):kW s ids=je c s i:=by
 unfold kW je;congr 1;funext q;by_cases h:q<nQ c/\az c q=i
 ·rw [if_pos h,J1];unfold jc;have l:b i (2*q)=(s.proc q).timer:=by rw [d i _ a];unfold mJ;rw [show 2*q / 2=q by omega,if_pos h,if_pos (by omega)]
  have m:b i (2*q+1)=(s.proc q).cx:=by rw [d i _ a];unfold mJ;rw [show (2*q+1) / 2=q by omega,if_pos h,if_neg (by omega)]
  grind
 ·rw [if_neg h];have e:∀j,j / 2=q->¬(j:Int)∈ids:=λj n f=>by have h1:=(g j).1 f;rw [d i _ a] at h1;unfold mJ at h1;grind
  unfold jc;rw [if_neg (e _ (by omega)),if_neg (e _ (by omega))]
theorem eH.due {c:bg} {i:Nat} (g:eH c b s) (m:i<nP c):eH c (cn b i (nh (b i) s.tick)) (je c s i):=λj id f=>by
 have key:∀x:ak,(mg s.tick x).timer=(if 0<x.timer/\x.timer<=s.tick then 0 else x.timer)/\(mg s.tick x).cx=(if 0<x.cx/\x.cx<=s.tick then 0 else x.cx):=λx=>by rw [J1];by_cases h1:0<x.timer/\x.timer<=s.tick<;>by_cases a:0<x.cx/\x.cx<=s.tick<;>simp [h1,a,qI,ns]
 by_cases e:j=i
 ·subst e;rw [kM];unfold nh;rw [g j id f];unfold mJ;by_cases h:id / 2<nQ c/\az c (id / 2)=j
  ·rw [if_pos h,if_pos h];have d:(je c s j).proc (id / 2)=mg s.tick (s.proc (id / 2)):=if_pos h;rw [d];by_cases a:id%2=0
   ·rw [if_pos a,if_pos a];exact (key _).1.symm
   ·rw [if_neg a,if_neg a];exact (key _).2.symm
  omega
 ·rw [ku e,g j id f];unfold mJ;by_cases h:id / 2<nQ c/\az c (id / 2)=j
  ·rw [if_pos h,if_pos h];have d:(je c s i).proc (id / 2)=s.proc (id / 2):=if_neg (by rw [h.2];exact λl=>e l.2);rw [d]
  omega
theorem OP {i:Nat} {Q:Hp->Prop} (m:dq h0 K) (mc:cc K.c) (o:Has h0 (aA K pm s b) k) (sa:jv K.c s) (w:i<nP K.c) (H:eH K.c b s)
  (W:∀I j,Has h0 (aA K pm (je K.c s i) I) j->eH K.c I (je K.c s i)->Q j):QH prog (some pm) (some (K.q i)) Q k:=by
 unfold QH;have b7:=mc.procs;obtain ⟨h7,J,b9,b0,l7,Z,a8,ow,a9⟩:=o.iv w;have P:J.dz=some b0:=Z.2.2.2.2.2;refine aK (a8.ld (shf:=aj) J.dz rfl ?_);refine aK (o.ee.ld (shf:=ae .i64) s.tick rfl ?_);rw [P];refine Zw (MQ ow (by omega) λsl k2 ids A Y X o2=> ?_);have f:Has h0 ((aA K pm s (cn b i (nh (b i) s.tick))).star (dC 1 dZ sl ids)) k2:=o2.carry λj d=>a9 _ j d;obtain ⟨r,G,o7,E⟩:=f.aside (λ_=>rfl);have m6:=m.mono G;have b2:ids.length<=2*nQ K.c:=uu (2*nQ K.c) ids Y A;have b4:=E.1;refine ay.intro (λ(t:Int) j=>0<=t/\t<=(ids.length:Int)/\Has r (aA K pm (kW s (ids.take t.toNat)) (cn b i (nh (b i) s.tick))) j) (λt _=>(ids.length-t).toNat) ⟨by omega,by omega,by
  have e:kW s (ids.take (0:Int).toNat)=s:=by unfold kW jc;simp
  rw [e];exact o7⟩ ?_
 rintro t j ⟨t0,t1,d⟩;by_cases h:t<(ids.length:Int)
 ·rw [if_pos (gI)];refine bP.direct ?_;refine Rs.get (sh:=ae .i64) (Rw.mono d.le E) (λ_=>rfl) (by omega) t0 h λ(g:Int) v=> ?_;have V:=A g (List.mem_of_getElem? v);have u:g.toNat / 2<nQ K.c:=by omega
  have T:yw (Int.tdiv g 2)=((g.toNat / 2:Nat):Int):=by rw [Int.tdiv_eq_ediv_of_nonneg V.1,aH];omega
  have b6:g∉ids.take t.toNat:=by
   intro b3;obtain ⟨b5,U⟩:=List.getElem?_eq_some_iff.1 v;have b8:ids=ids.take t.toNat++g::ids.drop (t.toNat+1):=by rw [<-U,List.getElem_cons_drop,List.take_append_drop]
   grind
  generalize b1:g.toNat / 2=q at*;obtain ⟨R,S⟩:=m6.ptr d u;refine aK (d.ee.ld (shf:=al) K.x.procs rfl ⟨by decide,?_⟩);rw [T];refine ⟨R,some (K.p q),S,?_⟩;obtain ⟨h2,z,a,l2,n,C,put⟩:=d.da u;have M:z.df=(q:Int):=n.1;refine aK (C.ld (shf:=ae .i64) z.df rfl ?_);rw [M];refine Gm (wI (by omega) ?_);have step:∀ {y:ak} {l:Hp},qp y=qp (jc (ids.take t.toNat++ [g]) q (s.proc q))->Has r (aA K pm ((kW s (ids.take t.toNat)).aW q y) (cn b i (nh (b i) s.tick))) l->
    (0<=yw (t+1)/\yw (t+1)<=(ids.length:Int)/\Has r (aA K pm (kW s (ids.take (yw (t+1)).toNat)) (cn b i (nh (b i) s.tick))) l)/\(ids.length-yw (t+1)).toNat<(ids.length-t).toNat:=by
   intro y l hy f;rw [aH];refine ⟨⟨by omega,by omega,?_⟩,by omega⟩;have e:(t+1).toNat=t.toNat+1:=by omega
   rw [e,List.take_add_one,v];show Has r (aA K pm (kW s (ids.take t.toNat++ [g])) _) l;rw [CE,<-VG (q:=q) (y:=y) (by omega) hy,<-CE];exact f
  by_cases B:g=((2*q+1:Nat):Int)
  ·rw [if_pos (by rw [B];simp)];have O:((kW s (ids.take t.toNat)).proc q).pc=(s.proc q).pc:=by show (jc (ids.take t.toNat) q (s.proc q)).pc=_;unfold jc;rw [if_neg (c:=((2*q+1:Nat):Int)∈_) (by grind)];split<;>rfl
   have e:fR (dG z)=((kW s (ids.take t.toNat)).proc q).core:=n.2.2.2.2.1;have N:(dG z).PC=(s.proc q).pc:=(congrArg Core.pc e).trans O;refine aK (C.ld (shf:=eo) (dG z) rfl ?_);refine AQ (BU (by rw [N];exact sa.told u) λc' L=> ?_);refine O6 (Bi d u λl f=>step ?_ f);rw [L,e,B,VE (by grind)];rfl
  ·rw [if_neg (by simpa using B)];have F:g=((2*q:Nat):Int):=by omega
   refine aK (C.st (sy z true) (by show 13+1<=15;omega) rfl λl f=> ?_);have D:z.state=((kW s (ids.take t.toNat)).proc q).state:=n.2.2.2.1;refine aK (f.ld (shf:=ae .i64) z.state rfl ?_);by_cases h1:z.state=1
   ·rw [if_pos (by rw [h1];rfl)];refine aK (f.st (u9 (sy z true) 0) (by show 3+1<=15;omega) rfl λk4 o4=> ?_);refine step ?_ (put _ _ _ ((n.bN true).state 0) rfl rfl o4);rw [F,H6 (by grind)];unfold qI;rw [if_pos (by rw [<-h1,D];rfl)];rfl
   ·rw [if_neg (by simpa using h1)];refine step ?_ (put _ _ _ (n.bN true) rfl rfl f);rw [F,H6 (by grind)];unfold qI;rw [if_neg (by rw [D] at h1;exact h1)];rfl
 ·rw [if_neg (λe=>h (by grind))];have e:t.toNat=ids.length:=by omega
  rw [e,List.take_of_length_le (Nat.le_refl _),Nb H w A X] at d;exact W _ j (d.mono G) (H.due w)
end
section
variable {c:bg} {fl:Nat->Nat->Bool} {s:MS} {T:Int} {p:Nat}
theorem Nc {q r:Nat} {y:ak} (h:y.state=(s.proc q).state\/((s.proc q).state=1/\y.state=0)):((s.aW q y).proc r).state=(s.proc r).state\/((s.proc r).state=1/\((s.aW q y).proc r).state=0):=by
 by_cases e:r=q
 ·subst e;rw [fp];exact h
 ·rw [ib e];exact .inl rfl
theorem SV {x:ak}:(dW x).state=x.state\/(x.state=1/\(dW x).state=0):=by unfold dW;grind
theorem OQ {q r:Nat} {y:ak} (e:y.pc=(s.proc q).pc):((s.aW q y).proc r).pc=(s.proc r).pc:=by
 by_cases h:r=q
 ·subst h;rw [fp,e]
 ·rw [ib h]
theorem Jq {q r:Nat} {y:ak} (e:y.pc=(s.proc q).pc):dt c r ((s.aW q y).proc r)=dt c r (s.proc r):=by unfold dt;rw [OQ e]
theorem Good.we (g:Good c fl s No No T) (hp:p<nQ c) (b:(s.proc p).state=0) (a:∃n,dt c p (s.proc p)=some n) (v:Int):Good c fl (cm c s p v) No No T:=
 vu (g.told hp (vt ⟨by omega,by omega⟩) (by omega) a v)
theorem Good.send (m:cc c) (g:Good c fl s No No T) {to v:Int} {n:dB} (hp:p<nQ c) (o:(s.proc p).state=0) (u:dt c p (s.proc p)=some n) (J:n.op=24) (hb:eR (s.proc p).bf n.b=to) (F:eR (s.proc p).bf n.c=v):Good c fl (ln c fl s p to v) No No T:=by
 unfold ln;have H:=m.eJ (p:=p);by_cases A:to<0\/(nQ c:Int)<=to
 ·rw [if_pos A];exact g.we hp o ⟨n,u⟩ 1
 rw [if_neg A];have x:to.toNat<nQ c:=by omega
 have E:((to.toNat:Nat):Int)=to:=by omega
 by_cases q:fl (az c p) (az c to.toNat)=false
 ·rw [if_pos q];have pm:=g.part _ H;have z:=g.parts (i:=az c p) (y:={s.part (az c p) with forbidden:=more (s.part (az c p)).forbidden}) ⟨pm.cur,pm.jy,pm.log,pm.lost,ux pm.kG,pm.full,pm.gG,pm.ig⟩ rfl rfl;exact z.we hp o ⟨n,u⟩ 0
 rw [if_neg q];have G:fl (az c p) (az c to.toNat)=true:=by cases e:fl (az c p) (az c to.toNat)<;>simp [e] at q ⊢
 have lane:∀(f:ba->ba) (d:Bool),(∀l,(s.proc to.toNat).ah[az c p]? =some l->((f l).values.length:Int)<=c.lane/\jl (f l).taken/\jl (f l).dropped)->
   (∀l,(s.proc to.toNat).ah[az c p]? =some l->(f l).waiters=l.waiters/\(l.waiters≠ []->(f l).values.length=l.values.length))->(d=false->∀l,l.values=[]->(f l).values=[])->
   Good c fl (cm c (s.aW to.toNat (if d then dW (bw (s.proc to.toNat) (az c p) f) else bw (s.proc to.toNat) (az c p) f)) p 0) No No T:=by
  intro f d j L w;have z:=g.lane x (i:=az c p) (f:=f) (λl a=>⟨(j l a).1,(j l a).2.1,(j l a).2.2,λ_ _=>G⟩) L d w;have D:(if d then dW (bw (s.proc to.toNat) (az c p) f) else bw (s.proc to.toNat) (az c p) f).pc=(s.proc to.toNat).pc:=by cases d<;>rfl
  refine z.we hp ?_ ⟨n,?_⟩ 0
  ·have:(if d then dW (bw (s.proc to.toNat) (az c p) f) else bw (s.proc to.toNat) (az c p) f).state=(s.proc to.toNat).state\/((s.proc to.toNat).state=1/\(if d then dW (bw (s.proc to.toNat) (az c p) f) else bw (s.proc to.toNat) (az c p) f).state=0):=by
    cases d
    ·exact .inl rfl
    ·exact SV
   rcases Nc (r:=p) this with h | h
   ·rw [h];exact o
   ·exact h.2
  ·rw [Jq D];exact u
 have t:∀l,(s.proc to.toNat).ah[az c p]? =some l->(l.values.length:Int)<=c.lane/\jl l.taken/\jl l.dropped:=λl a=>by have:=(g.proc _ x).dK _ l a;exact ⟨this.1,this.2.1,this.2.2.1⟩
 have K:fL c (s.proc to.toNat) (az c p)=false->Good c fl (cm c (s.aW to.toNat (dW (bw (s.proc to.toNat) (az c p) (tI v)))) p 0) No No T:=by
  intro j;have C:∀l,(s.proc to.toNat).ah[az c p]? =some l->(l.values.length:Int)<c.lane:=λl a=>by unfold fL at j;rw [a] at j;have:=of_decide_eq_false j;omega
  refine lane (tI v) true (λl a=> ?_) (λl a=>⟨rfl,λI=> ?_⟩) (λh=>by cases h)
  ·have A:=C l a;have q:=t l a;refine ⟨?_,q.2⟩;show ((l.values++ [v]).length:Int)<=_;rw [List.length_append,List.length_singleton];omega
  ·have:=((g.dK _ x _ l a).2.1 I).2.2;have:=C l a;omega
 have N:Good c fl (cm c (s.aW to.toNat (bw (s.proc to.toNat) (az c p) lf)) p 0) No No T:=
  lane lf false (λl a=>⟨(t l a).1,(t l a).2.1,ux (t l a).2.2⟩) (λl a=>⟨rfl,λ_=>rfl⟩) λ_ l a=>a
 by_cases w:az c p=az c to.toNat
 ·rw [if_pos w];by_cases B:j5 (s.proc to.toNat)=false
  ·rw [if_pos B];exact g.we hp o ⟨n,u⟩ 2
  rw [if_neg B];by_cases k:fL c (s.proc to.toNat) (az c p)=true
  ·rw [if_pos k];refine g.wait (v:=v) m hp x o u J (by rw [hb,E]) F w (by cases e:j5 (s.proc to.toNat)<;>simp [e] at B ⊢) λl a=> ?_;have M:=(t l a).1;unfold fL at k;rw [a] at k;have:=of_decide_eq_true k;omega
  ·rw [if_neg k];exact K (by cases e:fL c (s.proc to.toNat) (az c p)<;>simp [e] at k ⊢)
 grind
end
theorem SX {af:Int} {a:List ba} (f:0<=af/\af<a.length) (h:vz af a=none):∀l∈a,l.values=[]:=by
 intro l d;obtain ⟨j,c,g⟩:=List.getElem_of_mem d;unfold vz at h;rw [List.find?_eq_none] at h;have e:j∈(List.range a.length).map λk=>(af.toNat+k)%a.length:=by
  refine List.mem_map.2 ⟨(j+a.length-af.toNat)%a.length,List.mem_range.2 (Nat.mod_lt _ (by omega)),?_⟩;by_cases i:af.toNat<=j
  ·have b:j+a.length-af.toNat=(j-af.toNat)+a.length:=by omega
   rw [b,Nat.add_mod_right,Nat.mod_eq_of_lt (show j-af.toNat<a.length by omega),Nat.mod_eq_of_lt (by omega)];omega
  ·rw [Nat.mod_eq_of_lt (show j+a.length-af.toNat<a.length by omega)];have b:af.toNat+(j+a.length-af.toNat)=j+a.length:=by omega
   rw [b,Nat.add_mod_right,Nat.mod_eq_of_lt c]
 grind
theorem RV {af:Int} {a:List ba} {i:Nat} (h:vz af a=some i):∃l,a[i]? =some l/\l.values≠ []:=by unfold vz at h;grind
section
variable {c:bg} {fl:Nat->Nat->Bool} {s:MS} {T:Int} {p:Nat} {t:Int} {x:ak} {z:Prop}
theorem cp.LP (pm:cp c fl t p z x):cp c fl t p z {x with bN:=false} where
 st:=pm.st
 pc:=pm.pc
 lF:=pm.lF
 cur:=pm.cur
 mG:=pm.mG
 mH:=pm.mH
 np:=pm.np
 dead:=λh=>⟨(pm.dead h).1,rfl⟩
 dK:=pm.dK
 recv:=λh=>⟨(pm.recv h).1,(pm.recv h).2.1,rfl⟩
 snd:=pm.snd
 pe:=pm.pe
 iT:=pm.iT
 bf:=pm.bf
theorem cp.af (pm:cp c fl t p z x) {n:Int} (h:0<=n/\n<x.ah.length):cp c fl t p z {x with af:=n} where
 st:=pm.st
 pc:=pm.pc
 lF:=pm.lF
 cur:=h
 mG:=pm.mG
 mH:=pm.mH
 np:=pm.np
 dead:=pm.dead
 dK:=pm.dK
 recv:=pm.recv
 snd:=pm.snd
 pe:=pm.pe
 iT:=pm.iT
 bf:=pm.bf
theorem cp.DD (pm:cp c fl t p z x) (g:x.state=0) {n:dB} (e:dt c p x=some n) (f:n.op=25) (b:∀l∈x.ah,l.values=[]) (d:x.bN=false):cp c fl t p z {x with state:=1} where
 st:=by simp
 pc:=pm.pc
 lF:=pm.lF
 cur:=pm.cur
 mG:=pm.mG
 mH:=pm.mH
 np:=pm.np.imp id λh=>⟨λa=>by grind,λa=>by grind⟩
 dead:=λh=>by grind
 dK:=pm.dK
 recv:=λ_=>⟨⟨n,e,f⟩,b,d⟩
 snd:=λh=>by grind
 pe:=λh=>by grind
 iT:=λh=>by grind
 bf:=pm.bf
theorem Good.core {X:Nat->Prop} (g:Good c fl s X No T) {y:ak} (o:Out s X No p) (pm:cp c fl s.tick p (No p) y) (d:y.ah=(s.proc p).ah) (e:y.state=0) {k:Core} (a:0<=k.pc/\k.pc<=(jj c p).length) (b:k.bf.length=8):Good c fl (s.aW p (y.put k)) (λq=>X q/\q≠p) No T:=by refine g.run o (pm.put e a b) ⟨by show y.state≠2;omega,by show y.state≠3;omega⟩ d λ_=> ?_;rw [cQ];exact ⟨by show y.state≠5;omega,by show y.state≠6;omega⟩
theorem Good.take (m:cc c) (g:Good c fl s No No T) {t:Bool} {n:dB} (hp:p<nQ c) (h0:(s.proc p).state=0) (E:dt c p (s.proc p)=some n) (ho:t=false->n.op=25):Good c fl (kq c s p t) No No T:=by
 have pm:=g.proc p hp;have H:∀ {X:Nat->Prop},Out s X No p:=vt ⟨by omega,by omega⟩;have b6:=yy E;have u:∀ {v f:Int},(0<=(gk (jj c p) (s.proc p).core v f).pc/\(gk (jj c p) (s.proc p).core v f).pc<=(jj c p).length)/\(gk (jj c p) (s.proc p).core v f).bf.length=8:=λ{v f}=>by obtain ⟨b,d⟩:=M0 (l:=jj c p) (k:=(s.proc p).core) (v:=v) (w:=f) ⟨n,E⟩;have b:(gk (jj c p) (s.proc p).core v f).pc=(s.proc p).pc+1:=b;exact ⟨by omega,d.trans pm.bf⟩
 unfold kq;dsimp only;cases K:vz (s.proc p).af (s.proc p).ah with
 | none=>
  dsimp only;have a9:=SX pm.cur K;by_cases B:(s.proc p).bN=true
  ·rw [if_pos B];have e:({(s.proc p).put (gk (jj c p) (s.proc p).core 0 (-2)) with bN:=false}:ak)=({s.proc p with bN:=false}:ak).put (gk (jj c p) (s.proc p).core 0 (-2)):=rfl;rw [e];exact vu (g.core H pm.LP rfl h0 u.1 u.2)
  ·rw [if_neg B];cases t with
   | true=>rw [if_pos rfl];exact vu (g.core H pm rfl h0 u.1 u.2)
   | false=>rw [if_neg (by decide)];refine vu (g.run H (pm.DD h0 E (ho rfl) a9 (by simpa using B)) ⟨by show (1:Int)≠2;omega,by show (1:Int)≠3;omega⟩ rfl λ_=> ?_);rw [cQ];simp
 | some i=>
  dsimp only;obtain ⟨l,o,b0⟩:=RV K;have U:(s.proc p).ah.getD i ⟨[],[],0,0⟩=l:=by grind
  rw [U];obtain ⟨P,b2,Q⟩:=g.dK p hp i l o;have M:=pm.dK i l o;have b7:1<=l.values.length:=by grind
  have B:∀A,(s.proc p).ah[i]? =some A->((du A).values.length:Int)<=c.lane/\jl (du A).taken/\jl (du A).dropped/\(rT (du A)->i<nP c->fl i (az c p)=true):=λA L=>by
   rw [o] at L;cases L;refine ⟨?_,?_,?_,λ_ hi=>M.2.2.2 (.inl b0) hi⟩
   ·unfold du;grind
   ·unfold du;cases l.waiters<;>exact ux M.2.1
   ·unfold du;grind
  have N:cp c fl s.tick p (No p) (bw (s.proc p) i du):=pm.lane B λh=>by omega
  let I:Nat->Prop:=λq=>∃w r,l.waiters=w::r/\w.proc=(q:Int);have W:Good c fl (s.aW p (bw (s.proc p) i du)) I No T:=by
   refine g.ah N (.inl rfl) rfl rfl (List.length_modify ..) (λj l1 l2 b d=> ?_) hp (λ_ h=>h.elim) λq hq=>.inr ⟨λh=>h,?_⟩
   ·have d:((s.proc p).ah.modify i du)[j]? =some l2:=d;obtain ⟨l0,J,V⟩:=AF d;rw [b] at J;cases J;obtain ⟨c1,R,S⟩:=g.dK p hp j l1 b;rcases V with ⟨rfl,rfl⟩ | ⟨e5,rfl⟩
    ·rw [o] at b;cases b;unfold du;cases a:l.waiters with
     | nil=>exact ⟨List.Sublist.refl _,λh=>absurd rfl h,λw G=>by cases G⟩
     | cons w r=>
      refine ⟨List.sublist_cons_self ..,λ_=> ?_,λO G=> ?_⟩
      ·have h3:=(R (by rw [a];simp)).2.2;show ((l.values.tail++ [w.value]).length:Int)=_;rw [List.length_append,List.length_tail,List.length_singleton];omega
      ·rcases List.mem_cons.1 G with rfl | h4
       ·refine .inr ⟨O,r,a,?_⟩;have:=(S O (by rw [a];exact List.mem_cons_self ..)).1;omega
       ·exact .inl h4
    grind
   ·obtain ⟨w,r,a,he⟩:=hq;refine ⟨i,l,du l,w,o,wF o,by rw [a];exact List.mem_cons_self ..,?_,he⟩;have nd:=P;rw [a,List.map_cons,List.nodup_cons] at nd;unfold du;grind
  have b4:Out (s.aW p (bw (s.proc p) i du)) I No p:=⟨λh=>h,.inr (by rw [fp];exact ⟨by show (s.proc p).state≠2;omega,by show (s.proc p).state≠3;omega⟩)⟩;have b5:i<(s.proc p).ah.length:=(List.getElem?_eq_some_iff.1 o).1;have a8:0<=((i+1:Nat):Int)%((s.proc p).ah.length:Int)/\((i+1:Nat):Int)%((s.proc p).ah.length:Int)<((bw (s.proc p) i du).ah.length:Int):=by have e:(bw (s.proc p) i du).ah.length=(s.proc p).ah.length:=List.length_modify ..;rw [e];exact ⟨Int.emod_nonneg _ (by omega),Int.emod_lt_of_pos _ (by omega)⟩
  have D:=W.core (y:={bw (s.proc p) i du with af:=((i+1:Nat):Int)%((s.proc p).ah.length:Int)}) b4 (N.af a8) (by rw [fp]) h0 (u (v:=l.values.headD 0) (f:=(i:Int))).1 u.2;rw [yn] at D;cases a:l.waiters with
  | nil=>refine D.congr λq=>⟨λh=> ?_,λh=>h.elim⟩;grind
  | cons w r=>
   dsimp only;have Z:=Q w (by rw [a];exact List.mem_cons_self ..);obtain ⟨w1,w2,w3,w4,C⟩:=Z;rcases C with C | ⟨C,n2,w6,w7,_⟩
   ·exact C.elim
   have F:w.proc.toNat≠p:=λe=>by rw [e] at C;omega
   have d:w.proc=((w.proc.toNat:Nat):Int):=by omega
   have Y:=D.told (p:=w.proc.toNat) w2 ⟨λh=>h,.inl ⟨⟨w,r,a,d⟩,F⟩⟩ (by rw [ib F];omega) ⟨n2,by rw [ib F];exact w6⟩ 0;refine Y.congr λq=>⟨λh=> ?_,λh=>h.elim⟩;grind
end
section
variable {c:bg} {fl:Nat->Nat->Bool} {s:MS} {T:Int} {p:Nat} {t:Int} {x:ak} {z:Prop} {X Z:Nat->Prop}
theorem Good.ai {d:Nat->Prop} (g:Good c fl s X Z T) {i:Nat} {y:dx} (pm:s8 c T i y)
  (I:∀(k:Nat) o,y.ax[k]? =some o->o= -1\/(0<=o/\o.toNat<nQ c/\az c o.toNat=i/\(j5 (s.proc o.toNat)=true\/Z o.toNat)))
  (J:∀(k:Nat) a,y.an[k]? =some a->∃q,(s.part i).an[k]? =some q/\a.Sublist q/\(a≠ []->∃o,y.ax[k]? =some o/\o≠ -1/\o∉a)/\∀z∈a,¬d z.toNat)
  (H:∀(k:Nat) q,(s.part i).an[k]? =some q->∃a,y.an[k]? =some a/\∀z∈q,z∈a\/d z.toNat\/Z z.toNat)
  (b:∀q,Z q->(s.proc q).state≠3)
  (B:∀q,X q->d q) (N:∀q,d q->X q\/(¬Z q/\(s.proc q).state=3/\az c q=i)):Good c fl (s.dU i y) d Z T where
 tick:=g.tick
 part j hj:=by
  by_cases e:j=i
  ·subst e;rw [rP];exact pm
  ·rw [sC e];exact g.part j hj
 proc:=g.proc
 own j hj k o h:=by
  by_cases e:j=i
  ·subst e;rw [rP] at h;exact I k o h
  ·rw [sC e] at h;exact g.own j hj k o h
 jh j hj k q h:=by
  by_cases e:j=i
  ·subst e;rw [rP] at h ⊢;obtain ⟨M,F,u,v,G⟩:=J k q h;obtain ⟨f,m,n⟩:=g.jh j hj k M F;refine ⟨f.sublist u,λz b=> ?_,v⟩;obtain ⟨a1,a2,a3,a4,a5⟩:=m z (u.subset b);exact ⟨a1,a2,a3,G z b,a5⟩
  ·rw [sC e] at h ⊢;obtain ⟨f,m,n⟩:=g.jh j hj k q h;refine ⟨f,λz b=> ?_,n⟩;obtain ⟨a1,a2,a3,a4,a5⟩:=m z b;refine ⟨a1,a2,a3,λh=> ?_,a5⟩;grind
 dK r hr j l h:=by obtain ⟨f,m,n⟩:=g.dK r hr j l h;refine ⟨f,m,λw K=> ?_⟩;obtain ⟨a1,a2,a3,a4,a5⟩:=n w K;refine ⟨a1,a2,a3,λh=> ?_,a5⟩;grind
 qM q hq hn v:=by
  obtain ⟨k,l,A,C⟩:=g.qM q hq (λh=>hn (B q h)) v;by_cases e:az c q=i
  ·rw [e] at A ⊢;rw [rP];obtain ⟨L,D,E⟩:=H k l A;refine ⟨k,L,D,?_⟩;rcases E _ C with h | h | h
   ·exact h
   ·grind
   ·exact absurd v (b q (by simpa using h))
  ·rw [sC e];grind
 qL q hq hn u:=g.qL q hq (λh=>hn (B q h)) u
theorem Good.queue (g:Good c fl s No No T) {k:Nat} {n:dB} {o:Int} {q:List Int} (hp:p<nQ c) (hi:az c p<nP c) (V:(s.proc p).state=0) (N:dt c p (s.proc p)=some n) (O:n.op=29) (Y:n.lJ=(k:Int)) (P:(s.part (az c p)).ax[k]? =some o) (a9:o≠ -1) (b0:o≠(p:Int))
  (Q:(s.part (az c p)).an[k]? =some q):Good c fl ((s.dU (az c p) {s.part (az c p) with an:=(s.part (az c p)).an.modify k (· ++ [(p:Int)])}).aW p {s.proc p with state:=3}) No No T:=by
 have I:Out s No No p:=vt ⟨by omega,by omega⟩;have B:∀r,r≠p->((s.dU (az c p) {s.part (az c p) with an:=(s.part (az c p)).an.modify k (· ++ [(p:Int)])}).aW p {s.proc p with state:=3}).proc r=s.proc r:=λr e=>ib e;have H:((s.dU (az c p) {s.part (az c p) with an:=(s.part (az c p)).an.modify k (· ++ [(p:Int)])}).aW p {s.proc p with state:=3}).proc p={s.proc p with state:=3}:=fp;have A:∀j,((s.dU (az c p) {s.part (az c p) with an:=(s.part (az c p)).an.modify k (· ++ [(p:Int)])}).aW p {s.proc p with state:=3}).part j=(s.dU (az c p) {s.part (az c p) with an:=(s.part (az c p)).an.modify k (· ++ [(p:Int)])}).part j:=λj=>rfl;have b7:∀r,j5 (s.proc r)=true->j5 (((s.dU (az c p) {s.part (az c p) with an:=(s.part (az c p)).an.modify k (· ++ [(p:Int)])}).aW p {s.proc p with state:=3}).proc r)=true:=λr h=>by
  by_cases e:r=p
  ·subst e;rw [H];rfl
  grind
 generalize b5:(s.dU (az c p) {s.part (az c p) with an:=(s.part (az c p)).an.modify k (· ++ [(p:Int)])}).aW p {s.proc p with state:=3}=J at*;have R:J.tick=s.tick:=by rw [<-b5];rfl
 have a8:∀r,(J.proc r).ah=(s.proc r).ah:=λr=>by grind
 have b6:∀ {i k z},oV c s No No i k z->oV c J No No i k z:=λ{i k z} h=>h.cv (λh=>h) (B _ (h.out I));refine ⟨by rw [R];exact g.tick,λj v=> ?_,λr d=> ?_,λj v f S h=> ?_,λj v f l h=> ?_,λr d j l h=> ?_,λr d _ G=> ?_,λr d _ F=> ?_⟩
 ·rw [A];by_cases e:j=az c p
  ·subst e;rw [rP];have pm:=g.part _ v;exact ⟨pm.cur,pm.jy,pm.log,pm.lost,pm.kG,pm.full,pm.gG,by show ((List.modify _ _ _).length:Int)=_;rw [List.length_modify];exact pm.ig⟩
  ·rw [sC e];exact g.part j v
 ·rw [R];by_cases e:r=p
  ·subst e;rw [H];exact (g.proc r d).wait V (.inr rfl) N ⟨λh=>by omega,λ_=>O⟩
  ·rw [B r e];exact g.proc r d
 ·rw [A] at h;have h:(s.part j).ax[f]? =some S:=by
   by_cases e:j=az c p
   ·subst e;rw [rP] at h;exact h
   ·rw [sC e] at h;exact h
  rcases g.own j v f S h with h | ⟨h1,F,G,h4⟩
  ·exact .inl h
  grind
 ·rw [A] at h ⊢;by_cases e:j=az c p
  ·subst e;rw [rP] at h ⊢;obtain ⟨b,m,u⟩:=AF h;obtain ⟨C,D,y⟩:=g.jh _ v f b m;rcases u with ⟨u,rfl⟩ | ⟨u,rfl⟩
   ·subst u;rw [Q] at m;cases m;have b4:(p:Int)∉q:=λhm=>((D _ hm).out I) (by omega);refine ⟨?_,λz hz=> ?_,λ_=>⟨o,P,a9,?_⟩⟩
    ·rw [List.nodup_append];exact ⟨C,by simp,λa W b hb=>by rw [List.mem_singleton.1 hb];exact λe=>b4 (e▸W)⟩
    ·rcases List.mem_append.1 hz with hz | hz
     ·exact b6 (D z hz)
     ·rw [List.mem_singleton.1 hz];refine ⟨by omega,hp,rfl,λh=>h,.inr ?_⟩;rw [Int.toNat_natCast,H];exact ⟨rfl,n,N,O,Y⟩
    ·intro hm;rcases List.mem_append.1 hm with hm | hm
     ·obtain ⟨o',K,_,U⟩:=y (List.ne_nil_of_mem hm);rw [P] at K;cases K;exact U hm
     ·exact b0 (List.mem_singleton.1 hm)
   grind
  ·rw [sC e] at h ⊢;obtain ⟨C,D,y⟩:=g.jh j v f l h;grind
 ·rw [a8] at h;obtain ⟨C,D,y⟩:=g.dK r d j l h;refine ⟨C,λE=> ?_,λw E=>(y w E).cv (λh=>h) (B _ ((y w E).out I))⟩;grind
 ·by_cases e:r=p
  ·subst e;rw [A,rP];exact ⟨k,_,wF Q,List.mem_append_right _ (List.mem_singleton.2 rfl)⟩
  ·rw [B r e] at G;obtain ⟨f,l,m,u⟩:=g.qM r d (λh=>h) G;rw [A];by_cases L:az c r=az c p
   ·rw [L] at m ⊢;rw [rP];by_cases M:k=f
    ·subst M;exact ⟨k,_,wF m,List.mem_append_left _ u⟩
    ·exact ⟨f,l,(Jg M).trans m,u⟩
   ·rw [sC L];grind
 ·by_cases e:r=p
  ·grind
  ·rw [B r e] at F;obtain ⟨r',b8,l,hl,E⟩:=g.qL r d (λh=>h) F;grind
theorem Good.lock (m:cc c) (g:Good c fl s No No T) {k:Int} {n:dB} (hp:p<nQ c) (l:(s.proc p).state=0) (f:dt c p (s.proc p)=some n) (r:n.op=29) (B:n.lJ=k):Good c fl (jN c s p k) No No T:=by
 have b:=m.eJ (p:=p);have D:=Lq (m.ins f).1 (.inl r);rw [B] at D;have pm:=g.part _ b;have L:=pm.gG;have M:=pm.ig;have v:=List.getElem?_eq_getElem (show k.toNat<(s.part (az c p)).an.length by omega);have u:=List.getElem?_eq_getElem (show k.toNat<(s.part (az c p)).ax.length by omega);generalize (s.part (az c p)).an[k.toNat]=q at v;generalize (s.part (az c p)).ax[k.toNat]=o at u;have J:=yy f;have C:=g.proc p hp;unfold jN;dsimp only;have A:(s.part (az c p)).ax.getD k.toNat 0=o:=by grind
 rw [A];by_cases h:o= -1\/o=(p:Int)
 ·rw [if_pos h];unfold jN.goK;have N:Out s No No p:=vt ⟨by omega,by omega⟩;have i:Good c fl (s.dU (az c p) {s.part (az c p) with ax:=(s.part (az c p)).ax.set k.toNat p}) No No T:=by
   refine g.ai ⟨pm.cur,pm.jy,pm.log,pm.lost,pm.kG,pm.full,by show ((List.set _ _ _).length:Int)=_;rw [List.length_set];exact pm.gG,pm.ig⟩ (λj w a=> ?_) (λj d a=>⟨d,a,List.Sublist.refl _,λK=> ?_,λ_ _ h=>h⟩) (λj d a=>⟨d,a,λz E=>.inl E⟩) (λ_ h=>h.elim) (λ_ h=>h) λ_ h=>h.elim
   ·have a:((s.part (az c p)).ax.set k.toNat p)[j]? =some w:=a;by_cases e:k.toNat=j
    ·subst e;rw [List.getElem?_set_self (by omega)] at a;cases a;refine .inr ⟨by omega,hp,rfl,.inl ?_⟩;rw [Int.toNat_natCast,cQ];omega
    ·rw [List.getElem?_set_ne e] at a;exact g.own _ b j w a
   ·obtain ⟨G,H,I⟩:=g.jh _ b j d a;grind
  have F:Out (s.dU (az c p) {s.part (az c p) with ax:=(s.part (az c p)).ax.set k.toNat p}) No No p:=vt ⟨by show (s.proc p).state≠2;omega,by show (s.proc p).state≠3;omega⟩;exact vu (i.core (y:=s.proc p) (k:=fj (s.proc p).core) F (i.proc p hp) rfl l ⟨by show 0<=(s.proc p).pc+1;omega,by show (s.proc p).pc+1<=_;omega⟩ C.bf)
 ·rw [if_neg h];exact g.queue hp b l f r (by omega) u (λe=>h (.inl e)) (λe=>h (.inr e)) v
theorem Good.given (g:Good c fl s X Z T) {a:Int} (d:0<=a) (f:a.toNat<nQ c) (h:X a.toNat) (i:¬Z a.toNat) (b:(s.proc a.toNat).state≠4) (e:∃n,dt c a.toNat (s.proc a.toNat)=some n):Good c fl (jk s a) (λq=>X q/\q≠a.toNat) Z T:=by unfold jk;rw [if_pos d];exact g.LR f ⟨i,.inl h⟩ b e
theorem Good.unlock (m:cc c) (g:Good c fl s No No T) {k:Int} (hp:p<nQ c) (N:0<=k/\k<c.ai):Good c fl (xD c s p k) No No T:=by
 have f:=m.eJ (p:=p);have pm:=g.part _ f;have O:=pm.gG;have P:=pm.ig;have i:=List.getElem?_eq_getElem (show k.toNat<(s.part (az c p)).an.length by omega);have C:=List.getElem?_eq_getElem (show k.toNat<(s.part (az c p)).ax.length by omega);generalize (s.part (az c p)).an[k.toNat]=q at i;generalize (s.part (az c p)).ax[k.toNat]=o at C;unfold xD;dsimp only;have G:(s.part (az c p)).ax.getD k.toNat (-1)=o:=by simp [List.getD,C]
 have H:(s.part (az c p)).an.getD k.toNat []=q:=by simp [List.getD,i]
 rw [G,H];by_cases h:o=(p:Int)
 ·rw [if_pos h];obtain ⟨E,y,M⟩:=g.jh _ f _ _ i;cases q with
  | nil=>
   dsimp only;refine g.ai ⟨pm.cur,pm.jy,pm.log,pm.lost,pm.kG,pm.full,by show ((List.set _ _ _).length:Int)=_;rw [List.length_set];exact pm.gG,pm.ig⟩ (λj l b=> ?_) (λj d b=>⟨d,b,List.Sublist.refl _,λu=> ?_,λ_ _ h=>h⟩) (λj d b=>⟨d,b,λz hz=>.inl hz⟩) (λ_ h=>h.elim) (λ_ h=>h) λ_ h=>h.elim
   ·have b:((s.part (az c p)).ax.set k.toNat (-1))[j]? =some l:=b;by_cases e:k.toNat=j
    ·subst e;rw [List.getElem?_set_self (by omega)] at b;cases b;exact .inl rfl
    ·rw [List.getElem?_set_ne e] at b;exact g.own _ f j l b
   ·have b:(s.part (az c p)).an[j]? =some d:=b;obtain ⟨F,A,w⟩:=g.jh _ f j d b;have e:¬k.toNat=j:=λe=>by subst e;rw [i] at b;cases b;exact u rfl
    show ∃o,((s.part (az c p)).ax.set k.toNat (-1))[j]? =some o/\o≠ -1/\o∉d;rw [List.getElem?_set_ne e];exact w u
  | cons a r=>
   dsimp only;obtain ⟨a1,a2,a3,a4,a5⟩:=y a (List.mem_cons_self ..);rcases a5 with a5 | ⟨a5,n,a6,a7,L⟩
   ·exact a5.elim
   have B:=List.nodup_cons.1 E;have I:Good c fl (s.dU (az c p) {s.part (az c p) with ax:=(s.part (az c p)).ax.set k.toNat a,an:=(s.part (az c p)).an.set k.toNat r}) (λq=>q=a.toNat) No T:=by
    refine g.ai ⟨pm.cur,pm.jy,pm.log,pm.lost,pm.kG,pm.full,by show ((List.set _ _ _).length:Int)=_;rw [List.length_set];exact pm.gG,by show ((List.set _ _ _).length:Int)=_;rw [List.length_set];exact pm.ig⟩ (λj l b=> ?_) (λj d b=> ?_) (λj d b=> ?_) (λ_ h=>h.elim) (λ_ h=>h.elim) λd h=>.inr ⟨λh=>h,by rw [h];exact a5,by rw [h];exact a3⟩
    ·have b:((s.part (az c p)).ax.set k.toNat a)[j]? =some l:=b;by_cases e:k.toNat=j
     ·subst e;rw [List.getElem?_set_self (by omega)] at b;cases b;refine .inr ⟨a1,a2,a3,.inl ?_⟩;rw [cQ];omega
     ·rw [List.getElem?_set_ne e] at b;exact g.own _ f j l b
    ·have b:((s.part (az c p)).an.set k.toNat r)[j]? =some d:=b;show ∃q,(s.part (az c p)).an[j]? =some q/\d.Sublist q/\(d≠ []->∃o,((s.part (az c p)).ax.set k.toNat a)[j]? =some o/\o≠ -1/\o∉d)/\_;by_cases e:k.toNat=j
     ·subst e;rw [List.getElem?_set_self (by omega)] at b;cases b;refine ⟨a::r,i,List.sublist_cons_self ..,λ_=>⟨a,List.getElem?_set_self (by omega),by omega,B.1⟩,λz hz h=> ?_⟩;have Q:=(y z (List.mem_cons_of_mem _ hz)).1;have:z=a:=by omega
      exact B.1 (this▸hz)
     ·rw [List.getElem?_set_ne e] at b;obtain ⟨F,A,w⟩:=g.jh _ f j d b;refine ⟨d,b,List.Sublist.refl _,λu=>by rw [List.getElem?_set_ne e];exact w u,λz hz h=> ?_⟩;obtain ⟨S,U,V,W,v⟩:=A z hz;rcases v with v | ⟨v,R,D,Y,z8⟩
      ·exact v
      ·rw [h,a6] at D;cases D;omega
    ·have b:(s.part (az c p)).an[j]? =some d:=b;show ∃K,((s.part (az c p)).an.set k.toNat r)[j]? =some K/\_;by_cases e:k.toNat=j
     ·subst e;rw [i] at b;cases b;refine ⟨r,List.getElem?_set_self (by omega),λz hz=> ?_⟩;rcases List.mem_cons.1 hz with rfl | hz
      ·exact .inr (.inl rfl)
      ·exact .inl hz
     ·exact ⟨d,by rw [List.getElem?_set_ne e];exact b,λz hz=>.inl hz⟩
   have J:=I.given a1 a2 rfl (λh=>h) (by show (s.proc a.toNat).state≠4;omega) ⟨n,a6⟩;exact J.congr λq=>⟨λh=>(h.2 h.1).elim,λh=>h.elim⟩
 grind
end
theorem Tk {c:Type} {f:c->Bool}:∀ {l:List c} {a:c},a∈l->f a=false->a∈gU f l
 | b::l,a,h,d=>by
  unfold gU;split
  ·grind
  ·rcases List.mem_cons.1 h with rfl | h
   ·simp
   ·exact List.mem_cons_of_mem _ (Tk h d)
theorem bC {a:Type} {f:a->Bool}:∀ {l:List a},(gU f l).Sublist l
 | []=>List.Sublist.refl _
 | b::l=>by
  unfold gU;split
  ·simp
  ·exact bC.cons_cons _
theorem KY {d c:Type} [DecidableEq c] {g:d->c} {b:c}:∀ {l:List d},(l.map g).Nodup->∀a∈gU (λx=>decide (g x=b)) l,g a≠b
 | [],_,a,h=>by cases h
 | x::l,nd,a,h=>by
  rw [List.map_cons,List.nodup_cons] at nd;unfold gU at h;split at h
  ·grind
  ·rename_i e;rcases List.mem_cons.1 h with rfl | h
   ·grind
   ·exact KY nd.2 a h
section
variable {c:bg} {fl:Nat->Nat->Bool} {s:MS} {T:Int} {p:Nat} {t:Int} {x:ak} {z:Prop} {X Z:Nat->Prop}
theorem Good.dying (g:Good c fl s No No T) {st:Int} (F:st=5\/st=6) (hp:p<nQ c):Good c fl (s.aW p {s.proc p with state:=st,bN:=false}) No (λq=>q=p) T:=by
 have E:∀r,dt c r ((s.aW p {s.proc p with state:=st,bN:=false}).proc r)=dt c r (s.proc r):=λr=>Jq rfl;have b:∀r,r≠p->(s.aW p {s.proc p with state:=st,bN:=false}).proc r=s.proc r:=λr e=>ib e;have B:(s.aW p {s.proc p with state:=st,bN:=false}).proc p={s.proc p with state:=st,bN:=false}:=fp;have C:∀r,((s.aW p {s.proc p with state:=st,bN:=false}).proc r).ah=(s.proc r).ah:=λr=>by grind
 refine ⟨g.tick,g.part,λr a=> ?_,λi m k o h=> ?_,λi m k q h=> ?_,λr a i l h=> ?_,λr a _ h=> ?_,λr a _ h=> ?_⟩
 ·by_cases e:r=p
  ·subst e;rw [B];have pm:=g.proc r a;exact ⟨by grind,pm.pc,pm.lF,pm.cur,pm.mG,pm.mH,.inl rfl,λ_=>⟨.inl rfl,rfl⟩,pm.dK,λh=>by grind,λh=>by grind,λh=>by grind,λh=>by grind,pm.bf⟩
  ·rw [b r e];have pm:=g.proc r a;exact ⟨pm.st,pm.pc,pm.lF,pm.cur,pm.mG,pm.mH,.inr (pm.np.resolve_left (λh=>h)),λh=>⟨.inr ((pm.dead h).1.resolve_left (λh=>h)),(pm.dead h).2⟩,pm.dK,pm.recv,pm.snd,pm.pe,pm.iT,pm.bf⟩
 ·rcases g.own i m k o h with h | ⟨u,v,y,A⟩
  ·exact .inl h
  ·refine .inr ⟨u,v,y,?_⟩;by_cases e:o.toNat=p
   ·exact .inr e
   ·rw [b _ e];exact .inl (A.resolve_right (λh=>h))
 ·obtain ⟨d,f,j⟩:=g.jh i m k q h;refine ⟨d,λz D=> ?_,j⟩;obtain ⟨a1,a2,a3,a4,a5⟩:=f z D;refine ⟨a1,a2,a3,a4,?_⟩;grind
 ·rw [C] at h;obtain ⟨d,f,j⟩:=g.dK r a i l h;refine ⟨d,λn=> ?_,λw n=> ?_⟩
  ·obtain ⟨a1,a2,a3⟩:=f n;refine ⟨a1,?_,a3⟩;by_cases e:r=p
   ·exact .inr e
   ·rw [b _ e];exact .inl (a2.resolve_right (λh=>h))
  ·obtain ⟨a1,a2,a3,a4,a5⟩:=j w n;refine ⟨a1,a2,a3,a4,?_⟩;grind
 ·by_cases e:r=p
  ·grind
  ·rw [b _ e] at h;exact g.qM r a (λh=>h) h
 ·by_cases e:r=p
  ·grind
  ·rw [b _ e] at h;obtain ⟨G,u,l,v,y⟩:=g.qL r a (λh=>h) h;grind
theorem Gu {p:Int} {x:ak} {i:Nat} {l:ba} (h:(qz p x).ah[i]? =some l):∃a,x.ah[i]? =some a/\l.values=a.values/\l.taken=a.taken/\l.dropped=a.dropped/\l.waiters=gU (λw=>decide (w.proc=p)) a.waiters:=by have h:(x.ah.map _)[i]? =some l:=h;grind
theorem cp.leave (pm:cp c fl t p z x) {q:Int}:cp c fl t p z (qz q x) where
 st:=pm.st
 pc:=pm.pc
 lF:=by show (List.map _ _).length=_;rw [List.length_map];exact pm.lF
 cur:=by show 0<=x.af/\x.af<((List.map _ _).length:Int);rw [List.length_map];exact pm.cur
 mG:=pm.mG
 mH:=pm.mH
 np:=pm.np
 dead:=pm.dead
 dK:=λi l h=>by obtain ⟨a,e,k,m,n,_⟩:=Gu h;have:=pm.dK i a e;unfold rT at this ⊢;grind
 recv:=λh=>by obtain ⟨b,d,f⟩:=pm.recv h;refine ⟨b,λl j=> ?_,f⟩;obtain ⟨a,g,rfl⟩:=List.mem_map.1 j;exact d a g
 snd:=pm.snd
 pe:=pm.pe
 iT:=pm.iT
 bf:=pm.bf
theorem Good.leave (g:Good c fl s X (λq=>q=p) T) (b4:(s.proc p).state≠2/\(s.proc p).state≠3) {L:List Nat} (O:∀q,q∈L↔q<nQ c/\az c q=az c p):Good c fl (lQ p s L) X (λq=>q=p) T/\∀r,r<nQ c->∀l∈((lQ p s L).proc r).ah,∀w∈l.waiters,w.proc≠(p:Int):=by
 have J:∀r,(lQ p s L).proc r=qz p (s.proc r)\/(lQ p s L).proc r=s.proc r:=λr=>by
  by_cases h:r∈L
  ·exact .inl (if_pos h)
  ·exact .inr (if_neg h)
 have E:∀r,((lQ p s L).proc r).state=(s.proc r).state/\((lQ p s L).proc r).pc=(s.proc r).pc/\((lQ p s L).proc r).bf=(s.proc r).bf:=λr=>by rcases J r with h | h<;>rw [h]<;>exact ⟨rfl,rfl,rfl⟩
 have a9:∀r,dt c r ((lQ p s L).proc r)=dt c r (s.proc r):=λr=>by unfold dt;grind
 have b0:∀r,j5 ((lQ p s L).proc r)=j5 (s.proc r):=λr=>by unfold j5;rw [(E r).1]
 have I:∀(r i:Nat) (l:ba),((lQ p s L).proc r).ah[i]? =some l->∃b:ba,(s.proc r).ah[i]? =some b/\l.values=b.values/\l.waiters.Sublist b.waiters/\(r∈L->∀w∈gU (λw=>decide (w.proc=(p:Int))) b.waiters,w∈l.waiters)/\(r∈L->l.waiters=gU (λw=>decide (w.proc=(p:Int))) b.waiters)/\(r∉L->l=b):=λr i l h=>by
  by_cases a:r∈L
  ·have e:(lQ p s L).proc r=qz p (s.proc r):=if_pos a;rw [e] at h;obtain ⟨b,n,C,_,_,u⟩:=Gu h;exact ⟨b,n,C,by rw [u];exact bC,λ_ w d=>by rw [u];exact d,λ_=>u,λU=>absurd a U⟩
  ·have e:(lQ p s L).proc r=s.proc r:=if_neg a;grind
 refine ⟨⟨g.tick,g.part,λr a=> ?_,λi B k o h=> ?_,λi B k q h=> ?_,λr a i l h=> ?_,λr a F h=> ?_,λr a F h=> ?_⟩,λr a l S w d H=> ?_⟩
 ·rcases J r with h | h
  ·rw [h];exact (g.proc r a).leave
  ·rw [h];exact g.proc r a
 ·rcases g.own i B k o h with h | ⟨v,N,G,D⟩
  ·exact .inl h
  grind
 ·obtain ⟨j,y,m⟩:=g.jh i B k q h;refine ⟨j,λz V=> ?_,m⟩;obtain ⟨a1,a2,a3,a4,a5⟩:=y z V;exact ⟨a1,a2,a3,a4,by grind⟩
 ·obtain ⟨b,n,C,A,_⟩:=I r i l h;obtain ⟨j,y,m⟩:=g.dK r a i b n;refine ⟨j.sublist (A.map _),λd=> ?_,λw d=> ?_⟩
  ·grind
  ·obtain ⟨a1,a2,a3,a4,a5⟩:=m w (A.subset d);refine ⟨a1,a2,a3,a4,?_⟩;grind
 ·rw [(E r).1] at h;exact g.qM r a F h
 ·rw [(E r).1] at h;obtain ⟨f,v,l,N,w,G,D⟩:=g.qL r a F h;have b5:r≠p:=λe=>by grind
  by_cases K:f∈L
  ·have e:(lQ p s L).proc f=qz p (s.proc f):=if_pos K;refine ⟨f,v,{l with waiters:=gU (λw=>decide (w.proc=(p:Int))) l.waiters},?_,w,?_,D⟩
   ·rw [e];show (List.map _ _)[_]? =_;grind
   ·exact Tk G (decide_eq_false (by rw [D];omega))
  ·have e:(lQ p s L).proc f=s.proc f:=if_neg K;grind
 ·obtain ⟨i,B,a8⟩:=List.getElem_of_mem S;have Q:((lQ p s L).proc r).ah[i]? =some l:=by grind
  obtain ⟨b,n,C,A,W,u,Y⟩:=I r i l Q;obtain ⟨j,y,m⟩:=g.dK r a i b n;have M:=A.subset d;have P:=m w M;have hb:=y (List.ne_nil_of_mem M);have R:r∈L:=(O r).2 ⟨a,by
   have v:=P.2.2.1;rw [H,Int.toNat_natCast] at v;rw [v,hb.1]⟩
  rw [u R] at d;exact KY j w d H
end
theorem AJ {p:Int}:∀ {os:List Int} {qs:List (List Int)},os.length=qs.length->
  (iW p os qs).1.length=os.length/\(iW p os qs).2.1.length=qs.length/\
  (∀(k:Nat) o q,os[k]? =some o->qs[k]? =some q->(o≠p/\(iW p os qs).1[k]? =some o/\(iW p os qs).2.1[k]? =some q)\/(o=p/\q=[]/\(iW p os qs).1[k]? =some (-1)/\(iW p os qs).2.1[k]? =some [])\/
   (o=p/\∃a r,q=a::r/\(iW p os qs).1[k]? =some a/\(iW p os qs).2.1[k]? =some r/\a∈(iW p os qs).2.2))/\
  (∀a∈(iW p os qs).2.2,a= -1\/∃(k:Nat) (r:List Int),os[k]? =some p/\qs[k]? =some (a::r))/\
  ((∀(j k:Nat) (z:Int) (a b:List Int),qs[j]? =some a->qs[k]? =some b->z∈a->z∈b->j=k)->(iW p os qs).2.2.Pairwise λa b=>a≠b\/a= -1)
 | [],[],_=>by simp [iW]
 | [],_::_,h=>by simp at h
 | _::_,[],h=>by simp at h
 | o::os,q::qs,h=>by
  obtain ⟨t,u,v,B,w⟩:=AJ (p:=p) (os:=os) (qs:=qs) (by simpa using h);have y:(∀(j k:Nat) (z:Int) (a b:List Int),(q::qs)[j]? =some a->(q::qs)[k]? =some b->z∈a->z∈b->j=k)->∀(j k:Nat) (z:Int) (a b:List Int),qs[j]? =some a->qs[k]? =some b->z∈a->z∈b->j=k:=λg j k z a b ha hb E F=>by have:=g (j+1) (k+1) z a b (by simpa using ha) (by simpa using hb) E F;omega
  have C:∀a∈(iW p os qs).2.2,a= -1\/∃(k:Nat) (r:List Int),(o::os)[k]? =some p/\(q::qs)[k]? =some (a::r):=λa ha=>(B a ha).imp id λ⟨k,r,A,s⟩=>⟨k+1,r,by simpa using A,by simpa using s⟩;unfold iW;dsimp only;by_cases e:o=p
  ·rw [if_pos e];cases q with
   | nil=>
    dsimp only;refine ⟨by simp [t],by simp [u],λk m n i l=> ?_,λa ha=> ?_,λg=> ?_⟩
    ·cases k with
     | zero=>grind
     | succ k=>
      rcases v k m n (by simpa using i) (by simpa using l) with ⟨a,b,c⟩ | ⟨a,b,c,d⟩ | ⟨a,x,r,b,c,d,f⟩
      ·exact .inl ⟨a,by simpa using b,by simpa using c⟩
      ·exact .inr (.inl ⟨a,b,by simpa using c,by simpa using d⟩)
      ·exact .inr (.inr ⟨a,x,r,b,by simpa using c,by simpa using d,List.mem_cons_of_mem _ f⟩)
    ·grind
    ·exact List.pairwise_cons.2 ⟨λb _=>.inr rfl,w (y g)⟩
   | cons x r=>
    dsimp only;refine ⟨by simp [t],by simp [u],λk m n i l=> ?_,λa ha=> ?_,λg=> ?_⟩
    ·cases k with
     | zero=>grind
     | succ k=>
      rcases v k m n (by simpa using i) (by simpa using l) with ⟨a,b,c⟩ | ⟨a,b,c,d⟩ | ⟨a,x,r,b,c,d,f⟩
      ·exact .inl ⟨a,by simpa using b,by simpa using c⟩
      ·exact .inr (.inl ⟨a,b,by simpa using c,by simpa using d⟩)
      ·exact .inr (.inr ⟨a,x,r,b,by simpa using c,by simpa using d,List.mem_cons_of_mem _ f⟩)
    ·rcases List.mem_cons.1 ha with rfl | ha
     ·exact .inr ⟨0,r,by simp [e],by simp⟩
     ·exact C a ha
    ·refine List.pairwise_cons.2 ⟨λb hb=> ?_,w (y g)⟩;rcases B b hb with rfl | ⟨k,G,A,s⟩
     ·omega
     ·refine .inl λD=> ?_;subst D;have:=g 0 (k+1) x (x::r) (x::G) (by simp) (by simpa using s) (List.mem_cons_self ..) (List.mem_cons_self ..);omega
  ·rw [if_neg e];refine ⟨by simp [t],by simp [u],λk m n i l=> ?_,λa ha=>C a ha,λg=>w (y g)⟩;cases k with
   | zero=>grind
   | succ k=>
    rcases v k m n (by simpa using i) (by simpa using l) with ⟨a,b,c⟩ | ⟨a,b,c,d⟩ | ⟨a,x,r,b,c,d,f⟩
    ·exact .inl ⟨a,by simpa using b,by simpa using c⟩
    ·exact .inr (.inl ⟨a,b,by simpa using c,by simpa using d⟩)
    grind
section
variable {c:bg} {fl:Nat->Nat->Bool} {s:MS} {T:Int} {p:Nat} {X Z:Nat->Prop}
theorem Good.qK :∀ {l:List Int} {s:MS},Good c fl s (λq=>(q:Int)∈l) Z T->(l.Pairwise λa b=>a≠b\/a= -1)->(∀a∈l,a= -1\/(0<=a/\a.toNat<nQ c/\¬Z a.toNat/\(s.proc a.toNat).state≠4/\∃n,dt c a.toNat (s.proc a.toNat)=some n))->Good c fl (l.foldl jk s) No Z T
 | [],s,g,_,_=>g.congr λq=>⟨λh=>(by cases h),λh=>h.elim⟩
 | a::l,s,g,hp,d=>by
  obtain ⟨m,f⟩:=List.pairwise_cons.1 hp;rw [List.foldl_cons];rcases d a (List.mem_cons_self ..) with w | ⟨a1,a2,a3,a4,a5⟩
  ·have e:jk s a=s:=by unfold jk;rw [pW]
   rw [e];refine Good.qK (g.congr λq=>⟨λh=> ?_,λh=>List.mem_cons_of_mem _ h⟩) f λb hb=>d b (List.mem_cons_of_mem _ hb);grind
  ·have j:a∉l:=λh=>(m a h).elim (λh=>h rfl) (λh=>by omega);have i:=g.given a1 a2 (by grind) a3 a4 a5;refine Good.qK (i.congr λq=>⟨λh=> ?_,λh=>⟨List.mem_cons_of_mem _ h,λe=> ?_⟩⟩) f λb hb=> ?_
   ·grind
   ·grind
   ·rcases d b (List.mem_cons_of_mem _ hb) with h | ⟨o,r,t,u,v⟩
    ·exact .inl h
    ·have k:b.toNat≠a.toNat:=λe=>j (by rw [show a=b by omega];exact hb);have e:(jk s a).proc b.toNat=s.proc b.toNat:=by unfold jk;rw [if_pos a1];exact ib k
     grind
theorem Good.yg {v:Int}:∀ {l:List mu} {s:MS},Good c fl s (λq=>(q:Int)∈l.map (·.proc)) No T->(l.map (·.proc)).Nodup->(∀w∈l,0<=w.proc/\w.proc.toNat<nQ c/\(s.proc w.proc.toNat).state≠4/\∃n,dt c w.proc.toNat (s.proc w.proc.toNat)=some n)->Good c fl (l.foldl (λs w=>cm c s w.proc.toNat v) s) No No T
 | [],s,g,_,_=>g.congr λq=>⟨λh=>(by cases h),λh=>h.elim⟩
 | a::l,s,g,hp,d=>by
  rw [List.map_cons,List.nodup_cons] at hp;rw [List.foldl_cons];obtain ⟨a1,a2,a4,a5⟩:=d a (List.mem_cons_self ..);have r:((a.proc.toNat:Nat):Int)=a.proc:=by omega
  have f:=g.told (p:=a.proc.toNat) a2 ⟨λh=>h,.inl (by grind)⟩ a4 a5 v;refine Good.yg (f.congr λq=>⟨λh=> ?_,λh=>⟨List.mem_cons_of_mem _ h,λe=> ?_⟩⟩) hp.2 λb hb=> ?_
  ·grind
  ·grind
  ·obtain ⟨j,k,m,o⟩:=d b (List.mem_cons_of_mem _ hb);have i:b.proc.toNat≠a.proc.toNat:=λe=>hp.1 (List.mem_map.2 ⟨b,hb,by omega⟩);have e:(cm c s a.proc.toNat v).proc b.proc.toNat=s.proc b.proc.toNat:=ib i;grind
theorem Good.tA (g:Good c fl s No (λq=>q=p) T) (I:az c p<nP c) (c0:(s.proc p).state≠3):Good c fl (((xj p (s.part (az c p))).2).foldl jk (s.dU (az c p) (xj p (s.part (az c p))).1)) No (λq=>q=p) T/\
  (∀i,i<nP c->∀(k:Nat),((s.dU (az c p) (xj p (s.part (az c p))).1).part i).ax[k]?≠some (p:Int))/\∀i,i<nP c->∀(k:Nat) q,((s.dU (az c p) (xj p (s.part (az c p))).1).part i).an[k]? =some q->(p:Int)∉q:=by
 have pm:=g.part _ I;have b5:(s.part (az c p)).ax.length=((s.part (az c p)).an.map (gU λz=>decide (z=(p:Int)))).length:=by have:=pm.gG;have:=pm.ig;grind
 obtain ⟨L1,L2,H,HG,U⟩:=AJ (p:=(p:Int)) b5;have B:∀ {z:Int} {q:List Int} {k:Nat},(s.part (az c p)).an[k]? =some q->z∈q->z≠(p:Int)->0<=z/\z.toNat<nQ c/\az c z.toNat=az c p/\z.toNat≠p/\(s.proc z.toNat).state=3/\∃n,dt c z.toNat (s.proc z.toNat)=some n/\n.op=29/\n.lJ=(k:Int):=λ{z q k} K v J=>by obtain ⟨a1,a2,a3,a4,a5⟩:=(g.jh _ I k q K).2.1 z v;grind
 have b3:∀ {k:Nat} {q:List Int},((s.part (az c p)).an.map (gU λz=>decide (z=(p:Int))))[k]? =some q->∃l,(s.part (az c p)).an[k]? =some l/\q=gU (λz=>decide (z=(p:Int))) l:=λ{k q} h=>by grind
 have D:∀ {k:Nat} {l:List Int} {z:Int},(s.part (az c p)).an[k]? =some l->z∈gU (λz=>decide (z=(p:Int))) l->z≠(p:Int):=λ{k l z} K v=>by have nd:=(g.jh _ I k l K).1;exact KY (g:=λz=>z) (by simpa using nd) z v
 have b2:∀(j k:Nat) (z:Int) (a b:List Int),((s.part (az c p)).an.map (gU λz=>decide (z=(p:Int))))[j]? =some a->((s.part (az c p)).an.map (gU λz=>decide (z=(p:Int))))[k]? =some b->z∈a->z∈b->j=k:=by intro j k z a b C hb b7 c3;obtain ⟨a0,a9,rfl⟩:=b3 C;obtain ⟨b0,b8,rfl⟩:=b3 hb;have J:=D a9 b7;obtain ⟨_,_,_,_,_,n1,m,_,O⟩:=B a9 (bC.subset b7) J;obtain ⟨_,_,_,_,_,n2,f1,_,f3⟩:=B b8 (bC.subset c3) J;grind
 have W:∀a∈(iW (p:Int) (s.part (az c p)).ax ((s.part (az c p)).an.map (gU λz=>decide (z=(p:Int))))).2.2,a= -1\/∃(k:Nat) (l r:List Int),(s.part (az c p)).ax[k]? =some (p:Int)/\(s.part (az c p)).an[k]? =some l/\gU (λz=>decide (z=(p:Int))) l=a::r:=λa C=>by grind
 have U:=U b2;have b4:∀ {k:Nat} {l:List Int},(s.part (az c p)).an[k]? =some l->∃o,(s.part (az c p)).ax[k]? =some o:=λ{k l} h=>by have h1:=(List.getElem?_eq_some_iff.1 h).1;rw [List.length_map] at b5;exact ⟨_,List.getElem?_eq_getElem (by omega)⟩
 have G:∀ {k:Nat} {l:List Int},(s.part (az c p)).an[k]? =some l->((s.part (az c p)).an.map (gU λz=>decide (z=(p:Int))))[k]? =some (gU (λz=>decide (z=(p:Int))) l):=λ{k l} h=>by grind
 have eY:xj p (s.part (az c p))=({s.part (az c p) with ax:=(iW (p:Int) (s.part (az c p)).ax ((s.part (az c p)).an.map (gU λz=>decide (z=(p:Int))))).1,an:=(iW (p:Int) (s.part (az c p)).ax ((s.part (az c p)).an.map (gU λz=>decide (z=(p:Int))))).2.1},(iW (p:Int) (s.part (az c p)).ax ((s.part (az c p)).an.map (gU λz=>decide (z=(p:Int))))).2.2):=rfl;rw [eY];dsimp only;generalize iW (p:Int) (s.part (az c p)).ax ((s.part (az c p)).an.map (gU λz=>decide (z=(p:Int))))=R at*;have b1:∀(k:Nat) u,R.2.1[k]? =some u->∃l o,(s.part (az c p)).an[k]? =some l/\(s.part (az c p)).ax[k]? =some o/\((o≠(p:Int)/\R.1[k]? =some o/\u=gU (λz=>decide (z=(p:Int))) l)\/(o=(p:Int)/\gU (λz=>decide (z=(p:Int))) l=[]/\R.1[k]? =some (-1)/\u=[])\/(o=(p:Int)/\∃a,gU (λz=>decide (z=(p:Int))) l=a::u/\R.1[k]? =some a/\a∈R.2.2)):=λk u h=>by
  have h1:=(List.getElem?_eq_some_iff.1 h).1;rw [L2,List.length_map] at h1;have m:=List.getElem?_eq_getElem h1;obtain ⟨o,t⟩:=b4 m;refine ⟨_,o,m,t,?_⟩;rcases H k o _ t (G m) with ⟨a,b,d⟩ | ⟨a,b,d,f⟩ | ⟨a,x,r,b,d,f,y⟩
  ·rw [h] at d;exact .inl ⟨a,b,Option.some.inj d⟩
  ·rw [h] at f;exact .inr (.inl ⟨a,b,d,Option.some.inj f⟩)
  grind
 have b6:∀(k:Nat) u,R.2.1[k]? =some u->∃l,(s.part (az c p)).an[k]? =some l/\u.Sublist (gU (λz=>decide (z=(p:Int))) l):=λk u h=>by
  obtain ⟨l,o,m,t,F⟩:=b1 k u h;refine ⟨l,m,?_⟩;rcases F with ⟨_,_,e⟩ | ⟨_,_,_,e⟩ | ⟨_,a,e,_⟩
  ·rw [e];exact List.Sublist.refl _
  ·rw [e];exact List.nil_sublist _
  grind
 have b9:∀(k:Nat) A,R.1[k]? =some A->A= -1\/(A≠(p:Int)/\((s.part (az c p)).ax[k]? =some A\/∃l,(s.part (az c p)).an[k]? =some l/\A∈l)):=λk A h=>by
  have h1:=(List.getElem?_eq_some_iff.1 h).1;rw [L1] at h1;have c2:k<(s.part (az c p)).an.length:=by grind
  have m:=List.getElem?_eq_getElem c2;have t:=List.getElem?_eq_getElem h1;rcases H k _ _ t (G m) with ⟨a,b,d⟩ | ⟨a,b,d,f⟩ | ⟨a,x,r,b,d,f,y⟩
  ·grind
  ·grind
  ·rw [h] at d;cases d;have hx:A∈gU (λz=>decide (z=(p:Int))) (s.part (az c p)).an[k]:=by rw [b];exact List.mem_cons_self ..
   exact .inr ⟨D m hx,.inr ⟨_,m,bC.subset hx⟩⟩
 have g3:Good c fl (s.dU (az c p) {s.part (az c p) with ax:=R.1,an:=R.2.1}) (λq=>(q:Int)∈R.2.2) (λq=>q=p) T:=by
  refine g.ai ⟨pm.cur,pm.jy,pm.log,pm.lost,pm.kG,pm.full,by show (R.1.length:Int)=_;rw [L1];exact pm.gG,by show (R.2.1.length:Int)=_;rw [L2,List.length_map];exact pm.ig⟩ (λk A h=> ?_) (λk u h=> ?_) (λk l h=> ?_) (λq K=>by rw [K];exact c0) (λ_ h=>h.elim) λq h=>.inr ?_
  ·rcases b9 k A h with h1 | ⟨h1,V | ⟨l,V,F⟩⟩
   ·exact .inl h1
   ·exact g.own _ I k A V
   ·obtain ⟨a1,a2,a3,a4,a5,_⟩:=B V F h1;refine .inr ⟨a1,a2,a3,.inl ?_⟩;rw [cQ];omega
  ·have h:R.2.1[k]? =some u:=h;obtain ⟨l,o,m,t,F⟩:=b1 k u h;obtain ⟨q1,f1,f2⟩:=b6 k u h;rw [m] at f1;cases f1;obtain ⟨d1,d2,d3⟩:=g.jh _ I k l m;refine ⟨l,m,f2.trans bC,λJ=> ?_,λz v P=> ?_⟩
   ·show ∃o,R.1[k]? =some o/\o≠ -1/\o∉u;rcases F with ⟨L,E,Q⟩ | ⟨L,E,Q,x4⟩ | ⟨L,a,E,Q,x4⟩
    ·have c1:l≠ []:=λh=>J (List.eq_nil_of_sublist_nil (h▸f2.trans bC));obtain ⟨o1,M,N,S⟩:=d3 c1;rw [t] at M;cases M;exact ⟨o,E,N,λw=>S ((f2.trans bC).subset w)⟩
    ·grind
    ·have C:a∈gU (λz=>decide (z=(p:Int))) l:=by rw [E];exact List.mem_cons_self ..
     have:=(B m (bC.subset C) (D m C)).1;refine ⟨a,Q,by omega,λw=> ?_⟩;have nd:=d1.sublist (bC (f:=λz=>decide (z=(p:Int))));grind
   ·have a8:=f2.subset v;have c4:=D m a8;have c6:=B m (bC.subset a8) c4;have ez:((z.toNat:Nat):Int)=z:=by omega
    have P:((z.toNat:Nat):Int)∈R.2.2:=P;rw [ez] at P;rcases W z P with h5 | ⟨k2,q2,r2,M,N,S⟩
    ·omega
    ·have hk:=b2 k k2 z _ _ (G m) (G N) a8 (by grind);subst hk;rw [m] at N;cases N;rw [t] at M;cases M;rcases F with ⟨L,_⟩ | ⟨_,E,_⟩ | ⟨L,a,E,Q,x4⟩
     ·exact L rfl
     ·grind
     ·rw [E] at S;cases S;have nd:=d1.sublist (bC (f:=λz=>decide (z=(p:Int))));grind
  ·obtain ⟨o,t⟩:=b4 h;have key:∀z∈l,z=(p:Int)\/z∈gU (λz=>decide (z=(p:Int))) l:=λz v=>by
    by_cases e:z=(p:Int)
    ·exact .inl e
    ·exact .inr (Tk v (decide_eq_false e))
   show ∃u,R.2.1[k]? =some u/\_;rcases H k o _ t (G h) with ⟨a,b,d⟩ | ⟨a,b,d,f⟩ | ⟨a,x,r,b,d,f,y⟩
   ·refine ⟨_,d,λz v=> ?_⟩;rcases key z v with h1 | h1
    ·exact .inr (.inr (by omega))
    ·exact .inl h1
   ·refine ⟨_,f,λz v=> ?_⟩;grind
   ·refine ⟨_,f,λz v=> ?_⟩;rcases key z v with h1 | h1
    ·exact .inr (.inr (by omega))
    ·have c5:=(B h (bC.subset h1) (D h h1)).1;rw [b] at h1;rcases List.mem_cons.1 h1 with rfl | h1
     ·refine .inr (.inl ?_);show ((z.toNat:Nat):Int)∈R.2.2;rw [show ((z.toNat:Nat):Int)=z by omega];exact y
     ·exact .inl h1
  ·have h:(q:Int)∈R.2.2:=h;rcases W _ h with h1 | ⟨k,l,r,m,t,O⟩
   ·omega
   ·have w:(q:Int)∈gU (λz=>decide (z=(p:Int))) l:=by rw [O];exact List.mem_cons_self ..
    have ho:=B t (bC.subset w) (D t w);rw [Int.toNat_natCast] at ho;omega
 refine ⟨Good.qK g3 U λa C=> ?_,λi Y k h=> ?_,λi Y k q h w=> ?_⟩
 ·rcases W a C with h | ⟨k,l,r,m,t,O⟩
  ·exact .inl h
  ·have w:a∈gU (λz=>decide (z=(p:Int))) l:=by rw [O];exact List.mem_cons_self ..
   obtain ⟨a1,a2,a3,a4,a5,n,a6,_⟩:=B t (bC.subset w) (D t w);exact .inr ⟨a1,a2,a4,by show (s.proc a.toNat).state≠4;omega,n,a6⟩
 ·by_cases e:i=az c p
  ·subst e;rw [rP] at h;grind
  ·rw [sC e] at h;rcases g.own i Y k _ h with h1 | ⟨_,_,h1,_⟩
   ·omega
   grind
 ·by_cases e:i=az c p
  ·subst e;rw [rP] at h;obtain ⟨l,m,t⟩:=b6 k q h;grind
  ·rw [sC e] at h;have:=((g.jh i Y k q h).2.1 _ w).2.2.1;grind
end
section
variable {c:bg} {fl:Nat->Nat->Bool} {s:MS} {T:Int} {p:Nat} {X Z:Nat->Prop}
theorem Gv :∀ {l:List Int} {s:MS},(∀a∈l,a≠(p:Int))->((l.foldl jk s).proc p)=s.proc p
 | [],_,_=>rfl
 | a::l,s,h=>by
  rw [List.foldl_cons,Gv λb hb=>h b (List.mem_cons_of_mem _ hb)];unfold jk;split
  ·have:=h a (List.mem_cons_self ..);exact ib (by omega)
  ·rfl
theorem Gw {q:Nat}:∀ {l:List Int} {s:MS},((l.foldl jk s).proc q).ah=(s.proc q).ah/\(l.foldl jk s).part=s.part
 | [],_=>⟨rfl,rfl⟩
 | a::l,s=>by
  have h:=Gw (q:=q) (l:=l) (s:=jk s a);have b:((jk s a).proc q).ah=(s.proc q).ah/\(jk s a).part=s.part:=by
   unfold jk;split
   ·unfold oa;refine ⟨?_,rfl⟩;by_cases e:q=a.toNat
    ·subst e;rw [fp];rfl
    ·rw [ib e]
   ·exact ⟨rfl,rfl⟩
  grind
theorem Good.empty (g:Good c fl s No (λq=>q=p) T) (hp:p<nQ c) (b0:(s.proc p).state=5\/(s.proc p).state=6) (a8:∀i,i<nP c->∀(k:Nat),(s.part i).ax[k]?≠some (p:Int)) (R:∀i,i<nP c->∀(k:Nat) q,(s.part i).an[k]? =some q->(p:Int)∉q)
  (S:∀r,r<nQ c->∀l∈(s.proc r).ah,∀w∈l.waiters,w.proc≠(p:Int)):Good c fl (iB (gK s p) p) (λq=>(q:Int)∈(((s.proc p).ah.flatMap (·.waiters)).map (·.proc))) No T:=by
 have y:(iB (gK s p) p).proc p={s.proc p with timer:=0,cx:=0,ah:=(s.proc p).ah.map rm}:=by unfold iB gK;rw [fp,fp]
 have m:∀r,r≠p->(iB (gK s p) p).proc r=s.proc r:=λr e=>by unfold iB gK;rw [ib e,ib e]
 have t:(iB (gK s p) p).part=s.part:=rfl;have I:(iB (gK s p) p).tick=s.tick:=rfl;have H:∀q:Nat,(q:Int)∈(((s.proc p).ah.flatMap (·.waiters)).map (·.proc))->q≠p/\(s.proc q).state=2/\∃n,dt c q (s.proc q)=some n/\n.op=24/\eR (s.proc q).bf n.b=(p:Int):=by
  intro q h;obtain ⟨w,f,e⟩:=List.mem_map.1 h;obtain ⟨l,Q,U⟩:=List.mem_flatMap.1 f;obtain ⟨i,a,O⟩:=List.getElem_of_mem Q;have P:(s.proc p).ah[i]? =some l:=by rw [List.getElem?_eq_getElem a,O]
  obtain ⟨a1,a2,a3,a4,a5⟩:=(g.dK p hp i l P).2.2 w U;grind
 generalize iB (gK s p) p=s' at*;refine ⟨by rw [I];exact g.tick,λi a=>by rw [t];exact g.part i a,λr d=> ?_,λi a k o h=> ?_,λi a k q h=> ?_,λr d i l h=> ?_,λr d j h=> ?_,λr d j h=> ?_⟩
 ·rw [I];have pm:=g.proc r d;have ht:=g.tick;by_cases e:r=p
  ·subst e;rw [y];refine ⟨pm.st,pm.pc,by show (List.map _ _).length=_;rw [List.length_map];exact pm.lF,by show 0<=(s.proc r).af/\(s.proc r).af<((List.map _ _).length:Int);rw [List.length_map];exact pm.cur,by show (0:Int)<=0/\(0:Int)<=_;omega,by show (0:Int)<=0/\(0:Int)<=_;omega,.inr ⟨λh=>absurd h (Int.lt_irrefl 0),λh=> ?_⟩,λh=>⟨.inr rfl,(pm.dead h).2⟩,λi l h=> ?_,λh=> ?_,λh=> ?_,λh=> ?_,λh=> ?_,pm.bf⟩
   ·have h:(s.proc r).state=4:=h;omega
   ·have h:((s.proc r).ah.map rm)[i]? =some l:=h;rw [List.getElem?_map] at h;cases e:(s.proc r).ah[i]? with
    | none=>rw [e] at h;cases h
    | some K=>rw [e] at h;cases h;exact pm.dK i K e
   ·have h:(s.proc r).state=1:=h;omega
   ·have h:(s.proc r).state=2:=h;omega
   ·have h:(s.proc r).state=3:=h;omega
   grind
  ·rw [m r e];exact ⟨pm.st,pm.pc,pm.lF,pm.cur,pm.mG,pm.mH,.inr (pm.np.resolve_left e),λh=>⟨.inr ((pm.dead h).1.resolve_left e),(pm.dead h).2⟩,pm.dK,pm.recv,pm.snd,pm.pe,pm.iT,pm.bf⟩
 ·rw [t] at h;rcases g.own i a k o h with x | ⟨x,E,F,G⟩
  ·exact .inl x
  grind
 ·rw [t] at h ⊢;obtain ⟨u,C,v⟩:=g.jh i a k q h;refine ⟨u,λz J=> ?_,v⟩;obtain ⟨a1,a2,a3,a4,a5⟩:=C z J;have V:z.toNat≠p:=λe=>R i a k q h (by rw [show (p:Int)=z by clear a5;omega];exact J);have a5:=a5.resolve_left V;refine ⟨a1,a2,a3,λj=> ?_,.inr ?_⟩
  ·have:=(H _ j).2.1;have h9:=a5.1;clear a5;omega
  grind
 ·by_cases e:r=p
  ·subst e;rw [y] at h;have h:((s.proc r).ah.map rm)[i]? =some l:=h;rw [List.getElem?_map] at h;cases e:(s.proc r).ah[i]? with
   | none=>grind
   | some K=>rw [e] at h;cases h;exact ⟨List.Pairwise.nil,λh=>absurd rfl h,λw f=>by cases f⟩
  ·rw [m r e] at h;obtain ⟨u,C,v⟩:=g.dK r d i l h;refine ⟨u,λf=> ?_,λw f=> ?_⟩
   ·grind
   ·obtain ⟨a1,a2,a3,a4,a5⟩:=v w f;have B:=S r d l (List.mem_of_getElem? h) w f;have B:w.proc.toNat≠p:=λe=>B (by clear a5;omega);obtain ⟨Y,n,L,c3,M,c5⟩:=a5.resolve_left B;refine ⟨a1,a2,a3,λj=> ?_,.inr ?_⟩
    ·obtain ⟨_,_,n',D,_,N⟩:=H _ j;rw [L] at D;cases D;rw [M] at N;clear a5;omega
    grind
 ·have A:r≠p:=λe=>by grind
  rw [m r A] at h;rw [t];exact g.qM r d (λh=>h) h
 ·have A:r≠p:=λe=>by subst e;rw [y] at h;have h:(s.proc r).state=2:=h;omega
  rw [m r A] at h;obtain ⟨W,x,l,E,w,F,G⟩:=g.qL r d (λh=>h) h;have a9:W≠p:=λe=>by subst e;refine j ?_;show (r:Int)∈_;exact List.mem_map.2 ⟨w,List.mem_flatMap.2 ⟨l,List.mem_of_getElem? E,F⟩,G⟩
  grind
theorem Good.ends (m:cc c) (g:Good c fl s No No T) {st:Int} (Y:st=5\/st=6) (hp:p<nQ c):Good c fl (oZ c s p st) No No T:=by
 have b:=m.eJ (p:=p);rw [wY];have J:=g.dying (st:=st) Y hp;have B:((fF s p st).proc p).state=st:=by unfold fF;rw [fp]
 obtain ⟨u,C⟩:=Good.leave (p:=p) (s:=fF s p st) (L:=dS c (az c p)) J ⟨by rw [B];omega,by rw [B];omega⟩ λq=>fM;have u:Good c fl (dM c s p st) No (λq=>q=p) T:=u;have C:∀r,r<nQ c->∀l∈((dM c s p st).proc r).ah,∀w∈l.waiters,w.proc≠(p:Int):=C;have o:((dM c s p st).proc p).state=st:=by show (if p∈dS c (az c p) then qz p ((fF s p st).proc p) else (fF s p st).proc p).state=st;split<;>exact B
 obtain ⟨x,V,W⟩:=u.tA b (by rw [o];omega);have x:Good c fl (iA c (dM c s p st) p) No (λq=>q=p) T:=x;have F:=λq=>Gw (q:=q) (l:=(xj p ((dM c s p st).part (az c p))).2) (s:=oY c (dM c s p st) p);have G:(iA c (dM c s p st) p).part=(oY c (dM c s p st) p).part:=(F 0).2;have S:∀q,((iA c (dM c s p st) p).proc q).ah=((dM c s p st).proc q).ah:=λq=>(F q).1;have b0:(iA c (dM c s p st) p).proc p=(dM c s p st).proc p:=by
  refine Gv (s:=oY c (dM c s p st) p) λa O=> ?_;have U:((dM c s p st).part (az c p)).ax.length=(((dM c s p st).part (az c p)).an.map (gU λz=>decide (z=(p:Int)))).length:=by have:=(u.part _ b).gG;have:=(u.part _ b).ig;grind
  rcases (AJ (p:=(p:Int)) U).2.2.2.1 a O with h | ⟨k,r,E,v⟩
  ·omega
  ·intro e;rw [List.getElem?_map] at v;cases D:((dM c s p st).part (az c p)).an[k]? with
   | none=>grind
   | some q0=>rw [D] at v;have v:=Option.some.inj v;have nd:=(u.jh _ b k q0 D).1;exact KY (g:=λz=>z) (by simpa using nd) a (by grind) e
 have a8:((iA c (dM c s p st) p).proc p).state=5\/((iA c (dM c s p st) p).proc p).state=6:=by grind
 generalize iA c (dM c s p st) p=f at*;have K:=x.empty hp a8 (λi b k=>by rw [G];exact V i b k) (λi b k q h=>by rw [G] at h;exact W i b k q h) λr hr l d=>by grind
 have I:pK c (gK f p) p=((f.proc p).ah.flatMap (·.waiters)).foldl (λs w=>cm c s w.proc.toNat 2) (iB (gK f p) p):=by
  unfold pK;have:((gK f p).proc p).ah=(f.proc p).ah:=by unfold gK;rw [fp]
  rw [this]
 rw [I];refine Good.yg K ?_ λw hw=> ?_
 · -- j9 waits stands in one lane alone
  have key:∀(t:List ba) (j:Nat),(∀(i:Nat) l,t[i]? =some l->(l.waiters.map (·.proc)).Nodup/\(l.waiters≠ []->i=j))->((t.flatMap (·.waiters)).map (·.proc)).Nodup:=by
   intro t
   induction t with
   | nil=>intro j _;exact List.Pairwise.nil
   | cons a t ih=>
    intro j h;rw [List.flatMap_cons,List.map_append];obtain ⟨E,v⟩:=h 0 a rfl;by_cases e:a.waiters=[]
    ·rw [e];cases j with
     | zero=>
      have:t.flatMap (·.waiters)=[]:=by
       rw [List.flatMap_eq_nil_iff];intro l d;obtain ⟨i,b,y⟩:=List.getElem_of_mem d;by_cases o:l.waiters=[]
       ·exact o
       ·have:=(h (i+1) l (by simp [List.getElem?_eq_getElem b,y])).2 o;omega
      rw [this];exact List.Pairwise.nil
     | succ j=>refine ih j λi l d=> ?_;obtain ⟨M,N⟩:=h (i+1) l (by simpa using d);exact ⟨M,λA=>by have:=N A;omega⟩
    ·have R:=v e;subst R;have:t.flatMap (·.waiters)=[]:=by
      rw [List.flatMap_eq_nil_iff];intro l d;obtain ⟨i,b,y⟩:=List.getElem_of_mem d;by_cases o:l.waiters=[]
      ·exact o
      ·have:=(h (i+1) l (by simp [List.getElem?_eq_getElem b,y])).2 o;omega
     rw [this];simpa using E
  refine key _ (az c p) λi l d=> ?_;obtain ⟨b1,b2,b3⟩:=x.dK p hp i l d;grind
 ·obtain ⟨l,d,H⟩:=List.mem_flatMap.1 hw;obtain ⟨i,Q,y⟩:=List.getElem_of_mem d;have P:(f.proc p).ah[i]? =some l:=by rw [List.getElem?_eq_getElem Q,y]
  obtain ⟨a1,a2,a3,a4,a5⟩:=(x.dK p hp i l P).2.2 w H;have a9:=C p hp l (by rw [S] at d;exact d) w H;have A:w.proc.toNat≠p:=λe=>a9 (by clear a5;omega);obtain ⟨c1,n,c2,_⟩:=a5.resolve_left A;have e:(iB (gK f p) p).proc w.proc.toNat=f.proc w.proc.toNat:=by unfold iB gK;rw [ib A,ib A]
  grind
end
section
variable {c:bg} {fl:Nat->Nat->Bool} {s:MS} {T:Int} {p:Nat} {t:Int} {x:ak} {z:Prop}
theorem Good.out (m:cc c) (g:Good c fl s No No T) {v:Int} (hp:p<nQ c) (k:T=s.tick+1):Good c fl (sc c s p v) No No T:=by
 have i:=m.eJ (p:=p);have pm:=g.part _ i;have j:=g.tick;unfold sc;dsimp only;by_cases h:((s.part (az c p)).log.length:Int)<c.log
 ·rw [if_pos h];refine g.parts ⟨pm.cur,by grind,⟨?_,λe he=> ?_⟩,pm.lost,pm.kG,λd=> ?_,pm.gG,pm.ig⟩ rfl rfl
  ·show ((s.part (az c p)).log++ [_]).Pairwise _;rw [List.pairwise_append];refine ⟨pm.log.1,List.pairwise_singleton _ _,λa f b hb=> ?_⟩;have:=pm.log.2 a f;grind
  ·have he:e∈(s.part (az c p)).log++ [⟨s.tick,(p:Int),v⟩]:=he;rcases List.mem_append.1 he with he | he
   ·exact pm.log.2 e he
   grind
  ·have d:0<(s.part (az c p)).lost:=d;have:=pm.full d;omega
 ·rw [if_neg h];exact g.parts ⟨pm.cur,pm.jy,pm.log,ux pm.lost,pm.kG,λ_=>by grind,pm.gG,pm.ig⟩ rfl rfl
theorem BV :x.put x.core=x:=rfl
theorem cp.sleep (pm:cp c fl t p z x) (e:x.state=0) {n:dB} (a:dt c p x=some n) (b:n.op=28) {w:Int} (d:0<w/\w<=t+1099511627776):cp c fl t p z {x with state:=4,cx:=w} where
 st:=by simp
 pc:=pm.pc
 lF:=pm.lF
 cur:=pm.cur
 mG:=pm.mG
 mH:=by grind
 np:=.inr ⟨λ_=>rfl,λ_=>d.1⟩
 dead:=λh=>by grind
 dK:=pm.dK
 recv:=λh=>by grind
 snd:=λh=>by grind
 pe:=λh=>by grind
 iT:=λ_=>⟨n,a,b⟩
 bf:=pm.bf
theorem cp.timer (pm:cp c fl t p z x) (b:x.state=0) {w:Int} (a:0<=w/\w<=t+1099511627776):cp c fl t p z {x with bN:=false,timer:=w} where
 st:=pm.st
 pc:=pm.pc
 lF:=pm.lF
 cur:=pm.cur
 mG:=a
 mH:=pm.mH
 np:=pm.np
 dead:=λh=>by grind
 dK:=pm.dK
 recv:=λh=>by grind
 snd:=pm.snd
 pe:=pm.pe
 iT:=pm.iT
 bf:=pm.bf
theorem Good.Yy {D:Int->Int->Int->Int} (m:cc c) (g:Good c fl s No No T) (hp:p<nQ c) (f:(s.proc p).state=0) (G:T=s.tick+1):Good c fl (vP c D fl s p) No No T:=by
 have pm:=g.proc p hp;have O:=g.tick;have q:Out s No No p:=vt ⟨by omega,by omega⟩;have j:s.aW p (s.proc p)=s:=by unfold MS.aW;rw [xi]
 have N:∀ {y:ak},y.state=0\/y.state=4->(j5 (s.proc p)=true->j5 y=true):=λ{y} P _=>by rw [cQ];omega
 unfold vP;dsimp only;rcases Bk (D:=D) (l:=jj c p) (k:=(s.proc p).core) (tk:=s.tick) (self:=(p:Int)) with ⟨B,C⟩ | ⟨n,r,I,⟨_,e⟩ | ⟨w,st,K,e⟩⟩
 ·rw [B,if_pos rfl,C,BV,j];exact g.ends m (.inl rfl) hp
 ·rw [e];dsimp only;rw [pW,if_neg (by omega),if_neg (by omega),if_neg (by omega),if_neg (by omega),if_neg (by omega),if_neg (by omega),if_neg (by omega),if_neg (by omega)];have u:=H0 (D:=D) (tk:=s.tick) (self:=(p:Int)) r I pm.bf;exact vu (g.core q pm rfl f u.1 u.2)
 ·rw [e];dsimp only;have i:dt c p (s.proc p)=some n:=r;have M:=yy i;have gn:Good c fl (s.aW p ((s.proc p).put (fj (s.proc p).core))) No No T:=vu (g.core q pm rfl f ⟨by show 0<=(s.proc p).pc+1;omega,by show (s.proc p).pc+1<=_;omega⟩ pm.bf);have E:∀v:Int,0<v->0<ph v 1099511627776/\ph v 1099511627776<=1099511627776:=λv hv=>by unfold ph;split<;>omega
  rcases HZ K with ⟨a,b⟩ | ⟨o,a,b⟩ | ⟨o,a,b⟩ | ⟨o,a,b⟩ | ⟨a,b⟩ | ⟨o,a,b⟩ | ⟨o,a,d,b⟩ | ⟨o,a,d,b⟩ | ⟨a,b⟩
  ·rw [if_pos a,b];simp only [if_true];rw [BV,j];exact g.ends m (.inl rfl) hp
  ·rw [a,b];dsimp only;rw [pW,if_pos rfl];simp only [if_true];rw [BV,j];exact g.send m hp f i o rfl rfl
  ·rw [pW,if_neg (by omega),if_pos a,b];simp only [if_true];rw [BV,j];exact g.take m hp f i λ_=>o
  ·rw [pW,if_neg (by omega),if_neg (by omega),if_pos a,b];simp only [if_true];rw [BV,j];exact g.take m hp f i λh=>by cases h
  ·rw [pW,if_neg (by omega),if_neg (by omega),if_neg (by omega),if_pos a,b];simp only [Bool.false_eq_true,if_false];rw [fp];have L:Out (s.aW p ((s.proc p).put (fj (s.proc p).core))) No No p:=vt (by rw [fp];exact ⟨by show (s.proc p).state≠2;omega,by show (s.proc p).state≠3;omega⟩);have A:=gn.proc p hp;rw [fp] at A;have H:0<=(if 0<w.value then s.tick+ph w.value 1099511627776 else 0)/\(if 0<w.value then s.tick+ph w.value 1099511627776 else 0)<=s.tick+1099511627776:=by grind
   refine vu (gn.run L (A.timer f H) ⟨by show (s.proc p).state≠2;omega,by show (s.proc p).state≠3;omega⟩ (by rw [fp]) λ_=> ?_);rw [cQ];exact ⟨by show (s.proc p).state≠5;omega,by show (s.proc p).state≠6;omega⟩
  ·rw [pW,if_neg (by omega),if_neg (by omega),if_neg (by omega),if_neg (by omega),if_pos a,b];simp only [if_true];rw [BV,j];have F:0<tN w.value 1:=by unfold tN;split<;>omega
   have:=E _ F;refine vu (g.run q (pm.sleep f i o (w:=s.tick+ph (tN w.value 1) 1099511627776) ⟨by omega,by omega⟩) ⟨by show (4:Int)≠2;omega,by show (4:Int)≠3;omega⟩ rfl λ_=> ?_);grind
  ·rw [pW,if_neg (by omega),if_neg (by omega),if_neg (by omega),if_neg (by omega),if_neg (by omega),if_pos a,b];simp only [if_true];rw [BV,j];exact g.lock m hp f i o d.symm
  ·rw [pW,if_neg (by omega),if_neg (by omega),if_neg (by omega),if_neg (by omega),if_neg (by omega),if_neg (by omega),if_pos a,b];simp only [Bool.false_eq_true,if_false];have J:=Lq (m.ins i).1 (.inr o);exact gn.unlock m hp (by rw [d];exact J)
  ·rw [pW,if_neg (by omega),if_neg (by omega),if_neg (by omega),if_neg (by omega),if_neg (by omega),if_neg (by omega),if_neg (by omega),if_pos a,b];simp only [Bool.false_eq_true,if_false];exact gn.out m hp G
end
section
variable {c:bg} {fl:Nat->Nat->Bool} {s:MS} {T:Int} {p:Nat} {t:Int} {x:ak} {z:Prop}
theorem VI {to v:Int}:(ln c fl s p to v).tick=s.tick:=by
 unfold ln
 repeat' split
 all_goals rfl
theorem Hb {a:Int}:(jk s a).tick=s.tick:=by unfold jk;split<;>rfl
theorem Gx :∀ {l:List Int} {s:MS},(l.foldl jk s).tick=s.tick
 | [],_=>rfl
 | a::l,s=>by rw [List.foldl_cons,Gx,Hb]
theorem Hc {v:Int}:∀ {l:List mu} {s:MS},(l.foldl (λs w=>cm c s w.proc.toNat v) s).tick=s.tick
 | [],_=>rfl
 | a::l,s=>by rw [List.foldl_cons,Hc];rfl
theorem H7 {b:Bool}:(kq c s p b).tick=s.tick:=by
 unfold kq;dsimp only
 repeat' split
 all_goals rfl
theorem VK {n:Int}:(jN c s p n).tick=s.tick:=by unfold jN;dsimp only;split<;>rfl
theorem SY {n:Int}:(xD c s p n).tick=s.tick:=by
 unfold xD;dsimp only;split
 ·split
  ·rfl
  ·exact Hb
 ·rfl
theorem Nd {st:Int}:(oZ c s p st).tick=s.tick:=by rw [wY];unfold pK;rw [Hc];show (iA c (dM c s p st) p).tick=_;unfold iA;rw [Gx];rfl
theorem J2 {D:Int->Int->Int->Int}:(vP c D fl s p).tick=s.tick:=by
 unfold vP;dsimp only;split
 ·exact Nd
 split
 ·exact VI
 split
 ·exact H7
 split
 ·exact H7
 split
 ·rfl
 split
 ·rfl
 split
 ·exact VK
 split
 ·exact SY
 split
 ·rfl
 ·rfl
theorem Good.uo {X Z:Nat->Prop} {T':Int} (g:Good c fl s X Z T) (h:T<=T'):Good c fl s X Z T':=
 ⟨g.tick,λi b=>by
  have pm:=g.part i b;exact ⟨pm.cur,pm.jy,⟨pm.log.1,λe a=>by have:=pm.log.2 e a;omega⟩,pm.lost,pm.kG,pm.full,pm.gG,pm.ig⟩,g.proc,g.own,g.jh,g.dK,g.qM,g.qL⟩
theorem Good.LM (g:Good c fl s No No T) (hp:p<nQ c):Good c fl (s.aW p (mg s.tick (s.proc p))) No No T:=by
 have H:=g.tick;have B:s.aW p (s.proc p)=s:=by unfold MS.aW;rw [xi]
 have f:Good c fl (s.aW p (if 0<(s.proc p).cx/\(s.proc p).cx<=s.tick then {s.proc p with cx:=0,state:=0,pc:=(s.proc p).pc+1} else s.proc p)) No No T:=by
  by_cases h:0<(s.proc p).cx/\(s.proc p).cx<=s.tick
  ·rw [if_pos h];have pm:=g.proc p hp;have o:=(pm.np.resolve_left (λh=>h)).1 h.1;obtain ⟨n,v,_⟩:=pm.iT o;have G:=yy v;refine vu (g.run (vt ⟨by omega,by omega⟩) ⟨by show (0:Int)<=0/\(0:Int)<=6;omega,by show 0<=(s.proc p).pc+1/\(s.proc p).pc+1<=_;omega,pm.lF,pm.cur,pm.mG,by show (0:Int)<=0/\(0:Int)<=_;omega,.inr ⟨λh=>absurd h (Int.lt_irrefl 0),λh=>by have h:(0:Int)=4:=h;omega⟩,λh=>by have h:(0:Int)=5\/(0:Int)=6:=h;omega,pm.dK,λh=>by have h:(0:Int)=1:=h;omega,λh=>by have h:(0:Int)=2:=h;omega,λh=>by have h:(0:Int)=3:=h;omega,λh=>by have h:(0:Int)=4:=h;omega,pm.bf⟩ ⟨by show (0:Int)≠2;omega,by show (0:Int)≠3;omega⟩ rfl λ_=>rfl)
  ·rw [if_neg h,B];exact g
 generalize E:(if 0<(s.proc p).cx/\(s.proc p).cx<=s.tick then ({s.proc p with cx:=0,state:=0,pc:=(s.proc p).pc+1}:ak) else s.proc p)=y at f;have e:mg s.tick (s.proc p)=if 0<y.timer/\y.timer<=s.tick then {y with timer:=0,bN:=true,state:=if y.state=1 then 0 else y.state} else y:=by unfold mg;dsimp only;rw [E]
 rw [e];by_cases h:0<y.timer/\y.timer<=s.tick
 ·rw [if_pos h];have pm:=f.proc p hp;rw [fp] at pm;have C:(if y.state=1 then (0:Int) else y.state)=y.state\/(y.state=1/\(if y.state=1 then (0:Int) else y.state)=0):=by
   by_cases h:y.state=1
   ·right;exact ⟨h,if_pos h⟩
   ·left;exact if_neg h
  have b:∀ {m:Int},m≠0->(if y.state=1 then (0:Int) else y.state)=m->y.state=m/\y.state≠1:=λ{m} u h=>by
   by_cases k:y.state=1
   ·rw [if_pos k] at h;exact absurd h.symm u
   ·rw [if_neg k] at h;exact ⟨h,k⟩
  have hb:=pm.st;have q:=f.ah (p:=p) (x':={y with timer:=0,bN:=true,state:=if y.state=1 then 0 else y.state}) (X':=No)
   ⟨by show 0<=(if y.state=1 then (0:Int) else y.state)/\(if y.state=1 then (0:Int) else y.state)<=6;split<;>omega,pm.pc,pm.lF,pm.cur,by show (0:Int)<=0/\(0:Int)<=_;have:(s.aW p y).tick=s.tick:=rfl;omega,pm.mH,
    pm.np.imp (λh=>h) λr=>⟨λa=>by
     have:=r.1 a;show (if y.state=1 then (0:Int) else y.state)=4;rw [pW];exact this,λa=>r.2 (b (by decide) a).1⟩,
    λa=>by have a:(if y.state=1 then (0:Int) else y.state)=5\/(if y.state=1 then (0:Int) else y.state)=6:=a;have o:y.state=5\/y.state=6:=a.imp (λh=>(b (by decide) h).1) λh=>(b (by decide) h).1;have:=(pm.dead o).1.resolve_left (λh=>h);omega,
    pm.dK,λa=>absurd (b (by decide) a).1 (b (by decide) a).2,λa=>pm.snd (b (by decide) a).1,λa=>pm.pe (b (by decide) a).1,λa=>pm.iT (b (by decide) a).1,pm.bf⟩
   (by rw [fp];exact C) (by rw [fp]) (by rw [fp]) (by rw [fp]) (λi l F j d=>by
    rw [fp] at j;have d:y.ah[i]? =some F:=d;rw [j] at d;cases d;refine ⟨List.Sublist.refl _,λA=> ?_,λw D=>.inl D⟩;exact ((f.dK p hp i l (by rw [fp];exact j)).2.1 A).2.2) hp (λ_ h=>h) (λ_ h=>h.elim)
  rw [yn] at q;exact q
 grind
def mU (s:MS) (l:List Nat):MS:=⟨s.tick,s.part,λq=>if q∈l then mg s.tick (s.proc q) else s.proc q⟩
theorem Good.Dh (g:Good c fl s No No T):∀(l:List Nat),(∀q∈l,q<nQ c)->l.Nodup->Good c fl (mU s l) No No T
 | [],_,_=>by
  have e:mU s []=s:=by unfold mU;simp
  rw [e];exact g
 | q::l,h,b=>by
  rw [List.nodup_cons] at b;have f:=g.Dh l (λr i=>h r (List.mem_cons_of_mem _ i)) b.2;have j:=f.LM (p:=q) (h q (List.mem_cons_self ..));have d:(mU s l).proc q=s.proc q:=if_neg b.1;have e:(mU s l).aW q (mg (mU s l).tick ((mU s l).proc q))=mU s (q::l):=by
   rw [d];unfold mU MS.aW;congr 1;funext r;unfold cn;by_cases e:r=q
   ·subst e;rw [if_pos rfl,if_pos (by simp)]
   ·rw [if_neg e];show (if r∈l then mg s.tick (s.proc r) else s.proc r)=_;by_cases a:r∈l
    ·rw [if_pos a,if_pos (by simp [a])]
    ·rw [if_neg a,if_neg (by simp [a,e])]
  grind
theorem Good.due (g:Good c fl s No No T) {i:Nat}:Good c fl (je c s i) No No T:=by
 have h:=g.Dh (dS c i) (λq b=>(fM.1 b).1) H2;have e:mU s (dS c i)=je c s i:=by
  unfold mU je;congr 1;funext q;by_cases h:q<nQ c/\az c q=i
  ·rw [if_pos h,if_pos (fM.2 h)]
  ·rw [if_neg h,if_neg λa=>h (fM.1 a)]
 grind
theorem Uk {i a:Nat} (h:jq c s i=some a):a<(dS c i).length/\(s.proc ((dS c i).getD a 0)).state=0:=by unfold jq at h;have d:=List.find?_some h;have f:=List.mem_of_find?_eq_some h;obtain ⟨k,b,e⟩:=List.mem_map.1 f;have b:=List.mem_range.1 b;refine ⟨?_,of_decide_eq_true d⟩;rw [<-e];exact Nat.mod_lt _ (by omega)
theorem Good.DR {D:Int->Int->Int->Int} (m:cc c) (g:Good c fl s No No T) {i a:Nat} (e:i<nP c) (j:T=s.tick+1) (h:jq c s i=some a):Good c fl (ly c D fl s i a) No No T:=by
 obtain ⟨n,d⟩:=Uk h;unfold ly;have pm:=g.part i e;have b:Good c fl (s.dU i {s.part i with af:=((a+1:Nat):Int)%((dS c i).length:Int)}) No No T:=by refine g.parts ⟨?_,pm.jy,pm.log,pm.lost,pm.kG,pm.full,pm.gG,pm.ig⟩ rfl rfl;have k:=Int.emod_nonneg ((a+1:Nat):Int) (show ((dS c i).length:Int)≠0 by omega);have l:=Int.emod_lt_of_pos ((a+1:Nat):Int) (show (0:Int)<((dS c i).length:Int) by omega);grind
 have f:(dS c i).getD a 0∈dS c i:=by grind
 exact b.Yy m (fM.1 f).1 d j
theorem Good.turns {D:Int->Int->Int->Int} (m:cc c) {i:Nat} (b:i<nP c):∀(n:Nat) {s:MS},Good c fl s No No T->T=s.tick+1->Good c fl (nw c D fl i n s) No No T/\(nw c D fl i n s).tick=s.tick
 | 0,s,g,_=>⟨g,rfl⟩
 | n+1,s,g,d=>by
  unfold nw;cases h:jq c s i with
  | none=>exact ⟨g,rfl⟩
  | some a=>have e:(ly c D fl s i a).tick=s.tick:=J2;have:=Good.turns (D:=D) m b n (g.DR (D:=D) m b d h) (by rw [e];exact d);grind
theorem cc.lM (m:cc c) {t:Int}:zip c t<nP c:=by
 unfold zip;have h:=m.table;have b:0<c.table.length:=List.length_pos_iff.2 h.1;have a:t.toNat%c.table.length<c.table.length:=Nat.mod_lt _ b;have:c.table.getD (t.toNat%c.table.length) 0=c.table[t.toNat%c.table.length]:=by simp [List.getD,List.getElem?_eq_getElem a]
 rw [this];have:=h.2.2 _ (List.getElem_mem a);omega
theorem cp.later (pm:cp c fl t p z x) {a:Int} (h:t<=a):cp c fl a p z x:=
 ⟨pm.st,pm.pc,pm.lF,pm.cur,by have:=pm.mG;omega,by have:=pm.mH;omega,pm.np,pm.dead,pm.dK,pm.recv,pm.snd,pm.pe,pm.iT,pm.bf⟩
theorem Good.DP {D:Int->Int->Int->Int} (m:cc c) (g:Good c fl s No No s.tick):Good c fl (lu c D fl s) No No (lu c D fl s).tick:=by have d:=(g.uo (T':=s.tick+1) (by omega)).due (i:=zip c s.tick);obtain ⟨a,b⟩:=Good.turns (D:=D) m (m.lM (t:=s.tick)) c.fuel.toNat d rfl;have b:(nw c D fl (zip c s.tick) c.fuel.toNat (je c s (zip c s.tick))).tick=s.tick:=b;have f:=a.tick;unfold lu;dsimp only;rw [b];exact ⟨by grind,a.part,λq e=>(a.proc q e).later (by grind),a.own,a.jh,a.dK,a.qM,a.qL⟩
theorem VN {v:Int} (h:pn c s v=0):0<=v/\v.toNat<nQ c/\j5 (s.proc v.toNat)=true:=by unfold pn at h;grind
theorem Good.y9 (g:Good c fl s No No T) {q v:Int}:Good c fl (u5 c s q v).1 No No T:=by
 unfold u5;by_cases h:pn c s q≠0
 ·grind
 rw [if_neg h];obtain ⟨k,d,m⟩:=VN (Classical.not_not.1 h);have b:∀l,(s.proc q.toNat).ah[nP c]? =some l->(l.values.length:Int)<=c.lane/\jl l.taken/\jl l.dropped:=λl a=>by have:=(g.proc _ d).dK _ l a;grind
 by_cases e:fL c (s.proc q.toNat) (nP c)=true
 ·rw [if_pos e];exact g.lane d (i:=nP c) (f:=lf) (λl a=>⟨(b l a).1,(b l a).2.1,ux (b l a).2.2,λ_ h=>by omega⟩) (λl a=>⟨rfl,λ_=>rfl⟩) false λ_ l a=>a
 ·rw [if_neg e];have n:∀l,(s.proc q.toNat).ah[nP c]? =some l->(l.values.length:Int)<c.lane:=λl a=>by unfold fL at e;grind
  exact g.lane d (i:=nP c) (f:=tI v) (λl a=>⟨by
   show ((l.values++ [v]).length:Int)<=_;grind,(b l a).2.1,(b l a).2.2,λ_ h=>by omega⟩) (λl a=>⟨rfl,λj=>by
   have:=((g.dK _ d _ l a).2.1 j).2.2;grind⟩) true λh=>by cases h
theorem SZ {q v:Int}:(u5 c s q v).1.tick=s.tick:=by
 unfold u5;split
 ·rfl
 ·split<;>rfl
theorem Good.first (m:cc c):Good c fl (sP c) No No (sP c).tick where
 tick:=Int.le_refl _
 part:=λi a=>by
  have f:=m.ai;have g:=m.log;refine ⟨⟨Int.le_refl _,λh=>absurd h (Int.lt_irrefl 0)⟩,by show ((0:Nat):Int)<=c.log;omega,⟨List.Pairwise.nil,λe b=>by cases b⟩,⟨Int.le_refl _,by show (0:Int)<=65535;omega⟩,⟨Int.le_refl _,by show (0:Int)<=65535;omega⟩,λh=>absurd h (Int.lt_irrefl 0),?_,?_⟩
  ·show ((List.replicate c.ai.toNat (-1:Int)).length:Int)=_;grind
  ·show ((List.replicate c.ai.toNat ([]:List Int)).length:Int)=_;grind
 proc:=λp hp=>by
  refine ⟨by show (0:Int)<=0/\(0:Int)<=6;omega,by show (0:Int)<=0/\(0:Int)<=_;omega,List.length_replicate ..,?_,by show (0:Int)<=0/\(0:Int)<=0+1099511627776;omega,by show (0:Int)<=0/\(0:Int)<=0+1099511627776;omega,.inr ⟨λh=>absurd h (Int.lt_irrefl 0),λh=>by have h:(0:Int)=4:=h;omega⟩,λh=>by have h:(0:Int)=5\/(0:Int)=6:=h;omega,λi l h=> ?_,λh=>by have h:(0:Int)=1:=h;omega,λh=>by have h:(0:Int)=2:=h;omega,λh=>by have h:(0:Int)=3:=h;omega,λh=>by have h:(0:Int)=4:=h;omega,List.length_replicate ..⟩
  ·show (0:Int)<=0/\(0:Int)<((List.replicate (nP c+1) _).length:Int);simp
  ·have h:(List.replicate (nP c+1) (⟨[],[],0,0⟩:ba))[i]? =some l:=h;have d:=List.eq_of_mem_replicate (List.mem_of_getElem? h);subst d;have:=m.lane;refine ⟨by show ((0:Nat):Int)<=_;omega,⟨Int.le_refl _,by show (0:Int)<=65535;omega⟩,⟨Int.le_refl _,by show (0:Int)<=65535;omega⟩,λh=> ?_⟩;rcases h with h | h | h
   ·exact absurd rfl h
   ·exact absurd h (Int.lt_irrefl 0)
   grind
 own:=λi a k o h=>by have h:(List.replicate c.ai.toNat (-1:Int))[k]? =some o:=h;grind
 jh:=λi a k q h=>by have h:(List.replicate c.ai.toNat ([]:List Int))[k]? =some q:=h;grind
 dK:=λr j i l h=>by have h:(List.replicate (nP c+1) (⟨[],[],0,0⟩:ba))[i]? =some l:=h;grind
 qM:=λp hp _ h=>by have h:(0:Int)=3:=h;omega
 qL:=λp hp _ h=>by have h:(0:Int)=2:=h;omega
end
section
variable {c:bg} {fl:Nat->Nat->Bool} {s:MS} {T:Int}
theorem Good.qe (m:cc c) (g:Good c fl s No No T):jv c s where
 proc:=λp hp=>by
  have pm:=g.proc p hp;have G:=m.pI (p:=p);have H:=m.lane;have e:=m.procs;refine ⟨by have:=pm.pc;omega,pm.lF,pm.cur,λl a=> ?_⟩;obtain ⟨i,f,n⟩:=List.getElem_of_mem a;have d:(s.proc p).ah[i]? =some l:=by grind
  obtain ⟨a1,a2,a3,_⟩:=pm.dK i l d;obtain ⟨b,j,o⟩:=g.dK p hp i l d;have B:∀w∈l.waiters,0<=w.proc/\w.proc<(nQ c:Int):=λw A=>by obtain ⟨r,t,_⟩:=o w A;omega
  have y:=uu (nQ c) (l.waiters.map (·.proc)) b λx I=>by grind
  rw [List.length_map] at y;exact ⟨by omega,by omega,a2,a3,b,B⟩
 part:=λi f=>by
  have pm:=g.part i f;have u:=m.log;have D:=m.ai;have E:=m.procs;have F:(dS c i).length<=nQ c:=by have u:(dS c i).length<=(List.range (nQ c)).length:=List.length_filter_le ..;grind
  have e:∀q∈(s.part i).an,q.Nodup/\∀z∈q,0<=z/\z<(nQ c:Int):=λq a=>by
   obtain ⟨k,v,n⟩:=List.getElem_of_mem a;have d:(s.part i).an[k]? =some q:=by rw [List.getElem?_eq_getElem v,n]
   obtain ⟨b,j,_⟩:=g.jh i f k q d;exact ⟨b,λz C=>by obtain ⟨r,t,_⟩:=j z C;omega⟩
  refine ⟨⟨pm.cur.1,?_⟩,by have:=pm.jy;omega,pm.lost,pm.kG,by have:=pm.gG;have:=pm.ig;omega,pm.ig,⟨by have:=pm.ig;omega,λq a=> ?_⟩,e⟩
  ·by_cases h:0<(s.part i).af
   ·have:=pm.cur.2 h;omega
   ·omega
  ·have:=uu (nQ c) q (e q a).1 (e q a).2;omega
theorem Nf {i t:Nat} (g:t<(dS c i).length) (j:∀k,k<t->(s.proc ((dS c i).getD (((s.part i).af.toNat+k)%(dS c i).length) 0)).state≠0) (h:(s.proc ((dS c i).getD (((s.part i).af.toNat+t)%(dS c i).length) 0)).state=0):
  jq c s i=some (((s.part i).af.toNat+t)%(dS c i).length):=by
 unfold jq;have e:List.range (dS c i).length=List.range t++(t::(List.range (dS c i).length).drop (t+1)):=by
  have a:(List.range (dS c i).length)[t]? =some t:=List.getElem?_range g;obtain ⟨b,d⟩:=List.getElem?_eq_some_iff.1 a;have f:List.take t (List.range (dS c i).length)=List.range t:=by rw [List.take_range,Nat.min_eq_left (by omega)]
  calc List.range (dS c i).length=(List.range (dS c i).length).take t++(List.range (dS c i).length).drop t:=(List.take_append_drop t _).symm
   _=_:=by rw [f,List.drop_eq_getElem_cons b,d]
 grind
theorem Ng {i:Nat} (a:∀k,k<(dS c i).length->(s.proc ((dS c i).getD (((s.part i).af.toNat+k)%(dS c i).length) 0)).state≠0):jq c s i=none:=by unfold jq;grind
theorem S0 {D:Int->Int->Int->Int} {i a n:Nat} (h:jq c s i=some a):nw c D fl i (n+1) s=nw c D fl i n (ly c D fl s i a):=by
 have e:nw c D fl i (n+1) s=(match jq c s i with
  | none=>s
  | some a=>nw c D fl i n (ly c D fl s i a)):=rfl
 rw [e,h]
theorem Good.zg (g:Good c fl s No No T) {p:Nat} (r:(s.proc p).state=0):(∀q,q<nQ c->∀l∈(s.proc q).ah,∀z∈l.waiters,z.proc≠(p:Int))/\∀i,i<nP c->∀q∈(s.part i).an,(p:Int)∉q:=by
 have h:Out s No No p:=vt ⟨by omega,by omega⟩;refine ⟨λq b l m w o e=> ?_,λi f q b n=> ?_⟩
 ·obtain ⟨i,f,d⟩:=List.getElem_of_mem m;have a:(s.proc q).ah[i]? =some l:=by grind
  exact ((g.dK q b i l a).2.2 w o).out h (by omega)
 ·obtain ⟨k,j,d⟩:=List.getElem_of_mem b;have a:(s.part i).an[k]? =some q:=by rw [List.getElem?_eq_getElem j,d]
  exact ((g.jh i f k q a).2.1 _ n).out h (by omega)
end
section
variable {h0 h1 k:Hp} {K:MK} {pm:Addr} {s:MS} {b:Nat->Nat->Int}
theorem RW {t:Int} {Q:Int->Hp->Prop} (m:dq k K) (u:cc K.c) (o:0<=t) (f:Q (zip K.c t:Int) k):Re prog (some K.sl) t Q k:=by
 unfold Re;obtain ⟨sl,n,h,e⟩:=m.s2;have g:=u.table;have q:=e.1;have r:0<K.c.table.length:=List.length_pos_iff.2 g.1;have ld:∀ {a:Sl->Prop},a sl->aQ none al k (K.sl.add 0) a:=λ{a} p=>⟨sl,λj v hv=>by
  cases j with
  | zero=>have:=h 0 v (by simpa [aY,Sl.v] using hv);rw [rN];exact this
  | succ j=>simp [aY] at hv,p⟩
 rw [if_neg (by simp;omega)];refine aK (ld (aK (ld ⟨by omega,?_⟩)));have l:Int.tmod t ((sl.len:Nat):Int)=((t.toNat%K.c.table.length:Nat):Int):=by rw [Int.tmod_eq_emod_of_nonneg o,q,Int.natCast_emod];congr 1;omega
 rw [l];have w:t.toNat%K.c.table.length<K.c.table.length:=Nat.mod_lt _ r;refine s9 (sh:=ae .i64) e λ(x:Int) d=> ?_;rw [Int.toNat_natCast] at d;unfold zip at f;have i:K.c.table.getD (t.toNat%K.c.table.length) 0=x:=by simp [List.getD,d]
 rw [i] at f;have:=g.2.2 x (List.mem_of_getElem? d);grind
theorem Nh {Q:Int->Hp->Prop} (tk:wG) (m:dq h0 K) (l:cc K.c) (o:Has h0 (aA K pm s b) k) (g:Good K.c (jL K.c) s No No s.tick) (ht:s.tick<4611686018427387904) (td:eH K.c b s)
  (P:∀r u,Has h0 (aA K pm (lu K.c fS (jL K.c) s) r) u->eH K.c r (lu K.c fS (jL K.c) s)->Q (zip K.c s.tick:Int) u):KA prog (some pm) Q k:=by
 unfold KA;have b4:=g.tick;have d8:=l.fuel;have n:=l.lM (t:=s.tick);have d9:=l.procs;refine aK (o.ee.ld (shf:=aj) K.x.oh rfl ?_);refine aK (o.ee.ld (shf:=ae .i64) s.tick rfl ?_);rw [m.s1];refine Zp (RW (m.mono o.le) l b4 ?_);have b2:lu K.c fS (jL K.c) s=⟨(nw K.c fS (jL K.c) (zip K.c s.tick) K.c.fuel.toNat (je K.c s (zip K.c s.tick))).tick+1,(nw K.c fS (jL K.c) (zip K.c s.tick) K.c.fuel.toNat (je K.c s (zip K.c s.tick))).part,(nw K.c fS (jL K.c) (zip K.c s.tick) K.c.fuel.toNat (je K.c s (zip K.c s.tick))).proc⟩:=rfl;rw [b2] at P;generalize zip K.c s.tick=i at*;obtain ⟨g1,g2⟩:=m.sd o n;refine aK (o.ee.ld (shf:=al) K.x.parts rfl ⟨g1,some (K.q i),g2,?_⟩);have gd:=(g.uo (T':=s.tick+1) (by omega)).due (i:=i);refine Zf (OP m l o (g.qe l) n td λd1 k1 Y c8=> ?_);have a9:K.x.kF=K.c.fuel:=m.cfg.fuel;have H:(je K.c s i).tick=s.tick:=rfl;generalize je K.c s i=s1 at*;refine aK ?_;rw [rN];refine Y.ee.ld (shf:=ae .i64) K.x.kF rfl ?_;rw [a9];obtain ⟨d5,d0⟩:=Good.turns (D:=fS) l n K.c.fuel.toNat gd (by rw [H]);refine bP.intro (λu=>∃r,Has h0 (aA K pm (nw K.c fS (jL K.c) i K.c.fuel.toNat s1) r) u/\eH K.c r (nw K.c fS (jL K.c) i K.c.fuel.toNat s1)) ?_ ?_
 ·refine ay.intro (λ(t:Int) u=>0<=t/\t<=K.c.fuel/\∃d r,Has h0 (aA K pm d r) u/\eH K.c r d/\Good K.c (jL K.c) d No No (s.tick+1)/\d.tick=s.tick/\nw K.c fS (jL K.c) i (K.c.fuel-t).toNat d=nw K.c fS (jL K.c) i K.c.fuel.toNat s1) (λt _=>(K.c.fuel-t).toNat) ⟨by omega,by omega,s1,d1,Y,c8,gd,H,by rw [Int.sub_zero]⟩ ?_;rintro t u ⟨t0,t1,d,r,y,c7,F,O,A⟩;by_cases h:t<K.c.fuel
  ·rw [if_pos (decide_eq_true h)];have S:=(m.own i n).mono y.le;have J:=S.1;rw [List.length_map] at J;have d7:(dS K.c i).length<=1000:=by have h1:(dS K.c i).length<=(List.range (nQ K.c)).length:=List.length_filter_le ..;grind
   have en:(K.c.fuel-t).toNat=(K.c.fuel-(t+1)).toNat+1:=by omega
   rw [en] at A;have si:=(F.qe l).part i n;have d6:=si.cur;obtain ⟨h3,x,lp,wp,l3,U,C,_⟩:=y.rB n;have E:x.procs=K.own i:=U.1;have ec:x.af=(d.part i).af:=U.2.1;refine aK (C.ld (shf:=al) x.procs rfl ?_);rw [E];refine ay.intro (λ(j:Int) W=>W=u/\0<=j/\j<=((dS K.c i).length:Int)/\∀B,B<j.toNat->(d.proc ((dS K.c i).getD (((d.part i).af.toNat+B)%(dS K.c i).length) 0)).state≠0) (λj _=>((dS K.c i).length-j).toNat) ⟨rfl,by omega,by omega,λB b8=>by omega⟩ ?_;rintro j _ ⟨rfl,j0,j1,R⟩;by_cases hj:j<((dS K.c i).length:Int)
   ·rw [if_pos (gI)];refine aK (C.ld (shf:=ae .i64) x.af rfl ?_);refine aK (C.ld (shf:=al) x.procs rfl ?_);rw [E,ec];have b5:Int.tmod (yw ((d.part i).af+j)) (((K.own i).len:Nat):Int)=((((d.part i).af.toNat+j.toNat)%(dS K.c i).length:Nat):Int):=by rw [aH,Int.tmod_eq_emod_of_nonneg (by omega),J,Int.natCast_emod];grind
    rw [b5];have I:((d.part i).af.toNat+j.toNat)%(dS K.c i).length<(dS K.c i).length:=Nat.mod_lt _ (by omega);refine ⟨by omega,?_⟩;refine aK (y.ee.ld (shf:=al) K.x.procs rfl ?_);refine aK (C.ld (shf:=al) x.procs rfl ?_);rw [E];generalize ha:((d.part i).af.toNat+j.toNat)%(dS K.c i).length=a at I ⊢;refine Rs.get (sh:=ae .i64) S (λ_=>rfl) (by omega) (by omega) (by grind) λ(q':Int) v=> ?_;rw [Int.toNat_natCast,List.getElem?_map] at v;have b7:=List.getElem?_eq_getElem I;rw [b7] at v;have v:((dS K.c i)[a]:Int)=q':=Option.some.inj v;have b0:(dS K.c i).getD a 0=(dS K.c i)[a]:=by grind
    have L:(dS K.c i)[a]∈dS K.c i:=List.getElem_mem I;rw [<-b0] at v L;generalize c1:(dS K.c i).getD a 0=q at v L;subst v;obtain ⟨G,c0⟩:=fM.1 L;obtain ⟨g5,g6⟩:=m.ptr y G;refine ⟨g5,some (K.p q),g6,?_⟩;obtain ⟨h4,z,ad,l4,hz,oz,_⟩:=y.da G;refine aK (oz.ld (shf:=ae .i64) z.state rfl ?_);have b1:z.state=(d.proc q).state:=hz.2.2.2.1;rw [b1];by_cases M:(d.proc q).state=0
    ·rw [if_pos (by rw [M];rfl)];refine aK (C.ld (shf:=al) x.procs rfl ?_);rw [E];have b6:Int.tmod (yw (((a:Nat):Int)+1)) (((K.own i).len:Nat):Int)=((a+1:Nat):Int)%((dS K.c i).length:Int):=by rw [aH,Int.tmod_eq_emod_of_nonneg (by omega),J];congr 1
     rw [b6];refine ⟨by omega,?_⟩;have T:jq K.c d i=some a:=by
      have:=Nf (c:=K.c) (s:=d) (i:=i) (t:=j.toNat) (by omega) R (by grind)
      rwa [ha] at this
     obtain ⟨h6,f,e1,e3,l6,V,c4,c5⟩:=y.rB n;refine aK (c4.st (⟨f.procs,((a+1:Nat):Int)%((dS K.c i).length:Int),f.log,f.lost,f.forbidden,f.ai,f.dz⟩:aV) (by show 1+1<=7;omega) rfl λX N=> ?_);have o4:=c5 (⟨f.procs,((a+1:Nat):Int)%((dS K.c i).length:Int),f.log,f.lost,f.forbidden,f.ai,f.dz⟩:aV) {d.part i with af:=((a+1:Nat):Int)%((dS K.c i).length:Int)} _ ⟨V.1,rfl,V.2.2⟩ rfl rfl rfl rfl N;have w:=F.part i n;have gc:Good K.c (jL K.c) (d.dU i {d.part i with af:=((a+1:Nat):Int)%((dS K.c i).length:Int)}) No No (s.tick+1):=by refine F.parts ⟨⟨Int.emod_nonneg _ (by omega),λ_=>Int.emod_lt_of_pos _ (by omega)⟩,w.jy,w.log,w.lost,w.kG,w.full,w.gG,w.ig⟩ rfl rfl
     obtain ⟨c2,c3⟩:=gc.zg (p:=q) M;have gt:=F.DR (D:=fS) l n (by rw [O]) T;have d4:(ly K.c fS (jL K.c) d i a).tick=d.tick:=J2;have b3:ly K.c fS (jL K.c) d i a=vP K.c fS (jL K.c) (d.dU i {d.part i with af:=((a+1:Nat):Int)%((dS K.c i).length:Int)}) q:=by unfold ly;rw [c1]
     refine Za (Na tk m l o4 (gc.qe l) G (by show 0<=d.tick/\d.tick<=_;rw [O];omega) (gc.proc q G).bf c2 (c3 _ (by rw [c0];exact n)) (c7.cv rfl) λd3 k5 o5 a8=> ?_);rw [<-b3] at o5 a8;rw [aH];refine ⟨⟨by omega,by omega,_,d3,o5,a8,gt,by omega,?_⟩,by omega⟩;rw [<-A];exact (S0 T).symm
    ·rw [if_neg (by simpa using M),aH];grind
   ·rw [if_neg (λe=>hj (by have:=of_decide_eq_true e;omega))];have b9:=Ng (c:=K.c) (s:=d) (i:=i) λB b8=>R B (by omega);have e2:nw K.c fS (jL K.c) i ((K.c.fuel-(t+1)).toNat+1) d=d:=by unfold nw;rw [b9]
    grind
  ·rw [if_neg (λe=>h (of_decide_eq_true e))];have e0:(K.c.fuel-t).toNat=0:=by omega
   rw [e0] at A;have A:d=_:=A;grind
 ·rintro W ⟨d2,Z,c9⟩;rw [H] at d0;generalize nw K.c fS (jL K.c) i K.c.fuel.toNat s1=s2 at*;refine aK (Z.ee.ld (shf:=ae .i64) s2.tick rfl ?_);obtain ⟨h7,l7,o7,_,c6⟩:=Z.fst;rw [aH];refine aK (o7.st (qi K.x (s2.tick+1)) (by show 9+1<=12;omega) rfl λX N=> ?_);exact P d2 X (c6 _ _ N) c9
end
section
variable {c:bg} {fl:Nat->Nat->Bool} {s:MS} {T:Int}
theorem iO {i:Nat} {x:dx}:(s.list c).parts[i]? =some x↔i<nP c/\x=s.part i:=by
 show ((List.range (nP c)).map s.part)[i]? =some x↔_;rw [List.getElem?_map];by_cases h:i<nP c
 ·rw [List.getElem?_range h];constructor
  ·intro e;exact ⟨h,(Option.some.inj e).symm⟩
  ·rintro ⟨_,rfl⟩;rfl
 ·rw [List.getElem?_eq_none (by rw [List.length_range];omega)];constructor
  ·intro e;cases e
  ·intro e;exact absurd e.1 h
theorem gV {i:Nat} {x:ak}:(s.list c).procs[i]? =some x↔i<nQ c/\x=s.proc i:=by
 show ((List.range (nQ c)).map s.proc)[i]? =some x↔_;rw [List.getElem?_map];by_cases h:i<nQ c
 ·rw [List.getElem?_range h];constructor
  ·intro e;exact ⟨h,(Option.some.inj e).symm⟩
  ·rintro ⟨_,rfl⟩;rfl
 ·rw [List.getElem?_eq_none (by rw [List.length_range];omega)];constructor
  ·intro e;cases e
  ·intro e;exact absurd e.1 h
theorem sK (m:cc c) {p:Nat} (hp:p<nQ c):∃y,c.procs[p]? =some y/\y.part=(az c p:Int)/\y.code=jj c p:=by
 have h:=List.getElem?_eq_getElem (show p<c.procs.length from hp);refine ⟨_,h,?_,?_⟩
 ·have:=m.part _ (List.mem_of_getElem? h);unfold az;rw [h];simp;omega
 ·unfold jj;rw [h];rfl
theorem uL {y:ik} {p:Nat} {x:ak} (h:y.code=jj c p):pP y x.pc=dt c p x:=by unfold pP dt gD;rw [h]
theorem sN (m:cc c) {p:Int} {i:Nat}:Cr c p i↔0<=p/\p.toNat<nQ c/\az c p.toNat=i:=by
 unfold Cr;constructor
 ·rintro ⟨d,y,b,f⟩;have hp:p.toNat<nQ c:=(List.getElem?_eq_some_iff.1 b).1;obtain ⟨g,a,e,_⟩:=sK m hp;rw [b] at a;cases a;exact ⟨d,hp,by omega⟩
 ·rintro ⟨d,b,f⟩;obtain ⟨g,a,e,_⟩:=sK m b;exact ⟨d,g,a,by rw [e,f]⟩
theorem J3 (m:cc c) {i:Nat}:tM c i=(dS c i).length:=by
 have e:c.procs=(List.range c.procs.length).map λq=>c.procs.getD q ⟨0,[]⟩:=by
  refine List.ext_getElem? λj=> ?_;rw [List.getElem?_map];by_cases h:j<c.procs.length
  ·rw [List.getElem?_range h,List.getElem?_eq_getElem h];simp [List.getD,List.getElem?_eq_getElem h]
  ·rw [List.getElem?_eq_none (by omega),List.getElem?_eq_none (by rw [List.length_range];omega)];rfl
 unfold tM dS;rw [e,List.filter_map,List.length_map];congr 1;refine List.filter_congr λq a=> ?_;have a:q<nQ c:=List.mem_range.1 a;obtain ⟨y,b,d,_⟩:=sK m a;have f:c.procs.getD q ⟨0,[]⟩=y:=by simp [List.getD,b]
 show decide ((c.procs.getD q ⟨0,[]⟩).part=(i:Int))=decide (az c q=i);rw [f,d];by_cases h:az c q=i
 ·rw [decide_eq_true h,gI]
 ·rw [decide_eq_false h,decide_eq_false (by omega)]
theorem FV (m:cc c) {i:Nat} {st:ij} (j:st.tick=T):∀ {l:List xG} {last:Int},l.Pairwise (λa b=>a.tick<=b.tick)->(∀e∈l,last<=e.tick/\e.tick<T/\0<=e.proc/\e.proc.toNat<nQ c/\az c e.proc.toNat=i)->vG c st i last l
 | [],_,_,_=>trivial
 | e::r,last,h,g=>by obtain ⟨k,n⟩:=List.pairwise_cons.1 h;obtain ⟨a1,a2,a3⟩:=g e (List.mem_cons_self ..);refine ⟨a1,by rw [j];exact a2,(sN m).2 a3,FV m j n λd f=>⟨k d f,(g d (List.mem_cons_of_mem _ f)).2⟩⟩
theorem H8 {l:List Int} {z:Int} (nd:l.Nodup) (h:z∈l):l.countP (λy=>decide (y=z))=1:=by
 induction l with
 | nil=>cases h
 | cons a l d=>
  rw [List.nodup_cons] at nd;rw [List.countP_cons];rcases List.mem_cons.1 h with rfl | h
  ·have:l.countP (λy=>decide (y=z))=0:=by rw [List.countP_eq_zero];intro y b;simp;exact λe=>nd.1 (e▸b)
   rw [this];simp
  ·rw [d nd.2 h];have:a≠z:=λe=>nd.1 (e▸h);simp [this]
theorem CL {l:List Int} {z:Int} (h:z∉l):l.countP (λy=>decide (y=z))=0:=by rw [List.countP_eq_zero];intro y a;simp;exact λe=>h (e▸a)
theorem AK {p:Int} {x:dx} (h:∀q∈x.an,p∉q):mf p x=0:=by unfold mf;rw [List.sum_eq_zero_iff_forall_eq_nat];intro y b;obtain ⟨q,a,rfl⟩:=List.mem_map.1 b;exact CL (h q a)
theorem uM {p:Int} {l:ba}:tw p l=(l.waiters.map (·.proc)).countP λy=>decide (y=p):=by unfold tw;rw [List.countP_map];rfl
theorem AL {p:Int} {x:ak} (h:∀l∈x.ah,∀w∈l.waiters,w.proc≠p):me p x=0:=by unfold me;rw [List.sum_eq_zero_iff_forall_eq_nat];intro y f;obtain ⟨l,a,rfl⟩:=List.mem_map.1 f;rw [uM];refine CL λb=> ?_;obtain ⟨w,d,e⟩:=List.mem_map.1 b;exact h l a w d e
end
section
variable {c:bg} {fl:Nat->Nat->Bool} {s:MS} {T:Int}
theorem H9 {i:Nat} (h:i<nP c):(s.list c).parts[i]? =some (s.part i):=iO.2 ⟨h,rfl⟩
theorem wq {i:Nat} (h:i<nQ c):(s.list c).procs[i]? =some (s.proc i):=gV.2 ⟨h,rfl⟩
theorem OR {p:Int} (h:p.toNat<nQ c) {q:ak->Prop} (a:q (s.proc p.toNat)):L7 (s.list c) p q:=⟨_,wq h,a⟩
theorem xK (m:cc c) {p:Int} (h:p.toNat<nQ c) {n:dB} (d:dt c p.toNat (s.proc p.toNat)=some n) {q:ak->dB->Prop} (e:q (s.proc p.toNat) n):Kh c (s.list c) p q:=by obtain ⟨y,a,f,b⟩:=sK m h;exact ⟨_,y,n,wq h,a,by rw [uL b];exact d,e⟩
theorem J4 {r:List Int} {i v:Int} (d:r.length=8) (b:0<=i/\i<8) (h:eR r i=v):r[i.toNat]? =some v:=by
 have a:i.toNat<r.length:=by omega
 rw [List.getElem?_eq_getElem a,<-h];unfold eR;grind
theorem Good.waits (m:cc c) (g:Good c fl s No No T):FI c (s.list c):=by
 refine ⟨λi x a k q hq p hp=> ?_,λr x y a M i l hl w Y=> ?_,λp x a=> ?_⟩
 ·obtain ⟨z,rfl⟩:=iO.1 a;obtain ⟨b1,R,S⟩:=g.jh i z k q hq;obtain ⟨a1,a2,a3,_,a5⟩:=R p hp;obtain ⟨a5,n,a6,a7,E⟩:=a5.resolve_left (λh=>h);obtain ⟨o,t,u,O⟩:=S (List.ne_nil_of_mem hp);refine ⟨(sN m).2 ⟨a1,a2,a3⟩,xK m a2 a6 ⟨a5,E⟩,o,t,?_,λe=>O (e▸hp)⟩;rcases g.own i z k o t with h | h
  ·exact absurd h u
  ·exact h.1
 ·obtain ⟨G,rfl⟩:=gV.1 a;obtain ⟨y',f1,f2,f3⟩:=sK m G;rw [M] at f1;cases f1;obtain ⟨b1,R,S⟩:=g.dK r G i l hl;obtain ⟨c1,c2,c3⟩:=R (List.ne_nil_of_mem Y);obtain ⟨a1,a2,a3,_,a5⟩:=S w Y;obtain ⟨a5,n,a6,a7,E,a9⟩:=a5.resolve_left (λh=>h);have b0:=cQ.1 (c2.resolve_right (λh=>h));have X:=(g.proc _ a2).bf;have Z:=Uc (m.ins a6).1 a7;exact ⟨by rw [f2,c1],(sN m).2 ⟨a1,a2,a3⟩,b0,c3,xK m a2 a6 ⟨a5,a7,J4 X Z.2.1 E,J4 X Z.2.2 a9⟩⟩
 ·obtain ⟨hp,rfl⟩:=gV.1 a;have b4:((s.list c).parts.map (mf (p:Int))).sum=if (s.proc p).state=3 then 1 else 0:=by
   by_cases Q:(s.proc p).state=3
   ·rw [if_pos Q];obtain ⟨k,q,t,u⟩:=g.qM p hp (λh=>h) Q;have z:=m.eJ (p:=p);rw [Ke (mf (p:Int)) _ (az c p) λj x a J=> ?_,H9 z]
    ·show mf (p:Int) (s.part (az c p))=1;unfold mf;rw [Ke _ _ k λj D K J=> ?_,t]
     ·exact H8 (g.jh _ z k q t).1 u
     ·refine CL λB=> ?_;obtain ⟨_,_,_,_,a5⟩:=(g.jh _ z j D K).2.1 _ B;obtain ⟨_,n1,a6,_,E⟩:=a5.resolve_left (λh=>h);obtain ⟨_,_,_,_,U⟩:=(g.jh _ z k q t).2.1 _ u;obtain ⟨_,n2,F,_,W⟩:=U.resolve_left (λh=>h);rw [a6] at F;cases F;omega
    ·obtain ⟨d,rfl⟩:=iO.1 a;refine AK λD K B=> ?_;obtain ⟨f,A,b⟩:=List.getElem_of_mem K;have v:(s.part j).an[f]? =some D:=by rw [List.getElem?_eq_getElem A,b]
     have:=((g.jh j d f D v).2.1 _ B).2.2.1;rw [Int.toNat_natCast] at this;exact J this.symm
   ·rw [if_neg Q,List.sum_eq_zero_iff_forall_eq_nat];intro y M;obtain ⟨x,a,rfl⟩:=List.mem_map.1 M;obtain ⟨j,d,b⟩:=List.getElem_of_mem a;have V:(s.list c).parts[j]? =some x:=by rw [List.getElem?_eq_getElem d,b]
    obtain ⟨d,rfl⟩:=iO.1 V;refine AK λD K B=> ?_;obtain ⟨f,A,b⟩:=List.getElem_of_mem K;have v:(s.part j).an[f]? =some D:=by rw [List.getElem?_eq_getElem A,b]
    obtain ⟨_,_,_,_,a5⟩:=(g.jh j d f D v).2.1 _ B;have:=(a5.resolve_left (λh=>h)).1;rw [Int.toNat_natCast] at this;exact Q this
  have b7:((s.list c).procs.map (me (p:Int))).sum=if (s.proc p).state=2 then 1 else 0:=by
   by_cases P:(s.proc p).state=2
   ·rw [if_pos P];obtain ⟨r,G,l,t,w,u,O⟩:=g.qL p hp (λh=>h) P;obtain ⟨d1,d2,d3⟩:=g.dK r G _ l t;obtain ⟨_,_,_,_,U⟩:=d3 w u;obtain ⟨_,n2,F,_,W,_⟩:=U.resolve_left (λh=>h);rw [O,Int.toNat_natCast] at F W;rw [Ke (me (p:Int)) _ r λj x a J=> ?_,wq G]
    ·show me (p:Int) (s.proc r)=1;unfold me;rw [Ke _ _ (az c p) λj C I J=> ?_,t]
     ·show tw (p:Int) l=1;rw [uM];exact H8 d1 (List.mem_map.2 ⟨w,u,O⟩)
     ·rw [uM];refine CL λB=> ?_;obtain ⟨N,L,H⟩:=List.mem_map.1 B;have:=((g.dK r G j C I).2.2 N L).2.2.1;rw [H,Int.toNat_natCast] at this;exact J this.symm
    ·obtain ⟨d,rfl⟩:=gV.1 a;refine AL λC I N L H=> ?_;obtain ⟨f,A,b⟩:=List.getElem_of_mem I;have v:(s.proc j).ah[f]? =some C:=by rw [List.getElem?_eq_getElem A,b]
     obtain ⟨_,_,_,_,a5⟩:=(g.dK j d f C v).2.2 N L;obtain ⟨_,n1,a6,_,E,_⟩:=a5.resolve_left (λh=>h);rw [H,Int.toNat_natCast] at a6 E;rw [a6] at F;cases F;omega
   ·rw [if_neg P,List.sum_eq_zero_iff_forall_eq_nat];intro y M;obtain ⟨x,a,rfl⟩:=List.mem_map.1 M;obtain ⟨j,d,b⟩:=List.getElem_of_mem a;have V:(s.list c).procs[j]? =some x:=by rw [List.getElem?_eq_getElem d,b]
    obtain ⟨d,rfl⟩:=gV.1 V;refine AL λC I N L H=> ?_;obtain ⟨f,A,b⟩:=List.getElem_of_mem I;have v:(s.proc j).ah[f]? =some C:=by rw [List.getElem?_eq_getElem A,b]
    obtain ⟨_,_,_,_,a5⟩:=(g.dK j d f C v).2.2 N L;have:=(a5.resolve_left (λh=>h)).1;rw [H,Int.toNat_natCast] at this;exact P this
  grind
theorem Good.may (m:cc c) (g:Good c fl s No No s.tick) (q:s.tick<=4611686018427387904):sZ c (s.list c) λi y=>fl i y.toNat=true:=by
 refine ⟨⟨⟨g.tick,q⟩,?_,?_⟩,λi x d=> ?_,λp x y d t=> ?_,g.waits m⟩
 ·show ((List.range (nP c)).map s.part).length=_;rw [List.length_map,List.length_range];rfl
 ·show ((List.range (nQ c)).map s.proc).length=_;rw [List.length_map,List.length_range];rfl
 ·obtain ⟨b,rfl⟩:=iO.1 d;have pm:=g.part i b;refine ⟨⟨pm.cur.1,by rw [J3 m];exact pm.cur.2,pm.jy⟩,FV m rfl pm.log.1 λe f=>pm.log.2 e f,pm.lost,pm.kG,pm.full,pm.gG,pm.ig,λp hp o=> ?_⟩;obtain ⟨k,u,f⟩:=List.getElem_of_mem hp;have j:(s.part i).ax[k]? =some p:=by grind
  rcases g.own i b k p j with h | ⟨a1,a2,a3,a4⟩
  ·exact absurd h o
  ·exact ⟨(sN m).2 ⟨a1,a2,a3⟩,OR a2 (cQ.1 (a4.resolve_right (λh=>h)))⟩
 ·obtain ⟨hp,rfl⟩:=gV.1 d;obtain ⟨v,f1,f2,f3⟩:=sK m hp;rw [t] at f1;cases f1;have pm:=g.proc p hp;have a:pP y (s.proc p).pc=dt c p (s.proc p):=uL f3;refine ⟨pm.st,by rw [f3];exact pm.pc,pm.lF,pm.cur,pm.mG,pm.mH,pm.np.resolve_left (λh=>h),λh=>⟨(pm.dead h).1.resolve_left (λh=>h),(pm.dead h).2⟩,λi l n=> ?_,λh=> ?_,λh=> ?_,λh=> ?_,λh=> ?_⟩
  ·obtain ⟨a1,a2,a3,a4⟩:=pm.dK i l n;refine ⟨a1,a2,a3,λr b=> ?_⟩;rw [f2];show fl i ((az c p:Nat):Int).toNat=true;rw [Int.toNat_natCast];exact a4 r b
  ·rw [a];exact pm.recv h
  ·rw [a];exact pm.snd h
  ·rw [a];exact pm.pe h
  ·rw [a];exact pm.iT h
end
abbrev vH (l:Sl) (a:List dx):dg:=iX (bz.ok (sh:=dJ) (sz:=6) uX) l a
abbrev tj (l:Sl) (a:List ak):dg:=iX (bz.ok (sh:=bY) (sz:=15) JK) l a
section
variable {h0 h1 k:Hp} {K:MK} {pm:Addr} {s:MS} {g:Nat->Nat->Int}
def YG (e:xG):eK:=⟨e.tick,e.proc,e.value⟩
theorem RX {i:Nat} {Ps:Sl} {ps:List dx} {rest:Sl->Hp->Prop} (mc:cc K.c) (o:Has h0 ((aA K pm s g).star (vH Ps ps)) k) (sa:jv K.c s) (I:i<nP K.c) (c4:ps.length<=1000)
  (hk:∀z j,Has h0 ((aA K pm s g).star (vH z (ps++ [s.part i]))) j->rest z j):
 ag none (some (K.q i)) λp2=>
 aQ none aj k (Addr.add p2 5) λx3=>
 aZ prog KB [(.pointer x3)] al al (λr N l=>
 ag none (some (K.q i)) λp3=>
 aQ none (ae .i64) l (Addr.add p3 1) λw=>
 ag none (some (K.q i)) λp4=>
 aQ none al l (Addr.add p4 2) λx5=>
 ag none (some (K.q i)) λp5=>
 aQ none (ae .i64) l (Addr.add p5 3) λx6=>
 ag none (some (K.q i)) λp6=>
 aQ none (ae .i64) l (Addr.add p6 4) λx7=>
 aa prog FA [x5.v] al (λr2 m=>
 ((True/\((aT m (Addr.add p3 1) [(.int .i64 w)])/\((aT m (Addr.add p5 3) [(.int .i64 x6)])/\((aT m (Addr.add p6 4) [(.int .i64 x7)])/\True))))/\bq [(.int .i64 w),r2.v,(.int .i64 x6),(.int .i64 x7),r.v,N.v] (λa G=>
 ((True/\True)/\fP 6 96 [(.int .i64 (0:Int)),(.slice none 0 0),(.int .i64 (0:Int)),(.int .i64 (0:Int)),(.slice none 0 0),(.slice none 0 0)] ⟨Ps.base,Ps.len,Ps.cap⟩ ⟨(some a),1,1⟩ (λO h5=>
 rest O h5) G)) m)) l) k:=by
 have A:=sa.part i I;obtain ⟨V,lA,oM,_,fU⟩:=o.fst;obtain ⟨m,w,b0,c7,l4,a9,b8,ol,c0⟩:=oM.pX I;have el:w.ai=some b0:=a9.2.2.2.2.1;refine aK (b8.ld (shf:=aj) w.ai rfl ?_);rw [el];refine Zo (T7 ol ⟨by have:=A.mh.1;omega,A.mh.2⟩ A.gG λP Q W o2=> ?_);have Y:Has V ((aA K pm s g).star ((rV P (s.part i).ax).star (vI Q (s.part i).an))) W:=o2.carry λj L=>by
  have G:=c0 _ _ j L;have e:s.dU i {s.part i with ax:=(s.part i).ax,an:=(s.part i).an}=s:=AG
  rwa [e] at G
 obtain ⟨hB,lB,b5,⟨F3,c2,c1⟩,c6⟩:=Y.fst;obtain ⟨h6,x,lp,wp,l6,J,u,b7,_⟩:=b5.DC I;refine aK (u.ld (shf:=ae .i64) x.af rfl ?_);refine aK (u.ld (shf:=al) x.log rfl ?_);refine aK (u.ld (shf:=ae .i64) x.lost rfl ?_);refine aK (u.ld (shf:=ae .i64) x.forbidden rfl ?_);refine WS ?_;unfold NC;have c3:=A.jy;refine vr (bK.bE 83 zB rfl) (b7.ia (λ_=>rfl)) (by decide) (λ_=>rfl) (λ_=>rfl) rfl ⟨by omega,by omega⟩ λR X a8 n3=> ?_;have M:=u.grow a8;refine ⟨⟨trivial,M.dQ (n:=1) rfl,M.dQ (n:=1) rfl,M.dQ (n:=1) rfl,trivial⟩,?_⟩;have b1:Has W (iX (bz.ok (sh:=fN) (sz:=3) (fa.ok λx p=>uG x=p)) R (s.part i).log) X:=n3.iR (f:=YG) (λ_=>rfl) λ_=>rfl;have Z:=Y.beside b1;have b6:Has V ((aA K pm s g).star (iX uX (⟨x.af,R,x.lost,x.forbidden,P,Q⟩:cK) (s.part i))) X:=by
  obtain ⟨hC,lC,c5,_,_⟩:=Z.assoc.fst;refine Z.assoc.map λkk F hF=> ?_;refine CP (λ_ h=>h) (λF' h=> ?_) hF;obtain ⟨F1,F2,e,d,⟨F4,F5,B,d',⟨T,r2,b3,D⟩,⟨U,O,b4,E⟩⟩,⟨S,N,b2,C⟩⟩:=h;refine ⟨S++(T++U),⟨S,T,U,rfl,N,r2,O,J.2.1,J.2.2.1,J.2.2.2.1⟩,?_,λb=> ?_⟩
  ·rw [List.nodup_append,List.nodup_append];refine ⟨b2,⟨b3,b4,λa y b hb H=> ?_⟩,λa y b hb H=> ?_⟩
   ·subst H;exact d' a ((D a).2 y) ((E a).2 hb)
   ·subst H;rcases List.mem_append.1 hb with hb | hb
    ·exact d a ((B a).2 (.inl ((D a).2 hb))) ((C a).2 y)
    ·exact d a ((B a).2 (.inr ((E a).2 hb))) ((C a).2 y)
  ·rw [e b,B b,C b,D b,E b,List.mem_append,List.mem_append];constructor
   ·rintro ((h | h) | h)
    ·exact .inr (.inl h)
    ·exact .inr (.inr h)
    ·exact .inl h
   ·rintro (h | h | h)
    ·exact .inr h
    ·exact .inl (.inl h)
    ·exact .inl (.inr h)
 have oF:=(fU _ _ b6).assoc;obtain ⟨hD,lD,oD,_,b9⟩:=oF.snd;have key:=oD.comm.row (cs:=[(.int .i64 x.af),R.v,(.int .i64 x.lost),(.int .i64 x.forbidden),P.v,Q.v]) (zero:=[(.int .i64 (0:Int)),(.slice none 0 0),(.int .i64 (0:Int)),(.int .i64 (0:Int)),(.slice none 0 0),(.slice none 0 0)]) (bytes:=96) rfl (λ_=>rfl) (λ_=>rfl) rfl ⟨by omega,by omega⟩ (K:=rest) λz j L=>hk z j (b9 _ _ L);exact λb t hb=>⟨⟨trivial,trivial⟩,key b t hb⟩
theorem RY {c:bg} {p:Nat} (hp:p<nQ c):mJ c s (az c p) (2*p)=(s.proc p).timer:=by unfold mJ;grind
theorem S1 {c:bg} {p:Nat} (hp:p<nQ c):mJ c s (az c p) (2*p+1)=(s.proc p).cx:=by unfold mJ;grind
theorem RZ {p:Nat} {Ps:Sl} {ps:List ak} {rest:Sl->Hp->Prop} (m:dq h0 K) (R:cc K.c) (o:Has h0 ((aA K pm s g).star (tj Ps ps)) k) (sa:jv K.c s) (td:eH K.c g s) (hp:p<nQ K.c) (c7:ps.length<=1000)
  (hk:∀M y,Has h0 ((aA K pm s g).star (tj M (ps++ [s.proc p]))) y->rest M y):
 ag none (some (K.p p)) λp3=>
 aQ none aj k (Addr.add p3 14) λx4=>
 aZ prog KH [(.pointer x4)] al (ae .i64) (λr r1 C=>
 ag none (some pm) λp4=>
 aQ none al C (Addr.add p4 10) λG=>
 ag none (some (K.p p)) λp5=>
 aQ none (ae .i64) C (Addr.add p5 1) λP=>
 ((bD G.base G.len P)/\aQ none aj C (sat G.base 1 P) λA=>
 ag none A λp6=>
 aQ none aj C (Addr.add p6 6) λx8=>
 aa prog vn [(.int .i64 (p:Int))] (ae .i64) (λr2 i=>
 (((aT i (Addr.add p4 10) [G.v])/\((aT i (Addr.add p5 1) [(.int .i64 P)])/\((aT i (sat G.base 1 P) [(.pointer A)])/\((aT i (Addr.add p6 6) [(.pointer x8)])/\True))))/\aZ prog Cw [(.pointer x8),(.int .i64 r2)] (ae .i64) bu (λr3 r4 D=>
 ag none (some pm) λp7=>
 aQ none al D (Addr.add p7 10) λH=>
 ag none (some (K.p p)) λp8=>
 aQ none (ae .i64) D (Addr.add p8 1) λO=>
 ((bD H.base H.len O)/\aQ none aj D (sat H.base 1 O) λa8=>
 ag none a8 λp9=>
 aQ none aj D (Addr.add p9 6) λa9=>
 aa prog wx [(.int .i64 (p:Int))] (ae .i64) (λr5 E=>
 (((aT E (Addr.add p7 10) [H.v])/\((aT E (Addr.add p8 1) [(.int .i64 O)])/\((aT E (sat H.base 1 O) [(.pointer a8)])/\((aT E (Addr.add p9 6) [(.pointer a9)])/\True))))/\aZ prog Cw [(.pointer a9),(.int .i64 r5)] (ae .i64) bu (λr6 r7 w=>
 ag none (some (K.p p)) λb5=>
 aQ none (ae .i64) w (Addr.add b5 3) λc1=>
 ag none (some (K.p p)) λb6=>
 aQ none (ae .i64) w (Addr.add (Addr.add b6 4) 0) λc2=>
 ag none (some (K.p p)) λb7=>
 aQ none vo w (Addr.add (Addr.add b7 4) 1) λf=>
 ag none (some (K.p p)) λb8=>
 aQ none bu w (Addr.add b8 13) λc3=>
 bq [(.int .i64 c1),(.int .i64 c2),(.int .i64 f.a0),(.int .i64 f.a1),(.int .i64 f.a2),(.int .i64 f.a3),(.int .i64 f.a4),(.int .i64 f.a5),(.int .i64 f.a6),(.int .i64 f.a7),(.int .i64 r1),(.int .i64 r3),(.bool c3),(.int .i64 r6),r.v] (λa h8=>
 ((True/\True)/\fP 15 136 [(.int .i64 (0:Int)),(.int .i64 (0:Int)),(.int .i64 (0:Int)),(.int .i64 (0:Int)),(.int .i64 (0:Int)),(.int .i64 (0:Int)),(.int .i64 (0:Int)),(.int .i64 (0:Int)),(.int .i64 (0:Int)),(.int .i64 (0:Int)),(.int .i64 (0:Int)),(.int .i64 (0:Int)),(.bool false),(.int .i64 (0:Int)),(.slice none 0 0)] ⟨Ps.base,Ps.len,Ps.cap⟩ ⟨(some a),1,1⟩ (λr8 h9=>
 rest r8 h9) h8)) w) E)) D)) i)) C)) k:=by
 have J:az K.c p<nP K.c:=R.eJ;have c6:=R.procs;have c5:=R.parts;have sp:=sa.proc p hp;have c4:=sp.len;obtain ⟨Y,lA,oM,_,fU⟩:=o.fst;obtain ⟨h1,z,a,l1,hz,oz,oq,put⟩:=oM.kn hp;have b0:z.post=some a:=hz.2.2.2.2.2.2;refine aK (oz.ld (shf:=aj) z.post rfl ?_);rw [b0];refine Zu (Vo oq ⟨by omega,λl Z=>⟨(sp.dK l Z).waiters,by have:=(sp.dK l Z).values;omega⟩⟩ λT k2 o2=> ?_);have o3:Has Y ((aA K pm s g).star (sY T (s.proc p).ah)) k2:=o2.carry λy S=>by
  have i:=put _ _ y S;have e:s.aW p {s.proc p with ah:=(s.proc p).ah,af:=(s.proc p).af}=s:=H3
  rwa [e] at i
 obtain ⟨hB,lB,j,_,_⟩:=o3.fst;have mB:=m.mono (Hp.le_trans lA lB);obtain ⟨h2,d,a2,l2,L,u,_⟩:=j.da hp;obtain ⟨X,I⟩:=mB.sd j J;obtain ⟨w,A,c8,c0,l7,b3,N,ow,_⟩:=j.iv J;have W:A.dz=some c0:=b3.2.2.2.2.2;have V:d.part=(az K.c p:Int):=L.2.1;refine aK (j.ee.ld (shf:=al) K.x.parts rfl ?_);refine aK (u.ld (shf:=ae .i64) d.part rfl ?_);have Q:=u.dQ (off:=1) (n:=1) (vs:=[.int .i64 d.part]) rfl;rw [V] at Q ⊢;refine ⟨X,some (K.q (az K.c p)),I,?_⟩;refine aK (N.ld (shf:=aj) A.dz rfl ?_);refine Gl (wH (by omega) ?_);refine ⟨⟨j.ee.dQ (n:=1) rfl,Q,I,N.dQ (n:=1) rfl,trivial⟩,?_⟩;rw [W];refine XA (Jc ow λb1=> ?_);refine aK (j.ee.ld (shf:=al) K.x.parts rfl ?_);refine aK (u.ld (shf:=ae .i64) d.part rfl ?_);rw [V];refine ⟨X,some (K.q (az K.c p)),I,?_⟩;refine aK (N.ld (shf:=aj) A.dz rfl ?_);refine Gm (wI (by omega) ?_);refine ⟨⟨j.ee.dQ (n:=1) rfl,Q,I,N.dQ (n:=1) rfl,trivial⟩,?_⟩;rw [W];refine XA (Jc ow λb2=> ?_);rw [td _ _ J,td _ _ J,RY hp,S1 hp];refine aK (u.ld (shf:=ae .i64) d.state rfl (aK ?_));rw [rN];refine u.ld (shf:=ae .i64) d.jb rfl (aK ?_);rw [rN];refine u.ld (shf:=vo) (rowOf (dG d)) rfl (aK ?_);refine u.ld (shf:=bu) d.bN rfl ?_;have U:fR (dG d)=(s.proc p).core:=L.2.2.2.2.1;have b4:Has Y ((aA K pm s g).star (iX JK (⟨d.state,d.jb,d.fu,d.fw,d.fy,d.fz,d.fA,d.fB,d.fC,d.fD,(s.proc p).af,(s.proc p).timer,d.bN,(s.proc p).cx,T⟩:bB) (s.proc p))) k2:=by refine o3.map λkk F hF=> ?_;refine CP (λ_ h=>h) (λF' h=> ?_) hF;obtain ⟨B,r,nd,e⟩:=h;exact ⟨B,⟨r,L.2.2.2.1,congrArg Core.pc U,congrArg Core.bf U,rfl,rfl,L.2.2.2.2.2.1,rfl⟩,nd,e⟩
 have oF:=(fU _ _ b4).assoc;obtain ⟨hD,lD,oD,_,b9⟩:=oF.snd;have key:=oD.comm.row (cs:=[(.int .i64 d.state),(.int .i64 d.jb),(.int .i64 d.fu),(.int .i64 d.fw),(.int .i64 d.fy),(.int .i64 d.fz),(.int .i64 d.fA),(.int .i64 d.fB),(.int .i64 d.fC),(.int .i64 d.fD),(.int .i64 (s.proc p).af),(.int .i64 (s.proc p).timer),(.bool d.bN),(.int .i64 (s.proc p).cx),T.v]) (zero:=[(.int .i64 (0:Int)),(.int .i64 (0:Int)),(.int .i64 (0:Int)),(.int .i64 (0:Int)),(.int .i64 (0:Int)),(.int .i64 (0:Int)),(.int .i64 (0:Int)),(.int .i64 (0:Int)),(.int .i64 (0:Int)),(.int .i64 (0:Int)),(.int .i64 (0:Int)),(.int .i64 (0:Int)),(.bool false),(.int .i64 (0:Int)),(.slice none 0 0)]) (bytes:=136) rfl (λ_=>rfl) (λ_=>rfl) rfl ⟨by omega,by omega⟩ (K:=rest) λM y S=>hk M y (b9 _ _ S);exact λb t hb=>⟨⟨trivial,trivial⟩,key b t hb⟩
end
end Lf
