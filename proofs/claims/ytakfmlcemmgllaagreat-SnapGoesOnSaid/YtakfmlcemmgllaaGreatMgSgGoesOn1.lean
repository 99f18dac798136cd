/-
  Part 2 of the texts that the claim leans on.
-/
import Derived.ScopeJumps
import Derived.Test.YtakfmlcemmgllaaGreatRows
import Derived.Test.YtakfmlcemmgllaaGreatMgSgGoesOn0
set_option maxRecDepth 100000
namespace Lf
open Go
theorem lg {b:Bool} {p:Prop} (h:cond b p False):b=true/\p:=by grind
theorem Pa {C:Ctx} {m:Nat->Bool} {L:List Oper} {s:St} {h:Hp}:∀ {a:List Nat},G4 C m L s h a->∀ {j:Nat} {p:Oper} {ch:bp},j∈a->L[j]? =some p->rL L L.length p=some ch->qT C m p ch s h
 | [],_,_,_,_,hj,_,_=>by cases hj
 | r::a,d,j,p,ch,hj,hp,e=>by
  obtain ⟨b,c⟩:=d;rcases List.mem_cons.1 hj with rfl | hj
  ·rw [pe,hp] at b;grind
  ·exact Pa c hj hp e
theorem US {C:Ctx} {m:Nat->Bool} {p:Oper} {ch:bp} {s:St} {h:Hp} (a:qT C m p ch s h):∃d,p.dst=some d:=by
 cases b:p.dst with
 | some d=>simp
 | none=>unfold qT at a;grind
section
variable {C:Ctx} {L:List Oper} {mok:List Nat} {n:Nat} {lv0:Nat->Prop} {β0:Nat->Nat} {a0:Act} {h0:Hp} {w0:World} {done g:List Nat} {q:Array Bool} {β:Nat->Nat} {s:St} {a:Act} {h:Hp} {w:World}
theorem Xx (k:(cK L).Nodup) {i:Nat} {o:Oper} (f:L[i]? =some o) (hid:i∉done) (t:Nat):mS L (i::done) (i::g) t↔(o.dst=some t\/mS L done g t):=by
 constructor
 ·intro hc;by_cases d:o.dst=some t
  ·exact .inl d
  ·exact .inr λj p h1 c b=>hc j p (List.mem_cons_of_mem _ h1) (λe=>by
    grind) b
 ·rintro (d | hc) j p h1 c b
  ·intro e;exact c (by rw [vW k b f e d];simp)
  ·rcases List.mem_cons.1 h1 with e | h1
   ·grind
   ·exact hc j p h1 (λe=>c (List.mem_cons_of_mem _ e)) b
theorem Qz (d:(cK L).Nodup) {i:Nat} {o:Oper} (c:L[i]? =some o) (hid:i∉done) (k:Nat):iT C L (i::done) (i::g) k↔(di C.aY o k\/iT C L done g k):=by
 constructor
 ·rintro ⟨r,m⟩;by_cases hp:di C.aY o k
  ·exact .inl hp
  ·exact .inr ⟨λj p f l b=>r j p (List.mem_cons_of_mem _ f) (λe=>by
    grind) b,λe=>m ((C7 d c hid k).2 ⟨hp,e⟩)⟩
 ·rintro (hp | ⟨r,m⟩)
  ·exact ⟨λj p f l b t=>l (by rw [vW d b c t.2 hp.2];simp),λe=>((C7 d c hid k).1 e).1 hp⟩
  ·refine ⟨λj p f l b=> ?_,λe=>m ((C7 d c hid k).1 e).2⟩;grind
theorem Ts (ok:C.tb.Ok C.P) (Y:(cK L).Nodup) (x:pC C L mok n lv0 β0 a0 h0 w0 done g q β s a h w) {i:Nat} {o:Oper} (B:L[i]? =some o) (hid:i∉done) (b1:∀j∈na (bV L []) i,j∈g)
  {Q:List Nat} (hwatch:(isVal C.tb o=true\/nD C.aY o=true)\/∀j p,j∈done->L[j]? =some p->isVal C.tb p=true->ud C.tb p=true->j∈Q\/j∈na (bV L []) i)
  {l:List Nat} {c3:Nat->Nat} {s':St} {a':Act} {z:Hp} {w':World} (out:xN C l mok n (mS L done g) (iT C L done g) (ux L done) (sJ C L done) o β s a h w c3 s' a' z w')
  (b0:G4 C (xX o s) L s' z Q) {j:Nat} {p:Oper} (u:j∈done) (J:j∉g) (r:L[j]? =some p):
  pB C L p s' z/\dW L (bV L []) j p=true/\iM (bV L []) j p L 0=false/\∀d,di C.aY p d->d∈mok:=by
 obtain ⟨⟨ch,G,U,b7⟩,M,c0⟩:=x.facts j p u J r;refine ⟨?_,M,c0⟩;have k:kM (ux L done) p s s':=Qy Y x B hid out.f r u λt v e=>by
  rcases Tp M v B e with h1 | h1 | h1
  ·exact hid (CE x r u h1)
  ·exact hid (h1▸u)
  grind
 have R:=GN x r (x.mG j p r u) M G U;have I:∀d,p.dst=some d->ux L done d:=λd e=>⟨j,p,u,r,e⟩;have X:∀t,Operand.tmp t∈p.op.operands->∀b off c,(s.f t=some (.box b off,c)\/s.f t=some (.eH b off,c))->holds s c->s'.m b=s.m b\/(xX o s b=true/\isVal C.tb o=false):=by
  intro t v b off c hfb A;rcases out.m b with e | e | e
  ·exact .inl e
  ·exfalso;have S:sJ C L done b:=⟨i,o,hid,B,e⟩;rcases hfb with hfb | hfb
   ·exact (x.rr.ly b S t _ c hfb A off).1 rfl
   ·exact (x.rr.ly b S t _ c hfb A off).2 rfl
  grind
 refine ⟨ch,G,by rw [RF k R];exact U,?_⟩;rcases b7 with ⟨E,Z,lv,W,O,b8,c1⟩ | ⟨rfl,E,d,cs,D,b2,b5,O⟩
 ·have a8:At C.tb p ch s' lv:=λb4=>c1 (by rw [<-k.kind (s':=s')];exact b4);refine .inl ⟨E,by rw [k.kind];exact Z,lv,λd e=>by rw [k.dn d (I d e)];exact W d e,λV=> ?_,k.DC b8,a8⟩;have A:=(k.nJ R).1 V;have y:=O A;have K:dg C.tb p ch s'=dg C.tb p ch s:=k.kind;rw [K];by_cases N:dg C.tb p ch s=.pure
  ·rw [N] at y ⊢;exact Qd k (λe=>absurd rfl e) (λe=>by cases e) y
  ·have b9:=Z.resolve_right N;rcases hwatch with a9 | hwatch
   ·have b6:∀b,¬(xX o s b=true/\isVal C.tb o=false):=by
     rintro b ⟨e1,e2⟩;rcases a9 with e | e
     ·grind
     ·unfold xX at e1;unfold nD at e;grind
    have b3:z=h:=by
     rcases a9 with e | e
     ·exact out.hv e
     ·exact out.hp e
    exact Qd k (λ_ t v b off c hfb F=>(X t v b off c hfb F).resolve_right (b6 b)) (λ_=>b3) y
   ·have c2:j∈Q:=(hwatch j p u r E b9).resolve_right λe=>J (b1 j e);have T:=Pa b0 c2 r G;obtain ⟨d,H⟩:=US T;rcases adA rfl ok T H ⟨ch,by rw [k.dn d (I d H)];exact W d H⟩ V a8 with h1 | ⟨h1,h2⟩ | ⟨h1,h2⟩
    ·rw [K] at h1;exact absurd h1 N
    ·rw [K] at h1;rw [h1] at y ⊢;exact Qd k (λ_ t v b off c hfb F=>(X t v b off c hfb F).resolve_right λe=>by rw [h2 t b off c v (by rw [k.op t v];exact hfb)] at e;cases e.1) (λe=>by cases e) y
    grind
 ·refine .inr ⟨rfl,E,d,cs,D,by rw [k.dn d (I d D.2)];exact b2,?_,EC k O⟩;rcases out.m d with e | e | e
  ·rw [e];exact b5
  ·exact absurd u (by rw [vW Y r B D.2 e.2];exact hid)
  ·exact absurd D (e.2.2.2.1 j p u J r)
theorem Xz (ok:C.tb.Ok C.P) {T:Array Oper} (R:T.toList=L) (v:(cK L).Nodup) (Z:∀d∈cK L,d<n) (c:pC C L mok n lv0 β0 a0 h0 w0 done g q β s a h w) {i:Nat} {o:Oper} (f:L[i]? =some o) (hid:i∉done)
  (S:∀k∈waits o,k∈g) (Y:dW L (bV L []) i o=true) {U:List Nat}
  (a9:(isVal C.tb o=true\/nD C.aY o=true)\/∀j p,j∈done->L[j]? =some p->isVal C.tb p=true->ud C.tb p=true->j∈U\/j∈na (bV L []) i)
  {K:St->Hp->Prop} (W:∀s1 m,K s1 m->G4 C (xX o s) L s1 m U) (hv:DB C L mok o s h K) (next:Act->World->Prop) (Q:Exit->Act->World->Prop)
  (hn:∀B z G y D,K B z->pC C L mok n lv0 β0 a0 h0 w0 (i::done) (i::g) (q.setIfInBounds i true) G B y z D->next y D):wpOp C.P T Q i next a w:=by
 have J:∀j∈na (bV L []) i,j∈g:=λj hj=>BP hj (· ∈g) c.tg (λo' O=>by grind);have M:i<L.length:=(List.getElem?_eq_some_iff.1 f).1;have N:=List.mem_of_getElem? f;refine Mr (l:=cK L) ok (by grind) (by rw [R];exact hv) c.rr (λt ht j p m r u F=> ?_) (λj b p d V E H=> ?_) (λd e=>⟨Z d (Ah N e),?_,Ah N e⟩) (λd hp=> ?_) next Q λB z G y D A out=> ?_
 ·have:=zn F (c.facts j p m r u).2.2.1 i o f ht;grind
 ·rw [R,pe] at E;have X:=J _ (Ef Y V);refine ⟨λj' p' m r u F=> ?_,j,p,c.ko j X,E,H⟩;have:=vW v u E F H;grind
 ·rintro ⟨j,p,m,r,u⟩;exact hid (by rw [<-vW v r f u e];exact m)
 ·have I:sJ C L done d:=⟨i,o,hid,f,hp⟩;exact ⟨I,λe=>e.2 I⟩
 ·refine hn B z G y D A ⟨by simpa using c.CL,λj=>Oc c.CL M c.CK,List.nodup_cons.2 ⟨λe=>hid (c.ko i e),c.Dt⟩,λj hj=> ?_,λj hj=> ?_,?_,?_,
   ⟨λo' O=>by rw [Bx f O];exact λk A=>c.ko k (S k A),c.uW⟩,out.rr.congr (λt=>Xx v f hid t) (λk=>Qz v f hid k) Bz (λk e=>(C7 v f hid k).1 e),λj p m r u=> ?_,
   c.yv.trans (out.yv.mono (λ_ e=>e) (λ_ e=>e) (λ_ e=>e) (λk e=>⟨e.1,(Qz v f hid k).1 e.2⟩))⟩
  ·rcases List.mem_cons.1 hj with rfl | hj
   ·simp
   ·exact List.mem_cons_of_mem _ (c.ko j hj)
  ·rcases List.mem_cons.1 hj with rfl | hj
   ·exact M
   ·exact c.uz j hj
  ·intro j p hj hjm k x;rcases List.mem_cons.1 hjm with rfl | hjm
   ·grind
   ·exact List.mem_cons_of_mem _ (c.tg j p hj hjm k x)
  ·intro j p hj hjm k x;rcases List.mem_cons.1 hjm with rfl | hjm
   ·rw [Bx f hj] at x;exact List.mem_cons_of_mem _ (c.ko k (S k x))
   ·exact List.mem_cons_of_mem _ (c.mG j p hj hjm k x)
  ·have a8:j≠i:=λe=>r (e▸List.mem_cons_self ..);exact Ts ok v c f hid J a9 out (W _ _ A) ((List.mem_cons.1 m).resolve_left a8) (λe=>r (List.mem_cons_of_mem _ e)) u
theorem BT {i:Array Oper} (t:i.toList=L) (b:pC C L mok n lv0 β0 a0 h0 w0 done g q β s a h w) {j:Nat}:
  j∈Region.ready .any i q↔j∉g/\∃o,L[j]? =some o/\∀k∈waits o,k∈g:=by
 rw [mem_ready];have m:∀j:Nat,i[j]? =L[j]?:=λj=>by grind
 constructor
 ·rintro ⟨l,o,c,d⟩;rw [m] at c;refine ⟨λe=> ?_,o,c,λk p=> ?_⟩
  ·have r:j<q.size:=by rw [b.CL];exact (List.getElem?_eq_some_iff.1 c).1
   have:=(b.CK j).2 e;grind
  ·obtain ⟨e,f,rfl,hb⟩:=UR p;exact (b.CK _).1 (d e f hb)
 ·rintro ⟨l,o,c,d⟩;refine ⟨?_,o,by grind,λe f hb=>(b.CK _).2 (d _ (UN f hb))⟩;have r:j<q.size:=by rw [b.CL];exact (List.getElem?_eq_some_iff.1 c).1
  cases e:q.getD j true with
  | false=>rfl
  | true=>refine absurd ((b.CK j).1 ?_) l;grind
theorem Pe {tb:Tb} {aY:List Nat}:∀ {r:List (Nat×List Nat)} {done:List Nat} {last:Option Nat} {c:List Nat} {d:Option Nat},fj tb aY L (bV L []) r done last=true->xC tb aY L (bV L []) r done last=(c,d)->
  (∀x,x∈c↔x∈done\/x∈r.map (·.1))/\(done.Nodup->c.Nodup)/\(∀e,last=some e->∃b,d=some b/\(b=e\/nb L b e))
 | [],done,last,c,d,_,he=>by cases he;grind
 | (i,ws)::r,done,last,c,d,h,he=>by
  obtain ⟨o,F,_,_,hid,D,J⟩:=Pd h;have key:∀f,fj tb aY L (bV L []) r (i::done) f=true->xC tb aY L (bV L []) r (i::done) f=(c,d)->(f=last\/f=some i)->
    (∀x,x∈c↔x∈done\/x∈((i,ws)::r).map (·.1))/\(done.Nodup->c.Nodup)/\(∀e,last=some e->∃b,d=some b/\(b=e\/nb L b e)):=by
   intro f y z B;obtain ⟨u,v,l⟩:=Pe y z;refine ⟨λx=> ?_,λE=>v (List.nodup_cons.2 ⟨hid,E⟩),λe m=> ?_⟩
   ·rw [u,List.mem_cons,List.map_cons,List.mem_cons];constructor
    ·rintro ((h | h) | h)
     ·exact .inr (.inl h)
     ·exact .inl h
     ·exact .inr (.inr h)
    ·rintro (h | h | h)
     ·exact .inl (.inr h)
     ·exact .inl (.inl h)
     ·exact .inr h
   ·rcases B with rfl | rfl
    ·exact l e m
    ·obtain ⟨b,t,e2⟩:=l i rfl;have p:=BP (D e m);refine ⟨b,t,.inr ?_⟩;rcases e2 with rfl | e2
     ·exact p
     ·intro X j H;exact p X j λI G k A=>j i I G (e2 X j H) k A
  simp only [xC,pe,F] at he;grind
theorem QA (ok:C.tb.Ok C.P) {m:Array Oper} (u:m.toList=L) (G:(cK L).Nodup) (R:∀d∈cK L,d<n) {K0:St->Hp->Prop} {Q:Exit->Act->World->Prop} {dE:List Nat} {lE:Option Nat}
  (a8:∀j,j<L.length->j∉dE->∀e,lE=some e->nb L j e)
  (fin:∀(fuel:Nat) (g:List Nat) (q:Array Bool) (β:Nat->Nat) (s:St) (a:Act) (h:Hp) (w:World),pC C L mok n lv0 β0 a0 h0 w0 dE g q β s a h w->K0 s h->L.length<=fuel+g.length->wpAny C.P .any m Q fuel q a w):
  ∀(fuel:Nat) (r:List (Nat×List Nat)) (done g:List Nat) (q:Array Bool) (last:Option Nat) (β:Nat->Nat) (s:St) (a:Act) (h:Hp) (w:World),
   pC C L mok n lv0 β0 a0 h0 w0 done g q β s a h w->fj C.tb C.aY L (bV L []) r done last=true->xC C.tb C.aY L (bV L []) r done last=(dE,lE)->qH C L mok r s h K0->
   L.length<=fuel+g.length->wpAny C.P .any m Q fuel q a w:=by
 intro fuel
 induction fuel with
 | zero=>
  intro r done g q last β s a h w hs hp he hv hf;have b0:∀j,j<L.length->j∈g:=λj t=>Cw hs.Dt (λx B=>hs.uz x (hs.ko x B)) (by omega) t;cases r with
  | nil=>cases he;exact fin 0 g q β s a h w hs hv hf
  | cons x r=>obtain ⟨i,ws⟩:=x;obtain ⟨o,c,_,_,hid,_⟩:=Pd hp;exact absurd (hs.ko i (b0 i (List.getElem?_eq_some_iff.1 c).1)) hid
 | succ fuel Y=>
  intro r
  induction r with
  | nil=>intro done g q last β s a h w hs hp he hv hf;cases he;exact fin (fuel+1) g q β s a h w hs hv hf
  | cons x r c2=>
   intro done g q last β s a h w hs hp he hv hf;obtain ⟨i,ws⟩:=x;obtain ⟨o,c,A,O,hid,b9,hc⟩:=Pd hp;obtain ⟨c0,_,_⟩:=Pe hp he;simp only [qH,pe,c] at hv;obtain ⟨b5,T⟩:=lg hv;have rest:fj C.tb C.aY L (bV L []) r (i::done) (some i)=true->xC C.tb C.aY L (bV L []) r (i::done) (some i)=(dE,lE)->
     ((isVal C.tb o=true\/nD C.aY o=true)\/∀j p,j∈done->L[j]? =some p->isVal C.tb p=true->ud C.tb p=true->j∈ws\/j∈na (bV L []) i)->wpAny C.P .any m Q (fuel+1) q a w:=by
    intro f M b7;have K:∀s1 b,(match (generalizing:=false) ws with
     | []=>qH C L mok r s1 b K0
     | ws=>G4 C (xX o s) L s1 b ws/\qH C L mok r s1 b K0)->G4 C (xX o s) L s1 b ws/\qH C L mok r s1 b K0:=by
     intro s1 b e;cases ws with
     | nil=>exact ⟨trivial,e⟩
     | cons x ws=>exact e
    refine ⟨λhr=> ?_,λj t=> ?_⟩
    ·exfalso;by_cases B:∃j∈done,j∉g
     ·obtain ⟨j,b,v,h3⟩:=A4 hs.uW B;have N:=List.getElem?_eq_getElem (hs.uz j b);have:j∈Region.ready .any m q:=(BT u hs).2 ⟨v,_,N,h3 _ N⟩;grind
     ·have:i∈Region.ready .any m q:=(BT u hs).2 ⟨λe=>hid (hs.ko i e),o,c,λk l=>Classical.byContradiction λe=>B ⟨k,A k l,e⟩⟩;grind
    ·obtain ⟨b,p,y,v⟩:=(BT u hs).1 t;by_cases F:j∈done
     ·exact Fw ok u G hs y F b v _ Q λI D H z=>Y ((i,ws)::r) done (j::g) _ last I s D h H z hp he (by
       simp only [qH,pe,c];omega) (by simp;omega)
     ·by_cases b2:j=i
      ·subst b2;rw [c] at y;cases y;exact Xz ok u G R hs c hid v O b7 (λs h e=>(K s h e).1) T _ Q λs' h' I D H l z=>Y r (j::done) (j::g) _ (some j) I s' D h' H z f M (K _ _ l).2 (by simp;omega)
      ·exfalso;have b3:=(List.getElem?_eq_some_iff.1 y).1;have a9:nb L j i:=by
        by_cases b4:j∈r.map (·.1)
        ·exact N7 f j b4
        ·have b1:j∉dE:=λh=>by grind
         obtain ⟨_,_,g3⟩:=Pe f M;obtain ⟨J,e1,e2⟩:=g3 i rfl;have b:=a8 j b3 b1 J e1;rcases e2 with rfl | e2
         ·exact b
         ·intro X E A;exact e2 X E λZ S k l=>E J Z S (b X E A) k l
       have:=a9 (· ∈g) hs.tg λZ S=>by grind
       exact hid (hs.ko i this)
   simp only [xC,pe,c] at he;rcases hc with ⟨V,W,f⟩ | ⟨V,W,f⟩ | ⟨U,c1,b8,f⟩
   ·obtain ⟨s',l,z⟩:=Xv ok G R hs c hid A O W V b5 T;grind
   ·grind
   ·exact rest f (by grind) (.inr λj p F t U b6=>Ny b8 j F p t U b6)
theorem QB {tb:Tb} {aY:List Nat} {rows:List (List Nat)}:∀ {r:List (Nat×List Nat)} {done:List Nat} {last:Option Nat},fj tb aY L rows r done last=true->
  (r.map (·.1)).Nodup/\∀j∈r.map (·.1),j∉done/\j<L.length
 | [],_,_,_=>⟨.nil,λj d=>(nomatch d)⟩
 | (i,ws)::r,done,last,h=>by obtain ⟨o,f,_,_,hid,_,e⟩:=Pd h;have k:∀b,fj tb aY L rows r (i::done) b=true->_:=λb c=>QB c;grind
theorem Og {aY:List Nat} {k:Nat}:∀ {L:List Oper},k∈mj aY L↔∃(i:Nat) (o:Oper),L[i]? =some o/\di aY o k
 | []=>by simp [mj]
 | o::L=>by
  have f:=Og (aY:=aY) (k:=k) (L:=L);have key:(∃(i:Nat) (p:Oper),(o::L)[i]? =some p/\di aY p k)↔(di aY o k\/∃(i:Nat) (p:Oper),L[i]? =some p/\di aY p k):=by
   constructor
   ·grind
   ·rintro (h | ⟨i,p,b,c⟩)
    ·exact ⟨0,o,by simp,h⟩
    ·exact ⟨i+1,p,by simpa using b,c⟩
  rw [key,<-f];by_cases hp:∃d,di aY o d
  ·obtain ⟨d,hp⟩:=hp;rw [RE hp,List.mem_cons];refine or_congr ⟨λe=>e▸hp,λe=> ?_⟩ .rfl;have:=e.2;rw [hp.2] at this;cases this;rfl
  ·rw [Ec λd e=>hp ⟨d,e⟩];grind
end
theorem Ha :∀(l:List Oper) (j i k:Nat),(fz l j i)[k]? =(l[k]?).map λo=>if k=j then {o with after:=⟨app o.after.toList [⟨i,.data⟩]⟩} else o
 | [],_,_,k=>by simp [fz]
 | o::r,0,i,0=>by simp [fz]
 | o::r,0,i,k+1=>by simp [fz]
 | o::r,j+1,i,0=>by simp [fz]
 | o::r,j+1,i,k+1=>by simp [fz,Ha r j i k]
theorem wN :∀(l:List Oper) (j i:Nat),(fz l j i).length=l.length
 | [],_,_=>rfl
 | _::_,0,_=>rfl
 | o::r,j+1,i=>by simp [fz,wN r j i]
theorem C4 :∀(l:List Oper) (j i:Nat),cK (fz l j i)=cK l
 | [],_,_=>rfl
 | _::_,0,_=>rfl
 | o::r,j+1,i=>by simp only [fz,cK,C4 r j i]
section
variable {P:Program} {Q:Exit->Act->World->Prop} {ops b:Array Oper} {i j:Nat}
theorem Fy (d:b.toList=fz ops.toList j i) {k:Nat} {K:Act->World->Prop} {a:Act} {w:World} (h:wpOp P b Q k K a w):wpOp P ops Q k K a w:=by
 have f:∀k:Nat,b[k]? =(ops[k]?).map λo=>if k=j then {o with after:=⟨app o.after.toList [⟨i,.data⟩]⟩} else o:=λk=>by rw [<-Array.getElem?_toList,d,Ha,Array.getElem?_toList]
 have l:∀c,yielded b c=yielded ops c:=λc=>by funext q;unfold yielded;grind
 unfold wpOp at*;rw [f] at h;cases g:ops[k]? with
 | none=>grind
 | some o=>
  rw [g] at h;simp only [Option.map_some,l] at h;by_cases e:k=j
  ·rw [if_pos e] at h;exact h
  grind
theorem Qe (g:b.toList=fz ops.toList j i) {k:Nat} {c:Array Bool}:(k∈Region.ready .any b c->k∈Region.ready .any ops c)/\(k∈Region.ready .any ops c->(k≠j\/c.getD i false=true)->k∈Region.ready .any b c):=by
 have l:∀k:Nat,b[k]? =(ops[k]?).map λo=>if k=j then {o with after:=⟨app o.after.toList [⟨i,.data⟩]⟩} else o:=λk=>by rw [<-Array.getElem?_toList,g,Ha,Array.getElem?_toList]
 simp only [mem_ready,l];constructor
 ·rintro ⟨d,n,a,f⟩;refine ⟨d,?_⟩;cases e:ops[k]? with
  | none=>grind
  | some o=>
   rw [e] at a;refine ⟨o,rfl,λx hx=>f x ?_⟩;simp at a;subst a;split
   ·rw [uf];grind
   ·exact hx
 ·rintro ⟨d,o,a,f⟩ m;refine ⟨d,_,by rw [a];rfl,λx hx hb=> ?_⟩;dsimp only at hx;by_cases e:k=j
  ·rw [if_pos e] at hx;have hx:x∈(⟨app o.after.toList [⟨i,.data⟩]⟩:Array Edge):=hx;rw [uf] at hx;simp at hx;rcases hx with hx | hx
   ·exact f x (by simpa using hx) hb
   ·subst hx;exact m.resolve_left λh=>h e
  grind
theorem Pb (f:b.toList=fz ops.toList j i):∀(fuel:Nat) (c:Array Bool) (a:Act) (w:World),c.getD i false=true->wpAny P .any b Q fuel c a w->wpAny P .any ops Q fuel c a w:=by
 have l:∀c:Array Bool,c.getD i false=true->Region.ready .any ops c=[]->Region.ready .any b c=[]:=λc d g=>by refine List.eq_nil_iff_forall_not_mem.2 λk e=> ?_;have:=(Qe f).1 e;grind
 have m:∀c:Array Bool,c.getD i false=true->Region.ready .any b c=[]->Region.ready .any ops c=[]:=λc d g=>by refine List.eq_nil_iff_forall_not_mem.2 λk e=> ?_;have:=(Qe f).2 e (.inr d);grind
 intro fuel
 induction fuel with
 | zero=>exact λc a w d h=>⟨m c d h.1,h.2⟩
 | succ fuel n=>intro c a w d h;refine ⟨λg=>h.1 (l c d g),λk e=> ?_⟩;exact wpOp_mono (λa w h=>n _ a w (getD_set_true d) h) (Fy f (h.2 k ((Qe f).2 e (.inr d))))
end
section
variable {C:Ctx} {L:List Oper} {mok:List Nat} {n:Nat} {lv0:Nat->Prop} {β0:Nat->Nat} {a0:Act} {h0:Hp} {w0:World} {done c:List Nat} {f:Array Bool} {β:Nat->Nat} {s:St} {a:Act} {h:Hp} {w:World} {i j:Nat}
theorem Mt {k:Nat} (b:k≠j):(fz L j i)[k]? =L[k]?:=by rw [Ha];grind
theorem UW (k:Nat) {o:Oper}:(fz L j i)[k]? =some o->∃p,L[k]? =some p/\o.dst=p.dst/\o.op=p.op/\o.guard=p.guard:=by rw [Ha];grind
theorem pE (k:Nat) {p:Oper} (h:L[k]? =some p):∃o,(fz L j i)[k]? =some o/\o.dst=p.dst/\o.op=p.op/\o.guard=p.guard:=by rw [Ha,h];grind
theorem Oj :∀(m:Nat) (o:Oper),rL (fz L j i) m o=rL L m o
 | 0,_=>rfl
 | m+1,o=>by
  unfold rL;cases o.guard with
  | none=>rfl
  | some g=>
   obtain ⟨q,b⟩:=g;dsimp only;rw [pe,pe];cases e:L[q]? with
   | none=>
    have:(fz L j i)[q]? =none:=by rw [Ha,e];rfl
    rw [this]
   | some p=>
    obtain ⟨d,k,l,_,r⟩:=pE (i:=i) (j:=j) q e;rw [k];dsimp only;have:∀m,rL L m d=rL L m p:=λm=>by cases m<;>simp [rL,r]
    rw [Oj m d,this,l]
theorem On {aY:List Nat} {o p:Oper} (b:o.dst=p.dst) (d:o.op=p.op) (k:Nat):di aY o k↔di aY p k:=by unfold di nD;rw [b,d]
theorem QC {b:List Oper} {e rows:List (List Nat)}:∀ {done:List Nat},xf b e L rows done=true->∀k∈done,∀o,L[k]? =some o->iM e k o b 0=false->dW L rows k o=true/\iM rows k o L 0=false
 | [],_,k,hk,_,_,_=>by cases hk
 | q::r,h,k,hk,o,d,m=>by
  unfold xf at h;obtain ⟨g,l⟩:=fT h;rcases List.mem_cons.1 hk with rfl | hk
  ·rw [pe,d] at g;grind
  ·exact QC l k hk o d m
theorem GO {rows:List (List Nat)} {i:Nat} {done:List Nat}:∀ {m:Nat},xe rows i done m=true->∀k,k<m->k∉done->k≠i->i∈na rows k
 | 0,_,k,q,_,_=>by omega
 | m+1,h,k,q,d,g=>by
  unfold xe at h;obtain ⟨b,p⟩:=fT h;by_cases e:k=m
  ·subst e;have l:has done k=false:=by
    cases e:has done k with
    | false=>rfl
    | true=>exact absurd ((uq _ _).1 e) d
   have o:Nat.beq k i=false:=by
    cases e:Nat.beq k i with
    | false=>rfl
    | true=>exact absurd (Nat.eq_of_beq_eq_true e) g
   rw [l,o] at b;exact (uq _ _).1 b
  ·exact GO p k (by omega) d g
theorem Mw (l:pC C L mok n lv0 β0 a0 h0 w0 done c f β s a h w) (P:j∉done) (Q:xf L (bV L []) (fz L j i) (bV (fz L j i) []) done=true):
  pC C (fz L j i) mok n lv0 β0 a0 h0 w0 done c f β s a h w:=by
 have m:∀q,q∈done->(fz L j i)[q]? =L[q]?:=λq r=>Mt λe=>P (e▸r);have N:mS (fz L j i) done c=mS L done c:=funext λt=>propext ⟨λh q o b k g=>h q o b k ((m q b).trans g),λh q o b k g=>h q o b k ((m q b).symm.trans g)⟩;have O:ux (fz L j i) done=ux L done:=funext λt=>propext ⟨λ⟨q,o,b,k,g⟩=>⟨q,o,b,(m q b).symm.trans k,g⟩,λ⟨q,o,b,k,g⟩=>⟨q,o,b,(m q b).trans k,g⟩⟩;have E:sJ C (fz L j i) done=sJ C L done:=funext λt=>propext ⟨λ⟨q,o,b,k,g⟩=>by
   obtain ⟨p,u,v,y,_⟩:=UW q k;exact ⟨q,p,b,u,(On v y t).1 g⟩,λ⟨q,o,b,k,g⟩=>by
   obtain ⟨p,u,v,y,_⟩:=pE (i:=i) (j:=j) q k;exact ⟨q,p,b,u,(On v y t).2 g⟩⟩
 have D:iT C (fz L j i) done c=iT C L done c:=funext λt=>propext (by
  unfold iT;rw [E];grind)
 have A:∀X:List Nat,(∀q∈X,q∈done)->xJ L (· ∈X)->xJ (fz L j i) (· ∈X):=λX K M q o z r=>M q o ((m q (K q r)).symm.trans z) r;have R:∀d:List Nat,(∀q∈d,q∈done)->xR L d->xR (fz L j i) d:=by
  intro d
  induction d with
  | nil=>intro _ _;trivial
  | cons q d T=>intro B F;exact ⟨λo z=>F.1 o ((m q (B q (List.mem_cons_self ..))).symm.trans z),T (λx S=>B x (List.mem_cons_of_mem _ S)) F.2⟩
 refine ⟨by rw [wN];exact l.CL,l.CK,l.Dt,l.ko,λq r=>by rw [wN];exact l.uz q r,A c l.ko l.tg,A done (λ_ h=>h) l.mG,R done (λ_ h=>h) l.uW,?_,λq o b k g=> ?_,?_⟩
 ·rw [N,D,O,E];exact l.rr
 ·have J:=(m q b).symm.trans g;obtain ⟨f1,f2,f3,G⟩:=l.facts q o b k J;obtain ⟨H,I⟩:=QC Q q b o g f3;refine ⟨?_,H,I,G⟩;unfold pB at*;rw [wN,Oj];exact f1
 ·rw [C4,D];exact l.yv
end
theorem UZ {l m:List Nat} (b:m.Nodup) (h:l.Nodup) (c:∀x∈l,x∈m):l.length<=m.length:=by
 induction l generalizing m with
 | nil=>simp
 | cons a l i=>obtain ⟨f,g⟩:=List.nodup_cons.1 h;have j:=c a (List.mem_cons_self ..);have:=i (m:=m.erase a) (b.erase a) g λx d=>(b.mem_erase_iff).2 ⟨λe=>f (e▸d),c x (List.mem_cons_of_mem _ d)⟩;grind
theorem Mx {C:Ctx} {L:List Oper} {u:List Nat} {n:Nat} {r:Nat->Prop} {z:Nat->Nat} {a0:Act} {l:Hp} {v:World} {K:St->Hp->Prop} {Q:Exit->Act->World->Prop} {done ls:List Nat} {F:Array Bool} {x:Nat->Nat} {s:St} {a:Act} {h:Hp} {w:World}
  (q:pC C L u n r z a0 l v done ls F x s a h w) (D:∀j,j<L.length->j∈done) (o:∀j∈done,j∈ls) (E:K s h)
  (B:∀g f y d i,K g f->RR n (λ_=>True) (λ_=>True) (λ_=>True) (λ_=>False) y g d f i->im (cK L) u r z a0 l v (dh g) y d f i->Q .normal d i):Q .normal a w:=by
 have A:∀k,¬sJ C L done k:=λk ⟨j,p,b,c,_⟩=>b (D j (List.getElem?_eq_some_iff.1 c).1);have m:∀k,True↔iT C L done ls k:=λk=>⟨λ_=>⟨λj p b c _=>absurd (o j b) c,A k⟩,λ_=>trivial⟩;exact B s h x a w E (q.rr.congr (λt=>⟨λ_ j p b c _=>absurd (o j b) c,λ_=>trivial⟩) m (λ_ _=>trivial) (λ_ e=>e.elim)) (q.yv.mono (λ_ e=>e) (λ_ e=>e) (λ_ e=>e) (λk e=>⟨e.1,(m k).1 trivial⟩))
theorem Tt {C:Ctx} (ok:C.tb.Ok C.P) {mok:List Nat} {n:Nat} {lv0:Nat->Prop} {β0:Nat->Nat} {a0:Act} {h0:Hp} {w0:World} {K:St->Hp->Prop} {Q:Exit->Act->World->Prop}:
  ∀(A:j3) (c:Array Oper) (done:List Nat) (last:Option Nat),(cK c.toList).Nodup->(∀d∈cK c.toList,d<n)->pV C.tb C.aY A c.toList done last=true->done.Nodup->
  (∀s' S J D G,K s' S->RR n (λ_=>True) (λ_=>True) (λ_=>True) (λ_=>False) J s' D S G->im (cK c.toList) mok lv0 β0 a0 h0 w0 (dh s') J D S G->Q .normal D G)->
  ∀(fuel:Nat) (l:List Nat) (g:Array Bool) (v:Nat->Nat) (s:St) (a:Act) (h:Hp) (w:World),pC C c.toList mok n lv0 β0 a0 h0 w0 done l g v s a h w->yr C mok K A c.toList s h->c.toList.length<=fuel+l.length->
   wpAny C.P .any c Q fuel g a w:=by
 intro A
 induction A with
 | rg R=>
  intro c done last hnd F hp hdn hQ fuel l g v s a h w b hv t;unfold pV at hp;obtain ⟨b4,hp⟩:=fT hp;have b4:=Nat.eq_of_beq_eq_true b4;have H:∀dE lE,xC C.tb C.aY c.toList (bV c.toList []) R done last=(dE,lE)->∀j,j<c.toList.length->j∈dE:=λdE lE B j u=>by
   obtain ⟨Z,M,_⟩:=Pe hp B;have a8:=QB hp;refine Cw (M hdn) (λx r=> ?_) ?_ u
   ·rcases (Z x).1 r with h1 | h1
    ·exact b.uz x h1
    grind
   ·have h1:(done++R.map (·.1)).Nodup:=List.nodup_append.2 ⟨hdn,a8.1,λx r y hy e=>(a8.2 y hy).1 (e▸r)⟩;have z:=UZ (M hdn) h1 λx r=>by rw [List.mem_append] at r;exact (Z x).2 r
    grind
  cases B:xC C.tb C.aY c.toList (bV c.toList []) R done last with
  | mk dE lE=>
   have H:=H dE lE B;refine QA (mok:=mok) (K0:=K) ok rfl hnd F (dE:=dE) (lE:=lE) (λj u O=>absurd (H j u) O) ?_ fuel R done l g last v s a h w b hp B hv t;clear b hv t;intro fuel
   induction fuel with
   | zero=>intro l g v s a h w b hv t;have hl:∀j,j<c.toList.length->j∈l:=λj u=>Cw b.Dt (λx r=>b.uz x (b.ko x r)) (by omega) u;refine ⟨List.eq_nil_iff_forall_not_mem.2 λk m=> ?_,Mx b H (λj u=>hl j (b.uz j u)) hv hQ⟩;obtain ⟨h1,o,U,_⟩:=(BT rfl b).1 m;grind
   | succ fuel Y=>
    intro l g v s a h w b hv t;refine ⟨λhr=>Mx b H (λj u=>Classical.byContradiction λe=> ?_) hv hQ,λj u=> ?_⟩
    ·obtain ⟨i,h1,z,T⟩:=A4 b.uW ⟨j,u,e⟩;have L:=List.getElem?_eq_getElem (b.uz i h1);have:i∈Region.ready .any c g:=(BT rfl b).2 ⟨z,_,L,T _ L⟩;grind
    ·obtain ⟨h1,o,U,z⟩:=(BT rfl b).1 u;exact Fw ok rfl hnd b U (H j (List.getElem?_eq_some_iff.1 U).1) h1 z _ Q λJ D G X=>Y (j::l) _ J s D h G X hv (by grind)
 | r2 pre i j x y c9 d0=>
  intro c done last hnd F hp hdn hQ fuel l g v s a h w b hv t;unfold pV at hp;obtain ⟨b5,hp⟩:=fT hp;cases B:xC C.tb C.aY c.toList (bV c.toList []) pre done last with
  | mk dE lE=>
   rw [B] at hp;dsimp only at hp;obtain ⟨f,hp⟩:=fT hp;obtain ⟨c6,c7⟩:=fT hp;obtain ⟨Z,M,_⟩:=Pe b5 B;unfold NU at f;cases I:Nat.beq i j with
   | true=>grind
   | false=>
    rw [I] at f;have I:i≠j:=λe=>by rw [e] at I;simp at I
    simp only [cond_false,pe] at f;cases V:c.toList[i]? with
    | none=>grind
    | some o=>
     cases c5:c.toList[j]? with
     | none=>grind
     | some p=>
      rw [V,c5] at f;dsimp only at f;cases E:has dE i with
      | true=>grind
      | false=>
       cases N:has dE j with
       | true=>grind
       | false=>
        rw [E,N] at f;simp only [cond_false] at f;have E:=BR E;have N:=BR N;obtain ⟨c8,f⟩:=fT f;obtain ⟨d2,f⟩:=fT f;obtain ⟨b3,f⟩:=fT f;obtain ⟨b7,f⟩:=fT f;obtain ⟨d1,f⟩:=fT f;obtain ⟨c0,c1⟩:=fT f;refine QA (mok:=mok) ok rfl hnd F (dE:=dE) (lE:=lE) (λk m O e c3=> ?_) ?_ fuel pre done l g last v s a h w b b5 B hv t
        ·subst c3;by_cases b0:k=e
         ·subst b0;exact absurd ((uq _ _).1 (fT b3).1) O
         ·exact BP (GO (fT b3).2 k m O b0)
        ·clear b hv t;have b9:i<c.toList.length:=(List.getElem?_eq_some_iff.1 V).1;intro fuel
         induction fuel with
         | zero=>intro l g v s a h w b hv t;exact absurd (b.ko i (Cw b.Dt (λx r=>b.uz x (b.ko x r)) (by omega) b9)) E
         | succ fuel Y=>
          intro l g v s a h w b hv t;have s1:=Mw b N c0;have s2:=Mw b E c1;have kx:=c9 (fz c.toList j i).toArray dE lE (by simpa [C4] using hnd) (by simpa [C4] using F) c6 (M hdn) (by simpa [C4] using hQ) (fuel+1) l g v s a h w s1 hv.1 (by simpa [wN] using t);have ky:=d0 (fz c.toList i j).toArray dE lE (by simpa [C4] using hnd) (by simpa [C4] using F) c7 (M hdn) (by simpa [C4] using hQ) (fuel+1) l g v s a h w s2 hv.2 (by simpa [wN] using t);have b6:∀ {k:Nat},k∈Region.ready .any c g->(g.setIfInBounds k true).getD k false=true:=λ{k} m=>by
           have h0:=(mem_ready.1 m).1;have F:k<g.size:=by grind
           simp [F]
          refine ⟨λhr=> ?_,λk m=> ?_⟩
          ·exfalso;by_cases r:∃j∈dE,j∉l
           ·obtain ⟨q,h1,z,T⟩:=A4 b.uW r;have L:=List.getElem?_eq_getElem (b.uz q h1);have:q∈Region.ready .any c g:=(BT rfl b).2 ⟨z,_,L,T _ L⟩;grind
           ·have:i∈Region.ready .any c g:=(BT rfl b).2 ⟨λe=>E (b.ko i e),o,V,λk m=>Classical.byContradiction λe=>r ⟨k,HI c8 k m,e⟩⟩;grind
          ·obtain ⟨h1,q,W,z⟩:=(BT rfl b).1 m;by_cases a9:k∈dE
           ·exact Fw ok rfl hnd b W a9 h1 z _ Q λJ D G X=>Y (k::l) _ J s D h G X hv (by grind)
           ·by_cases b1:k=i
            ·subst b1;exact wpOp_mono (λa w h=>Pb rfl _ _ a w (b6 m) h) (Fy rfl (kx.2 k ((Qe rfl).2 m (.inl I))))
            ·by_cases b2:k=j
             ·subst b2;exact wpOp_mono (λa w h=>Pb rfl _ _ a w (b6 m) h) (Fy rfl (ky.2 k ((Qe rfl).2 m (.inl λe=>I e.symm))))
             ·exfalso;have c2:=(List.getElem?_eq_some_iff.1 W).1;have b8:=BP (GO b7 k c2 a9 b1) (· ∈l) s1.tg λo' c4=>by rw [Mt b2,W] at c4;grind
              exact E (b.ko i b8)
 | _=>intro c done last _ _ hp;cases hp
theorem U2 {C:Ctx} (ok:C.tb.Ok C.P) {b:Array Oper} {mok:List Nat} {n:Nat} {A:j3} {m:Nat->Nat} {s:St} {a:Act} {h:Hp} {w:World} {K:St->Hp->Prop} {Q:Exit->Act->World->Prop} {id:Nat}
  (q:nodup (cK b.toList)=true) (hp:pV C.tb C.aY A b.toList [] none=true) (F:∀d∈cK b.toList,d<n) (z:Rel n m s a h w) (hv:yr C mok K A b.toList (s.mH (mj C.aY b.toList)) h)
  (D:∀g f p c j,K g f->Rel n p g.clean c f j->im (cK b.toList) mok (dh s) m a h w (dh g) p c f j->Q .normal c j):(Code.region id b true).wp C.P Q a w:=by
 have G:=Bj q;refine wp_region_any ok.mixed ?_;have B:Step h h w {w with drawn:=w.drawn+1}:=⟨z.sub,Nat.le_refl _,λ_ _ e=>⟨rfl,e⟩,rfl,rfl,rfl⟩;have I:=(z.step B).start (mj C.aY b.toList);have x:∀k,sJ C b.toList [] k↔k∈mj C.aY b.toList:=λk=>by rw [Og];exact ⟨λ⟨i,o,_,r,u⟩=>⟨i,o,r,u⟩,λ⟨i,o,r,u⟩=>⟨i,o,by simp,r,u⟩⟩
 have v:∀k,iT C b.toList [] [] k↔k∉mj C.aY b.toList:=λk=>by rw [<-x];exact ⟨λe=>e.2,λe=>⟨λi o q=>absurd q List.not_mem_nil,e⟩⟩
 refine Tt (mok:=mok) (n:=n) (lv0:=dh s) (β0:=m) (a0:=a) (h0:=h) (w0:=w) (K:=K) ok A b [] none G F hp .nil (λg f p c j E H J=>D g f p c j E H.clean J) b.size [] _ m (s.mH (mj C.aY b.toList)) a h _
  ⟨by simp,λi=> ?_,.nil,λi e=>absurd e List.not_mem_nil,λi e=>absurd e List.not_mem_nil,λi o _ e=>absurd e List.not_mem_nil,λi o _ e=>absurd e List.not_mem_nil,trivial,?_,λi o e=>absurd e List.not_mem_nil,?_⟩ hv (by simp)
 ·by_cases y:i<b.size
  ·simp [y]
  ·simp [y]
 ·exact I.congr (λt=>⟨λ_=>trivial,λ_ i o e=>absurd e List.not_mem_nil⟩) v (λ_ e=>e.elim) (λk e=>(x k).1 e)
 ·exact (im.step (lv:=dh s) B).mono (λ_ e=>e) (λ_ e=>e) (λ_ e=>e) (λk e=>O5 (l:=mj C.aY b.toList) ⟨e.1,(v k).1 e.2⟩)
def qE :Ex->Exit
 | .gZ=>.normal
 | .ret=>.ret
 | .ext i=>.exit i
 | .lG i=>.goto i
theorem KC {p:Nat->Prop}:(∃n,p n)->∃n,p n/\∀m,p m->n<=m:=by
 rintro ⟨n,a⟩
 induction n using Nat.strongRecOn with
 | _ n b=>grind
theorem aaQ {P:Program} {c:Code} {Q:Exit->Act->World->Prop} {a:Act} {w:World} (J:Nat->Act->World->Prop) (g:∃n,J n a w)
  (round:∀n a w,J n a w->c.wp P (Exit.then (λd f=>∃m,m<n/\J m d f) Q) a w):(Code.loop c).wp P Q a w:=by
 classical
 let b:Act->World->Nat:=λa w=>if h:∃n,J n a w then Classical.choose (KC h) else 0
 have j:∀a w,(h:∃n,J n a w)->J (b a w) a w/\∀m,J m a w->b a w<=m:=λa w h=>by have:=Classical.choose_spec (KC h);simp only [b,dif_pos h];exact this
 refine wp_loop (λa w=>∃n,J n a w) b g λa w i=> ?_;refine wp_mono (round (b a w) a w (j a w i).1) λe d f k=> ?_;grind
section
variable {n:Nat} {β:Nat->Nat} {s:St} {a:Act} {h:Hp} {w:World}
structure Hl (s s' s2:St) (a':Act) (n:Nat) (l mm:List Nat):Prop where
 f:∀t v c,s2.f t=some (v,c)->c=[]/\((s.f t=some (v,[])/\t∉l/\∀k o,(v=.box k o\/v=.eH k o)->k∉l)\/(∃x,v=.v x/\a'.eval (.tmp t)=x/\t<n))
 m:∀k cs,s2.m k=some cs->(s.m k=some cs/\k∉mm)\/s'.m k=some cs
theorem abY {l B:List Nat} {u:Nat->Nat} {G s2:St} {z:Act} {A:Hp} {C:World} (r:Rel n β s a h w) (b:im l B (dh s) β a h w (dh G) u z A C) (F:Rel n u G z A C) (j:Hl s G s2 z n l B):
  Rel n u s2 z A C/\im l B (dh s) β a h w (dh s2) u z A C:=by
 have E:∀k g,s.m k=some g->k∉B->u k=β k/\β k<w.heap.size/\A (β k)=none/\∃H,C.heap[β k]? =some (.cells g.toArray H (0,0)):=by intro k g e O;obtain ⟨h1,H,i⟩:=r.box k g e trivial;have P:∀d∈B,dh s d->β d≠β k:=λd R S y=>O (by rw [r.inj k d (by simp [e]) S.1 trivial trivial y.symm];exact R);refine ⟨b.beta k (.inr O),iH i,b.zW _ (iH i) h1 P,H,?_⟩;rw [b.bO _ (iH i) h1 P];exact i
 have Q:∀k,G.m k≠none->(s.m k≠none/\u k=β k)\/w.heap.size<=u k:=λk e=>(b.fresh k ⟨e,trivial⟩).imp (λe=>⟨e.1.1,e.2⟩) id;refine ⟨⟨F.sz,F.sub,λt v c e=> ?_,λt v c e p hp=> ?_,λt v c e _ _=> ?_,λt v c e _ N=> ?_,λk g e _=> ?_,λk d e y _ _ q=> ?_,λ_ e=>e.elim,λ_ e=>e.elim⟩,?_⟩
 ·obtain ⟨_,h1 | ⟨x,_,_,h1⟩⟩:=j.f t v c e
  ·exact r.lt t v [] h1.1
  ·exact h1
 ·rw [(j.f t v c e).1] at hp;cases hp
 ·refine ⟨?_,λ_ _ _=>trivial⟩;obtain ⟨_,⟨h1,i,M⟩ | ⟨x,rfl,h1,_⟩⟩:=j.f t v c e
  ·rw [b.tmp t i,(r.cur t v [] h1 trivial (bY _)).1];cases v with
   | v x=>rfl
   | box k o=>simp only [LVal,b.beta k (.inl (M k o (.inl rfl)))]
   | eH k o=>simp only [LVal,b.beta k (.inl (M k o (.inr rfl)))]
  ·exact h1
 ·rw [(j.f t v c e).1] at N;exact absurd (bY _) N
 ·rcases j.m k g e with ⟨h1,i⟩ | h1
  ·grind
  ·exact F.box k g h1 trivial
 ·obtain ⟨g,e⟩:=Option.ne_none_iff_exists'.1 e;obtain ⟨D,y⟩:=Option.ne_none_iff_exists'.1 y;rcases j.m k g e with ⟨h1,i⟩ | h1
  ·obtain ⟨L,T,_⟩:=E k g h1 i;rcases j.m d D y with ⟨h1',K⟩ | h1'
   ·obtain ⟨I,_⟩:=E d D h1' K;rw [L,I] at q;exact r.inj k d (by simp [h1]) (by simp [h1']) trivial trivial q
   ·rcases Q d (by simp [h1']) with ⟨e3,J⟩ | e3
    ·rw [L,J] at q;exact r.inj k d (by simp [h1]) e3 trivial trivial q
    omega
  ·rcases j.m d D y with ⟨h1',K⟩ | h1'
   ·obtain ⟨I,U,_⟩:=E d D h1' K;rcases Q k (by simp [h1]) with ⟨e3,J⟩ | e3
    ·rw [I,J] at q;exact r.inj k d e3 (by simp [h1']) trivial trivial q
    omega
   ·exact F.inj k d (by simp [h1]) (by simp [h1']) trivial trivial q
 ·refine ⟨b.tmp,b.beta,b.size,b.zW,b.bO,λk e=> ?_,b.os,b.tape,b.output,b.defers⟩;obtain ⟨g,e⟩:=Option.ne_none_iff_exists'.1 e.1;rcases j.m k g e with ⟨h1,i⟩ | h1
  ·exact .inl ⟨⟨by simp [h1],trivial⟩,(E k g h1 i).1⟩
  ·exact b.fresh k ⟨by simp [h1],trivial⟩
def shO :Option Ty->Shape
 | some e=>e.sh
 | none=>v7
theorem My (tb:Tb) (t:Nat):eg tb t=shO (tb.ty t):=by unfold eg shO;grind
theorem Z5 {P:Program} {tb:Tb} (ok:tb.Ok P) {t:Nat} (c:Ct tb t=false):∀(x:(eg tb t).T) (b:Array Value),(eg tb t).enc x≠ .agg b:=by
 rw [My];unfold Ct at c;cases d:tb.ty t with
 | none=>intro x b e;cases e
 | some e=>rw [d] at c;intro x b;exact ((ok.leaf t e d c).2 x).2 b
theorem Ca {tb:Tb} {t:Nat} {v:Value} {K:(eg tb t).T->Prop} (h:wo tb t v K):∃x,(eg tb t).enc x=v/\K x:=by
 unfold wo at h;cases b:CI tb t with
 | true=>rw [b] at h;exact h
 | false=>
  rw [b] at h;simp only [cond_false] at h;split at h
  ·rename_i x c;exact ⟨x,(eg tb t).ok v x c,h⟩
  ·exact h.elim
theorem KD {P:Program} {tb:Tb} (ok:tb.Ok P) {t:Nat} {c:List Value} {v:Value} {x:(eg tb t).T} (b:BY tb t c=some v) (hv:(eg tb t).enc x=v):bA ((eg tb t).enc x)=c:=by
 rw [hv];unfold BY at b;cases d:Ct tb t with
 | true=>rw [d] at b;cases b;rfl
 | false=>
  rw [d] at b;simp only [cond_false] at b;split at b
  ·cases b;have f:∀c,v≠ .agg c:=λc e=>Z5 ok d x c (hv.trans e);cases v<;>first | rfl | grind
  ·cases b
theorem Oq {P:Program} {tb:Tb} (ok:tb.Ok P) {l B:List Nat} {G:Nat->Nat} {o s2:St} {p:Act} {D:Hp} {F:World} (z:Rel n G o p D F) {j:J} {K:(eg tb j.t).T->Prop} (b:Cu tb o j K)
  (g:Hl s o s2 p n l B):∃x,K x/\Hl s o (zA tb j x s2) p n l B:=by
 unfold Cu at b;cases d:j.Sh with
 | true=>
  rw [d] at b;simp only [cond_true] at b;split at b
  ·rename_i r H;split at b
   ·rename_i v hv
    ·obtain ⟨x,q,b⟩:=Ca b;refine ⟨x,b,?_⟩;have E:=KD ok hv q;unfold zA;rw [d];simp only [cond_true,E];refine ⟨g.f,λk C e=> ?_⟩;by_cases y:k=j.i
     ·subst y;rw [Bh] at e;grind
     ·rw [zK _ _ y] at e;exact g.m k C e
   ·exact b.elim
  ·exact b.elim
 | false=>
  rw [d] at b;simp only [cond_false] at b;split at b
  ·rename_i v hv
   ·obtain ⟨x,q,b⟩:=Ca b;refine ⟨x,b,?_⟩;unfold zA;rw [d];simp only [cond_false];rw [q];refine ⟨λt u c e=> ?_,λk r e=>g.m k r (by rwa [oi] at e)⟩;by_cases A:t=j.i
    ·subst A;rw [G8] at e;cases e;exact ⟨rfl,.inr ⟨v,rfl,(z.cur j.i _ [] hv trivial (bY _)).1,z.lt _ _ _ hv⟩⟩
    ·rw [vi _ _ _ A] at e;exact g.f t u c e
  ·exact b.elim
theorem KE {P:Program} {tb:Tb} (ok:tb.Ok P) {l e:List Nat} {q:Nat->Nat} {s':St} {a':Act} {f:Hp} {p:World} (d:Rel n q s' a' f p):∀ {js:List J} {s2:St} {K:qx tb js->Prop},pI tb js s' K->
  Hl s s' s2 a' n l e->∃x,K x/\Hl s s' (qb tb js x s2) a' n l e
 | [],s2,K,b,c=>⟨(),b,c⟩
 | [j],s2,K,b,c=>Oq ok d b c
 | j::o::js,s2,K,b,c=>by obtain ⟨x,k,g⟩:=Oq ok d b c;obtain ⟨y,m,i⟩:=KE ok d (js:=o::js) k g;exact ⟨(x,y),m,i⟩
theorem Tu (m:Rel n β s a h w) {l f:List Nat} {s':St} {a':Act}:Hl s s' (s.forget l f) a' n l f:=by
 refine ⟨λt v c e=> ?_,λk o e=> ?_⟩
 ·simp only [St.forget] at e;cases d:has l t with
  | true=>simp [d] at e
  | false=>
   simp only [d,cond_false] at e;obtain ⟨g,i⟩:=n8 e;have j:c=[]:=by
    cases c with
    | nil=>rfl
    | cons p c=>exact (m.chain t v _ g p (List.mem_cons_self ..)).elim
   subst j;exact ⟨rfl,.inl ⟨g,BR d,i⟩⟩
 ·simp only [St.forget] at e;cases b:has f k with
  | true=>simp [b] at e
  | false=>simp only [b,cond_false] at e;exact .inl ⟨e,BR b⟩
theorem yW {P:Program} {tb:Tb} (ok:tb.Ok P) {l mm:List Nat} {e:Nat->Nat} {s':St} {a':Act} {b:Hp} {d:World} (f:Rel n β s a h w) (k:im l mm (dh s) β a h w (dh s') e a' b d) (g:Rel n e s' a' b d)
  {c:List J} {K:qx tb c->Prop} (i:pI tb c s' K):
  ∃x,K x/\Rel n e (qb tb c x (s.forget l mm)) a' b d/\im l mm (dh s) β a h w (dh (qb tb c x (s.forget l mm))) e a' b d:=by
 obtain ⟨x,p,j⟩:=KE ok g i (Tu (s':=s') (a':=a') f);obtain ⟨m,o⟩:=abY f k g j;grind
end
theorem Z7 {n:Nat} {Q:Nat->Nat} {s:St} {a:Act} {h:Hp} {w:World} {l L:List Nat} {r:Nat->Nat} {u:St} {C:Act} {z:Hp} {E:World} {k:Nat} {K:St->Hp->Prop} (hk:k∈L) (g:im l L (dh s) Q a h w (dh u) r C z E) (d:Rel n r u C z E) (hp:DD k u z K):
  ∃s2 q,K s2 q/\Rel n r s2 C q E/\im l L (dh s) Q a h w (dh s2) r C q E:=by
 unfold DD at hp;split at hp
 ·rename_i k' off F M I;obtain ⟨A,O⟩:=lg hp;obtain ⟨q,a8⟩:=lg O;clear hp O;have A:=Nat.eq_of_beq_eq_true A;have q:=Nat.eq_of_beq_eq_true q;subst A q;obtain ⟨X,G,hw⟩:=d.box k F I trivial;have J:∀x,(z.set (r k) (.cells F.toArray G (0,0))) x=if x=r k then some (.cells F.toArray G (0,0)) else z x:=λx=>rfl
  have W:∀i y,cond (Nat.beq i k) none (u.m i)=some y->i≠k/\u.m i=some y:=λi y e=>by grind
  have B:∀t v c,cond (Nat.beq t k) (some (LV.v (.pointer (some ⟨r k,0,none⟩)),([]:bp))) (u.f t)=some (v,c)->(t=k/\v=LV.v (.pointer (some ⟨r k,0,none⟩))/\c=[])\/u.f t=some (v,c):=λt v c e=>by
   by_cases H:t=k
   ·grind
   ·rw [qL H] at e;exact .inr e
  refine ⟨_,_,a8 (r k) G X,⟨d.sz,λb o e=> ?_,λt v c e=> ?_,λt v c e p P=> ?_,λt v c e _ N=> ?_,λt v c e _ N=> ?_,λi y e _=> ?_,λi j e D _ _ U=> ?_,λ_ e=>e.elim,λ_ e=>e.elim⟩,?_⟩
  ·rw [J] at e;split at e
   ·grind
   ·exact d.sub b o e
  ·rcases B t v c e with ⟨rfl,_,_⟩ | e
   ·exact d.lt t _ _ M
   ·exact d.lt t v c e
  ·rcases B t v c e with ⟨rfl,_,rfl⟩ | e
   ·cases P
   ·exact d.chain t v c e p P
  ·have V:holds u c:=by
    have:c=[]:=by
     rcases B t v c e with ⟨_,_,h⟩ | e
     ·exact h
     ·cases c with
      | nil=>rfl
      | cons p c=>exact (d.chain t v _ e p (List.mem_cons_self ..)).elim
    subst this;exact bY _
   rcases B t v c e with ⟨rfl,rfl,rfl⟩ | e
   ·refine ⟨?_,λ_ _ _=>trivial⟩;exact (d.cur t _ _ M trivial (bY _)).1
   ·exact ⟨(d.cur t v c e trivial V).1,λ_ _ _=>trivial⟩
  ·have:c=[]:=by
    rcases B t v c e with ⟨_,_,h⟩ | e
    ·exact h
    ·cases c with
     | nil=>rfl
     | cons p c=>exact (d.chain t v _ e p (List.mem_cons_self ..)).elim
   subst this;exact absurd (bY _) N
  ·obtain ⟨A,q⟩:=W i y e;obtain ⟨S,R,T⟩:=d.box i y q trivial;refine ⟨?_,R,T⟩;rw [J,if_neg]
   ·exact S
   ·intro D;exact A (d.inj i k (by simp [q]) (by simp [I]) trivial trivial D)
  ·obtain ⟨ci,e⟩:=Option.ne_none_iff_exists'.1 e;obtain ⟨cj,D⟩:=Option.ne_none_iff_exists'.1 D;exact d.inj i j (by grind) (by grind) trivial trivial U
  ·refine ⟨g.tmp,g.beta,g.size,λb hb Y Z=> ?_,g.bO,λi H=> ?_,g.os,g.tape,g.output,g.defers⟩
   ·rw [J,if_neg]
    ·exact g.zW b hb Y Z
    ·rintro rfl;rcases g.fresh k ⟨by simp [I],trivial⟩ with ⟨e1,e2⟩ | e1
     ·grind
     ·omega
   ·obtain ⟨ci,e⟩:=Option.ne_none_iff_exists'.1 H.1;exact g.fresh i ⟨by grind,trivial⟩
 ·exact hp.elim
theorem jT {x y:List Nat} {d:Nat}:d∈app x y↔d∈x\/d∈y:=by rw [uf,List.mem_append]
theorem rn {a:Type} {c:Bool} {x:Option a} {y:a} (e:cond c x none=some y):c=true/\x=some y:=by grind
theorem Ou {l:Nat}:∀ {c:Code},mK c l=true->findLabel c l=none:=by
 intro c
 induction c with
 | seq a b g h=>
  intro e;simp only [mK] at e;cases d:mK a l with
  | false=>grind
  | true=>rw [d] at e;simp only [findLabel,g d];exact h e
 | label i=>
  intro e;simp only [mK] at e;by_cases f:i=l
  ·subst f;simp at e
  ·simp [findLabel,f]
 | _=>intro _;rfl
theorem Ow {x y:Code} {l:Nat} (b:∀a,x≠ .label a):sO (.seq x y) l=cond (mK x l) (sO y l) none:=by cases x<;>first | rfl | grind
theorem XA {C:Ctx} {x y:Code} {l:Nat} {A:j3} {a:List Nat} {s:St} {E:Env} {h:Hp} (c:∀d,x≠ .label d):
  liftM C (.seq x y) (.fr l) A a s E h=liftM C x .full A.fst a s (E.gZ λe b=>liftM C y (.fr l) A.snd a e E b) h:=by
 cases x<;>first | rfl | exact absurd rfl (c _)
theorem XC {C:Ctx} {x y:Code} {l:Nat} {A:j3} {b:List Nat} {s:St} {E:Env} {h:Hp} (f:∀g,x≠ .label g):
  liftM C (.seq x y) (.pr l) A b s E h=match (generalizing:=false) A with
   | .gj _ d e z _=>cond (lN e b) (liftM C x .full .tt b s (E.nn.gZ λc a=>
     py (λ(R:qx C.tb d->Hp->Prop)=>liftM C y (.fr l) z e c (E.QE l λc a=>pI C.tb d c λx=>R x a) a)
      (λx a=>liftM C y (.rs l) A.snd b (qb C.tb d x (c.forget (fc y) e)) E.nn a)) h) False
   | _=>liftM C x .full A.fst b s (E.nn.gZ λc a=>liftM C y (.pr l) A.snd b c E a) h:=by
 cases x<;>first | rfl | exact absurd rfl (f _)
theorem LZ {l:Nat} {Q:Exit->Act->World->Prop} {J:Act->World->Prop} {e:Exit} {a:Act} {w:World} (b:Exit.noGoto Q e a w):Exit.jump l J Q e a w:=by cases e<;>first | exact b | exact b.elim
theorem XE {C:Ctx} {x y:Code} {l:Nat} {A:j3} {a:List Nat} {s:St} {E:Env} {h:Hp} (c:∀b,x≠ .label b):
  liftM C (.seq x y) (.rs l) A a s E h=liftM C y (.rs l) A a s E h:=by
 cases x<;>first | rfl | grind
theorem adB {l:Nat} {r:Code}:∀ {c:Code},sO c l=some r->findLabel c l=some (.seq .skip r):=by
 intro c
 induction c with
 | seq x y g f=>
  intro e;by_cases d:∃a,x=.label a
  ·obtain ⟨a,rfl⟩:=d;obtain ⟨b,e⟩:=rn e;obtain rfl:y=r:=Option.some.inj e;obtain rfl:=Nat.eq_of_beq_eq_true b;simp [findLabel]
  ·rw [Ow (λa e=>d ⟨a,e⟩)] at e;obtain ⟨b,e⟩:=rn e;simp only [findLabel,Ou b];exact f e
 | _=>intro e;simp [sO] at e
theorem Nz {x y:Code} {l:Nat} (b:∀a,x≠ .label a):pk (.seq x y) l=cond (mK x l) (pk y l) none:=by cases x<;>first | rfl | grind
theorem XF {C:Ctx} {x y:Code} {l:Nat} {A:j3} {a:List Nat} {s:St} {E:Env} {h:Hp} (c:∀b,x≠ .label b):
  liftM C (.seq x y) (.rz l) A a s E h=liftM C y (.rz l) A a s E h:=by
 cases x<;>first | rfl | grind
theorem acN {l:Nat} {r:Code}:∀ {c:Code},pk c l=some r->findLabel c l=some (.seq .skip r):=by
 intro c
 induction c with
 | seq x y i f=>
  intro e;by_cases d:∃a,x=.label a
  ·obtain ⟨a,rfl⟩:=d;by_cases b:a=l
   ·subst b;simp only [pk,Nat.beq_refl,cond_true] at e;obtain rfl:y=r:=Option.some.inj e;simp [findLabel]
   ·simp only [pk,qL b,cond_false] at e;have hb:¬((a==l)=true):=λh=>b (by simpa using h);simp only [findLabel,if_neg hb];exact f e
  ·rw [Nz (λa e=>d ⟨a,e⟩)] at e;obtain ⟨g,e⟩:=rn e;simp only [findLabel,Ou g];exact f e
 | _=>intro e;simp [pk] at e
def xO (P:Program) (x:Code) (Q:Exit->Act->World->Prop) (c:Code) (a:Act) (w:World):Prop:=
 ∀b k f,∃e d g,Q e d g/\Arrives P (lone (b.at a (.code c:: .inScope x::k)) f w) b k f e d g
def xQ (P:Program) (x:Code) (Q:Exit->Act->World->Prop):Exit->Act->World->Prop
 | .goto l,a,w=>∃r,findLabel x l=some r/\xO P x Q r a w
 | e,a,w=>Q e a w
theorem KF {P:Program} {x c:Code} {Q:Exit->Act->World->Prop} {a:Act} {w:World} (h:c.wp P (xQ P x Q) a w):xO P x Q c a w:=by
 intro b k j;obtain ⟨e,g,i,f,d⟩:=h b (.inScope x::k) j;cases e with
 | normal=>exact ⟨.normal,g,i,f,Steps.trans d (.one step_inScope)⟩
 | exit id=>exact ⟨.exit id,g,i,f,λv s=>d v (by simp [exitTo,s])⟩
 | goto l=>
  obtain ⟨r,p,u⟩:=f;have q:gotoIn l (.inScope x::k)=some (.code r:: .inScope x::k):=by simp [gotoIn,p]
  obtain ⟨n,m,y,t,o⟩:=u b k j;exact ⟨n,m,y,t,.of_steps (d _ q) o⟩
 | ret=>exact ⟨_,g,i,f,d⟩
 | panic ch=>exact ⟨_,g,i,f,d⟩
 | outgrown=>exact ⟨_,g,i,f,d⟩
theorem acO {P:Program} {x:Code} {Q:Exit->Act->World->Prop} {a:Act} {w:World} (h:xO P x Q x a w):(Code.scope x).wp P Q a w:=by intro b k d;obtain ⟨e,c,i,g,f⟩:=h b k d;exact ⟨e,c,i,g,.of_steps (.one step_scope) f⟩
theorem adC {C:Ctx} (ok:C.tb.Ok C.P) {n:Nat}:∀(c:Code),
  (∀(A:j3) (mok:List Nat) (s:St) (E:Env) (h:Hp),(∀d∈fc c,d<n)->liftM C c .full A mok s E h->∀(G:Nat->Nat) (a:Act) (w:World),Rel n G s a h w->
   ∀Q:Exit->Act->World->Prop,(∀e p j q f o,E e p j->Rel n q p f j o->im (fc c) mok (dh s) G a h w (dh p) q f j o->Q (qE e) f o)->c.wp C.P Q a w)/\
  (∀l r,sO c l=some r->
   (∀(A:j3) (mok:List Nat) (s:St) (E:Env) (h:Hp),(∀d∈fc c,d<n)->liftM C c (.fr l) A mok s E h->∀(G:Nat->Nat) (a:Act) (w:World),Rel n G s a h w->
    ∀Q:Exit->Act->World->Prop,(∀p j q f o,E .gZ p j->Rel n q p f j o->im (fc c) mok (dh s) G a h w (dh p) q f j o->r.wp C.P Q f o)->
    (∀e p j q f o,e≠ .gZ->E e p j->Rel n q p f j o->im (fc c) mok (dh s) G a h w (dh p) q f j o->Q (qE e) f o)->c.wp C.P Q a w)/\
   (∀(A:j3) (mok:List Nat) (s:St) (E:Env) (h:Hp),(∀d∈fc c,d<n)->liftM C c (.rs l) A mok s E h->∀(G:Nat->Nat) (a:Act) (w:World),Rel n G s a h w->
    ∀Q:Exit->Act->World->Prop,(∀e p j q f o,E e p j->Rel n q p f j o->im (fc c) mok (dh s) G a h w (dh p) q f j o->Q (qE e) f o)->r.wp C.P Q a w)/\
   (∀(A:j3) (mok:List Nat) (s:St) (E:Env) (h:Hp),(∀d∈fc c,d<n)->liftM C c (.pr l) A mok s E h->∀(G:Nat->Nat) (a:Act) (w:World),Rel n G s a h w->
    ∀Q:Exit->Act->World->Prop,(∀e p j q f o,(∀i,e≠ .lG i)->E e p j->Rel n q p f j o->im (fc c) mok (dh s) G a h w (dh p) q f j o->Q (qE e) f o)->
    c.wp C.P (Exit.jump l (λf o=>r.wp C.P (Exit.noGoto Q) f o) Q) a w))/\
  ∀l r,pk c l=some r->
   ∀(A:j3) (mok:List Nat) (s:St) (E:Env) (h:Hp),(∀d∈fc c,d<n)->liftM C c (.rz l) A mok s E h->∀(G:Nat->Nat) (a:Act) (w:World),Rel n G s a h w->
    ∀Q:Exit->Act->World->Prop,(∀e p j q f o,E e p j->Rel n q p f j o->im (fc c) mok (dh s) G a h w (dh p) q f j o->Q (qE e) f o)->r.wp C.P Q a w:=by
 intro c
 induction c with
 | skip=>refine ⟨?_,λl r e=>by simp [sO] at e,λl r e=>by simp [pk] at e⟩;intro A mok s E h _ hv G a w H Q F;exact wp_skip (F .gZ s h G a w hv H (im.refl _ _))
 | ret=>refine ⟨?_,λl r e=>by simp [sO] at e,λl r e=>by simp [pk] at e⟩;intro A mok s E h _ hv G a w H Q F;exact wp_ret (F .ret s h G a w hv H (im.refl _ _))
 | exit i=>refine ⟨?_,λl r e=>by simp [sO] at e,λl r e=>by simp [pk] at e⟩;intro A mok s E h _ hv G a w H Q F;exact wp_exit (F (.ext i) s h G a w hv H (im.refl _ _))
 | goto i=>refine ⟨?_,λl r e=>by simp [sO] at e,λl r e=>by simp [pk] at e⟩;intro A mok s E h _ hv G a w H Q F;exact wp_goto (F (.lG i) s h G a w hv H (im.refl _ _))
 | label i=>refine ⟨?_,λl r e=>by simp [sO] at e,λl r e=>by simp [pk] at e⟩;intro A mok s E h _ hv G a w H Q F;exact wp_label (F .gZ s h G a w hv H (im.refl _ _))
 | region id b8 d2=>
  refine ⟨?_,λl r e=>by simp [sO] at e,λl r e=>by simp [pk] at e⟩;intro A mok s E h J hv G a w H Q F;have e0:∀p:St,∀k,dh p.clean k↔dh p k:=λp k=>.rfl;cases d2 with
  | true=>simp only [liftM] at hv;obtain ⟨hp,hv⟩:=lg hv;obtain ⟨h1,hp⟩:=fT hp;exact U2 ok h1 hp J H hv λp j q f o hk B D=>F .gZ p.clean j q f o hk B D
  | false=>
   simp only [liftM] at hv;obtain ⟨hp,hv⟩:=lg hv;unfold CS at hp;obtain ⟨h1,hp⟩:=fT hp;have d8:=H.start (mj C.aY b8.toList);have d1:∀g:Bool,(g=false->u7 b8.toList=true)->(g=true->(cK b8.toList).Nodup/\BN b8.toList 0=true)->(Code.region id b8 false).wp C.P Q a w:=by
    intro g d6 d7;refine wp_region ?_;have:=O6 (n:=n) (mok:=mok) (K:=λp j=>E .gZ p.clean j) (Q:=Q) ok g J d6 d7 b8.toList [] G _ a h w rfl (Bj h1) hv
     (d8.congr (λ_=>.rfl) (λ_=>.rfl) (λ_ e=>e.elim) (λ_ e=>e)) (λp j q f o hk B D=>F .gZ p.clean j q f o hk B.clean
      (D.mono (λ_ e=>e) (λ_ e=>e) (λk e=>O5 e) (λ_ e=>e)))
    rw [List.range_eq_range'];simpa using this
   cases c9:u7 b8.toList with
   | true=>exact d1 false (λ_=>c9) (λe=>by cases e)
   | false=>rw [c9] at hp;simp only [cond_false] at hp;obtain ⟨M,h3⟩:=fT hp;exact d1 true (λe=>by cases e) (λ_=>⟨Bj M,h3⟩)
 | seq x y b5 V=>
  have S:∀d∈fc x,d∈fc (.seq x y):=λd L=>jT.2 (.inl L);have T:∀d∈fc y,d∈fc (.seq x y):=λd L=>jT.2 (.inr L);refine ⟨?_,λl r e=> ?_,λl r e=> ?_⟩
  rotate_left
  rotate_left
  ·intro A mok s E h J hv G a w H Q F;have Y:∀d∈fc y,d<n:=λd L=>J d (T d L);by_cases hx:∃l',x=.label l'
   ·obtain ⟨l',rfl⟩:=hx;by_cases hl:l'=l
    ·subst hl;simp only [pk,Nat.beq_refl,cond_true] at e;obtain rfl:y=r:=Option.some.inj e;simp only [liftM,Nat.beq_refl,cond_true] at hv;exact V.1 _ _ _ _ _ Y hv G a w H Q λe p j q f o u B D=>F e p j q f o u B (D.mono T (λ_ e=>e) (λ_ e=>e) (λ_ e=>e))
    ·simp only [pk,qL hl,cond_false] at e;simp only [liftM,qL hl,cond_false] at hv;exact V.2.2 l r e _ mok s E h Y hv G a w H Q λW p j q f o u B D=>F W p j q f o u B (D.mono T (λ_ e=>e) (λ_ e=>e) (λ_ e=>e))
   ·rw [Nz (λl' e=>hx ⟨l',e⟩)] at e;obtain ⟨-,e⟩:=rn e;rw [XF (λl' e=>hx ⟨l',e⟩)] at hv;exact V.2.2 l r e _ mok s E h Y hv G a w H Q λW p j q f o u B D=>F W p j q f o u B (D.mono T (λ_ e=>e) (λ_ e=>e) (λ_ e=>e))
  rotate_left
  ·by_cases hx:∃l',x=.label l'
   ·obtain ⟨l',rfl⟩:=hx;obtain ⟨-,e⟩:=rn e;obtain rfl:y=r:=Option.some.inj e;refine ⟨λA mok s E h J hv G a w H Q h1 _=> ?_,λA mok s E h J hv G a w H Q F=> ?_,λA mok s E h J hv=>hv.elim⟩
    ·exact wp_seq (wp_label (h1 s h G a w hv H (im.refl _ _)))
    ·exact V.1 _ _ _ _ _ (λd L=>J d (T d L)) hv G a w H Q λe p j q f o u B D=>F e p j q f o u B (D.mono T (λ_ e=>e) (λ_ e=>e) (λ_ e=>e))
   ·rw [Ow (λl' e=>hx ⟨l',e⟩)] at e;obtain ⟨-,e⟩:=rn e;refine ⟨λA mok s E h J hv G a w H Q h1 M=> ?_,λA mok s E h J hv G a w H Q F=> ?_,λA mok s E h J hv G a w H Q F=> ?_⟩
    ·rw [XA (λl' e=>hx ⟨l',e⟩)] at hv;refine wp_seq ?_;refine b5.1 _ mok s _ h (λd L=>J d (S d L)) hv G a w H _ λW p j q f o u B D=> ?_;have b1:=D.mono (mm':=mok) S (λ_ e=>e) (λ_ e=>e) (λ_ e=>e);cases W with
     | gZ=>
      exact ((V.2.1 l r e).1 _ mok _ E j (λd L=>J d (T d L)) u q f o B Q
       (λs2 M N a2 O a8 b0 b3=>h1 s2 M N a2 O a8 b0 (b1.trans (b3.mono T (λ_ e=>e) (λ_ e=>e) (λ_ e=>e))))
       (λe2 s2 d3 N a2 O c4 a8 b0 b3=>M e2 s2 d3 N a2 O c4 a8 b0 (b1.trans (b3.mono T (λ_ e=>e) (λ_ e=>e) (λ_ e=>e)))))
     | ret=>exact M .ret p j q f o (by simp) u B b1
     | ext i=>exact M (.ext i) p j q f o (by simp) u B b1
     | lG i=>exact M (.lG i) p j q f o (by simp) u B b1
    ·rw [XE (λl' e=>hx ⟨l',e⟩)] at hv;exact (V.2.1 l r e).2.1 _ mok s E h (λd L=>J d (T d L)) hv G a w H Q λW p j q f o u B D=>F W p j q f o u B (D.mono T (λ_ e=>e) (λ_ e=>e) (λ_ e=>e))
    ·rw [XC (λl' e=>hx ⟨l',e⟩)] at hv;have Y:∀d∈fc y,d<n:=λd L=>J d (T d L);refine wp_seq ?_;split at hv
     ·rename_i js mm z _;obtain ⟨b7,hv⟩:=lg hv;have U:=HI b7;refine b5.1 _ mok s _ h (λd L=>J d (S d L)) hv G a w H _ λW s0 h0 b6 a0 w0 u a9 c3=> ?_;have b4:=c3.mono (mm':=mok) S (λ_ e=>e) (λ_ e=>e) (λ_ e=>e);cases W with
      | gZ=>
       obtain ⟨R,hA,hB⟩:=u;have c6:∀p j q f o,Rel n q p f j o->im (fc y) mm (dh s0) b6 a0 h0 w0 (dh p) q f j o->pI C.tb js p (λz=>R z j)->r.wp C.P (Exit.noGoto Q) f o:=by
        intro p j q f o B D hg;obtain ⟨z,hz,Z,b2⟩:=yW ok a9 D B hg;refine (V.2.1 l r e).2.1 _ mok _ _ j Y (hB z j hz) q f o Z _ λe s2 M N a2 O u c1 c8=> ?_;have b9:=b4.trans (((b2.mono (l':=fc y) (mm':=mok) (λ_ e=>e) U (λ_ e=>e) (λ_ e=>e)).trans c8).mono T (λ_ e=>e) (λ_ e=>e) (λ_ e=>e));cases e with
        | gZ=>exact F .gZ s2 M N a2 O (by simp) u c1 b9
        | ret=>exact F .ret s2 M N a2 O (by simp) u c1 b9
        | ext i=>exact F (.ext i) s2 M N a2 O (by simp) u c1 b9
        | lG i=>exact u.elim
       refine (V.2.1 l r e).1 _ mm s0 _ h0 Y hA b6 a0 w0 a9 _ (λp j q f o u B D=> ?_) λe p j q f o c4 u B D=> ?_
       ·exact wp_mono (c6 p j q f o B D u) λ_ _ _=>LZ
       ·have b9:=b4.trans (D.mono (mm':=mok) T U (λ_ e=>e) (λ_ e=>e));cases e with
        | gZ=>grind
        | ret=>exact F .ret p j q f o (by simp) u B b9
        | ext i=>exact F (.ext i) p j q f o (by simp) u B b9
        | lG i=>
         by_cases X:i=l
         ·subst X;simp only [Env.QE,Nat.beq_refl,cond_true] at u;exact ⟨rfl,c6 p j q f o B D u⟩
         ·simp only [Env.QE,qL X,cond_false] at u
      | ret=>exact F .ret s0 h0 b6 a0 w0 (by simp) u a9 b4
      | ext i=>exact F (.ext i) s0 h0 b6 a0 w0 (by simp) u a9 b4
      | lG i=>exact u.elim
     ·refine b5.1 _ mok s _ h (λd L=>J d (S d L)) hv G a w H _ λW s0 h0 b6 a0 w0 u a9 c3=> ?_;have b4:=c3.mono (mm':=mok) S (λ_ e=>e) (λ_ e=>e) (λ_ e=>e);cases W with
      | gZ=>exact (V.2.1 l r e).2.2 _ mok s0 E h0 Y u b6 a0 w0 a9 Q λW p j q f o c4 u B D=>F W p j q f o c4 u B (b4.trans (D.mono T (λ_ e=>e) (λ_ e=>e) (λ_ e=>e)))
      | ret=>exact F .ret s0 h0 b6 a0 w0 (by simp) u a9 b4
      | ext i=>exact F (.ext i) s0 h0 b6 a0 w0 (by simp) u a9 b4
      | lG i=>exact u.elim
  intro A mok s E h J hv G a w H Q F;have c0:∀d∈fc x,d<n:=λd L=>J d (jT.2 (.inl L));have Y:∀d∈fc y,d<n:=λd L=>J d (jT.2 (.inr L));refine wp_seq ?_;unfold liftM at hv;split at hv
  ·rename_i js mm _ _;obtain ⟨b7,R,hA,hB⟩:=lg hv;have U:=HI b7;refine b5.1 _ mm s _ h c0 hA G a w H _ λe p j q f o u B D=> ?_;cases e with
   | gZ=>obtain ⟨z,hz,Z,b2⟩:=yW ok H D B u;refine V.1 _ mok _ E j Y (hB z j hz) q f o Z Q λe2 s2 M N a2 O a8 b0 b3=> ?_;exact F e2 s2 M N a2 O a8 b0 ((b2.mono S U (λ_ e=>e) (λ_ e=>e)).trans (b3.mono T (λ_ e=>e) (λ_ e=>e) (λ_ e=>e)))
   | ret=>exact F .ret p j q f o u B (D.mono S U (λ_ e=>e) (λ_ e=>e))
   | ext i=>exact F (.ext i) p j q f o u B (D.mono S U (λ_ e=>e) (λ_ e=>e))
   | lG i=>exact F (.lG i) p j q f o u B (D.mono S U (λ_ e=>e) (λ_ e=>e))
  ·rename_i k _ _;obtain ⟨hk,hv⟩:=lg hv;have hk:=(uq _ _).1 hk;refine b5.1 _ mok s _ h c0 hv G a w H _ λe p j q f o u B D=> ?_;cases e with
   | gZ=>obtain ⟨s1,h1,u,c7,b1⟩:=Z7 (K:=λs2 M=>liftM C y .full _ mok s2 E M) hk D B u;refine V.1 _ mok _ E h1 Y u q f o c7 Q λe2 s2 M N a2 O a8 b0 b3=> ?_;exact F e2 s2 M N a2 O a8 b0 ((b1.mono S (λ_ e=>e) (λ_ e=>e) (λ_ e=>e)).trans (b3.mono T (λ_ e=>e) (λ_ e=>e) (λ_ e=>e)))
   | ret=>exact F .ret p j q f o u B (D.mono S (λ_ e=>e) (λ_ e=>e) (λ_ e=>e))
   | ext i=>exact F (.ext i) p j q f o u B (D.mono S (λ_ e=>e) (λ_ e=>e) (λ_ e=>e))
   | lG i=>exact F (.lG i) p j q f o u B (D.mono S (λ_ e=>e) (λ_ e=>e) (λ_ e=>e))
  ·refine b5.1 _ mok s _ h c0 hv G a w H _ λe p j q f o u B D=> ?_;cases e with
   | gZ=>refine V.1 _ mok _ E j Y u q f o B Q λe2 s2 M N a2 O a8 b0 b3=> ?_;exact F e2 s2 M N a2 O a8 b0 ((D.mono S (λ_ e=>e) (λ_ e=>e) (λ_ e=>e)).trans (b3.mono T (λ_ e=>e) (λ_ e=>e) (λ_ e=>e)))
   | ret=>exact F .ret p j q f o u B (D.mono S (λ_ e=>e) (λ_ e=>e) (λ_ e=>e))
   | ext i=>exact F (.ext i) p j q f o u B (D.mono S (λ_ e=>e) (λ_ e=>e) (λ_ e=>e))
   | lG i=>exact F (.lG i) p j q f o u B (D.mono S (λ_ e=>e) (λ_ e=>e) (λ_ e=>e))
 | cond c x y b5 V=>
  refine ⟨?_,λl r e=>by simp [sO] at e,λl r e=>by simp [pk] at e⟩;intro A mok s E h J hv G a w H Q F;have c0:∀d∈fc x,d<n:=λd L=>J d (jT.2 (.inl L));have Y:∀d∈fc y,d<n:=λd L=>J d (jT.2 (.inr L));simp only [liftM] at hv;obtain ⟨v,d5,hv⟩:=lF hv;split at hv
  ·rename_i t;have hc:=bX (GL H (x:=c) λ_ _=>trivial) (bY s) d5;refine wp_cond_split (t:=t) hc (λht=> ?_) (λht=> ?_)
   ·rw [if_pos ht] at hv;exact b5.1 _ mok s E h c0 hv G a w H Q λe p j q f o u B D=>F e p j q f o u B (D.mono (λd L=>jT.2 (.inl L)) (λ_ e=>e) (λ_ e=>e) (λ_ e=>e))
   ·rw [if_neg (by rw [ht];simp)] at hv;exact V.1 _ mok s E h Y hv G a w H Q λe p j q f o u B D=>F e p j q f o u B (D.mono (λd L=>jT.2 (.inr L)) (λ_ e=>e) (λ_ e=>e) (λ_ e=>e))
  ·exact hv.elim
 | block id x ih=>
  refine ⟨?_,λl r e=>by simp [sO] at e,λl r e=>by simp [pk] at e⟩;intro A mok s E h J hv G a w H Q F;refine wp_block ?_;unfold liftM at hv;split at hv
  ·rename_i js mm _;obtain ⟨b7,R,hA,hB⟩:=lg hv;have U:=HI b7;refine ih.1 _ mm s _ h J hA G a w H _ λe p j q f o u B D=> ?_;have c6:pI C.tb js p (λx=>R x j)->Q .normal f o:=λhg=>by obtain ⟨z,hz,Z,b2⟩:=yW ok H D B hg;exact F .gZ _ j q f o (hB z j hz) Z (b2.mono (λ_ e=>e) U (λ_ e=>e) (λ_ e=>e))
   cases e with
   | gZ=>exact c6 u
   | ret=>exact F .ret p j q f o u B (D.mono (λ_ e=>e) U (λ_ e=>e) (λ_ e=>e))
   | ext i=>
    simp only [qE,Exit.inBlock];by_cases X:i=id
    ·subst X;simp only [Env.fW,Nat.beq_refl,cond_true] at u;grind
    ·rw [if_neg X];simp only [Env.fW,qL X,cond_false] at u;exact F (.ext i) p j q f o u B (D.mono (λ_ e=>e) U (λ_ e=>e) (λ_ e=>e))
   | lG i=>exact F (.lG i) p j q f o u B (D.mono (λ_ e=>e) U (λ_ e=>e) (λ_ e=>e))
  ·refine ih.1 _ mok s _ h J hv G a w H _ λe p j q f o u B D=> ?_;cases e with
   | gZ=>exact F .gZ p j q f o u B D
   | ret=>exact F .ret p j q f o u B D
   | ext i=>
    simp only [qE,Exit.inBlock];by_cases X:i=id
    ·subst X;simp only [Env.fW,Nat.beq_refl,cond_true] at u;rw [if_pos rfl];exact F .gZ p j q f o u B D
    ·rw [if_neg X];simp only [Env.fW,qL X,cond_false] at u;exact F (.ext i) p j q f o u B D
   | lG i=>exact F (.lG i) p j q f o u B D
 | scope x ih=>
  refine ⟨?_,λl r e=>by simp [sO] at e,λl r e=>by simp [pk] at e⟩;intro A mok s E h J hv G a w H Q F;unfold liftM at hv;split at hv
  ·rename_i l _;split at hv
   ·rename_i r c2;refine wp_scope_jumps l (λf o=>r.wp C.P (Exit.noGoto Q) f o) (λ_ _=>0) (adB c2) ?_ λf o hJ=>wp_seq (wp_skip (wp_mono hJ λ_ _ _=>LZ));exact (ih.2.1 l r c2).2.2 _ mok s E h J hv G a w H Q λe p j q f o _ u B D=>F e p j q f o u B D
   ·exact hv.elim
  ·rename_i l0 a0 x0;refine acO (KF ?_);have chain:∀(A:j3) (E':Env),(∀e p j q f o,E' e p j->Rel n q p f j o->im (fc x) mok (dh s) G a h w (dh p) q f j o->xQ C.P x Q (qE e) f o)->
     ∀e p j q f o,ye (λl f E s h=>match pk x l with
      | some _=>liftM C x (.rz l) f mok s E h
      | none=>False) A E' e p j->Rel n q p f j o->im (fc x) mok (dh s) G a h w (dh p) q f j o->xQ C.P x Q (qE e) f o:=by
    intro A
    induction A with
    | gd l b y _ V=>
     intro E' hE;refine V _ λe p j q f o u B D=> ?_;cases e with
     | gZ=>exact hE .gZ p j q f o u B D
     | ret=>exact hE .ret p j q f o u B D
     | ext i=>exact hE (.ext i) p j q f o u B D
     | lG i=>
      by_cases X:i=l
      ·subst X;simp only [Env.put,Nat.beq_refl,cond_true] at u;split at u
       ·rename_i r c2;refine ⟨_,acN c2,KF (wp_seq (wp_skip ?_))⟩;exact ih.2.2 i r c2 _ mok p _ j J u q f o B _ λe2 s2 M N a2 O a8 Z b2=>hE e2 s2 M N a2 O a8 Z (D.trans b2)
       ·exact u.elim
      ·simp only [Env.put,qL X,cond_false] at u;exact hE (.lG i) p j q f o u B D
    | _=>intro E' hE;exact hE
   refine ih.1 _ mok s _ h J hv G a w H _ λe p j q f o u B D=> ?_;refine chain (.gd l0 a0 x0) E.nn (λe p j q f o u B D=> ?_) e p j q f o u B D;cases e with
   | gZ=>exact F .gZ p j q f o u B D
   | ret=>exact F .ret p j q f o u B D
   | ext i=>exact F (.ext i) p j q f o u B D
   | lG i=>exact u.elim
  ·refine wp_scope_straight ?_;refine ih.1 _ mok s _ h J hv G a w H _ λe p j q f o u B D=> ?_;cases e with
   | gZ=>exact F .gZ p j q f o u B D
   | ret=>exact F .ret p j q f o u B D
   | ext i=>exact F (.ext i) p j q f o u B D
   | lG i=>exact u.elim
 | loop x ih=>
  refine ⟨?_,λl r e=>by simp [sO] at e,λl r e=>by simp [pk] at e⟩;intro A mok s E h J hv G a w H Q F;unfold liftM at hv;split at hv
  ·rename_i js mm _;obtain ⟨b7,hv⟩:=lg hv;have U:=HI b7;obtain ⟨x0,d9,a9,c3⟩:=yW ok H (im.refl (l:=fc x) (mm:=mm)) H hv;obtain ⟨I,μ,hI,d4⟩:=d9;refine aaQ (λm f o=>∃z j q,I z j/\μ z j=m/\Rel n q (qb C.tb js z (s.forget (fc x) mm)) f j o/\im (fc x) mm (dh s) G a h w (dh (qb C.tb js z (s.forget (fc x) mm))) q f j o)
    ⟨_,x0,h,G,hI,rfl,a9,c3⟩ ?_
   rintro m f o ⟨z,j,q,hz,rfl,c7,b1⟩;refine ih.1 _ mm _ _ j J (d4 z j hz) q f o c7 _ λe s2 M N a2 O u Z b2=> ?_;have c5:=b1.trans b2;cases e with
   | gZ=>obtain ⟨z2,d0,c1,c8⟩:=yW ok H c5 Z u;exact ⟨_,d0.2,z2,M,N,d0.1,rfl,c1,c8⟩
   | ret=>exact F .ret s2 M N a2 O u Z (c5.mono (λ_ e=>e) U (λ_ e=>e) (λ_ e=>e))
   | ext i=>exact F (.ext i) s2 M N a2 O u Z (c5.mono (λ_ e=>e) U (λ_ e=>e) (λ_ e=>e))
   | lG i=>exact F (.lG i) s2 M N a2 O u Z (c5.mono (λ_ e=>e) U (λ_ e=>e) (λ_ e=>e))
  ·exact hv.elim
 | _=>exact ⟨λA mok s E h _ hv=>hv.elim,λl r e=>by simp [sO] at e,λl r e=>by simp [pk] at e⟩
theorem pN {C:Ctx} (ok:C.tb.Ok C.P) {n:Nat} (c:Code) (A:j3) (g:List Nat) (s:St) (E:Env) (h:Hp) (o:∀d∈fc c,d<n) (hv:liftM C c .full A g s E h) (k:Nat->Nat) (a:Act) (w:World) (p:Rel n k s a h w)
  (Q:Exit->Act->World->Prop) (m:∀e i f l b j,E e i f->Rel n l i b f j->im (fc c) g (dh s) k a h w (dh i) l b f j->Q (qE e) b j):c.wp C.P Q a w:=
 (adC ok c).1 A g s E h o hv k a w p Q m
def qM (b:Array Value):ResultVar->Sem Value
 | .tmp t=>pure (b.getD t undef)
 | .cell a t=>do loadVar t (<-asAddr (b.getD a undef))
def Ew :List Value->Value
 | [v]=>v
 | vs=>.tuple vs.toArray
theorem oj {P:Program} {fn:Func} {b:Array Value} {a:List Value} {w:World} (h:(fn.results.toList.mapM (qM b)).run P w=.ok a w):(results fn b).run P w=.ok (Ew a) w:=by
 have e:results fn b=((fn.results.mapM (qM b))>>=λa=>pure (if h:a.size=1 then a[0] else .tuple a)):=by unfold results;congr 1
 rw [e,Array.mapM_eq_mapM_toList,map_eq_pure_bind];simp only [Sem.run_bind,h,Result.andThen_ok,Sem.run_pure];cases a with
 | nil=>rfl
 | cons v a=>cases a<;>simp [Ew]
theorem Tv {P:Program} {tb:Tb} (ok:tb.Ok P) {t:Nat} {e:Ty} (c:tb.ty t=some e) {w:World} {a:Addr} {x:(eg tb t).T}
  (b:∀(j:Nat) (v:Value),(bA ((eg tb t).enc x))[j]? =some v->w.cell? (a.add j)=some v):(loadVar t a).run P w=.ok ((eg tb t).enc x) w:=by
 revert x;rw [My,c];intro x b;exact RI ok c b
section
variable {C:Ctx} {n:Nat} {β:Nat->Nat} {s:St} {a:Act} {h:Hp} {w:World}
theorem qu (ok:C.tb.Ok C.P) (d:Rel n β s a h w) {r:ResultVar} {t:Nat} {K:(eg C.tb t).T->Prop} (hv:pf C s r t K):∃x,K x/\(qM a.tmps r).run C.P w=.ok ((eg C.tb t).enc x) w:=by
 cases r with
 | tmp i=>
  simp only [pf] at hv;split at hv
  ·rename_i v c
   ·obtain ⟨x,f,hv⟩:=Ca hv;refine ⟨x,hv,?_⟩;have:=(d.cur i _ [] c trivial (bY _)).1;rw [f];simp only [qM,Sem.run_pure];exact congrArg (λv=>Result.ok v w) this
  ·exact hv.elim
 | cell i y=>
  simp only [pf] at hv;obtain ⟨b,hv⟩:=lg hv;have b:=Nat.eq_of_beq_eq_true b;subst b;split at hv
  ·rename_i k e c q;split at hv
   ·rename_i l u;split at hv
    ·rename_i v p
     ·obtain ⟨x,f,hv⟩:=Ca hv;refine ⟨x,hv,?_⟩;have o:=KD ok p f;obtain ⟨_,z,hb⟩:=d.box k l u trivial;have:=(d.cur i _ [] c trivial (bY _)).1;have m:a.tmps.getD i undef=.pointer (some ⟨β k,0,none⟩):=this;simp only [qM,m,asAddr,Sem.run_bind,Sem.run_pure,Result.andThen_ok];refine Tv ok q λj v g=> ?_;rw [o] at g;rw [kE,FR hb];simpa using g
    ·exact hv.elim
   ·exact hv.elim
  ·exact hv.elim
theorem tM (ok:C.tb.Ok C.P) (b:Rel n β s a h w) {rs:List ResultVar} {p:List Nat} {K:(bC C.tb p).T->Hp->Prop} (hv:wH C s h rs p K):
  ∃x k,K x h/\(rs.mapM (qM a.tmps)).run C.P w=.ok k w/\Ew k=(bC C.tb p).enc x:=by
 have step:∀ {r:ResultVar} {rs:List ResultVar} {v:Value} {k:List Value},(qM a.tmps r).run C.P w=.ok v w->(rs.mapM (qM a.tmps)).run C.P w=.ok k w->((r::rs).mapM (qM a.tmps)).run C.P w=.ok (v::k) w:=by intro r rs v k c d;simp only [List.mapM_cons,Sem.run_bind,c,d,Result.andThen_ok,Sem.run_pure]
 have nil:(([]:List ResultVar).mapM (qM a.tmps)).run C.P w=.ok [] w:=by simp
 unfold wH at hv;split at hv
 ·exact ⟨(),[],hv,nil,rfl⟩
 ·obtain ⟨x,e,c⟩:=qu ok b hv;exact ⟨x,_,e,step c nil,rfl⟩
 ·obtain ⟨f,hv,c⟩:=qu ok b hv;obtain ⟨g,e,d⟩:=qu ok b hv;exact ⟨(f,g),_,e,step c (step d nil),rfl⟩
 ·obtain ⟨f,hv,c⟩:=qu ok b hv;obtain ⟨g,hv,d⟩:=qu ok b hv;obtain ⟨j,e,i⟩:=qu ok b hv;exact ⟨(f,g,j),_,e,step c (step d (step i nil)),rfl⟩
 ·obtain ⟨f,hv,c⟩:=qu ok b hv;obtain ⟨g,hv,d⟩:=qu ok b hv;obtain ⟨j,hv,i⟩:=qu ok b hv;obtain ⟨m,e,l⟩:=qu ok b hv;exact ⟨(f,g,j,m),_,e,step c (step d (step i (step l nil))),rfl⟩
 ·obtain ⟨f,hv,c⟩:=qu ok b hv;obtain ⟨g,hv,d⟩:=qu ok b hv;obtain ⟨j,hv,i⟩:=qu ok b hv;obtain ⟨m,hv,l⟩:=qu ok b hv;obtain ⟨q,e,o⟩:=qu ok b hv;exact ⟨(f,g,j,m,q),_,e,step c (step d (step i (step l (step o nil)))),rfl⟩
 ·obtain ⟨f,hv,c⟩:=qu ok b hv;obtain ⟨g,hv,d⟩:=qu ok b hv;obtain ⟨j,hv,i⟩:=qu ok b hv;obtain ⟨m,hv,l⟩:=qu ok b hv;obtain ⟨q,hv,o⟩:=qu ok b hv;obtain ⟨y,hv,t⟩:=qu ok b hv;obtain ⟨z,e,u⟩:=qu ok b hv;exact ⟨(f,g,j,m,q,y,z),_,e,step c (step d (step i (step l (step o (step t (step u nil)))))),rfl⟩
 ·exact hv.elim
end
theorem rj {n:Nat} {l:List Nat} (h:vx n l=true):∀d∈l,d<n:=by
 induction l with
 | nil=>simp
 | cons a l e=>
  simp only [vx] at h;obtain ⟨b,c⟩:=fT h;intro d hd;rcases List.mem_cons.1 hd with rfl | hd
  ·have:d+1<=n:=by simpa [Nat.blt] using b
   exact this
  grind
theorem U6 {C:Ctx} (ok:C.tb.Ok C.P) {g:FuncId} {f:Func} {c:Code} {A:j3} {args:List Value} {K:(bC C.tb f.resultTypes.toList).T->Hp->Prop} {h:Hp} (G:C.P.funcs[g]? =some f) (hb:f.body=some c)
  (hv:Dp C f A args K h):ae C.P g args (bC C.tb f.resultTypes.toList) K h:=by
 intro w N;unfold Dp at hv;obtain ⟨F,hv⟩:=lg hv;obtain ⟨s,d⟩:=fT F;have s:args.length<=f.ntmps:=Nat.le_of_ble_eq_true s;have E:zB f=c:=by unfold zB;rw [hb]
 rw [E] at hv d;refine calls_of_wp G hb ?_;have H:∀(t:Nat) (v:Value),args[t]? =some v->(args.toArray++Array.replicate (f.ntmps-args.toArray.size) undef)[t]? =some v:=by grind
 have z:∀(t:Nat) (l:LV) (c:bp),vy args t=some (l,c)->∃v,args[t]? =some v/\l=.v v/\c=[]:=by intro t l c e;unfold vy at e;rw [pe] at e;grind
 have L:Rel f.ntmps (λ_=>0) {f:=vy args,m:=λ_=>none} {tmps:=args.toArray++Array.replicate (f.ntmps-args.toArray.size) undef,defers:=[]} h w:=by
  refine ⟨by simp;omega,N,λt l c e=> ?_,λt l c e p hp=> ?_,λt l c e _ _=> ?_,λt l c e _ I=> ?_,λk U e _=>(by cases e),λk V e=>absurd rfl e,λ_ e=>e.elim,λ_ e=>e.elim⟩
  ·grind
  ·grind
  ·obtain ⟨v,y,rfl,rfl⟩:=z t l c e;refine ⟨?_,λ_ _ _=>trivial⟩;simp only [Act.eval,LVal,Array.getD_eq_getD_getElem?,H t v y,Option.getD_some]
  ·obtain ⟨v,y,rfl,rfl⟩:=z t l c e;exact absurd (bY _) I
 refine pN ok c A C.aY _ _ h (rj d) hv _ _ w L _ λe S o X r n j D a=> ?_;have O:Step h o w n:=⟨D.sub,a.size,λb hb B=>⟨a.bO b hb B (λk _ q=>absurd rfl q.1),a.zW b hb B (λk _ q=>absurd rfl q.1)⟩,a.os,a.tape,a.output⟩;have done:wH C S o f.results.toList f.resultTypes.toList K->r.defers=[]/\∃v,(results f r.tmps).run C.P n=.ok v n/\∃u d,Ending.returned v=.returned u/\(∃x,u=(bC C.tb f.resultTypes.toList).enc x/\K x d)/\Step h d w n:=by intro R;obtain ⟨x,W,J,M,Q⟩:=tM ok D R;exact ⟨a.defers,_,oj M,_,o,rfl,⟨x,Q,J⟩,O⟩
 cases e with
 | gZ=>exact done j
 | ret=>exact done j
 | ext i=>exact j.elim
 | lG i=>exact j.elim
def da (A:(Hp->Prop)->Prop) (B:Hp->Prop):Prop:=
 py (σ:=Unit) (λR=>A (λh=>R () h)) (λ_ h=>B  h)
theorem da.intro {A:(Hp->Prop)->Prop} {B:Hp->Prop} (R:Hp->Prop) (a:A R) (b:∀h,R h->B h):da A B:=
 ⟨λ_ h=>R  h,a,λ_ h c=>b  h c⟩
theorem da.direct {A:(Hp->Prop)->Prop} {B:Hp->Prop} (a:A B):da A B:=da.intro B a (λ_ b=>b)
def dj {α1:Type} (A:(α1->Hp->Prop)->Prop) (B:α1->Hp->Prop):Prop:=
 py (σ:=α1) (λR=>A (λa h=>R a h)) (λp h=>B p h)
theorem dj.intro {a:Type} {A:(a->Hp->Prop)->Prop} {B:a->Hp->Prop} (R:a->Hp->Prop) (c:A R) (d:∀b h,R b h->B b h):dj A B:=
 ⟨λp h=>R p h,c,λp h e=>d p h e⟩
theorem dj.direct {a:Type} {A:(a->Hp->Prop)->Prop} {B:a->Hp->Prop} (b:A B):dj A B:=dj.intro B b (λ_ _ c=>c)
def aB {α1:Type} (b:(α1->Hp->Prop)->α1->Hp->Prop) (a:α1) (h:Hp):Prop:=
 vt (σ:=α1) (λR p h=>b (λa h=>R a h) p h) a h
theorem aB.intro {b:Type} {d:(b->Hp->Prop)->b->Hp->Prop} {a:b} {h:Hp} (I:b->Hp->Prop) (c:b->Hp->Nat)
  (h0:I a h) (i:∀a k,I a k->d (λf e=>I f e/\c f e<c a k) a k):aB d a h:=
 ⟨λp h=>I p h,λp h=>c p h,h0,λp k g=>i p k g⟩
def kL {α1 α2:Type} (A:(α1->α2->Hp->Prop)->Prop) (B:α1->α2->Hp->Prop):Prop:=
 py (σ:=α1×α2) (λR=>A (λa b h=>R (a,b) h)) (λp h=>B p.1 p.2 h)
theorem kL.intro {a b:Type} {A:(a->b->Hp->Prop)->Prop} {B:a->b->Hp->Prop} (R:a->b->Hp->Prop) (e:A R) (f:∀c d h,R c d h->B c d h):kL A B:=
 ⟨λp h=>R p.1 p.2 h,e,λp h g=>f p.1 p.2 h g⟩
theorem kL.direct {a b:Type} {A:(a->b->Hp->Prop)->Prop} {B:a->b->Hp->Prop} (c:A B):kL A B:=kL.intro B c (λ_ _ _ d=>d)
def bL {α1 α2:Type} (c:(α1->α2->Hp->Prop)->α1->α2->Hp->Prop) (a:α1) (b:α2) (h:Hp):Prop:=
 vt (σ:=α1×α2) (λR p h=>c (λa b h=>R (a,b) h) p.1 p.2 h) (a,b) h
theorem bL.intro {c d:Type} {f:(c->d->Hp->Prop)->c->d->Hp->Prop} {a:c} {b:d} {h:Hp} (I:c->d->Hp->Prop) (e:c->d->Hp->Nat)
  (h0:I a b h) (m:∀a b k,I a b k->f (λi j g=>I i j g/\e i j g<e a b k) a b k):bL f a b h:=
 ⟨λp h=>I p.1 p.2 h,λp h=>e p.1 p.2 h,h0,λp k l=>m p.1 p.2 k l⟩
def rR {α1 α2 α3:Type} (d:(α1->α2->α3->Hp->Prop)->α1->α2->α3->Hp->Prop) (a:α1) (b:α2) (c:α3) (h:Hp):Prop:=
 vt (σ:=α1×α2×α3) (λR p h=>d (λa b c h=>R (a,b,c) h) p.1 p.2.1 p.2.2 h) (a,b,c) h
theorem rR.intro {d e f:Type} {i:(d->e->f->Hp->Prop)->d->e->f->Hp->Prop} {a:d} {b:e} {c:f} {h:Hp} (I:d->e->f->Hp->Prop) (g:d->e->f->Hp->Nat)
  (h0:I a b c h) (q:∀a b c k,I a b c k->i (λl m n j=>I l m n j/\g l m n j<g a b c k) a b c k):rR i a b c h:=
 ⟨λp h=>I p.1 p.2.1 p.2.2 h,λp h=>g p.1 p.2.1 p.2.2 h,h0,λp k o=>q p.1 p.2.1 p.2.2 k o⟩
def bt (P:Program) (g:FuncId) (args:List Value) (s1 s2:Shape) (K:s1.T->s2.T->Hp->Prop) (h:Hp):Prop:=
 ae P g args (nS s1 s2) (λp a=>K p.1 p.2 a) h
def jz (P:Program) (g:FuncId) (args:List Value) (s1 s2 a:Shape) (K:s1.T->s2.T->a.T->Hp->Prop) (h:Hp):Prop:=
 ae P g args (sA s1 s2 a) (λp b=>K p.1 p.2.1 p.2.2 b) h
def lJ (P:Program) (g:FuncId) (args:List Value) (s1 s2 a b:Shape) (K:s1.T->s2.T->a.T->b.T->Hp->Prop) (h:Hp):Prop:=
 ae P g args (xc s1 s2 a b) (λp c=>K p.1 p.2.1 p.2.2.1 p.2.2.2 c) h
def Cz (P:Program) (g:FuncId) (args:List Value) (s1 s2 a b c:Shape) (K:s1.T->s2.T->a.T->b.T->c.T->Hp->Prop) (h:Hp):Prop:=
 ae P g args (Co s1 s2 a b c) (λp d=>K p.1 p.2.1 p.2.2.1 p.2.2.2.1 p.2.2.2.2 d) h
def aM (P:Program) (g:FuncId) (args:List Value) (K:Hp->Prop) (h:Hp):Prop:=
 ae P g args v7 (λ_ a=>K a) h
def n0 (P:Program) (s:Sem Value) (_:Shape) (K:Hp->Prop) (h:Hp):Prop:=lx P s v7 (λ_ a=>K a) h
def Rw {a:Type} (h:Hp) (sz:Nat) (enc:a->List Value) (l:Sl) (xs:List a):Prop:=
 l.len=xs.length/\qP h l.base (xs.length*sz) (xs.flatMap enc)
section
variable {α:Type} {h d:Hp} {sz:Nat} {enc:α->List Value} {l:Sl} {xs:List α}
theorem Oy (b:h<=d) {a:Addr} {v:Value} (e:dy h a=some v):dy d a=some v:=by
 unfold dy at e ⊢;split at e
 ·rename_i c t f hb;rw [b _ _ hb];exact e
 ·cases e
theorem nE (b:h<=d) {a:Addr} {cs:List Value} (e:aZ h a cs):aZ d a cs:=λi v hv=>Oy b (e i v hv)
theorem Rw.mono (i:h<=d) (r:Rw h sz enc l xs):Rw d sz enc l xs:=by obtain ⟨b,c,e⟩:=r;refine ⟨b,c,e.imp id ?_⟩;rintro ⟨a,f,g⟩;exact ⟨a,f,nE i g⟩
theorem KG (b:∀x,(enc x).length=sz):∀(xs:List α) (i:Nat) (x:α),xs[i]? =some x->∀j v,(enc x)[j]? =some v->(xs.flatMap enc)[i*sz+j]? =some v
 | [],i,x,a,_,_,_=>by simp at a
 | y::xs,0,x,a,j,v,hv=>by grind
 | y::xs,i+1,x,a,j,v,hv=>by have:=KG b xs i x (by simpa using a) j v hv;grind
theorem MA (a:∀x,(enc x).length=sz):∀(xs:List α) (i:Nat) (v:Value),(xs.flatMap enc)[i]? =some v->∃q x j,xs[q]? =some x/\(enc x)[j]? =some v/\i=q*sz+j
 | [],i,v,hv=>by simp at hv
 | y::xs,i,v,hv=>by
  simp only [List.flatMap_cons] at hv;by_cases b:i<(enc y).length
  ·rw [List.getElem?_append_left b] at hv;exact ⟨0,y,i,rfl,hv,by simp⟩
  ·rw [List.getElem?_append_right (by omega)] at hv;obtain ⟨q,x,j,c,e,f⟩:=MA a xs _ v hv;rw [a] at f b;exact ⟨q+1,x,j,by simpa using c,e,by grind⟩
theorem Rw.read (r:Rw h sz enc l xs) (m:∀x,(enc x).length=sz) (o:0<sz) {i:Int} (e:0<=i) (f:i<(l.len:Int)):
  bI l.base l.len i/\∃x,xs[i.toNat]? =some x/\aZ h (sat l.base sz i) (enc x):=by
 obtain ⟨p,q,g⟩:=r;have c:i.toNat<xs.length:=by omega
 have n:xs.length*sz≠0:=by
  have:0<xs.length:=by omega
  exact Nat.ne_of_gt (Nat.mul_pos this o)
 obtain ⟨a,b,k⟩:=g.resolve_left n;refine ⟨⟨by simp [b],e,f⟩,xs[i.toNat],by simp [c],λj v hv=> ?_⟩;have:=k (i.toNat*sz+j) v (KG m xs i.toNat _ (by simp [c]) j v hv);unfold sat;rw [b,Option.getD_some,vV];exact this
def Own (h0 h:Hp) (sz:Nat) (enc:α->List Value) (l:Sl) (xs:List α):Prop:=
 l.len=xs.length/\l.len<=l.cap/\((l.base=none/\l.cap=0)\/
  ∃(b:Nat) (a:List Value) (t:Nat),l.base=some ⟨b,0,none⟩/\h b=some (.cells a.toArray t (0,0))/\a.length=l.cap*sz/\a.take (l.len*sz)=xs.flatMap enc/\h0 b=none)
theorem jv (a:∀x,(enc x).length=sz):∀xs:List α,(xs.flatMap enc).length=xs.length*sz
 | []=>by simp
 | x::xs=>by simp only [List.flatMap_cons,List.length_append,a,jv a xs,List.length_cons,Nat.add_mul,Nat.one_mul];omega
theorem tX (f:∀x,jL (enc x)=true):∀xs:List α,jL (xs.flatMap enc)=true:=by
 have app:∀a b:List Value,jL a=true->jL b=true->jL (a++b)=true:=by
  intro a b c hb
  induction a with
  | nil=>exact hb
  | cons v a e=>cases v<;>first | (exact e c) | (cases c)
 intro xs
 induction xs with
 | nil=>rfl
 | cons x xs e=>grind
theorem Fh {b:Nat} {a:List Value} {t:Nat} (e:h b=some (.cells a.toArray t (0,0))) (i:Nat):dy h ⟨b,i,none⟩=a[i]?:=by unfold dy;simp [e]
theorem Own.rw {h0:Hp} (o:Own h0 h sz enc l xs) (c:∀x,(enc x).length=sz):Rw h sz enc l xs:=by
 obtain ⟨h1,g,a⟩:=o;refine ⟨h1,jv c xs,?_⟩;rcases a with ⟨e,f⟩ | ⟨b,cs,t,e,hb,i,k,_⟩
 ·grind
 ·right;refine ⟨_,e,λj v hv=> ?_⟩;rw [kE,Fh hb,Nat.zero_add];grind
theorem Own.mono {h0:Hp} (j:h<=d) (o:Own h0 h sz enc l xs):Own h0 d sz enc l xs:=by obtain ⟨f,g,i⟩:=o;refine ⟨f,g,i.imp id ?_⟩;rintro ⟨b,cs,t,a,c,e⟩;exact ⟨b,cs,t,a,j _ _ c,e⟩
theorem Cb {s:Hp} {zero:List Value} {bytes:Nat} {x:Sl} {f:List α} {K:Sl->Hp->Prop} (w:s<=h) (o:Own s h sz enc l xs) (r:Rw h sz enc x f) (m:∀x,(enc x).length=sz) (U:∀x,jL (enc x)=true)
  (X:zero.length=sz) (hb:xs.length+f.length<=140737488355328/\(xs.length+f.length)*bytes<=140737488355328)
  (B:∀L d,s<=d->Own s d sz enc L (xs++f)->(∀b g,h b=some g->(∀a,l.base=some a->a.block≠b)->d b=some g)->K L d):eC sz bytes zero l x K h:=by
 have V:=o.rw m;obtain ⟨n,R,S⟩:=o;obtain ⟨p,a9⟩:=r;refine ⟨f.flatMap enc,by grind,xs.flatMap enc,by rw [n];exact V.2,by grind,tX U f,λF=> ?_,λF c b t T E=> ?_⟩
 ·rcases S with ⟨e,Q⟩ | ⟨b,q,t,e,A,H,J,I⟩
  · -- nothing is put
   have O:f.length=0:=by omega
   have P:f=[]:=List.length_eq_zero_iff.1 O;subst P;refine ⟨λa z=>(by grind),?_⟩;have y:gP h l.base (l.len*sz) (([]:List α).flatMap enc)=h:=by rw [e];rfl
   rw [y,p];refine B _ h w ⟨by simp [n],by simpa using R,.inl ⟨e,Q⟩⟩ λ_ _ e _=>e
  ·have u:l.len*sz+(f.flatMap enc).length<=q.length:=by rw [H,jv m,<-Nat.add_mul];exact Nat.mul_le_mul_right sz (by omega)
   obtain ⟨M,p2⟩:=Bi b t (f.flatMap enc) h 0 (l.len*sz) q (by simpa using u) A;have W:∀(k:Nat),l.len*sz+k<=q.length->tf h (⟨b,l.len*sz,none⟩:Addr) k:=by
    intro k
    induction k with
    | zero=>intro _;trivial
    | succ k Z=>
     intro a8;refine ⟨Z (by omega),⟨q[l.len*sz+k]'(by omega),?_⟩,?_⟩
     ·rw [kE,Fh A];simp
     ·rw [kE];unfold ic;simp [A]
   refine ⟨λa z=> ?_,?_⟩
   ·rw [e] at z;cases z;rw [kE,Nat.zero_add];refine W _ ?_;rw [p,<-jv m f];exact u
   ·have y:gP h l.base (l.len*sz) (f.flatMap enc)=lz h ⟨b,l.len*sz,none⟩ (f.flatMap enc) 0:=by rw [e];simp only [gP,kE,Nat.zero_add]
    rw [y];rw [Nat.add_zero] at M;refine B _ _ (λi g j=> ?_) ⟨by simp [n,p],F,.inr ⟨b,_,t,e,M,?_,?_,I⟩⟩ λi g j v=> ?_
    ·have v:i≠b:=λC=>by rw [C,I] at j;cases j
     rw [p2 i v];exact w _ _ j
    ·rw [ads _ _ _ u,H]
    ·rw [Cm _ _ _ u];have D:(l.len+x.len)*sz=(q.take (l.len*sz)++f.flatMap enc).length:=by rw [List.length_append,J,jv m,jv m,n,p,Nat.add_mul]
     rw [D,List.take_left,J,List.flatMap_append]
    grind
 ·have G:∀i g,h i=some g->(h.set b (.cells (xs.flatMap enc++f.flatMap enc++fC zero (c-(l.len+x.len))).toArray t (0,0))) i=some g:=λi g j=>by
   have v:i≠b:=λC=>by grind
   simp [Hp.set,v,j]
  refine B _ _ (λi g j=>G i g (w _ _ j)) ⟨by simp [n,p],T,.inr ⟨b,xs.flatMap enc++f.flatMap enc++fC zero (c-(l.len+x.len)),t,rfl,by simp [Hp.set],?_,?_,?_⟩⟩ λi g j _=>G i g j
  ·have Y:∀k,(fC zero k).length=k*sz:=λk=>by simp [fC,X]
   rw [List.length_append,List.length_append,jv m,jv m,Y,<-Nat.add_mul,<-Nat.add_mul];grind
  ·have D:(l.len+x.len)*sz=(xs.flatMap enc++f.flatMap enc).length:=by rw [List.length_append,jv m,jv m,n,p,Nat.add_mul]
   grind
  ·cases N:s b with
   | none=>rfl
   | some g=>rw [w _ _ N] at E;cases E
end
abbrev Rs (h:Hp) (sh:Shape) (sz:Nat) (l:Sl) (xs:List sh.T):Prop:=Rw h sz (λx=>bA (sh.enc x)) l xs
section
variable {h b:Hp} {sh:Shape} {sz:Nat} {l:Sl} {xs:List sh.T} {K:sh.T->Prop} {i:Int}
theorem Rs.get (r:Rs h sh sz l xs) (e:∀x,(bA (sh.enc x)).length=sz) (j:0<sz) (c:0<=i) (d:i<(xs.length:Int)) (f:∀x,xs[i.toNat]? =some x->K x):
  bI l.base l.len i/\aN none sh h (sat l.base sz i) K:=by
 obtain ⟨a,x,k,g⟩:=Rw.read r e j c (by rw [r.1];exact d);exact ⟨a,x,g,f x k⟩
theorem mE (r:Rs h sh sz l xs) (e:∀x,xs[i.toNat]? =some x->K x) (d:∀x,(bA (sh.enc x)).length=sz:=by exact λ_=>rfl) (f:0<sz:=by omega) (a:0<=i:=by omega) (c:i<(xs.length:Int):=by omega):bI l.base l.len i/\aN none sh h (sat l.base sz i) K:=r.get d f a c e
theorem Rs.pH {c:Bool} (r:Rs h sh sz l xs) (f:sh.T) (j:∀x,(bA (sh.enc x)).length=sz) (m:0<sz) (a:c=true->0<=i/\i<(xs.length:Int)) (d:∀x,(c=true->xs[i.toNat]? =some x)->K x):
  (c=true->bI l.base l.len i)/\aN (some c) sh h (sat l.base sz i) K:=by
 cases c with
 | false=>exact ⟨λe=>(by cases e),f,λe=>(by cases e),d f λe=>(by cases e)⟩
 | true=>obtain ⟨g,x,n,k⟩:=Rw.read r j m (a rfl).1 (by rw [r.1];exact (a rfl).2);exact ⟨λ_=>g,x,λ_=>k,d x λ_=>n⟩
theorem bg {a:Addr} (x:sh.T) (d:aZ h a (bA (sh.enc x))) (c:K x):aN none sh h a K:=⟨x,d,c⟩
theorem aE {a:Type} {x:a} {K:a->Prop} (c:K x):aF x K:=λ_ e=>e▸c
theorem wrap64 {n:Int} (a: -9223372036854775808<=n) (c:n<9223372036854775808):yw n=n:=by
 (try unfold yw);unfold IntKind.wrap
 simp only [IntKind.signed,IntKind.bits];grind
theorem aV {n:Int} (h0: -9223372036854775808<=n:=by omega) (a:n<9223372036854775808:=by omega):yw n=n:=wrap64 h0 a
end
theorem wW {g:Type} {h0 h:Hp} {sz:Nat} {enc:g->List Value} {c:List Value} {xs:List g} {K:Addr->Hp->Prop} (p:h0<=h) (k:c=xs.flatMap enc) (f:∀x,(enc x).length=sz)
  (l:∀a d,h<=d->Own h0 d sz enc ⟨some a,xs.length,xs.length⟩ xs->K a d):bc c K h:=by
 intro b t hb;have m:h<=h.set b (.cells c.toArray t (0,0)):=λi o e=>by
  have n:i≠b:=λq=>by grind
  simp [Hp.set,n,e]
 refine l _ _ m ⟨rfl,Nat.le_refl _,.inr ⟨b,c,t,rfl,by simp [Hp.set],?_,?_,?_⟩⟩
 ·rw [k,jv f]
 ·have:(xs.length*sz)=(xs.flatMap enc).length:=(jv f xs).symm;grind
 ·cases j:h0 b with
  | none=>rfl
  | some r=>rw [p _ _ j] at hb;cases hb
def qU (h b:Hp):Prop:=∀a v,dy h a=some v->dy b a=some v
theorem qU.of_le {h a:Hp} (b:h<=a):qU h a:=λ_ _ e=>Oy b e
theorem MC {h c:Hp} (d:qU h c) {a:Addr} {b:List Value} (e:aZ h a b):aZ c a b:=λi v hv=>d _ _ (e i v hv)
theorem Rw.ck {d:Type} {h b:Hp} {sz:Nat} {enc:d->List Value} {l:Sl} {c:List d} (k:qU h b) (r:Rw h sz enc l c):Rw b sz enc l c:=by obtain ⟨e,f,g⟩:=r;refine ⟨e,f,g.imp id ?_⟩;rintro ⟨a,i,j⟩;exact ⟨a,i,MC k j⟩
theorem abZ {h:Hp} {m:Nat} {o b:Obj} (e:h m=some o) (f:isCells o=false):qU h (h.set m b):=by
 intro a v hv;obtain ⟨c,t,fr,hb,j,i⟩:=HB hv;have g:a.block≠m:=λd=>by rw [d,e] at hb;cases hb;cases f
 unfold dy at hv ⊢;have:(h.set m b) a.block=h a.block:=by simp [Hp.set,g]
 rw [this];exact hv
theorem mY {h:Hp} {b:Nat} {o:Obj} (d:h b=none):h<=h.set b o:=λa g e=>by
 have f:a≠b:=λc=>by rw [c,d] at e;cases e
 simp [Hp.set,f,e]
theorem nz {h:Hp} {b:Nat} {o:Obj}:(h.set b o) b=some o:=by simp [Hp.set]
theorem KI {h a:Hp} {b:Nat} {o:Obj} (f:a<=h) (g:a b=none):a<=h.set b o:=λc j e=>by
 have i:c≠b:=λd=>by rw [d,g] at e;cases e
 simp only [Hp.set,i,if_false];exact f _ _ e
theorem qj {a h:Hp} {b:Nat} (d:a<=h) (c:h b=none):a b=none:=by
 cases e:a b with
 | none=>rfl
 | some o=>rw [d _ _ e] at c;cases c
theorem Hc {h:Hp} {b t:Nat} {cs:List Value}:aZ (h.set b (.cells cs.toArray t (0,0))) ⟨b,0,none⟩ cs:=λi v hv=>by rw [kE,Fh nz,Nat.zero_add];exact hv
theorem R9 {a:Type} {A:(a->Hp->Prop)->Hp->Prop} {K:a->Hp->Prop} {h:Hp} (b:A K h):dm (some true) A K h:=⟨λ_=>b,λe=>by cases e⟩
theorem aJ {p:Addr} {c:Option Bool} {K:Addr->Prop} (a:K p):ah c (some p) K:=by
 refine ⟨p,?_,a⟩;cases c with
 | none=>rfl
 | some b=>exact λ_=>rfl
theorem FZ {P:Program} {t:Nat} {d:TypeDesc} (b:P.underlying t=some d) {K:TypeDesc->Hp->Prop} {h:Hp} (a:K d h):dz P (underlying t) K h:=by
 show dz P (match P.underlying t with
  | some d=>Sem.pure d
  | none=>_) K h
 rw [b];exact a
theorem Fz {P:Program} {tb:Tb} (ok:tb.Ok P) {t:Nat} {e:Ty} (f:tb.ty t=some e) {K:Value->Hp->Prop} {h:Hp} (g:K e.zero h):dz P (zeroValue t) K h:=by
 obtain ⟨i,b,_,_,c⟩:=ok.info t e f;have key:dz P (match P.info? t with
  | some d=>(match d.zero with
   | some v=>Sem.pure v
   | none=>unsupported (.resourceLimit "a value of more than 2^22 cells"))
  | none=>stuck "no such type") K h:=by
  rw [b];dsimp only;rw [c];exact g
 cases a:P.info? t with
 | none=>rw [b] at a;cases a
 | some d=>
  rw [a] at key;show dz P (Sem.bind (match P.info? t with
   | some d=>Sem.pure d
   | none=>_) _) K h
  rw [a];exact key
theorem Mz {P:Program} {s:Sem Value} {h:Hp} {v:Value} (e:dz P s (λu b=>u=v/\b=h) h):kY P s h v:=by intro w g;obtain ⟨a,j,b,f,⟨c,d⟩,i⟩:=Qa s g e;subst c;subst d;exact ⟨j,f,i⟩
theorem OW {P:Program} {s:Sem Value} {h:Hp} {v:Value} (a:∀w,s.run P w=.ok v w):kY P s h v:=λw b=>⟨w,a w,.refl b⟩
theorem RM {P:Program} {t e:Nat} {x y:Operand} {h:Hp} (g:P.underlying t=some (.slice e)) (s:Sl):kY P (dx .eql t x y s.v (.slice none 0 0)) h (.bool s.base.isNone):=by
 have key:∀d,dz P (Op.equalIn (d+1) t s.v (.slice none 0 0)) (λu c=>u=s.base.isNone/\c=h) h:=by
  intro d;unfold Op.equalIn;refine (Fk _ _).2 (FZ g ?_);cases hb:s.base with
  | none=>simp only [Sl.v,hb];exact ⟨rfl,rfl⟩
  | some a=>simp only [Sl.v,hb];exact ⟨rfl,rfl⟩
 refine Mz ?_;show dz P (Sem.bind (Op.equal t s.v (.slice none 0 0)) λb=>Sem.pure (Value.bool b)) _ h;refine (Fk _ _).2 (Uo _ (λa k f=> ?_) (key 9999));obtain ⟨rfl,rfl⟩:=f;exact ⟨rfl,rfl⟩
theorem U8 {h:Hp} {a:Addr} {b:List Value} (e:aZ h a b) (n:Nat):aZ h (a.add n) (b.drop n):=λi v hv=>by rw [vV];exact e (n+i) v (by simpa [List.getElem?_drop] using hv)
theorem BU {c:Type} {sz:Nat} {enc:c->List Value} (b:∀x,(enc x).length=sz):∀(a:List c) (n:Nat),(a.drop n).flatMap enc=(a.flatMap enc).drop (n*sz)
 | [],n=>by simp
 | x::a,0=>by simp
 | x::a,n+1=>by simp only [List.drop_succ_cons,List.flatMap_cons];have e:(enc x).drop (n*sz+sz)=[]:=List.drop_eq_nil_of_le (by rw [b];omega);rw [BU b a n,Nat.add_mul,Nat.one_mul,List.drop_append,b,e,List.nil_append,Nat.add_sub_cancel]
theorem C5 {c:Type} {sz:Nat} {enc:c->List Value} (b:∀x,(enc x).length=sz):∀(a:List c) (n:Nat),(a.take n).flatMap enc=(a.flatMap enc).take (n*sz)
 | [],n=>by simp
 | x::a,0=>by simp
 | x::a,n+1=>by simp only [List.take_succ_cons,List.flatMap_cons];have e:(enc x).take (n*sz+sz)=enc x:=List.take_of_length_le (by rw [b];omega);rw [C5 b a n,Nat.add_mul,Nat.one_mul,List.take_append,b,e,Nat.add_sub_cancel]
theorem Rw.cut {k:Type} {h:Hp} {sz:Nat} {enc:k->List Value} {l:Sl} {d:List k} (r:Rw h sz enc l d) (g:∀x,(enc x).length=sz) {a b c n m:Nat} (z:a<=b) (hb:b<=d.length) (B:b<=c) (s:n=b-a):
  Rw h sz enc ⟨bq l.base sz a c,n,m⟩ ((d.drop a).take (b-a)):=by
 obtain ⟨w,y,o⟩:=r;have j:((d.drop a).take (b-a)).length=b-a:=by rw [List.length_take,List.length_drop];omega
 refine ⟨s.trans j.symm,jv g _,?_⟩;rw [j];by_cases f:(b-a)*sz=0
 ·exact .inl f
 ·right;have A:b-a≠0:=λe=>f (by rw [e,Nat.zero_mul]);have t:sz≠0:=λe=>f (by rw [e,Nat.mul_zero]);have u:d.length*sz≠0:=Nat.mul_ne_zero (by omega) t;obtain ⟨p,hp,q⟩:=o.resolve_left u;refine ⟨p.add (a*sz),?_,λi v hv=> ?_⟩
  ·unfold bq;rw [if_neg (show ¬c=a by omega),hp];rfl
  ·rw [C5 g,BU g,List.getElem?_take] at hv;split at hv
   ·exact U8 q (a*sz) i v hv
   ·cases hv
structure Mv (F:List Nat) (h:Hp) (F':List Nat) (h':Hp):Prop where
 bO:∀b o,h b=some o->b∉F->h' b=some o
 from_:∀b∈F',b∈F\/h b=none
theorem Mv.refl (F:List Nat) (h:Hp):Mv F h F h:=⟨λ_ _ e _=>e,λ_ e=>.inl e⟩
theorem Mv.trans {F d f:List Nat} {h g j:Hp} (a:Mv F h d g) (b:Mv d g f j):Mv F h f j:=by
 refine ⟨λi o e c=>b.bO i o (a.bO i o e c) λk=> ?_,λi l=> ?_⟩
 ·rcases a.from_ i k with h1 | h1
  ·exact c h1
  grind
 ·rcases b.from_ i l with h1 | h1
  ·exact a.from_ i h1
  ·cases e:h i with
   | none=>exact .inr rfl
   | some o=>left;refine Classical.byContradiction λc=> ?_;rw [a.bO i o e c] at h1;cases h1
theorem Mv.of_le {h a:Hp} (F:List Nat) (c:h<=a):Mv F h F a:=⟨λb o e _=>c b o e,λ_ e=>.inl e⟩
theorem Mv.le {F c:List Nat} {h0 h d:Hp} (a:Mv F h c d) (f:h0<=h) (g:∀b∈F,h0 b=none):h0<=d/\∀b∈c,h0 b=none:=by
 refine ⟨λb o e=>a.bO b o (f b o e) λhb=>(by grind),λb hb=> ?_⟩;rcases a.from_ b hb with h1 | h1
 ·exact g b h1
 ·exact qj f h1
theorem Mv.wide {F c:List Nat} {h d:Hp} (a:Mv F h c d) (G:List Nat):Mv (F++G) h (c++G) d:=
 ⟨λb o e f=>a.bO b o e λhb=>f (List.mem_append_left _ hb),λb hb=>by
  rcases List.mem_append.1 hb with hb | hb
  ·rcases a.from_ b hb with h1 | h1
   ·exact .inl (List.mem_append_left _ h1)
   ·exact .inr h1
  grind⟩
theorem Mv.sub {F c G d:List Nat} {h f:Hp} (a:Mv F h c f) (g:∀b∈F,b∈G) (i:∀b∈d,b∈c\/b∈G\/h b=none):Mv G h d f:=
 ⟨λb o e j=>a.bO b o e λhb=>j (g b hb),λb hb=>by
  rcases i b hb with h3 | h3
  ·rcases a.from_ b h3 with h4 | h4
   ·grind
   ·exact .inr h4
  ·exact h3⟩
theorem Mv.set {h:Hp} {b:Nat} {o:Obj}:Mv [b] h [b] (h.set b o):=by refine ⟨λi x e c=> ?_,λi a=>.inl a⟩;have d:i≠b:=λf=>c (by grind);simp only [Hp.set,d,if_false];exact e
theorem Mv.new {h:Hp} {b:Nat} {o:Obj} (a:h b=none):Mv [] h [b] (h.set b o):=
 ⟨λi x e _=>mY a i x e,λi c=>.inr (by grind)⟩
def eS (h:Hp) (b:Nat) (a:List Value):Prop:=∃t,h b=some (.cells a.toArray t (0,0))
theorem eS.mv {F f:List Nat} {h d:Hp} {b:Nat} {c:List Value} (k:eS h b c) (a:Mv F h f d) (g:b∉F):eS d b c:=by obtain ⟨t,e⟩:=k;exact ⟨t,a.bO b _ e g⟩
theorem eS.le {h c:Hp} {b:Nat} {a:List Value} (k:eS h b a) (d:h<=c):eS c b a:=by obtain ⟨t,e⟩:=k;exact ⟨t,d _ _ e⟩
theorem eS.known {h:Hp} {b:Nat} {a:List Value} (k:eS h b a):h b≠none:=by obtain ⟨t,e⟩:=k;rw [e];simp
def at_ (b off:Nat):Addr:=⟨b,off,none⟩
theorem eS.bU {h:Hp} {b:Nat} {cs:List Value} (k:eS h b cs) {off n:Nat} {a:List Value} (e:(cs.drop off).take n=a):aZ h ⟨b,off,none⟩ a:=by obtain ⟨t,hb⟩:=k;intro i v hv;rw [kE,Fh hb];grind
theorem eS.uV {h:Hp} {b:Nat} {a:List Value} (k:eS h b a) {off:Nat}:∀n,off+n<=a.length->tf h ⟨b,off,none⟩ n
 | 0,_=>trivial
 | n+1,c=>by
  obtain ⟨t,hb⟩:=k;refine ⟨eS.uV ⟨t,hb⟩ n (by omega),⟨a[off+n]'(by omega),?_⟩,?_⟩
  ·rw [kE,Fh hb];simp
  ·rw [kE];unfold ic;simp [hb]
theorem eS.put {h:Hp} {b:Nat} {a new:List Value} (k:eS h b a) {off:Nat} (d:off+new.length<=a.length):
  eS (lz h ⟨b,off,none⟩ new 0) b (a.take off++new++a.drop (off+new.length))/\∀c,c≠b->(lz h ⟨b,off,none⟩ new 0) c=h c:=by
 obtain ⟨t,hb⟩:=k;obtain ⟨e,f⟩:=Bi b t new h 0 off a (by simpa using d) hb;rw [Nat.add_zero,Cm _ _ _ d] at e;exact ⟨⟨t,e⟩,f⟩
theorem Mv.lV {h c:Hp} {b:Nat} (g:∀a,a≠b->c a=h a):Mv [b] h [b] c:=
 ⟨λi o e f=>by grind,λi d=>.inl d⟩
theorem qQ {h:Hp} {b:Nat} {cs new:List Value} {off:Nat} {K:Hp->Prop} (k:eS h b cs) (c:off+new.length<=cs.length)
  (d:∀a,Mv [b] h [b] a->eS a b (cs.take off++new++cs.drop (off+new.length))->K a):cX h ⟨b,off,none⟩ new K:=by
 obtain ⟨e,f⟩:=k.put c;exact ⟨k.uV _ c,d _ (Mv.lV f) e⟩
section
variable {α:Type} {h:Hp} {sz:Nat} {enc:α->List Value} {l:Sl} {xs:List α}
def dF (h:Hp) (sz:Nat) (enc:α->List Value) (l:Sl) (xs:List α) (F:List Nat):Prop:=
 l.len=xs.length/\l.len<=l.cap/\((l.base=none/\l.cap=0/\F=[])\/
  ∃(b:Nat) (a:List Value),l.base=some ⟨b,0,none⟩/\F=[b]/\eS h b a/\a.length=l.cap*sz/\a.take (l.len*sz)=xs.flatMap enc)
theorem dF.own {F:List Nat} {h0:Hp} (o:dF h sz enc l xs F) (m:∀b∈F,h0 b=none):Own h0 h sz enc l xs:=by
 obtain ⟨d,e,f⟩:=o;refine ⟨d,e,?_⟩;rcases f with ⟨a,c,_⟩ | ⟨b,g,a,rfl,⟨t,i⟩,j,k⟩
 ·exact .inl ⟨a,c⟩
 grind
theorem dF.rw {F:List Nat} (o:dF h sz enc l xs F) (a:∀x,(enc x).length=sz):Rw h sz enc l xs:=(o.own (h0:=λ_=>none) λ_ _=>rfl).rw a
theorem Own.wE {c:Hp} (o:Own c h sz enc l xs):∃F,dF h sz enc l xs F/\∀b∈F,c b=none:=by
 obtain ⟨d,e,m⟩:=o;rcases m with ⟨a,g⟩ | ⟨b,f,t,a,i,j,k,p⟩
 ·exact ⟨[],⟨d,e,.inl ⟨a,g,rfl⟩⟩,λb hb=>by cases hb⟩
 ·exact ⟨[b],⟨d,e,.inr ⟨b,f,a,rfl,⟨t,i⟩,j,k⟩⟩,λn hb=>by grind⟩
theorem dF.known {F:List Nat} (o:dF h sz enc l xs F):∀b∈F,h b≠none:=by
 obtain ⟨_,_,c⟩:=o;rcases c with ⟨_,_,rfl⟩ | ⟨b,e,_,rfl,a,_,_⟩
 ·simp
 ·intro d hb;rw [List.mem_singleton.1 hb];exact a.known
theorem dF.same {F:List Nat} {a:Hp} (o:dF h sz enc l xs F) (k:∀b∈F,a b=h b):dF a sz enc l xs F:=by obtain ⟨f,g,i⟩:=o;refine ⟨f,g,i.imp id ?_⟩;rintro ⟨b,c,d,rfl,⟨t,j⟩,e⟩;exact ⟨b,c,d,rfl,⟨t,by grind⟩,e⟩
theorem dF.mv {F G d:List Nat} {c:Hp} (o:dF h sz enc l xs F) (a:Mv G h d c) (n:∀b∈F,b∉G):dF c sz enc l xs F:=by obtain ⟨j,k,m⟩:=o;refine ⟨j,k,m.imp id ?_⟩;rintro ⟨b,e,f,rfl,g,i⟩;exact ⟨b,e,f,rfl,g.mv a (n b (List.mem_singleton.2 rfl)),i⟩
theorem lT {c:List Value} {K:Addr->Hp->Prop} (e:c=xs.flatMap enc) (d:∀x,(enc x).length=sz)
  (f:∀b a,h b=none->h<=a->Mv [] h [b] a->dF a sz enc ⟨some ⟨b,0,none⟩,xs.length,xs.length⟩ xs [b]->K ⟨b,0,none⟩ a):bc c K h:=by
 intro b t hb;refine f b _ hb (mY hb) (Mv.new hb) ⟨rfl,Nat.le_refl _,.inr ⟨b,c,rfl,rfl,⟨t,nz⟩,?_,?_⟩⟩
 ·rw [e,jv d]
 ·have:(xs.length*sz)=(xs.flatMap enc).length:=(jv d xs).symm;grind
theorem xV {F:List Nat} {zero:List Value} {bytes:Nat} {x:Sl} {d:List α} {K:Sl->Hp->Prop} (o:dF h sz enc l xs F) (r:Rw h sz enc x d) (f:∀x,(enc x).length=sz) (J:∀x,jL (enc x)=true)
  (N:zero.length=sz) (hb:xs.length+d.length<=140737488355328/\(xs.length+d.length)*bytes<=140737488355328)
  (n:∀w k p,dF k sz enc w (xs++d) p->Mv F h p k->K w k):eC sz bytes zero l x K h:=by
 have L:=o.rw f;obtain ⟨g,C,D⟩:=o;obtain ⟨i,Q⟩:=r;refine ⟨d.flatMap enc,by grind,xs.flatMap enc,by rw [g];exact L.2,by grind,tX J d,λu=> ?_,λu c b t G E=> ?_⟩
 ·rcases D with ⟨e,B,rfl⟩ | ⟨b,q,e,rfl,s,H,M⟩
  ·have y:d.length=0:=by omega
   have z:d=[]:=List.length_eq_zero_iff.1 y;subst z;refine ⟨λa m=>(by grind),?_⟩;have j:gP h l.base (l.len*sz) (([]:List α).flatMap enc)=h:=by rw [e];rfl
   rw [j,i];exact n _ h [] ⟨by simp [g],by simpa using C,.inl ⟨e,B,rfl⟩⟩ (Mv.refl _ _)
  ·have v:l.len*sz+(d.flatMap enc).length<=q.length:=by rw [H,jv f,<-Nat.add_mul];exact Nat.mul_le_mul_right sz (by omega)
   obtain ⟨O,P⟩:=s.put v;refine ⟨λa m=> ?_,?_⟩
   ·rw [e] at m;cases m;rw [kE,Nat.zero_add];refine s.uV _ ?_;rw [i,<-jv f d];exact v
   ·have j:gP h l.base (l.len*sz) (d.flatMap enc)=lz h ⟨b,l.len*sz,none⟩ (d.flatMap enc) 0:=by rw [e];simp only [gP,kE,Nat.zero_add]
    rw [j];refine n _ _ [b] ⟨by simp [g,i],u,.inr ⟨b,_,e,rfl,O,?_,?_⟩⟩ (Mv.lV P)
    ·grind
    ·have A:(l.len+x.len)*sz=(q.take (l.len*sz)++d.flatMap enc).length:=by rw [List.length_append,M,jv f,jv f,g,i,Nat.add_mul]
     grind
 ·have I:Mv F h [b] (h.set b (.cells (xs.flatMap enc++d.flatMap enc++fC zero (c-(l.len+x.len))).toArray t (0,0))):=
   (Mv.new E).sub (λb hb=>by cases hb) λb hb=>.inl hb
  refine n _ _ [b] ⟨by simp [g,i],G,.inr ⟨b,xs.flatMap enc++d.flatMap enc++fC zero (c-(l.len+x.len)),rfl,rfl,⟨t,nz⟩,?_,?_⟩⟩ I
  ·rw [List.length_append,List.length_append,jv f,jv f,BO,N,<-Nat.add_mul,<-Nat.add_mul];grind
  ·have A:(l.len+x.len)*sz=(xs.flatMap enc++d.flatMap enc).length:=by rw [List.length_append,jv f,jv f,g,i,Nat.add_mul]
   grind
end
theorem vb {F e E:List Nat} {k d:Hp} (m:Mv F k e d) (f:∀c∈E,k c≠none) (g:∀c∈E,c∉F):∀c∈E,d c=k c:=λc a=>by
 cases b:k c with
 | none=>exact absurd b (f c a)
 | some o=>exact m.bO c o b (g c a)
theorem Mv.less {F d E:List Nat} {h e:Hp} (a:Mv F h d e) (f:∀c∈E,c∈d):Mv F h E e:=⟨a.bO,λb hb=>a.from_ b (f b hb)⟩
abbrev qW (x:Int):Prop:=0<=x/\x<18446744073709551616
def bit (x:Int) (n:Nat):Bool:=x.toNat.testBit n
theorem tW {x:Int} (h:qW x):IntKind.wrap .u64 x=x:=by
 (try unfold yw);unfold IntKind.wrap
 simp only [IntKind.signed,IntKind.bits];have:=h.1;have:=h.2;simp;omega
theorem Bl {x:Int} (h:qW x):BitVec.ofInt 64 x=BitVec.ofNat 64 x.toNat:=by obtain ⟨n,rfl⟩:=Int.eq_ofNat_of_zero_le h.1;rfl
theorem Z9 {a b:Int} (j:qW a) (hb:qW b):(eK .andNot .u64 a b==0)=true↔∀n,n<64->bit a n=true->bit b n=true:=by
 have e:eK .andNot .u64 a b=(((BitVec.ofNat 64 a.toNat)&&& ~~~ (BitVec.ofNat 64 b.toNat)).toNat:Int):=by show IntKind.wrap .u64 ((BitVec.ofInt 64 a&&& ~~~ BitVec.ofInt 64 b).toNat:Int)=_;rw [Bl j,Bl hb,tW ⟨by omega,by have:=((BitVec.ofNat 64 a.toNat)&&& ~~~ (BitVec.ofNat 64 b.toNat)).isLt;omega⟩]
 rw [e];have i:((((BitVec.ofNat 64 a.toNat)&&& ~~~ (BitVec.ofNat 64 b.toNat)).toNat:Int)==0)=true↔(BitVec.ofNat 64 a.toNat)&&& ~~~ (BitVec.ofNat 64 b.toNat)=0#64:=by rw [BitVec.toNat_eq];simp
 rw [i];have f:∀n,n<64->(BitVec.ofNat 64 a.toNat).getLsbD n=bit a n:=λn c=>by rw [BitVec.getLsbD_ofNat];simp [bit,c]
 have g:∀n,n<64->(BitVec.ofNat 64 b.toNat).getLsbD n=bit b n:=λn c=>by rw [BitVec.getLsbD_ofNat];simp [bit,c]
 constructor
 ·intro h n c d;have:=congrArg (λv=>v.getLsbD n) h;simp only [BitVec.getLsbD_and,BitVec.getLsbD_not,f n c,g n c,d,c,decide_true,Bool.true_and,BitVec.getLsbD_zero] at this;simpa using this
 ·intro h;apply BitVec.eq_of_getLsbD_eq;intro n c;simp only [BitVec.getLsbD_and,BitVec.getLsbD_not,f n c,g n c,c,decide_true,Bool.true_and,BitVec.getLsbD_zero];cases d:bit a n with
  | false=>rfl
  | true=>simp [h n c d]
structure an where
 aQ:Sl
 Table:Sl
 Fuel:Int
 fD:Int
 bE:Int
 Log:Int
 aD:Sl
abbrev an.v (x:an):Value:=.agg #[.slice x.aQ.base x.aQ.len x.aQ.cap,.slice x.Table.base x.Table.len x.Table.cap,.int .i64 x.Fuel,.int .i64 x.fD,.int .i64 x.bE,.int .i64 x.Log,.slice x.aD.base x.aD.len x.aD.cap]
@[reducible] def aA : Shape where
 T:=an
 enc:=an.v
 dec:=λv=>match v with
  | .agg ⟨[.slice a0 a d,.slice a1 b e,.int .i64 a2,.int .i64 a3,.int .i64 a4,.int .i64 a5,.slice a6 c f]⟩=>some ⟨⟨a0,a,d⟩,⟨a1,b,e⟩,a2,a3,a4,a5,⟨a6,c,f⟩⟩
  | _=>none
 ok:=by intro v x h;split at h<;>cases h;rfl
structure ed where
 jw:Sl
 kG:Sl
 uD:Int
 uE:Int
 rN:Int
 xE:Int
 kF:Sl
 jx:Sl
 kI:Sl
 uF:Int
 uG:Int
 rO:Int
 xF:Int
 kH:Sl
 S:Sl
 T:Sl
 Label:Int
abbrev ed.v (x:ed):Value:=.agg #[.slice x.jw.base x.jw.len x.jw.cap,.slice x.kG.base x.kG.len x.kG.cap,.int .i64 x.uD,.int .i64 x.uE,.int .i64 x.rN,.int .i64 x.xE,.slice x.kF.base x.kF.len x.kF.cap,.slice x.jx.base x.jx.len x.jx.cap,.slice x.kI.base x.kI.len x.kI.cap,.int .i64 x.uF,.int .i64 x.uG,.int .i64 x.rO,.int .i64 x.xF,.slice x.kH.base x.kH.len x.kH.cap,.slice x.S.base x.S.len x.S.cap,.slice x.T.base x.T.len x.T.cap,.int .u64 x.Label]
@[reducible] def zye : Shape where
 T:=ed
 enc:=ed.v
 dec:=λv=>match v with
  | .agg ⟨[.slice a0 k s,.slice a1 l t,.int .i64 a2,.int .i64 a3,.int .i64 a4,.int .i64 a5,.slice a6 p z,.slice a7 q A,.slice i r B,.int .i64 j,.int .i64 a,.int .i64 b,.int .i64 c,.slice d m u,.slice e n w,.slice f o y,.int .u64 g]⟩=>some ⟨⟨a0,k,s⟩,⟨a1,l,t⟩,a2,a3,a4,a5,⟨a6,p,z⟩,⟨a7,q,A⟩,⟨i,r,B⟩,j,a,b,c,⟨d,m,u⟩,⟨e,n,w⟩,⟨f,o,y⟩,g⟩
  | _=>none
 ok:=by intro v x h;split at h<;>cases h;rfl
structure jk where
 jw:Sl
 kG:Sl
 uD:Int
 uE:Int
 rN:Int
 xE:Int
 kF:Sl
 jx:Sl
 kI:Sl
 uF:Int
 uG:Int
 rO:Int
 xF:Int
 kH:Sl
 S:Sl
 T:Sl
 Label:Int
abbrev jk.v (x:jk):Value:=.agg #[.slice x.jw.base x.jw.len x.jw.cap,.slice x.kG.base x.kG.len x.kG.cap,.int .i64 x.uD,.int .i64 x.uE,.int .i64 x.rN,.int .i64 x.xE,.slice x.kF.base x.kF.len x.kF.cap,.slice x.jx.base x.jx.len x.jx.cap,.slice x.kI.base x.kI.len x.kI.cap,.int .i64 x.uF,.int .i64 x.uG,.int .i64 x.rO,.int .i64 x.xF,.slice x.kH.base x.kH.len x.kH.cap,.slice x.S.base x.S.len x.S.cap,.slice x.T.base x.T.len x.T.cap,.int .u64 x.Label]
@[reducible] def aaX : Shape where
 T:=jk
 enc:=jk.v
 dec:=λv=>match v with
  | .agg ⟨[.slice a0 k s,.slice a1 l t,.int .i64 a2,.int .i64 a3,.int .i64 a4,.int .i64 a5,.slice a6 p z,.slice a7 q A,.slice i r B,.int .i64 j,.int .i64 a,.int .i64 b,.int .i64 c,.slice d m u,.slice e n w,.slice f o y,.int .u64 g]⟩=>some ⟨⟨a0,k,s⟩,⟨a1,l,t⟩,a2,a3,a4,a5,⟨a6,p,z⟩,⟨a7,q,A⟩,⟨i,r,B⟩,j,a,b,c,⟨d,m,u⟩,⟨e,n,w⟩,⟨f,o,y⟩,g⟩
  | _=>none
 ok:=by intro v x h;split at h<;>cases h;rfl
structure dv where
 Kind:Int
 N:Int
 V:Int
abbrev dv.v (x:dv):Value:=.agg #[.int .i64 x.Kind,.int .i64 x.N,.int .i64 x.V]
@[reducible] def dB : Shape where
 T:=dv
 enc:=dv.v
 dec:=λv=>match v with
  | .agg ⟨[.int .i64 a0,.int .i64 a1,.int .i64 a2]⟩=>some ⟨a0,a1,a2⟩
  | _=>none
 ok:=by intro v x h;split at h<;>cases h;rfl
structure aH where
 eZ:Int
 cS:Sl
 aD:Sl
abbrev aH.v (x:aH):Value:=.agg #[.int .i64 x.eZ,.slice x.cS.base x.cS.len x.cS.cap,.slice x.aD.base x.aD.len x.aD.cap]
@[reducible] def ov : Shape where
 T:=aH
 enc:=aH.v
 dec:=λv=>match v with
  | .agg ⟨[.int .i64 a0,.slice a1 a c,.slice a2 b d]⟩=>some ⟨a0,⟨a1,a,c⟩,⟨a2,b,d⟩⟩
  | _=>none
 ok:=by intro v x h;split at h<;>cases h;rfl
structure eu where
 jy:Sl
 kK:Sl
 uH:Int
 uI:Int
 rQ:Int
 xG:Int
 kJ:Sl
 Steps:Sl
abbrev eu.v (x:eu):Value:=.agg #[.slice x.jy.base x.jy.len x.jy.cap,.slice x.kK.base x.kK.len x.kK.cap,.int .i64 x.uH,.int .i64 x.uI,.int .i64 x.rQ,.int .i64 x.xG,.slice x.kJ.base x.kJ.len x.kJ.cap,.slice x.Steps.base x.Steps.len x.Steps.cap]
@[reducible] def SR : Shape where
 T:=eu
 enc:=eu.v
 dec:=λv=>match v with
  | .agg ⟨[.slice a0 a e,.slice a1 b f,.int .i64 a2,.int .i64 a3,.int .i64 a4,.int .i64 a5,.slice a6 c g,.slice a7 d i]⟩=>some ⟨⟨a0,a,e⟩,⟨a1,b,f⟩,a2,a3,a4,a5,⟨a6,c,g⟩,⟨a7,d,i⟩⟩
  | _=>none
 ok:=by intro v x h;split at h<;>cases h;rfl
structure bR where
 Part:Int
 Code:Sl
abbrev bR.v (x:bR):Value:=.agg #[.int .i64 x.Part,.slice x.Code.base x.Code.len x.Code.cap]
@[reducible] def bT : Shape where
 T:=bR
 enc:=bR.v
 dec:=λv=>match v with
  | .agg ⟨[.int .i64 a0,.slice a1 a b]⟩=>some ⟨a0,⟨a1,a,b⟩⟩
  | _=>none
 ok:=by intro v x h;split at h<;>cases h;rfl
structure ng where
 a0:Int
 a1:Int
abbrev ng.v (x:ng):Value:=.agg #[.int .i64 x.a0,.int .i64 x.a1]
@[reducible] def U9 : Shape where
 T:=ng
 enc:=ng.v
 dec:=λv=>match v with
  | .agg ⟨[.int .i64 a0,.int .i64 a1]⟩=>some ⟨a0,a1⟩
  | _=>none
 ok:=by intro v x h;split at h<;>cases h;rfl
structure il where
 a0:Int
 a1:Int
 a2:Int
 a3:Int
 a4:Int
 a5:Int
 a6:Int
 a7:Int
abbrev il.v (x:il):Value:=.agg #[.int .i64 x.a0,.int .i64 x.a1,.int .i64 x.a2,.int .i64 x.a3,.int .i64 x.a4,.int .i64 x.a5,.int .i64 x.a6,.int .i64 x.a7]
@[reducible] def Af : Shape where
 T:=il
 enc:=il.v
 dec:=λv=>match v with
  | .agg ⟨[.int .i64 a0,.int .i64 a1,.int .i64 a2,.int .i64 a3,.int .i64 a4,.int .i64 a5,.int .i64 a6,.int .i64 a7]⟩=>some ⟨a0,a1,a2,a3,a4,a5,a6,a7⟩
  | _=>none
 ok:=by intro v x h;split at h<;>cases h;rfl
structure aK where
 State:Int
 PC:Int
 cl:Int
 cm:Int
 cn:Int
 cp:Int
 cq:Int
 cv:Int
 cw:Int
 cC:Int
 Cursor:Int
 Timer:Int
 fH:Bool
 iU:Int
 cR:Sl
abbrev aK.v (x:aK):Value:=.agg #[.int .i64 x.State,.int .i64 x.PC,.int .i64 x.cl,.int .i64 x.cm,.int .i64 x.cn,.int .i64 x.cp,.int .i64 x.cq,.int .i64 x.cv,.int .i64 x.cw,.int .i64 x.cC,.int .i64 x.Cursor,.int .i64 x.Timer,.bool x.fH,.int .i64 x.iU,.slice x.cR.base x.cR.len x.cR.cap]
@[reducible] def aI : Shape where
 T:=aK
 enc:=aK.v
 dec:=λv=>match v with
  | .agg ⟨[.int .i64 a0,.int .i64 a1,.int .i64 a2,.int .i64 a3,.int .i64 a4,.int .i64 a5,.int .i64 a6,.int .i64 a7,.int .i64 f,.int .i64 g,.int .i64 a,.int .i64 b,.bool c,.int .i64 d,.slice e i j]⟩=>some ⟨a0,a1,a2,a3,a4,a5,a6,a7,f,g,a,b,c,d,⟨e,i,j⟩⟩
  | _=>none
 ok:=by intro v x h;split at h<;>cases h;rfl
structure aS where
 Op:Int
 A:Int
 B:Int
 C:Int
 jM:Int
abbrev aS.v (x:aS):Value:=.agg #[.int .i64 x.Op,.int .i64 x.A,.int .i64 x.B,.int .i64 x.C,.int .i64 x.jM]
@[reducible] def aT : Shape where
 T:=aS
 enc:=aS.v
 dec:=λv=>match v with
  | .agg ⟨[.int .i64 a0,.int .i64 a1,.int .i64 a2,.int .i64 a3,.int .i64 a4]⟩=>some ⟨a0,a1,a2,a3,a4⟩
  | _=>none
 ok:=by intro v x h;split at h<;>cases h;rfl
structure jS where
 m:Option Addr
 l:Sl
 at_:Int
 left:Int
 IC:Int
 owner:Int
abbrev jS.v (x:jS):Value:=.agg #[.pointer x.m,.slice x.l.base x.l.len x.l.cap,.int .i64 x.at_,.int .i64 x.left,.int .i64 x.IC,.int .i64 x.owner]
@[reducible] def acP : Shape where
 T:=jS
 enc:=jS.v
 dec:=λv=>match v with
  | .agg ⟨[.pointer a0,.slice a1 a b,.int .i64 a2,.int .i64 a3,.int .i64 a4,.int .i64 a5]⟩=>some ⟨a0,⟨a1,a,b⟩,a2,a3,a4,a5⟩
  | _=>none
 ok:=by intro v x h;split at h<;>cases h;rfl
structure bM where
 Cursor:Int
 Log:Sl
 lu:Int
 dp:Int
 cE:Sl
 bQ:Sl
abbrev bM.v (x:bM):Value:=.agg #[.int .i64 x.Cursor,.slice x.Log.base x.Log.len x.Log.cap,.int .i64 x.lu,.int .i64 x.dp,.slice x.cE.base x.cE.len x.cE.cap,.slice x.bQ.base x.bQ.len x.bQ.cap]
@[reducible] def bx : Shape where
 T:=bM
 enc:=bM.v
 dec:=λv=>match v with
  | .agg ⟨[.int .i64 a0,.slice a1 a d,.int .i64 a2,.int .i64 a3,.slice a4 b e,.slice a5 c f]⟩=>some ⟨a0,⟨a1,a,d⟩,a2,a3,⟨a4,b,e⟩,⟨a5,c,f⟩⟩
  | _=>none
 ok:=by intro v x h;split at h<;>cases h;rfl
structure bf where
 dq:Sl
 fw:Sl
 iV:Int
 gC:Int
 fR:Int
 iL:Int
 bW:Sl
 table:Option Addr
 vL:Option Addr
 tick:Int
 parts:Sl
 procs:Sl
abbrev bf.v (x:bf):Value:=.agg #[.slice x.dq.base x.dq.len x.dq.cap,.slice x.fw.base x.fw.len x.fw.cap,.int .i64 x.iV,.int .i64 x.gC,.int .i64 x.fR,.int .i64 x.iL,.slice x.bW.base x.bW.len x.bW.cap,.pointer x.table,.pointer x.vL,.int .i64 x.tick,.slice x.parts.base x.parts.len x.parts.cap,.slice x.procs.base x.procs.len x.procs.cap]
@[reducible] def Mh : Shape where
 T:=bf
 enc:=bf.v
 dec:=λv=>match v with
  | .agg ⟨[.slice a0 e k,.slice a1 f l,.int .i64 a2,.int .i64 a3,.int .i64 a4,.int .i64 a5,.slice a6 j o,.pointer a7,.pointer c,.int .i64 d,.slice a g m,.slice b i n]⟩=>some ⟨⟨a0,e,k⟩,⟨a1,f,l⟩,a2,a3,a4,a5,⟨a6,j,o⟩,a7,c,d,⟨a,g,m⟩,⟨b,i,n⟩⟩
  | _=>none
 ok:=by intro v x h;split at h<;>cases h;rfl
structure bw where
 procs:Sl
 ai:Int
 log:Sl
 lost:Int
 forbidden:Int
 ag:Option Addr
 eM:Option Addr
abbrev bw.v (x:bw):Value:=.agg #[.slice x.procs.base x.procs.len x.procs.cap,.int .i64 x.ai,.slice x.log.base x.log.len x.log.cap,.int .i64 x.lost,.int .i64 x.forbidden,.pointer x.ag,.pointer x.eM]
@[reducible] def Ad : Shape where
 T:=bw
 enc:=bw.v
 dec:=λv=>match v with
  | .agg ⟨[.slice a0 a c,.int .i64 a1,.slice a2 b d,.int .i64 a3,.int .i64 a4,.pointer a5,.pointer a6]⟩=>some ⟨⟨a0,a,c⟩,a1,⟨a2,b,d⟩,a3,a4,a5,a6⟩
  | _=>none
 ok:=by intro v x h;split at h<;>cases h;rfl
structure eV where
 eZ:Int
 cU:Int
 dt:Int
abbrev eV.v (x:eV):Value:=.agg #[.int .i64 x.eZ,.int .i64 x.cU,.int .i64 x.dt]
@[reducible] def cW : Shape where
 T:=eV
 enc:=eV.v
 dec:=λv=>match v with
  | .agg ⟨[.int .i64 a0,.int .i64 a1,.int .i64 a2]⟩=>some ⟨a0,a1,a2⟩
  | _=>none
 ok:=by intro v x h;split at h<;>cases h;rfl
structure br where
 PC:Int
 cl:Int
 cm:Int
 cn:Int
 cp:Int
 cq:Int
 cv:Int
 cw:Int
 cC:Int
abbrev br.v (x:br):Value:=.agg #[.int .i64 x.PC,.int .i64 x.cl,.int .i64 x.cm,.int .i64 x.cn,.int .i64 x.cp,.int .i64 x.cq,.int .i64 x.cv,.int .i64 x.cw,.int .i64 x.cC]
@[reducible] def fM : Shape where
 T:=br
 enc:=br.v
 dec:=λv=>match v with
  | .agg ⟨[.int .i64 a0,.int .i64 a1,.int .i64 a2,.int .i64 a3,.int .i64 a4,.int .i64 a5,.int .i64 a6,.int .i64 a7,.int .i64 a]⟩=>some ⟨a0,a1,a2,a3,a4,a5,a6,a7,a⟩
  | _=>none
 ok:=by intro v x h;split at h<;>cases h;rfl
structure aW where
 dY:Int
 part:Int
 code:Sl
 state:Int
 kO:Int
 gF:Int
 gG:Int
 gH:Int
 gI:Int
 gJ:Int
 gK:Int
 gL:Int
 gM:Int
 bB:Bool
 post:Option Addr
abbrev aW.v (x:aW):Value:=.agg #[.int .i64 x.dY,.int .i64 x.part,.slice x.code.base x.code.len x.code.cap,.int .i64 x.state,.int .i64 x.kO,.int .i64 x.gF,.int .i64 x.gG,.int .i64 x.gH,.int .i64 x.gI,.int .i64 x.gJ,.int .i64 x.gK,.int .i64 x.gL,.int .i64 x.gM,.bool x.bB,.pointer x.post]
@[reducible] def bK : Shape where
 T:=aW
 enc:=aW.v
 dec:=λv=>match v with
  | .agg ⟨[.int .i64 a0,.int .i64 a1,.slice a2 i j,.int .i64 a3,.int .i64 a4,.int .i64 a5,.int .i64 a6,.int .i64 a7,.int .i64 f,.int .i64 g,.int .i64 a,.int .i64 b,.int .i64 c,.bool d,.pointer e]⟩=>some ⟨a0,a1,⟨a2,i,j⟩,a3,a4,a5,a6,a7,f,g,a,b,c,d,e⟩
  | _=>none
 ok:=by intro v x h;split at h<;>cases h;rfl
structure mg where
 a0:Bool
 a1:Bool
 a2:Bool
 a3:Bool
abbrev mg.v (x:mg):Value:=.agg #[.bool x.a0,.bool x.a1,.bool x.a2,.bool x.a3]
@[reducible] def Tw : Shape where
 T:=mg
 enc:=mg.v
 dec:=λv=>match v with
  | .agg ⟨[.bool a0,.bool a1,.bool a2,.bool a3]⟩=>some ⟨a0,a1,a2,a3⟩
  | _=>none
 ok:=by intro v x h;split at h<;>cases h;rfl
structure gT where
 b:Sl
abbrev gT.v (x:gT):Value:=.agg #[.slice x.b.base x.b.len x.b.cap]
@[reducible] def XY : Shape where
 T:=gT
 enc:=gT.v
 dec:=λv=>match v with
  | .agg ⟨[.slice a0 a b]⟩=>some ⟨⟨a0,a,b⟩⟩
  | _=>none
 ok:=by intro v x h;split at h<;>cases h;rfl
structure iB where
 nN:Sl
abbrev iB.v (x:iB):Value:=.agg #[.slice x.nN.base x.nN.len x.nN.cap]
@[reducible] def Zd : Shape where
 T:=iB
 enc:=iB.v
 dec:=λv=>match v with
  | .agg ⟨[.slice a0 a b]⟩=>some ⟨⟨a0,a,b⟩⟩
  | _=>none
 ok:=by intro v x h;split at h<;>cases h;rfl
structure iA where
 b:Sl
 at_:Int
 e:Int
 place:Int
abbrev iA.v (x:iA):Value:=.agg #[.slice x.b.base x.b.len x.b.cap,.int .i64 x.at_,.int .i64 x.e,.int .i64 x.place]
@[reducible] def Zg : Shape where
 T:=iA
 enc:=iA.v
 dec:=λv=>match v with
  | .agg ⟨[.slice a0 a b,.int .i64 a1,.int .i64 a2,.int .i64 a3]⟩=>some ⟨⟨a0,a,b⟩,a1,a2,a3⟩
  | _=>none
 ok:=by intro v x h;split at h<;>cases h;rfl
structure iz where
 qe:Sl
 wI:Int
 yx:Int
 ss:Int
 dq:Sl
 fw:Sl
 iV:Int
 gC:Int
 fR:Int
 iL:Int
 bW:Sl
abbrev iz.v (x:iz):Value:=.agg #[.slice x.qe.base x.qe.len x.qe.cap,.int .i64 x.wI,.int .i64 x.yx,.int .i64 x.ss,.slice x.dq.base x.dq.len x.dq.cap,.slice x.fw.base x.fw.len x.fw.cap,.int .i64 x.iV,.int .i64 x.gC,.int .i64 x.fR,.int .i64 x.iL,.slice x.bW.base x.bW.len x.bW.cap]
@[reducible] def Zj : Shape where
 T:=iz
 enc:=iz.v
 dec:=λv=>match v with
  | .agg ⟨[.slice a0 d i,.int .i64 a1,.int .i64 a2,.int .i64 a3,.slice a4 f k,.slice a5 g l,.int .i64 a6,.int .i64 a7,.int .i64 b,.int .i64 c,.slice a e j]⟩=>some ⟨⟨a0,d,i⟩,a1,a2,a3,⟨a4,f,k⟩,⟨a5,g,l⟩,a6,a7,b,c,⟨a,e,j⟩⟩
  | _=>none
 ok:=by intro v x h;split at h<;>cases h;rfl
structure dL where
 jy:Sl
 kK:Sl
 uH:Int
 uI:Int
 rQ:Int
 xG:Int
 kJ:Sl
 De:Int
 rT:Sl
 rU:Sl
abbrev dL.v (x:dL):Value:=.agg #[.slice x.jy.base x.jy.len x.jy.cap,.slice x.kK.base x.kK.len x.kK.cap,.int .i64 x.uH,.int .i64 x.uI,.int .i64 x.rQ,.int .i64 x.xG,.slice x.kJ.base x.kJ.len x.kJ.cap,.int .i64 x.De,.slice x.rT.base x.rT.len x.rT.cap,.slice x.rU.base x.rU.len x.rU.cap]
@[reducible] def zvp : Shape where
 T:=dL
 enc:=dL.v
 dec:=λv=>match v with
  | .agg ⟨[.slice a0 c i,.slice a1 d j,.int .i64 a2,.int .i64 a3,.int .i64 a4,.int .i64 a5,.slice a6 e k,.int .i64 a7,.slice a f l,.slice b g m]⟩=>some ⟨⟨a0,c,i⟩,⟨a1,d,j⟩,a2,a3,a4,a5,⟨a6,e,k⟩,a7,⟨a,f,l⟩,⟨b,g,m⟩⟩
  | _=>none
 ok:=by intro v x h;split at h<;>cases h;rfl
structure bF where
 cF:Sl
 bJ:Sl
 jc:Int
 fL:Int
abbrev bF.v (x:bF):Value:=.agg #[.slice x.cF.base x.cF.len x.cF.cap,.slice x.bJ.base x.bJ.len x.bJ.cap,.int .i64 x.jc,.int .i64 x.fL]
@[reducible] def bd : Shape where
 T:=bF
 enc:=bF.v
 dec:=λv=>match v with
  | .agg ⟨[.slice a0 a c,.slice a1 b d,.int .i64 a2,.int .i64 a3]⟩=>some ⟨⟨a0,a,c⟩,⟨a1,b,d⟩,a2,a3⟩
  | _=>none
 ok:=by intro v x h;split at h<;>cases h;rfl
structure gk where
 l:Sl
abbrev gk.v (x:gk):Value:=.agg #[.slice x.l.base x.l.len x.l.cap]
@[reducible] def Hw : Shape where
 T:=gk
 enc:=gk.v
 dec:=λv=>match v with
  | .agg ⟨[.slice a0 a b]⟩=>some ⟨⟨a0,a,b⟩⟩
  | _=>none
 ok:=by intro v x h;split at h<;>cases h;rfl
structure aU where
 owner:Int
 queue:Sl
abbrev aU.v (x:aU):Value:=.agg #[.int .i64 x.owner,.slice x.queue.base x.queue.len x.queue.cap]
@[reducible] def fO : Shape where
 T:=aU
 enc:=aU.v
 dec:=λv=>match v with
  | .agg ⟨[.int .i64 a0,.slice a1 a b]⟩=>some ⟨a0,⟨a1,a,b⟩⟩
  | _=>none
 ok:=by intro v x h;split at h<;>cases h;rfl
structure dA where
 ak:Sl
 ai:Int
abbrev dA.v (x:dA):Value:=.agg #[.slice x.ak.base x.ak.len x.ak.cap,.int .i64 x.ai]
@[reducible] def RG : Shape where
 T:=dA
 enc:=dA.v
 dec:=λv=>match v with
  | .agg ⟨[.slice a0 a b,.int .i64 a1]⟩=>some ⟨⟨a0,a,b⟩,a1⟩
  | _=>none
 ok:=by intro v x h;split at h<;>cases h;rfl
structure az where
 due:Int
 dY:Int
abbrev az.v (x:az):Value:=.agg #[.int .i64 x.due,.int .i64 x.dY]
@[reducible] def bn : Shape where
 T:=az
 enc:=az.v
 dec:=λv=>match v with
  | .agg ⟨[.int .i64 a0,.int .i64 a1]⟩=>some ⟨a0,a1⟩
  | _=>none
 ok:=by intro v x h;split at h<;>cases h;rfl
structure iF where
 l:Sl
 of_:Option Nat
abbrev iF.v (x:iF):Value:=.agg #[.slice x.l.base x.l.len x.l.cap,.map x.of_]
@[reducible] def Zm : Shape where
 T:=iF
 enc:=iF.v
 dec:=λv=>match v with
  | .agg ⟨[.slice a0 a b,.map a1]⟩=>some ⟨⟨a0,a,b⟩,a1⟩
  | _=>none
 ok:=by intro v x h;split at h<;>cases h;rfl
structure iy where
 table:Sl
 parts:Int
abbrev iy.v (x:iy):Value:=.agg #[.slice x.table.base x.table.len x.table.cap,.int .i64 x.parts]
@[reducible] def Zp : Shape where
 T:=iy
 enc:=iy.v
 dec:=λv=>match v with
  | .agg ⟨[.slice a0 a b,.int .i64 a1]⟩=>some ⟨⟨a0,a,b⟩,a1⟩
  | _=>none
 ok:=by intro v x h;split at h<;>cases h;rfl
structure fe where
 Kind:Int
 To:Int
 dt:Int
abbrev fe.v (x:fe):Value:=.agg #[.int .i64 x.Kind,.int .i64 x.To,.int .i64 x.dt]
@[reducible] def FP : Shape where
 T:=fe
 enc:=fe.v
 dec:=λv=>match v with
  | .agg ⟨[.int .i64 a0,.int .i64 a1,.int .i64 a2]⟩=>some ⟨a0,a1,a2⟩
  | _=>none
 ok:=by intro v x h;split at h<;>cases h;rfl
structure be where
 dq:Sl
 fw:Sl
 iV:Int
 gC:Int
 fR:Int
 iL:Int
 bW:Sl
 kg:Int
 gz:Sl
 cT:Sl
 t:Option Addr
abbrev be.v (x:be):Value:=.agg #[.slice x.dq.base x.dq.len x.dq.cap,.slice x.fw.base x.fw.len x.fw.cap,.int .i64 x.iV,.int .i64 x.gC,.int .i64 x.fR,.int .i64 x.iL,.slice x.bW.base x.bW.len x.bW.cap,.int .i64 x.kg,.slice x.gz.base x.gz.len x.gz.cap,.slice x.cT.base x.cT.len x.cT.cap,.pointer x.t]
@[reducible] def bz : Shape where
 T:=be
 enc:=be.v
 dec:=λv=>match v with
  | .agg ⟨[.slice a0 d j,.slice a1 e k,.int .i64 a2,.int .i64 a3,.int .i64 a4,.int .i64 a5,.slice a6 f l,.int .i64 a7,.slice b g m,.slice c i n,.pointer a]⟩=>some ⟨⟨a0,d,j⟩,⟨a1,e,k⟩,a2,a3,a4,a5,⟨a6,f,l⟩,a7,⟨b,g,m⟩,⟨c,i,n⟩,a⟩
  | _=>none
 ok:=by intro v x h;split at h<;>cases h;rfl
structure bN where
 cU:Int
 dt:Int
abbrev bN.v (x:bN):Value:=.agg #[.int .i64 x.cU,.int .i64 x.dt]
@[reducible] def aC : Shape where
 T:=bN
 enc:=bN.v
 dec:=λv=>match v with
  | .agg ⟨[.int .i64 a0,.int .i64 a1]⟩=>some ⟨a0,a1⟩
  | _=>none
 ok:=by intro v x h;split at h<;>cases h;rfl
structure eA where
 PC:Int
 cl:Int
 cm:Int
 cn:Int
 cp:Int
 cq:Int
 cv:Int
 cw:Int
 cC:Int
abbrev eA.v (x:eA):Value:=.agg #[.int .i64 x.PC,.int .i64 x.cl,.int .i64 x.cm,.int .i64 x.cn,.int .i64 x.cp,.int .i64 x.cq,.int .i64 x.cv,.int .i64 x.cw,.int .i64 x.cC]
@[reducible] def SS : Shape where
 T:=eA
 enc:=eA.v
 dec:=λv=>match v with
  | .agg ⟨[.int .i64 a0,.int .i64 a1,.int .i64 a2,.int .i64 a3,.int .i64 a4,.int .i64 a5,.int .i64 a6,.int .i64 a7,.int .i64 a]⟩=>some ⟨a0,a1,a2,a3,a4,a5,a6,a7,a⟩
  | _=>none
 ok:=by intro v x h;split at h<;>cases h;rfl
structure iC where
 labels:Sl
 by_:Option Nat
abbrev iC.v (x:iC):Value:=.agg #[.slice x.labels.base x.labels.len x.labels.cap,.map x.by_]
@[reducible] def Zs : Shape where
 T:=iC
 enc:=iC.v
 dec:=λv=>match v with
  | .agg ⟨[.slice a0 a b,.map a1]⟩=>some ⟨⟨a0,a,b⟩,a1⟩
  | _=>none
 ok:=by intro v x h;split at h<;>cases h;rfl
structure cZ where
 HN:Int
 cU:Int
abbrev cZ.v (x:cZ):Value:=.agg #[.int .i64 x.HN,.int .i64 x.cU]
@[reducible] def Rp : Shape where
 T:=cZ
 enc:=cZ.v
 dec:=λv=>match v with
  | .agg ⟨[.int .i64 a0,.int .i64 a1]⟩=>some ⟨a0,a1⟩
  | _=>none
 ok:=by intro v x h;split at h<;>cases h;rfl
structure dO where
 room:Int
 values:Sl
 waiters:Sl
 taken:Int
 dropped:Int
abbrev dO.v (x:dO):Value:=.agg #[.int .i64 x.room,.slice x.values.base x.values.len x.values.cap,.slice x.waiters.base x.waiters.len x.waiters.cap,.int .i64 x.taken,.int .i64 x.dropped]
@[reducible] def Fi : Shape where
 T:=dO
 enc:=dO.v
 dec:=λv=>match v with
  | .agg ⟨[.int .i64 a0,.slice a1 a c,.slice a2 b d,.int .i64 a3,.int .i64 a4]⟩=>some ⟨a0,⟨a1,a,c⟩,⟨a2,b,d⟩,a3,a4⟩
  | _=>none
 ok:=by intro v x h;split at h<;>cases h;rfl
structure iE where
 place:Int
 held:Int
abbrev iE.v (x:iE):Value:=.agg #[.int .i64 x.place,.int .u64 x.held]
@[reducible] def Zv : Shape where
 T:=iE
 enc:=iE.v
 dec:=λv=>match v with
  | .agg ⟨[.int .i64 a0,.int .u64 a1]⟩=>some ⟨a0,a1⟩
  | _=>none
 ok:=by intro v x h;split at h<;>cases h;rfl
structure jl where
 l:Sl
 KA:Option Nat
abbrev jl.v (x:jl):Value:=.agg #[.slice x.l.base x.l.len x.l.cap,.map x.KA]
@[reducible] def aa0 : Shape where
 T:=jl
 enc:=jl.v
 dec:=λv=>match v with
  | .agg ⟨[.slice a0 a b,.map a1]⟩=>some ⟨⟨a0,a,b⟩,a1⟩
  | _=>none
 ok:=by intro v x h;split at h<;>cases h;rfl
structure iw where
 b:Sl
 at_:Int
 e:Int
 place:Int
abbrev iw.v (x:iw):Value:=.agg #[.slice x.b.base x.b.len x.b.cap,.int .i64 x.at_,.int .i64 x.e,.int .i64 x.place]
@[reducible] def Zy : Shape where
 T:=iw
 enc:=iw.v
 dec:=λv=>match v with
  | .agg ⟨[.slice a0 a b,.int .i64 a1,.int .i64 a2,.int .i64 a3]⟩=>some ⟨⟨a0,a,b⟩,a1,a2,a3⟩
  | _=>none
 ok:=by intro v x h;split at h<;>cases h;rfl
structure dV where
 has:Bool
 n:Int
abbrev dV.v (x:dV):Value:=.agg #[.bool x.has,.int .i64 x.n]
@[reducible] def LN : Shape where
 T:=dV
 enc:=dV.v
 dec:=λv=>match v with
  | .agg ⟨[.bool a0,.int .i64 a1]⟩=>some ⟨a0,a1⟩
  | _=>none
 ok:=by intro v x h;split at h<;>cases h;rfl
end Lf
namespace Lf
open Go Go.Proofs Tryz
def cY (d i:TypeInfo) (sh:Shape):Ty:={cH:=d.desc,size:=i.size,bytes:=i.bytes,zero:=i.zero.getD (.tuple #[]),sh:=sh}
noncomputable section
def ty0 :Ty:=cY t0 t0 v7
def wJ :Ty:=cY t2 t2 (af .i64)
def zV :Ty:=cY t3 t3 (af .i64)
def ty4 :Ty:=cY t4 t4 bH
def ty5 :Ty:=cY t5 t5 (af .u8)
def ty9 :Ty:=cY t9 t9 rH
def So :Ty:=cY t20 t20 abU
def AM :Ty:=cY t22 t22 aw
def uX :Ty:=cY t23 t23 aw
def DJ :Ty:=cY t24 t24 aw
def JI :Ty:=cY t25 t26 aA
def DK :Ty:=cY t27 t27 aw
def JP :Ty:=cY t28 t28 (af .u64)
def Sq :Ty:=cY t29 t30 zye
def Sr :Ty:=cY t29 t34 aaX
def Ss :Ty:=cY t36 t36 (nS bH (af .i64))
def Su :Ty:=cY t38 t38 al
def Sv :Ty:=cY t3 t39 (af .i64)
def Sw :Ty:=cY t40 t40 (nS al (af .i64))
def Kw :Ty:=cY t42 t43 dB
def Sx :Ty:=cY t46 t46 aw
def Sy :Ty:=cY t47 t47 aw
def Sz :Ty:=cY t48 t49 ov
def SA :Ty:=cY t53 t53 (nS (af .i64) (af .i64))
def SC :Ty:=cY t55 t55 (nS (af .i64) (af .i64))
def SD :Ty:=cY t57 t57 aw
def SE :Ty:=cY t58 t58 (nS aw (af .i64))
def SF :Ty:=cY t61 t61 (xc aA ov (af .i64) (af .i64))
def SG :Ty:=cY t65 t66 SR
def SH :Ty:=cY t69 t69 aw
def SI :Ty:=cY t72 t72 gX
def DL :Ty:=cY t75 t75 aw
def Kx :Ty:=cY t76 t77 bT
def SJ :Ty:=cY t78 t78 U9
def Ky :Ty:=cY t79 t79 Af
def SK :Ty:=cY t80 t80 aw
def SL :Ty:=cY t81 t82 aI
def DM :Ty:=cY t86 t87 aT
def SM :Ty:=cY t93 t93 al
def SN :Ty:=cY t94 t95 acP
def SO :Ty:=cY t99 t99 gX
def IE :Ty:=cY t100 t100 gX
def yD :Ty:=cY t101 t101 aw
def IF :Ty:=cY t102 t102 aw
def IG :Ty:=cY t103 t104 bx
def IH :Ty:=cY t105 t105 gX
def II :Ty:=cY t106 t106 al
def IJ :Ty:=cY t107 t107 al
def IK :Ty:=cY t108 t108 aw
def IL :Ty:=cY t109 t109 aw
def IM :Ty:=cY t110 t111 Mh
def IN :Ty:=cY t112 t112 al
def IP :Ty:=cY t113 t113 (nS aw aw)
def IQ :Ty:=cY t114 t114 al
def IS :Ty:=cY t115 t115 al
def IT :Ty:=cY t116 t117 Ad
def CW :Ty:=cY t120 t121 cW
def IU :Ty:=cY t122 t122 al
def IV :Ty:=cY t123 t123 (nS aw (af .i64))
def IW :Ty:=cY t124 t125 fM
def IX :Ty:=cY t126 t126 al
def IY :Ty:=cY t127 t128 bK
def IZ :Ty:=cY t130 t130 (nS (af .i64) bH)
def I0 :Ty:=cY t136 t136 (nS aA ov)
def I1 :Ty:=cY t141 t141 Tw
def I2 :Ty:=cY t144 t144 al
def I3 :Ty:=cY t145 t146 XY
def I4 :Ty:=cY t147 t148 Zd
def I5 :Ty:=cY t154 t154 al
def I6 :Ty:=cY t155 t156 Zg
def I7 :Ty:=cY t157 t158 Zj
def I8 :Ty:=cY t163 t163 ig
def I9 :Ty:=cY t164 t164 (sA ig (af .i64) (af .i64))
def Ja :Ty:=cY t166 t166 (nS (af .i64) bH)
def Jb :Ty:=cY t168 t168 gX
def Jc :Ty:=cY t168 t169 gX
def Jd :Ty:=cY t173 t173 al
def Je :Ty:=cY t174 t175 zvp
def Jf :Ty:=cY t176 t176 gX
def Jg :Ty:=cY t178 t178 gX
def Jh :Ty:=cY t180 t180 gX
def Ji :Ty:=cY t187 t187 (sA al (af .i64) (af .i64))
def Jj :Ty:=cY t189 t189 (sA al (af .i64) (af .i64))
def Jk :Ty:=cY t191 t191 (nS al (af .i64))
def Jl :Ty:=cY t194 t194 (nS al (af .i64))
def Jm :Ty:=cY t199 t199 gX
def yE :Ty:=cY t200 t200 aw
def vO :Ty:=cY t201 t201 aw
def Jn :Ty:=cY t202 t203 bd
def Jo :Ty:=cY t205 t205 aw
def Jp :Ty:=cY t206 t207 Hw
def Jq :Ty:=cY t208 t209 fO
def Jr :Ty:=cY t210 t210 aw
def Js :Ty:=cY t211 t212 RG
def Jt :Ty:=cY t213 t213 al
def vP :Ty:=cY t215 t216 bn
def Ju :Ty:=cY t217 t217 (nS bn bH)
def yF :Ty:=cY t218 t218 aw
def Jv :Ty:=cY t219 t219 ig
def Jw :Ty:=cY t220 t221 Zm
def Jy :Ty:=cY t222 t223 Zp
def Jz :Ty:=cY t227 t228 FP
def JA :Ty:=cY t229 t229 (nS fM FP)
def JB :Ty:=cY t233 t233 (nS bH (af .i64))
def JC :Ty:=cY t239 t240 bz
def JD :Ty:=cY t242 t242 (sA aw (af .i64) (af .i64))
def JE :Ty:=cY t244 t244 al
def JF :Ty:=cY t252 t252 al
def yG :Ty:=cY t253 t254 aC
def JG :Ty:=cY t255 t255 ig
def JH :Ty:=cY t256 t256 (sA ig (af .i64) (af .i64))
def JJ :Ty:=cY t262 t262 gX
def JK :Ty:=cY t263 t263 (nS aT bH)
def JL :Ty:=cY t124 t265 SS
def JM :Ty:=cY t273 t273 gX
def JN :Ty:=cY t277 t277 ig
def JO :Ty:=cY t278 t279 Zs
def JQ :Ty:=cY t281 t281 (nS al (af .i64))
def JR :Ty:=cY t284 t284 gX
def JS :Ty:=cY t286 t286 (af .u64)
def JT :Ty:=cY t287 t287 (nS (af .u64) (af .u64))
def JU :Ty:=cY t290 t290 aw
def JV :Ty:=cY t292 t293 Rp
def JW :Ty:=cY t297 t298 Fi
def JX :Ty:=cY t300 t300 (sA FP bH bH)
def JY :Ty:=cY t303 t303 (nS (af .i64) (af .i64))
def JZ :Ty:=cY t306 t306 (Co (af .i64) (af .i64) aC bH (af .i64))
def J0 :Ty:=cY t310 t310 al
def J1 :Ty:=cY t315 t315 (sA aA (af .i64) (af .i64))
def J2 :Ty:=cY t320 t321 Zv
def J3 :Ty:=cY t322 t322 aw
def J4 :Ty:=cY t325 t326 aa0
def J5 :Ty:=cY t332 t332 gX
def J6 :Ty:=cY t334 t334 gX
def J7 :Ty:=cY t341 t341 (af .u32)
def J8 :Ty:=cY t342 t342 (nS (af .u32) (af .u32))
def J9 :Ty:=cY t344 t344 (nS (af .u64) (af .u64))
def Ka :Ty:=cY t348 t348 al
def yJ :Ty:=cY t351 t351 (ks .f64)
def Kb :Ty:=cY t356 t356 (xc (af .i64) aC bH (af .i64))
def Kc :Ty:=cY t358 t358 (xc bH bH bH bH)
def Ke :Ty:=cY t361 t361 al
def Kg :Ty:=cY t362 t363 Zy
def Kh :Ty:=cY t365 t365 al
def Ki :Ty:=cY t3 t367 (af .i64)
def Kj :Ty:=cY t368 t368 (nS (af .i64) (af .i64))
def Kk :Ty:=cY t382 t382 gX
def Kl :Ty:=cY t28 t386 (af .u64)
def Km :Ty:=cY t390 t390 al
def Kn :Ty:=cY t394 t394 gX
def Ko :Ty:=cY t397 t397 gX
def Kr :Ty:=cY t399 t399 al
def Ks :Ty:=cY t400 t400 (nS (af .i64) (af .i64))
def Kt :Ty:=cY t402 t402 (ZU 34)
def Ku :Ty:=cY t404 t404 LN
def Kv :Ty:=cY t405 t405 aw
def sC :List (List (Option Ty)):=[[some ty0,none,some wJ,some zV,some ty4,some ty5,none,none,none,some ty9,none,none,none,none,none,none],
 [none,none,none,none,some So,none,some AM,some uX,some DJ,none,some JI,some DK,some JP,none,some Sq,none],
 [none,none,some Sr,none,some Ss,none,some Su,some Sv,some Sw,none,none,some Kw,none,none,some Sx,some Sy],
 [none,some Sz,none,none,none,some SA,none,some SC,none,some SD,some SE,none,none,some SF,none,none],
 [none,none,some SG,none,none,some SH,none,none,some SI,none,none,some DL,none,some Kx,some SJ,some Ky],
 [some SK,none,some SL,none,none,none,none,some DM,none,none,none,none,none,some SM,none,some SN],
 [none,none,none,some SO,some IE,some yD,some IF,none,some IG,some IH,some II,some IJ,some IK,some IL,none,some IM],
 [some IN,some IP,some IQ,some IS,none,some IT,none,none,none,some CW,some IU,some IV,none,some IW,some IX,none],
 [some IY,none,some IZ,none,none,none,none,none,some I0,none,none,none,none,some I1,none,none],
 [some I2,none,some I3,none,some I4,none,none,none,none,none,some I5,none,some I6,none,some I7,none],
 [none,none,none,some I8,some I9,none,some Ja,none,some Jb,some Jc,none,none,none,some Jd,none,some Je],
 [some Jf,none,some Jg,none,some Jh,none,none,none,none,none,none,some Ji,none,some Jj,none,some Jk],
 [none,none,some Jl,none,none,none,none,some Jm,some yE,some vO,none,some Jn,none,some Jo,none,some Jp],
 [none,some Jq,some Jr,none,some Js,some Jt,none,none,some vP,some Ju,some yF,some Jv,none,some Jw,none,some Jy],
 [none,none,none,none,some Jz,some JA,none,none,none,some JB,none,none,none,none,none,none],
 [some JC,none,some JD,none,some JE,none,none,none,none,none,none,none,some JF,none,some yG,some JG],
 [some JH,none,none,none,none,none,some JJ,some JK,none,some JL,none,none,none,none,none,none],
 [none,some JM,none,none,none,some JN,none,some JO,none,some JQ,none,none,some JR,none,some JS,some JT],
 [none,none,some JU,none,none,some JV,none,none,none,none,some JW,none,some JX,none,none,some JY],
 [none,none,some JZ,none,none,none,some J0,none,none,none,none,some J1,none,none,none,none],
 [none,some J2,some J3,none,none,none,some J4,none,none,none,none,none,some J5,none,some J6,none],
 [none,none,none,none,none,some J7,some J8,none,some J9,none,none,none,some Ka,none,none,some yJ],
 [none,none,none,none,some Kb,none,some Kc,none,none,some Ke,none,some Kg,none,some Kh,none,some Ki],
 [some Kj,none,none,none,none,none,none,none,none,none,none,none,none,none,some Kk,none],
 [none,none,some Kl,none,none,none,some Km,none,none,none,some Kn,none,none,some Ko,none,some Kr],
 [some Ks,none,some Kt,none,some Ku,some Kv]]
def DN (t:Nat):Option Ty:=match nth sC (t / 16) with
 | some r=>match nth r (t%16) with
  | some e=>e
  | none=>none
 | none=>none
def Ey :List (List Bool):=[[false,false,true,true,true,true,true,true,true,true,true,true,true,true,true,true],
 [true,true,true,true,true,true,true,true,true,true,true,true,true,true,true,true],
 [true,true,true,true,true,true,true,true,true,true,true,true,true,true,true,true],
 [true,true,true,true,true,true,true,true,true,true,true,true,true,true,true,true],
 [true,true,true,true,true,true,true,true,true,true,true,true,true,true,true,true],
 [true,true,true,true,true,true,true,true,true,true,true,true,true,true,true,true],
 [true,true,true,true,true,true,true,true,true,true,true,true,true,true,true,true],
 [true,true,true,true,true,true,true,true,true,true,true,true,true,true,true,true],
 [true,true,true,true,true,true,true,true,true,true,true,true,true,true,true,true],
 [true,true,true,true,true,true,true,true,true,true,true,true,true,true,true,true],
 [true,true,true,true,true,true,true,true,true,true,true,true,true,true,true,true],
 [true,true,true,true,true,true,true,true,true,true,true,true,true,true,true,true],
 [true,true,true,true,true,true,true,true,true,true,true,true,true,true,true,true],
 [true,true,true,true,true,true,true,true,true,true,true,true,true,true,true,true],
 [true,true,true,true,true,true,true,true,true,true,true,true,true,true,true,true],
 [true,true,true,true,true,true,true,true,true,true,true,true,true,true,true,false],
 [true,true,true,true,true,true,true,true,true,true,true,true,true,true,true,true],
 [true,true,true,true,true,true,true,true,true,true,true,true,true,true,true,true],
 [true,true,true,true,true,true,true,true,true,true,true,true,true,true,true,true],
 [true,true,true,true,false,false,true,true,true,true,true,true,true,true,true,true],
 [true,true,true,true,true,true,true,true,true,true,true,true,true,true,true,true],
 [true,true,true,true,true,false,true,true,false,true]]
def Dn (g:Nat):Bool:=match nth Ey (g / 16) with
 | some r=>match nth r (g%16) with
  | some e=>e
  | none=>false
 | none=>false
def yd (g:Nat):Option (Array Value->Sem Value):=cond (Nat.beq g 255) (some (Extern.SlicesOverlaps.overlaps #[218,218] #[4])) (cond (Nat.beq g 308) (some Extern.MathFloatBits.float64frombits) (cond (Nat.beq g 309) (some Extern.MathFloatBits.float64bits) (cond (Nat.beq g 344) (some Extern.BytealgIndexByte.indexByte) (none))))
def tb :Tb:={ty:=DN,call:=Dn,ext:=yd}
abbrev ztm :Nat:=4
abbrev zyf :Nat:=12
abbrev Xg :Nat:=14
abbrev QQ :Nat:=16
abbrev zpo :Nat:=17
abbrev zpp :Nat:=18
abbrev X0 :Nat:=19
abbrev Mc :Nat:=20
abbrev Rr :Nat:=21
abbrev zno :Nat:=22
abbrev Ob :Nat:=23
abbrev zyg :Nat:=24
abbrev zme :Nat:=37
abbrev Qf :Nat:=50
abbrev zvq :Nat:=51
abbrev Lh :Nat:=52
abbrev znp :Nat:=53
abbrev zpq :Nat:=54
abbrev zmf :Nat:=55
abbrev zjg :Nat:=56
abbrev Q0 :Nat:=58
abbrev Ls :Nat:=59
abbrev Rd :Nat:=60
abbrev Hu :Nat:=61
abbrev Ae :Nat:=62
abbrev Bb :Nat:=63
abbrev ztn :Nat:=64
abbrev Xi :Nat:=65
abbrev We :Nat:=66
abbrev Wf :Nat:=67
abbrev zrg :Nat:=68
abbrev X2 :Nat:=69
abbrev zod :Nat:=70
abbrev DX :Nat:=71
abbrev X4 :Nat:=72
abbrev Rt :Nat:=73
abbrev zyh :Nat:=74
abbrev ou :Nat:=75
abbrev u4 :Nat:=76
abbrev Q7 :Nat:=77
abbrev Q8 :Nat:=78
abbrev zrp :Nat:=79
abbrev zto :Nat:=80
abbrev yO :Nat:=81
abbrev Wg :Nat:=91
abbrev zka :Nat:=96
abbrev zmg :Nat:=97
abbrev RN :Nat:=110
abbrev RO :Nat:=111
abbrev RP :Nat:=112
abbrev zyl :Nat:=113
abbrev Hx :Nat:=114
abbrev A5 :Nat:=115
abbrev RQ :Nat:=116
abbrev RT :Nat:=117
abbrev Eg :Nat:=118
abbrev A6 :Nat:=119
abbrev Ac :Nat:=120
abbrev vQ :Nat:=121
abbrev Vy :Nat:=122
abbrev Rk :Nat:=123
abbrev MZ :Nat:=124
abbrev LQ :Nat:=125
abbrev QS :Nat:=126
abbrev Xl :Nat:=127
abbrev zmh :Nat:=128
abbrev QT :Nat:=130
abbrev zqb :Nat:=131
abbrev zww :Nat:=132
abbrev LR :Nat:=133
abbrev Ag :Nat:=134
abbrev ED :Nat:=135
abbrev VA :Nat:=136
abbrev VC :Nat:=137
abbrev D4 :Nat:=138
abbrev Q9 :Nat:=139
abbrev QM :Nat:=140
abbrev Q1 :Nat:=141
abbrev Mi :Nat:=142
abbrev DY :Nat:=143
abbrev Rq :Nat:=144
abbrev zrh :Nat:=145
abbrev zpr :Nat:=146
abbrev zsh :Nat:=147
abbrev zsi :Nat:=148
abbrev zri :Nat:=149
abbrev FY :Nat:=150
abbrev Ru :Nat:=151
abbrev Ra :Nat:=152
abbrev Uj :Nat:=153
abbrev zfy :Nat:=154
abbrev zgs :Nat:=155
abbrev yQ :Nat:=156
abbrev X6 :Nat:=157
abbrev zve :Nat:=158
abbrev zvf :Nat:=159
abbrev MB :Nat:=174
abbrev Ux :Nat:=177
abbrev Tm :Nat:=178
abbrev Uz :Nat:=189
abbrev Oi :Nat:=190
abbrev RH :Nat:=191
abbrev Q2 :Nat:=192
abbrev EE :Nat:=193
abbrev QK :Nat:=194
abbrev Om :Nat:=195
abbrev Td :Nat:=196
abbrev ztp :Nat:=197
abbrev D7 :Nat:=198
abbrev Re :Nat:=199
abbrev Lj :Nat:=200
abbrev zrq :Nat:=201
abbrev zqd :Nat:=202
abbrev zwx :Nat:=203
abbrev Ll :Nat:=204
abbrev zZ :Nat:=205
abbrev yX :Nat:=207
abbrev Eh :Nat:=208
abbrev yU :Nat:=209
abbrev F0 :Nat:=210
abbrev F6 :Nat:=211
abbrev Y5 :Nat:=212
abbrev Vd :Nat:=213
abbrev zrr :Nat:=214
abbrev A7 :Nat:=215
abbrev zdp :Nat:=216
abbrev Y7 :Nat:=217
abbrev Wi :Nat:=218
abbrev zsj :Nat:=219
abbrev Mj :Nat:=220
abbrev Nt :Nat:=221
abbrev zia :Nat:=222
abbrev QU :Nat:=223
abbrev Ml :Nat:=224
abbrev Q3 :Nat:=225
abbrev zrj :Nat:=226
abbrev sM :Nat:=227
abbrev zyo :Nat:=228
abbrev Hs :Nat:=229
abbrev zvh :Nat:=230
abbrev DS :Nat:=248
abbrev EF :Nat:=249
abbrev Rv :Nat:=250
abbrev Nd :Nat:=251
abbrev Nf :Nat:=252
abbrev ztq :Nat:=253
abbrev zwy :Nat:=254
abbrev zfz :Nat:=256
abbrev zqe :Nat:=258
abbrev zrs :Nat:=259
abbrev Ei :Nat:=260
abbrev zwz :Nat:=261
abbrev zoh :Nat:=262
abbrev Lo :Nat:=263
abbrev OA :Nat:=264
abbrev zvr :Nat:=265
abbrev OB :Nat:=266
abbrev NA :Nat:=267
abbrev FA :Nat:=268
abbrev Ej :Nat:=269
abbrev HE :Nat:=270
abbrev NB :Nat:=271
abbrev zrt :Nat:=272
abbrev KH :Nat:=273
abbrev zxa :Nat:=274
abbrev X7 :Nat:=275
abbrev zru :Nat:=276
abbrev VF :Nat:=277
abbrev QN :Nat:=278
abbrev AW :Nat:=279
abbrev X9 :Nat:=280
abbrev xy :Nat:=281
abbrev Yb :Nat:=282
abbrev Y9 :Nat:=283
abbrev Hr :Nat:=284
abbrev QV :Nat:=285
abbrev ZT :Nat:=286
abbrev Rx :Nat:=300
abbrev Rl :Nat:=301
abbrev MD :Nat:=302
abbrev zqf :Nat:=303
abbrev ztr :Nat:=304
abbrev zqg :Nat:=306
abbrev zdz :Nat:=307
abbrev zxb :Nat:=310
abbrev KJ :Nat:=311
abbrev Aa :Nat:=313
abbrev Wk :Nat:=314
abbrev Wm :Nat:=315
abbrev VG :Nat:=316
abbrev MJ :Nat:=317
abbrev Wn :Nat:=318
abbrev VI :Nat:=319
abbrev Yd :Nat:=320
abbrev zxc :Nat:=321
abbrev ME :Nat:=327
abbrev Lq :Nat:=328
abbrev zvi :Nat:=329
abbrev zdk :Nat:=331
abbrev Q4 :Nat:=332
abbrev UT :Nat:=333
abbrev Zc :Nat:=334
abbrev Q5 :Nat:=335
abbrev MF :Nat:=336
end
end Lf
