/-
  Part 2 of the texts that the claim leans on.
-/
import Derived.ScopeJumps
import Derived.Test.YtdcokeoodcfphaaGreatMgGhEdges0
set_option maxRecDepth 100000
namespace Lf
open Go
theorem j4 {b:Bool} {p:Prop} (h:cond b p False):b=true/\p:=by grind
theorem L7 {C:Ctx} {m:Nat->Bool} {L:List Oper} {s:St} {h:Hp}:∀ {a:List Nat},Fi C m L s h a->∀ {j:Nat} {p:Oper} {ch:aY},j∈a->L[j]? =some p->qa L L.length p=some ch->pF C m p ch s h
 | [],_,_,_,_,hj,_,_=>by cases hj
 | r::a,d,j,p,ch,hj,hp,e=>by
  obtain ⟨b,c⟩:=d;rcases List.mem_cons.1 hj with rfl | hj
  ·rw [nj,hp] at b;grind
  ·exact L7 c hj hp e
theorem RT {C:Ctx} {m:Nat->Bool} {p:Oper} {ch:aY} {s:St} {h:Hp} (a:pF C m p ch s h):∃d,p.dst=some d:=by
 cases b:p.dst with
 | some d=>simp
 | none=>unfold pF at a;grind
section
variable {C:Ctx} {L:List Oper} {mok:List Nat} {n:Nat} {lv0:Nat->Prop} {β0:Nat->Nat} {a0:Act} {h0:Hp} {w0:World} {done g:List Nat} {q:Array Bool} {β:Nat->Nat} {s:St} {a:Act} {h:Hp} {w:World}
theorem Ub (f:(cv L).Nodup) {i:Nat} {o:Oper} (hi:L[i]? =some o) (hid:i∉done) (t:Nat):lG L (i::done) (i::g) t↔(o.dst=some t\/lG L done g t):=by
 constructor
 ·intro hc;by_cases d:o.dst=some t
  ·exact .inl d
  ·exact .inr λj p h1 c b=>hc j p (List.mem_cons_of_mem _ h1) (λe=>by
    grind) b
 ·rintro (d | hc) j p h1 c b
  ·intro e;exact c (by rw [ub f b hi e d];simp)
  ·rcases List.mem_cons.1 h1 with e | h1
   ·grind
   ·exact hc j p h1 (λe=>c (List.mem_cons_of_mem _ e)) b
theorem Nq (c:(cv L).Nodup) {i:Nat} {o:Oper} (hi:L[i]? =some o) (hid:i∉done) (k:Nat):iu C L (i::done) (i::g) k↔(cZ C.aQ o k\/iu C L done g k):=by
 constructor
 ·rintro ⟨m,l⟩;by_cases hp:cZ C.aQ o k
  ·exact .inl hp
  ·exact .inr ⟨λj p d f b=>m j p (List.mem_cons_of_mem _ d) (λe=>by
    grind) b,λe=>l ((Bf c hi hid k).2 ⟨hp,e⟩)⟩
 ·rintro (hp | ⟨m,l⟩)
  ·exact ⟨λj p d f b r=>f (by rw [ub c b hi r.2 hp.2];simp),λe=>((Bf c hi hid k).1 e).1 hp⟩
  ·refine ⟨λj p d f b=> ?_,λe=>l ((Bf c hi hid k).1 e).2⟩;grind
theorem abH (ok:C.tb.Ok C.P) (X:(cv L).Nodup) (x:nz C L mok n lv0 β0 a0 h0 w0 done g q β s a h w) {i:Nat} {o:Oper} (hi:L[i]? =some o) (hid:i∉done) (b0:∀j∈lU (bF L []) i,j∈g)
  {O:List Nat} (hwatch:(isVal C.tb o=true\/mH C.aQ o=true)\/∀j p,j∈done->L[j]? =some p->isVal C.tb p=true->rM C.tb p=true->j∈O\/j∈lU (bF L []) i)
  {l:List Nat} {c2:Nat->Nat} {s':St} {a':Act} {z:Hp} {w':World} (out:vu C l mok n (lG L done g) (iu C L done g) (rV L done) (qD C L done) o β s a h w c2 s' a' z w')
  (a9:Fi C (vE o s) L s' z O) {j:Nat} {p:Oper} (u:j∈done) (I:j∉g) (r:L[j]? =some p):
  ny C L p s' z/\dy L (bF L []) j p=true/\il (bF L []) j p L 0=false/\∀d,cZ C.aQ p d->d∈mok:=by
 obtain ⟨⟨ch,F,T,b6⟩,K,b9⟩:=x.facts j p u I r;refine ⟨?_,K,b9⟩;have k:jJ (rV L done) p s s':=Np X x hi hid out.f r u λt v e=>by
  rcases abE K v hi e with h1 | h1 | h1
  ·exact hid (AI x r u h1)
  ·exact hid (h1▸u)
  grind
 have Q:=EY x r (x.kW j p r u) K F T;have H:∀d,p.dst=some d->rV L done d:=λd e=>⟨j,p,u,r,e⟩;have W:∀t,Operand.tmp t∈p.op.operands->∀b off c,(s.f t=some (.box b off,c)\/s.f t=some (.dS b off,c))->holds s c->s'.m b=s.m b\/(vE o s b=true/\isVal C.tb o=false):=by
  intro t v b off c hfb A;rcases out.m b with e | e | e
  ·exact .inl e
  ·exfalso;have R:qD C L done b:=⟨i,o,hid,hi,e⟩;rcases hfb with hfb | hfb
   ·exact (x.rr.kh b R t _ c hfb A off).1 rfl
   ·exact (x.rr.kh b R t _ c hfb A off).2 rfl
  grind
 refine ⟨ch,F,by rw [Pv k Q];exact T,?_⟩;rcases b6 with ⟨D,Y,lv,V,N,b7,c0⟩ | ⟨rfl,D,d,cs,B,b1,b4,N⟩
 ·have Z:xS C.tb p ch s' lv:=λb3=>c0 (by rw [<-k.kind (s':=s')];exact b3);refine .inl ⟨D,by rw [k.kind];exact Y,lv,λd e=>by rw [k.dn d (H d e)];exact V d e,λU=> ?_,k.BP b7,Z⟩;have A:=(k.mM Q).1 U;have y:=N A;have J:cX C.tb p ch s'=cX C.tb p ch s:=k.kind;rw [J];by_cases M:cX C.tb p ch s=.pure
  ·rw [M] at y ⊢;exact M1 k (λe=>absurd rfl e) (λe=>by cases e) y
  ·have b8:=Y.resolve_right M;rcases hwatch with a8 | hwatch
   ·have b5:∀b,¬(vE o s b=true/\isVal C.tb o=false):=by
     rintro b ⟨e1,e2⟩;rcases a8 with e | e
     ·grind
     ·unfold vE at e1;unfold mH at e;grind
    have b2:z=h:=by
     rcases a8 with e | e
     ·exact out.hv e
     ·exact out.hp e
    exact M1 k (λ_ t v b off c hfb E=>(W t v b off c hfb E).resolve_right (b5 b)) (λ_=>b2) y
   ·have c1:j∈O:=(hwatch j p u r D b8).resolve_right λe=>I (b0 j e);have S:=L7 a9 c1 r F;obtain ⟨d,G⟩:=RT S;rcases aar rfl ok S G ⟨ch,by rw [k.dn d (H d G)];exact V d G⟩ U Z with h1 | ⟨h1,h2⟩ | ⟨h1,h2⟩
    ·rw [J] at h1;exact absurd h1 M
    ·rw [J] at h1;rw [h1] at y ⊢;exact M1 k (λ_ t v b off c hfb E=>(W t v b off c hfb E).resolve_right λe=>by rw [h2 t b off c v (by rw [k.op t v];exact hfb)] at e;cases e.1) (λe=>by cases e) y
    grind
 ·refine .inr ⟨rfl,D,d,cs,B,by rw [k.dn d (H d B.2)];exact b1,?_,CU k N⟩;rcases out.m d with e | e | e
  ·rw [e];exact b4
  ·exact absurd u (by rw [ub X r hi B.2 e.2];exact hid)
  ·exact absurd B (e.2.2.2.1 j p u I r)
theorem Ud (ok:C.tb.Ok C.P) {S:Array Oper} (O:S.toList=L) (u:(cv L).Nodup) (Y:∀d∈cv L,d<n) (c:nz C L mok n lv0 β0 a0 h0 w0 done g q β s a h w) {i:Nat} {o:Oper} (hi:L[i]? =some o) (hid:i∉done)
  (R:∀k∈waits o,k∈g) (X:dy L (bF L []) i o=true) {T:List Nat}
  (a9:(isVal C.tb o=true\/mH C.aQ o=true)\/∀j p,j∈done->L[j]? =some p->isVal C.tb p=true->rM C.tb p=true->j∈T\/j∈lU (bF L []) i)
  {K:St->Hp->Prop} (V:∀s1 f,K s1 f->Fi C (vE o s) L s1 f T) (hv:BO C L mok o s h K) (next:Act->World->Prop) (Q:Exit->Act->World->Prop)
  (Z:∀A y F x B,K A y->nz C L mok n lv0 β0 a0 h0 w0 (i::done) (i::g) (q.setIfInBounds i true) F A x y B->next x B):wpOp C.P S Q i next a w:=by
 have I:∀j∈lU (bF L []) i,j∈g:=λj hj=>zC hj (· ∈g) c.qS (λo' N=>by grind);have J:i<L.length:=(List.getElem?_eq_some_iff.1 hi).1;have M:=List.mem_of_getElem? hi;refine IY (l:=cv L) ok (by grind) (by rw [O];exact hv) c.rr (λt ht j p f m r E=> ?_) (λj b p d U D G=> ?_) (λd e=>⟨Y d (xM M e),?_,xM M e⟩) (λd hp=> ?_) next Q λA y F x B z out=> ?_
 ·have:=w8 E (c.facts j p f m r).2.2.1 i o hi ht;grind
 ·rw [O,nj] at D;have W:=I _ (Ct X U);refine ⟨λj' p' f m r E=> ?_,j,p,c.jy j W,D,G⟩;have:=ub u r D E G;grind
 ·rintro ⟨j,p,f,m,r⟩;exact hid (by rw [<-ub u m hi r e];exact f)
 ·have H:qD C L done d:=⟨i,o,hid,hi,hp⟩;exact ⟨H,λe=>e.2 H⟩
 ·refine Z A y F x B z ⟨by simpa using c.AS,λj=>Lk c.AS J c.AR,List.nodup_cons.2 ⟨λe=>hid (c.jy i e),c.BF⟩,λj hj=> ?_,λj hj=> ?_,?_,?_,
   ⟨λo' N=>by rw [zd hi N];exact λk z=>c.jy k (R k z),c.sL⟩,out.rr.congr (λt=>Ub u hi hid t) (λk=>Nq u hi hid k) ze (λk e=>(Bf u hi hid k).1 e),λj p f m r=> ?_,
   c.wx.trans (out.wx.mono (λ_ e=>e) (λ_ e=>e) (λ_ e=>e) (λk e=>⟨e.1,(Nq u hi hid k).1 e.2⟩))⟩
  ·rcases List.mem_cons.1 hj with rfl | hj
   ·simp
   ·exact List.mem_cons_of_mem _ (c.jy j hj)
  ·rcases List.mem_cons.1 hj with rfl | hj
   ·exact J
   ·exact c.rX j hj
  ·intro j p hj hjm k v;rcases List.mem_cons.1 hjm with rfl | hjm
   ·grind
   ·exact List.mem_cons_of_mem _ (c.qS j p hj hjm k v)
  ·intro j p hj hjm k v;rcases List.mem_cons.1 hjm with rfl | hjm
   ·rw [zd hi hj] at v;exact List.mem_cons_of_mem _ (c.jy k (R k v))
   ·exact List.mem_cons_of_mem _ (c.kW j p hj hjm k v)
  ·have a8:j≠i:=λe=>m (e▸List.mem_cons_self ..);exact abH ok u c hi hid I a9 out (V _ _ z) ((List.mem_cons.1 f).resolve_left a8) (λe=>m (List.mem_cons_of_mem _ e)) r
theorem zG {i:Array Oper} (t:i.toList=L) (b:nz C L mok n lv0 β0 a0 h0 w0 done g q β s a h w) {j:Nat}:
  j∈Region.ready .any i q↔j∉g/\∃o,L[j]? =some o/\∀k∈waits o,k∈g:=by
 rw [mem_ready];have m:∀j:Nat,i[j]? =L[j]?:=λj=>by grind
 constructor
 ·rintro ⟨l,o,c,d⟩;rw [m] at c;refine ⟨λe=> ?_,o,c,λk p=> ?_⟩
  ·have r:j<q.size:=by rw [b.AS];exact (List.getElem?_eq_some_iff.1 c).1
   have:=(b.AR j).2 e;grind
  ·obtain ⟨e,f,rfl,hb⟩:=RQ p;exact (b.AR _).1 (d e f hb)
 ·rintro ⟨l,o,c,d⟩;refine ⟨?_,o,by grind,λe f hb=>(b.AR _).2 (d _ (RL f hb))⟩;have r:j<q.size:=by rw [b.AS];exact (List.getElem?_eq_some_iff.1 c).1
  cases e:q.getD j true with
  | false=>rfl
  | true=>refine absurd ((b.AR j).1 ?_) l;grind
theorem MO {tb:Tb} {aQ:List Nat}:∀ {r:List (Nat×List Nat)} {done:List Nat} {last:Option Nat} {c:List Nat} {d:Option Nat},eg tb aQ L (bF L []) r done last=true->vd tb aQ L (bF L []) r done last=(c,d)->
  (∀x,x∈c↔x∈done\/x∈r.map (·.1))/\(done.Nodup->c.Nodup)/\(∀e,last=some e->∃b,d=some b/\(b=e\/lV L b e))
 | [],done,last,c,d,_,he=>by cases he;grind
 | (i,ws)::r,done,last,c,d,h,he=>by
  obtain ⟨o,F,_,_,hid,D,J⟩:=MN h;have key:∀f,eg tb aQ L (bF L []) r (i::done) f=true->vd tb aQ L (bF L []) r (i::done) f=(c,d)->(f=last\/f=some i)->
    (∀x,x∈c↔x∈done\/x∈((i,ws)::r).map (·.1))/\(done.Nodup->c.Nodup)/\(∀e,last=some e->∃b,d=some b/\(b=e\/lV L b e)):=by
   intro f y z B;obtain ⟨u,v,l⟩:=MO y z;refine ⟨λx=> ?_,λE=>v (List.nodup_cons.2 ⟨hid,E⟩),λe m=> ?_⟩
   ·rw [u,List.mem_cons,List.map_cons,List.mem_cons];constructor
    ·rintro ((h | h) | h)
     ·exact .inr (.inl h)
     ·exact .inl h
     ·exact .inr (.inr h)
    ·rintro (h | h | h)
     ·exact .inl (.inr h)
     ·exact .inl (.inl h)
     ·exact .inr h
   ·rcases B with rfl | rfl
    ·exact l e m
    ·obtain ⟨b,t,e2⟩:=l i rfl;have p:=zC (D e m);refine ⟨b,t,.inr ?_⟩;rcases e2 with rfl | e2
     ·exact p
     ·intro X j H;exact p X j λI G k A=>j i I G (e2 X j H) k A
  simp only [vd,nj,F] at he;grind
theorem Nr (ok:C.tb.Ok C.P) {m:Array Oper} (u:m.toList=L) (G:(cv L).Nodup) (R:∀d∈cv L,d<n) {K0:St->Hp->Prop} {Q:Exit->Act->World->Prop} {dE:List Nat} {lE:Option Nat}
  (a8:∀j,j<L.length->j∉dE->∀e,lE=some e->lV L j e)
  (K:∀(fuel:Nat) (g:List Nat) (q:Array Bool) (β:Nat->Nat) (s:St) (a:Act) (h:Hp) (w:World),nz C L mok n lv0 β0 a0 h0 w0 dE g q β s a h w->K0 s h->L.length<=fuel+g.length->wpAny C.P .any m Q fuel q a w):
  ∀(fuel:Nat) (r:List (Nat×List Nat)) (done g:List Nat) (q:Array Bool) (last:Option Nat) (β:Nat->Nat) (s:St) (a:Act) (h:Hp) (w:World),
   nz C L mok n lv0 β0 a0 h0 w0 done g q β s a h w->eg C.tb C.aQ L (bF L []) r done last=true->vd C.tb C.aQ L (bF L []) r done last=(dE,lE)->pj C L mok r s h K0->
   L.length<=fuel+g.length->wpAny C.P .any m Q fuel q a w:=by
 intro fuel
 induction fuel with
 | zero=>
  intro r done g q last β s a h w hs hp he hv hf;have b0:∀j,j<L.length->j∈g:=λj t=>Al hs.BF (λx B=>hs.rX x (hs.jy x B)) (by omega) t;cases r with
  | nil=>cases he;exact K 0 g q β s a h w hs hv hf
  | cons x r=>obtain ⟨i,ws⟩:=x;obtain ⟨o,c,_,_,hid,_⟩:=MN hp;exact absurd (hs.jy i (b0 i (List.getElem?_eq_some_iff.1 c).1)) hid
 | succ fuel Y=>
  intro r
  induction r with
  | nil=>intro done g q last β s a h w hs hp he hv hf;cases he;exact K (fuel+1) g q β s a h w hs hv hf
  | cons x r c2=>
   intro done g q last β s a h w hs hp he hv hf;obtain ⟨i,ws⟩:=x;obtain ⟨o,c,A,O,hid,b9,hc⟩:=MN hp;obtain ⟨c0,_,_⟩:=MO hp he;simp only [pj,nj,c] at hv;obtain ⟨b5,T⟩:=j4 hv;have rest:eg C.tb C.aQ L (bF L []) r (i::done) (some i)=true->vd C.tb C.aQ L (bF L []) r (i::done) (some i)=(dE,lE)->
     ((isVal C.tb o=true\/mH C.aQ o=true)\/∀j p,j∈done->L[j]? =some p->isVal C.tb p=true->rM C.tb p=true->j∈ws\/j∈lU (bF L []) i)->wpAny C.P .any m Q (fuel+1) q a w:=by
    intro f N b7;have M:∀s1 b,(match (generalizing:=false) ws with
     | []=>pj C L mok r s1 b K0
     | ws=>Fi C (vE o s) L s1 b ws/\pj C L mok r s1 b K0)->Fi C (vE o s) L s1 b ws/\pj C L mok r s1 b K0:=by
     intro s1 b e;cases ws with
     | nil=>exact ⟨trivial,e⟩
     | cons x ws=>exact e
    refine ⟨λhr=> ?_,λj t=> ?_⟩
    ·exfalso;by_cases B:∃j∈done,j∉g
     ·obtain ⟨j,b,v,h3⟩:=yB hs.sL B;have hi:=List.getElem?_eq_getElem (hs.rX j b);have:j∈Region.ready .any m q:=(zG u hs).2 ⟨v,_,hi,h3 _ hi⟩;grind
     ·have:i∈Region.ready .any m q:=(zG u hs).2 ⟨λe=>hid (hs.jy i e),o,c,λk l=>Classical.byContradiction λe=>B ⟨k,A k l,e⟩⟩;grind
    ·obtain ⟨b,p,y,v⟩:=(zG u hs).1 t;by_cases F:j∈done
     ·exact DD ok u G hs y F b v _ Q λI D H z=>Y ((i,ws)::r) done (j::g) _ last I s D h H z hp he (by
       simp only [pj,nj,c];omega) (by simp;omega)
     ·by_cases b2:j=i
      ·subst b2;rw [c] at y;cases y;exact Ud ok u G R hs c hid v O b7 (λs h e=>(M s h e).1) T _ Q λs' h' I D H l z=>Y r (j::done) (j::g) _ (some j) I s' D h' H z f N (M _ _ l).2 (by simp;omega)
      ·exfalso;have b3:=(List.getElem?_eq_some_iff.1 y).1;have a9:lV L j i:=by
        by_cases b4:j∈r.map (·.1)
        ·exact Li f j b4
        ·have b1:j∉dE:=λh=>by grind
         obtain ⟨_,_,g3⟩:=MO f N;obtain ⟨J,e1,e2⟩:=g3 i rfl;have b:=a8 j b3 b1 J e1;rcases e2 with rfl | e2
         ·exact b
         ·intro X E A;exact e2 X E λZ S k l=>E J Z S (b X E A) k l
       have:=a9 (· ∈g) hs.qS λZ S=>by grind
       exact hid (hs.jy i this)
   simp only [vd,nj,c] at he;rcases hc with ⟨V,W,f⟩ | ⟨V,W,f⟩ | ⟨U,c1,b8,f⟩
   ·obtain ⟨s',l,z⟩:=T8 ok G R hs c hid A O W V b5 T;grind
   ·grind
   ·exact rest f (by grind) (.inr λj p F t U b6=>Kf b8 j F p t U b6)
theorem Ns {tb:Tb} {aQ:List Nat} {rows:List (List Nat)}:∀ {r:List (Nat×List Nat)} {done:List Nat} {last:Option Nat},eg tb aQ L rows r done last=true->
  (r.map (·.1)).Nodup/\∀j∈r.map (·.1),j∉done/\j<L.length
 | [],_,_,_=>⟨.nil,λj d=>(nomatch d)⟩
 | (i,ws)::r,done,last,h=>by obtain ⟨o,f,_,_,hid,_,e⟩:=MN h;have k:∀b,eg tb aQ L rows r (i::done) b=true->_:=λb c=>Ns c;grind
theorem Lm {aQ:List Nat} {k:Nat}:∀ {L:List Oper},k∈kN aQ L↔∃(i:Nat) (o:Oper),L[i]? =some o/\cZ aQ o k
 | []=>by simp [kN]
 | o::L=>by
  have f:=Lm (aQ:=aQ) (k:=k) (L:=L);have key:(∃(i:Nat) (p:Oper),(o::L)[i]? =some p/\cZ aQ p k)↔(cZ aQ o k\/∃(i:Nat) (p:Oper),L[i]? =some p/\cZ aQ p k):=by
   constructor
   ·grind
   ·rintro (h | ⟨i,p,b,c⟩)
    ·exact ⟨0,o,by simp,h⟩
    ·exact ⟨i+1,p,by simpa using b,c⟩
  rw [key,<-f];by_cases hp:∃d,cZ aQ o d
  ·obtain ⟨d,hp⟩:=hp;rw [Pu hp,List.mem_cons];refine or_congr ⟨λe=>e▸hp,λe=> ?_⟩ .rfl;have:=e.2;rw [hp.2] at this;cases this;rfl
  ·rw [Cr λd e=>hp ⟨d,e⟩];grind
end
theorem Fk :∀(l:List Oper) (j i k:Nat),(eJ l j i)[k]? =(l[k]?).map λo=>if k=j then {o with after:=⟨app o.after.toList [⟨i,.data⟩]⟩} else o
 | [],_,_,k=>by simp [eJ]
 | o::r,0,i,0=>by simp [eJ]
 | o::r,0,i,k+1=>by simp [eJ]
 | o::r,j+1,i,0=>by simp [eJ]
 | o::r,j+1,i,k+1=>by simp [eJ,Fk r j i k]
theorem uF :∀(l:List Oper) (j i:Nat),(eJ l j i).length=l.length
 | [],_,_=>rfl
 | _::_,0,_=>rfl
 | o::r,j+1,i=>by simp [eJ,uF r j i]
theorem Bb :∀(l:List Oper) (j i:Nat),cv (eJ l j i)=cv l
 | [],_,_=>rfl
 | _::_,0,_=>rfl
 | o::r,j+1,i=>by simp only [eJ,cv,Bb r j i]
section
variable {P:Program} {Q:Exit->Act->World->Prop} {ops b:Array Oper} {i j:Nat}
theorem DF (d:b.toList=eJ ops.toList j i) {k:Nat} {K:Act->World->Prop} {a:Act} {w:World} (h:wpOp P b Q k K a w):wpOp P ops Q k K a w:=by
 have f:∀k:Nat,b[k]? =(ops[k]?).map λo=>if k=j then {o with after:=⟨app o.after.toList [⟨i,.data⟩]⟩} else o:=λk=>by rw [<-Array.getElem?_toList,d,Fk,Array.getElem?_toList]
 have l:∀c,yielded b c=yielded ops c:=λc=>by funext q;unfold yielded;grind
 unfold wpOp at*;rw [f] at h;cases g:ops[k]? with
 | none=>grind
 | some o=>
  rw [g] at h;simp only [Option.map_some,l] at h;by_cases e:k=j
  ·rw [if_pos e] at h;exact h
  grind
theorem M3 (g:b.toList=eJ ops.toList j i) {k:Nat} {c:Array Bool}:(k∈Region.ready .any b c->k∈Region.ready .any ops c)/\(k∈Region.ready .any ops c->(k≠j\/c.getD i false=true)->k∈Region.ready .any b c):=by
 have l:∀k:Nat,b[k]? =(ops[k]?).map λo=>if k=j then {o with after:=⟨app o.after.toList [⟨i,.data⟩]⟩} else o:=λk=>by rw [<-Array.getElem?_toList,g,Fk,Array.getElem?_toList]
 simp only [mem_ready,l];constructor
 ·rintro ⟨d,n,a,f⟩;refine ⟨d,?_⟩;cases e:ops[k]? with
  | none=>grind
  | some o=>
   rw [e] at a;refine ⟨o,rfl,λx hx=>f x ?_⟩;simp at a;subst a;split
   ·rw [rN];grind
   ·exact hx
 ·rintro ⟨d,o,a,f⟩ m;refine ⟨d,_,by rw [a];rfl,λx hx hb=> ?_⟩;dsimp only at hx;by_cases e:k=j
  ·rw [if_pos e] at hx;have hx:x∈(⟨app o.after.toList [⟨i,.data⟩]⟩:Array Edge):=hx;rw [rN] at hx;simp at hx;rcases hx with hx | hx
   ·exact f x (by simpa using hx) hb
   ·subst hx;exact m.resolve_left λh=>h e
  grind
theorem L8 (e:b.toList=eJ ops.toList j i):∀(fuel:Nat) (c:Array Bool) (a:Act) (w:World),c.getD i false=true->wpAny P .any b Q fuel c a w->wpAny P .any ops Q fuel c a w:=by
 have g:∀c:Array Bool,c.getD i false=true->Region.ready .any ops c=[]->Region.ready .any b c=[]:=λc hi f=>by refine List.eq_nil_iff_forall_not_mem.2 λk d=> ?_;have:=(M3 e).1 d;grind
 have l:∀c:Array Bool,c.getD i false=true->Region.ready .any b c=[]->Region.ready .any ops c=[]:=λc hi f=>by refine List.eq_nil_iff_forall_not_mem.2 λk d=> ?_;have:=(M3 e).2 d (.inr hi);grind
 intro fuel
 induction fuel with
 | zero=>exact λc a w hi h=>⟨l c hi h.1,h.2⟩
 | succ fuel m=>intro c a w hi h;refine ⟨λf=>h.1 (g c hi f),λk d=> ?_⟩;exact wpOp_mono (λa w h=>m _ a w (getD_set_true hi) h) (DF e (h.2 k ((M3 e).2 d (.inr hi))))
end
section
variable {C:Ctx} {L:List Oper} {mok:List Nat} {n:Nat} {lv0:Nat->Prop} {β0:Nat->Nat} {a0:Act} {h0:Hp} {w0:World} {done c:List Nat} {f:Array Bool} {β:Nat->Nat} {s:St} {a:Act} {h:Hp} {w:World} {i j:Nat}
theorem I5 {k:Nat} (b:k≠j):(eJ L j i)[k]? =L[k]?:=by rw [Fk];grind
theorem RV (k:Nat) {o:Oper}:(eJ L j i)[k]? =some o->∃p,L[k]? =some p/\o.dst=p.dst/\o.op=p.op/\o.guard=p.guard:=by rw [Fk];grind
theorem nB (k:Nat) {p:Oper} (h:L[k]? =some p):∃o,(eJ L j i)[k]? =some o/\o.dst=p.dst/\o.op=p.op/\o.guard=p.guard:=by rw [Fk,h];grind
theorem Ln :∀(m:Nat) (o:Oper),qa (eJ L j i) m o=qa L m o
 | 0,_=>rfl
 | m+1,o=>by
  unfold qa;cases o.guard with
  | none=>rfl
  | some g=>
   obtain ⟨q,b⟩:=g;dsimp only;rw [nj,nj];cases e:L[q]? with
   | none=>
    have:(eJ L j i)[q]? =none:=by rw [Fk,e];rfl
    rw [this]
   | some p=>
    obtain ⟨d,k,l,_,r⟩:=nB (i:=i) (j:=j) q e;rw [k];dsimp only;have:∀m,qa L m d=qa L m p:=λm=>by cases m<;>simp [qa,r]
    rw [Ln m d,this,l]
theorem Lo {aQ:List Nat} {o p:Oper} (b:o.dst=p.dst) (d:o.op=p.op) (k:Nat):cZ aQ o k↔cZ aQ p k:=by unfold cZ mH;rw [b,d]
theorem Nt {b:List Oper} {e rows:List (List Nat)}:∀ {done:List Nat},uQ b e L rows done=true->∀k∈done,∀o,L[k]? =some o->il e k o b 0=false->dy L rows k o=true/\il rows k o L 0=false
 | [],_,k,hk,_,_,_=>by cases hk
 | q::r,h,k,hk,o,d,m=>by
  unfold uQ at h;obtain ⟨g,l⟩:=fu h;rcases List.mem_cons.1 hk with rfl | hk
  ·rw [nj,d] at g;grind
  ·exact Nt l k hk o d m
theorem EZ {rows:List (List Nat)} {i:Nat} {done:List Nat}:∀ {m:Nat},uP rows i done m=true->∀k,k<m->k∉done->k≠i->i∈lU rows k
 | 0,_,k,p,_,_=>by omega
 | m+1,h,k,p,d,hi=>by
  unfold uP at h;obtain ⟨b,o⟩:=fu h;by_cases e:k=m
  ·subst e;have g:has done k=false:=by
    cases e:has done k with
    | false=>rfl
    | true=>exact absurd ((rT _ _).1 e) d
   have l:Nat.beq k i=false:=by
    cases e:Nat.beq k i with
    | false=>rfl
    | true=>exact absurd (Nat.eq_of_beq_eq_true e) hi
   rw [g,l] at b;exact (rT _ _).1 b
  ·exact EZ o k (by omega) d hi
theorem I6 (l:nz C L mok n lv0 β0 a0 h0 w0 done c f β s a h w) (P:j∉done) (Q:uQ L (bF L []) (eJ L j i) (bF (eJ L j i) []) done=true):
  nz C (eJ L j i) mok n lv0 β0 a0 h0 w0 done c f β s a h w:=by
 have m:∀q,q∈done->(eJ L j i)[q]? =L[q]?:=λq r=>I5 λe=>P (e▸r);have N:lG (eJ L j i) done c=lG L done c:=funext λt=>propext ⟨λh q o b k g=>h q o b k ((m q b).trans g),λh q o b k g=>h q o b k ((m q b).symm.trans g)⟩;have O:rV (eJ L j i) done=rV L done:=funext λt=>propext ⟨λ⟨q,o,b,k,g⟩=>⟨q,o,b,(m q b).symm.trans k,g⟩,λ⟨q,o,b,k,g⟩=>⟨q,o,b,(m q b).trans k,g⟩⟩;have E:qD C (eJ L j i) done=qD C L done:=funext λt=>propext ⟨λ⟨q,o,b,k,g⟩=>by
   obtain ⟨p,u,v,y,_⟩:=RV q k;exact ⟨q,p,b,u,(Lo v y t).1 g⟩,λ⟨q,o,b,k,g⟩=>by
   obtain ⟨p,u,v,y,_⟩:=nB (i:=i) (j:=j) q k;exact ⟨q,p,b,u,(Lo v y t).2 g⟩⟩
 have D:iu C (eJ L j i) done c=iu C L done c:=funext λt=>propext (by
  unfold iu;rw [E];grind)
 have A:∀X:List Nat,(∀q∈X,q∈done)->vo L (· ∈X)->vo (eJ L j i) (· ∈X):=λX K M q o z r=>M q o ((m q (K q r)).symm.trans z) r;have R:∀d:List Nat,(∀q∈d,q∈done)->vy L d->vy (eJ L j i) d:=by
  intro d
  induction d with
  | nil=>intro _ _;trivial
  | cons q d T=>intro B F;exact ⟨λo z=>F.1 o ((m q (B q (List.mem_cons_self ..))).symm.trans z),T (λx S=>B x (List.mem_cons_of_mem _ S)) F.2⟩
 refine ⟨by rw [uF];exact l.AS,l.AR,l.BF,l.jy,λq r=>by rw [uF];exact l.rX q r,A c l.jy l.qS,A done (λ_ h=>h) l.kW,R done (λ_ h=>h) l.sL,?_,λq o b k g=> ?_,?_⟩
 ·rw [N,D,O,E];exact l.rr
 ·have J:=(m q b).symm.trans g;obtain ⟨f1,f2,f3,G⟩:=l.facts q o b k J;obtain ⟨H,I⟩:=Nt Q q b o g f3;refine ⟨?_,H,I,G⟩;unfold ny at*;rw [uF,Ln];exact f1
 ·rw [Bb,D];exact l.wx
end
theorem RX {l m:List Nat} (b:m.Nodup) (h:l.Nodup) (c:∀x∈l,x∈m):l.length<=m.length:=by
 induction l generalizing m with
 | nil=>simp
 | cons a l i=>obtain ⟨f,g⟩:=List.nodup_cons.1 h;have j:=c a (List.mem_cons_self ..);have:=i (m:=m.erase a) (b.erase a) g λx d=>(b.mem_erase_iff).2 ⟨λe=>f (e▸d),c x (List.mem_cons_of_mem _ d)⟩;grind
theorem I7 {C:Ctx} {L:List Oper} {u:List Nat} {n:Nat} {r:Nat->Prop} {z:Nat->Nat} {a0:Act} {l:Hp} {v:World} {K:St->Hp->Prop} {Q:Exit->Act->World->Prop} {done ls:List Nat} {F:Array Bool} {x:Nat->Nat} {s:St} {a:Act} {h:Hp} {w:World}
  (q:nz C L u n r z a0 l v done ls F x s a h w) (D:∀j,j<L.length->j∈done) (o:∀j∈done,j∈ls) (E:K s h)
  (B:∀g f y d i,K g f->RR n (λ_=>True) (λ_=>True) (λ_=>True) (λ_=>False) y g d f i->gT (cv L) u r z a0 l v (cY g) y d f i->Q .normal d i):Q .normal a w:=by
 have A:∀k,¬qD C L done k:=λk ⟨j,p,b,c,_⟩=>b (D j (List.getElem?_eq_some_iff.1 c).1);have m:∀k,True↔iu C L done ls k:=λk=>⟨λ_=>⟨λj p b c _=>absurd (o j b) c,A k⟩,λ_=>trivial⟩;exact B s h x a w E (q.rr.congr (λt=>⟨λ_ j p b c _=>absurd (o j b) c,λ_=>trivial⟩) m (λ_ _=>trivial) (λ_ e=>e.elim)) (q.wx.mono (λ_ e=>e) (λ_ e=>e) (λ_ e=>e) (λk e=>⟨e.1,(m k).1 trivial⟩))
theorem abI {C:Ctx} (ok:C.tb.Ok C.P) {mok:List Nat} {n:Nat} {lv0:Nat->Prop} {β0:Nat->Nat} {a0:Act} {h0:Hp} {w0:World} {K:St->Hp->Prop} {Q:Exit->Act->World->Prop}:
  ∀(A:iY) (c:Array Oper) (done:List Nat) (last:Option Nat),(cv c.toList).Nodup->(∀d∈cv c.toList,d<n)->nM C.tb C.aQ A c.toList done last=true->done.Nodup->
  (∀Z R J D G,K Z R->RR n (λ_=>True) (λ_=>True) (λ_=>True) (λ_=>False) J Z D R G->gT (cv c.toList) mok lv0 β0 a0 h0 w0 (cY Z) J D R G->Q .normal D G)->
  ∀(fuel:Nat) (l:List Nat) (g:Array Bool) (v:Nat->Nat) (s:St) (a:Act) (h:Hp) (w:World),nz C c.toList mok n lv0 β0 a0 h0 w0 done l g v s a h w->wo C mok K A c.toList s h->c.toList.length<=fuel+l.length->
   wpAny C.P .any c Q fuel g a w:=by
 intro A
 induction A with
 | rg O=>
  intro c done last hnd F hp hdn hQ fuel l g v s a h w b hv t;unfold nM at hp;obtain ⟨b4,hp⟩:=fu hp;have b4:=Nat.eq_of_beq_eq_true b4;have H:∀dE lE,vd C.tb C.aQ c.toList (bF c.toList []) O done last=(dE,lE)->∀j,j<c.toList.length->j∈dE:=λdE lE B j u=>by
   obtain ⟨Y,L,_⟩:=MO hp B;have a8:=Ns hp;refine Al (L hdn) (λx r=> ?_) ?_ u
   ·rcases (Y x).1 r with h1 | h1
    ·exact b.rX x h1
    grind
   ·have h1:(done++O.map (·.1)).Nodup:=List.nodup_append.2 ⟨hdn,a8.1,λx r y hy e=>(a8.2 y hy).1 (e▸r)⟩;have z:=RX (L hdn) h1 λx r=>by rw [List.mem_append] at r;exact (Y x).2 r
    grind
  cases B:vd C.tb C.aQ c.toList (bF c.toList []) O done last with
  | mk dE lE=>
   have H:=H dE lE B;refine Nr (mok:=mok) (K0:=K) ok rfl hnd F (dE:=dE) (lE:=lE) (λj u N=>absurd (H j u) N) ?_ fuel O done l g last v s a h w b hp B hv t;clear b hv t;intro fuel
   induction fuel with
   | zero=>intro l g v s a h w b hv t;have hl:∀j,j<c.toList.length->j∈l:=λj u=>Al b.BF (λx r=>b.rX x (b.jy x r)) (by omega) u;refine ⟨List.eq_nil_iff_forall_not_mem.2 λk m=> ?_,I7 b H (λj u=>hl j (b.rX j u)) hv hQ⟩;obtain ⟨h1,o,T,_⟩:=(zG rfl b).1 m;grind
   | succ fuel X=>
    intro l g v s a h w b hv t;refine ⟨λhr=>I7 b H (λj u=>Classical.byContradiction λe=> ?_) hv hQ,λj u=> ?_⟩
    ·obtain ⟨i,h1,z,S⟩:=yB b.sL ⟨j,u,e⟩;have hi:=List.getElem?_eq_getElem (b.rX i h1);have:i∈Region.ready .any c g:=(zG rfl b).2 ⟨z,_,hi,S _ hi⟩;grind
    ·obtain ⟨h1,o,T,z⟩:=(zG rfl b).1 u;exact DD ok rfl hnd b T (H j (List.getElem?_eq_some_iff.1 T).1) h1 z _ Q λJ D G W=>X (j::l) _ J s D h G W hv (by grind)
 | r2 pre i j x y c9 d0=>
  intro c done last hnd F hp hdn hQ fuel l g v s a h w b hv t;unfold nM at hp;obtain ⟨b5,hp⟩:=fu hp;cases B:vd C.tb C.aQ c.toList (bF c.toList []) pre done last with
  | mk dE lE=>
   rw [B] at hp;dsimp only at hp;obtain ⟨f,hp⟩:=fu hp;obtain ⟨c6,c7⟩:=fu hp;obtain ⟨Y,L,_⟩:=MO b5 B;unfold Kz at f;cases I:Nat.beq i j with
   | true=>grind
   | false=>
    rw [I] at f;have I:i≠j:=λe=>by rw [e] at I;simp at I
    simp only [cond_false,nj] at f;cases U:c.toList[i]? with
    | none=>grind
    | some o=>
     cases c5:c.toList[j]? with
     | none=>grind
     | some p=>
      rw [U,c5] at f;dsimp only at f;cases E:has dE i with
      | true=>grind
      | false=>
       cases M:has dE j with
       | true=>grind
       | false=>
        rw [E,M] at f;simp only [cond_false] at f;have E:=zE E;have M:=zE M;obtain ⟨c8,f⟩:=fu f;obtain ⟨d2,f⟩:=fu f;obtain ⟨b3,f⟩:=fu f;obtain ⟨b7,f⟩:=fu f;obtain ⟨d1,f⟩:=fu f;obtain ⟨c0,c1⟩:=fu f;refine Nr (mok:=mok) ok rfl hnd F (dE:=dE) (lE:=lE) (λk m N e c3=> ?_) ?_ fuel pre done l g last v s a h w b b5 B hv t
        ·subst c3;by_cases b0:k=e
         ·subst b0;exact absurd ((rT _ _).1 (fu b3).1) N
         ·exact zC (EZ (fu b3).2 k m N b0)
        ·clear b hv t;have b9:i<c.toList.length:=(List.getElem?_eq_some_iff.1 U).1;intro fuel
         induction fuel with
         | zero=>intro l g v s a h w b hv t;exact absurd (b.jy i (Al b.BF (λx r=>b.rX x (b.jy x r)) (by omega) b9)) E
         | succ fuel X=>
          intro l g v s a h w b hv t;have s1:=I6 b M c0;have s2:=I6 b E c1;have kx:=c9 (eJ c.toList j i).toArray dE lE (by simpa [Bb] using hnd) (by simpa [Bb] using F) c6 (L hdn) (by simpa [Bb] using hQ) (fuel+1) l g v s a h w s1 hv.1 (by simpa [uF] using t);have ky:=d0 (eJ c.toList i j).toArray dE lE (by simpa [Bb] using hnd) (by simpa [Bb] using F) c7 (L hdn) (by simpa [Bb] using hQ) (fuel+1) l g v s a h w s2 hv.2 (by simpa [uF] using t);have b6:∀ {k:Nat},k∈Region.ready .any c g->(g.setIfInBounds k true).getD k false=true:=λ{k} m=>by
           have h0:=(mem_ready.1 m).1;have F:k<g.size:=by grind
           simp [F]
          refine ⟨λhr=> ?_,λk m=> ?_⟩
          ·exfalso;by_cases r:∃j∈dE,j∉l
           ·obtain ⟨q,h1,z,S⟩:=yB b.sL r;have hi:=List.getElem?_eq_getElem (b.rX q h1);have:q∈Region.ready .any c g:=(zG rfl b).2 ⟨z,_,hi,S _ hi⟩;grind
           ·have:i∈Region.ready .any c g:=(zG rfl b).2 ⟨λe=>E (b.jy i e),o,U,λk m=>Classical.byContradiction λe=>r ⟨k,FM c8 k m,e⟩⟩;grind
          ·obtain ⟨h1,q,V,z⟩:=(zG rfl b).1 m;by_cases a9:k∈dE
           ·exact DD ok rfl hnd b V a9 h1 z _ Q λJ D G W=>X (k::l) _ J s D h G W hv (by grind)
           ·by_cases b1:k=i
            ·subst b1;exact wpOp_mono (λa w h=>L8 rfl _ _ a w (b6 m) h) (DF rfl (kx.2 k ((M3 rfl).2 m (.inl I))))
            ·by_cases b2:k=j
             ·subst b2;exact wpOp_mono (λa w h=>L8 rfl _ _ a w (b6 m) h) (DF rfl (ky.2 k ((M3 rfl).2 m (.inl λe=>I e.symm))))
             ·exfalso;have c2:=(List.getElem?_eq_some_iff.1 V).1;have b8:=zC (EZ b7 k c2 a9 b1) (· ∈l) s1.qS λo' c4=>by rw [I5 b2,V] at c4;grind
              exact E (b.jy i b8)
 | _=>intro c done last _ _ hp;cases hp
theorem RZ {C:Ctx} (ok:C.tb.Ok C.P) {b:Array Oper} {mok:List Nat} {n:Nat} {A:iY} {m:Nat->Nat} {s:St} {a:Act} {h:Hp} {w:World} {K:St->Hp->Prop} {Q:Exit->Act->World->Prop} {id:Nat}
  (q:nodup (cv b.toList)=true) (hp:nM C.tb C.aQ A b.toList [] none=true) (E:∀d∈cv b.toList,d<n) (y:Rel n m s a h w) (hv:wo C mok K A b.toList (s.kX (kN C.aQ b.toList)) h)
  (B:∀g f p c j,K g f->Rel n p g.clean c f j->gT (cv b.toList) mok (cY s) m a h w (cY g) p c f j->Q .normal c j):(Code.region id b true).wp C.P Q a w:=by
 have F:=nodup_iff q;refine wp_region_any ok.mixed ?_;have z:Step h h w {w with drawn:=w.drawn+1}:=⟨y.sub,Nat.le_refl _,λ_ _ e=>⟨rfl,e⟩,rfl,rfl,rfl⟩;have H:=(y.step z).start (kN C.aQ b.toList);have x:∀k,qD C b.toList [] k↔k∈kN C.aQ b.toList:=λk=>by rw [Lm];exact ⟨λ⟨i,o,_,r,u⟩=>⟨i,o,r,u⟩,λ⟨i,o,r,u⟩=>⟨i,o,by simp,r,u⟩⟩
 have v:∀k,iu C b.toList [] [] k↔k∉kN C.aQ b.toList:=λk=>by rw [<-x];exact ⟨λe=>e.2,λe=>⟨λi o q=>absurd q List.not_mem_nil,e⟩⟩
 refine abI (mok:=mok) (n:=n) (lv0:=cY s) (β0:=m) (a0:=a) (h0:=h) (w0:=w) (K:=K) ok A b [] none F E hp .nil (λg f p c j D G I=>B g f p c j D G.clean I) b.size [] _ m (s.kX (kN C.aQ b.toList)) a h _
  ⟨by simp,λi=> ?_,.nil,λi e=>absurd e List.not_mem_nil,λi e=>absurd e List.not_mem_nil,λi o _ e=>absurd e List.not_mem_nil,λi o _ e=>absurd e List.not_mem_nil,trivial,?_,λi o e=>absurd e List.not_mem_nil,?_⟩ hv (by simp)
 ·by_cases hi:i<b.size
  ·simp [hi]
  ·simp [hi]
 ·exact H.congr (λt=>⟨λ_=>trivial,λ_ i o e=>absurd e List.not_mem_nil⟩) v (λ_ e=>e.elim) (λk e=>(x k).1 e)
 ·exact (gT.step (lv:=cY s) z).mono (λ_ e=>e) (λ_ e=>e) (λ_ e=>e) (λk e=>LZ (l:=kN C.aQ b.toList) ⟨e.1,(v k).1 e.2⟩)
def pd :Ex->Exit
 | .gH=>.normal
 | .ret=>.ret
 | .ext i=>.exit i
 | .kn i=>.goto i
theorem Nu {p:Nat->Prop}:(∃n,p n)->∃n,p n/\∀m,p m->n<=m:=by
 rintro ⟨n,a⟩
 induction n using Nat.strongRecOn with
 | _ n b=>grind
theorem Yh {P:Program} {c:Code} {Q:Exit->Act->World->Prop} {a:Act} {w:World} (J:Nat->Act->World->Prop) (g:∃n,J n a w)
  (round:∀n a w,J n a w->c.wp P (Exit.then (λd f=>∃m,m<n/\J m d f) Q) a w):(Code.loop c).wp P Q a w:=by
 classical
 let b:Act->World->Nat:=λa w=>if h:∃n,J n a w then Classical.choose (Nu h) else 0
 have j:∀a w,(h:∃n,J n a w)->J (b a w) a w/\∀m,J m a w->b a w<=m:=λa w h=>by have:=Classical.choose_spec (Nu h);simp only [b,dif_pos h];exact this
 refine wp_loop (λa w=>∃n,J n a w) b g λa w i=> ?_;refine wp_mono (round (b a w) a w (j a w i).1) λe d f k=> ?_;grind
section
variable {n:Nat} {β:Nat->Nat} {s:St} {a:Act} {h:Hp} {w:World}
structure Fs (s s' s2:St) (a':Act) (n:Nat) (l mm:List Nat):Prop where
 f:∀t v c,s2.f t=some (v,c)->c=[]/\((s.f t=some (v,[])/\t∉l/\∀k o,(v=.box k o\/v=.dS k o)->k∉l)\/(∃x,v=.v x/\a'.eval (.tmp t)=x/\t<n))
 m:∀k cs,s2.m k=some cs->(s.m k=some cs/\k∉mm)\/s'.m k=some cs
theorem Yx {l B:List Nat} {u:Nat->Nat} {G s2:St} {z:Act} {A:Hp} {C:World} (r:Rel n β s a h w) (b:gT l B (cY s) β a h w (cY G) u z A C) (F:Rel n u G z A C) (j:Fs s G s2 z n l B):
  Rel n u s2 z A C/\gT l B (cY s) β a h w (cY s2) u z A C:=by
 have E:∀k g,s.m k=some g->k∉B->u k=β k/\β k<w.heap.size/\A (β k)=none/\∃H,C.heap[β k]? =some (.cells g.toArray H (0,0)):=by intro k g e O;obtain ⟨h1,H,i⟩:=r.box k g e trivial;have P:∀d∈B,cY s d->β d≠β k:=λd R S y=>O (by rw [r.inj k d (by simp [e]) S.1 trivial trivial y.symm];exact R);refine ⟨b.beta k (.inr O),ic i,b.xF _ (ic i) h1 P,H,?_⟩;rw [b.cT _ (ic i) h1 P];exact i
 have Q:∀k,G.m k≠none->(s.m k≠none/\u k=β k)\/w.heap.size<=u k:=λk e=>(b.fresh k ⟨e,trivial⟩).imp (λe=>⟨e.1.1,e.2⟩) id;refine ⟨⟨F.sz,F.sub,λt v c e=> ?_,λt v c e p hp=> ?_,λt v c e _ _=> ?_,λt v c e _ N=> ?_,λk g e _=> ?_,λk d e y _ _ q=> ?_,λ_ e=>e.elim,λ_ e=>e.elim⟩,?_⟩
 ·obtain ⟨_,h1 | ⟨x,_,_,h1⟩⟩:=j.f t v c e
  ·exact r.lt t v [] h1.1
  ·exact h1
 ·rw [(j.f t v c e).1] at hp;cases hp
 ·refine ⟨?_,λ_ _ _=>trivial⟩;obtain ⟨_,⟨h1,i,M⟩ | ⟨x,rfl,h1,_⟩⟩:=j.f t v c e
  ·rw [b.tmp t i,(r.cur t v [] h1 trivial (bL _)).1];cases v with
   | v x=>rfl
   | box k o=>simp only [LVal,b.beta k (.inl (M k o (.inl rfl)))]
   | dS k o=>simp only [LVal,b.beta k (.inl (M k o (.inr rfl)))]
  ·exact h1
 ·rw [(j.f t v c e).1] at N;exact absurd (bL _) N
 ·rcases j.m k g e with ⟨h1,i⟩ | h1
  ·grind
  ·exact F.box k g h1 trivial
 ·obtain ⟨g,e⟩:=Option.ne_none_iff_exists'.1 e;obtain ⟨D,y⟩:=Option.ne_none_iff_exists'.1 y;rcases j.m k g e with ⟨h1,i⟩ | h1
  ·obtain ⟨L,T,_⟩:=E k g h1 i;rcases j.m d D y with ⟨h1',K⟩ | h1'
   ·obtain ⟨I,_⟩:=E d D h1' K;rw [L,I] at q;exact r.inj k d (by simp [h1]) (by simp [h1']) trivial trivial q
   ·rcases Q d (by simp [h1']) with ⟨e3,J⟩ | e3
    ·rw [L,J] at q;exact r.inj k d (by simp [h1]) e3 trivial trivial q
    omega
  ·rcases j.m d D y with ⟨h1',K⟩ | h1'
   ·obtain ⟨I,U,_⟩:=E d D h1' K;rcases Q k (by simp [h1]) with ⟨e3,J⟩ | e3
    ·rw [I,J] at q;exact r.inj k d e3 (by simp [h1']) trivial trivial q
    omega
   ·exact F.inj k d (by simp [h1]) (by simp [h1']) trivial trivial q
 ·refine ⟨b.tmp,b.beta,b.size,b.xF,b.cT,λk e=> ?_,b.os,b.tape,b.output,b.defers⟩;obtain ⟨g,e⟩:=Option.ne_none_iff_exists'.1 e.1;rcases j.m k g e with ⟨h1,i⟩ | h1
  ·exact .inl ⟨⟨by simp [h1],trivial⟩,(E k g h1 i).1⟩
  ·exact b.fresh k ⟨by simp [h1],trivial⟩
def shO :Option Ty->Shape
 | some e=>e.sh
 | none=>uf
theorem I8 (tb:Tb) (t:Nat):dN tb t=shO (tb.ty t):=by unfold dN shO;grind
theorem Wl {P:Program} {tb:Tb} (ok:tb.Ok P) {t:Nat} (c:Ai tb t=false):∀(x:(dN tb t).T) (b:Array Value),(dN tb t).enc x≠ .agg b:=by
 rw [I8];unfold Ai at c;cases d:tb.ty t with
 | none=>intro x b e;cases e
 | some e=>rw [d] at c;intro x b;exact ((ok.leaf t e d c).2 x).2 b
theorem zR {tb:Tb} {t:Nat} {v:Value} {K:(dN tb t).T->Prop} (h:ur tb t v K):∃x,(dN tb t).enc x=v/\K x:=by
 unfold ur at h;cases hi:AN tb t with
 | true=>rw [hi] at h;exact h
 | false=>
  rw [hi] at h;simp only [cond_false] at h;split at h
  ·rename_i x b;exact ⟨x,(dN tb t).ok v x b,h⟩
  ·exact h.elim
theorem Nv {P:Program} {tb:Tb} (ok:tb.Ok P) {t:Nat} {c:List Value} {v:Value} {x:(dN tb t).T} (b:zK tb t c=some v) (hv:(dN tb t).enc x=v):ba ((dN tb t).enc x)=c:=by
 rw [hv];unfold zK at b;cases d:Ai tb t with
 | true=>rw [d] at b;cases b;rfl
 | false=>
  rw [d] at b;simp only [cond_false] at b;split at b
  ·cases b;have f:∀c,v≠ .agg c:=λc e=>Wl ok d x c (hv.trans e);cases v<;>first | rfl | grind
  ·cases b
theorem Lp {P:Program} {tb:Tb} (ok:tb.Ok P) {l B:List Nat} {G:Nat->Nat} {o s2:St} {p:Act} {D:Hp} {F:World} (z:Rel n G o p D F) {j:J} {K:(dN tb j.t).T->Prop} (b:Aj tb o j K)
  (g:Fs s o s2 p n l B):∃x,K x/\Fs s o (xi tb j x s2) p n l B:=by
 unfold Aj at b;cases d:j.P4 with
 | true=>
  rw [d] at b;simp only [cond_true] at b;split at b
  ·rename_i r H;split at b
   ·rename_i v hv
    ·obtain ⟨x,q,b⟩:=zR b;refine ⟨x,b,?_⟩;have E:=Nv ok hv q;unfold xi;rw [d];simp only [cond_true,E];refine ⟨g.f,λk C e=> ?_⟩;by_cases y:k=j.i
     ·subst y;rw [yR] at e;grind
     ·rw [xv _ _ y] at e;exact g.m k C e
   ·exact b.elim
  ·exact b.elim
 | false=>
  rw [d] at b;simp only [cond_false] at b;split at b
  ·rename_i v hv
   ·obtain ⟨x,q,b⟩:=zR b;refine ⟨x,b,?_⟩;unfold xi;rw [d];simp only [cond_false];rw [q];refine ⟨λt u c e=> ?_,λk r e=>g.m k r (by rwa [mY] at e)⟩;by_cases A:t=j.i
    ·subst A;rw [Fj] at e;cases e;exact ⟨rfl,.inr ⟨v,rfl,(z.cur j.i _ [] hv trivial (bL _)).1,z.lt _ _ _ hv⟩⟩
    ·rw [sX _ _ _ A] at e;exact g.f t u c e
  ·exact b.elim
theorem Nw {P:Program} {tb:Tb} (ok:tb.Ok P) {l e:List Nat} {q:Nat->Nat} {s':St} {a':Act} {f:Hp} {p:World} (d:Rel n q s' a' f p):∀ {js:List J} {s2:St} {K:oH tb js->Prop},nE tb js s' K->
  Fs s s' s2 a' n l e->∃x,K x/\Fs s s' (nV tb js x s2) a' n l e
 | [],s2,K,b,c=>⟨(),b,c⟩
 | [j],s2,K,b,c=>Lp ok d b c
 | j::o::js,s2,K,b,c=>by obtain ⟨x,k,g⟩:=Lp ok d b c;obtain ⟨y,m,i⟩:=Nw ok d (js:=o::js) k g;exact ⟨(x,y),m,i⟩
theorem abJ (m:Rel n β s a h w) {l f:List Nat} {s':St} {a':Act}:Fs s s' (s.forget l f) a' n l f:=by
 refine ⟨λt v c e=> ?_,λk o e=> ?_⟩
 ·simp only [St.forget] at e;cases d:has l t with
  | true=>simp [d] at e
  | false=>
   simp only [d,cond_false] at e;obtain ⟨g,i⟩:=mV e;have j:c=[]:=by
    cases c with
    | nil=>rfl
    | cons p c=>exact (m.chain t v _ g p (List.mem_cons_self ..)).elim
   subst j;exact ⟨rfl,.inl ⟨g,zE d,i⟩⟩
 ·simp only [St.forget] at e;cases b:has f k with
  | true=>simp [b] at e
  | false=>simp only [b,cond_false] at e;exact .inl ⟨e,zE b⟩
theorem wM {P:Program} {tb:Tb} (ok:tb.Ok P) {l mm:List Nat} {e:Nat->Nat} {s':St} {a':Act} {b:Hp} {d:World} (f:Rel n β s a h w) (k:gT l mm (cY s) β a h w (cY s') e a' b d) (g:Rel n e s' a' b d)
  {c:List J} {K:oH tb c->Prop} (i:nE tb c s' K):
  ∃x,K x/\Rel n e (nV tb c x (s.forget l mm)) a' b d/\gT l mm (cY s) β a h w (cY (nV tb c x (s.forget l mm))) e a' b d:=by
 obtain ⟨x,p,j⟩:=Nw ok g i (abJ (s':=s') (a':=a') f);obtain ⟨m,o⟩:=Yx f k g j;grind
end
theorem Wm {n:Nat} {P:Nat->Nat} {s:St} {a:Act} {h:Hp} {w:World} {l J:List Nat} {r:Nat->Nat} {u:St} {C:Act} {z:Hp} {E:World} {k:Nat} {K:St->Hp->Prop} (hk:k∈J) (g:gT l J (cY s) P a h w (cY u) r C z E) (d:Rel n r u C z E) (hp:BQ k u z K):
  ∃s2 q,K s2 q/\Rel n r s2 C q E/\gT l J (cY s) P a h w (cY s2) r C q E:=by
 unfold BQ at hp;split at hp
 ·rename_i k' off F L H;obtain ⟨A,N⟩:=j4 hp;obtain ⟨q,Z⟩:=j4 N;clear hp N;have A:=Nat.eq_of_beq_eq_true A;have q:=Nat.eq_of_beq_eq_true q;subst A q;obtain ⟨W,G,hw⟩:=d.box k F H trivial;have I:∀x,(z.set (r k) (.cells F.toArray G (0,0))) x=if x=r k then some (.cells F.toArray G (0,0)) else z x:=λx=>rfl
  have V:∀i y,cond (Nat.beq i k) none (u.m i)=some y->i≠k/\u.m i=some y:=λi y e=>by grind
  have B:∀t v c,cond (Nat.beq t k) (some (LV.v (.pointer (some ⟨r k,0,none⟩)),([]:aY))) (u.f t)=some (v,c)->(t=k/\v=LV.v (.pointer (some ⟨r k,0,none⟩))/\c=[])\/u.f t=some (v,c):=λt v c e=>by
   by_cases hi:t=k
   ·grind
   ·rw [pv hi] at e;exact .inr e
  refine ⟨_,_,Z (r k) G W,⟨d.sz,λb o e=> ?_,λt v c e=> ?_,λt v c e p O=> ?_,λt v c e _ M=> ?_,λt v c e _ M=> ?_,λi y e _=> ?_,λi j e D _ _ T=> ?_,λ_ e=>e.elim,λ_ e=>e.elim⟩,?_⟩
  ·rw [I] at e;split at e
   ·grind
   ·exact d.sub b o e
  ·rcases B t v c e with ⟨rfl,_,_⟩ | e
   ·exact d.lt t _ _ L
   ·exact d.lt t v c e
  ·rcases B t v c e with ⟨rfl,_,rfl⟩ | e
   ·cases O
   ·exact d.chain t v c e p O
  ·have U:holds u c:=by
    have:c=[]:=by
     rcases B t v c e with ⟨_,_,h⟩ | e
     ·exact h
     ·cases c with
      | nil=>rfl
      | cons p c=>exact (d.chain t v _ e p (List.mem_cons_self ..)).elim
    subst this;exact bL _
   rcases B t v c e with ⟨rfl,rfl,rfl⟩ | e
   ·refine ⟨?_,λ_ _ _=>trivial⟩;exact (d.cur t _ _ L trivial (bL _)).1
   ·exact ⟨(d.cur t v c e trivial U).1,λ_ _ _=>trivial⟩
  ·have:c=[]:=by
    rcases B t v c e with ⟨_,_,h⟩ | e
    ·exact h
    ·cases c with
     | nil=>rfl
     | cons p c=>exact (d.chain t v _ e p (List.mem_cons_self ..)).elim
   subst this;exact absurd (bL _) M
  ·obtain ⟨A,q⟩:=V i y e;obtain ⟨R,Q,S⟩:=d.box i y q trivial;refine ⟨?_,Q,S⟩;rw [I,if_neg]
   ·exact R
   ·intro D;exact A (d.inj i k (by simp [q]) (by simp [H]) trivial trivial D)
  ·obtain ⟨ci,e⟩:=Option.ne_none_iff_exists'.1 e;obtain ⟨cj,D⟩:=Option.ne_none_iff_exists'.1 D;exact d.inj i j (by grind) (by grind) trivial trivial T
  ·refine ⟨g.tmp,g.beta,g.size,λb hb X Y=> ?_,g.cT,λi hi=> ?_,g.os,g.tape,g.output,g.defers⟩
   ·rw [I,if_neg]
    ·exact g.xF b hb X Y
    ·rintro rfl;rcases g.fresh k ⟨by simp [H],trivial⟩ with ⟨e1,e2⟩ | e1
     ·grind
     ·omega
   ·obtain ⟨ci,e⟩:=Option.ne_none_iff_exists'.1 hi.1;exact g.fresh i ⟨by grind,trivial⟩
 ·exact hp.elim
theorem iR {x y:List Nat} {d:Nat}:d∈app x y↔d∈x\/d∈y:=by rw [rN,List.mem_append]
theorem pR {a:Type} {c:Bool} {x:Option a} {y:a} (e:cond c x none=some y):c=true/\x=some y:=by grind
theorem Lq {l:Nat}:∀ {c:Code},kY c l=true->findLabel c l=none:=by
 intro c
 induction c with
 | seq a b g h=>
  intro e;simp only [kY] at e;cases d:kY a l with
  | false=>grind
  | true=>rw [d] at e;simp only [findLabel,g d];exact h e
 | label i=>
  intro e;simp only [kY] at e;by_cases f:i=l
  ·subst f;simp at e
  ·simp [findLabel,f]
 | _=>intro _;rfl
theorem Lr {x y:Code} {l:Nat} (b:∀a,x≠ .label a):qF (.seq x y) l=cond (kY x l) (qF y l) none:=by cases x<;>first | rfl | grind
theorem Uf {C:Ctx} {x y:Code} {l:Nat} {A:iY} {a:List Nat} {s:St} {E:Env} {h:Hp} (c:∀d,x≠ .label d):
  liftM C (.seq x y) (.fr l) A a s E h=liftM C x .full A.fst a s (E.gH λe b=>liftM C y (.fr l) A.snd a e E b) h:=by
 cases x<;>first | rfl | exact absurd rfl (c _)
theorem Ui {C:Ctx} {x y:Code} {l:Nat} {A:iY} {b:List Nat} {s:St} {E:Env} {h:Hp} (f:∀g,x≠ .label g):
  liftM C (.seq x y) (.pr l) A b s E h=match (generalizing:=false) A with
   | .gj _ d e z _=>cond (kB e b) (liftM C x .full .tt b s (E.mu.gH λc a=>
     lX (λ(R:oH C.tb d->Hp->Prop)=>liftM C y (.fr l) z e c (E.Om l λc a=>nE C.tb d c λx=>R x a) a)
      (λx a=>liftM C y (.rs l) A.snd b (nV C.tb d x (c.forget (dX y) e)) E.mu a)) h) False
   | _=>liftM C x .full A.fst b s (E.mu.gH λc a=>liftM C y (.pr l) A.snd b c E a) h:=by
 cases x<;>first | rfl | exact absurd rfl (f _)
theorem IK {l:Nat} {Q:Exit->Act->World->Prop} {J:Act->World->Prop} {e:Exit} {a:Act} {w:World} (b:Exit.noGoto Q e a w):Exit.jump l J Q e a w:=by cases e<;>first | exact b | exact b.elim
theorem Ul {C:Ctx} {x y:Code} {l:Nat} {A:iY} {a:List Nat} {s:St} {E:Env} {h:Hp} (c:∀b,x≠ .label b):
  liftM C (.seq x y) (.rs l) A a s E h=liftM C y (.rs l) A a s E h:=by
 cases x<;>first | rfl | grind
theorem aas {l:Nat} {r:Code}:∀ {c:Code},qF c l=some r->findLabel c l=some (.seq .skip r):=by
 intro c
 induction c with
 | seq x y g f=>
  intro e;by_cases d:∃a,x=.label a
  ·obtain ⟨a,rfl⟩:=d;obtain ⟨b,e⟩:=pR e;obtain rfl:y=r:=Option.some.inj e;obtain rfl:=Nat.eq_of_beq_eq_true b;simp [findLabel]
  ·rw [Lr (λa e=>d ⟨a,e⟩)] at e;obtain ⟨b,e⟩:=pR e;simp only [findLabel,Lq b];exact f e
 | _=>intro e;simp [qF] at e
theorem Kg {x y:Code} {l:Nat} (b:∀a,x≠ .label a):ns (.seq x y) l=cond (kY x l) (ns y l) none:=by cases x<;>first | rfl | grind
theorem Uo {C:Ctx} {x y:Code} {l:Nat} {A:iY} {a:List Nat} {s:St} {E:Env} {h:Hp} (c:∀b,x≠ .label b):
  liftM C (.seq x y) (.rz l) A a s E h=liftM C y (.rz l) A a s E h:=by
 cases x<;>first | rfl | grind
theorem ZH {l:Nat} {r:Code}:∀ {c:Code},ns c l=some r->findLabel c l=some (.seq .skip r):=by
 intro c
 induction c with
 | seq x y i f=>
  intro e;by_cases d:∃a,x=.label a
  ·obtain ⟨a,rfl⟩:=d;by_cases b:a=l
   ·subst b;simp only [ns,Nat.beq_refl,cond_true] at e;obtain rfl:y=r:=Option.some.inj e;simp [findLabel]
   ·simp only [ns,pv b,cond_false] at e;have hb:¬((a==l)=true):=λh=>b (by simpa using h);simp only [findLabel,if_neg hb];exact f e
  ·rw [Kg (λa e=>d ⟨a,e⟩)] at e;obtain ⟨g,e⟩:=pR e;simp only [findLabel,Lq g];exact f e
 | _=>intro e;simp [ns] at e
def vv (P:Program) (x:Code) (Q:Exit->Act->World->Prop) (c:Code) (a:Act) (w:World):Prop:=
 ∀b k f,∃e d g,Q e d g/\Arrives P (lone (b.at a (.code c:: .inScope x::k)) f w) b k f e d g
def vx (P:Program) (x:Code) (Q:Exit->Act->World->Prop):Exit->Act->World->Prop
 | .goto l,a,w=>∃r,findLabel x l=some r/\vv P x Q r a w
 | e,a,w=>Q e a w
theorem Nx {P:Program} {x c:Code} {Q:Exit->Act->World->Prop} {a:Act} {w:World} (h:c.wp P (vx P x Q) a w):vv P x Q c a w:=by
 intro b k j;obtain ⟨e,g,i,f,d⟩:=h b (.inScope x::k) j;cases e with
 | normal=>exact ⟨.normal,g,i,f,Steps.trans d (.one step_inScope)⟩
 | exit id=>exact ⟨.exit id,g,i,f,λv s=>d v (by simp [exitTo,s])⟩
 | goto l=>
  obtain ⟨r,p,u⟩:=f;have q:gotoIn l (.inScope x::k)=some (.code r:: .inScope x::k):=by simp [gotoIn,p]
  obtain ⟨n,m,y,t,o⟩:=u b k j;exact ⟨n,m,y,t,.of_steps (d _ q) o⟩
 | ret=>exact ⟨_,g,i,f,d⟩
 | panic ch=>exact ⟨_,g,i,f,d⟩
 | outgrown=>exact ⟨_,g,i,f,d⟩
theorem ZI {P:Program} {x:Code} {Q:Exit->Act->World->Prop} {a:Act} {w:World} (h:vv P x Q x a w):(Code.scope x).wp P Q a w:=by intro b k d;obtain ⟨e,c,i,g,f⟩:=h b k d;exact ⟨e,c,i,g,.of_steps (.one step_scope) f⟩
theorem aat {C:Ctx} (ok:C.tb.Ok C.P) {n:Nat}:∀(c:Code),
  (∀(A:iY) (mok:List Nat) (s:St) (E:Env) (h:Hp),(∀d∈dX c,d<n)->liftM C c .full A mok s E h->∀(G:Nat->Nat) (a:Act) (w:World),Rel n G s a h w->
   ∀Q:Exit->Act->World->Prop,(∀e p j q f o,E e p j->Rel n q p f j o->gT (dX c) mok (cY s) G a h w (cY p) q f j o->Q (pd e) f o)->c.wp C.P Q a w)/\
  (∀l r,qF c l=some r->
   (∀(A:iY) (mok:List Nat) (s:St) (E:Env) (h:Hp),(∀d∈dX c,d<n)->liftM C c (.fr l) A mok s E h->∀(G:Nat->Nat) (a:Act) (w:World),Rel n G s a h w->
    ∀Q:Exit->Act->World->Prop,(∀p j q f o,E .gH p j->Rel n q p f j o->gT (dX c) mok (cY s) G a h w (cY p) q f j o->r.wp C.P Q f o)->
    (∀e p j q f o,e≠ .gH->E e p j->Rel n q p f j o->gT (dX c) mok (cY s) G a h w (cY p) q f j o->Q (pd e) f o)->c.wp C.P Q a w)/\
   (∀(A:iY) (mok:List Nat) (s:St) (E:Env) (h:Hp),(∀d∈dX c,d<n)->liftM C c (.rs l) A mok s E h->∀(G:Nat->Nat) (a:Act) (w:World),Rel n G s a h w->
    ∀Q:Exit->Act->World->Prop,(∀e p j q f o,E e p j->Rel n q p f j o->gT (dX c) mok (cY s) G a h w (cY p) q f j o->Q (pd e) f o)->r.wp C.P Q a w)/\
   (∀(A:iY) (mok:List Nat) (s:St) (E:Env) (h:Hp),(∀d∈dX c,d<n)->liftM C c (.pr l) A mok s E h->∀(G:Nat->Nat) (a:Act) (w:World),Rel n G s a h w->
    ∀Q:Exit->Act->World->Prop,(∀e p j q f o,(∀i,e≠ .kn i)->E e p j->Rel n q p f j o->gT (dX c) mok (cY s) G a h w (cY p) q f j o->Q (pd e) f o)->
    c.wp C.P (Exit.jump l (λf o=>r.wp C.P (Exit.noGoto Q) f o) Q) a w))/\
  ∀l r,ns c l=some r->
   ∀(A:iY) (mok:List Nat) (s:St) (E:Env) (h:Hp),(∀d∈dX c,d<n)->liftM C c (.rz l) A mok s E h->∀(G:Nat->Nat) (a:Act) (w:World),Rel n G s a h w->
    ∀Q:Exit->Act->World->Prop,(∀e p j q f o,E e p j->Rel n q p f j o->gT (dX c) mok (cY s) G a h w (cY p) q f j o->Q (pd e) f o)->r.wp C.P Q a w:=by
 intro c
 induction c with
 | skip=>refine ⟨?_,λl r e=>by simp [qF] at e,λl r e=>by simp [ns] at e⟩;intro A mok s E h _ hv G a w H Q F;exact wp_skip (F .gH s h G a w hv H (gT.refl _ _))
 | ret=>refine ⟨?_,λl r e=>by simp [qF] at e,λl r e=>by simp [ns] at e⟩;intro A mok s E h _ hv G a w H Q F;exact wp_ret (F .ret s h G a w hv H (gT.refl _ _))
 | exit i=>refine ⟨?_,λl r e=>by simp [qF] at e,λl r e=>by simp [ns] at e⟩;intro A mok s E h _ hv G a w H Q F;exact wp_exit (F (.ext i) s h G a w hv H (gT.refl _ _))
 | goto i=>refine ⟨?_,λl r e=>by simp [qF] at e,λl r e=>by simp [ns] at e⟩;intro A mok s E h _ hv G a w H Q F;exact wp_goto (F (.kn i) s h G a w hv H (gT.refl _ _))
 | label i=>refine ⟨?_,λl r e=>by simp [qF] at e,λl r e=>by simp [ns] at e⟩;intro A mok s E h _ hv G a w H Q F;exact wp_label (F .gH s h G a w hv H (gT.refl _ _))
 | region id b7 d1=>
  refine ⟨?_,λl r e=>by simp [qF] at e,λl r e=>by simp [ns] at e⟩;intro A mok s E h J hv G a w H Q F;have d9:∀p:St,∀k,cY p.clean k↔cY p k:=λp k=>.rfl;cases d1 with
  | true=>simp only [liftM] at hv;obtain ⟨hp,hv⟩:=j4 hv;obtain ⟨h1,hp⟩:=fu hp;exact RZ ok h1 hp J H hv λp j q f o hk B D=>F .gH p.clean j q f o hk B D
  | false=>
   simp only [liftM] at hv;obtain ⟨hp,hv⟩:=j4 hv;unfold AX at hp;obtain ⟨h1,hp⟩:=fu hp;have d7:=H.start (kN C.aQ b7.toList);have d0:∀g:Bool,(g=false->sN b7.toList=true)->(g=true->(cv b7.toList).Nodup/\zA b7.toList 0=true)->(Code.region id b7 false).wp C.P Q a w:=by
    intro g d5 d6;refine wp_region ?_;have:=L3 (n:=n) (mok:=mok) (K:=λp j=>E .gH p.clean j) (Q:=Q) ok g J d5 d6 b7.toList [] G _ a h w rfl (nodup_iff h1) hv
     (d7.congr (λ_=>.rfl) (λ_=>.rfl) (λ_ e=>e.elim) (λ_ e=>e)) (λp j q f o hk B D=>F .gH p.clean j q f o hk B.clean
      (D.mono (λ_ e=>e) (λ_ e=>e) (λk e=>LZ e) (λ_ e=>e)))
    rw [List.range_eq_range'];simpa using this
   cases c8:sN b7.toList with
   | true=>exact d0 false (λ_=>c8) (λe=>by cases e)
   | false=>rw [c8] at hp;simp only [cond_false] at hp;obtain ⟨M,h3⟩:=fu hp;exact d0 true (λe=>by cases e) (λ_=>⟨nodup_iff M,h3⟩)
 | seq x y b4 V=>
  have S:∀d∈dX x,d∈dX (.seq x y):=λd L=>iR.2 (.inl L);have T:∀d∈dX y,d∈dX (.seq x y):=λd L=>iR.2 (.inr L);refine ⟨?_,λl r e=> ?_,λl r e=> ?_⟩
  rotate_left
  rotate_left
  ·intro A mok s E h J hv G a w H Q F;have X:∀d∈dX y,d<n:=λd L=>J d (T d L);by_cases hx:∃l',x=.label l'
   ·obtain ⟨l',rfl⟩:=hx;by_cases hl:l'=l
    ·subst hl;simp only [ns,Nat.beq_refl,cond_true] at e;obtain rfl:y=r:=Option.some.inj e;simp only [liftM,Nat.beq_refl,cond_true] at hv;exact V.1 _ _ _ _ _ X hv G a w H Q λe p j q f o u B D=>F e p j q f o u B (D.mono T (λ_ e=>e) (λ_ e=>e) (λ_ e=>e))
    ·simp only [ns,pv hl,cond_false] at e;simp only [liftM,pv hl,cond_false] at hv;exact V.2.2 l r e _ mok s E h X hv G a w H Q λW p j q f o u B D=>F W p j q f o u B (D.mono T (λ_ e=>e) (λ_ e=>e) (λ_ e=>e))
   ·rw [Kg (λl' e=>hx ⟨l',e⟩)] at e;obtain ⟨-,e⟩:=pR e;rw [Uo (λl' e=>hx ⟨l',e⟩)] at hv;exact V.2.2 l r e _ mok s E h X hv G a w H Q λW p j q f o u B D=>F W p j q f o u B (D.mono T (λ_ e=>e) (λ_ e=>e) (λ_ e=>e))
  rotate_left
  ·by_cases hx:∃l',x=.label l'
   ·obtain ⟨l',rfl⟩:=hx;obtain ⟨-,e⟩:=pR e;obtain rfl:y=r:=Option.some.inj e;refine ⟨λA mok s E h J hv G a w H Q h1 _=> ?_,λA mok s E h J hv G a w H Q F=> ?_,λA mok s E h J hv=>hv.elim⟩
    ·exact wp_seq (wp_label (h1 s h G a w hv H (gT.refl _ _)))
    ·exact V.1 _ _ _ _ _ (λd L=>J d (T d L)) hv G a w H Q λe p j q f o u B D=>F e p j q f o u B (D.mono T (λ_ e=>e) (λ_ e=>e) (λ_ e=>e))
   ·rw [Lr (λl' e=>hx ⟨l',e⟩)] at e;obtain ⟨-,e⟩:=pR e;refine ⟨λA mok s E h J hv G a w H Q h1 M=> ?_,λA mok s E h J hv G a w H Q F=> ?_,λA mok s E h J hv G a w H Q F=> ?_⟩
    ·rw [Uf (λl' e=>hx ⟨l',e⟩)] at hv;refine wp_seq ?_;refine b4.1 _ mok s _ h (λd L=>J d (S d L)) hv G a w H _ λW p j q f o u B D=> ?_;have b0:=D.mono (mm':=mok) S (λ_ e=>e) (λ_ e=>e) (λ_ e=>e);cases W with
     | gH=>
      exact ((V.2.1 l r e).1 _ mok _ E j (λd L=>J d (T d L)) u q f o B Q
       (λs2 M N a2 O Z a9 b2=>h1 s2 M N a2 O Z a9 (b0.trans (b2.mono T (λ_ e=>e) (λ_ e=>e) (λ_ e=>e))))
       (λe2 s2 d2 N a2 O c3 Z a9 b2=>M e2 s2 d2 N a2 O c3 Z a9 (b0.trans (b2.mono T (λ_ e=>e) (λ_ e=>e) (λ_ e=>e)))))
     | ret=>exact M .ret p j q f o (by simp) u B b0
     | ext i=>exact M (.ext i) p j q f o (by simp) u B b0
     | kn i=>exact M (.kn i) p j q f o (by simp) u B b0
    ·rw [Ul (λl' e=>hx ⟨l',e⟩)] at hv;exact (V.2.1 l r e).2.1 _ mok s E h (λd L=>J d (T d L)) hv G a w H Q λW p j q f o u B D=>F W p j q f o u B (D.mono T (λ_ e=>e) (λ_ e=>e) (λ_ e=>e))
    ·rw [Ui (λl' e=>hx ⟨l',e⟩)] at hv;have X:∀d∈dX y,d<n:=λd L=>J d (T d L);refine wp_seq ?_;split at hv
     ·rename_i js mm z _;obtain ⟨b6,hv⟩:=j4 hv;have U:=FM b6;refine b4.1 _ mok s _ h (λd L=>J d (S d L)) hv G a w H _ λW s0 h0 b5 a0 w0 u a8 c2=> ?_;have b3:=c2.mono (mm':=mok) S (λ_ e=>e) (λ_ e=>e) (λ_ e=>e);cases W with
      | gH=>
       obtain ⟨R,hA,hB⟩:=u;have c5:∀p j q f o,Rel n q p f j o->gT (dX y) mm (cY s0) b5 a0 h0 w0 (cY p) q f j o->nE C.tb js p (λz=>R z j)->r.wp C.P (Exit.noGoto Q) f o:=by
        intro p j q f o B D hg;obtain ⟨z,hz,Y,b1⟩:=wM ok a8 D B hg;refine (V.2.1 l r e).2.1 _ mok _ _ j X (hB z j hz) q f o Y _ λe s2 M N a2 O u c0 c7=> ?_;have b8:=b3.trans (((b1.mono (l':=dX y) (mm':=mok) (λ_ e=>e) U (λ_ e=>e) (λ_ e=>e)).trans c7).mono T (λ_ e=>e) (λ_ e=>e) (λ_ e=>e));cases e with
        | gH=>exact F .gH s2 M N a2 O (by simp) u c0 b8
        | ret=>exact F .ret s2 M N a2 O (by simp) u c0 b8
        | ext i=>exact F (.ext i) s2 M N a2 O (by simp) u c0 b8
        | kn i=>exact u.elim
       refine (V.2.1 l r e).1 _ mm s0 _ h0 X hA b5 a0 w0 a8 _ (λp j q f o u B D=> ?_) λe p j q f o c3 u B D=> ?_
       ·exact wp_mono (c5 p j q f o B D u) λ_ _ _=>IK
       ·have b8:=b3.trans (D.mono (mm':=mok) T U (λ_ e=>e) (λ_ e=>e));cases e with
        | gH=>grind
        | ret=>exact F .ret p j q f o (by simp) u B b8
        | ext i=>exact F (.ext i) p j q f o (by simp) u B b8
        | kn i=>
         by_cases hi:i=l
         ·subst hi;simp only [Env.Om,Nat.beq_refl,cond_true] at u;exact ⟨rfl,c5 p j q f o B D u⟩
         ·simp only [Env.Om,pv hi,cond_false] at u
      | ret=>exact F .ret s0 h0 b5 a0 w0 (by simp) u a8 b3
      | ext i=>exact F (.ext i) s0 h0 b5 a0 w0 (by simp) u a8 b3
      | kn i=>exact u.elim
     ·refine b4.1 _ mok s _ h (λd L=>J d (S d L)) hv G a w H _ λW s0 h0 b5 a0 w0 u a8 c2=> ?_;have b3:=c2.mono (mm':=mok) S (λ_ e=>e) (λ_ e=>e) (λ_ e=>e);cases W with
      | gH=>exact (V.2.1 l r e).2.2 _ mok s0 E h0 X u b5 a0 w0 a8 Q λW p j q f o c3 u B D=>F W p j q f o c3 u B (b3.trans (D.mono T (λ_ e=>e) (λ_ e=>e) (λ_ e=>e)))
      | ret=>exact F .ret s0 h0 b5 a0 w0 (by simp) u a8 b3
      | ext i=>exact F (.ext i) s0 h0 b5 a0 w0 (by simp) u a8 b3
      | kn i=>exact u.elim
  intro A mok s E h J hv G a w H Q F;have b9:∀d∈dX x,d<n:=λd L=>J d (iR.2 (.inl L));have X:∀d∈dX y,d<n:=λd L=>J d (iR.2 (.inr L));refine wp_seq ?_;unfold liftM at hv;split at hv
  ·rename_i js mm _ _;obtain ⟨b6,R,hA,hB⟩:=j4 hv;have U:=FM b6;refine b4.1 _ mm s _ h b9 hA G a w H _ λe p j q f o u B D=> ?_;cases e with
   | gH=>obtain ⟨z,hz,Y,b1⟩:=wM ok H D B u;refine V.1 _ mok _ E j X (hB z j hz) q f o Y Q λe2 s2 M N a2 O Z a9 b2=> ?_;exact F e2 s2 M N a2 O Z a9 ((b1.mono S U (λ_ e=>e) (λ_ e=>e)).trans (b2.mono T (λ_ e=>e) (λ_ e=>e) (λ_ e=>e)))
   | ret=>exact F .ret p j q f o u B (D.mono S U (λ_ e=>e) (λ_ e=>e))
   | ext i=>exact F (.ext i) p j q f o u B (D.mono S U (λ_ e=>e) (λ_ e=>e))
   | kn i=>exact F (.kn i) p j q f o u B (D.mono S U (λ_ e=>e) (λ_ e=>e))
  ·rename_i k _ _;obtain ⟨hk,hv⟩:=j4 hv;have hk:=(rT _ _).1 hk;refine b4.1 _ mok s _ h b9 hv G a w H _ λe p j q f o u B D=> ?_;cases e with
   | gH=>obtain ⟨s1,h1,u,c6,b0⟩:=Wm (K:=λs2 M=>liftM C y .full _ mok s2 E M) hk D B u;refine V.1 _ mok _ E h1 X u q f o c6 Q λe2 s2 M N a2 O Z a9 b2=> ?_;exact F e2 s2 M N a2 O Z a9 ((b0.mono S (λ_ e=>e) (λ_ e=>e) (λ_ e=>e)).trans (b2.mono T (λ_ e=>e) (λ_ e=>e) (λ_ e=>e)))
   | ret=>exact F .ret p j q f o u B (D.mono S (λ_ e=>e) (λ_ e=>e) (λ_ e=>e))
   | ext i=>exact F (.ext i) p j q f o u B (D.mono S (λ_ e=>e) (λ_ e=>e) (λ_ e=>e))
   | kn i=>exact F (.kn i) p j q f o u B (D.mono S (λ_ e=>e) (λ_ e=>e) (λ_ e=>e))
  ·refine b4.1 _ mok s _ h b9 hv G a w H _ λe p j q f o u B D=> ?_;cases e with
   | gH=>refine V.1 _ mok _ E j X u q f o B Q λe2 s2 M N a2 O Z a9 b2=> ?_;exact F e2 s2 M N a2 O Z a9 ((D.mono S (λ_ e=>e) (λ_ e=>e) (λ_ e=>e)).trans (b2.mono T (λ_ e=>e) (λ_ e=>e) (λ_ e=>e)))
   | ret=>exact F .ret p j q f o u B (D.mono S (λ_ e=>e) (λ_ e=>e) (λ_ e=>e))
   | ext i=>exact F (.ext i) p j q f o u B (D.mono S (λ_ e=>e) (λ_ e=>e) (λ_ e=>e))
   | kn i=>exact F (.kn i) p j q f o u B (D.mono S (λ_ e=>e) (λ_ e=>e) (λ_ e=>e))
 | cond c x y b4 V=>
  refine ⟨?_,λl r e=>by simp [qF] at e,λl r e=>by simp [ns] at e⟩;intro A mok s E h J hv G a w H Q F;have b9:∀d∈dX x,d<n:=λd L=>J d (iR.2 (.inl L));have X:∀d∈dX y,d<n:=λd L=>J d (iR.2 (.inr L));simp only [liftM] at hv;obtain ⟨v,d4,hv⟩:=kj hv;split at hv
  ·rename_i t;have hc:=bJ (EW H (x:=c) λ_ _=>trivial) (bL s) d4;refine wp_cond_split (t:=t) hc (λht=> ?_) (λht=> ?_)
   ·rw [if_pos ht] at hv;exact b4.1 _ mok s E h b9 hv G a w H Q λe p j q f o u B D=>F e p j q f o u B (D.mono (λd L=>iR.2 (.inl L)) (λ_ e=>e) (λ_ e=>e) (λ_ e=>e))
   ·rw [if_neg (by rw [ht];simp)] at hv;exact V.1 _ mok s E h X hv G a w H Q λe p j q f o u B D=>F e p j q f o u B (D.mono (λd L=>iR.2 (.inr L)) (λ_ e=>e) (λ_ e=>e) (λ_ e=>e))
  ·exact hv.elim
 | block id x ih=>
  refine ⟨?_,λl r e=>by simp [qF] at e,λl r e=>by simp [ns] at e⟩;intro A mok s E h J hv G a w H Q F;refine wp_block ?_;unfold liftM at hv;split at hv
  ·rename_i js mm _;obtain ⟨b6,R,hA,hB⟩:=j4 hv;have U:=FM b6;refine ih.1 _ mm s _ h J hA G a w H _ λe p j q f o u B D=> ?_;have c5:nE C.tb js p (λx=>R x j)->Q .normal f o:=λhg=>by obtain ⟨z,hz,Y,b1⟩:=wM ok H D B hg;exact F .gH _ j q f o (hB z j hz) Y (b1.mono (λ_ e=>e) U (λ_ e=>e) (λ_ e=>e))
   cases e with
   | gH=>exact c5 u
   | ret=>exact F .ret p j q f o u B (D.mono (λ_ e=>e) U (λ_ e=>e) (λ_ e=>e))
   | ext i=>
    simp only [pd,Exit.inBlock];by_cases hi:i=id
    ·subst hi;simp only [Env.eV,Nat.beq_refl,cond_true] at u;grind
    ·rw [if_neg hi];simp only [Env.eV,pv hi,cond_false] at u;exact F (.ext i) p j q f o u B (D.mono (λ_ e=>e) U (λ_ e=>e) (λ_ e=>e))
   | kn i=>exact F (.kn i) p j q f o u B (D.mono (λ_ e=>e) U (λ_ e=>e) (λ_ e=>e))
  ·refine ih.1 _ mok s _ h J hv G a w H _ λe p j q f o u B D=> ?_;cases e with
   | gH=>exact F .gH p j q f o u B D
   | ret=>exact F .ret p j q f o u B D
   | ext i=>
    simp only [pd,Exit.inBlock];by_cases hi:i=id
    ·subst hi;simp only [Env.eV,Nat.beq_refl,cond_true] at u;rw [if_pos rfl];exact F .gH p j q f o u B D
    ·rw [if_neg hi];simp only [Env.eV,pv hi,cond_false] at u;exact F (.ext i) p j q f o u B D
   | kn i=>exact F (.kn i) p j q f o u B D
 | scope x ih=>
  refine ⟨?_,λl r e=>by simp [qF] at e,λl r e=>by simp [ns] at e⟩;intro A mok s E h J hv G a w H Q F;unfold liftM at hv;split at hv
  ·rename_i l _;split at hv
   ·rename_i r c1;refine wp_scope_jumps l (λf o=>r.wp C.P (Exit.noGoto Q) f o) (λ_ _=>0) (aas c1) ?_ λf o hJ=>wp_seq (wp_skip (wp_mono hJ λ_ _ _=>IK));exact (ih.2.1 l r c1).2.2 _ mok s E h J hv G a w H Q λe p j q f o _ u B D=>F e p j q f o u B D
   ·exact hv.elim
  ·rename_i l0 a0 x0;refine ZI (Nx ?_);have chain:∀(A:iY) (E':Env),(∀e p j q f o,E' e p j->Rel n q p f j o->gT (dX x) mok (cY s) G a h w (cY p) q f j o->vx C.P x Q (pd e) f o)->
     ∀e p j q f o,vP (λl f E s h=>match ns x l with
      | some _=>liftM C x (.rz l) f mok s E h
      | none=>False) A E' e p j->Rel n q p f j o->gT (dX x) mok (cY s) G a h w (cY p) q f j o->vx C.P x Q (pd e) f o:=by
    intro A
    induction A with
    | gd l b y _ V=>
     intro E' hE;refine V _ λe p j q f o u B D=> ?_;cases e with
     | gH=>exact hE .gH p j q f o u B D
     | ret=>exact hE .ret p j q f o u B D
     | ext i=>exact hE (.ext i) p j q f o u B D
     | kn i=>
      by_cases hi:i=l
      ·subst hi;simp only [Env.put,Nat.beq_refl,cond_true] at u;split at u
       ·rename_i r c1;refine ⟨_,ZH c1,Nx (wp_seq (wp_skip ?_))⟩;exact ih.2.2 i r c1 _ mok p _ j J u q f o B _ λe2 s2 M N a2 O Z Y b1=>hE e2 s2 M N a2 O Z Y (D.trans b1)
       ·exact u.elim
      ·simp only [Env.put,pv hi,cond_false] at u;exact hE (.kn i) p j q f o u B D
    | _=>intro E' hE;exact hE
   refine ih.1 _ mok s _ h J hv G a w H _ λe p j q f o u B D=> ?_;refine chain (.gd l0 a0 x0) E.mu (λe p j q f o u B D=> ?_) e p j q f o u B D;cases e with
   | gH=>exact F .gH p j q f o u B D
   | ret=>exact F .ret p j q f o u B D
   | ext i=>exact F (.ext i) p j q f o u B D
   | kn i=>exact u.elim
  ·refine wp_scope_straight ?_;refine ih.1 _ mok s _ h J hv G a w H _ λe p j q f o u B D=> ?_;cases e with
   | gH=>exact F .gH p j q f o u B D
   | ret=>exact F .ret p j q f o u B D
   | ext i=>exact F (.ext i) p j q f o u B D
   | kn i=>exact u.elim
 | loop x ih=>
  refine ⟨?_,λl r e=>by simp [qF] at e,λl r e=>by simp [ns] at e⟩;intro A mok s E h J hv G a w H Q F;unfold liftM at hv;split at hv
  ·rename_i js mm _;obtain ⟨b6,hv⟩:=j4 hv;have U:=FM b6;obtain ⟨x0,d8,a8,c2⟩:=wM ok H (gT.refl (l:=dX x) (mm:=mm)) H hv;obtain ⟨I,μ,hI,d3⟩:=d8;refine Yh (λm f o=>∃z j q,I z j/\μ z j=m/\Rel n q (nV C.tb js z (s.forget (dX x) mm)) f j o/\gT (dX x) mm (cY s) G a h w (cY (nV C.tb js z (s.forget (dX x) mm))) q f j o)
    ⟨_,x0,h,G,hI,rfl,a8,c2⟩ ?_
   rintro m f o ⟨z,j,q,hz,rfl,c6,b0⟩;refine ih.1 _ mm _ _ j J (d3 z j hz) q f o c6 _ λe s2 M N a2 O u Y b1=> ?_;have c4:=b0.trans b1;cases e with
   | gH=>obtain ⟨z2,c9,c0,c7⟩:=wM ok H c4 Y u;exact ⟨_,c9.2,z2,M,N,c9.1,rfl,c0,c7⟩
   | ret=>exact F .ret s2 M N a2 O u Y (c4.mono (λ_ e=>e) U (λ_ e=>e) (λ_ e=>e))
   | ext i=>exact F (.ext i) s2 M N a2 O u Y (c4.mono (λ_ e=>e) U (λ_ e=>e) (λ_ e=>e))
   | kn i=>exact F (.kn i) s2 M N a2 O u Y (c4.mono (λ_ e=>e) U (λ_ e=>e) (λ_ e=>e))
  ·exact hv.elim
 | _=>exact ⟨λA mok s E h _ hv=>hv.elim,λl r e=>by simp [qF] at e,λl r e=>by simp [ns] at e⟩
theorem nH {C:Ctx} (ok:C.tb.Ok C.P) {n:Nat} (c:Code) (A:iY) (g:List Nat) (s:St) (E:Env) (h:Hp) (o:∀d∈dX c,d<n) (hv:liftM C c .full A g s E h) (k:Nat->Nat) (a:Act) (w:World) (p:Rel n k s a h w)
  (Q:Exit->Act->World->Prop) (m:∀e i f l b j,E e i f->Rel n l i b f j->gT (dX c) g (cY s) k a h w (cY i) l b f j->Q (pd e) b j):c.wp C.P Q a w:=
 (aat ok c).1 A g s E h o hv k a w p Q m
def pw (b:Array Value):ResultVar->Sem Value
 | .tmp t=>pure (b.getD t undef)
 | .cell a t=>do loadVar t (<-asAddr (b.getD a undef))
def Cv :List Value->Value
 | [v]=>v
 | vs=>.tuple vs.toArray
theorem mZ {P:Program} {fn:Func} {b:Array Value} {a:List Value} {w:World} (h:(fn.results.toList.mapM (pw b)).run P w=.ok a w):(results fn b).run P w=.ok (Cv a) w:=by
 have e:results fn b=((fn.results.mapM (pw b))>>=λa=>pure (if h:a.size=1 then a[0] else .tuple a)):=by unfold results;congr 1
 rw [e,Array.mapM_eq_mapM_toList,map_eq_pure_bind];simp only [Sem.run_bind,h,Result.andThen_ok,Sem.run_pure];cases a with
 | nil=>rfl
 | cons v a=>cases a<;>simp [Cv]
theorem Qr {P:Program} {tb:Tb} (ok:tb.Ok P) {t:Nat} {e:Ty} (c:tb.ty t=some e) {w:World} {a:Addr} {x:(dN tb t).T}
  (b:∀(j:Nat) (v:Value),(ba ((dN tb t).enc x))[j]? =some v->w.cell? (a.add j)=some v):(loadVar t a).run P w=.ok ((dN tb t).enc x) w:=by
 revert x;rw [I8,c];intro x b;exact Py ok c b
section
variable {C:Ctx} {n:Nat} {β:Nat->Nat} {s:St} {a:Act} {h:Hp} {w:World}
theorem ou (ok:C.tb.Ok C.P) (d:Rel n β s a h w) {r:ResultVar} {t:Nat} {K:(dN C.tb t).T->Prop} (hv:nk C s r t K):∃x,K x/\(pw a.tmps r).run C.P w=.ok ((dN C.tb t).enc x) w:=by
 cases r with
 | tmp i=>
  simp only [nk] at hv;split at hv
  ·rename_i v c
   ·obtain ⟨x,f,hv⟩:=zR hv;refine ⟨x,hv,?_⟩;have:=(d.cur i _ [] c trivial (bL _)).1;rw [f];simp only [pw,Sem.run_pure];exact congrArg (λv=>Result.ok v w) this
  ·exact hv.elim
 | cell i y=>
  simp only [nk] at hv;obtain ⟨b,hv⟩:=j4 hv;have b:=Nat.eq_of_beq_eq_true b;subst b;split at hv
  ·rename_i k e c q;split at hv
   ·rename_i l u;split at hv
    ·rename_i v p
     ·obtain ⟨x,f,hv⟩:=zR hv;refine ⟨x,hv,?_⟩;have o:=Nv ok p f;obtain ⟨_,z,hb⟩:=d.box k l u trivial;have:=(d.cur i _ [] c trivial (bL _)).1;have m:a.tmps.getD i undef=.pointer (some ⟨β k,0,none⟩):=this;simp only [pw,m,asAddr,Sem.run_bind,Sem.run_pure,Result.andThen_ok];refine Qr ok q λj v g=> ?_;rw [o] at g;rw [km,D9 hb];simpa using g
    ·exact hv.elim
   ·exact hv.elim
  ·exact hv.elim
theorem rC (ok:C.tb.Ok C.P) (b:Rel n β s a h w) {rs:List ResultVar} {p:List Nat} {K:(bC C.tb p).T->Hp->Prop} (hv:uB C s h rs p K):
  ∃x k,K x h/\(rs.mapM (pw a.tmps)).run C.P w=.ok k w/\Cv k=(bC C.tb p).enc x:=by
 have step:∀ {r:ResultVar} {rs:List ResultVar} {v:Value} {k:List Value},(pw a.tmps r).run C.P w=.ok v w->(rs.mapM (pw a.tmps)).run C.P w=.ok k w->((r::rs).mapM (pw a.tmps)).run C.P w=.ok (v::k) w:=by intro r rs v k c d;simp only [List.mapM_cons,Sem.run_bind,c,d,Result.andThen_ok,Sem.run_pure]
 have nil:(([]:List ResultVar).mapM (pw a.tmps)).run C.P w=.ok [] w:=by simp
 unfold uB at hv;split at hv
 ·exact ⟨(),[],hv,nil,rfl⟩
 ·obtain ⟨x,e,c⟩:=ou ok b hv;exact ⟨x,_,e,step c nil,rfl⟩
 ·obtain ⟨f,hv,c⟩:=ou ok b hv;obtain ⟨g,e,d⟩:=ou ok b hv;exact ⟨(f,g),_,e,step c (step d nil),rfl⟩
 ·obtain ⟨f,hv,c⟩:=ou ok b hv;obtain ⟨g,hv,d⟩:=ou ok b hv;obtain ⟨j,e,i⟩:=ou ok b hv;exact ⟨(f,g,j),_,e,step c (step d (step i nil)),rfl⟩
 ·obtain ⟨f,hv,c⟩:=ou ok b hv;obtain ⟨g,hv,d⟩:=ou ok b hv;obtain ⟨j,hv,i⟩:=ou ok b hv;obtain ⟨m,e,l⟩:=ou ok b hv;exact ⟨(f,g,j,m),_,e,step c (step d (step i (step l nil))),rfl⟩
 ·obtain ⟨f,hv,c⟩:=ou ok b hv;obtain ⟨g,hv,d⟩:=ou ok b hv;obtain ⟨j,hv,i⟩:=ou ok b hv;obtain ⟨m,hv,l⟩:=ou ok b hv;obtain ⟨q,e,o⟩:=ou ok b hv;exact ⟨(f,g,j,m,q),_,e,step c (step d (step i (step l (step o nil)))),rfl⟩
 ·obtain ⟨f,hv,c⟩:=ou ok b hv;obtain ⟨g,hv,d⟩:=ou ok b hv;obtain ⟨j,hv,i⟩:=ou ok b hv;obtain ⟨m,hv,l⟩:=ou ok b hv;obtain ⟨q,hv,o⟩:=ou ok b hv;obtain ⟨y,hv,t⟩:=ou ok b hv;obtain ⟨z,e,u⟩:=ou ok b hv;exact ⟨(f,g,j,m,q,y,z),_,e,step c (step d (step i (step l (step o (step t (step u nil)))))),rfl⟩
 ·exact hv.elim
end
theorem pP {n:Nat} {l:List Nat} (h:tn n l=true):∀d∈l,d<n:=by
 induction l with
 | nil=>simp
 | cons a l e=>
  simp only [tn] at h;obtain ⟨b,c⟩:=fu h;intro d hd;rcases List.mem_cons.1 hd with rfl | hd
  ·have:d+1<=n:=by simpa [Nat.blt] using b
   exact this
  grind
theorem R1 {C:Ctx} (ok:C.tb.Ok C.P) {g:FuncId} {f:Func} {c:Code} {A:iY} {args:List Value} {K:(bC C.tb f.resultTypes.toList).T->Hp->Prop} {h:Hp} (G:C.P.funcs[g]? =some f) (hb:f.body=some c)
  (hv:Bx C f A args K h):aa C.P g args (bC C.tb f.resultTypes.toList) K h:=by
 intro w N;unfold Bx at hv;obtain ⟨F,hv⟩:=j4 hv;obtain ⟨s,d⟩:=fu F;have s:args.length<=f.ntmps:=Nat.le_of_ble_eq_true s;have E:xj f=c:=by unfold xj;rw [hb]
 rw [E] at hv d;refine calls_of_wp G hb ?_;have H:∀(t:Nat) (v:Value),args[t]? =some v->(args.toArray++Array.replicate (f.ntmps-args.toArray.size) undef)[t]? =some v:=by grind
 have z:∀(t:Nat) (l:LV) (c:aY),tq args t=some (l,c)->∃v,args[t]? =some v/\l=.v v/\c=[]:=by intro t l c e;unfold tq at e;rw [nj] at e;grind
 have L:Rel f.ntmps (λ_=>0) {f:=tq args,m:=λ_=>none} {tmps:=args.toArray++Array.replicate (f.ntmps-args.toArray.size) undef,defers:=[]} h w:=by
  refine ⟨by simp;omega,N,λt l c e=> ?_,λt l c e p hp=> ?_,λt l c e _ _=> ?_,λt l c e _ I=> ?_,λk U e _=>(by cases e),λk V e=>absurd rfl e,λ_ e=>e.elim,λ_ e=>e.elim⟩
  ·grind
  ·grind
  ·obtain ⟨v,y,rfl,rfl⟩:=z t l c e;refine ⟨?_,λ_ _ _=>trivial⟩;simp only [Act.eval,LVal,Array.getD_eq_getD_getElem?,H t v y,Option.getD_some]
  ·obtain ⟨v,y,rfl,rfl⟩:=z t l c e;exact absurd (bL _) I
 refine nH ok c A C.aQ _ _ h (pP d) hv _ _ w L _ λe S o X r n j D a=> ?_;have O:Step h o w n:=⟨D.sub,a.size,λb hb B=>⟨a.cT b hb B (λk _ q=>absurd rfl q.1),a.xF b hb B (λk _ q=>absurd rfl q.1)⟩,a.os,a.tape,a.output⟩;have done:uB C S o f.results.toList f.resultTypes.toList K->r.defers=[]/\∃v,(results f r.tmps).run C.P n=.ok v n/\∃u d,Ending.returned v=.returned u/\(∃x,u=(bC C.tb f.resultTypes.toList).enc x/\K x d)/\Step h d w n:=by intro R;obtain ⟨x,W,J,M,Q⟩:=rC ok D R;exact ⟨a.defers,_,mZ M,_,o,rfl,⟨x,Q,J⟩,O⟩
 cases e with
 | gH=>exact done j
 | ret=>exact done j
 | ext i=>exact j.elim
 | kn i=>exact j.elim
def bM (A:(Hp->Prop)->Prop) (B:Hp->Prop):Prop:=
 lX (σ:=Unit) (λR=>A (λh=>R () h)) (λ_ h=>B  h)
theorem bM.intro {A:(Hp->Prop)->Prop} {B:Hp->Prop} (R:Hp->Prop) (a:A R) (b:∀h,R h->B h):bM A B:=
 ⟨λ_ h=>R  h,a,λ_ h c=>b  h c⟩
theorem bM.direct {A:(Hp->Prop)->Prop} {B:Hp->Prop} (a:A B):bM A B:=bM.intro B a (λ_ b=>b)
def bH {α1:Type} (A:(α1->Hp->Prop)->Prop) (B:α1->Hp->Prop):Prop:=
 lX (σ:=α1) (λR=>A (λa h=>R a h)) (λp h=>B p h)
theorem bH.intro {α1:Type} {A:(α1->Hp->Prop)->Prop} {B:α1->Hp->Prop} (R:α1->Hp->Prop) (b:A R) (c:∀a h,R a h->B a h):bH A B:=
 ⟨λp h=>R p h,b,λp h d=>c p h d⟩
theorem bH.direct {a:Type} {A:(a->Hp->Prop)->Prop} {B:a->Hp->Prop} (b:A B):bH A B:=bH.intro B b (λ_ _ c=>c)
def au {α1:Type} (b:(α1->Hp->Prop)->α1->Hp->Prop) (a:α1) (h:Hp):Prop:=
 qH (σ:=α1) (λR p h=>b (λa h=>R a h) p h) a h
theorem au.intro {α1:Type} {c:(α1->Hp->Prop)->α1->Hp->Prop} {a:α1} {h:Hp} (I:α1->Hp->Prop) (b:α1->Hp->Nat)
  (h0:I a h) (g:∀a k,I a k->c (λe d=>I e d/\b e d<b a k) a k):au c a h:=
 ⟨λp h=>I p h,λp h=>b p h,h0,λp k f=>g p k f⟩
def fQ {α1 α2:Type} (A:(α1->α2->Hp->Prop)->Prop) (B:α1->α2->Hp->Prop):Prop:=
 lX (σ:=α1×α2) (λR=>A (λa b h=>R (a,b) h)) (λp h=>B p.1 p.2 h)
theorem fQ.intro {α1 a:Type} {A:(α1->a->Hp->Prop)->Prop} {B:α1->a->Hp->Prop} (R:α1->a->Hp->Prop) (d:A R) (e:∀b c h,R b c h->B b c h):fQ A B:=
 ⟨λp h=>R p.1 p.2 h,d,λp h f=>e p.1 p.2 h f⟩
theorem fQ.direct {a b:Type} {A:(a->b->Hp->Prop)->Prop} {B:a->b->Hp->Prop} (c:A B):fQ A B:=fQ.intro B c (λ_ _ _ d=>d)
def bq {α1 α2:Type} (c:(α1->α2->Hp->Prop)->α1->α2->Hp->Prop) (a:α1) (b:α2) (h:Hp):Prop:=
 qH (σ:=α1×α2) (λR p h=>c (λa b h=>R (a,b) h) p.1 p.2 h) (a,b) h
theorem bq.intro {α1 c:Type} {e:(α1->c->Hp->Prop)->α1->c->Hp->Prop} {a:α1} {b:c} {h:Hp} (I:α1->c->Hp->Prop) (d:α1->c->Hp->Nat)
  (h0:I a b h) (l:∀a b k,I a b k->e (λg i f=>I g i f/\d g i f<d a b k) a b k):bq e a b h:=
 ⟨λp h=>I p.1 p.2 h,λp h=>d p.1 p.2 h,h0,λp k j=>l p.1 p.2 k j⟩
def lH {α1 α2 α3:Type} (A:(α1->α2->α3->Hp->Prop)->Prop) (B:α1->α2->α3->Hp->Prop):Prop:=
 lX (σ:=α1×α2×α3) (λR=>A (λa b c h=>R (a,b,c) h)) (λp h=>B p.1 p.2.1 p.2.2 h)
theorem lH.intro {α1 a b:Type} {A:(α1->a->b->Hp->Prop)->Prop} {B:α1->a->b->Hp->Prop} (R:α1->a->b->Hp->Prop) (f:A R) (g:∀c d e h,R c d e h->B c d e h):lH A B:=
 ⟨λp h=>R p.1 p.2.1 p.2.2 h,f,λp h i=>g p.1 p.2.1 p.2.2 h i⟩
theorem lH.direct {a b c:Type} {A:(a->b->c->Hp->Prop)->Prop} {B:a->b->c->Hp->Prop} (d:A B):lH A B:=lH.intro B d (λ_ _ _ _ e=>e)
def qd {α1 α2 α3:Type} (d:(α1->α2->α3->Hp->Prop)->α1->α2->α3->Hp->Prop) (a:α1) (b:α2) (c:α3) (h:Hp):Prop:=
 qH (σ:=α1×α2×α3) (λR p h=>d (λa b c h=>R (a,b,c) h) p.1 p.2.1 p.2.2 h) (a,b,c) h
theorem qd.intro {α1 d e:Type} {g:(α1->d->e->Hp->Prop)->α1->d->e->Hp->Prop} {a:α1} {b:d} {c:e} {h:Hp} (I:α1->d->e->Hp->Prop) (f:α1->d->e->Hp->Nat)
  (h0:I a b c h) (o:∀a b c k,I a b c k->g (λj l m i=>I j l m i/\f j l m i<f a b c k) a b c k):qd g a b c h:=
 ⟨λp h=>I p.1 p.2.1 p.2.2 h,λp h=>f p.1 p.2.1 p.2.2 h,h0,λp k n=>o p.1 p.2.1 p.2.2 k n⟩
def kq {α1 α2 α3 α4 α5:Type} (A:(α1->α2->α3->α4->α5->Hp->Prop)->Prop) (B:α1->α2->α3->α4->α5->Hp->Prop):Prop:=
 lX (σ:=α1×α2×α3×α4×α5) (λR=>A (λa b c d e h=>R (a,b,c,d,e) h)) (λp h=>B p.1 p.2.1 p.2.2.1 p.2.2.2.1 p.2.2.2.2 h)
theorem kq.intro {α1 a b c d:Type} {A:(α1->a->b->c->d->Hp->Prop)->Prop} {B:α1->a->b->c->d->Hp->Prop} (R:α1->a->b->c->d->Hp->Prop) (k:A R) (l:∀e f g i j h,R e f g i j h->B e f g i j h):kq A B:=
 ⟨λp h=>R p.1 p.2.1 p.2.2.1 p.2.2.2.1 p.2.2.2.2 h,k,λp h m=>l p.1 p.2.1 p.2.2.1 p.2.2.2.1 p.2.2.2.2 h m⟩
theorem kq.direct {a b c d e:Type} {A:(a->b->c->d->e->Hp->Prop)->Prop} {B:a->b->c->d->e->Hp->Prop} (f:A B):kq A B:=kq.intro B f (λ_ _ _ _ _ _ g=>g)
def nw {α1 α2 α3 α4 α5:Type} (f:(α1->α2->α3->α4->α5->Hp->Prop)->α1->α2->α3->α4->α5->Hp->Prop) (a:α1) (b:α2) (c:α3) (d:α4) (e:α5) (h:Hp):Prop:=
 qH (σ:=α1×α2×α3×α4×α5) (λR p h=>f (λa b c d e h=>R (a,b,c,d,e) h) p.1 p.2.1 p.2.2.1 p.2.2.2.1 p.2.2.2.2 h) (a,b,c,d,e) h
theorem nw.intro {α1 f g i j:Type} {m:(α1->f->g->i->j->Hp->Prop)->α1->f->g->i->j->Hp->Prop} {a:α1} {b:f} {c:g} {d:i} {e:j} {h:Hp} (I:α1->f->g->i->j->Hp->Prop) (l:α1->f->g->i->j->Hp->Nat)
  (h0:I a b c d e h) (v:∀a b c d e k,I a b c d e k->m (λo q r s t n=>I o q r s t n/\l o q r s t n<l a b c d e k) a b c d e k):nw m a b c d e h:=
 ⟨λp h=>I p.1 p.2.1 p.2.2.1 p.2.2.2.1 p.2.2.2.2 h,λp h=>l p.1 p.2.1 p.2.2.1 p.2.2.2.1 p.2.2.2.2 h,h0,λp k u=>v p.1 p.2.1 p.2.2.1 p.2.2.2.1 p.2.2.2.2 k u⟩
def bu (P:Program) (g:FuncId) (args:List Value) (s1 s2:Shape) (K:s1.T->s2.T->Hp->Prop) (h:Hp):Prop:=
 aa P g args (oj s1 s2) (λp a=>K p.1 p.2 a) h
def kT (P:Program) (g:FuncId) (args:List Value) (s1 s2 a:Shape) (K:s1.T->s2.T->a.T->Hp->Prop) (h:Hp):Prop:=
 aa P g args (sV s1 s2 a) (λp b=>K p.1 p.2.1 p.2.2 b) h
def pI (P:Program) (g:FuncId) (args:List Value) (s1 s2 a b:Shape) (K:s1.T->s2.T->a.T->b.T->Hp->Prop) (h:Hp):Prop:=
 aa P g args (Ac s1 s2 a b) (λp c=>K p.1 p.2.1 p.2.2.1 p.2.2.2 c) h
def Ax (P:Program) (g:FuncId) (args:List Value) (s1 s2 a b c:Shape) (K:s1.T->s2.T->a.T->b.T->c.T->Hp->Prop) (h:Hp):Prop:=
 aa P g args (Ad s1 s2 a b c) (λp d=>K p.1 p.2.1 p.2.2.1 p.2.2.2.1 p.2.2.2.2 d) h
def bA (P:Program) (g:FuncId) (args:List Value) (K:Hp->Prop) (h:Hp):Prop:=
 aa P g args uf (λ_ a=>K a) h
def mU (P:Program) (s:Sem Value) (_:Shape) (K:Hp->Prop) (h:Hp):Prop:=ji P s uf (λ_ a=>K a) h
def Rw {a:Type} (h:Hp) (sz:Nat) (enc:a->List Value) (l:Sl) (xs:List a):Prop:=
 l.len=xs.length/\pC h l.base (xs.length*sz) (xs.flatMap enc)
section
variable {α:Type} {h h':Hp} {sz:Nat} {enc:α->List Value} {l:Sl} {xs:List α}
theorem M4 (b:h<=h') {a:Addr} {v:Value} (e:dh h a=some v):dh h' a=some v:=by
 unfold dh at e ⊢;split at e
 ·rename_i c t f hb;rw [b _ _ hb];exact e
 ·cases e
theorem nr (b:h<=h') {a:Addr} {cs:List Value} (e:aR h a cs):aR h' a cs:=λi v hv=>M4 b (e i v hv)
theorem Rw.mono (g:h<=h') (r:Rw h sz enc l xs):Rw h' sz enc l xs:=by obtain ⟨b,c,d⟩:=r;refine ⟨b,c,d.imp id ?_⟩;rintro ⟨a,e,f⟩;exact ⟨a,e,nr g f⟩
theorem Ny (b:∀x,(enc x).length=sz):∀(xs:List α) (i:Nat) (x:α),xs[i]? =some x->∀j v,(enc x)[j]? =some v->(xs.flatMap enc)[i*sz+j]? =some v
 | [],i,x,a,_,_,_=>by simp at a
 | y::xs,0,x,a,j,v,hv=>by grind
 | y::xs,i+1,x,a,j,v,hv=>by have:=Ny b xs i x (by simpa using a) j v hv;grind
theorem I9 (a:∀x,(enc x).length=sz):∀(xs:List α) (i:Nat) (v:Value),(xs.flatMap enc)[i]? =some v->∃q x j,xs[q]? =some x/\(enc x)[j]? =some v/\i=q*sz+j
 | [],i,v,hv=>by simp at hv
 | y::xs,i,v,hv=>by
  simp only [List.flatMap_cons] at hv;by_cases hi:i<(enc y).length
  ·rw [List.getElem?_append_left hi] at hv;exact ⟨0,y,i,rfl,hv,by simp⟩
  ·rw [List.getElem?_append_right (by omega)] at hv;obtain ⟨q,x,j,b,c,d⟩:=I9 a xs _ v hv;rw [a] at d hi;exact ⟨q+1,x,j,by simpa using b,c,by grind⟩
theorem Rw.read (r:Rw h sz enc l xs) (g:∀x,(enc x).length=sz) (m:0<sz) {i:Int} (c:0<=i) (d:i<(l.len:Int)):
  aG l.base l.len i/\∃x,xs[i.toNat]? =some x/\aR h (sat l.base sz i) (enc x):=by
 obtain ⟨n,o,e⟩:=r;have hi:i.toNat<xs.length:=by omega
 have k:xs.length*sz≠0:=by
  have:0<xs.length:=by omega
  exact Nat.ne_of_gt (Nat.mul_pos this m)
 obtain ⟨a,b,f⟩:=e.resolve_left k;refine ⟨⟨by simp [b],c,d⟩,xs[i.toNat],by simp [hi],λj v hv=> ?_⟩;have:=f (i.toNat*sz+j) v (Ny g xs i.toNat _ (by simp [hi]) j v hv);unfold sat;rw [b,Option.getD_some,rY];exact this
def Own (h0 h:Hp) (sz:Nat) (enc:α->List Value) (l:Sl) (xs:List α):Prop:=
 l.len=xs.length/\l.len<=l.cap/\((l.base=none/\l.cap=0)\/
  ∃(b:Nat) (a:List Value) (t:Nat),l.base=some ⟨b,0,none⟩/\h b=some (.cells a.toArray t (0,0))/\a.length=l.cap*sz/\a.take (l.len*sz)=xs.flatMap enc/\h0 b=none)
theorem iW (a:∀x,(enc x).length=sz):∀xs:List α,(xs.flatMap enc).length=xs.length*sz
 | []=>by simp
 | x::xs=>by simp only [List.flatMap_cons,List.length_append,a,iW a xs,List.length_cons,Nat.add_mul,Nat.one_mul];omega
theorem sP (e:∀x,iX (enc x)=true):∀xs:List α,iX (xs.flatMap enc)=true:=by
 have app:∀a b:List Value,iX a=true->iX b=true->iX (a++b)=true:=by
  intro a b c hb
  induction a with
  | nil=>exact hb
  | cons v a d=>cases v<;>first | (exact d c) | (cases c)
 intro xs
 induction xs with
 | nil=>rfl
 | cons x xs d=>grind
theorem DQ {b:Nat} {a:List Value} {t:Nat} (e:h b=some (.cells a.toArray t (0,0))) (i:Nat):dh h ⟨b,i,none⟩=a[i]?:=by unfold dh;simp [e]
theorem Own.rw {h0:Hp} (o:Own h0 h sz enc l xs) (c:∀x,(enc x).length=sz):Rw h sz enc l xs:=by
 obtain ⟨h1,f,a⟩:=o;refine ⟨h1,iW c xs,?_⟩;rcases a with ⟨e,d⟩ | ⟨b,cs,t,e,hb,g,i,_⟩
 ·grind
 ·right;refine ⟨_,e,λj v hv=> ?_⟩;rw [km,DQ hb,Nat.zero_add];grind
theorem Own.mono {h0:Hp} (i:h<=h') (o:Own h0 h sz enc l xs):Own h0 h' sz enc l xs:=by obtain ⟨e,f,g⟩:=o;refine ⟨e,f,g.imp id ?_⟩;rintro ⟨b,cs,t,a,c,d⟩;exact ⟨b,cs,t,a,i _ _ c,d⟩
theorem E0 {q:Hp} {zero:List Value} {bytes:Nat} {x:Sl} {d:List α} {K:Sl->Hp->Prop} (v:q<=h) (o:Own q h sz enc l xs) (r:Rw h sz enc x d) (j:∀x,(enc x).length=sz) (T:∀x,iX (enc x)=true)
  (W:zero.length=sz) (hb:xs.length+d.length<=140737488355328/\(xs.length+d.length)*bytes<=140737488355328)
  (A:∀J h',q<=h'->Own q h' sz enc J (xs++d)->(∀b f,h b=some f->(∀a,l.base=some a->a.block≠b)->h' b=some f)->K J h'):gv sz bytes zero l x K h:=by
 have U:=o.rw j;obtain ⟨m,Q,R⟩:=o;obtain ⟨n,a9⟩:=r;refine ⟨d.flatMap enc,by grind,xs.flatMap enc,by rw [m];exact U.2,by grind,sP T d,λE=> ?_,λE c b t S D=> ?_⟩
 ·rcases R with ⟨e,P⟩ | ⟨b,p,t,e,z,G,I,H⟩
  · -- nothing is put
   have N:d.length=0:=by omega
   have O:d=[]:=List.length_eq_zero_iff.1 N;subst O;refine ⟨λa y=>(by grind),?_⟩;have w:gu h l.base (l.len*sz) (([]:List α).flatMap enc)=h:=by rw [e];rfl
   rw [w,n];refine A _ h v ⟨by simp [m],by simpa using Q,.inl ⟨e,P⟩⟩ λ_ _ e _=>e
  ·have s:l.len*sz+(d.flatMap enc).length<=p.length:=by rw [G,iW j,<-Nat.add_mul];exact Nat.mul_le_mul_right sz (by omega)
   obtain ⟨L,Z⟩:=yS b t (d.flatMap enc) h 0 (l.len*sz) p (by simpa using s) z;have V:∀(k:Nat),l.len*sz+k<=p.length->qQ h (⟨b,l.len*sz,none⟩:Addr) k:=by
    intro k
    induction k with
    | zero=>intro _;trivial
    | succ k Y=>
     intro a8;refine ⟨Y (by omega),⟨p[l.len*sz+k]'(by omega),?_⟩,?_⟩
     ·rw [km,DQ z];simp
     ·rw [km];unfold gN;simp [z]
   refine ⟨λa y=> ?_,?_⟩
   ·rw [e] at y;cases y;rw [km,Nat.zero_add];refine V _ ?_;rw [n,<-iW j d];exact s
   ·have w:gu h l.base (l.len*sz) (d.flatMap enc)=ki h ⟨b,l.len*sz,none⟩ (d.flatMap enc) 0:=by rw [e];simp only [gu,km,Nat.zero_add]
    rw [w];rw [Nat.add_zero] at L;refine A _ _ (λg f i=> ?_) ⟨by simp [m,n],E,.inr ⟨b,_,t,e,L,?_,?_,H⟩⟩ λg f i u=> ?_
    ·have u:g≠b:=λB=>by rw [B,H] at i;cases i
     rw [Z g u];exact v _ _ i
    ·rw [aal _ _ _ s,G]
    ·rw [An _ _ _ s];have C:(l.len+x.len)*sz=(p.take (l.len*sz)++d.flatMap enc).length:=by rw [List.length_append,I,iW j,iW j,m,n,Nat.add_mul]
     rw [C,List.take_left,I,List.flatMap_append]
    grind
 ·have F:∀g f,h g=some f->(h.set b (.cells (xs.flatMap enc++d.flatMap enc++fm zero (c-(l.len+x.len))).toArray t (0,0))) g=some f:=λg f i=>by
   have u:g≠b:=λB=>by grind
   simp [Hp.set,u,i]
  refine A _ _ (λg f i=>F g f (v _ _ i)) ⟨by simp [m,n],S,.inr ⟨b,xs.flatMap enc++d.flatMap enc++fm zero (c-(l.len+x.len)),t,rfl,by simp [Hp.set],?_,?_,?_⟩⟩ λg f i _=>F g f i
  ·have X:∀k,(fm zero k).length=k*sz:=λk=>by simp [fm,W]
   rw [List.length_append,List.length_append,iW j,iW j,X,<-Nat.add_mul,<-Nat.add_mul];grind
  ·have C:(l.len+x.len)*sz=(xs.flatMap enc++d.flatMap enc).length:=by rw [List.length_append,iW j,iW j,m,n,Nat.add_mul]
   grind
  ·cases M:q b with
   | none=>rfl
   | some f=>rw [v _ _ M] at D;cases D
end
abbrev Rs (h:Hp) (sh:Shape) (sz:Nat) (l:Sl) (xs:List sh.T):Prop:=Rw h sz (λx=>ba (sh.enc x)) l xs
section
variable {h h':Hp} {sh:Shape} {sz:Nat} {l:Sl} {xs:List sh.T} {K:sh.T->Prop} {i:Int}
theorem Rs.get (r:Rs h sh sz l xs) (d:∀x,(ba (sh.enc x)).length=sz) (g:0<sz) (b:0<=i) (c:i<(xs.length:Int)) (e:∀x,xs[i.toNat]? =some x->K x):
  aG l.base l.len i/\aD none sh h (sat l.base sz i) K:=by
 obtain ⟨a,x,j,f⟩:=Rw.read r d g b (by rw [r.1];exact c);exact ⟨a,x,f,e x j⟩
theorem kV (r:Rs h sh sz l xs) (d:∀x,xs[i.toNat]? =some x->K x) (c:∀x,(ba (sh.enc x)).length=sz:=by exact λ_=>rfl) (e:0<sz:=by omega) (a:0<=i:=by omega) (b:i<(xs.length:Int):=by omega):aG l.base l.len i/\aD none sh h (sat l.base sz i) K:=r.get c e a b d
theorem Rs.mj {c:Bool} (r:Rs h sh sz l xs) (d:sh.T) (g:∀x,(ba (sh.enc x)).length=sz) (k:0<sz) (a:c=true->0<=i/\i<(xs.length:Int)) (b:∀x,(c=true->xs[i.toNat]? =some x)->K x):
  (c=true->aG l.base l.len i)/\aD (some c) sh h (sat l.base sz i) K:=by
 cases c with
 | false=>exact ⟨λe=>(by cases e),d,λe=>(by cases e),b d λe=>(by cases e)⟩
 | true=>obtain ⟨f,x,m,j⟩:=Rw.read r g k (a rfl).1 (by rw [r.1];exact (a rfl).2);exact ⟨λ_=>f,x,λ_=>j,b x λ_=>m⟩
theorem eB {a:Addr} (x:sh.T) (c:aR h a (ba (sh.enc x))) (b:K x):aD none sh h a K:=⟨x,c,b⟩
theorem aE {a:Type} {x:a} {K:a->Prop} (b:K x):aA x K:=λ_ e=>e▸b
theorem wrap64 {n:Int} (a: -9223372036854775808<=n) (b:n<9223372036854775808):yw n=n:=by
 (try unfold yw);unfold IntKind.wrap
 simp only [IntKind.signed,IntKind.bits];grind
theorem aI {n:Int} (a: -9223372036854775808<=n:=by omega) (b:n<9223372036854775808:=by omega):yw n=n:=wrap64 a b
end
theorem FN :∀(b a:List Int),b.Nodup->(∀y∈b,y∈a)->b.length<=a.length
 | [],a,_,_=>Nat.zero_le _
 | y::b,a,g,d=>by
  have c:=List.nodup_cons.1 g;have i:=d y (List.mem_cons_self ..);have:=FN b (a.erase y) c.2 λz f=>by have h:z≠y:=λe=>c.1 (e▸f);exact (List.mem_erase_of_ne h).2 (d z (List.mem_cons_of_mem _ f))
  grind
theorem L9 {a:List Int} (h:a.Pairwise (· < ·)):a.Nodup:=h.imp λb=>Int.ne_of_lt b
theorem uJ {g:Type} {h0 h:Hp} {sz:Nat} {enc:g->List Value} {c:List Value} {xs:List g} {K:Addr->Hp->Prop} (p:h0<=h) (k:c=xs.flatMap enc) (f:∀x,(enc x).length=sz)
  (l:∀a d,h<=d->Own h0 d sz enc ⟨some a,xs.length,xs.length⟩ xs->K a d):bG c K h:=by
 intro b t hb;have m:h<=h.set b (.cells c.toArray t (0,0)):=λi o e=>by
  have n:i≠b:=λq=>by grind
  simp [Hp.set,n,e]
 refine l _ _ m ⟨rfl,Nat.le_refl _,.inr ⟨b,c,t,rfl,by simp [Hp.set],?_,?_,?_⟩⟩
 ·rw [k,iW f]
 ·have:(xs.length*sz)=(xs.flatMap enc).length:=(iW f xs).symm;grind
 ·cases j:h0 b with
  | none=>rfl
  | some r=>rw [p _ _ j] at hb;cases hb
def pG (h b:Hp):Prop:=∀a v,dh h a=some v->dh b a=some v
theorem pG.of_le {h a:Hp} (b:h<=a):pG h a:=λ_ _ e=>M4 b e
theorem Ja {h c:Hp} (d:pG h c) {a:Addr} {b:List Value} (e:aR h a b):aR c a b:=λi v hv=>d _ _ (e i v hv)
theorem Rw.ck {α:Type} {h b:Hp} {sz:Nat} {enc:α->List Value} {l:Sl} {c:List α} (j:pG h b) (r:Rw h sz enc l c):Rw b sz enc l c:=by obtain ⟨d,e,f⟩:=r;refine ⟨d,e,f.imp id ?_⟩;rintro ⟨a,g,i⟩;exact ⟨a,g,Ja j i⟩
theorem Yy {h:Hp} {m:Nat} {o b:Obj} (e:h m=some o) (f:isCells o=false):pG h (h.set m b):=by
 intro a v hv;obtain ⟨c,t,fr,hb,j,i⟩:=D6 hv;have g:a.block≠m:=λd=>by rw [d,e] at hb;cases hb;cases f
 unfold dh at hv ⊢;have:(h.set m b) a.block=h a.block:=by simp [Hp.set,g]
 rw [this];exact hv
theorem lx {h:Hp} {b:Nat} {o:Obj} (d:h b=none):h<=h.set b o:=λa g e=>by
 have f:a≠b:=λc=>by rw [c,d] at e;cases e
 simp [Hp.set,f,e]
theorem kK {h:Hp} {b:Nat} {o:Obj}:(h.set b o) b=some o:=by simp [Hp.set]
theorem Nz {h a:Hp} {b:Nat} {o:Obj} (f:a<=h) (g:a b=none):a<=h.set b o:=λc j e=>by
 have i:c≠b:=λd=>by rw [d,g] at e;cases e
 simp only [Hp.set,i,if_false];exact f _ _ e
theorem tY {a h:Hp} {b:Nat} (d:a<=h) (c:h b=none):a b=none:=by
 cases e:a b with
 | none=>rfl
 | some o=>rw [d _ _ e] at c;cases c
theorem Ab {h:Hp} {b t:Nat} {cs:List Value}:aR (h.set b (.cells cs.toArray t (0,0))) ⟨b,0,none⟩ cs:=λi v hv=>by rw [km,DQ kK,Nat.zero_add];exact hv
theorem PY {a:Type} {A:(a->Hp->Prop)->Hp->Prop} {K:a->Hp->Prop} {h:Hp} (b:A K h):bX (some true) A K h:=⟨λ_=>b,λe=>by cases e⟩
theorem Gi {a:Type} {b:Bool} {A:(a->Hp->Prop)->Hp->Prop} {K:a->Hp->Prop} {h:Hp} (hb:b=true) (c:A K h):bX (some b) A K h:=⟨λ_=>c,λe=>by rw [hb] at e;cases e⟩
theorem aP {p:Addr} {c:Option Bool} {K:Addr->Prop} (a:K p):aj c (some p) K:=by
 refine ⟨p,?_,a⟩;cases c with
 | none=>rfl
 | some b=>exact λ_=>rfl
theorem Ef {P:Program} {t:Nat} {d:TypeDesc} (b:P.underlying t=some d) {K:TypeDesc->Hp->Prop} {h:Hp} (a:K d h):dg P (underlying t) K h:=by
 show dg P (match P.underlying t with
  | some d=>Sem.pure d
  | none=>_) K h
 rw [b];exact a
theorem DG {P:Program} {tb:Tb} (ok:tb.Ok P) {t:Nat} {e:Ty} (c:tb.ty t=some e) {K:Value->Hp->Prop} {h:Hp} (f:K e.zero h):dg P (zeroValue t) K h:=by
 obtain ⟨i,a,_,_,b⟩:=ok.info t e c;have key:dg P (match P.info? t with
  | some d=>(match d.zero with
   | some v=>Sem.pure v
   | none=>unsupported (.resourceLimit "a value of more than 2^22 cells"))
  | none=>stuck "no such type") K h:=by
  rw [a];dsimp only;rw [b];exact f
 cases hi:P.info? t with
 | none=>rw [a] at hi;cases hi
 | some d=>
  rw [hi] at key;show dg P (Sem.bind (match P.info? t with
   | some d=>Sem.pure d
   | none=>_) _) K h
  rw [hi];exact key
theorem Ju {P:Program} {s:Sem Value} {h:Hp} {v:Value} (hi:dg P s (λu b=>u=v/\b=h) h):kA P s h v:=by intro w f;obtain ⟨a,i,b,e,⟨c,d⟩,g⟩:=MX s f hi;subst c;subst d;exact ⟨i,e,g⟩
theorem Pw {P:Program} {s:Sem Value} {h:Hp} {v:Value} (hi:∀w,s.run P w=.ok v w):kA P s h v:=λw a=>⟨w,hi w,.refl a⟩
theorem MP {P:Program} {t e:Nat} {x y:Operand} {h:Hp} (g:P.underlying t=some (.slice e)) (s:Sl):kA P (dt .eql t x y s.v (.slice none 0 0)) h (.bool s.base.isNone):=by
 have key:∀d,dg P (Op.equalIn (d+1) t s.v (.slice none 0 0)) (λu c=>u=s.base.isNone/\c=h) h:=by
  intro d;unfold Op.equalIn;refine (Ds _ _).2 (Ef g ?_);cases hb:s.base with
  | none=>simp only [Sl.v,hb];exact ⟨rfl,rfl⟩
  | some a=>simp only [Sl.v,hb];exact ⟨rfl,rfl⟩
 refine Ju ?_;show dg P (Sem.bind (Op.equal t s.v (.slice none 0 0)) λb=>Sem.pure (Value.bool b)) _ h;refine (Ds _ _).2 (Re _ (λa k f=> ?_) (key 9999));obtain ⟨rfl,rfl⟩:=f;exact ⟨rfl,rfl⟩
theorem R4 {h:Hp} {a:Addr} {b:List Value} (e:aR h a b) (n:Nat):aR h (a.add n) (b.drop n):=λi v hv=>by rw [rY];exact e (n+i) v (by simpa [List.getElem?_drop] using hv)
theorem zH {c:Type} {sz:Nat} {enc:c->List Value} (b:∀x,(enc x).length=sz):∀(a:List c) (n:Nat),(a.drop n).flatMap enc=(a.flatMap enc).drop (n*sz)
 | [],n=>by simp
 | x::a,0=>by simp
 | x::a,n+1=>by simp only [List.drop_succ_cons,List.flatMap_cons];have e:(enc x).drop (n*sz+sz)=[]:=List.drop_eq_nil_of_le (by rw [b];omega);rw [zH b a n,Nat.add_mul,Nat.one_mul,List.drop_append,b,e,List.nil_append,Nat.add_sub_cancel]
theorem zJ {c:Type} {sz:Nat} {enc:c->List Value} (b:∀x,(enc x).length=sz):∀(a:List c) (n:Nat),(a.take n).flatMap enc=(a.flatMap enc).take (n*sz)
 | [],n=>by simp
 | x::a,0=>by simp
 | x::a,n+1=>by simp only [List.take_succ_cons,List.flatMap_cons];have e:(enc x).take (n*sz+sz)=enc x:=List.take_of_length_le (by rw [b];omega);rw [zJ b a n,Nat.add_mul,Nat.one_mul,List.take_append,b,e,Nat.add_sub_cancel]
theorem Rw.cut {k:Type} {h:Hp} {sz:Nat} {enc:k->List Value} {l:Sl} {d:List k} (r:Rw h sz enc l d) (g:∀x,(enc x).length=sz) {a b c n m:Nat} (z:a<=b) (hb:b<=d.length) (B:b<=c) (s:n=b-a):
  Rw h sz enc ⟨aV l.base sz a c,n,m⟩ ((d.drop a).take (b-a)):=by
 obtain ⟨w,y,o⟩:=r;have j:((d.drop a).take (b-a)).length=b-a:=by rw [List.length_take,List.length_drop];omega
 refine ⟨s.trans j.symm,iW g _,?_⟩;rw [j];by_cases f:(b-a)*sz=0
 ·exact .inl f
 ·right;have A:b-a≠0:=λe=>f (by rw [e,Nat.zero_mul]);have t:sz≠0:=λe=>f (by rw [e,Nat.mul_zero]);have u:d.length*sz≠0:=Nat.mul_ne_zero (by omega) t;obtain ⟨p,hp,q⟩:=o.resolve_left u;refine ⟨p.add (a*sz),?_,λi v hv=> ?_⟩
  ·unfold aV;rw [if_neg (show ¬c=a by omega),hp];rfl
  ·rw [zJ g,zH g,List.getElem?_take] at hv;split at hv
   ·exact R4 q (a*sz) i v hv
   ·cases hv
theorem Rw.head {d:Type} {h:Hp} {sz:Nat} {enc:d->List Value} {l:Sl} {a:List d} (r:Rw h sz enc l a) (f:∀x,(enc x).length=sz) {b c n m:Nat} (hb:b<=a.length) (e:b<=c) (g:n=b):
  Rw h sz enc ⟨aV l.base sz 0 c,n,m⟩ (a.take b):=by
 have:=r.cut (m:=m) f (Nat.zero_le b) hb e (n:=n) (by omega);simpa using this
theorem Wo {x y:Int}:fK x y<=x/\fK x y<=y/\(fK x y=x\/fK x y=y):=by unfold fK;split<;>omega
structure Mv (F:List Nat) (h:Hp) (F':List Nat) (h':Hp):Prop where
 cT:∀b o,h b=some o->b∉F->h' b=some o
 from_:∀b∈F',b∈F\/h b=none
theorem Mv.refl (F:List Nat) (h:Hp):Mv F h F h:=⟨λ_ _ e _=>e,λ_ e=>.inl e⟩
theorem Mv.trans {F d f:List Nat} {h g j:Hp} (a:Mv F h d g) (b:Mv d g f j):Mv F h f j:=by
 refine ⟨λi o e c=>b.cT i o (a.cT i o e c) λk=> ?_,λi hi=> ?_⟩
 ·rcases a.from_ i k with h1 | h1
  ·exact c h1
  grind
 ·rcases b.from_ i hi with h1 | h1
  ·exact a.from_ i h1
  ·cases e:h i with
   | none=>exact .inr rfl
   | some o=>left;refine Classical.byContradiction λc=> ?_;rw [a.cT i o e c] at h1;cases h1
theorem Mv.of_le {h a:Hp} (F:List Nat) (c:h<=a):Mv F h F a:=⟨λb o e _=>c b o e,λ_ e=>.inl e⟩
theorem Mv.le {F c:List Nat} {h0 h d:Hp} (a:Mv F h c d) (f:h0<=h) (g:∀b∈F,h0 b=none):h0<=d/\∀b∈c,h0 b=none:=by
 refine ⟨λb o e=>a.cT b o (f b o e) λhb=>(by grind),λb hb=> ?_⟩;rcases a.from_ b hb with h1 | h1
 ·exact g b h1
 ·exact tY f h1
theorem Mv.wide {F c:List Nat} {h d:Hp} (a:Mv F h c d) (G:List Nat):Mv (F++G) h (c++G) d:=
 ⟨λb o e f=>a.cT b o e λhb=>f (List.mem_append_left _ hb),λb hb=>by
  rcases List.mem_append.1 hb with hb | hb
  ·rcases a.from_ b hb with h1 | h1
   ·exact .inl (List.mem_append_left _ h1)
   ·exact .inr h1
  grind⟩
theorem Mv.sub {F c G d:List Nat} {h f:Hp} (a:Mv F h c f) (g:∀b∈F,b∈G) (i:∀b∈d,b∈c\/b∈G\/h b=none):Mv G h d f:=
 ⟨λb o e j=>a.cT b o e λhb=>j (g b hb),λb hb=>by
  rcases i b hb with h3 | h3
  ·rcases a.from_ b h3 with h4 | h4
   ·grind
   ·exact .inr h4
  ·exact h3⟩
theorem Mv.set {h:Hp} {b:Nat} {o:Obj}:Mv [b] h [b] (h.set b o):=by refine ⟨λi x e a=> ?_,λi hi=>.inl hi⟩;have c:i≠b:=λd=>a (by grind);simp only [Hp.set,c,if_false];exact e
theorem Mv.new {h:Hp} {b:Nat} {o:Obj} (a:h b=none):Mv [] h [b] (h.set b o):=
 ⟨λi x e _=>lx a i x e,λi hi=>.inr (by grind)⟩
def fb (h:Hp) (b:Nat) (a:List Value):Prop:=∃t,h b=some (.cells a.toArray t (0,0))
theorem fb.mv {F f:List Nat} {h d:Hp} {b:Nat} {c:List Value} (k:fb h b c) (a:Mv F h f d) (g:b∉F):fb d b c:=by obtain ⟨t,e⟩:=k;exact ⟨t,a.cT b _ e g⟩
theorem fb.le {h c:Hp} {b:Nat} {a:List Value} (k:fb h b a) (d:h<=c):fb c b a:=by obtain ⟨t,e⟩:=k;exact ⟨t,d _ _ e⟩
theorem fb.known {h:Hp} {b:Nat} {a:List Value} (k:fb h b a):h b≠none:=by obtain ⟨t,e⟩:=k;rw [e];simp
def at_ (b off:Nat):Addr:=⟨b,off,none⟩
theorem fb.fw {h:Hp} {b:Nat} {cs:List Value} (k:fb h b cs) {off n:Nat} {a:List Value} (e:(cs.drop off).take n=a):aR h ⟨b,off,none⟩ a:=by obtain ⟨t,hb⟩:=k;intro i v hv;rw [km,DQ hb];grind
theorem fb.sK {h:Hp} {b:Nat} {a:List Value} (k:fb h b a) {off:Nat}:∀n,off+n<=a.length->qQ h ⟨b,off,none⟩ n
 | 0,_=>trivial
 | n+1,c=>by
  obtain ⟨t,hb⟩:=k;refine ⟨fb.sK ⟨t,hb⟩ n (by omega),⟨a[off+n]'(by omega),?_⟩,?_⟩
  ·rw [km,DQ hb];simp
  ·rw [km];unfold gN;simp [hb]
theorem fb.put {h:Hp} {b:Nat} {a new:List Value} (k:fb h b a) {off:Nat} (d:off+new.length<=a.length):
  fb (ki h ⟨b,off,none⟩ new 0) b (a.take off++new++a.drop (off+new.length))/\∀c,c≠b->(ki h ⟨b,off,none⟩ new 0) c=h c:=by
 obtain ⟨t,hb⟩:=k;obtain ⟨e,f⟩:=yS b t new h 0 off a (by simpa using d) hb;rw [Nat.add_zero,An _ _ _ d] at e;exact ⟨⟨t,e⟩,f⟩
theorem Mv.jA {h c:Hp} {b:Nat} (f:∀a,a≠b->c a=h a):Mv [b] h [b] c:=
 ⟨λi o e d=>by grind,λi hi=>.inl hi⟩
theorem uS {h:Hp} {b:Nat} {cs new:List Value} {off:Nat} {K:Hp->Prop} (k:fb h b cs) (c:off+new.length<=cs.length)
  (d:∀a,Mv [b] h [b] a->fb a b (cs.take off++new++cs.drop (off+new.length))->K a):cl h ⟨b,off,none⟩ new K:=by
 obtain ⟨e,f⟩:=k.put c;exact ⟨k.sK _ c,d _ (Mv.jA f) e⟩
section
variable {α:Type} {h:Hp} {sz:Nat} {enc:α->List Value} {l:Sl} {xs:List α}
def db (h:Hp) (sz:Nat) (enc:α->List Value) (l:Sl) (xs:List α) (F:List Nat):Prop:=
 l.len=xs.length/\l.len<=l.cap/\((l.base=none/\l.cap=0/\F=[])\/
  ∃(b:Nat) (a:List Value),l.base=some ⟨b,0,none⟩/\F=[b]/\fb h b a/\a.length=l.cap*sz/\a.take (l.len*sz)=xs.flatMap enc)
theorem db.own {F:List Nat} {h0:Hp} (o:db h sz enc l xs F) (m:∀b∈F,h0 b=none):Own h0 h sz enc l xs:=by
 obtain ⟨d,e,f⟩:=o;refine ⟨d,e,?_⟩;rcases f with ⟨a,c,_⟩ | ⟨b,g,a,rfl,⟨t,i⟩,j,k⟩
 ·exact .inl ⟨a,c⟩
 grind
theorem db.rw {F:List Nat} (o:db h sz enc l xs F) (a:∀x,(enc x).length=sz):Rw h sz enc l xs:=(o.own (h0:=λ_=>none) λ_ _=>rfl).rw a
theorem Own.wc {c:Hp} (o:Own c h sz enc l xs):∃F,db h sz enc l xs F/\∀b∈F,c b=none:=by
 obtain ⟨d,e,m⟩:=o;rcases m with ⟨a,g⟩ | ⟨b,f,t,a,i,j,k,p⟩
 ·exact ⟨[],⟨d,e,.inl ⟨a,g,rfl⟩⟩,λb hb=>by cases hb⟩
 ·exact ⟨[b],⟨d,e,.inr ⟨b,f,a,rfl,⟨t,i⟩,j,k⟩⟩,λn hb=>by grind⟩
theorem db.known {F:List Nat} (o:db h sz enc l xs F):∀b∈F,h b≠none:=by
 obtain ⟨_,_,c⟩:=o;rcases c with ⟨_,_,rfl⟩ | ⟨b,e,_,rfl,a,_,_⟩
 ·simp
 ·intro d hb;rw [List.mem_singleton.1 hb];exact a.known
theorem db.same {F:List Nat} {a:Hp} (o:db h sz enc l xs F) (k:∀b∈F,a b=h b):db a sz enc l xs F:=by obtain ⟨f,g,i⟩:=o;refine ⟨f,g,i.imp id ?_⟩;rintro ⟨b,c,d,rfl,⟨t,j⟩,e⟩;exact ⟨b,c,d,rfl,⟨t,by grind⟩,e⟩
theorem db.mv {F G d:List Nat} {c:Hp} (o:db h sz enc l xs F) (a:Mv G h d c) (n:∀b∈F,b∉G):db c sz enc l xs F:=by obtain ⟨j,k,m⟩:=o;refine ⟨j,k,m.imp id ?_⟩;rintro ⟨b,e,f,rfl,g,i⟩;exact ⟨b,e,f,rfl,g.mv a (n b (List.mem_singleton.2 rfl)),i⟩
theorem sD {c:List Value} {K:Addr->Hp->Prop} (e:c=xs.flatMap enc) (d:∀x,(enc x).length=sz)
  (f:∀b a,h b=none->h<=a->Mv [] h [b] a->db a sz enc ⟨some ⟨b,0,none⟩,xs.length,xs.length⟩ xs [b]->K ⟨b,0,none⟩ a):bG c K h:=by
 intro b t hb;refine f b _ hb (lx hb) (Mv.new hb) ⟨rfl,Nat.le_refl _,.inr ⟨b,c,rfl,rfl,⟨t,kK⟩,?_,?_⟩⟩
 ·rw [e,iW d]
 ·have:(xs.length*sz)=(xs.flatMap enc).length:=(iW d xs).symm;grind
theorem sm {F:List Nat} {zero:List Value} {bytes:Nat} {x:Sl} {d:List α} {K:Sl->Hp->Prop} (o:db h sz enc l xs F) (r:Rw h sz enc x d) (f:∀x,(enc x).length=sz) (J:∀x,iX (enc x)=true)
  (N:zero.length=sz) (hb:xs.length+d.length<=140737488355328/\(xs.length+d.length)*bytes<=140737488355328)
  (n:∀w k p,db k sz enc w (xs++d) p->Mv F h p k->K w k):gv sz bytes zero l x K h:=by
 have L:=o.rw f;obtain ⟨g,C,D⟩:=o;obtain ⟨i,Q⟩:=r;refine ⟨d.flatMap enc,by grind,xs.flatMap enc,by rw [g];exact L.2,by grind,sP J d,λu=> ?_,λu c b t G E=> ?_⟩
 ·rcases D with ⟨e,B,rfl⟩ | ⟨b,q,e,rfl,s,H,M⟩
  ·have y:d.length=0:=by omega
   have z:d=[]:=List.length_eq_zero_iff.1 y;subst z;refine ⟨λa m=>(by grind),?_⟩;have j:gu h l.base (l.len*sz) (([]:List α).flatMap enc)=h:=by rw [e];rfl
   rw [j,i];exact n _ h [] ⟨by simp [g],by simpa using C,.inl ⟨e,B,rfl⟩⟩ (Mv.refl _ _)
  ·have v:l.len*sz+(d.flatMap enc).length<=q.length:=by rw [H,iW f,<-Nat.add_mul];exact Nat.mul_le_mul_right sz (by omega)
   obtain ⟨O,P⟩:=s.put v;refine ⟨λa m=> ?_,?_⟩
   ·rw [e] at m;cases m;rw [km,Nat.zero_add];refine s.sK _ ?_;rw [i,<-iW f d];exact v
   ·have j:gu h l.base (l.len*sz) (d.flatMap enc)=ki h ⟨b,l.len*sz,none⟩ (d.flatMap enc) 0:=by rw [e];simp only [gu,km,Nat.zero_add]
    rw [j];refine n _ _ [b] ⟨by simp [g,i],u,.inr ⟨b,_,e,rfl,O,?_,?_⟩⟩ (Mv.jA P)
    ·grind
    ·have A:(l.len+x.len)*sz=(q.take (l.len*sz)++d.flatMap enc).length:=by rw [List.length_append,M,iW f,iW f,g,i,Nat.add_mul]
     grind
 ·have I:Mv F h [b] (h.set b (.cells (xs.flatMap enc++d.flatMap enc++fm zero (c-(l.len+x.len))).toArray t (0,0))):=
   (Mv.new E).sub (λb hb=>by cases hb) λb hb=>.inl hb
  refine n _ _ [b] ⟨by simp [g,i],G,.inr ⟨b,xs.flatMap enc++d.flatMap enc++fm zero (c-(l.len+x.len)),rfl,rfl,⟨t,kK⟩,?_,?_⟩⟩ I
  ·rw [List.length_append,List.length_append,iW f,iW f,zB,N,<-Nat.add_mul,<-Nat.add_mul];grind
  ·have A:(l.len+x.len)*sz=(xs.flatMap enc++d.flatMap enc).length:=by rw [List.length_append,iW f,iW f,g,i,Nat.add_mul]
   grind
end
section
variable {P:Program} {h:Hp}
theorem cL {b c:Type} (s:Sem b) (f:b->Sem c) {K:c->Hp->Prop}:dg P (s>>=f) K h↔dg P s (λa h=>dg P (f a) K h) h:=Ds s f
theorem R6 {t:Nat} {i:TypeInfo} (hi:P.info? t=some i) {K:Nat->Hp->Prop} (a:K i.size h):dg P (sizeOf t) K h:=by
 show dg P (Sem.bind (match P.info? t with
  | some d=>Sem.pure d
  | none=>_) _) K h
 rw [hi];exact a
theorem PB {a:Addr} {o:Obj} (e:h a.block=some o) {K:Bool->Hp->Prop} (b:K (gN h a) h):dg P (frozen a) K h:=⟨⟨o,e⟩,b⟩
theorem yC {r:Nat} {o:Obj} (e:h r=some o) {K:Option (TypeId×Nat)->Hp->Prop} (a:K (EP o) h):dg P (shape r) K h:=⟨o,e,a⟩
theorem Eg {b:Nat} {a:List Value} (k:fb h b a) (off:Nat):gN h ⟨b,off,none⟩=false:=by obtain ⟨t,e⟩:=k;unfold gN;simp [e]
theorem Kh {b off:Nat} {a:List Value} (k:fb h b a) {K:Unit->Hp->Prop} (c:K () h):dg P (noView ⟨b,off,none⟩) K h:=by obtain ⟨t,e⟩:=k;unfold noView viewAt;refine (cL _ _).2 ((cL _ _).2 (yC (r:=b) e ?_));exact c
theorem IM {b off:Nat} {d:List Value} (k:fb h b d) {K:Bool->Hp->Prop} (f:K false h):dg P (stringish ⟨b,off,none⟩) K h:=by have c:=k;obtain ⟨t,e⟩:=k;unfold stringish;refine (cL _ _).2 (PB (a:=⟨b,off,none⟩) e ?_);rw [Eg c];refine (cL _ _).2 (yC (r:=b) e ?_);refine PB (a:=⟨b,_,none⟩) e ?_;rw [Eg c];exact f
theorem WD {j A e:Nat} {i:TypeInfo} {a b c f q t s v:Nat} {u w:List Value} {K:Bool->Hp->Prop} (z:P.underlying j=some (.slice e)) (hi:P.info? e=some i) (g:fb h a u) (k:fb h b w) (p:a≠b)
  (o:K false h):ji P (Extern.SlicesOverlaps.overlaps #[j,j] #[A] #[.slice (some ⟨a,c,none⟩) q t,.slice (some ⟨b,f,none⟩) s v]) aW K h:=by
 have x:((⟨a,c,none⟩:Addr).block !=(⟨b,f,none⟩:Addr).block)=true:=by simpa using p
 have y:((⟨a,c,none⟩:Addr).block==(⟨b,f,none⟩:Addr).block)=false:=by simpa using p
 obtain ⟨B,l⟩:=id g;obtain ⟨tb,m⟩:=id k;unfold ji;show dg P (α:=Value) (underlying j>>=λd=>_) _ h;refine (cL _ _).2 (Ef z ?_);refine (cL _ _).2 (R6 hi ?_);dsimp only;by_cases n:q=0\/s=0\/i.size=0
 ·rw [if_pos n];exact ⟨false,rfl,o⟩
 ·rw [if_neg n];refine (cL _ _).2 (PB (a:=⟨a,c,none⟩) l ?_);refine (cL _ _).2 (PB (a:=⟨b,f,none⟩) m ?_);rw [x,Eg g];simp only [Bool.true_and,Bool.false_and,Bool.false_eq_true,if_false,if_true];refine (cL _ _).2 (Kh g ?_);refine (cL _ _).2 (Kh k ?_);refine (cL _ _).2 ?_;unfold mayBeOne;refine (cL _ _).2 (IM g ?_);refine (cL _ _).2 (IM k ?_);refine (cL _ _).2 ((cL _ _).2 (yC (r:=a) l ?_));refine (cL _ _).2 ((cL _ _).2 (yC (r:=b) m ?_));simp only [Bool.false_and,Bool.or_false];refine ⟨false,?_,o⟩;rw [y];rfl
theorem zzu {a:Addr}:∀(b:List Value) (i:Nat) {h:Hp} {K:Unit->Hp->Prop},iX b=true->(∀j,j<b.length->(∃v,dh h (a.add (i+j))=some v)/\gN h (a.add (i+j))=false)->
  K () (ki h a b i)->dg P (storeCells a b i) K h
 | [],i,h,K,_,_,c=>c
 | v::b,i,h,K,d,m,c=>by
  obtain ⟨f,g⟩:=m 0 (by simp);rw [Nat.add_zero] at f g;have o:iX b=true:=by cases v<;>first | (exact d) | (cases d)
  have step:dg P (storeCells a b (i+1)) K (h.put (a.add i) v):=by
   refine zzu b (i+1) o (λj n=> ?_) c;obtain ⟨⟨u,k⟩,l⟩:=m (j+1) (by simpa using n);have e:i+(j+1)=i+1+j:=by omega
   rw [e] at k l;exact ⟨LW ⟨u,k⟩,(by rw [LX];exact l)⟩
  show dg P (Sem.store Mode.plain (a.add i) v (storeCells a b (i+1))) K h;cases v<;>first | (exact ⟨f,g,step⟩) | (cases d)
theorem Ma {t e b off n c:Nat} {z:Value} {a:List Value} {K:Hp->Prop} (o:P.underlying t=some (.slice e)) (p:∀ {K:Value->Hp->Prop} {h:Hp},K z h->dg P (zeroValue e) K h) (l:∀n,iX (fm (ba z) n)=true) (g:fb h b a)
  (s:off+n*(ba z).length<=a.length)
  (i:∀f,Mv [b] h [b] f->fb f b (a.take off++fm (ba z) n++a.drop (off+n*(ba z).length))->K f):
  mU P (Builtin.clear_ #[t] 0 #[.slice (some ⟨b,off,none⟩) n c]) uf K h:=by
 unfold mU ji;show dg P (α:=Value) (underlying t>>=λd=>_) _ h;refine (cL _ _).2 (Ef o ?_);cases n with
 | zero=>refine ⟨(),rfl,i h (Mv.refl _ _) ?_⟩;simp [fm];exact g
 | succ n=>
  refine (cL _ _).2 ?_;refine p ?_;have q:(Builtin.zeroCells z.cells (n+1)).toList=fm (ba z) (n+1):=by rw [FE,oi]
  have u:(fm (ba z) (n+1)).length=(n+1)*(ba z).length:=zB _ _;obtain ⟨v,r⟩:=g.put (off:=off) (new:=fm (ba z) (n+1)) (by omega);have m:=g.sK (off:=off) (fm (ba z) (n+1)).length (by omega);refine (cL _ _).2 ?_;rw [q];refine zzu _ 0 (l _) (λj k=> ?_) ⟨(),rfl,i _ (Mv.jA r) (by grind)⟩;rw [Nat.zero_add];exact uE m j k
end
section
variable {α:Type} {h:Hp} {sz:Nat} {enc:α->List Value} {l:Sl} {xs:List α}
theorem Rw.mh (r:Rw h sz enc l xs) (d:∀x,(enc x).length=sz) (k:0<sz) {sh:Shape} (g:α->sh.T) {j:Nat} (n:∀x,((enc x).drop j).take (ba (sh.enc (g x))).length=ba (sh.enc (g x))) {i:Int} (b:0<=i) (c:i<(xs.length:Int))
  {K:sh.T->Prop} (e:∀x,xs[i.toNat]? =some x->K (g x)):aG l.base l.len i/\aD none sh h ((sat l.base sz i).add j) K:=by
 obtain ⟨a,x,m,f⟩:=r.read d k b (by rw [r.1];exact c);refine ⟨a,g x,λq v hv=> ?_,e x m⟩;rw [rY];refine f (j+q) v ?_;grind
theorem Rw.pf (r:Rw h sz enc l xs) (m:∀x,(enc x).length=sz) (p:0<sz) {sh:Shape} (g:α->sh.T) {j:Nat} (n:∀x,((enc x).drop j).take (ba (sh.enc (g x))).length=ba (sh.enc (g x))) (d:sh.T) {c:Bool} {i:Int} (a:c=true->0<=i/\i<(xs.length:Int))
  {K:sh.T->Prop} (b:∀y,(c=true->∃x,xs[i.toNat]? =some x/\y=g x)->K y):(c=true->aG l.base l.len i)/\aD (some c) sh h ((sat l.base sz i).add j) K:=by
 cases c with
 | false=>exact ⟨λe=>(by cases e),d,λe=>(by cases e),b d λe=>(by cases e)⟩
 | true=>obtain ⟨a,k⟩:=a rfl;obtain ⟨f,y,s,o⟩:=r.mh m p g n a k (K:=λy=>∃x,xs[i.toNat]? =some x/\y=g x) λx q=>⟨x,q,rfl⟩;exact ⟨λ_=>f,y,λ_=>s,b y λ_=>o⟩
theorem uM {b o a c:Nat} (d:c≠a):aV (some ⟨b,o,none⟩) sz a c=some ⟨b,o+a*sz,none⟩:=by unfold aV;rw [if_neg d];show some ((⟨b,o,none⟩:Addr).add (a*sz))=_;rw [km]
theorem fb.rd {b:Nat} {a new:List Value} (k:fb h b a) {off n:Nat} (c:new.length=n) (e:(a.drop off).take n=new):pC h (some ⟨b,off,none⟩) n new:=⟨c,.inr ⟨_,rfl,k.fw e⟩⟩
theorem EO {b off dl j n:Nat} {c new:List Value} {x:Sl} {K:Int->Hp->Prop} (g:fb h b c) (q:min x.len dl=n) (f:pC h x.base (n*sz) new) (r:iX new=true) (o:off+n*sz<=c.length)
  (m:∀d,Mv [b] h [b] d->fb d b (c.take off++new++c.drop (off+n*sz))->K (n:Nat) d):fW sz ⟨some ⟨b,off,none⟩,dl,j⟩ x K h:=by
 subst q;have p:new.length=min x.len dl*sz:=f.1;refine ⟨new,f,r,λa k=> ?_,?_⟩
 ·cases k;exact g.sK _ o
 ·obtain ⟨i,s⟩:=g.put (off:=off) (new:=new) (by omega);have e:gu h (some ⟨b,off,none⟩) 0 new=ki h ⟨b,off,none⟩ new 0:=by simp only [gu,km,Nat.add_zero]
  show K _ (gu h (some ⟨b,off,none⟩) 0 new);rw [e];rw [p] at i;exact m _ (Mv.jA s) i
theorem Up {bytes:Nat} {zero:List Value} {l:Sl} {m:Int} {lg:List Value} {K:Sl->Hp->Prop} (i:0<=m) (j:pC h l.base (l.len*sz) lg) (hb:l.len+m.toNat<=140737488355328/\(l.len+m.toNat)*bytes<=140737488355328)
  (k:iX (fm zero m.toNat)=true) (n:l.cap<l.len+m.toNat) (g:∀b c a,h b=none->l.len+m.toNat<=c->h<=a->Mv [] h [b] a->fb a b (lg++fm zero m.toNat++fm zero (c-(l.len+m.toNat)))->K ⟨some ⟨b,0,none⟩,l.len+m.toNat,c⟩ a):
  zb sz bytes zero l m K h:=
 ⟨i,lg,j,hb,k,λe=>absurd e (by omega),λ_ c b t f d=>g b c _ d f (lx d) (Mv.new d) ⟨t,kK⟩⟩
theorem KC {bytes b off c g n:Nat} {zero:List Value} {x:Sl} {d new lg:List Value} {K:Sl->Hp->Prop} (j:fb h b d) (u:pC h (some ⟨b,off,none⟩) (c*sz) lg) (i:pC h x.base (x.len*sz) new) (s:x.len=n) (t:iX new=true)
  (hb:c+n<=140737488355328/\(c+n)*bytes<=140737488355328) (w:c+n<=g) (q:off+c*sz+n*sz<=d.length)
  (p:∀f,Mv [b] h [b] f->fb f b (d.take (off+c*sz)++new++d.drop (off+c*sz+n*sz))->K ⟨some ⟨b,off,none⟩,c+n,g⟩ f):gv sz bytes zero ⟨some ⟨b,off,none⟩,c,g⟩ x K h:=by
 subst s;have r:new.length=x.len*sz:=i.1;refine ⟨new,i,lg,u,hb,t,λ_=>⟨λa o=> ?_,?_⟩,λm=>absurd m (by grind)⟩
 ·cases o;rw [km];exact j.sK _ q
 ·obtain ⟨k,v⟩:=j.put (off:=off+c*sz) (new:=new) (by omega);have e:gu h (some ⟨b,off,none⟩) (c*sz) new=ki h ⟨b,off+c*sz,none⟩ new 0:=by simp only [gu,km]
  show K _ (gu h (some ⟨b,off,none⟩) (c*sz) new);rw [e];rw [r] at k;exact p _ (Mv.jA v) k
theorem DH {xs:List α} {i:Nat} (x:α) (hi:i<xs.length):xs.set i x=xs.take i++x::xs.drop (i+1):=by rw [List.set_eq_take_append_cons_drop,if_pos hi]
theorem db.store {F:List Nat} (o:db h sz enc l xs F) (e:∀x,(enc x).length=sz) {i:Int} (k:0<=i) (w:i<(xs.length:Int)) (x:α) {K:Hp->Prop} (n:∀a,db a sz enc l (xs.set i.toNat x) F->Mv F h F a->K a):
  aG l.base l.len i/\cl h (sat l.base sz i) (enc x) K:=by
 obtain ⟨s,j,t⟩:=o;rcases t with ⟨_,u,_⟩ | ⟨b,c,d,rfl,q,v,f⟩
 ·omega
 ·refine ⟨⟨by rw [d];simp,k,by omega⟩,?_⟩;have hi:i.toNat<xs.length:=by omega
  have m:sat l.base sz i=⟨b,i.toNat*sz,none⟩:=by unfold sat;rw [d,Option.getD_some,km,Nat.zero_add]
  rw [m];have y:i.toNat*sz+sz<=l.len*sz:=by have:=Nat.mul_le_mul_right sz (show i.toNat+1<=l.len by omega);grind
  have z:l.len*sz<=l.cap*sz:=Nat.mul_le_mul_right sz j;refine uS q (by grind) λa r g=> ?_;rw [e] at g;refine n a ⟨by simp [s],j,.inr ⟨b,_,d,rfl,g,?_,?_⟩⟩ r
  ·grind
  ·rw [DH x hi];have t1:c.take (i.toNat*sz)=(xs.take i.toNat).flatMap enc:=by rw [zJ e,<-f,List.take_take];congr 1;omega
   have t2:(c.drop (i.toNat*sz+sz)).take (l.len*sz-(i.toNat*sz+sz))=(xs.drop (i.toNat+1)).flatMap enc:=by rw [zH e,<-f,Nat.add_mul,Nat.one_mul,List.drop_take]
   have p:(c.take (i.toNat*sz)++enc x).length=i.toNat*sz+sz:=by grind
   rw [List.take_append,p,t2,List.take_of_length_le (by omega),t1];simp
end
section
variable {P:Program} {α:Type} {h:Hp} {sz:Nat} {enc:α->List Value}
def Gk (P:Program) (sz bytes:Nat) (zero:List Value) (j k:Nat) (R:Sl->(Hp->Prop)->Hp->Prop) (s:Sl) (i:Int) (v:Sl) (Q:Sl->Hp->Prop) (h:Hp):Prop:=
 (((0:Int)<=i/\i<=((s.len:Nat):Int))/\aA (α:=Sl) ⟨(aV s.base sz (Int.toNat i) s.cap),(s.len-(Int.toNat i)),(s.cap-(Int.toNat i))⟩ λ_=>
 (if (((v.len:Nat):Int)==(0:Int))=true then
 Q s h
 else
 (if (i==((s.len:Nat):Int))=true then
 gv sz bytes zero s v (λr b=>
 Q r b) h
 else
 (if (decide ((yw (((s.len:Nat):Int)+((v.len:Nat):Int)))>((s.cap:Nat):Int)))=true then
 (((0:Int)<=i/\i<=((s.cap:Nat):Int))/\aA (α:=Sl) ⟨(aV s.base sz 0 s.cap),((Int.toNat i)-0),(s.cap-0)⟩ λa=>
 zb sz bytes zero a (yw ((yw (((s.len:Nat):Int)+((v.len:Nat):Int)))-i)) (λr b=>
 (((0:Int)<=i/\i<=((r.len:Nat):Int))/\aA (α:=Sl) ⟨(aV r.base sz (Int.toNat i) r.cap),(r.len-(Int.toNat i)),(r.cap-(Int.toNat i))⟩ λg=>
 fW sz g v (λ_ c=>
 (((0:Int)<=(yw (i+((v.len:Nat):Int)))/\(yw (i+((v.len:Nat):Int)))<=((r.len:Nat):Int))/\aA (α:=Sl) ⟨(aV r.base sz (Int.toNat (yw (i+((v.len:Nat):Int)))) r.cap),(r.len-(Int.toNat (yw (i+((v.len:Nat):Int))))),(r.cap-(Int.toNat (yw (i+((v.len:Nat):Int)))))⟩ λe=>
 (((0:Int)<=i/\i<=((s.len:Nat):Int))/\aA (α:=Sl) ⟨(aV s.base sz (Int.toNat i) s.cap),(s.len-(Int.toNat i)),(s.cap-(Int.toNat i))⟩ λf=>
 fW sz e f (λ_ d=>
 Q r d) c))) b)) h)
 else
 (((0:Int)<=(yw (((s.len:Nat):Int)+((v.len:Nat):Int)))/\(yw (((s.len:Nat):Int)+((v.len:Nat):Int)))<=((s.cap:Nat):Int))/\aA (α:=Sl) ⟨(aV s.base sz 0 s.cap),((Int.toNat (yw (((s.len:Nat):Int)+((v.len:Nat):Int))))-0),(s.cap-0)⟩ λa=>
 (((0:Int)<=(yw (i+((v.len:Nat):Int)))/\(yw (i+((v.len:Nat):Int)))<=((a.len:Nat):Int))/\aA (α:=Sl) ⟨(aV a.base sz (Int.toNat (yw (i+((v.len:Nat):Int)))) a.cap),(a.len-(Int.toNat (yw (i+((v.len:Nat):Int))))),(a.cap-(Int.toNat (yw (i+((v.len:Nat):Int)))))⟩ λg=>
 ji P (Extern.SlicesOverlaps.overlaps #[j,j] #[k] #[v.v,g.v]) aW (λr b=>
 (if (!r)=true then
 (((0:Int)<=(yw (i+((v.len:Nat):Int)))/\(yw (i+((v.len:Nat):Int)))<=((a.len:Nat):Int))/\aA (α:=Sl) ⟨(aV a.base sz (Int.toNat (yw (i+((v.len:Nat):Int)))) a.cap),(a.len-(Int.toNat (yw (i+((v.len:Nat):Int))))),(a.cap-(Int.toNat (yw (i+((v.len:Nat):Int)))))⟩ λe=>
 (((0:Int)<=i/\i<=((a.len:Nat):Int))/\aA (α:=Sl) ⟨(aV a.base sz (Int.toNat i) a.cap),(a.len-(Int.toNat i)),(a.cap-(Int.toNat i))⟩ λf=>
 fW sz e f (λ_ c=>
 (((0:Int)<=i/\i<=((a.len:Nat):Int))/\aA (α:=Sl) ⟨(aV a.base sz (Int.toNat i) a.cap),(a.len-(Int.toNat i)),(a.cap-(Int.toNat i))⟩ λl=>
 fW sz l v (λ_ d=>
 Q a d) c)) b))
 else
 (((0:Int)<=((s.len:Nat):Int)/\((s.len:Nat):Int)<=((a.len:Nat):Int))/\aA (α:=Sl) ⟨(aV a.base sz (Int.toNat ((s.len:Nat):Int)) a.cap),(a.len-(Int.toNat ((s.len:Nat):Int))),(a.cap-(Int.toNat ((s.len:Nat):Int)))⟩ λe=>
 fW sz e v (λ_ c=>
 (((0:Int)<=i/\i<=((a.len:Nat):Int))/\aA (α:=Sl) ⟨(aV a.base sz (Int.toNat i) a.cap),(a.len-(Int.toNat i)),(a.cap-(Int.toNat i))⟩ λf=>
 R f (λd=>Q a d) c)) b))) h))))))
theorem YA {bytes tS tR tE y:Nat} {i0:TypeInfo} {zero b1:List Value} {R:Sl->(Hp->Prop)->Hp->Prop} {s v:Sl} {d:List α} {e:α} {F:List Nat} {i:Nat} {Q:Sl->Hp->Prop}
  (ht:P.underlying tS=some (.slice tE)) (c0:P.info? tE=some i0) (r:∀x,(enc x).length=sz) (f0:0<sz) (D:∀x,iX (enc x)=true) (hz:zero.length=sz) (c5:∀n,iX (fm zero n)=true)
  (o:db h sz enc s d F) (I:Rw h sz enc v [e]) (hv:v.base=some ⟨y,0,none⟩) (kv:fb h y b1) (Z:y∉F) (hi:i<=d.length) (hb:d.length+1<=140737488355328/\(d.length+1)*bytes<=140737488355328)
  (hq:∀S z J,db z sz enc S (d.take i++e::d.drop i) J->Mv F h J z->Q S z):Gk P sz bytes zero tS tR R s (i:Int) v Q h:=by
 have hs:=o.1;have e9:=o.2.1;have a8:v.len=1:=I.1;have w1:yw ((s.len:Int)+(v.len:Int))=(s.len:Int)+1:=by rw [a8,aI];rfl
 have w2:yw ((i:Int)+(v.len:Int))=((i+1:Nat):Int):=by rw [a8,aI];omega
 have d5:pC h v.base (1*sz) (enc e):=by simpa using I.2
 unfold Gk;rw [w1,w2];have it:(i:Int).toNat=i:=by omega
 have c6:((i+1:Nat):Int).toNat=i+1:=by omega
 rw [it,c6];refine ⟨by omega,aE ?_⟩;rw [if_neg (show ¬(((v.len:Int)==0)=true) by simp;omega)];by_cases e4:i=d.length
 ·rw [if_pos (show ((i:Int)==(s.len:Int))=true by simp;omega)];refine sm o I r D hz (by simpa using hb) λS z J o' m'=> ?_;grind
 rw [if_neg (show ¬(((i:Int)==(s.len:Int))=true) by simp;omega)];have e5:i<d.length:=by omega
 have N:∀a b:Nat,a<=b->a*sz<=b*sz:=λa b b6=>Nat.mul_le_mul_right sz b6;have E:((d.take i).flatMap enc).length=i*sz:=by rw [iW r,List.length_take];congr 1;omega
 have uw:((d.drop i).flatMap enc).length=(d.length-i)*sz:=by rw [iW r,List.length_drop]
 have c4:d.flatMap enc=(d.take i).flatMap enc++(d.drop i).flatMap enc:=by rw [<-List.flatMap_append,List.take_append_drop]
 have f4:(d.take i++e::d.drop i).flatMap enc=(d.take i).flatMap enc++enc e++(d.drop i).flatMap enc:=by simp
 have a9:(d.take i++e::d.drop i).length=d.length+1:=by simp;omega
 have j:(i+1)*sz=i*sz+sz:=by grind
 have e2:(d.length+1)*sz=i*sz+sz+(d.length-i)*sz:=by grind
 have Y:=sP D (d.drop i);rcases o.2.2 with ⟨ob,oc,_⟩ | ⟨b,f,ob,rfl,m,k,X⟩
 ·omega
 have d9:s.cap≠0:=by omega
 rw [ob];rw [hs] at X;have e3:d.length*sz<=f.length:=by rw [k];exact N _ _ (by omega)
 have U:aV (some (⟨b,0,none⟩:Addr)) sz 0 s.cap=some ⟨b,0,none⟩:=by rw [uM (by omega)];simp
 have V:aV (some (⟨b,0,none⟩:Addr)) sz i s.cap=some ⟨b,i*sz,none⟩:=by rw [uM (by omega)];simp
 have f5:d.length*sz=i*sz+(d.length-i)*sz:=by grind
 have d2:pC h (some ⟨b,0,none⟩) (i*sz) ((d.take i).flatMap enc):=m.rd E (by
  rw [List.drop_zero];have:f.take (i*sz)=(f.take (d.length*sz)).take (i*sz):=by rw [List.take_take];congr 1;omega
  grind)
 have d0:pC h (some ⟨b,i*sz,none⟩) ((d.length-i)*sz) ((d.drop i).flatMap enc):=m.rd uw (by
  have:(f.drop (i*sz)).take ((d.length-i)*sz)=(f.take (d.length*sz)).drop (i*sz):=by rw [List.drop_take];congr 1;omega
  grind)
 by_cases e8:s.cap<d.length+1
 ·rw [if_pos (show (decide ((s.len:Int)+1>(s.cap:Int)))=true by simp;omega)];refine ⟨by omega,aE ?_⟩;rw [U];have w3:yw ((s.len:Int)+1-(i:Int))=((d.length+1-i:Nat):Int):=by rw [aI];omega
  rw [w3];have C:(((d.length+1-i:Nat):Int)).toNat=d.length+1-i:=by omega
  refine Up (l:=⟨some ⟨b,0,none⟩,i-0,s.cap-0⟩) (by omega) d2 ?_ (c5 _) ?_ λg c L B hc l1 m1 k1=> ?_
  ·grind
  ·grind
  rw [C] at hc k1;have b4:(i-0)+(d.length+1-i)=d.length+1:=by omega
  have W:d.length+1<=c:=by grind
  have c7:fb L g ((d.take i).flatMap enc++fm zero (d.length+1-i)++fm zero (c-(d.length+1))):=by grind
  have c2:(⟨some ⟨b,0,none⟩,i-0,s.cap-0⟩:Sl).len+(((d.length+1-i:Nat):Int)).toNat=d.length+1:=by rw [C];exact b4
  rw [c2];have e6:g≠b:=λp=>by rw [p] at B;exact m.known B
  have e7:g≠y:=λp=>by rw [p] at B;exact kv.known B
  refine ⟨by grind,aE ?_⟩;rw [uM (show c≠i by omega),Nat.zero_add];have b0:∀n,(fm zero n).length=n*sz:=λn=>by rw [zB,hz]
  have d6:((d.take i).flatMap enc++fm zero (d.length+1-i)++fm zero (c-(d.length+1))).length=c*sz:=by rw [List.length_append,List.length_append,E,b0,b0,<-Nat.add_mul,<-Nat.add_mul];congr 1;omega
  have d3:pC L v.base (1*sz) (enc e):=by simpa using (I.mono l1).2
  refine EO (n:=1) c7 (by grind) d3 (D e) (by grind) λA w O=> ?_;refine ⟨by grind,aE ⟨by omega,aE ?_⟩⟩;rw [uM (show c≠i+1 by omega),Nat.zero_add,V];have c8:fb A b f:=(m.le l1).mv w (by grind);have d1:pC A (some ⟨b,i*sz,none⟩) ((d.length-i)*sz) ((d.drop i).flatMap enc):=c8.rd uw (by
   grind)
  have G:=O;rw [Nat.one_mul] at G;have K:((d.take i).flatMap enc++fm zero (d.length+1-i)++fm zero (c-(d.length+1))).take (i*sz)=(d.take i).flatMap enc:=by grind
  rw [K] at G;have c3:(((d.take i).flatMap enc++fm zero (d.length+1-i)++fm zero (c-(d.length+1))).drop (i*sz+sz)).length=c*sz-(i*sz+sz):=by grind
  generalize ((d.take i).flatMap enc++fm zero (d.length+1-i)++fm zero (c-(d.length+1))).drop (i*sz+sz)=rest at G c3;have d8:=N _ _ W;refine EO (n:=d.length-i) G (by grind) d1 Y (by
   grind) λh3 T H=> ?_
  refine hq _ _ [g] ⟨a9.symm,W,.inr ⟨g,_,rfl,rfl,H,?_,?_⟩⟩ ?_
  ·grind
  ·grind
  ·have c9:Mv [b] h [g] L:=m1.sub (λb hb=>by cases hb) λb hb=>.inl hb;exact c9.trans (w.trans T)
 ·rw [if_neg (show ¬(decide ((s.len:Int)+1>(s.cap:Int)))=true by simp;omega)];refine ⟨by omega,aE ⟨?_,aE ?_⟩⟩
  ·show (0:Int)<=((i+1:Nat):Int)/\((i+1:Nat):Int)<=(((((s.len:Int)+1).toNat-0:Nat)):Int);omega
  have c1:((s.len:Int)+1).toNat-0=d.length+1:=by omega
  have b9:s.cap-0=s.cap:=by omega
  rw [U,c1,b9];have b8:aV (some (⟨b,0,none⟩:Addr)) sz (i+1) s.cap=some ⟨b,(i+1)*sz,none⟩:=by rw [uM (by omega)];simp
  show ji P (Extern.SlicesOverlaps.overlaps #[tS,tS] #[tR] #[.slice v.base v.len v.cap,.slice (aV (some (⟨b,0,none⟩:Addr)) sz (i+1) s.cap) (d.length+1-(i+1)) (s.cap-(i+1))]) aW _ h;rw [b8,hv];refine WD ht c0 kv m (λp=>Z (by rw [p];exact List.mem_singleton.2 rfl)) ?_;rw [if_pos (by rfl)];refine ⟨by show (0:Int)<=((i+1:Nat):Int)/\((i+1:Nat):Int)<=((d.length+1:Nat):Int);omega,aE ⟨by show (0:Int)<=i/\(i:Int)<=((d.length+1:Nat):Int);omega,aE ?_⟩⟩;have d7:(d.length+1)*sz<=s.cap*sz:=N _ _ (by omega);have b7:aV (some (⟨b,0,none⟩:Addr)) sz i s.cap=some ⟨b,i*sz,none⟩:=V;show fW sz ⟨some ⟨b,(i+1)*sz,none⟩,d.length+1-(i+1),s.cap-(i+1)⟩ ⟨aV (some (⟨b,0,none⟩:Addr)) sz i s.cap,d.length+1-i,s.cap-i⟩ _ h;rw [b7];refine EO (n:=d.length-i) m (by show min (d.length+1-i) (d.length+1-(i+1))=_;omega) d0 Y (by rw [k,j];omega) λA w O=> ?_;refine ⟨by show (0:Int)<=i/\(i:Int)<=((d.length+1:Nat):Int);omega,aE ?_⟩;have d4:pC A v.base (1*sz) (enc e):=by
   refine ⟨by rw [r,Nat.one_mul],?_⟩;rcases d5.2 with e0 | ⟨a,M,hl⟩
   ·exact .inl e0
   ·refine .inr ⟨a,M,λq u hu=> ?_⟩;have:=hl q u hu;rw [hv] at M;cases M;rw [km] at this ⊢;obtain ⟨t,ek⟩:=id kv;obtain ⟨t',b5⟩:=kv.mv w (λC=>Z C);rw [DQ ek] at this;rw [DQ b5];exact this
  have K:(f.take ((i+1)*sz)++(d.drop i).flatMap enc++f.drop ((i+1)*sz+(d.length-i)*sz)).take (i*sz)=(d.take i).flatMap enc:=by
   rw [List.append_assoc,List.take_append_of_le_length (by rw [List.length_take,k];rw [j];omega),List.take_take];have:f.take (min (i*sz) ((i+1)*sz))=(f.take (d.length*sz)).take (i*sz):=by rw [List.take_take];congr 1;rw [j];omega
   rw [this,X,c4,<-E,List.take_left]
  have b3:(f.take ((i+1)*sz)++(d.drop i).flatMap enc++f.drop ((i+1)*sz+(d.length-i)*sz)).drop (i*sz+1*sz)=(d.drop i).flatMap enc++f.drop ((i+1)*sz+(d.length-i)*sz):=by
   have:i*sz+1*sz=(f.take ((i+1)*sz)).length:=by rw [List.length_take,k,j,Nat.one_mul];omega
   rw [List.append_assoc,this,List.drop_left]
  refine EO (n:=1) O (by show min v.len (d.length+1-i)=1;omega) d4 (D e) (by
   simp only [List.length_append,List.length_take,List.length_drop,uw,k,j,Nat.one_mul];omega) λh3 T H=> ?_
  rw [K,b3] at H;refine hq _ _ [b] ⟨a9.symm,by show d.length+1<=s.cap;omega,.inr ⟨b,_,rfl,rfl,H,?_,?_⟩⟩ (w.trans T)
  ·simp only [List.length_append,List.length_drop,E,r,uw,k,j];show _=s.cap*sz;omega
  grind
def xZ (P:Program) (sz bytes:Nat) (zero:List Value) (c:Nat) (s:Sl) (i j:Int) (Q:Sl->Hp->Prop) (h:Hp):Prop:=
 (((0:Int)<=i/\(i<=j/\(j<=((s.len:Nat):Int)/\((s.len:Nat):Int)<=((s.cap:Nat):Int))))/\aA (α:=Sl) ⟨(aV s.base sz (Int.toNat i) (Int.toNat ((s.len:Nat):Int))),((Int.toNat j)-(Int.toNat i)),((Int.toNat ((s.len:Nat):Int))-(Int.toNat i))⟩ λ_=>
 (if (i==j)=true then
 Q s h
 else
 (((0:Int)<=i/\i<=((s.cap:Nat):Int))/\aA (α:=Sl) ⟨(aV s.base sz 0 s.cap),((Int.toNat i)-0),(s.cap-0)⟩ λd=>
 (((0:Int)<=j/\j<=((s.len:Nat):Int))/\aA (α:=Sl) ⟨(aV s.base sz (Int.toNat j) s.cap),(s.len-(Int.toNat j)),(s.cap-(Int.toNat j))⟩ λe=>
 gv sz bytes zero d e (λr a=>
 (((0:Int)<=((r.len:Nat):Int)/\(((r.len:Nat):Int)<=((s.len:Nat):Int)/\((s.len:Nat):Int)<=((r.cap:Nat):Int)))/\aA (α:=Sl) ⟨(aV r.base sz (Int.toNat ((r.len:Nat):Int)) r.cap),((Int.toNat ((s.len:Nat):Int))-(Int.toNat ((r.len:Nat):Int))),(r.cap-(Int.toNat ((r.len:Nat):Int)))⟩ λf=>
 mU P (Builtin.clear_ #[c] 0 #[f.v]) uf (λb=>
 Q r b) a)) h))))
theorem YC {bytes tS tE:Nat} {z:Value} {s:Sl} {c:List α} {F:List Nat} {i j:Nat} {Q:Sl->Hp->Prop}
  (R:P.underlying tS=some (.slice tE)) (V:∀ {K:Value->Hp->Prop} {h:Hp},K z h->dg P (zeroValue tE) K h) (f:∀x,(enc x).length=sz) (L:∀x,iX (enc x)=true) (u:(ba z).length=sz) (U:∀n,iX (fm (ba z) n)=true)
  (o:db h sz enc s c F) (b2:i<j) (H:j<=c.length) (hb:c.length<=140737488355328/\c.length*bytes<=140737488355328)
  (M:∀w g,db g sz enc w (c.take i++c.drop j) F->Mv F h F g->Q w g):xZ P sz bytes (ba z) tS s (i:Int) (j:Int) Q h:=by
 have O:=o.1;have b5:=o.2.1;unfold xZ;have it:(i:Int).toNat=i:=by omega
 have W:(j:Int).toNat=j:=by omega
 have st:(s.len:Int).toNat=c.length:=by omega
 rw [it,W,st];refine ⟨by omega,aE ?_⟩;rw [if_neg (show ¬(((i:Int)==(j:Int))=true) by simp;omega)];have e:∀a b:Nat,a<=b->a*sz<=b*sz:=λa b B=>Nat.mul_le_mul_right sz B;have T:((c.take i).flatMap enc).length=i*sz:=by rw [iW f,List.length_take];congr 1;omega
 have uw:((c.drop j).flatMap enc).length=(c.length-j)*sz:=by rw [iW f,List.length_drop]
 rcases o.2.2 with ⟨y,oc,_⟩ | ⟨b,d,y,rfl,l,m,k⟩
 ·omega
 rw [y];rw [O] at k;have b1:c.length*sz<=d.length:=by rw [m];exact e _ _ (by omega)
 have C:aV (some (⟨b,0,none⟩:Addr)) sz 0 s.cap=some ⟨b,0,none⟩:=by rw [uM (by omega)];simp
 have b3:=e i c.length (by omega);have b4:=e j c.length H;have b7:c.length*sz=j*sz+(c.length-j)*sz:=by rw [<-Nat.add_mul];congr 1;omega
 have b6:i*sz<=j*sz:=e _ _ (by omega);have S:d.take (i*sz)=(c.take i).flatMap enc:=by rw [zJ f,<-k,List.take_take];congr 1;omega
 have a9:pC h (some ⟨b,0,none⟩) ((i-0)*sz) ((c.take i).flatMap enc):=l.rd T (by rw [List.drop_zero];exact S);have a8:pC h (aV (some (⟨b,0,none⟩:Addr)) sz j s.cap) ((c.length-j)*sz) ((c.drop j).flatMap enc):=by
  by_cases E:s.cap=j
  ·refine ⟨uw,.inl ?_⟩;have:c.length-j=0:=by omega
   rw [this,Nat.zero_mul]
  ·rw [uM E,Nat.zero_add];refine l.rd uw ?_;rw [zH f,<-k,List.drop_take];congr 1;omega
 refine ⟨by omega,aE ⟨by omega,aE ?_⟩⟩;rw [C];have J:i-0+(c.length-j)<=c.length:=by omega
 have b0:(i-0+(c.length-j))*bytes<=c.length*bytes:=Nat.mul_le_mul_right _ J;have t:(⟨aV (some (⟨b,0,none⟩:Addr)) sz j s.cap,s.len-j,s.cap-j⟩:Sl).len=c.length-j:=by show s.len-j=_;omega
 refine KC (n:=c.length-j) l a9 (by rw [t];exact a8) t (sP L _) ⟨by omega,by omega⟩ (by omega) (by
  have:i-0=i:=by omega
  rw [this,Nat.zero_add,m];have:=e (i+(c.length-j)) s.cap (by omega);rw [Nat.add_mul] at this;exact this) λA Y v=> ?_
 have p:i-0=i:=by omega
 rw [p,Nat.zero_add] at v;show ((0:Int)<=((i-0+(c.length-j):Nat):Int)/\((i-0+(c.length-j):Nat):Int)<=(s.len:Int)/\(s.len:Int)<=((s.cap-0:Nat):Int))/\aA (α:=Sl) ⟨aV (some ⟨b,0,none⟩) sz (((i-0+(c.length-j):Nat):Int)).toNat (s.cap-0),c.length-(((i-0+(c.length-j):Nat):Int)).toNat,s.cap-0-(((i-0+(c.length-j):Nat):Int)).toNat⟩ _;refine ⟨by omega,aE ?_⟩;have I:(((i-0+(c.length-j):Nat):Int)).toNat=i+(c.length-j):=by omega
 have D:s.cap-0=s.cap:=by omega
 rw [I,D,uM (show s.cap≠i+(c.length-j) by omega),Nat.zero_add];have G:c.length-(i+(c.length-j))=j-i:=by omega
 have r:(i+(c.length-j))*sz=i*sz+(c.length-j)*sz:=Nat.add_mul _ _ _;have q:(d.take (i*sz)++(c.drop j).flatMap enc++d.drop (i*sz+(c.length-j)*sz)).length=d.length:=by simp only [List.length_append,List.length_take,List.length_drop,uw];omega
 show mU P (Builtin.clear_ #[tS] 0 #[.slice (some ⟨b,(i+(c.length-j))*sz,none⟩) (c.length-(i+(c.length-j))) (s.cap-(i+(c.length-j)))]) uf _ A;rw [G];refine Ma R V U v (by
  rw [q,u,r];have:i*sz+(j-i)*sz=j*sz:=by rw [<-Nat.add_mul];congr 1;omega
  omega) λh2 Z X=> ?_
 have N:(c.take i++c.drop j).length=i+(c.length-j):=by simp;omega
 refine M _ _ ⟨?_,?_,.inr ⟨b,_,rfl,rfl,X,?_,?_⟩⟩ (Y.trans Z)
 ·rw [N,p]
 ·show i-0+(c.length-j)<=s.cap;omega
 ·simp only [List.length_append,List.length_take,List.length_drop,q,zB,u];show _=s.cap*sz;have:i*sz+(j-i)*sz=j*sz:=by rw [<-Nat.add_mul];congr 1;omega
  rw [r];omega
 grind
end
end Lf
namespace Lf
theorem KD :∀ {xs ys:List Int},xs.Pairwise (· < ·)->ys.Pairwise (· < ·)->(∀z,z∈xs↔z∈ys)->xs=ys
 | [],[],_,_,_=>rfl
 | [],y::ys,_,_,h=>by have:=(h y).2 (List.mem_cons_self ..);cases this
 | x::xs,[],_,_,h=>by have:=(h x).1 (List.mem_cons_self ..);cases this
 | x::xs,y::ys,d,f,h=>by
  obtain ⟨a1,a2⟩:=List.pairwise_cons.1 d;obtain ⟨b,c⟩:=List.pairwise_cons.1 f;have e:x=y:=by
   rcases List.mem_cons.1 ((h x).1 (List.mem_cons_self ..)) with e | hx
   ·exact e
   ·rcases List.mem_cons.1 ((h y).2 (List.mem_cons_self ..)) with e | hy
    ·exact e.symm
    ·have:=a1 y hy;have:=b x hx;omega
  subst e;have:=KD (xs:=xs) (ys:=ys) a2 c λz=>⟨λa=>by
   rcases List.mem_cons.1 ((h z).1 (List.mem_cons_of_mem _ a)) with e | hz'
   ·have:=a1 z a;omega
   ·exact hz',λa=>by
   rcases List.mem_cons.1 ((h z).2 (List.mem_cons_of_mem _ a)) with e | hz'
   ·have:=b z a;omega
   ·exact hz'⟩
  rw [this]
end Lf
namespace Lf
open Go
section
variable {V:Type}
def jw (a:Int):List (Int×V)->Option (Nat×V)
 | []=>none
 | (k,v)::r=>if a=k then some (0,v) else (jw a r).map λp=>(p.1+1,p.2)
def cN (a:Int):List (Int×V)->Option V
 | []=>none
 | (k,v)::r=>if a=k then some v else cN a r
def gC (a:Int) (v:V):List (Int×V)->List (Int×V)
 | []=> [(a,v)]
 | (k,u)::r=>if a=k then (a,v)::r else (k,u)::gC a v r
def mN (a:Int):List (Int×V)->List (Int×V)
 | []=> []
 | (k,u)::r=>if a=k then r else (k,u)::mN a r
theorem xh (a b:Int) (v:V):∀l:List (Int×V),cN a (gC b v l)=if a=b then some v else cN a l
 | []=>by simp [gC,cN]
 | (k,u)::r=>by
  simp only [gC];by_cases h:b=k
  ·rw [if_pos h];subst h;simp only [cN];split<;>rfl
  ·rw [if_neg h];simp only [cN,xh a b v r];grind
theorem Mb {a:Int}:∀ {l:List (Int×V)},a∉l.map (·.1)->cN a l=none
 | [],_=>rfl
 | (k,u)::r,h=>by simp only [List.map_cons,List.mem_cons,not_or] at h;simp only [cN];rw [if_neg h.1];exact Mb h.2
theorem Eh {a:Int} {v:V}:∀ {l:List (Int×V)},cN a l=some v->(a,v)∈l
 | (k,u)::r,h=>by
  simp only [cN] at h;split at h
  ·grind
  ·exact List.mem_cons_of_mem _ (Eh h)
theorem PD {a:Int} {v:V}:∀ {l:List (Int×V)},(l.map (·.1)).Nodup->(a,v)∈l->cN a l=some v
 | (k,u)::r,b,h=>by
  simp only [List.map_cons,List.nodup_cons] at b;simp only [cN];rcases List.mem_cons.1 h with e | h
  ·grind
  ·have:a≠k:=λe=>b.1 (by grind);rw [if_neg this];exact PD b.2 h
theorem NA (a b:Int):∀l:List (Int×V),(l.map (·.1)).Nodup->cN a (mN b l)=if a=b then none else cN a l
 | [],_=>by simp [mN,cN]
 | (k,u)::r,c=>by
  simp only [List.map_cons,List.nodup_cons] at c;simp only [mN];by_cases h:b=k
  ·rw [if_pos h];subst h;simp only [cN];by_cases d:a=b
   ·subst d;rw [if_pos rfl];exact Mb c.1
   grind
  ·rw [if_neg h];simp only [cN,NA a b r c.2];grind
theorem Mc (b:Int) (v:V):∀(l:List (Int×V)) (a:Int),a∈(gC b v l).map (·.1)↔a=b\/a∈l.map (·.1)
 | [],a=>by simp [gC]
 | (k,u)::r,a=>by
  simp only [gC];by_cases h:b=k
  ·subst h;simp
  ·rw [if_neg h];simp only [List.map_cons,List.mem_cons,Mc b v r a];grind
theorem M5 (b:Int) (v:V):∀ {l:List (Int×V)},(l.map (·.1)).Nodup->((gC b v l).map (·.1)).Nodup
 | [],_=>by simp [gC]
 | (k,u)::r,a=>by
  simp only [List.map_cons,List.nodup_cons] at a;simp only [gC];by_cases h:b=k
  ·grind
  ·rw [if_neg h];simp only [List.map_cons,List.nodup_cons];refine ⟨λe=> ?_,M5 b v a.2⟩;rcases (Mc b v r k).1 e with e | e
   ·exact h e.symm
   ·exact a.1 e
theorem NB (b:Int):∀(l:List (Int×V)),(mN b l).Sublist l
 | []=>.slnil
 | (k,u)::r=>by
  simp only [mN];split
  ·simp
  ·exact .cons_cons _ (NB b r)
theorem Qs (b:Int) {l:List (Int×V)} (h:(l.map (·.1)).Nodup):((mN b l).map (·.1)).Nodup:=h.sublist ((NB b l).map _)
theorem Me {b:Int}:∀ {l:List (Int×V)},cN b l=none->mN b l=l
 | [],_=>rfl
 | (k,u)::r,h=>by
  simp only [cN] at h;simp only [mN];split at h
  ·cases h
  ·rename_i e;rw [if_neg e,Me h]
theorem Ei (a:Int):∀l:List (Int×V),cN a l=(jw a l).map (·.2)
 | []=>rfl
 | (k,v)::r=>by
  simp only [cN,jw];split
  ·rfl
  ·rw [Ei a r];simp [Function.comp_def]
def gz (h:Hp) (m:Nat) (k:IntKind) (ev:V->Value) (c:List (Int×V)):Prop:=
 ∃(a:List MapEntry) (ck:Nat),h m=some (.map a.toArray ck)/\a.map (λe=>(e.key,e.val))=c.map λp=>(Value.int k p.1,ev p.2)
variable {h:Hp} {m:Nat} {k:IntKind} {ev:V->Value} {c:List (Int×V)}
theorem w9 (a:Int):∀(d:List MapEntry) (c:List (Int×V)) (j:Nat),d.map (λe=>(e.key,e.val))=c.map (λp=>(Value.int k p.1,ev p.2))->
  Instr.findNow (.int k) (.int k a) d j=some ((jw a c).map λp=>(p.1+j,ev p.2))
 | [],[],j,_=>rfl
 | [],_::_,j,h=>by simp at h
 | _::_,[],j,h=>by simp at h
 | e::d,(b,v)::r,j,h=>by
  simp only [List.map_cons,List.cons.injEq,Prod.mk.injEq] at h;obtain ⟨⟨g,i⟩,l⟩:=h;simp only [Instr.findNow,g,Instr.sameNow,if_true,jw];by_cases f:a=b
  ·simp [f,i]
  ·have n:(a==b)=false:=by simpa using f
   rw [n,if_neg f];simp only;rw [w9 a d r (j+1) l];cases jw a r with
   | none=>rfl
   | some p=>simp;omega
theorem wN {e:IntKind} {sh:Shape} {c:List (Int×sh.T)} {a:Int} {z:sh.T} {zero:Value} {K:sh.T->Bool->Prop} (n:gz h m e sh.enc c) (o:sh.enc z=zero) (j:cN a c=none->K z false)
  (l:∀v,cN a c=some v->K v true):jZ none (.int e) sh zero (some m) (.int e a) h K:=by
 obtain ⟨f,ck,g,i⟩:=n;have b:=w9 (ev:=sh.enc) a f c 0 i;have d:=Ei a c;cases hi:jw a c with
 | none=>rw [hi] at b d;exact ⟨z,false,⟨f,.inr ⟨m,ck,rfl,g⟩,.inl ⟨b,o,rfl⟩⟩,j d⟩
 | some p=>rw [hi] at b d;exact ⟨p.2,true,⟨f,.inr ⟨m,ck,rfl,g⟩,.inr ⟨_,b,rfl⟩⟩,l p.2 d⟩
theorem DI {a:Int} {v:V}:∀ {l:List (Int×V)},jw a l=none->gC a v l=l++ [(a,v)]
 | [],_=>rfl
 | (k,u)::r,h=>by
  simp only [jw] at h;split at h
  ·cases h
  ·rename_i e;simp only [gC];rw [if_neg e,DI (by simpa using h)];rfl
theorem Ej {a:Int} {v u:V} {ev:V->Value}:∀ {f:List MapEntry} {l:List (Int×V)} {i:Nat},f.map (λe=>(e.key,e.val))=l.map (λp=>(Value.int k p.1,ev p.2))->jw a l=some (i,u)->
  (f.modify i λe=>{e with key:=.int k a,val:=ev v}).map (λe=>(e.key,e.val))=(gC a v l).map λp=>(Value.int k p.1,ev p.2)
 | _,[],_,_,h=>by simp [jw] at h
 | [],_::_,_,h,_=>by simp at h
 | e::f,(b,w)::r,i,h,hi=>by
  simp only [List.map_cons,List.cons.injEq] at h;simp only [jw] at hi;simp only [gC];split at hi
  ·grind
  ·rename_i g;rw [if_neg g];cases d:jw a r with
   | none=>rw [d] at hi;simp at hi
   | some p=>rw [d] at hi;simp at hi;obtain ⟨rfl,rfl⟩:=hi;simp only [List.modify_succ_cons,List.map_cons,h.1];rw [Ej h.2 d]
theorem Ls {a:Int} {u:V} {ev:V->Value}:∀ {f:List MapEntry} {l:List (Int×V)} {i:Nat},f.map (λe=>(e.key,e.val))=l.map (λp=>(Value.int k p.1,ev p.2))->jw a l=some (i,u)->
  (f.eraseIdx i).map (λe=>(e.key,e.val))=(mN a l).map λp=>(Value.int k p.1,ev p.2)
 | _,[],_,_,h=>by simp [jw] at h
 | [],_::_,_,h,_=>by simp at h
 | e::f,(b,w)::r,i,h,hi=>by
  simp only [List.map_cons,List.cons.injEq] at h;simp only [jw] at hi;simp only [mN];split at hi
  ·grind
  ·rename_i g;rw [if_neg g];cases d:jw a r with
   | none=>rw [d] at hi;simp at hi
   | some p=>rw [d] at hi;simp at hi;obtain ⟨rfl,rfl⟩:=hi;simp only [List.eraseIdx_cons_succ,List.map_cons,h.1];rw [Ls h.2 d]
theorem Mf {a:Int} {v:V} {K:Hp->Prop} (j:gz h m k ev c) (g:∀o,isCells o=false->gz (h.set m o) m k ev (gC a v c)->K (h.set m o)):tZ (.int k) (some m) (.int k a) (ev v) K h:=by
 obtain ⟨d,ck,i,f⟩:=j;have b:=w9 (ev:=ev) a d c 0 f;refine ⟨m,d.toArray,ck,rfl,i,?_⟩;cases hi:jw a c with
 | none=>
  rw [hi] at b;refine .inl ⟨b,g _ rfl ⟨d++ [{key:=.int k a,val:=ev v,born:=ck}],ck+1,?_,?_⟩⟩
  ·rw [kK];simp
  ·rw [DI hi];simp [f]
 | some p=>rw [hi] at b;refine .inr ⟨p.1,ev p.2,b,g _ rfl ⟨d.modify p.1 λe=>{e with key:=.int k a,val:=ev v},ck,?_,Ej (u:=p.2) f hi⟩⟩;rw [kK];simp
theorem R7 {a:Int} {K:Hp->Prop} (i:gz h m k ev c) (f:∀o,isCells o=false->gz (h.set m o) m k ev (mN a c)->K (h.set m o)):wY (.int k) (some m) (.int k a) K h:=by
 obtain ⟨d,ck,g,e⟩:=i;have b:=w9 (ev:=ev) a d c 0 e;refine .inr ⟨m,d.toArray,ck,rfl,g,?_⟩;cases hi:jw a c with
 | none=>rw [hi] at b;refine .inl ⟨b,f _ rfl ⟨d,ck,kK,?_⟩⟩;rw [Me (by rw [Ei,hi];rfl)];exact e
 | some p=>rw [hi] at b;refine .inr ⟨p.1,ev p.2,b,f _ rfl ⟨d.eraseIdx p.1,ck,?_,Ls (u:=p.2) e hi⟩⟩;rw [kK];simp
end
end Lf
namespace Lf
structure dF where
 op:Int
 a:Int
 b:Int
 c:Int
 kf:Int
def jh (op:Int):Bool×Bool×Bool×Bool:=
 if op=1 then (true,false,false,true)
 else if op=2\/op=20\/op=21\/op=25\/op=26 then (true,true,false,false)
 else if (3<=op/\op<=14)\/(15<=op/\op<=19)\/op=24 then (true,true,true,false)
 else if op=22\/op=29\/op=30 then (false,false,false,true)
 else if op=23 then (true,false,false,true)
 else if op=27\/op=28\/op=31\/op=32\/op=33 then (true,false,false,false)
 else (false,false,false,false)
def fg (has:Bool) (n:Int):Int:=if has=false/\n≠0 then 11 else if n<0\/8<=n then 10 else 0
def j8 (x:dF) (n ak:Int):Int×Int:=
 if x.op<0\/34<=x.op then (9,0)
 else if fg (jh x.op).1 x.a≠0 then (fg (jh x.op).1 x.a,1)
 else if fg (jh x.op).2.1 x.b≠0 then (fg (jh x.op).2.1 x.b,2)
 else if fg (jh x.op).2.2.1 x.c≠0 then (fg (jh x.op).2.2.1 x.c,3)
 else if (jh x.op).2.2.2=false/\x.kf≠0 then (11,4)
 else if (x.op=22\/x.op=23)/\(x.kf<0\/n<x.kf) then (12,4)
 else if (x.op=29\/x.op=30)/\(x.kf<0\/ak<=x.kf) then (13,4)
 else (0,0)
def j3 (n ak:Int):List dF->Int->Int×Int
 | [],_=>(0,0)
 | x::r,i=>if (j8 x n ak).1≠0 then ((j8 x n ak).1,i) else j3 n ak r (i+1)
def jq (l:List dF) (ak:Int):Int×Int:=
 if ak<0\/8<ak then (1,0) else if 256<l.length then (3,256) else j3 l.length ak l 0
structure eu where
 part:Int
 code:List dF
structure bd where
 labels:List Int
 table:List Int
 fuel:Int
 lane:Int
 ak:Int
 log:Int
 procs:List eu
def jG (n a b:Int):Bool:=decide (a<=n)&&decide (n<=b)
def ug (parts ak:Int):List eu->Int->Int×Int
 | [],_=>(0,0)
 | p::r,i=>if jG p.part 0 (parts-1)=false then (2,7+i) else if (jq p.code ak).1≠0 then ((jq p.code ak).1,7+i) else ug parts ak r (i+1)
def uq (m:Int) (c:bd):Int×Int:=
 if m≠0 then (m,0)
 else if c.table=[] then (1,1)
 else if 64<c.table.length then (3,1)
 else if c.table.all (λp=>jG p 0 (c.labels.length-1))=false then (2,1)
 else if jG c.fuel 1 256=false then (2,2)
 else if jG c.lane 1 64=false then (2,3)
 else if jG c.ak 0 8=false then (2,4)
 else if jG c.log 0 4096=false then (2,5)
 else if c.procs=[] then (1,6)
 else if 32<c.procs.length then (3,6)
 else ug c.labels.length c.ak c.procs 0
def Iq :List UInt8->Nat
 | []=>0
 | b::r=>b.toNat+256*Iq r
structure uh where
 tick:Int
 proc:Int
 value:Int
structure ly where
 proc:Int
 value:Int
structure br where
 values:List Int
 waiters:List ly
 taken:Int
 dropped:Int
structure ai where
 state:Int
 pc:Int
 aO:List Int
 ag:Int
 timer:Int
 bK:Bool
 cp:Int
 ae:List br
structure cR where
 ag:Int
 log:List uh
 lost:Int
 forbidden:Int
 av:List Int
 ah:List (List Int)
structure fe where
 tick:Int
 parts:List cR
 procs:List ai
section
variable (c:bd) (s:fe)
def jR (p:Int) (i:Nat):Prop:=0<=p/\∃y,c.procs[p.toNat]? =some y/\y.part=(i:Int)
def qE (p:Int) (q:ai->Prop):Prop:=∃x,s.procs[p.toNat]? =some x/\q x
def jz (i:Nat):Nat:=(c.procs.filter λy=>decide (y.part=(i:Int))).length
def fF (n:Int):Prop:=0<=n/\n<=65535
def ff (y:eu) (pc:Int):Option dF:=if 0<=pc then y.code[pc.toNat]? else none
def qc (i:Nat):Int->List uh->Prop
 | _,[]=>True
 | last,e::r=>last<=e.tick/\e.tick<s.tick/\jR c e.proc i/\qc i e.tick r
def tg (i:Nat) (x:cR):Prop:=
 (0<=x.ag/\(0<x.ag->x.ag<jz c i)/\(x.log.length:Int)<=c.log)/\qc c s i 0 x.log/\fF x.lost/\fF x.forbidden/\(0<x.lost->c.log<=x.log.length)/\
 (x.av.length:Int)=c.ak/\(x.ah.length:Int)=c.ak/\∀p∈x.av,p≠ -1->jR c p i/\qE s p λz=>z.state≠5/\z.state≠6
def lL (l:br):Prop:=l.values≠ []\/0<l.taken\/0<l.dropped
def mT (fl:Nat->Int->Prop) (x:ai) (y:eu):Prop:=
 (0<=x.state/\x.state<=6)/\(0<=x.pc/\x.pc<=y.code.length)/\x.ae.length=c.labels.length+1/\(0<=x.ag/\x.ag<x.ae.length)/\
 (0<=x.timer/\x.timer<=s.tick+1099511627776)/\(0<=x.cp/\x.cp<=s.tick+1099511627776)/\(0<x.cp↔x.state=4)/\
 (x.state=5\/x.state=6->x.timer=0/\x.bK=false)/\
 (∀(i:Nat) l,x.ae[i]? =some l->(l.values.length:Int)<=c.lane/\fF l.taken/\fF l.dropped/\(lL l->i<c.labels.length->fl i y.part))/\
 (x.state=1->(∃n,ff y x.pc=some n/\n.op=25)/\(∀l∈x.ae,l.values=[])/\x.bK=false)/\
 (x.state=2->∃n,ff y x.pc=some n/\n.op=24)/\(x.state=3->∃n,ff y x.pc=some n/\n.op=29)/\(x.state=4->∃n,ff y x.pc=some n/\n.op=28)
def xX (p:Int) (q:ai->dF->Prop):Prop:=∃x y n,s.procs[p.toNat]? =some x/\c.procs[p.toNat]? =some y/\ff y x.pc=some n/\q x n
def rP (p v:Int) (r:Nat):Prop:=xX c s p λx n=>x.state=2/\n.op=24/\x.aO[n.b.toNat]? =some (r:Int)/\x.aO[n.c.toNat]? =some v
def gJ (p:Int) (x:cR):Nat:=(x.ah.map λq=>q.countP (λz=>decide (z=p))).sum
def jo (p:Int) (l:br):Nat:=l.waiters.countP λw=>decide (w.proc=p)
def j9 (p:Int) (x:ai):Nat:=(x.ae.map (jo p)).sum
def sc :Prop:=
 (∀(i:Nat) x,s.parts[i]? =some x->∀(k:Nat) q,x.ah[k]? =some q->∀p∈q,jR c p i/\(xX c s p λz n=>z.state=3/\n.kf=(k:Int))/\∃o,x.av[k]? =some o/\0<=o/\o≠p)/\
 (∀(r:Nat) x y,s.procs[r]? =some x->c.procs[r]? =some y->∀(i:Nat) l,x.ae[i]? =some l->∀w∈l.waiters,(i:Int)=y.part/\jR c w.proc i/\(x.state≠5/\x.state≠6)/\(l.values.length:Int)=c.lane/\rP c s w.proc w.value r)/\
 (∀(p:Nat) x,s.procs[p]? =some x->(s.parts.map (gJ (p:Int))).sum+(s.procs.map (j9 (p:Int))).sum=if x.state=3\/x.state=2 then 1 else 0)
def Ao :Prop:=(0<=s.tick/\s.tick<=4611686018427387904)/\s.parts.length=c.labels.length/\s.procs.length=c.procs.length
def qJ (fl:Nat->Int->Prop):Prop:=
 Ao c s/\(∀(i:Nat) x,s.parts[i]? =some x->tg c s i x)/\(∀(p:Nat) x y,s.procs[p]? =some x->c.procs[p]? =some y->mT c s fl x y)/\sc c s
def rn (p:Int) (i:Nat):Prop:=jR c p i/\qE s p λz=>z.state<5
def qM (i:Nat) (x:cR):Prop:=
 (0<=x.ag/\(0<x.ag->x.ag<jz c i))/\fF x.lost/\fF x.forbidden/\(0<x.lost->c.log<=x.log.length)/\
 (∀(k:Nat) e,x.log[k]? =some e->(0<=e.tick/\e.tick<=s.tick-1)/\(∀d,0<k->x.log[k-1]? =some d->d.tick<=e.tick)/\jR c e.proc i)/\
 (∀(k:Nat) o,x.av[k]? =some o->(o= -1\/rn c s o i)/\∀q,x.ah[k]? =some q->(o= -1->q=[])/\∀p∈q,rn c s p i/\(qE s p λz=>z.state=3)/\o≠p)
def qO (fl:Nat->Int->Prop) (x:ai) (y:eu):Prop:=
 (0<=x.state/\x.state<=6)/\(0<=x.pc/\x.pc<=y.code.length)/\(0<=x.ag/\x.ag<x.ae.length)/\
 (0<=x.timer/\x.timer<=s.tick+1099511627776)/\(0<=x.cp/\x.cp<=s.tick+1099511627776)/\(0<x.cp↔x.state=4)/\(5<=x.state->x.timer=0/\x.bK=false)/\
 (∀(k:Nat) l,x.ae[k]? =some l->fF l.taken/\fF l.dropped/\(k<c.labels.length->lL l->fl k y.part)/\(l.waiters≠ []->(k:Int)=y.part/\x.state<5/\c.lane<=l.values.length)/\
  ∀w∈l.waiters,(∀i:Nat,(i:Int)=y.part->rn c s w.proc i)/\qE s w.proc λz=>z.state=2)
def qR (p i:Nat) (x:ai) (y:eu):Prop:=
 (∀z,s.parts[i]? =some z->∀(k:Nat) q,z.ah[k]? =some q->(p:Int)∈q->∃n,ff y x.pc=some n/\n.op=29/\n.kf=(k:Int))/\
 (∀(r:Nat) z,s.procs[r]? =some z->∀l,z.ae[i]? =some l->∀w∈l.waiters,w.proc=(p:Int)->∃n,ff y x.pc=some n/\n.op=24/\x.aO[n.b.toNat]? =some (r:Int)/\x.aO[n.c.toNat]? =some w.value)/\
 (∀z,s.parts[i]? =some z->gJ (p:Int) z=if x.state=3 then 1 else 0)/\((s.procs.map λz=>((z.ae[i]?).map (jo (p:Int))).getD 0).sum=if x.state=2 then 1 else 0)/\
 (x.state=1->(∃n,ff y x.pc=some n/\n.op=25)/\(∀l∈x.ae,l.values=[])/\x.bK=false)/\(x.state=4->∃n,ff y x.pc=some n/\n.op=28)
def xn :Prop:=Ao c s/\(∀x∈s.parts,(x.av.length:Int)=c.ak/\(x.ah.length:Int)=c.ak/\(x.log.length:Int)<=c.log)/\
 ∀x∈s.procs,x.ae.length=c.labels.length+1/\∀l∈x.ae,(l.values.length:Int)<=c.lane
def ui (fl:Nat->Int->Prop):Prop:=
 xn c s/\(∀(i:Nat) x,s.parts[i]? =some x->qM c s i x)/\(∀(p:Nat) x y,s.procs[p]? =some x->c.procs[p]? =some y->qO c s fl x y)/\
 ∀(p i:Nat) x y,s.procs[p]? =some x->c.procs[p]? =some y->y.part=(i:Int)->qR s p i x y
end
theorem Fl {b:Type} (f:b->Nat):∀(l:List b) (i:Nat),(∀j x,l[j]? =some x->j≠i->f x=0)->(l.map f).sum=((l[i]?).map f).getD 0
 | [],i,_=>by simp
 | x::r,0,h=>by
  have:(r.map f).sum=0:=by rw [List.sum_eq_zero_iff_forall_eq_nat];intro y d;obtain ⟨z,e,rfl⟩:=List.mem_map.1 d;obtain ⟨j,a⟩:=List.getElem?_of_mem e;exact h (j+1) z (by simpa using a) (by omega)
  simp [this]
 | x::r,i+1,h=>by have c:=h 0 x rfl (by omega);have:=Fl f r i λj y a g=>h (j+1) y (by simpa using a) (by omega);simp [c,this]
theorem NC {a:Type} (f:a->Nat) (l:List a) (h:∀x∈l,f x=0):(l.map f).sum=0:=by rw [List.sum_eq_zero_iff_forall_eq_nat];grind
theorem E1 {a:Type} (f:a->Nat):∀(l:List a),0<(l.map f).sum->∃x∈l,0<f x
 | [],h=>by simp at h
 | x::r,h=>by
  by_cases d:0<f x
  ·grind
  ·have b:0<(r.map f).sum:=by simp at h;omega
   obtain ⟨y,e,c⟩:=E1 f r b;grind
end Lf
namespace Lf
open Go
def dd {a:Type} (f:Nat->a) (i:Nat) (x:a):Nat->a:=λj=>if j=i then x else f j
theorem lS {a:Type} {f:Nat->a} {i:Nat} {x:a}:dd f i x i=x:=if_pos rfl
theorem lz {a:Type} {f:Nat->a} {i j:Nat} {x:a} (h:j≠i):dd f i x j=f j:=if_neg h
theorem Uq {a b:Type} (g:a->b) {f:Nat->a} {i:Nat} {x:a}:(λj=>g (dd f i x j))=dd (λj=>g (f j)) i (g x):=by funext j;unfold dd;split<;>rfl
theorem zN {a:Type} {f:Nat->a} {i:Nat}:dd f i (f i)=f:=by
 funext j;unfold dd;split
 ·rename_i h;rw [h]
 ·rfl
theorem M6 {a:Type} {f:Nat->a} {i:Nat} {x y:a}:dd (dd f i x) i y=dd f i y:=by funext j;unfold dd;split<;>rfl
structure MS where
 tick:Int
 part:Nat->cR
 proc:Nat->ai
def MS.bw (s:MS) (p:Nat) (x:ai):MS:=⟨s.tick,s.part,dd s.proc p x⟩
def MS.eS (s:MS) (i:Nat) (x:cR):MS:=⟨s.tick,dd s.part i x,s.proc⟩
def aH (c:bd) (p:Nat):Nat:=((c.procs[p]?).map λy=>y.part.toNat).getD 0
def jX (c:bd) (p:Nat):List dF:=((c.procs[p]?).map λy=>y.code).getD []
def nP (c:bd):Nat:=c.labels.length
def nQ (c:bd):Nat:=c.procs.length
def MS.list (c:bd) (s:MS):fe:=⟨s.tick,(List.range (nP c)).map s.part,(List.range (nQ c)).map s.proc⟩
def ik (l:List dF) (pc:Int):Option dF:=if 0<=pc then l[pc.toNat]? else none
def jS (r:List Int) (i v:Int):List Int:=if 0<=i/\i<8 then r.set i.toNat v else r
def fy (r:List Int) (i:Int):Int:=r.getD i.toNat 0
structure Core where
 pc:Int
 aO:List Int
def ai.core (x:ai):Core:=⟨x.pc,x.aO⟩
def ai.put (x:ai) (k:Core):ai:={x with pc:=k.pc,aO:=k.aO}
def fL (k:Core):Core:=⟨k.pc+1,k.aO⟩
def kI (l:List dF) (k:Core) (v:Int):Core:=match ik l k.pc with
 | some n=>⟨k.pc+1,jS k.aO n.a v⟩
 | none=>fL k
def gQ (l:List dF) (k:Core) (v from_:Int):Core:=match ik l k.pc with
 | some n=>⟨k.pc+1,jS (jS k.aO n.a v) n.b from_⟩
 | none=>fL k
structure Want where
 kind:Int
 to:Int
 value:Int
def ln (x:dF) (r:List Int):Option (Want×Bool):=
 if x.op=0 then some (⟨1,0,0⟩,true)
 else if x.op=24 then some (⟨2,fy r x.b,fy r x.c⟩,true)
 else if x.op=25 then some (⟨3,0,0⟩,true)
 else if x.op=26 then some (⟨4,0,0⟩,true)
 else if x.op=27 then some (⟨5,0,fy r x.a⟩,false)
 else if x.op=28 then some (⟨6,0,fy r x.a⟩,true)
 else if x.op=29 then some (⟨7,x.kf,0⟩,true)
 else if x.op=30 then some (⟨8,x.kf,0⟩,false)
 else if x.op=31 then some (⟨9,0,fy r x.a⟩,false)
 else none
def sQ (D:Int->Int->Int->Int) (x:dF) (k:Core) (tick d:Int):Core:=
 if x.op=1 then ⟨k.pc+1,jS k.aO x.a x.kf⟩
 else if x.op=2 then ⟨k.pc+1,jS k.aO x.a (fy k.aO x.b)⟩
 else if x.op=32 then ⟨k.pc+1,jS k.aO x.a tick⟩
 else if x.op=33 then ⟨k.pc+1,jS k.aO x.a d⟩
 else if x.op=22 then ⟨x.kf,k.aO⟩
 else if x.op=23 then if fy k.aO x.a=0 then fL k else ⟨x.kf,k.aO⟩
 else ⟨k.pc+1,jS k.aO x.a (D x.op (fy k.aO x.b) (fy k.aO x.c))⟩
def j7 (D:Int->Int->Int->Int) (l:List dF) (k:Core) (tick self:Int):Core×Want:=match ik l k.pc with
 | none=>(k,⟨1,0,0⟩)
 | some x=>if (j8 x l.length 8).1≠0 then (k,⟨1,0,0⟩) else match ln x k.aO with
  | some (w,a)=>(if a then k else fL k,w)
  | none=>(sQ D x k tick self,⟨0,0,0⟩)
section
variable (c:bd) (D:Int->Int->Int->Int) (fl:Nat->Nat->Bool)
def more (n:Int):Int:=if n+1<=65535 then n+1 else 65535
def kO (x:ai):Bool:=decide (x.state≠5)&&decide (x.state≠6)
def vO (x:ai) (k:Core):ai:={x with state:=0,pc:=k.pc,aO:=k.aO}
def pT (s:MS) (p:Nat):MS:=s.bw p (vO (s.proc p) (fL (s.proc p).core))
def jY (s:MS) (kS:Int):MS:=if 0<=kS then pT s kS.toNat else s
def da (s:MS) (p:Nat) (v:Int):MS:=s.bw p (vO (s.proc p) (kI (jX c p) (s.proc p).core v))
def eT (x:ai):ai:={x with state:=if x.state=1 then 0 else x.state}
def bY (x:ai) (i:Nat) (f:br->br):ai:={x with ae:=x.ae.modify i f}
def vQ (v:Int) (l:br):br:={l with values:=l.values++ [v]}
def mq (l:br):br:={l with dropped:=more l.dropped}
def iM (p v:Int) (l:br):br:={l with waiters:=l.waiters++ [⟨p,v⟩]}
def gB (x:ai) (i:Nat):Bool:=match x.ae[i]? with
 | some l=>decide (c.lane<=(l.values.length:Int))
 | none=>true
def my (s:MS) (p:Nat) (to v:Int):MS:=
 if to<0\/(nQ c:Int)<=to then da c s p 1
 else if fl (aH c p) (aH c to.toNat)=false then da c (s.eS (aH c p) {s.part (aH c p) with forbidden:=more (s.part (aH c p)).forbidden}) p 0
 else if aH c p=aH c to.toNat then
  if kO (s.proc to.toNat)=false then da c s p 2
  else if gB c (s.proc to.toNat) (aH c p) then
   let s1:=s.bw to.toNat (bY (s.proc to.toNat) (aH c p) (iM p v))
   s1.bw p {s1.proc p with state:=2}
  else da c (s.bw to.toNat (eT (bY (s.proc to.toNat) (aH c p) (vQ v)))) p 0
 else if kO (s.proc to.toNat)=false\/gB c (s.proc to.toNat) (aH c p) then da c (s.bw to.toNat (bY (s.proc to.toNat) (aH c p) mq)) p 0
 else da c (s.bw to.toNat (eT (bY (s.proc to.toNat) (aH c p) (vQ v)))) p 0
def py (ag:Int) (l:List br):Option Nat:=
 ((List.range l.length).map λk=>(ag.toNat+k)%l.length).find? λi=>match l[i]? with
  | some x=> !x.values.isEmpty
  | none=>false
def dQ (l:br):br:=match l.waiters with
 | []=>{l with values:=l.values.tail,taken:=more l.taken}
 | w::r=>{l with values:=l.values.tail++ [w.value],waiters:=r,taken:=more l.taken}
def lj (s:MS) (p:Nat) (a:Bool):MS:=
 let x:=s.proc p
 match py x.ag x.ae with
 | some i=>
  let l:=x.ae.getD i ⟨[],[],0,0⟩;let b:={bY x i dQ with ag:=((i+1:Nat):Int)%(x.ae.length:Int)};let s1:=s.bw p (b.put (gQ (jX c p) x.core (l.values.headD 0) i))
  match l.waiters with
  | []=>s1
  | w::_=>da c s1 w.proc.toNat 0
 | none=>
  if x.bK then s.bw p {x.put (gQ (jX c p) x.core 0 (-2)) with bK:=false}
  else if a then s.bw p (x.put (gQ (jX c p) x.core 0 (-1)))
  else s.bw p {x with state:=1}
def iD {b:Type} (f:b->Bool):List b->List b
 | []=> []
 | a::l=>if f a then l else a::iD f l
def sd (p:Int) (x:ai):ai:={x with ae:=x.ae.map λl=>{l with waiters:=iD (λw=>decide (w.proc=p)) l.waiters}}
def jH (p:Int):List Int->List (List Int)->List Int×List (List Int)×List Int
 | o::os,q::qs=>
  let r:=jH p os qs
  if o=p then match q with
   | []=>(-1::r.1,[]::r.2.1, -1::r.2.2)
   | a::b=>(a::r.1,b::r.2.1,a::r.2.2)
  else (o::r.1,q::r.2.1,r.2.2)
 | os,qs=>(os,qs,[])
def zO (p:Int) (x:cR):cR×List Int:=
 let r:=jH p x.av (x.ah.map (iD λz=>decide (z=p)))
 ({x with av:=r.1,ah:=r.2.1},r.2.2)
def oY (s:MS) (p:Nat) (st:Int):MS:=
 let i:=aH c p;let s1:=s.bw p {s.proc p with state:=st,bK:=false};let s2:MS:=⟨s1.tick,s1.part,λq=>if q<nQ c/\aH c q=i then sd p (s1.proc q) else s1.proc q⟩;let r:=zO p (s2.part i);let b:=r.2.foldl jY (s2.eS i r.1);let a:=b.bw p {b.proc p with timer:=0,cp:=0};let d:=(a.proc p).ae.flatMap (·.waiters)
 d.foldl (λs w=>da c s w.proc.toNat 2) (a.bw p {a.proc p with ae:=(a.proc p).ae.map λl=>{l with waiters:=[]}})
def uy (s:MS) (p:Nat) (v:Int):MS:=
 let x:=s.part (aH c p)
 s.eS (aH c p) (if (x.log.length:Int)<c.log then {x with log:=x.log++ [⟨s.tick,p,v⟩]} else {x with lost:=more x.lost})
def kE (s:MS) (p:Nat) (n:Int):MS:=
 let x:=s.part (aH c p);let o:=x.av.getD n.toNat 0
 if o= -1\/o=p then goK (s.eS (aH c p) {x with av:=x.av.set n.toNat p}) p
 else (s.eS (aH c p) {x with ah:=x.ah.modify n.toNat (· ++ [(p:Int)])}).bw p {s.proc p with state:=3}
where
 goK (s:MS) (p:Nat):MS:=s.bw p ((s.proc p).put (fL (s.proc p).core))
def Ap (s:MS) (p:Nat) (n:Int):MS:=
 let x:=s.part (aH c p)
 if x.av.getD n.toNat (-1)=p then match x.ah.getD n.toNat [] with
  | []=>s.eS (aH c p) {x with av:=x.av.set n.toNat (-1)}
  | a::r=>jY (s.eS (aH c p) {x with av:=x.av.set n.toNat a,ah:=x.ah.set n.toNat r}) a
 else s
def qv (a b:Int):Int:=if a<=b then a else b
def vX (a b:Int):Int:=if a<=b then b else a
def ya (s:MS) (p:Nat):MS:=
 let r:=j7 D (jX c p) (s.proc p).core s.tick p;let s1:=s.bw p ((s.proc p).put r.1);let w:=r.2
 if w.kind=1 then oY c s1 p 5
 else if w.kind=2 then my c fl s1 p w.to w.value
 else if w.kind=3 then lj c s1 p false
 else if w.kind=4 then lj c s1 p true
 else if w.kind=5 then s1.bw p {s1.proc p with bK:=false,timer:=if 0<w.value then s.tick+qv w.value 1099511627776 else 0}
 else if w.kind=6 then s1.bw p {s1.proc p with state:=4,cp:=s.tick+qv (vX w.value 1) 1099511627776}
 else if w.kind=7 then kE c s1 p w.to
 else if w.kind=8 then Ap c s1 p w.to
 else if w.kind=9 then uy c s1 p w.value
 else s1
def nf (t:Int) (x:ai):ai:=
 let y:ai:=if 0<x.cp/\x.cp<=t then {x with cp:=0,state:=0,pc:=x.pc+1} else x
 if 0<y.timer/\y.timer<=t then {y with timer:=0,bK:=true,state:=if y.state=1 then 0 else y.state} else y
def jN (s:MS) (i:Nat):MS:=⟨s.tick,s.part,λq=>if q<nQ c/\aH c q=i then nf s.tick (s.proc q) else s.proc q⟩
def eC (i:Nat):List Nat:=(List.range (nQ c)).filter λq=>decide (aH c q=i)
def j6 (s:MS) (i:Nat):Option Nat:=
 ((List.range (eC c i).length).map λk=>((s.part i).ag.toNat+k)%(eC c i).length).find? λa=>decide ((s.proc ((eC c i).getD a 0)).state=0)
def mD (s:MS) (i a:Nat):MS:=ya c D fl (s.eS i {s.part i with ag:=((a+1:Nat):Int)%((eC c i).length:Int)}) ((eC c i).getD a 0)
def oy (i:Nat):Nat->MS->MS
 | 0,s=>s
 | n+1,s=>match j6 c s i with
  | none=>s
  | some a=>oy i n (mD c D fl s i a)
def nt (t:Int):Nat:=(c.table.getD (t.toNat%c.table.length) 0).toNat
def mC (s:MS):MS:=
 let s1:=oy c D fl (nt c s.tick) c.fuel.toNat (jN c s (nt c s.tick))
 ⟨s1.tick+1,s1.part,s1.proc⟩
def uW (s:MS) (p:Int):Int:=if p<0\/(nQ c:Int)<=p then 17 else if kO (s.proc p.toNat)=false then 18 else 0
def ve (s:MS) (p v:Int):MS×Int:=
 if uW c s p≠0 then (s,uW c s p)
 else if gB c (s.proc p.toNat) (nP c) then (s.bw p.toNat (bY (s.proc p.toNat) (nP c) mq),19)
 else (s.bw p.toNat (eT (bY (s.proc p.toNat) (nP c) (vQ v))),0)
def kC (s:MS) (p:Int):MS×Int:=
 if uW c s p≠0 then (s,uW c s p) else (oY c s p.toNat 6,0)
def xA :MS:=⟨0,λ_=>⟨0,[],0,0,List.replicate c.ak.toNat (-1),List.replicate c.ak.toNat []⟩,
 λ_=>⟨0,0,List.replicate 8 0,0,0,false,0,List.replicate (nP c+1) ⟨[],[],0,0⟩⟩⟩
end
section
variable (c:bd) (fl:Nat->Nat->Bool)
def dP (p:Nat) (x:ai):Option dF:=ik (jX c p) x.pc
def PN (T:Int) (i:Nat) (l:List uh):Prop:=
 l.Pairwise (λa b=>a.tick<=b.tick)/\∀e∈l,0<=e.tick/\e.tick<T/\0<=e.proc/\e.proc.toNat<nQ c/\aH c e.proc.toNat=i
structure vw (T:Int) (i:Nat) (x:cR):Prop where
 cur:0<=x.ag/\(0<x.ag->x.ag<(eC c i).length)
 kg:(x.log.length:Int)<=c.log
 log:PN c T i x.log
 lost:fF x.lost
 lM:fF x.forbidden
 full:0<x.lost->c.log<=x.log.length
 im:(x.av.length:Int)=c.ak
 iP:(x.ah.length:Int)=c.ak
structure de (t:Int) (p:Nat) (z:Prop) (x:ai):Prop where
 st:0<=x.state/\x.state<=6
 pc:0<=x.pc/\x.pc<=(jX c p).length
 mG:x.ae.length=nP c+1
 cur:0<=x.ag/\x.ag<x.ae.length
 np:0<=x.timer/\x.timer<=t+1099511627776
 nq:0<=x.cp/\x.cp<=t+1099511627776
 nX:z\/(0<x.cp↔x.state=4)
 dead:x.state=5\/x.state=6->(z\/x.timer=0)/\x.bK=false
 dY:∀(i:Nat) l,x.ae[i]? =some l->(l.values.length:Int)<=c.lane/\fF l.taken/\fF l.dropped/\(lL l->i<nP c->fl i (aH c p)=true)
 recv:x.state=1->(∃n,dP c p x=some n/\n.op=25)/\(∀l∈x.ae,l.values=[])/\x.bK=false
 snd:x.state=2->∃n,dP c p x=some n/\n.op=24
 qo:x.state=3->∃n,dP c p x=some n/\n.op=29
 jE:x.state=4->∃n,dP c p x=some n/\n.op=28
 aO:x.aO.length=8
variable (s:MS) (X Z:Nat->Prop)
def qe (i k:Nat) (z:Int):Prop:=
 0<=z/\z.toNat<nQ c/\aH c z.toNat=i/\¬X z.toNat/\(Z z.toNat\/((s.proc z.toNat).state=3/\∃n,dP c z.toNat (s.proc z.toNat)=some n/\n.op=29/\n.kf=(k:Int)))
def nc (i r:Nat) (w:ly):Prop:=
 0<=w.proc/\w.proc.toNat<nQ c/\aH c w.proc.toNat=i/\¬X w.proc.toNat/\
  (Z w.proc.toNat\/((s.proc w.proc.toNat).state=2/\∃n,dP c w.proc.toNat (s.proc w.proc.toNat)=some n/\n.op=24/\fy (s.proc w.proc.toNat).aO n.b=(r:Int)/\fy (s.proc w.proc.toNat).aO n.c=w.value))
structure Good (T:Int):Prop where
 tick:0<=s.tick
 part:∀i,i<nP c->vw c T i (s.part i)
 proc:∀p,p<nQ c->de c fl s.tick p (Z p) (s.proc p)
 own:∀i,i<nP c->∀(k:Nat) o,(s.part i).av[k]? =some o->o= -1\/(0<=o/\o.toNat<nQ c/\aH c o.toNat=i/\(kO (s.proc o.toNat)=true\/Z o.toNat))
 jT:∀i,i<nP c->∀(k:Nat) q,(s.part i).ah[k]? =some q->q.Nodup/\(∀z∈q,qe c s X Z i k z)/\(q≠ []->∃o,(s.part i).av[k]? =some o/\o≠ -1/\o∉q)
 dY:∀r,r<nQ c->∀(i:Nat) l,(s.proc r).ae[i]? =some l->(l.waiters.map (·.proc)).Nodup/\(l.waiters≠ []->i=aH c r/\(kO (s.proc r)=true\/Z r)/\(l.values.length:Int)=c.lane)/\∀w∈l.waiters,nc c s X Z i r w
 sB:∀p,p<nQ c->¬X p->(s.proc p).state=3->∃(k:Nat) (q:List Int),(s.part (aH c p)).ah[k]? =some q/\(p:Int)∈q
 sA:∀p,p<nQ c->¬X p->(s.proc p).state=2->∃r,r<nQ c/\∃l,(s.proc r).ae[aH c p]? =some l/\∃w∈l.waiters,w.proc=(p:Int)
end
structure cP (c:bd):Prop where
 parts:1<=nP c/\nP c<=8
 table:c.table≠ []/\c.table.length<=64/\∀i∈c.table,0<=i/\i<(nP c:Int)
 fuel:1<=c.fuel/\c.fuel<=256
 lane:1<=c.lane/\c.lane<=64
 ak:0<=c.ak/\c.ak<=8
 log:0<=c.log/\c.log<=4096
 procs:1<=nQ c/\nQ c<=32
 part:∀y∈c.procs,0<=y.part/\y.part<(nP c:Int)
 code:∀y∈c.procs,y.code.length<=256/\∀x∈y.code,(j8 x y.code.length c.ak).1=0
section
variable {c:bd} {fl:Nat->Nat->Bool} {s:MS} {X Z:Nat->Prop} {T:Int}
theorem cP.fo (m:cP c) {p:Nat}:aH c p<nP c:=by
 unfold aH;cases h:c.procs[p]? with
 | none=>simp;have:=m.parts;omega
 | some y=>have:=m.part y (List.mem_of_getElem? h);simp;omega
theorem cP.qT (m:cP c) {p:Nat}:(jX c p).length<=256:=by
 unfold jX;cases h:c.procs[p]? with
 | none=>simp
 | some y=>exact (m.code y (List.mem_of_getElem? h)).1
theorem cP.ins (m:cP c) {p:Nat} {x:ai} {n:dF} (h:dP c p x=some n):(j8 n (jX c p).length c.ak).1=0/\0<=x.pc/\x.pc<(jX c p).length:=by
 unfold dP ik at h;split at h
 ·rename_i b;have a:=List.mem_of_getElem? h;have d:=(List.getElem?_eq_some_iff.1 h).1;refine ⟨?_,b,by omega⟩;unfold jX at a ⊢;cases e:c.procs[p]? with
  | none=>grind
  | some y=>rw [e] at a;exact (m.code y (List.mem_of_getElem? e)).2 n a
 ·cases h
theorem dp {x:ai}:kO x=true↔x.state≠5/\x.state≠6:=by unfold kO;simp
theorem Wq {p:Prop} [Decidable p] {e:Int} {i:Int} {r:Int×Int} (a:e≠0) (h:(if p then (e,i) else r).1=0):¬p/\r.1=0:=by grind
theorem Ws {has:Bool} {v:Int} {i:Int} {r:Int×Int} (h:(if fg has v≠0 then (fg has v,i) else r).1=0):fg has v=0/\r.1=0:=by grind
theorem E2 {v:Int} (h:fg true v=0):0<=v/\v<8:=by unfold fg at h;omega
theorem yU {n:dF} {k l:Int} (h:(j8 n k l).1=0):(0<=n.op/\n.op<34)/\fg (jh n.op).1 n.a=0/\fg (jh n.op).2.1 n.b=0/\fg (jh n.op).2.2.1 n.c=0/\
  ((n.op=22\/n.op=23)->0<=n.kf/\n.kf<=k)/\((n.op=29\/n.op=30)->0<=n.kf/\n.kf<l):=by
 unfold j8 at h;obtain ⟨d,h⟩:=Wq (by decide) h;obtain ⟨e,h⟩:=Ws h;grind
theorem yD {n:dF} {k l:Int} (h:(j8 n k l).1=0) (a:n.op=29\/n.op=30):0<=n.kf/\n.kf<l:=(yU h).2.2.2.2.2 a
theorem Qt {n:dF} {k l:Int} (h:(j8 n k l).1=0) (g:n.op=24):(0<=n.a/\n.a<8)/\(0<=n.b/\n.b<8)/\(0<=n.c/\n.c<8):=by obtain ⟨_,d,e,f,_⟩:=yU h;rw [g] at d e f;exact ⟨E2 d,E2 e,E2 f⟩
end
section
variable {c:bd} {fl:Nat->Nat->Bool} {s:MS} {X Z:Nat->Prop} {T:Int} {p:Nat} {x':ai}
theorem fV {s:MS} {p:Nat} {x:ai}:(s.bw p x).proc p=x:=lS
theorem iN {s:MS} {p q:Nat} {x:ai} (h:q≠p):(s.bw p x).proc q=s.proc q:=lz h
theorem Ba {s:MS} {p:Nat} {x y:ai}:(s.bw p x).bw p y=s.bw p y:=by unfold MS.bw;rw [M6]
theorem uc {s:MS} {i:Nat} {x:cR}:(s.eS i x).part i=x:=lS
theorem uT {s:MS} {i j:Nat} {x:cR} (h:j≠i):(s.eS i x).part j=s.part j:=lz h
def Out (s:MS) (X Z:Nat->Prop) (p:Nat):Prop:=¬Z p/\(X p\/((s.proc p).state≠2/\(s.proc p).state≠3))
theorem qe.out {i k:Nat} {z:Int} (h:qe c s X Z i k z) (o:Out s X Z p):z.toNat≠p:=λe=>by
 subst e;obtain ⟨_,_,_,a,h2⟩:=h;rcases o.2 with o2 | o2
 ·exact a o2
 ·rcases h2 with h2 | h2
  ·exact o.1 h2
  ·exact o2.2 h2.1
theorem nc.out {i r:Nat} {w:ly} (h:nc c s X Z i r w) (o:Out s X Z p):w.proc.toNat≠p:=λe=>by
 subst e;obtain ⟨_,_,_,a,h2⟩:=h;rcases o.2 with o2 | o2
 ·exact a o2
 ·rcases h2 with h2 | h2
  ·exact o.1 h2
  ·exact o2.1 h2.1
theorem qe.cT {b:MS} {a:Nat->Prop} {i k:Nat} {z:Int} (h:qe c s X Z i k z) (m:a z.toNat->X z.toNat) (e:b.proc z.toNat=s.proc z.toNat):qe c b a Z i k z:=by obtain ⟨d,f,g,j,l⟩:=h;exact ⟨d,f,g,λh=>j (m h),by rw [e];exact l⟩
theorem nc.cT {b:MS} {a:Nat->Prop} {i r:Nat} {w:ly} (h:nc c s X Z i r w) (l:a w.proc.toNat->X w.proc.toNat) (e:b.proc w.proc.toNat=s.proc w.proc.toNat):nc c b a Z i r w:=by obtain ⟨d,f,g,j,k⟩:=h;exact ⟨d,f,g,λh=>j (l h),by rw [e];exact k⟩
theorem Good.run (g:Good c fl s X Z T) (o:Out s X Z p) (pm:de c fl s.tick p (Z p) x') (A:x'.state≠2/\x'.state≠3) (v:x'.ae=(s.proc p).ae) (hv:kO (s.proc p)=true->kO x'=true):
  Good c fl (s.bw p x') (λq=>X q/\q≠p) Z T where
 tick:=g.tick
 part:=g.part
 proc q hq:=by
  by_cases e:q=p
  ·subst e;rw [fV];exact pm
  ·rw [iN e];exact g.proc q hq
 own i hi k ow h:=by
  rcases g.own i hi k ow h with h | ⟨n,f,j,t⟩
  ·exact .inl h
  ·refine .inr ⟨n,f,j,t.imp (λt=> ?_) id⟩;by_cases e:ow.toNat=p
   ·rw [e,fV];grind
   ·rw [iN e];exact t
 jT i hi k q h:=by obtain ⟨n,f,j⟩:=g.jT i hi k q h;exact ⟨n,λz y=>(f z y).cT (λh=>h.1) (iN ((f z y).out o)),j⟩
 dY r u i l h:=by
  have e:((s.bw p x').proc r).ae=(s.proc r).ae:=by
   by_cases e:r=p
   ·subst e;rw [fV];exact v
   ·rw [iN e]
  rw [e] at h;obtain ⟨n,f,j⟩:=g.dY r u i l h;refine ⟨n,λm=> ?_,λw m=>(j w m).cT (λh=>h.1) (iN ((j w m).out o))⟩;obtain ⟨a,b,d⟩:=f m;refine ⟨a,b.imp (λb=> ?_) id,d⟩;by_cases e:r=p
  ·subst e;rw [fV];exact hv b
  ·rw [iN e];exact b
 sB q hq hx j:=by
  by_cases e:q=p
  ·subst e;rw [fV] at j;omega
  ·rw [iN e] at j;exact g.sB q hq (λh=>hx ⟨h,e⟩) j
 sA q hq hx f:=by
  by_cases e:q=p
  ·subst e;rw [fV] at f;omega
  ·rw [iN e] at f;obtain ⟨r,u,l,x,m⟩:=g.sA q hq (λh=>hx ⟨h,e⟩) f;refine ⟨r,u,l,?_,m⟩;by_cases e:r=p
   ·subst e;rw [fV,v];exact x
   ·rw [iN e];exact x
theorem Good.ae {X':Nat->Prop} (g:Good c fl s X Z T) (pm:de c fl s.tick p (Z p) x') (c0:x'.state=(s.proc p).state\/((s.proc p).state=1/\x'.state=0)) (b8:x'.pc=(s.proc p).pc) (hr:x'.aO=(s.proc p).aO)
  (Y:x'.ae.length=(s.proc p).ae.length) (P:∀(i:Nat) l o,(s.proc p).ae[i]? =some l->x'.ae[i]? =some o->o.waiters.Sublist l.waiters/\(o.waiters≠ []->(o.values.length:Int)=c.lane)/\∀w∈l.waiters,w∈o.waiters\/X' w.proc.toNat)
  (hp:p<nQ c) (R:∀q,X q->X' q) (J:∀q,X' q->X q\/(¬Z q/\∃(i:Nat) (l o:br) (w:ly),(s.proc p).ae[i]? =some l/\x'.ae[i]? =some o/\w∈l.waiters/\w.proc∉o.waiters.map (·.proc)/\w.proc=(q:Int))):
  Good c fl (s.bw p x') X' Z T:=by
 have H:∀q,((s.bw p x').proc q).pc=(s.proc q).pc/\((s.bw p x').proc q).aO=(s.proc q).aO/\(((s.bw p x').proc q).state=(s.proc q).state\/((s.proc q).state=1/\((s.bw p x').proc q).state=0)):=λq=>by
  by_cases e:q=p
  ·subst e;rw [fV];grind
  ·rw [iN e];simp
 have a8:∀q,kO (s.proc q)=true->kO ((s.bw p x').proc q)=true:=λq h=>by rw [dp] at h ⊢;grind
 have c1:∀q n,n=2\/n=3->(s.proc q).state=n->((s.bw p x').proc q).state=n:=λq n hn h=>by grind
 have b6:∀q,dP c q ((s.bw p x').proc q)=dP c q (s.proc q):=λq=>by unfold dP;rw [(H q).1]
 have b0:∀ {i k z},qe c s X Z i k z->¬X' z.toNat:=λ{i k z} h m=>by
  obtain ⟨t,d,f,A,E⟩:=h;rcases J _ m with B | ⟨D,j,l,o,w,y,M,v,N,O⟩
  ·exact A B
  ·obtain ⟨_,_,K⟩:=g.dY p hp j l y;obtain ⟨_,_,_,_,b4⟩:=K w v;grind
 have b7:∀ {i r w},r≠p->nc c s X Z i r w->¬X' w.proc.toNat:=λ{i r w} b9 h m=>by
  obtain ⟨t,d,f,A,E⟩:=h;rcases J _ m with B | ⟨D,j,l,o,L,y,M,v,N,O⟩
  ·exact A B
  ·obtain ⟨_,_,K⟩:=g.dY p hp j l y;obtain ⟨_,_,_,_,b4⟩:=K L v;grind
 have W:∀ {i r w},nc c s X Z i r w->¬X' w.proc.toNat->nc c (s.bw p x') X' Z i r w:=λ{i r w} h m=>by obtain ⟨t,d,f,A,E⟩:=h;refine ⟨t,d,f,m,E.imp id λE=> ?_⟩;grind
 refine ⟨g.tick,g.part,λq u=> ?_,λi hi k ow h=> ?_,λi hi k q h=> ?_,λr x i l h=> ?_,λq u m f=> ?_,λq u m d=> ?_⟩
 ·by_cases e:q=p
  ·subst e;rw [fV];exact pm
  ·rw [iN e];exact g.proc q u
 ·rcases g.own i hi k ow h with h | ⟨t,d,f,A⟩
  ·exact .inl h
  grind
 ·obtain ⟨t,d,f⟩:=g.jT i hi k q h;refine ⟨t,λz D=> ?_,f⟩;have u:=b0 (d z D);obtain ⟨a1,a2,a3,a4,a5⟩:=d z D;refine ⟨a1,a2,a3,u,a5.imp id λa5=> ?_⟩;grind
 ·by_cases e:r=p
  ·subst e;rw [fV] at h ⊢;have hi:i<(s.proc r).ae.length:=by grind
   have F:(s.proc r).ae[i]? =some ((s.proc r).ae[i]):=List.getElem?_eq_getElem hi;generalize (s.proc r).ae[i]=S at F;obtain ⟨t,d,f⟩:=g.dY r x i S F;obtain ⟨U,w2,w3⟩:=P i S l F h;refine ⟨t.sublist (U.map _),λa9=> ?_,λw I=> ?_⟩
   ·obtain ⟨a,b,_⟩:=d λe=>by grind
    refine ⟨a,b.imp (λb=> ?_) id,w2 a9⟩;have:=a8 r b;rw [fV] at this;exact this
   ·have C:=U.subset I;refine W (f w C) λm=> ?_;rcases J _ m with B | ⟨D,j,l1,o,L,y,M,v,N,O⟩
    ·exact (f w C).2.2.2.1 B
    · -- the same lane
     obtain ⟨b1,V,b3⟩:=g.dY r x j l1 y;have hj:j=aH c r:=(V λe=>by rw [e] at v;cases v).1;have b5:i=aH c r:=(d λe=>by rw [e] at C;cases C).1;have e7:L.proc=w.proc:=by have:=(f w C).1;omega
     grind
  ·rw [iN e] at h ⊢;obtain ⟨t,d,f⟩:=g.dY r x i l h;grind
 ·have:=(H q).2.2;exact g.sB q u (λh=>m (R q h)) (by omega)
 ·have:=(H q).2.2;obtain ⟨r,x,l,G,w,I,Q⟩:=g.sA q u (λh=>m (R q h)) (by omega);by_cases e:r=p
  ·subst e;have hi:aH c q<x'.ae.length:=by rw [Y];exact (List.getElem?_eq_some_iff.1 G).1
   obtain ⟨_,_,w3⟩:=P _ l _ G (List.getElem?_eq_getElem hi);refine ⟨r,x,x'.ae[aH c q],by rw [fV];exact List.getElem?_eq_getElem hi,w,?_,Q⟩;grind
  ·exact ⟨r,x,l,by rw [iN e];exact G,w,I,Q⟩
theorem Good.parts {i:Nat} {y:cR} (g:Good c fl s X Z T) (pm:vw c T i y) (d:y.av=(s.part i).av) (l:y.ah=(s.part i).ah):Good c fl (s.eS i y) X Z T:=by
 have f:∀j,((s.eS i y).part j).av=(s.part j).av:=λj=>by
  by_cases e:j=i
  ·subst e;rw [uc,d]
  ·rw [uT e]
 have m:∀j,((s.eS i y).part j).ah=(s.part j).ah:=λj=>by
  by_cases e:j=i
  ·subst e;rw [uc,l]
  ·rw [uT e]
 refine ⟨g.tick,λj a=> ?_,g.proc,λj a k o h=>g.own j a k o (by grind),λj a k q h=> ?_,g.dY,λq n r b=> ?_,g.sA⟩
 ·by_cases e:j=i
  ·subst e;rw [uc];exact pm
  ·rw [uT e];exact g.part j a
 ·rw [f];exact g.jT j a k q (by grind)
 ·rw [m];exact g.sB q n r b
end
section
variable {c:bd} {fl:Nat->Nat->Bool} {s:MS} {X Z:Nat->Prop} {T:Int} {p:Nat} {x:ai} {t:Int} {z:Prop}
theorem Good.congr {a:Nat->Prop} (g:Good c fl s X Z T) (h:∀q,X q↔a q):Good c fl s a Z T:=by have:X=a:=funext λq=>propext (h q);grind
theorem iJ {r:List Int} {i v:Int}:(jS r i v).length=r.length:=by unfold jS;split<;>simp
theorem wO {n:Int} (h:fF n):fF (more n):=by unfold fF more at*;split<;>omega
theorem Ur {l:List dF} {k:Core} {v:Int} (h:∃n,ik l k.pc=some n):(kI l k v).pc=k.pc+1/\(kI l k v).aO.length=k.aO.length:=by obtain ⟨n,a⟩:=h;unfold kI;rw [a];exact ⟨rfl,iJ⟩
theorem Uu {l:List dF} {k:Core} {v w:Int} (h:∃n,ik l k.pc=some n):(gQ l k v w).pc=k.pc+1/\(gQ l k v w).aO.length=k.aO.length:=by obtain ⟨n,a⟩:=h;unfold gQ;rw [a];exact ⟨rfl,by simp [iJ]⟩
theorem de.go (pm:de c fl t p z x) (b:x.state≠4) {k:Core} (d:0<=k.pc/\k.pc<=(jX c p).length) (e:k.aO.length=8):de c fl t p z (vO x k) where
 st:=by show (0:Int)<=0/\(0:Int)<=6;omega
 pc:=d
 mG:=pm.mG
 cur:=pm.cur
 np:=pm.np
 nq:=pm.nq
 nX:=pm.nX.imp id λh=>⟨λa=>absurd (h.1 a) b,λa=>by have:(0:Int)=4:=a;omega⟩
 dead:=λh=>by have:(0:Int)=5\/(0:Int)=6:=h;omega
 dY:=pm.dY
 recv:=λh=>by have:(0:Int)=1:=h;omega
 snd:=λh=>by have:(0:Int)=2:=h;omega
 qo:=λh=>by have:(0:Int)=3:=h;omega
 jE:=λh=>by have:(0:Int)=4:=h;omega
 aO:=e
theorem de.put (pm:de c fl t p z x) (a:x.state=0) {k:Core} (b:0<=k.pc/\k.pc<=(jX c p).length) (d:k.aO.length=8):de c fl t p z (x.put k):=by
 have:=pm.go (by omega) b d;have e:x.put k=vO x k:=by unfold ai.put vO;rw [<-a]
 rw [e];exact this
theorem Bg {n:dF} (h:dP c p x=some n):0<=x.pc/\x.pc<(jX c p).length:=by unfold dP ik at h;grind
theorem Good.told (g:Good c fl s X Z T) (hp:p<nQ c) (o:Out s X Z p) (d:(s.proc p).state≠4) (hi:∃n,dP c p (s.proc p)=some n) (v:Int):Good c fl (da c s p v) (λq=>X q/\q≠p) Z T:=by have pm:=g.proc p hp;have b:=Ur (l:=jX c p) (k:=(s.proc p).core) (v:=v) hi;have f:0<=(s.proc p).pc/\(s.proc p).pc<(jX c p).length:=hi.elim λn e=>Bg e;have a:(kI (jX c p) (s.proc p).core v).pc=(s.proc p).pc+1:=b.1;refine g.run o (pm.go d ⟨by rw [a];omega,by rw [a];omega⟩ (b.2.trans pm.aO)) ⟨by show (0:Int)≠2;omega,by show (0:Int)≠3;omega⟩ rfl λ_=>rfl
theorem Good.P1 (g:Good c fl s X Z T) (hp:p<nQ c) (o:Out s X Z p) (a:(s.proc p).state≠4) (hi:∃n,dP c p (s.proc p)=some n):Good c fl (pT s p) (λq=>X q/\q≠p) Z T:=by have pm:=g.proc p hp;have d:0<=(s.proc p).pc/\(s.proc p).pc<(jX c p).length:=hi.elim λn b=>Bg b;refine g.run o (pm.go a ⟨by show 0<=(s.proc p).pc+1;omega,by show (s.proc p).pc+1<=_;omega⟩ pm.aO) ⟨by show (0:Int)≠2;omega,by show (0:Int)≠3;omega⟩ rfl λ_=>rfl
theorem de.lane (pm:de c fl t p z x) {i:Nat} {f:br->br} (r:∀l,x.ae[i]? =some l->((f l).values.length:Int)<=c.lane/\fF (f l).taken/\fF (f l).dropped/\(lL (f l)->i<nP c->fl i (aH c p)=true)) (o:x.state=1->∀l,l.values=[]->(f l).values=[]):
  de c fl t p z (bY x i f) where
 st:=pm.st
 pc:=pm.pc
 mG:=by show (x.ae.modify i f).length=_;rw [List.length_modify];exact pm.mG
 cur:=by show 0<=x.ag/\x.ag<((x.ae.modify i f).length:Int);rw [List.length_modify];exact pm.cur
 np:=pm.np
 nq:=pm.nq
 nX:=pm.nX
 dead:=pm.dead
 dY:=λj l h=>by
  have h:(x.ae.modify i f)[j]? =some l:=h;rw [List.getElem?_modify] at h;cases e:x.ae[j]? with
  | none=>grind
  | some k=>
   rw [e] at h;by_cases m:i=j
   ·grind
   ·simp [m] at h;subst h;exact pm.dY j k e
 recv:=λh=>by
  obtain ⟨a,b,d⟩:=pm.recv h;refine ⟨a,λl q=> ?_,d⟩;obtain ⟨j,g⟩:=List.getElem?_of_mem (show l∈x.ae.modify i f from q);rw [List.getElem?_modify] at g;cases e:x.ae[j]? with
  | none=>grind
  | some k=>
   rw [e] at g;have n:=b k (List.mem_of_getElem? e);by_cases m:i=j
   ·simp [m] at g;rw [<-g];exact o h k n
   grind
 snd:=pm.snd
 qo:=pm.qo
 jE:=pm.jE
 aO:=pm.aO
theorem de.cp (pm:de c fl t p z x):de c fl t p z (eT x):=by
 by_cases h:x.state=1
 ·have:eT x=vO x x.core:=by unfold eT vO ai.core;rw [if_pos h]
  rw [this];exact pm.go (by omega) pm.pc pm.aO
 ·have:eT x=x:=by unfold eT;rw [if_neg h]
  grind
theorem Good.lane (g:Good c fl s X Z T) (hp:p<nQ c) {i:Nat} {f:br->br} (b:∀l,(s.proc p).ae[i]? =some l->((f l).values.length:Int)<=c.lane/\fF (f l).taken/\fF (f l).dropped/\(lL (f l)->i<nP c->fl i (aH c p)=true))
  (w:∀l,(s.proc p).ae[i]? =some l->(f l).waiters=l.waiters/\(l.waiters≠ []->(f l).values.length=l.values.length)) (a:Bool) (n:a=false->∀l,l.values=[]->(f l).values=[]):
  Good c fl (s.bw p (if a then eT (bY (s.proc p) i f) else bY (s.proc p) i f)) X Z T:=by
 have pm:=g.proc p hp;have r:de c fl s.tick p (Z p) (if a then eT (bY (s.proc p) i f) else bY (s.proc p) i f):=by
  cases a with
  | false=>exact pm.lane b λ_=>n rfl
  | true=>
   by_cases h:(s.proc p).state=1
   ·have u:de c fl s.tick p (Z p) (vO (s.proc p) (s.proc p).core):=pm.go (by omega) pm.pc pm.aO;have:=u.lane (i:=i) (f:=f) b λh=>by have:(0:Int)=1:=h;omega
    have e:eT (bY (s.proc p) i f)=bY (vO (s.proc p) (s.proc p).core) i f:=by unfold eT bY vO ai.core;simp [h]
    grind
   ·exact (pm.lane b λm=>absurd m h).cp
 have o:(if a then eT (bY (s.proc p) i f) else bY (s.proc p) i f).ae=(s.proc p).ae.modify i f:=by cases a<;>rfl
 refine g.ae r ?_ (by cases a<;>rfl) (by cases a<;>rfl) (by grind) (λj l y d k=> ?_) hp (λ_ h=>h) λq h=>.inl h
 ·cases a with
  | false=>exact .inl rfl
  | true=>
   by_cases h:(s.proc p).state=1
   ·refine .inr ⟨h,?_⟩;show (if (s.proc p).state=1 then (0:Int) else (s.proc p).state)=0;rw [if_pos h]
   ·refine .inl ?_;show (if (s.proc p).state=1 then (0:Int) else (s.proc p).state)=_;rw [if_neg h]
 ·rw [o,List.getElem?_modify,d] at k;obtain ⟨_,v,_⟩:=g.dY p hp j l d;grind
theorem Ek {D:Int->Int->Int->Int} {l:List dF} {k:Core} {tk self:Int}:((j7 D l k tk self).2.kind=1/\(j7 D l k tk self).1=k)\/(∃n,ik l k.pc=some n/\(j8 n l.length 8).1=0/\
  ((ln n k.aO=none/\j7 D l k tk self=(sQ D n k tk self,⟨0,0,0⟩))\/∃w a,ln n k.aO=some (w,a)/\j7 D l k tk self=(if a then k else fL k,w))):=by
 unfold j7;grind
theorem Mg {n:dF} {r:List Int} {w:Want} {st:Bool} (h:ln n r=some (w,st)):
  (w.kind=1/\st=true)\/(n.op=24/\w=⟨2,fy r n.b,fy r n.c⟩/\st=true)\/(n.op=25/\w.kind=3/\st=true)\/(n.op=26/\w.kind=4/\st=true)\/(w.kind=5/\st=false)\/(n.op=28/\w.kind=6/\st=true)\/
   (n.op=29/\w.kind=7/\w.to=n.kf/\st=true)\/(n.op=30/\w.kind=8/\w.to=n.kf/\st=false)\/(w.kind=9/\st=false):=by
 unfold ln at h;split at h
 ·cases h;exact .inl ⟨rfl,rfl⟩
 split at h
 ·rename_i e;cases h;exact .inr (.inl ⟨e,rfl,rfl⟩)
 split at h
 ·rename_i e;cases h;exact .inr (.inr (.inl ⟨e,rfl,rfl⟩))
 split at h
 ·rename_i e;cases h;exact .inr (.inr (.inr (.inl ⟨e,rfl,rfl⟩)))
 split at h
 ·rename_i e;cases h;exact .inr (.inr (.inr (.inr (.inl ⟨rfl,rfl⟩))))
 split at h
 ·rename_i e;cases h;exact .inr (.inr (.inr (.inr (.inr (.inl ⟨e,rfl,rfl⟩)))))
 grind
theorem Mh {D:Int->Int->Int->Int} {l:List dF} {k:Core} {tk self:Int} {n:dF} (b:ik l k.pc=some n) (d:(j8 n l.length 8).1=0) (a:k.aO.length=8):
  (0<=(sQ D n k tk self).pc/\(sQ D n k tk self).pc<=l.length)/\(sQ D n k tk self).aO.length=8:=by
 have g:0<=k.pc/\k.pc<l.length:=Bg (c:=⟨[],[],0,0,0,0,[⟨0,l⟩]⟩) (p:=0) (x:=⟨0,k.pc,[],0,0,false,0,[]⟩) b;have f:=(yU d).2.2.2.2.1;unfold sQ;split
 ·exact ⟨⟨by grind,by show k.pc+1<=_;omega⟩,iJ.trans a⟩
 split
 ·exact ⟨⟨by show 0<=k.pc+1;omega,by show k.pc+1<=_;omega⟩,iJ.trans a⟩
 split
 ·exact ⟨⟨by show 0<=k.pc+1;omega,by show k.pc+1<=_;omega⟩,iJ.trans a⟩
 split
 ·exact ⟨⟨by show 0<=k.pc+1;omega,by show k.pc+1<=_;omega⟩,iJ.trans a⟩
 split
 ·grind
 split
 ·rename_i e;split
  ·exact ⟨⟨by show 0<=k.pc+1;omega,by show k.pc+1<=_;omega⟩,a⟩
  grind
 ·exact ⟨⟨by grind,by show k.pc+1<=_;omega⟩,iJ.trans a⟩
end
def mR (p:Int) (s:MS) (l:List Nat):MS:=⟨s.tick,s.part,λq=>if q∈l then sd p (s.proc q) else s.proc q⟩
def No :Nat->Prop:=λ_=>False
section
variable {c:bd} {fl:Nat->Nat->Bool} {s:MS} {T:Int} {p:Nat} {x:ai} {t:Int} {z:Prop}
theorem xN (h:(s.proc p).state≠2/\(s.proc p).state≠3) {X:Nat->Prop}:Out s X No p:=⟨λh=>h,.inr h⟩
theorem xP (g:Good c fl s (λq=>No q/\q≠p) No T):Good c fl s No No T:=g.congr λ_=>⟨λh=>h.1,λh=>h.elim⟩
theorem Good.ye {X Z:Nat->Prop} (g:Good c fl s X Z T) {q i:Nat} (a:q<nQ c) (hi:i<=nP c):∃l,(s.proc q).ae[i]? =some l:=by have:=(g.proc q a).mG;exact ⟨_,List.getElem?_eq_getElem (by omega)⟩
theorem de.wait (pm:de c fl t p z x) (e:x.state=0) {m:Int} (f:m=2\/m=3) {n:dF} (a:dP c p x=some n) (b:(m=2->n.op=24)/\(m=3->n.op=29)):de c fl t p z {x with state:=m} where
 st:=by grind
 pc:=pm.pc
 mG:=pm.mG
 cur:=pm.cur
 np:=pm.np
 nq:=pm.nq
 nX:=pm.nX.imp id λh=>⟨λd=>by grind,λd=>by grind⟩
 dead:=λh=>by grind
 dY:=pm.dY
 recv:=λh=>by grind
 snd:=λh=>⟨n,a,b.1 h⟩
 qo:=λh=>⟨n,a,b.2 h⟩
 jE:=λh=>by grind
 aO:=pm.aO
theorem DJ {d:Type} {l:List d} {i j:Nat} {f:d->d} {a:d} (h:(l.modify i f)[j]? =some a):∃b,l[j]? =some b/\((i=j/\a=f b)\/(i≠j/\a=b)):=by grind
theorem zf {a:Type} {l:List a} {i:Nat} {f:a->a} {b:a} (h:l[i]? =some b):(l.modify i f)[i]? =some (f b):=by grind
theorem ND {a:Type} {l:List a} {i j:Nat} {f:a->a} (h:i≠j):(l.modify i f)[j]? =l[j]?:=by grind
def jF (c:bd) (s:MS) (p q:Nat) (v:Int):MS:=(s.bw q (bY (s.proc q) (aH c p) (iM p v))).bw p {(s.bw q (bY (s.proc q) (aH c p) (iM p v))).proc p with state:=2}
theorem Qu {q:Nat} {v:Int} (r:Nat):(jF c s p q v).proc r={(if r=q then bY (s.proc q) (aH c p) (iM p v) else s.proc r) with state:=if r=p then 2 else (s.proc r).state}:=by
 unfold jF;by_cases b:r=p
 ·subst b;rw [fV,if_pos rfl];by_cases a:r=q
  ·subst a;rw [fV,if_pos rfl]
  ·rw [iN a,if_neg a]
 ·rw [iN b,if_neg b];by_cases a:r=q
  ·subst a;rw [fV,if_pos rfl];rfl
  ·rw [iN a,if_neg a]
theorem Good.wait (m:cP c) (g:Good c fl s No No T) {q:Nat} {v:Int} {n:dF} (hp:p<nQ c) (L:q<nQ c) (h0:(s.proc p).state=0) (hn:dP c p (s.proc p)=some n) (ho:n.op=24) (hb:fy (s.proc p).aO n.b=(q:Int)) (hc:fy (s.proc p).aO n.c=v)
  (b0:aH c p=aH c q) (hv:kO (s.proc q)=true) (X:∀l,(s.proc q).ae[aH c p]? =some l->(l.values.length:Int)=c.lane):Good c fl (jF c s p q v) No No T:=by
 have G:Out s No No p:=xN ⟨by omega,by omega⟩;have A:=Qu (c:=c) (s:=s) (p:=p) (q:=q) (v:=v);have a9:∀r,((jF c s p q v).proc r).pc=(s.proc r).pc/\((jF c s p q v).proc r).aO=(s.proc r).aO:=λr=>by
  rw [A];by_cases e:r=q
  ·subst e;rw [if_pos rfl];exact ⟨rfl,rfl⟩
  grind
 have N:∀r,r≠p->((jF c s p q v).proc r).state=(s.proc r).state:=λr e=>by grind
 have b5:((jF c s p q v).proc p).state=2:=by grind
 have a8:∀r,r≠q->((jF c s p q v).proc r).ae=(s.proc r).ae:=λr e=>by rw [A,if_neg e]
 have F:((jF c s p q v).proc q).ae=(s.proc q).ae.modify (aH c p) (iM p v):=by rw [A,if_pos rfl];rfl
 have Y:∀r,dP c r ((jF c s p q v).proc r)=dP c r (s.proc r):=λr=>by unfold dP;rw [(a9 r).1]
 have Z:∀r,kO (s.proc r)=true->kO ((jF c s p q v).proc r)=true:=λr h=>by rw [dp] at h ⊢;grind
 have U:∀ {i r w},nc c s No No i r w->nc c (jF c s p q v) No No i r w:=λ{i r w} h=>by have C:=h.out G;obtain ⟨a1,a2,a3,a4,a5⟩:=h;refine ⟨a1,a2,a3,a4,?_⟩;grind
 have b4:nc c (jF c s p q v) No No (aH c p) q ⟨(p:Int),v⟩:=by refine ⟨by show (0:Int)<=(p:Int);omega,hp,rfl,λh=>h,.inr ?_⟩;grind
 refine ⟨g.tick,g.part,λr d=> ?_,λi hi k ow h=> ?_,λi hi k l h=> ?_,λr d i l h=> ?_,λr d _ u=> ?_,λr d _ j=> ?_⟩
 ·have pm:=g.proc r d;have Q:de c fl s.tick r (No r) (if r=q then bY (s.proc q) (aH c p) (iM p v) else s.proc r):=by
   by_cases e:r=q
   ·subst e;rw [if_pos rfl];exact pm.lane (λl f=>pm.dY _ l f) λ_ l f=>f
   grind
  have B:(if r=q then bY (s.proc q) (aH c p) (iM p v) else s.proc r).state=(s.proc r).state:=by
   by_cases e:r=q
   ·subst e;rw [if_pos rfl];rfl
   ·rw [if_neg e]
  rw [A];by_cases e:r=p
  ·rw [if_pos e];refine Q.wait (n:=n) (by grind) (.inl rfl) ?_ ⟨λ_=>ho,λh=>by omega⟩;have:=Y r;rw [A] at this;rw [e] at this ⊢;rw [<-hn];exact this
  ·rw [if_neg e,<-B];exact Q
 ·rcases g.own i hi k ow h with h | ⟨K,j,u,h4⟩
  ·exact .inl h
  grind
 ·obtain ⟨K,j,u⟩:=g.jT i hi k l h;refine ⟨K,λy P=> ?_,u⟩;have C:=(j y P).out G;obtain ⟨a1,a2,a3,a4,a5⟩:=j y P;refine ⟨a1,a2,a3,a4,?_⟩;grind
 ·by_cases e:r=q
  ·subst e;rw [F] at h;obtain ⟨D,B,W⟩:=DJ h;obtain ⟨I,R,E⟩:=g.dY r d i D B;rcases W with ⟨J,o⟩ | ⟨J,o⟩
   ·subst J;subst o;refine ⟨?_,λ_=>⟨b0,.inl (Z r hv),X D B⟩,λw hw=> ?_⟩
    ·show ((D.waiters++ [(⟨(p:Int),v⟩:ly)]).map (·.proc)).Nodup;rw [List.map_append,List.nodup_append];refine ⟨I,by simp,λa V b hb=> ?_⟩;obtain ⟨w,hw,rfl⟩:=List.mem_map.1 V;have C:=(E w hw).out G;have:b=(p:Int):=by simpa using hb
     rw [this];intro e;rw [e] at C;exact C rfl
    ·rcases List.mem_append.1 (show w∈D.waiters++ [⟨(p:Int),v⟩] from hw) with hw | hw
     ·exact U (E w hw)
     ·rw [List.mem_singleton.1 hw];exact b4
   grind
  ·rw [a8 r e] at h;obtain ⟨I,R,E⟩:=g.dY r d i l h;grind
 ·have e:r≠p:=λe=>by grind
  rw [N r e] at u;exact g.sB r d (λh=>h) u
 ·by_cases e:r=p
  ·subst e;obtain ⟨l,f⟩:=g.ye (c:=c) (i:=aH c r) L (Nat.le_of_lt m.fo);exact ⟨q,L,iM r v l,by grind,⟨(r:Int),v⟩,by show _∈l.waiters++ [(⟨(r:Int),v⟩:ly)];simp,rfl⟩
  ·rw [N r e] at j;obtain ⟨H,M,l,f,w,hw,O⟩:=g.sA r d (λh=>h) j;by_cases S:H=q
   ·subst S;by_cases o:aH c p=aH c r
    ·exact ⟨H,M,iM p v l,by rw [F,o];exact zf f,w,by show w∈l.waiters++ [_];exact List.mem_append_left _ hw,O⟩
    ·exact ⟨H,M,l,by rw [F,ND o];exact f,w,hw,O⟩
   grind
end
theorem gD {c:bd} {i q:Nat}:q∈eC c i↔q<nQ c/\aH c q=i:=by unfold eC;simp
theorem Mi {c:bd} {i:Nat}:(eC c i).Nodup:=(List.Pairwise.filter _ List.nodup_range)
def tC (l:br):br:={l with waiters:=[]}
def gm (s:MS) (p:Nat) (st:Int):MS:=s.bw p {s.proc p with state:=st,bK:=false}
def ee (c:bd) (s:MS) (p:Nat) (st:Int):MS:=mR p (gm s p st) (eC c (aH c p))
def qn (c:bd) (s:MS) (p:Nat):MS:=s.eS (aH c p) (zO p (s.part (aH c p))).1
def jc (c:bd) (s:MS) (p:Nat):MS:=(zO p (s.part (aH c p))).2.foldl jY (qn c s p)
def iv (s:MS) (p:Nat):MS:=s.bw p {s.proc p with timer:=0,cp:=0}
def je (s:MS) (p:Nat):MS:=s.bw p {s.proc p with ae:=(s.proc p).ae.map tC}
def qW (c:bd) (s:MS) (p:Nat):MS:=((s.proc p).ae.flatMap (·.waiters)).foldl (λs w=>da c s w.proc.toNat 2) (je s p)
theorem zS {c:bd} {s:MS} {p:Nat} {st:Int}:oY c s p st=qW c (iv (jc c (ee c s p st) p) p) p:=by
 have e:(⟨(gm s p st).tick,(gm s p st).part,λq=>if q<nQ c/\aH c q=aH c p then sd p ((gm s p st).proc q) else (gm s p st).proc q⟩:MS)=ee c s p st:=by
  unfold ee mR;congr 1;funext q;by_cases h:q<nQ c/\aH c q=aH c p
  ·rw [if_pos h,if_pos (gD.2 h)]
  ·rw [if_neg h,if_neg λb=>h (gD.1 b)]
 have a:oY c s p st=(let s2:MS:=⟨(gm s p st).tick,(gm s p st).part,λq=>if q<nQ c/\aH c q=aH c p then sd p ((gm s p st).proc q) else (gm s p st).proc q⟩;qW c (iv (jc c s2 p) p) p):=rfl;rw [a,e]
section
variable {c:bd} {fl:Nat->Nat->Bool} {s:MS} {T:Int} {p:Nat}
theorem Uv {q r:Nat} {y:ai} (h:y.state=(s.proc q).state\/((s.proc q).state=1/\y.state=0)):((s.bw q y).proc r).state=(s.proc r).state\/((s.proc r).state=1/\((s.bw q y).proc r).state=0):=by
 by_cases e:r=q
 ·subst e;rw [fV];exact h
 ·rw [iN e];exact .inl rfl
theorem aau {x:ai}:(eT x).state=x.state\/(x.state=1/\(eT x).state=0):=by unfold eT;grind
theorem Wu {q r:Nat} {y:ai} (e:y.pc=(s.proc q).pc):((s.bw q y).proc r).pc=(s.proc r).pc:=by
 by_cases h:r=q
 ·subst h;rw [fV,e]
 ·rw [iN h]
theorem NF {q r:Nat} {y:ai} (e:y.pc=(s.proc q).pc):dP c r ((s.bw q y).proc r)=dP c r (s.proc r):=by unfold dP;rw [Wu e]
theorem Good.yo (g:Good c fl s No No T) (hp:p<nQ c) (a:(s.proc p).state=0) (hi:∃n,dP c p (s.proc p)=some n) (v:Int):Good c fl (da c s p v) No No T:=
 xP (g.told hp (xN ⟨by omega,by omega⟩) (by omega) hi v)
theorem Good.send (m:cP c) (g:Good c fl s No No T) {to v:Int} {n:dF} (hp:p<nQ c) (o:(s.proc p).state=0) (u:dP c p (s.proc p)=some n) (I:n.op=24) (hb:fy (s.proc p).aO n.b=to) (F:fy (s.proc p).aO n.c=v):Good c fl (my c fl s p to v) No No T:=by
 unfold my;have hi:=m.fo (p:=p);by_cases A:to<0\/(nQ c:Int)<=to
 ·rw [if_pos A];exact g.yo hp o ⟨n,u⟩ 1
 rw [if_neg A];have x:to.toNat<nQ c:=by omega
 have E:((to.toNat:Nat):Int)=to:=by omega
 by_cases q:fl (aH c p) (aH c to.toNat)=false
 ·rw [if_pos q];have pm:=g.part _ hi;have z:=g.parts (i:=aH c p) (y:={s.part (aH c p) with forbidden:=more (s.part (aH c p)).forbidden}) ⟨pm.cur,pm.kg,pm.log,pm.lost,wO pm.lM,pm.full,pm.im,pm.iP⟩ rfl rfl;exact z.yo hp o ⟨n,u⟩ 0
 rw [if_neg q];have G:fl (aH c p) (aH c to.toNat)=true:=by cases e:fl (aH c p) (aH c to.toNat)<;>simp [e] at q ⊢
 have lane:∀(f:br->br) (d:Bool),(∀l,(s.proc to.toNat).ae[aH c p]? =some l->((f l).values.length:Int)<=c.lane/\fF (f l).taken/\fF (f l).dropped)->
   (∀l,(s.proc to.toNat).ae[aH c p]? =some l->(f l).waiters=l.waiters/\(l.waiters≠ []->(f l).values.length=l.values.length))->(d=false->∀l,l.values=[]->(f l).values=[])->
   Good c fl (da c (s.bw to.toNat (if d then eT (bY (s.proc to.toNat) (aH c p) f) else bY (s.proc to.toNat) (aH c p) f)) p 0) No No T:=by
  intro f d j K w;have z:=g.lane x (i:=aH c p) (f:=f) (λl a=>⟨(j l a).1,(j l a).2.1,(j l a).2.2,λ_ _=>G⟩) K d w;have D:(if d then eT (bY (s.proc to.toNat) (aH c p) f) else bY (s.proc to.toNat) (aH c p) f).pc=(s.proc to.toNat).pc:=by cases d<;>rfl
  refine z.yo hp ?_ ⟨n,?_⟩ 0
  ·have:(if d then eT (bY (s.proc to.toNat) (aH c p) f) else bY (s.proc to.toNat) (aH c p) f).state=(s.proc to.toNat).state\/((s.proc to.toNat).state=1/\(if d then eT (bY (s.proc to.toNat) (aH c p) f) else bY (s.proc to.toNat) (aH c p) f).state=0):=by
    cases d
    ·exact .inl rfl
    ·exact aau
   rcases Uv (r:=p) this with h | h
   ·rw [h];exact o
   ·exact h.2
  ·rw [NF D];exact u
 have t:∀l,(s.proc to.toNat).ae[aH c p]? =some l->(l.values.length:Int)<=c.lane/\fF l.taken/\fF l.dropped:=λl a=>by have:=(g.proc _ x).dY _ l a;exact ⟨this.1,this.2.1,this.2.2.1⟩
 have J:gB c (s.proc to.toNat) (aH c p)=false->Good c fl (da c (s.bw to.toNat (eT (bY (s.proc to.toNat) (aH c p) (vQ v)))) p 0) No No T:=by
  intro j;have C:∀l,(s.proc to.toNat).ae[aH c p]? =some l->(l.values.length:Int)<c.lane:=λl a=>by unfold gB at j;rw [a] at j;have:=of_decide_eq_false j;omega
  refine lane (vQ v) true (λl a=> ?_) (λl a=>⟨rfl,λH=> ?_⟩) (λh=>by cases h)
  ·have A:=C l a;have q:=t l a;refine ⟨?_,q.2⟩;show ((l.values++ [v]).length:Int)<=_;rw [List.length_append,List.length_singleton];omega
  ·have:=((g.dY _ x _ l a).2.1 H).2.2;have:=C l a;omega
 have M:Good c fl (da c (s.bw to.toNat (bY (s.proc to.toNat) (aH c p) mq)) p 0) No No T:=
  lane mq false (λl a=>⟨(t l a).1,(t l a).2.1,wO (t l a).2.2⟩) (λl a=>⟨rfl,λ_=>rfl⟩) λ_ l a=>a
 by_cases w:aH c p=aH c to.toNat
 ·rw [if_pos w];by_cases B:kO (s.proc to.toNat)=false
  ·rw [if_pos B];exact g.yo hp o ⟨n,u⟩ 2
  rw [if_neg B];by_cases k:gB c (s.proc to.toNat) (aH c p)=true
  ·rw [if_pos k];refine g.wait (v:=v) m hp x o u I (by rw [hb,E]) F w (by cases e:kO (s.proc to.toNat)<;>simp [e] at B ⊢) λl a=> ?_;have L:=(t l a).1;unfold gB at k;rw [a] at k;have:=of_decide_eq_true k;omega
  ·rw [if_neg k];exact J (by cases e:gB c (s.proc to.toNat) (aH c p)<;>simp [e] at k ⊢)
 grind
end
theorem aav {ag:Int} {a:List br} (f:0<=ag/\ag<a.length) (h:py ag a=none):∀l∈a,l.values=[]:=by
 intro l d;obtain ⟨j,c,g⟩:=List.getElem_of_mem d;unfold py at h;rw [List.find?_eq_none] at h;have e:j∈(List.range a.length).map λk=>(ag.toNat+k)%a.length:=by
  refine List.mem_map.2 ⟨(j+a.length-ag.toNat)%a.length,List.mem_range.2 (Nat.mod_lt _ (by omega)),?_⟩;by_cases i:ag.toNat<=j
  ·have b:j+a.length-ag.toNat=(j-ag.toNat)+a.length:=by omega
   rw [b,Nat.add_mod_right,Nat.mod_eq_of_lt (show j-ag.toNat<a.length by omega),Nat.mod_eq_of_lt (by omega)];omega
  ·rw [Nat.mod_eq_of_lt (show j+a.length-ag.toNat<a.length by omega)];have b:ag.toNat+(j+a.length-ag.toNat)=j+a.length:=by omega
   rw [b,Nat.add_mod_right,Nat.mod_eq_of_lt c]
 grind
theorem ZN {ag:Int} {a:List br} {i:Nat} (h:py ag a=some i):∃l,a[i]? =some l/\l.values≠ []:=by unfold py at h;grind
section
variable {c:bd} {fl:Nat->Nat->Bool} {s:MS} {T:Int} {p:Nat} {t:Int} {x:ai} {z:Prop}
theorem de.P0 (pm:de c fl t p z x):de c fl t p z {x with bK:=false} where
 st:=pm.st
 pc:=pm.pc
 mG:=pm.mG
 cur:=pm.cur
 np:=pm.np
 nq:=pm.nq
 nX:=pm.nX
 dead:=λh=>⟨(pm.dead h).1,rfl⟩
 dY:=pm.dY
 recv:=λh=>⟨(pm.recv h).1,(pm.recv h).2.1,rfl⟩
 snd:=pm.snd
 qo:=pm.qo
 jE:=pm.jE
 aO:=pm.aO
theorem de.ag (pm:de c fl t p z x) {n:Int} (h:0<=n/\n<x.ae.length):de c fl t p z {x with ag:=n} where
 st:=pm.st
 pc:=pm.pc
 mG:=pm.mG
 cur:=h
 np:=pm.np
 nq:=pm.nq
 nX:=pm.nX
 dead:=pm.dead
 dY:=pm.dY
 recv:=pm.recv
 snd:=pm.snd
 qo:=pm.qo
 jE:=pm.jE
 aO:=pm.aO
theorem de.GD (pm:de c fl t p z x) (g:x.state=0) {n:dF} (e:dP c p x=some n) (f:n.op=25) (b:∀l∈x.ae,l.values=[]) (d:x.bK=false):de c fl t p z {x with state:=1} where
 st:=by simp
 pc:=pm.pc
 mG:=pm.mG
 cur:=pm.cur
 np:=pm.np
 nq:=pm.nq
 nX:=pm.nX.imp id λh=>⟨λa=>by grind,λa=>by grind⟩
 dead:=λh=>by grind
 dY:=pm.dY
 recv:=λ_=>⟨⟨n,e,f⟩,b,d⟩
 snd:=λh=>by grind
 qo:=λh=>by grind
 jE:=λh=>by grind
 aO:=pm.aO
theorem Good.core {X:Nat->Prop} (g:Good c fl s X No T) {y:ai} (o:Out s X No p) (pm:de c fl s.tick p (No p) y) (d:y.ae=(s.proc p).ae) (e:y.state=0) {k:Core} (a:0<=k.pc/\k.pc<=(jX c p).length) (b:k.aO.length=8):Good c fl (s.bw p (y.put k)) (λq=>X q/\q≠p) No T:=by refine g.run o (pm.put e a b) ⟨by show y.state≠2;omega,by show y.state≠3;omega⟩ d λ_=> ?_;rw [dp];exact ⟨by show y.state≠5;omega,by show y.state≠6;omega⟩
theorem Good.take (m:cP c) (g:Good c fl s No No T) {t:Bool} {n:dF} (hp:p<nQ c) (h0:(s.proc p).state=0) (E:dP c p (s.proc p)=some n) (ho:t=false->n.op=25):Good c fl (lj c s p t) No No T:=by
 have pm:=g.proc p hp;have H:∀ {X:Nat->Prop},Out s X No p:=xN ⟨by omega,by omega⟩;have b6:=Bg E;have u:∀ {v f:Int},(0<=(gQ (jX c p) (s.proc p).core v f).pc/\(gQ (jX c p) (s.proc p).core v f).pc<=(jX c p).length)/\(gQ (jX c p) (s.proc p).core v f).aO.length=8:=λ{v f}=>by obtain ⟨b,d⟩:=Uu (l:=jX c p) (k:=(s.proc p).core) (v:=v) (w:=f) ⟨n,E⟩;have b:(gQ (jX c p) (s.proc p).core v f).pc=(s.proc p).pc+1:=b;exact ⟨by omega,d.trans pm.aO⟩
 unfold lj;dsimp only;cases K:py (s.proc p).ag (s.proc p).ae with
 | none=>
  dsimp only;have a9:=aav pm.cur K;by_cases B:(s.proc p).bK=true
  ·rw [if_pos B];have e:({(s.proc p).put (gQ (jX c p) (s.proc p).core 0 (-2)) with bK:=false}:ai)=({s.proc p with bK:=false}:ai).put (gQ (jX c p) (s.proc p).core 0 (-2)):=rfl;rw [e];exact xP (g.core H pm.P0 rfl h0 u.1 u.2)
  ·rw [if_neg B];cases t with
   | true=>rw [if_pos rfl];exact xP (g.core H pm rfl h0 u.1 u.2)
   | false=>rw [if_neg (by decide)];refine xP (g.run H (pm.GD h0 E (ho rfl) a9 (by simpa using B)) ⟨by show (1:Int)≠2;omega,by show (1:Int)≠3;omega⟩ rfl λ_=> ?_);rw [dp];simp
 | some i=>
  dsimp only;obtain ⟨l,o,b0⟩:=ZN K;have U:(s.proc p).ae.getD i ⟨[],[],0,0⟩=l:=by grind
  rw [U];obtain ⟨P,b2,Q⟩:=g.dY p hp i l o;have M:=pm.dY i l o;have b7:1<=l.values.length:=by grind
  have B:∀A,(s.proc p).ae[i]? =some A->((dQ A).values.length:Int)<=c.lane/\fF (dQ A).taken/\fF (dQ A).dropped/\(lL (dQ A)->i<nP c->fl i (aH c p)=true):=λA L=>by
   rw [o] at L;cases L;refine ⟨?_,?_,?_,λ_ hi=>M.2.2.2 (.inl b0) hi⟩
   ·unfold dQ;grind
   ·unfold dQ;cases l.waiters<;>exact wO M.2.1
   ·unfold dQ;grind
  have N:de c fl s.tick p (No p) (bY (s.proc p) i dQ):=pm.lane B λh=>by omega
  let I:Nat->Prop:=λq=>∃w r,l.waiters=w::r/\w.proc=(q:Int);have W:Good c fl (s.bw p (bY (s.proc p) i dQ)) I No T:=by
   refine g.ae N (.inl rfl) rfl rfl (List.length_modify ..) (λj l1 l2 b d=> ?_) hp (λ_ h=>h.elim) λq hq=>.inr ⟨λh=>h,?_⟩
   ·have d:((s.proc p).ae.modify i dQ)[j]? =some l2:=d;obtain ⟨l0,J,V⟩:=DJ d;rw [b] at J;cases J;obtain ⟨c1,R,S⟩:=g.dY p hp j l1 b;rcases V with ⟨rfl,rfl⟩ | ⟨e5,rfl⟩
    ·rw [o] at b;cases b;unfold dQ;cases a:l.waiters with
     | nil=>exact ⟨List.Sublist.refl _,λh=>absurd rfl h,λw G=>by cases G⟩
     | cons w r=>
      refine ⟨List.sublist_cons_self ..,λ_=> ?_,λO G=> ?_⟩
      ·have h3:=(R (by rw [a];simp)).2.2;show ((l.values.tail++ [w.value]).length:Int)=_;rw [List.length_append,List.length_tail,List.length_singleton];omega
      ·rcases List.mem_cons.1 G with rfl | h4
       ·refine .inr ⟨O,r,a,?_⟩;have:=(S O (by rw [a];exact List.mem_cons_self ..)).1;omega
       ·exact .inl h4
    grind
   ·obtain ⟨w,r,a,he⟩:=hq;refine ⟨i,l,dQ l,w,o,zf o,by rw [a];exact List.mem_cons_self ..,?_,he⟩;have nd:=P;rw [a,List.map_cons,List.nodup_cons] at nd;unfold dQ;grind
  have b4:Out (s.bw p (bY (s.proc p) i dQ)) I No p:=⟨λh=>h,.inr (by rw [fV];exact ⟨by show (s.proc p).state≠2;omega,by show (s.proc p).state≠3;omega⟩)⟩;have b5:i<(s.proc p).ae.length:=(List.getElem?_eq_some_iff.1 o).1;have a8:0<=((i+1:Nat):Int)%((s.proc p).ae.length:Int)/\((i+1:Nat):Int)%((s.proc p).ae.length:Int)<((bY (s.proc p) i dQ).ae.length:Int):=by have e:(bY (s.proc p) i dQ).ae.length=(s.proc p).ae.length:=List.length_modify ..;rw [e];exact ⟨Int.emod_nonneg _ (by omega),Int.emod_lt_of_pos _ (by omega)⟩
  have D:=W.core (y:={bY (s.proc p) i dQ with ag:=((i+1:Nat):Int)%((s.proc p).ae.length:Int)}) b4 (N.ag a8) (by rw [fV]) h0 (u (v:=l.values.headD 0) (f:=(i:Int))).1 u.2;rw [Ba] at D;cases a:l.waiters with
  | nil=>refine D.congr λq=>⟨λh=> ?_,λh=>h.elim⟩;grind
  | cons w r=>
   dsimp only;have Z:=Q w (by rw [a];exact List.mem_cons_self ..);obtain ⟨w1,w2,w3,w4,C⟩:=Z;rcases C with C | ⟨C,n2,w6,w7,_⟩
   ·exact C.elim
   have F:w.proc.toNat≠p:=λe=>by rw [e] at C;omega
   have d:w.proc=((w.proc.toNat:Nat):Int):=by omega
   have Y:=D.told (p:=w.proc.toNat) w2 ⟨λh=>h,.inl ⟨⟨w,r,a,d⟩,F⟩⟩ (by rw [iN F];omega) ⟨n2,by rw [iN F];exact w6⟩ 0;refine Y.congr λq=>⟨λh=> ?_,λh=>h.elim⟩;grind
end
section
variable {c:bd} {fl:Nat->Nat->Bool} {s:MS} {T:Int} {p:Nat} {t:Int} {x:ai} {z:Prop} {X Z:Nat->Prop}
theorem Good.ak {d:Nat->Prop} (g:Good c fl s X Z T) {i:Nat} {y:cR} (pm:vw c T i y)
  (I:∀(k:Nat) o,y.av[k]? =some o->o= -1\/(0<=o/\o.toNat<nQ c/\aH c o.toNat=i/\(kO (s.proc o.toNat)=true\/Z o.toNat)))
  (J:∀(k:Nat) a,y.ah[k]? =some a->∃q,(s.part i).ah[k]? =some q/\a.Sublist q/\(a≠ []->∃o,y.av[k]? =some o/\o≠ -1/\o∉a)/\∀z∈a,¬d z.toNat)
  (H:∀(k:Nat) q,(s.part i).ah[k]? =some q->∃a,y.ah[k]? =some a/\∀z∈q,z∈a\/d z.toNat\/Z z.toNat)
  (b:∀q,Z q->(s.proc q).state≠3)
  (B:∀q,X q->d q) (N:∀q,d q->X q\/(¬Z q/\(s.proc q).state=3/\aH c q=i)):Good c fl (s.eS i y) d Z T where
 tick:=g.tick
 part j hj:=by
  by_cases e:j=i
  ·subst e;rw [uc];exact pm
  ·rw [uT e];exact g.part j hj
 proc:=g.proc
 own j hj k o h:=by
  by_cases e:j=i
  ·subst e;rw [uc] at h;exact I k o h
  ·rw [uT e] at h;exact g.own j hj k o h
 jT j hj k q h:=by
  by_cases e:j=i
  ·subst e;rw [uc] at h ⊢;obtain ⟨M,F,u,v,G⟩:=J k q h;obtain ⟨f,m,n⟩:=g.jT j hj k M F;refine ⟨f.sublist u,λz b=> ?_,v⟩;obtain ⟨a1,a2,a3,a4,a5⟩:=m z (u.subset b);exact ⟨a1,a2,a3,G z b,a5⟩
  ·rw [uT e] at h ⊢;obtain ⟨f,m,n⟩:=g.jT j hj k q h;refine ⟨f,λz b=> ?_,n⟩;obtain ⟨a1,a2,a3,a4,a5⟩:=m z b;refine ⟨a1,a2,a3,λh=> ?_,a5⟩;grind
 dY r hr j l h:=by obtain ⟨f,m,n⟩:=g.dY r hr j l h;refine ⟨f,m,λw K=> ?_⟩;obtain ⟨a1,a2,a3,a4,a5⟩:=n w K;refine ⟨a1,a2,a3,λh=> ?_,a5⟩;grind
 sB q hq hn v:=by
  obtain ⟨k,l,A,C⟩:=g.sB q hq (λh=>hn (B q h)) v;by_cases e:aH c q=i
  ·rw [e] at A ⊢;rw [uc];obtain ⟨L,D,E⟩:=H k l A;refine ⟨k,L,D,?_⟩;rcases E _ C with h | h | h
   ·exact h
   ·grind
   ·exact absurd v (b q (by simpa using h))
  ·rw [uT e];grind
 sA q hq hn u:=g.sA q hq (λh=>hn (B q h)) u
theorem Good.queue (g:Good c fl s No No T) {k:Nat} {n:dF} {o:Int} {q:List Int} (hp:p<nQ c) (hi:aH c p<nP c) (V:(s.proc p).state=0) (N:dP c p (s.proc p)=some n) (O:n.op=29) (Y:n.kf=(k:Int)) (P:(s.part (aH c p)).av[k]? =some o) (a9:o≠ -1) (b0:o≠(p:Int))
  (Q:(s.part (aH c p)).ah[k]? =some q):Good c fl ((s.eS (aH c p) {s.part (aH c p) with ah:=(s.part (aH c p)).ah.modify k (· ++ [(p:Int)])}).bw p {s.proc p with state:=3}) No No T:=by
 have I:Out s No No p:=xN ⟨by omega,by omega⟩;have B:∀r,r≠p->((s.eS (aH c p) {s.part (aH c p) with ah:=(s.part (aH c p)).ah.modify k (· ++ [(p:Int)])}).bw p {s.proc p with state:=3}).proc r=s.proc r:=λr e=>iN e;have H:((s.eS (aH c p) {s.part (aH c p) with ah:=(s.part (aH c p)).ah.modify k (· ++ [(p:Int)])}).bw p {s.proc p with state:=3}).proc p={s.proc p with state:=3}:=fV;have A:∀j,((s.eS (aH c p) {s.part (aH c p) with ah:=(s.part (aH c p)).ah.modify k (· ++ [(p:Int)])}).bw p {s.proc p with state:=3}).part j=(s.eS (aH c p) {s.part (aH c p) with ah:=(s.part (aH c p)).ah.modify k (· ++ [(p:Int)])}).part j:=λj=>rfl;have b7:∀r,kO (s.proc r)=true->kO (((s.eS (aH c p) {s.part (aH c p) with ah:=(s.part (aH c p)).ah.modify k (· ++ [(p:Int)])}).bw p {s.proc p with state:=3}).proc r)=true:=λr h=>by
  by_cases e:r=p
  ·subst e;rw [H];rfl
  grind
 generalize b5:(s.eS (aH c p) {s.part (aH c p) with ah:=(s.part (aH c p)).ah.modify k (· ++ [(p:Int)])}).bw p {s.proc p with state:=3}=J at*;have R:J.tick=s.tick:=by rw [<-b5];rfl
 have a8:∀r,(J.proc r).ae=(s.proc r).ae:=λr=>by grind
 have b6:∀ {i k z},qe c s No No i k z->qe c J No No i k z:=λ{i k z} h=>h.cT (λh=>h) (B _ (h.out I));refine ⟨by rw [R];exact g.tick,λj v=> ?_,λr d=> ?_,λj v f S h=> ?_,λj v f l h=> ?_,λr d j l h=> ?_,λr d _ G=> ?_,λr d _ F=> ?_⟩
 ·rw [A];by_cases e:j=aH c p
  ·subst e;rw [uc];have pm:=g.part _ v;exact ⟨pm.cur,pm.kg,pm.log,pm.lost,pm.lM,pm.full,pm.im,by show ((List.modify _ _ _).length:Int)=_;rw [List.length_modify];exact pm.iP⟩
  ·rw [uT e];exact g.part j v
 ·rw [R];by_cases e:r=p
  ·subst e;rw [H];exact (g.proc r d).wait V (.inr rfl) N ⟨λh=>by omega,λ_=>O⟩
  ·rw [B r e];exact g.proc r d
 ·rw [A] at h;have h:(s.part j).av[f]? =some S:=by
   by_cases e:j=aH c p
   ·subst e;rw [uc] at h;exact h
   ·rw [uT e] at h;exact h
  rcases g.own j v f S h with h | ⟨h1,F,G,h4⟩
  ·exact .inl h
  grind
 ·rw [A] at h ⊢;by_cases e:j=aH c p
  ·subst e;rw [uc] at h ⊢;obtain ⟨b,m,u⟩:=DJ h;obtain ⟨C,D,y⟩:=g.jT _ v f b m;rcases u with ⟨u,rfl⟩ | ⟨u,rfl⟩
   ·subst u;rw [Q] at m;cases m;have b4:(p:Int)∉q:=λhm=>((D _ hm).out I) (by omega);refine ⟨?_,λz hz=> ?_,λ_=>⟨o,P,a9,?_⟩⟩
    ·rw [List.nodup_append];exact ⟨C,by simp,λa W b hb=>by rw [List.mem_singleton.1 hb];exact λe=>b4 (e▸W)⟩
    ·rcases List.mem_append.1 hz with hz | hz
     ·exact b6 (D z hz)
     ·rw [List.mem_singleton.1 hz];refine ⟨by omega,hp,rfl,λh=>h,.inr ?_⟩;rw [Int.toNat_natCast,H];exact ⟨rfl,n,N,O,Y⟩
    ·intro hm;rcases List.mem_append.1 hm with hm | hm
     ·obtain ⟨o',K,_,U⟩:=y (List.ne_nil_of_mem hm);rw [P] at K;cases K;exact U hm
     ·exact b0 (List.mem_singleton.1 hm)
   grind
  ·rw [uT e] at h ⊢;obtain ⟨C,D,y⟩:=g.jT j v f l h;grind
 ·rw [a8] at h;obtain ⟨C,D,y⟩:=g.dY r d j l h;refine ⟨C,λE=> ?_,λw E=>(y w E).cT (λh=>h) (B _ ((y w E).out I))⟩;grind
 ·by_cases e:r=p
  ·subst e;rw [A,uc];exact ⟨k,_,zf Q,List.mem_append_right _ (List.mem_singleton.2 rfl)⟩
  ·rw [B r e] at G;obtain ⟨f,l,m,u⟩:=g.sB r d (λh=>h) G;rw [A];by_cases L:aH c r=aH c p
   ·rw [L] at m ⊢;rw [uc];by_cases M:k=f
    ·subst M;exact ⟨k,_,zf m,List.mem_append_left _ u⟩
    ·exact ⟨f,l,(ND M).trans m,u⟩
   ·rw [uT L];grind
 ·by_cases e:r=p
  ·grind
  ·rw [B r e] at F;obtain ⟨r',b8,l,hl,E⟩:=g.sA r d (λh=>h) F;grind
theorem Good.lock (m:cP c) (g:Good c fl s No No T) {k:Int} {n:dF} (hp:p<nQ c) (i:(s.proc p).state=0) (d:dP c p (s.proc p)=some n) (l:n.op=29) (A:n.kf=k):Good c fl (kE c s p k) No No T:=by
 have hi:=m.fo (p:=p);have C:=yD (m.ins d).1 (.inl l);rw [A] at C;have pm:=g.part _ hi;have K:=pm.im;have L:=pm.iP;have u:=List.getElem?_eq_getElem (show k.toNat<(s.part (aH c p)).ah.length by omega);have r:=List.getElem?_eq_getElem (show k.toNat<(s.part (aH c p)).av.length by omega);generalize (s.part (aH c p)).ah[k.toNat]=q at u;generalize (s.part (aH c p)).av[k.toNat]=o at r;have I:=Bg d;have B:=g.proc p hp;unfold kE;dsimp only;have w:(s.part (aH c p)).av.getD k.toNat 0=o:=by grind
 rw [w];by_cases h:o= -1\/o=(p:Int)
 ·rw [if_pos h];unfold kE.goK;have M:Out s No No p:=xN ⟨by omega,by omega⟩;have f:Good c fl (s.eS (aH c p) {s.part (aH c p) with av:=(s.part (aH c p)).av.set k.toNat p}) No No T:=by
   refine g.ak ⟨pm.cur,pm.kg,pm.log,pm.lost,pm.lM,pm.full,by show ((List.set _ _ _).length:Int)=_;rw [List.length_set];exact pm.im,pm.iP⟩ (λj v a=> ?_) (λj b a=>⟨b,a,List.Sublist.refl _,λJ=> ?_,λ_ _ h=>h⟩) (λj b a=>⟨b,a,λz D=>.inl D⟩) (λ_ h=>h.elim) (λ_ h=>h) λ_ h=>h.elim
   ·have a:((s.part (aH c p)).av.set k.toNat p)[j]? =some v:=a;by_cases e:k.toNat=j
    ·subst e;rw [List.getElem?_set_self (by omega)] at a;cases a;refine .inr ⟨by omega,hp,rfl,.inl ?_⟩;rw [Int.toNat_natCast,dp];omega
    ·rw [List.getElem?_set_ne e] at a;exact g.own _ hi j v a
   ·obtain ⟨F,G,H⟩:=g.jT _ hi j b a;grind
  have E:Out (s.eS (aH c p) {s.part (aH c p) with av:=(s.part (aH c p)).av.set k.toNat p}) No No p:=xN ⟨by show (s.proc p).state≠2;omega,by show (s.proc p).state≠3;omega⟩;exact xP (f.core (y:=s.proc p) (k:=fL (s.proc p).core) E (f.proc p hp) rfl i ⟨by show 0<=(s.proc p).pc+1;omega,by show (s.proc p).pc+1<=_;omega⟩ B.aO)
 ·rw [if_neg h];exact g.queue hp hi i d l (by omega) r (λe=>h (.inl e)) (λe=>h (.inr e)) u
theorem Good.given (g:Good c fl s X Z T) {a:Int} (d:0<=a) (e:a.toNat<nQ c) (f:X a.toNat) (h:¬Z a.toNat) (b:(s.proc a.toNat).state≠4) (hi:∃n,dP c a.toNat (s.proc a.toNat)=some n):Good c fl (jY s a) (λq=>X q/\q≠a.toNat) Z T:=by unfold jY;rw [if_pos d];exact g.P1 e ⟨h,.inl f⟩ b hi
theorem Good.unlock (m:cP c) (g:Good c fl s No No T) {k:Int} (hp:p<nQ c) (M:0<=k/\k<c.ak):Good c fl (Ap c s p k) No No T:=by
 have hi:=m.fo (p:=p);have pm:=g.part _ hi;have N:=pm.im;have O:=pm.iP;have f:=List.getElem?_eq_getElem (show k.toNat<(s.part (aH c p)).ah.length by omega);have B:=List.getElem?_eq_getElem (show k.toNat<(s.part (aH c p)).av.length by omega);generalize (s.part (aH c p)).ah[k.toNat]=q at f;generalize (s.part (aH c p)).av[k.toNat]=o at B;unfold Ap;dsimp only;have F:(s.part (aH c p)).av.getD k.toNat (-1)=o:=by simp [List.getD,B]
 have G:(s.part (aH c p)).ah.getD k.toNat []=q:=by simp [List.getD,f]
 rw [F,G];by_cases h:o=(p:Int)
 ·rw [if_pos h];obtain ⟨D,w,L⟩:=g.jT _ hi _ _ f;cases q with
  | nil=>
   dsimp only;refine g.ak ⟨pm.cur,pm.kg,pm.log,pm.lost,pm.lM,pm.full,by show ((List.set _ _ _).length:Int)=_;rw [List.length_set];exact pm.im,pm.iP⟩ (λj i b=> ?_) (λj d b=>⟨d,b,List.Sublist.refl _,λl=> ?_,λ_ _ h=>h⟩) (λj d b=>⟨d,b,λz hz=>.inl hz⟩) (λ_ h=>h.elim) (λ_ h=>h) λ_ h=>h.elim
   ·have b:((s.part (aH c p)).av.set k.toNat (-1))[j]? =some i:=b;by_cases e:k.toNat=j
    ·subst e;rw [List.getElem?_set_self (by omega)] at b;cases b;exact .inl rfl
    ·rw [List.getElem?_set_ne e] at b;exact g.own _ hi j i b
   ·have b:(s.part (aH c p)).ah[j]? =some d:=b;obtain ⟨E,y,v⟩:=g.jT _ hi j d b;have e:¬k.toNat=j:=λe=>by subst e;rw [f] at b;cases b;exact l rfl
    show ∃o,((s.part (aH c p)).av.set k.toNat (-1))[j]? =some o/\o≠ -1/\o∉d;rw [List.getElem?_set_ne e];exact v l
  | cons a r=>
   dsimp only;obtain ⟨a1,a2,a3,a4,a5⟩:=w a (List.mem_cons_self ..);rcases a5 with a5 | ⟨a5,n,a6,a7,K⟩
   ·exact a5.elim
   have A:=List.nodup_cons.1 D;have H:Good c fl (s.eS (aH c p) {s.part (aH c p) with av:=(s.part (aH c p)).av.set k.toNat a,ah:=(s.part (aH c p)).ah.set k.toNat r}) (λq=>q=a.toNat) No T:=by
    refine g.ak ⟨pm.cur,pm.kg,pm.log,pm.lost,pm.lM,pm.full,by show ((List.set _ _ _).length:Int)=_;rw [List.length_set];exact pm.im,by show ((List.set _ _ _).length:Int)=_;rw [List.length_set];exact pm.iP⟩ (λj i b=> ?_) (λj d b=> ?_) (λj d b=> ?_) (λ_ h=>h.elim) (λ_ h=>h.elim) λd h=>.inr ⟨λh=>h,by rw [h];exact a5,by rw [h];exact a3⟩
    ·have b:((s.part (aH c p)).av.set k.toNat a)[j]? =some i:=b;by_cases e:k.toNat=j
     ·subst e;rw [List.getElem?_set_self (by omega)] at b;cases b;refine .inr ⟨a1,a2,a3,.inl ?_⟩;rw [dp];omega
     ·rw [List.getElem?_set_ne e] at b;exact g.own _ hi j i b
    ·have b:((s.part (aH c p)).ah.set k.toNat r)[j]? =some d:=b;show ∃q,(s.part (aH c p)).ah[j]? =some q/\d.Sublist q/\(d≠ []->∃o,((s.part (aH c p)).av.set k.toNat a)[j]? =some o/\o≠ -1/\o∉d)/\_;by_cases e:k.toNat=j
     ·subst e;rw [List.getElem?_set_self (by omega)] at b;cases b;refine ⟨a::r,f,List.sublist_cons_self ..,λ_=>⟨a,List.getElem?_set_self (by omega),by omega,A.1⟩,λz hz h=> ?_⟩;have P:=(w z (List.mem_cons_of_mem _ hz)).1;have:z=a:=by omega
      exact A.1 (this▸hz)
     ·rw [List.getElem?_set_ne e] at b;obtain ⟨E,y,v⟩:=g.jT _ hi j d b;refine ⟨d,b,List.Sublist.refl _,λl=>by rw [List.getElem?_set_ne e];exact v l,λz hz h=> ?_⟩;obtain ⟨R,S,U,V,u⟩:=y z hz;rcases u with u | ⟨u,Q,C,W,Y⟩
      ·exact u
      ·rw [h,a6] at C;cases C;omega
    ·have b:(s.part (aH c p)).ah[j]? =some d:=b;show ∃J,((s.part (aH c p)).ah.set k.toNat r)[j]? =some J/\_;by_cases e:k.toNat=j
     ·subst e;rw [f] at b;cases b;refine ⟨r,List.getElem?_set_self (by omega),λz hz=> ?_⟩;rcases List.mem_cons.1 hz with rfl | hz
      ·exact .inr (.inl rfl)
      ·exact .inl hz
     ·exact ⟨d,by rw [List.getElem?_set_ne e];exact b,λz hz=>.inl hz⟩
   have I:=H.given a1 a2 rfl (λh=>h) (by show (s.proc a.toNat).state≠4;omega) ⟨n,a6⟩;exact I.congr λq=>⟨λh=>(h.2 h.1).elim,λh=>h.elim⟩
 grind
end
theorem zva {c:Type} {f:c->Bool}:∀ {l:List c} {a:c},a∈l->f a=false->a∈iD f l
 | b::l,a,h,d=>by
  unfold iD;split
  ·grind
  ·rcases List.mem_cons.1 h with rfl | h
   ·simp
   ·exact List.mem_cons_of_mem _ (zva h d)
theorem cn {a:Type} {f:a->Bool}:∀ {l:List a},(iD f l).Sublist l
 | []=>List.Sublist.refl _
 | b::l=>by
  unfold iD;split
  ·simp
  ·exact cn.cons_cons _
theorem Pm {d c:Type} [DecidableEq c] {g:d->c} {b:c}:∀ {l:List d},(l.map g).Nodup->∀a∈iD (λx=>decide (g x=b)) l,g a≠b
 | [],_,a,h=>by cases h
 | x::l,nd,a,h=>by
  rw [List.map_cons,List.nodup_cons] at nd;unfold iD at h;split at h
  ·grind
  ·rename_i e;rcases List.mem_cons.1 h with rfl | h
   ·grind
   ·exact Pm nd.2 a h
section
variable {c:bd} {fl:Nat->Nat->Bool} {s:MS} {T:Int} {p:Nat} {t:Int} {x:ai} {z:Prop} {X Z:Nat->Prop}
theorem Good.dying (g:Good c fl s No No T) {st:Int} (E:st=5\/st=6) (hp:p<nQ c):Good c fl (s.bw p {s.proc p with state:=st,bK:=false}) No (λq=>q=p) T:=by
 have D:∀r,dP c r ((s.bw p {s.proc p with state:=st,bK:=false}).proc r)=dP c r (s.proc r):=λr=>NF rfl;have b:∀r,r≠p->(s.bw p {s.proc p with state:=st,bK:=false}).proc r=s.proc r:=λr e=>iN e;have A:(s.bw p {s.proc p with state:=st,bK:=false}).proc p={s.proc p with state:=st,bK:=false}:=fV;have B:∀r,((s.bw p {s.proc p with state:=st,bK:=false}).proc r).ae=(s.proc r).ae:=λr=>by grind
 refine ⟨g.tick,g.part,λr a=> ?_,λi hi k o h=> ?_,λi hi k q h=> ?_,λr a i l h=> ?_,λr a _ h=> ?_,λr a _ h=> ?_⟩
 ·by_cases e:r=p
  ·subst e;rw [A];have pm:=g.proc r a;exact ⟨by grind,pm.pc,pm.mG,pm.cur,pm.np,pm.nq,.inl rfl,λ_=>⟨.inl rfl,rfl⟩,pm.dY,λh=>by grind,λh=>by grind,λh=>by grind,λh=>by grind,pm.aO⟩
  ·rw [b r e];have pm:=g.proc r a;exact ⟨pm.st,pm.pc,pm.mG,pm.cur,pm.np,pm.nq,.inr (pm.nX.resolve_left (λh=>h)),λh=>⟨.inr ((pm.dead h).1.resolve_left (λh=>h)),(pm.dead h).2⟩,pm.dY,pm.recv,pm.snd,pm.qo,pm.jE,pm.aO⟩
 ·rcases g.own i hi k o h with h | ⟨n,u,v,y⟩
  ·exact .inl h
  ·refine .inr ⟨n,u,v,?_⟩;by_cases e:o.toNat=p
   ·exact .inr e
   ·rw [b _ e];exact .inl (y.resolve_right (λh=>h))
 ·obtain ⟨d,f,j⟩:=g.jT i hi k q h;refine ⟨d,λz C=> ?_,j⟩;obtain ⟨a1,a2,a3,a4,a5⟩:=f z C;refine ⟨a1,a2,a3,a4,?_⟩;grind
 ·rw [B] at h;obtain ⟨d,f,j⟩:=g.dY r a i l h;refine ⟨d,λm=> ?_,λw m=> ?_⟩
  ·obtain ⟨a1,a2,a3⟩:=f m;refine ⟨a1,?_,a3⟩;by_cases e:r=p
   ·exact .inr e
   ·rw [b _ e];exact .inl (a2.resolve_right (λh=>h))
  ·obtain ⟨a1,a2,a3,a4,a5⟩:=j w m;refine ⟨a1,a2,a3,a4,?_⟩;grind
 ·by_cases e:r=p
  ·grind
  ·rw [b _ e] at h;exact g.sB r a (λh=>h) h
 ·by_cases e:r=p
  ·grind
  ·rw [b _ e] at h;obtain ⟨F,n,l,u,v⟩:=g.sA r a (λh=>h) h;grind
theorem Ki {p:Int} {x:ai} {i:Nat} {l:br} (h:(sd p x).ae[i]? =some l):∃a,x.ae[i]? =some a/\l.values=a.values/\l.taken=a.taken/\l.dropped=a.dropped/\l.waiters=iD (λw=>decide (w.proc=p)) a.waiters:=by have h:(x.ae.map _)[i]? =some l:=h;grind
theorem de.leave (pm:de c fl t p z x) {q:Int}:de c fl t p z (sd q x) where
 st:=pm.st
 pc:=pm.pc
 mG:=by show (List.map _ _).length=_;rw [List.length_map];exact pm.mG
 cur:=by show 0<=x.ag/\x.ag<((List.map _ _).length:Int);rw [List.length_map];exact pm.cur
 np:=pm.np
 nq:=pm.nq
 nX:=pm.nX
 dead:=pm.dead
 dY:=λi l h=>by obtain ⟨a,e,k,m,n,_⟩:=Ki h;have:=pm.dY i a e;unfold lL at this ⊢;grind
 recv:=λh=>by obtain ⟨b,d,f⟩:=pm.recv h;refine ⟨b,λl j=> ?_,f⟩;obtain ⟨a,g,rfl⟩:=List.mem_map.1 j;exact d a g
 snd:=pm.snd
 qo:=pm.qo
 jE:=pm.jE
 aO:=pm.aO
theorem Good.leave (g:Good c fl s X (λq=>q=p) T) (b0:(s.proc p).state≠2/\(s.proc p).state≠3) {L:List Nat} (N:∀q,q∈L↔q<nQ c/\aH c q=aH c p):Good c fl (mR p s L) X (λq=>q=p) T/\∀r,r<nQ c->∀l∈((mR p s L).proc r).ae,∀w∈l.waiters,w.proc≠(p:Int):=by
 have I:∀r,(mR p s L).proc r=sd p (s.proc r)\/(mR p s L).proc r=s.proc r:=λr=>by
  by_cases h:r∈L
  ·exact .inl (if_pos h)
  ·exact .inr (if_neg h)
 have D:∀r,((mR p s L).proc r).state=(s.proc r).state/\((mR p s L).proc r).pc=(s.proc r).pc/\((mR p s L).proc r).aO=(s.proc r).aO:=λr=>by rcases I r with h | h<;>rw [h]<;>exact ⟨rfl,rfl,rfl⟩
 have a8:∀r,dP c r ((mR p s L).proc r)=dP c r (s.proc r):=λr=>by unfold dP;grind
 have a9:∀r,kO ((mR p s L).proc r)=kO (s.proc r):=λr=>by unfold kO;rw [(D r).1]
 have H:∀(r i:Nat) (l:br),((mR p s L).proc r).ae[i]? =some l->∃b:br,(s.proc r).ae[i]? =some b/\l.values=b.values/\l.waiters.Sublist b.waiters/\(r∈L->∀w∈iD (λw=>decide (w.proc=(p:Int))) b.waiters,w∈l.waiters)/\(r∈L->l.waiters=iD (λw=>decide (w.proc=(p:Int))) b.waiters)/\(r∉L->l=b):=λr i l h=>by
  by_cases a:r∈L
  ·have e:(mR p s L).proc r=sd p (s.proc r):=if_pos a;rw [e] at h;obtain ⟨b,n,B,_,_,u⟩:=Ki h;exact ⟨b,n,B,by rw [u];exact cn,λ_ w d=>by rw [u];exact d,λ_=>u,λS=>absurd a S⟩
  ·have e:(mR p s L).proc r=s.proc r:=if_neg a;grind
 refine ⟨⟨g.tick,g.part,λr a=> ?_,λi hi k o h=> ?_,λi hi k q h=> ?_,λr a i l h=> ?_,λr a E h=> ?_,λr a E h=> ?_⟩,λr a l R w d G=> ?_⟩
 ·rcases I r with h | h
  ·rw [h];exact (g.proc r a).leave
  ·rw [h];exact g.proc r a
 ·rcases g.own i hi k o h with h | ⟨v,M,F,C⟩
  ·exact .inl h
  grind
 ·obtain ⟨j,y,m⟩:=g.jT i hi k q h;refine ⟨j,λz U=> ?_,m⟩;obtain ⟨a1,a2,a3,a4,a5⟩:=y z U;exact ⟨a1,a2,a3,a4,by grind⟩
 ·obtain ⟨b,n,B,A,_⟩:=H r i l h;obtain ⟨j,y,m⟩:=g.dY r a i b n;refine ⟨j.sublist (A.map _),λd=> ?_,λw d=> ?_⟩
  ·grind
  ·obtain ⟨a1,a2,a3,a4,a5⟩:=m w (A.subset d);refine ⟨a1,a2,a3,a4,?_⟩;grind
 ·rw [(D r).1] at h;exact g.sB r a E h
 ·rw [(D r).1] at h;obtain ⟨f,v,l,M,w,F,C⟩:=g.sA r a E h;have b4:r≠p:=λe=>by grind
  by_cases J:f∈L
  ·have e:(mR p s L).proc f=sd p (s.proc f):=if_pos J;refine ⟨f,v,{l with waiters:=iD (λw=>decide (w.proc=(p:Int))) l.waiters},?_,w,?_,C⟩
   ·rw [e];show (List.map _ _)[_]? =_;grind
   ·exact zva F (decide_eq_false (by rw [C];omega))
  ·have e:(mR p s L).proc f=s.proc f:=if_neg J;grind
 ·obtain ⟨i,hi,Y⟩:=List.getElem_of_mem R;have P:((mR p s L).proc r).ae[i]? =some l:=by grind
  obtain ⟨b,n,B,A,V,u,W⟩:=H r i l P;obtain ⟨j,y,m⟩:=g.dY r a i b n;have K:=A.subset d;have O:=m w K;have hb:=y (List.ne_nil_of_mem K);have Q:r∈L:=(N r).2 ⟨a,by
   have v:=O.2.2.1;rw [G,Int.toNat_natCast] at v;rw [v,hb.1]⟩
  rw [u Q] at d;exact Pm j w d G
end
theorem DK {p:Int}:∀ {os:List Int} {qs:List (List Int)},os.length=qs.length->
  (jH p os qs).1.length=os.length/\(jH p os qs).2.1.length=qs.length/\
  (∀(k:Nat) o q,os[k]? =some o->qs[k]? =some q->(o≠p/\(jH p os qs).1[k]? =some o/\(jH p os qs).2.1[k]? =some q)\/(o=p/\q=[]/\(jH p os qs).1[k]? =some (-1)/\(jH p os qs).2.1[k]? =some [])\/
   (o=p/\∃a r,q=a::r/\(jH p os qs).1[k]? =some a/\(jH p os qs).2.1[k]? =some r/\a∈(jH p os qs).2.2))/\
  (∀a∈(jH p os qs).2.2,a= -1\/∃(k:Nat) (r:List Int),os[k]? =some p/\qs[k]? =some (a::r))/\
  ((∀(j k:Nat) (z:Int) (a b:List Int),qs[j]? =some a->qs[k]? =some b->z∈a->z∈b->j=k)->(jH p os qs).2.2.Pairwise λa b=>a≠b\/a= -1)
 | [],[],_=>by simp [jH]
 | [],_::_,h=>by simp at h
 | _::_,[],h=>by simp at h
 | o::os,q::qs,h=>by
  obtain ⟨t,u,v,B,w⟩:=DK (p:=p) (os:=os) (qs:=qs) (by simpa using h);have y:(∀(j k:Nat) (z:Int) (a b:List Int),(q::qs)[j]? =some a->(q::qs)[k]? =some b->z∈a->z∈b->j=k)->∀(j k:Nat) (z:Int) (a b:List Int),qs[j]? =some a->qs[k]? =some b->z∈a->z∈b->j=k:=λg j k z a b ha hb E F=>by have:=g (j+1) (k+1) z a b (by simpa using ha) (by simpa using hb) E F;omega
  have C:∀a∈(jH p os qs).2.2,a= -1\/∃(k:Nat) (r:List Int),(o::os)[k]? =some p/\(q::qs)[k]? =some (a::r):=λa ha=>(B a ha).imp id λ⟨k,r,A,s⟩=>⟨k+1,r,by simpa using A,by simpa using s⟩;unfold jH;dsimp only;by_cases e:o=p
  ·rw [if_pos e];cases q with
   | nil=>
    dsimp only;refine ⟨by simp [t],by simp [u],λk m n i l=> ?_,λa ha=> ?_,λg=> ?_⟩
    ·cases k with
     | zero=>grind
     | succ k=>
      rcases v k m n (by simpa using i) (by simpa using l) with ⟨a,b,c⟩ | ⟨a,b,c,d⟩ | ⟨a,x,r,b,c,d,f⟩
      ·exact .inl ⟨a,by simpa using b,by simpa using c⟩
      ·exact .inr (.inl ⟨a,b,by simpa using c,by simpa using d⟩)
      ·exact .inr (.inr ⟨a,x,r,b,by simpa using c,by simpa using d,List.mem_cons_of_mem _ f⟩)
    ·grind
    ·exact List.pairwise_cons.2 ⟨λb _=>.inr rfl,w (y g)⟩
   | cons x r=>
    dsimp only;refine ⟨by simp [t],by simp [u],λk m n i l=> ?_,λa ha=> ?_,λg=> ?_⟩
    ·cases k with
     | zero=>grind
     | succ k=>
      rcases v k m n (by simpa using i) (by simpa using l) with ⟨a,b,c⟩ | ⟨a,b,c,d⟩ | ⟨a,x,r,b,c,d,f⟩
      ·exact .inl ⟨a,by simpa using b,by simpa using c⟩
      ·exact .inr (.inl ⟨a,b,by simpa using c,by simpa using d⟩)
      ·exact .inr (.inr ⟨a,x,r,b,by simpa using c,by simpa using d,List.mem_cons_of_mem _ f⟩)
    ·rcases List.mem_cons.1 ha with rfl | ha
     ·exact .inr ⟨0,r,by simp [e],by simp⟩
     ·exact C a ha
    ·refine List.pairwise_cons.2 ⟨λb hb=> ?_,w (y g)⟩;rcases B b hb with rfl | ⟨k,G,A,s⟩
     ·omega
     ·refine .inl λD=> ?_;subst D;have:=g 0 (k+1) x (x::r) (x::G) (by simp) (by simpa using s) (List.mem_cons_self ..) (List.mem_cons_self ..);omega
  ·rw [if_neg e];refine ⟨by simp [t],by simp [u],λk m n i l=> ?_,λa ha=>C a ha,λg=>w (y g)⟩;cases k with
   | zero=>grind
   | succ k=>
    rcases v k m n (by simpa using i) (by simpa using l) with ⟨a,b,c⟩ | ⟨a,b,c,d⟩ | ⟨a,x,r,b,c,d,f⟩
    ·exact .inl ⟨a,by simpa using b,by simpa using c⟩
    ·exact .inr (.inl ⟨a,b,by simpa using c,by simpa using d⟩)
    grind
section
variable {c:bd} {fl:Nat->Nat->Bool} {s:MS} {T:Int} {p:Nat} {X Z:Nat->Prop}
theorem Good.sx :∀ {l:List Int} {s:MS},Good c fl s (λq=>(q:Int)∈l) Z T->(l.Pairwise λa b=>a≠b\/a= -1)->(∀a∈l,a= -1\/(0<=a/\a.toNat<nQ c/\¬Z a.toNat/\(s.proc a.toNat).state≠4/\∃n,dP c a.toNat (s.proc a.toNat)=some n))->Good c fl (l.foldl jY s) No Z T
 | [],s,g,_,_=>g.congr λq=>⟨λh=>(by cases h),λh=>h.elim⟩
 | a::l,s,g,hp,d=>by
  obtain ⟨m,f⟩:=List.pairwise_cons.1 hp;rw [List.foldl_cons];rcases d a (List.mem_cons_self ..) with w | ⟨a1,a2,a3,a4,a5⟩
  ·have e:jY s a=s:=by unfold jY;rw [om]
   rw [e];refine Good.sx (g.congr λq=>⟨λh=> ?_,λh=>List.mem_cons_of_mem _ h⟩) f λb hb=>d b (List.mem_cons_of_mem _ hb);grind
  ·have j:a∉l:=λh=>(m a h).elim (λh=>h rfl) (λh=>by omega);have i:=g.given a1 a2 (by grind) a3 a4 a5;refine Good.sx (i.congr λq=>⟨λh=> ?_,λh=>⟨List.mem_cons_of_mem _ h,λe=> ?_⟩⟩) f λb hb=> ?_
   ·grind
   ·grind
   ·rcases d b (List.mem_cons_of_mem _ hb) with h | ⟨o,r,t,u,v⟩
    ·exact .inl h
    ·have k:b.toNat≠a.toNat:=λe=>j (by rw [show a=b by omega];exact hb);have e:(jY s a).proc b.toNat=s.proc b.toNat:=by unfold jY;rw [if_pos a1];exact iN k
     grind
theorem Good.A2 {v:Int}:∀ {l:List ly} {s:MS},Good c fl s (λq=>(q:Int)∈l.map (·.proc)) No T->(l.map (·.proc)).Nodup->(∀w∈l,0<=w.proc/\w.proc.toNat<nQ c/\(s.proc w.proc.toNat).state≠4/\∃n,dP c w.proc.toNat (s.proc w.proc.toNat)=some n)->Good c fl (l.foldl (λs w=>da c s w.proc.toNat v) s) No No T
 | [],s,g,_,_=>g.congr λq=>⟨λh=>(by cases h),λh=>h.elim⟩
 | a::l,s,g,hp,d=>by
  rw [List.map_cons,List.nodup_cons] at hp;rw [List.foldl_cons];obtain ⟨a1,a2,a4,a5⟩:=d a (List.mem_cons_self ..);have r:((a.proc.toNat:Nat):Int)=a.proc:=by omega
  have f:=g.told (p:=a.proc.toNat) a2 ⟨λh=>h,.inl (by grind)⟩ a4 a5 v;refine Good.A2 (f.congr λq=>⟨λh=> ?_,λh=>⟨List.mem_cons_of_mem _ h,λe=> ?_⟩⟩) hp.2 λb hb=> ?_
  ·grind
  ·grind
  ·obtain ⟨j,k,m,o⟩:=d b (List.mem_cons_of_mem _ hb);have i:b.proc.toNat≠a.proc.toNat:=λe=>hp.1 (List.mem_map.2 ⟨b,hb,by omega⟩);have e:(da c s a.proc.toNat v).proc b.proc.toNat=s.proc b.proc.toNat:=iN i;grind
theorem Good.vJ (g:Good c fl s No (λq=>q=p) T) (hi:aH c p<nP c) (b9:(s.proc p).state≠3):Good c fl (((zO p (s.part (aH c p))).2).foldl jY (s.eS (aH c p) (zO p (s.part (aH c p))).1)) No (λq=>q=p) T/\
  (∀i,i<nP c->∀(k:Nat),((s.eS (aH c p) (zO p (s.part (aH c p))).1).part i).av[k]?≠some (p:Int))/\∀i,i<nP c->∀(k:Nat) q,((s.eS (aH c p) (zO p (s.part (aH c p))).1).part i).ah[k]? =some q->(p:Int)∉q:=by
 have pm:=g.part _ hi;have b4:(s.part (aH c p)).av.length=((s.part (aH c p)).ah.map (iD λz=>decide (z=(p:Int)))).length:=by have:=pm.im;have:=pm.iP;grind
 obtain ⟨L1,L2,H,HG,S⟩:=DK (p:=(p:Int)) b4;have B:∀ {z:Int} {q:List Int} {k:Nat},(s.part (aH c p)).ah[k]? =some q->z∈q->z≠(p:Int)->0<=z/\z.toNat<nQ c/\aH c z.toNat=aH c p/\z.toNat≠p/\(s.proc z.toNat).state=3/\∃n,dP c z.toNat (s.proc z.toNat)=some n/\n.op=29/\n.kf=(k:Int):=λ{z q k} J v I=>by obtain ⟨a1,a2,a3,a4,a5⟩:=(g.jT _ hi k q J).2.1 z v;grind
 have b2:∀ {k:Nat} {q:List Int},((s.part (aH c p)).ah.map (iD λz=>decide (z=(p:Int))))[k]? =some q->∃l,(s.part (aH c p)).ah[k]? =some l/\q=iD (λz=>decide (z=(p:Int))) l:=λ{k q} h=>by grind
 have D:∀ {k:Nat} {l:List Int} {z:Int},(s.part (aH c p)).ah[k]? =some l->z∈iD (λz=>decide (z=(p:Int))) l->z≠(p:Int):=λ{k l z} J v=>by have nd:=(g.jT _ hi k l J).1;exact Pm (g:=λz=>z) (by simpa using nd) z v
 have b1:∀(j k:Nat) (z:Int) (a b:List Int),((s.part (aH c p)).ah.map (iD λz=>decide (z=(p:Int))))[j]? =some a->((s.part (aH c p)).ah.map (iD λz=>decide (z=(p:Int))))[k]? =some b->z∈a->z∈b->j=k:=by intro j k z a b C hb b6 c2;obtain ⟨a0,a8,rfl⟩:=b2 C;obtain ⟨b0,b7,rfl⟩:=b2 hb;have I:=D a8 b6;obtain ⟨_,_,_,_,_,n1,m,_,N⟩:=B a8 (cn.subset b6) I;obtain ⟨_,_,_,_,_,n2,f1,_,f3⟩:=B b7 (cn.subset c2) I;grind
 have V:∀a∈(jH (p:Int) (s.part (aH c p)).av ((s.part (aH c p)).ah.map (iD λz=>decide (z=(p:Int))))).2.2,a= -1\/∃(k:Nat) (l r:List Int),(s.part (aH c p)).av[k]? =some (p:Int)/\(s.part (aH c p)).ah[k]? =some l/\iD (λz=>decide (z=(p:Int))) l=a::r:=λa C=>by grind
 have S:=S b1;have b3:∀ {k:Nat} {l:List Int},(s.part (aH c p)).ah[k]? =some l->∃o,(s.part (aH c p)).av[k]? =some o:=λ{k l} h=>by have h1:=(List.getElem?_eq_some_iff.1 h).1;rw [List.length_map] at b4;exact ⟨_,List.getElem?_eq_getElem (by omega)⟩
 have G:∀ {k:Nat} {l:List Int},(s.part (aH c p)).ah[k]? =some l->((s.part (aH c p)).ah.map (iD λz=>decide (z=(p:Int))))[k]? =some (iD (λz=>decide (z=(p:Int))) l):=λ{k l} h=>by grind
 have eY:zO p (s.part (aH c p))=({s.part (aH c p) with av:=(jH (p:Int) (s.part (aH c p)).av ((s.part (aH c p)).ah.map (iD λz=>decide (z=(p:Int))))).1,ah:=(jH (p:Int) (s.part (aH c p)).av ((s.part (aH c p)).ah.map (iD λz=>decide (z=(p:Int))))).2.1},(jH (p:Int) (s.part (aH c p)).av ((s.part (aH c p)).ah.map (iD λz=>decide (z=(p:Int))))).2.2):=rfl;rw [eY];dsimp only;generalize jH (p:Int) (s.part (aH c p)).av ((s.part (aH c p)).ah.map (iD λz=>decide (z=(p:Int))))=R at*;have a9:∀(k:Nat) u,R.2.1[k]? =some u->∃l o,(s.part (aH c p)).ah[k]? =some l/\(s.part (aH c p)).av[k]? =some o/\((o≠(p:Int)/\R.1[k]? =some o/\u=iD (λz=>decide (z=(p:Int))) l)\/(o=(p:Int)/\iD (λz=>decide (z=(p:Int))) l=[]/\R.1[k]? =some (-1)/\u=[])\/(o=(p:Int)/\∃a,iD (λz=>decide (z=(p:Int))) l=a::u/\R.1[k]? =some a/\a∈R.2.2)):=λk u h=>by
  have h1:=(List.getElem?_eq_some_iff.1 h).1;rw [L2,List.length_map] at h1;have m:=List.getElem?_eq_getElem h1;obtain ⟨o,t⟩:=b3 m;refine ⟨_,o,m,t,?_⟩;rcases H k o _ t (G m) with ⟨a,b,d⟩ | ⟨a,b,d,f⟩ | ⟨a,x,r,b,d,f,y⟩
  ·rw [h] at d;exact .inl ⟨a,b,Option.some.inj d⟩
  ·rw [h] at f;exact .inr (.inl ⟨a,b,d,Option.some.inj f⟩)
  grind
 have b5:∀(k:Nat) u,R.2.1[k]? =some u->∃l,(s.part (aH c p)).ah[k]? =some l/\u.Sublist (iD (λz=>decide (z=(p:Int))) l):=λk u h=>by
  obtain ⟨l,o,m,t,F⟩:=a9 k u h;refine ⟨l,m,?_⟩;rcases F with ⟨_,_,e⟩ | ⟨_,_,_,e⟩ | ⟨_,a,e,_⟩
  ·rw [e];exact List.Sublist.refl _
  ·rw [e];exact List.nil_sublist _
  grind
 have b8:∀(k:Nat) A,R.1[k]? =some A->A= -1\/(A≠(p:Int)/\((s.part (aH c p)).av[k]? =some A\/∃l,(s.part (aH c p)).ah[k]? =some l/\A∈l)):=λk A h=>by
  have h1:=(List.getElem?_eq_some_iff.1 h).1;rw [L1] at h1;have c1:k<(s.part (aH c p)).ah.length:=by grind
  have m:=List.getElem?_eq_getElem c1;have t:=List.getElem?_eq_getElem h1;rcases H k _ _ t (G m) with ⟨a,b,d⟩ | ⟨a,b,d,f⟩ | ⟨a,x,r,b,d,f,y⟩
  ·grind
  ·grind
  ·rw [h] at d;cases d;have hx:A∈iD (λz=>decide (z=(p:Int))) (s.part (aH c p)).ah[k]:=by rw [b];exact List.mem_cons_self ..
   exact .inr ⟨D m hx,.inr ⟨_,m,cn.subset hx⟩⟩
 have g3:Good c fl (s.eS (aH c p) {s.part (aH c p) with av:=R.1,ah:=R.2.1}) (λq=>(q:Int)∈R.2.2) (λq=>q=p) T:=by
  refine g.ak ⟨pm.cur,pm.kg,pm.log,pm.lost,pm.lM,pm.full,by show (R.1.length:Int)=_;rw [L1];exact pm.im,by show (R.2.1.length:Int)=_;rw [L2,List.length_map];exact pm.iP⟩ (λk A h=> ?_) (λk u h=> ?_) (λk l h=> ?_) (λq J=>by rw [J];exact b9) (λ_ h=>h.elim) λq h=>.inr ?_
  ·rcases b8 k A h with h1 | ⟨h1,U | ⟨l,U,F⟩⟩
   ·exact .inl h1
   ·exact g.own _ hi k A U
   ·obtain ⟨a1,a2,a3,a4,a5,_⟩:=B U F h1;refine .inr ⟨a1,a2,a3,.inl ?_⟩;rw [dp];omega
  ·have h:R.2.1[k]? =some u:=h;obtain ⟨l,o,m,t,F⟩:=a9 k u h;obtain ⟨q1,f1,f2⟩:=b5 k u h;rw [m] at f1;cases f1;obtain ⟨d1,d2,d3⟩:=g.jT _ hi k l m;refine ⟨l,m,f2.trans cn,λI=> ?_,λz v O=> ?_⟩
   ·show ∃o,R.1[k]? =some o/\o≠ -1/\o∉u;rcases F with ⟨K,E,P⟩ | ⟨K,E,P,x4⟩ | ⟨K,a,E,P,x4⟩
    ·have c0:l≠ []:=λh=>I (List.eq_nil_of_sublist_nil (h▸f2.trans cn));obtain ⟨o1,L,M,Q⟩:=d3 c0;rw [t] at L;cases L;exact ⟨o,E,M,λw=>Q ((f2.trans cn).subset w)⟩
    ·grind
    ·have C:a∈iD (λz=>decide (z=(p:Int))) l:=by rw [E];exact List.mem_cons_self ..
     have:=(B m (cn.subset C) (D m C)).1;refine ⟨a,P,by omega,λw=> ?_⟩;have nd:=d1.sublist (cn (f:=λz=>decide (z=(p:Int))));grind
   ·have Y:=f2.subset v;have c3:=D m Y;have c5:=B m (cn.subset Y) c3;have ez:((z.toNat:Nat):Int)=z:=by omega
    have O:((z.toNat:Nat):Int)∈R.2.2:=O;rw [ez] at O;rcases V z O with h5 | ⟨k2,q2,r2,L,M,Q⟩
    ·omega
    ·have hk:=b1 k k2 z _ _ (G m) (G M) Y (by grind);subst hk;rw [m] at M;cases M;rw [t] at L;cases L;rcases F with ⟨K,_⟩ | ⟨_,E,_⟩ | ⟨K,a,E,P,x4⟩
     ·exact K rfl
     ·grind
     ·rw [E] at Q;cases Q;have nd:=d1.sublist (cn (f:=λz=>decide (z=(p:Int))));grind
  ·obtain ⟨o,t⟩:=b3 h;have key:∀z∈l,z=(p:Int)\/z∈iD (λz=>decide (z=(p:Int))) l:=λz v=>by
    by_cases e:z=(p:Int)
    ·exact .inl e
    ·exact .inr (zva v (decide_eq_false e))
   show ∃u,R.2.1[k]? =some u/\_;rcases H k o _ t (G h) with ⟨a,b,d⟩ | ⟨a,b,d,f⟩ | ⟨a,x,r,b,d,f,y⟩
   ·refine ⟨_,d,λz v=> ?_⟩;rcases key z v with h1 | h1
    ·exact .inr (.inr (by omega))
    ·exact .inl h1
   ·refine ⟨_,f,λz v=> ?_⟩;grind
   ·refine ⟨_,f,λz v=> ?_⟩;rcases key z v with h1 | h1
    ·exact .inr (.inr (by omega))
    ·have c4:=(B h (cn.subset h1) (D h h1)).1;rw [b] at h1;rcases List.mem_cons.1 h1 with rfl | h1
     ·refine .inr (.inl ?_);show ((z.toNat:Nat):Int)∈R.2.2;rw [show ((z.toNat:Nat):Int)=z by omega];exact y
     ·exact .inl h1
  ·have h:(q:Int)∈R.2.2:=h;rcases V _ h with h1 | ⟨k,l,r,m,t,N⟩
   ·omega
   ·have w:(q:Int)∈iD (λz=>decide (z=(p:Int))) l:=by rw [N];exact List.mem_cons_self ..
    have ho:=B t (cn.subset w) (D t w);rw [Int.toNat_natCast] at ho;omega
 refine ⟨Good.sx g3 S λa C=> ?_,λi W k h=> ?_,λi W k q h w=> ?_⟩
 ·rcases V a C with h | ⟨k,l,r,m,t,N⟩
  ·exact .inl h
  ·have w:a∈iD (λz=>decide (z=(p:Int))) l:=by rw [N];exact List.mem_cons_self ..
   obtain ⟨a1,a2,a3,a4,a5,n,a6,_⟩:=B t (cn.subset w) (D t w);exact .inr ⟨a1,a2,a4,by show (s.proc a.toNat).state≠4;omega,n,a6⟩
 ·by_cases e:i=aH c p
  ·subst e;rw [uc] at h;grind
  ·rw [uT e] at h;rcases g.own i W k _ h with h1 | ⟨_,_,h1,_⟩
   ·omega
   grind
 ·by_cases e:i=aH c p
  ·subst e;rw [uc] at h;obtain ⟨l,m,t⟩:=b5 k q h;grind
  ·rw [uT e] at h;have:=((g.jT i W k q h).2.1 _ w).2.2.1;grind
end
section
variable {c:bd} {fl:Nat->Nat->Bool} {s:MS} {T:Int} {p:Nat} {X Z:Nat->Prop}
theorem Kj :∀ {l:List Int} {s:MS},(∀a∈l,a≠(p:Int))->((l.foldl jY s).proc p)=s.proc p
 | [],_,_=>rfl
 | a::l,s,h=>by
  rw [List.foldl_cons,Kj λb hb=>h b (List.mem_cons_of_mem _ hb)];unfold jY;split
  ·have:=h a (List.mem_cons_self ..);exact iN (by omega)
  ·rfl
theorem Kk {q:Nat}:∀ {l:List Int} {s:MS},((l.foldl jY s).proc q).ae=(s.proc q).ae/\(l.foldl jY s).part=s.part
 | [],_=>⟨rfl,rfl⟩
 | a::l,s=>by
  have h:=Kk (q:=q) (l:=l) (s:=jY s a);have b:((jY s a).proc q).ae=(s.proc q).ae/\(jY s a).part=s.part:=by
   unfold jY;split
   ·unfold pT;refine ⟨?_,rfl⟩;by_cases e:q=a.toNat
    ·subst e;rw [fV];rfl
    ·rw [iN e]
   ·exact ⟨rfl,rfl⟩
  grind
theorem Good.empty (g:Good c fl s No (λq=>q=p) T) (hp:p<nQ c) (b0:(s.proc p).state=5\/(s.proc p).state=6) (a8:∀i,i<nP c->∀(k:Nat),(s.part i).av[k]?≠some (p:Int)) (Q:∀i,i<nP c->∀(k:Nat) q,(s.part i).ah[k]? =some q->(p:Int)∉q)
  (R:∀r,r<nQ c->∀l∈(s.proc r).ae,∀w∈l.waiters,w.proc≠(p:Int)):Good c fl (je (iv s p) p) (λq=>(q:Int)∈(((s.proc p).ae.flatMap (·.waiters)).map (·.proc))) No T:=by
 have x:(je (iv s p) p).proc p={s.proc p with timer:=0,cp:=0,ae:=(s.proc p).ae.map tC}:=by unfold je iv;rw [fV,fV]
 have j:∀r,r≠p->(je (iv s p) p).proc r=s.proc r:=λr e=>by unfold je iv;rw [iN e,iN e]
 have m:(je (iv s p) p).part=s.part:=rfl;have H:(je (iv s p) p).tick=s.tick:=rfl;have G:∀q:Nat,(q:Int)∈(((s.proc p).ae.flatMap (·.waiters)).map (·.proc))->q≠p/\(s.proc q).state=2/\∃n,dP c q (s.proc q)=some n/\n.op=24/\fy (s.proc q).aO n.b=(p:Int):=by
  intro q h;obtain ⟨w,d,e⟩:=List.mem_map.1 h;obtain ⟨l,P,S⟩:=List.mem_flatMap.1 d;obtain ⟨i,hi,N⟩:=List.getElem_of_mem P;have O:(s.proc p).ae[i]? =some l:=by rw [List.getElem?_eq_getElem hi,N]
  obtain ⟨a1,a2,a3,a4,a5⟩:=(g.dY p hp i l O).2.2 w S;grind
 generalize je (iv s p) p=s' at*;refine ⟨by rw [H];exact g.tick,λi hi=>by rw [m];exact g.part i hi,λr a=> ?_,λi hi k o h=> ?_,λi hi k q h=> ?_,λr a i l h=> ?_,λr a f h=> ?_,λr a f h=> ?_⟩
 ·rw [H];have pm:=g.proc r a;have ht:=g.tick;by_cases e:r=p
  ·subst e;rw [x];refine ⟨pm.st,pm.pc,by show (List.map _ _).length=_;rw [List.length_map];exact pm.mG,by show 0<=(s.proc r).ag/\(s.proc r).ag<((List.map _ _).length:Int);rw [List.length_map];exact pm.cur,by show (0:Int)<=0/\(0:Int)<=_;omega,by show (0:Int)<=0/\(0:Int)<=_;omega,.inr ⟨λh=>absurd h (Int.lt_irrefl 0),λh=> ?_⟩,λh=>⟨.inr rfl,(pm.dead h).2⟩,λi l h=> ?_,λh=> ?_,λh=> ?_,λh=> ?_,λh=> ?_,pm.aO⟩
   ·have h:(s.proc r).state=4:=h;omega
   ·have h:((s.proc r).ae.map tC)[i]? =some l:=h;rw [List.getElem?_map] at h;cases e:(s.proc r).ae[i]? with
    | none=>rw [e] at h;cases h
    | some J=>rw [e] at h;cases h;exact pm.dY i J e
   ·have h:(s.proc r).state=1:=h;omega
   ·have h:(s.proc r).state=2:=h;omega
   ·have h:(s.proc r).state=3:=h;omega
   grind
  ·rw [j r e];exact ⟨pm.st,pm.pc,pm.mG,pm.cur,pm.np,pm.nq,.inr (pm.nX.resolve_left e),λh=>⟨.inr ((pm.dead h).1.resolve_left e),(pm.dead h).2⟩,pm.dY,pm.recv,pm.snd,pm.qo,pm.jE,pm.aO⟩
 ·rw [m] at h;rcases g.own i hi k o h with v | ⟨v,D,E,F⟩
  ·exact .inl v
  grind
 ·rw [m] at h ⊢;obtain ⟨t,B,u⟩:=g.jT i hi k q h;refine ⟨t,λz I=> ?_,u⟩;obtain ⟨a1,a2,a3,a4,a5⟩:=B z I;have U:z.toNat≠p:=λe=>Q i hi k q h (by rw [show (p:Int)=z by clear a5;omega];exact I);have a5:=a5.resolve_left U;refine ⟨a1,a2,a3,λf=> ?_,.inr ?_⟩
  ·have:=(G _ f).2.1;have h9:=a5.1;clear a5;omega
  grind
 ·by_cases e:r=p
  ·subst e;rw [x] at h;have h:((s.proc r).ae.map tC)[i]? =some l:=h;rw [List.getElem?_map] at h;cases e:(s.proc r).ae[i]? with
   | none=>grind
   | some J=>rw [e] at h;cases h;exact ⟨List.Pairwise.nil,λh=>absurd rfl h,λw d=>by cases d⟩
  ·rw [j r e] at h;obtain ⟨t,B,u⟩:=g.dY r a i l h;refine ⟨t,λd=> ?_,λw d=> ?_⟩
   ·grind
   ·obtain ⟨a1,a2,a3,a4,a5⟩:=u w d;have A:=R r a l (List.mem_of_getElem? h) w d;have A:w.proc.toNat≠p:=λe=>A (by clear a5;omega);obtain ⟨W,n,K,Y,L,c5⟩:=a5.resolve_left A;refine ⟨a1,a2,a3,λf=> ?_,.inr ?_⟩
    ·obtain ⟨_,_,n',C,_,M⟩:=G _ f;rw [K] at C;cases C;rw [L] at M;clear a5;omega
    grind
 ·have y:r≠p:=λe=>by grind
  rw [j r y] at h;rw [m];exact g.sB r a (λh=>h) h
 ·have y:r≠p:=λe=>by subst e;rw [x] at h;have h:(s.proc r).state=2:=h;omega
  rw [j r y] at h;obtain ⟨V,v,l,D,w,E,F⟩:=g.sA r a (λh=>h) h;have a9:V≠p:=λe=>by subst e;refine f ?_;show (r:Int)∈_;exact List.mem_map.2 ⟨w,List.mem_flatMap.2 ⟨l,List.mem_of_getElem? D,E⟩,F⟩
  grind
theorem Good.ends (m:cP c) (g:Good c fl s No No T) {st:Int} (W:st=5\/st=6) (hp:p<nQ c):Good c fl (oY c s p st) No No T:=by
 have hi:=m.fo (p:=p);rw [zS];have I:=g.dying (st:=st) W hp;have A:((gm s p st).proc p).state=st:=by unfold gm;rw [fV]
 obtain ⟨t,B⟩:=Good.leave (p:=p) (s:=gm s p st) (L:=eC c (aH c p)) I ⟨by rw [A];omega,by rw [A];omega⟩ λq=>gD;have t:Good c fl (ee c s p st) No (λq=>q=p) T:=t;have B:∀r,r<nQ c->∀l∈((ee c s p st).proc r).ae,∀w∈l.waiters,w.proc≠(p:Int):=B;have f:((ee c s p st).proc p).state=st:=by show (if p∈eC c (aH c p) then sd p ((gm s p st).proc p) else (gm s p st).proc p).state=st;split<;>exact A
 obtain ⟨v,U,V⟩:=t.vJ hi (by rw [f];omega);have v:Good c fl (jc c (ee c s p st) p) No (λq=>q=p) T:=v;have E:=λq=>Kk (q:=q) (l:=(zO p ((ee c s p st).part (aH c p))).2) (s:=qn c (ee c s p st) p);have F:(jc c (ee c s p st) p).part=(qn c (ee c s p st) p).part:=(E 0).2;have R:∀q,((jc c (ee c s p st) p).proc q).ae=((ee c s p st).proc q).ae:=λq=>(E q).1;have a9:(jc c (ee c s p st) p).proc p=(ee c s p st).proc p:=by
  refine Kj (s:=qn c (ee c s p st) p) λa N=> ?_;have S:((ee c s p st).part (aH c p)).av.length=(((ee c s p st).part (aH c p)).ah.map (iD λz=>decide (z=(p:Int)))).length:=by have:=(t.part _ hi).im;have:=(t.part _ hi).iP;grind
  rcases (DK (p:=(p:Int)) S).2.2.2.1 a N with h | ⟨k,r,D,u⟩
  ·omega
  ·intro e;rw [List.getElem?_map] at u;cases C:((ee c s p st).part (aH c p)).ah[k]? with
   | none=>grind
   | some q0=>rw [C] at u;have u:=Option.some.inj u;have nd:=(t.jT _ hi k q0 C).1;exact Pm (g:=λz=>z) (by simpa using nd) a (by grind) e
 have Y:((jc c (ee c s p st) p).proc p).state=5\/((jc c (ee c s p st) p).proc p).state=6:=by grind
 generalize jc c (ee c s p st) p=d at*;have J:=v.empty hp Y (λi hi k=>by rw [F];exact U i hi k) (λi hi k q h=>by rw [F] at h;exact V i hi k q h) λr hr l b=>by grind
 have H:qW c (iv d p) p=((d.proc p).ae.flatMap (·.waiters)).foldl (λs w=>da c s w.proc.toNat 2) (je (iv d p) p):=by
  unfold qW;have:((iv d p).proc p).ae=(d.proc p).ae:=by unfold iv;rw [fV]
  rw [this]
 rw [H];refine Good.A2 J ?_ λw hw=> ?_
 · -- kS waits stands in one lane alone
  have key:∀(o:List br) (j:Nat),(∀(i:Nat) l,o[i]? =some l->(l.waiters.map (·.proc)).Nodup/\(l.waiters≠ []->i=j))->((o.flatMap (·.waiters)).map (·.proc)).Nodup:=by
   intro o
   induction o with
   | nil=>intro j _;exact List.Pairwise.nil
   | cons a o ih=>
    intro j h;rw [List.flatMap_cons,List.map_append];obtain ⟨D,u⟩:=h 0 a rfl;by_cases e:a.waiters=[]
    ·rw [e];cases j with
     | zero=>
      have:o.flatMap (·.waiters)=[]:=by
       rw [List.flatMap_eq_nil_iff];intro l b;obtain ⟨i,hi,x⟩:=List.getElem_of_mem b;by_cases f:l.waiters=[]
       ·exact f
       ·have:=(h (i+1) l (by simp [List.getElem?_eq_getElem hi,x])).2 f;omega
      rw [this];exact List.Pairwise.nil
     | succ j=>refine ih j λi l b=> ?_;obtain ⟨K,M⟩:=h (i+1) l (by simpa using b);exact ⟨K,λy=>by have:=M y;omega⟩
    ·have Q:=u e;subst Q;have:o.flatMap (·.waiters)=[]:=by
      rw [List.flatMap_eq_nil_iff];intro l b;obtain ⟨i,hi,x⟩:=List.getElem_of_mem b;by_cases f:l.waiters=[]
      ·exact f
      ·have:=(h (i+1) l (by simp [List.getElem?_eq_getElem hi,x])).2 f;omega
     rw [this];simpa using D
  refine key _ (aH c p) λi l b=> ?_;obtain ⟨b1,b2,b3⟩:=v.dY p hp i l b;grind
 ·obtain ⟨l,b,G⟩:=List.mem_flatMap.1 hw;obtain ⟨i,P,x⟩:=List.getElem_of_mem b;have O:(d.proc p).ae[i]? =some l:=by rw [List.getElem?_eq_getElem P,x]
  obtain ⟨a1,a2,a3,a4,a5⟩:=(v.dY p hp i l O).2.2 w G;have a8:=B p hp l (by rw [R] at b;exact b) w G;have y:w.proc.toNat≠p:=λe=>a8 (by clear a5;omega);obtain ⟨c1,n,c2,_⟩:=a5.resolve_left y;have e:(je (iv d p) p).proc w.proc.toNat=d.proc w.proc.toNat:=by unfold je iv;rw [iN y,iN y]
  grind
end
section
variable {c:bd} {fl:Nat->Nat->Bool} {s:MS} {T:Int} {p:Nat} {t:Int} {x:ai} {z:Prop}
theorem Good.out (m:cP c) (g:Good c fl s No No T) {v:Int} (hp:p<nQ c) (j:T=s.tick+1):Good c fl (uy c s p v) No No T:=by
 have hi:=m.fo (p:=p);have pm:=g.part _ hi;have i:=g.tick;unfold uy;dsimp only;by_cases h:((s.part (aH c p)).log.length:Int)<c.log
 ·rw [if_pos h];refine g.parts ⟨pm.cur,by grind,⟨?_,λe he=> ?_⟩,pm.lost,pm.lM,λd=> ?_,pm.im,pm.iP⟩ rfl rfl
  ·show ((s.part (aH c p)).log++ [_]).Pairwise _;rw [List.pairwise_append];refine ⟨pm.log.1,List.pairwise_singleton _ _,λa f b hb=> ?_⟩;have:=pm.log.2 a f;grind
  ·have he:e∈(s.part (aH c p)).log++ [⟨s.tick,(p:Int),v⟩]:=he;rcases List.mem_append.1 he with he | he
   ·exact pm.log.2 e he
   grind
  ·have d:0<(s.part (aH c p)).lost:=d;have:=pm.full d;omega
 ·rw [if_neg h];exact g.parts ⟨pm.cur,pm.kg,pm.log,wO pm.lost,pm.lM,λ_=>by grind,pm.im,pm.iP⟩ rfl rfl
theorem Fm :x.put x.core=x:=rfl
theorem de.sleep (pm:de c fl t p z x) (e:x.state=0) {n:dF} (a:dP c p x=some n) (b:n.op=28) {w:Int} (d:0<w/\w<=t+1099511627776):de c fl t p z {x with state:=4,cp:=w} where
 st:=by simp
 pc:=pm.pc
 mG:=pm.mG
 cur:=pm.cur
 np:=pm.np
 nq:=by grind
 nX:=.inr ⟨λ_=>rfl,λ_=>d.1⟩
 dead:=λh=>by grind
 dY:=pm.dY
 recv:=λh=>by grind
 snd:=λh=>by grind
 qo:=λh=>by grind
 jE:=λ_=>⟨n,a,b⟩
 aO:=pm.aO
theorem de.timer (pm:de c fl t p z x) (b:x.state=0) {w:Int} (a:0<=w/\w<=t+1099511627776):de c fl t p z {x with bK:=false,timer:=w} where
 st:=pm.st
 pc:=pm.pc
 mG:=pm.mG
 cur:=pm.cur
 np:=a
 nq:=pm.nq
 nX:=pm.nX
 dead:=λh=>by grind
 dY:=pm.dY
 recv:=λh=>by grind
 snd:=pm.snd
 qo:=pm.qo
 jE:=pm.jE
 aO:=pm.aO
theorem Good.do_ {D:Int->Int->Int->Int} (m:cP c) (g:Good c fl s No No T) (hp:p<nQ c) (f:(s.proc p).state=0) (H:T=s.tick+1):Good c fl (ya c D fl s p) No No T:=by
 have pm:=g.proc p hp;have P:=g.tick;have r:Out s No No p:=xN ⟨by omega,by omega⟩;have j:s.bw p (s.proc p)=s:=by unfold MS.bw;rw [zN]
 have O:∀ {y:ai},y.state=0\/y.state=4->(kO (s.proc p)=true->kO y=true):=λ{y} Q _=>by rw [dp];omega
 unfold ya;dsimp only;rcases Ek (D:=D) (l:=jX c p) (k:=(s.proc p).core) (tk:=s.tick) (self:=(p:Int)) with ⟨C,E⟩ | ⟨n,u,J,⟨_,e⟩ | ⟨w,st,L,e⟩⟩
 ·rw [C,if_pos rfl,E,Fm,j];exact g.ends m (.inl rfl) hp
 ·rw [e];dsimp only;rw [om,if_neg (by omega),if_neg (by omega),if_neg (by omega),if_neg (by omega),if_neg (by omega),if_neg (by omega),if_neg (by omega),if_neg (by omega)];have A:=Mh (D:=D) (tk:=s.tick) (self:=(p:Int)) u J pm.aO;exact xP (g.core r pm rfl f A.1 A.2)
 ·rw [e];dsimp only;have i:dP c p (s.proc p)=some n:=u;have N:=Bg i;have q:Good c fl (s.bw p ((s.proc p).put (fL (s.proc p).core))) No No T:=xP (g.core r pm rfl f ⟨by show 0<=(s.proc p).pc+1;omega,by show (s.proc p).pc+1<=_;omega⟩ pm.aO);have F:∀v:Int,0<v->0<qv v 1099511627776/\qv v 1099511627776<=1099511627776:=λv hv=>by unfold qv;split<;>omega
  rcases Mg L with ⟨a,b⟩ | ⟨o,a,b⟩ | ⟨o,a,b⟩ | ⟨o,a,b⟩ | ⟨a,b⟩ | ⟨o,a,b⟩ | ⟨o,a,d,b⟩ | ⟨o,a,d,b⟩ | ⟨a,b⟩
  ·rw [if_pos a,b];simp only [if_true];rw [Fm,j];exact g.ends m (.inl rfl) hp
  ·rw [a,b];dsimp only;rw [om,if_pos rfl];simp only [if_true];rw [Fm,j];exact g.send m hp f i o rfl rfl
  ·rw [om,if_neg (by omega),if_pos a,b];simp only [if_true];rw [Fm,j];exact g.take m hp f i λ_=>o
  ·rw [om,if_neg (by omega),if_neg (by omega),if_pos a,b];simp only [if_true];rw [Fm,j];exact g.take m hp f i λh=>by cases h
  ·rw [om,if_neg (by omega),if_neg (by omega),if_neg (by omega),if_pos a,b];simp only [Bool.false_eq_true,if_false];rw [fV];have M:Out (s.bw p ((s.proc p).put (fL (s.proc p).core))) No No p:=xN (by rw [fV];exact ⟨by show (s.proc p).state≠2;omega,by show (s.proc p).state≠3;omega⟩);have B:=q.proc p hp;rw [fV] at B;have I:0<=(if 0<w.value then s.tick+qv w.value 1099511627776 else 0)/\(if 0<w.value then s.tick+qv w.value 1099511627776 else 0)<=s.tick+1099511627776:=by grind
   refine xP (q.run M (B.timer f I) ⟨by show (s.proc p).state≠2;omega,by show (s.proc p).state≠3;omega⟩ (by rw [fV]) λ_=> ?_);rw [dp];exact ⟨by show (s.proc p).state≠5;omega,by show (s.proc p).state≠6;omega⟩
  ·rw [om,if_neg (by omega),if_neg (by omega),if_neg (by omega),if_neg (by omega),if_pos a,b];simp only [if_true];rw [Fm,j];have G:0<vX w.value 1:=by unfold vX;split<;>omega
   have:=F _ G;refine xP (g.run r (pm.sleep f i o (w:=s.tick+qv (vX w.value 1) 1099511627776) ⟨by omega,by omega⟩) ⟨by show (4:Int)≠2;omega,by show (4:Int)≠3;omega⟩ rfl λ_=> ?_);grind
  ·rw [om,if_neg (by omega),if_neg (by omega),if_neg (by omega),if_neg (by omega),if_neg (by omega),if_pos a,b];simp only [if_true];rw [Fm,j];exact g.lock m hp f i o d.symm
  ·rw [om,if_neg (by omega),if_neg (by omega),if_neg (by omega),if_neg (by omega),if_neg (by omega),if_neg (by omega),if_pos a,b];simp only [Bool.false_eq_true,if_false];have K:=yD (m.ins i).1 (.inr o);exact q.unlock m hp (by rw [d];exact K)
  ·rw [om,if_neg (by omega),if_neg (by omega),if_neg (by omega),if_neg (by omega),if_neg (by omega),if_neg (by omega),if_neg (by omega),if_pos a,b];simp only [Bool.false_eq_true,if_false];exact q.out m hp H
end
section
variable {c:bd} {fl:Nat->Nat->Bool} {s:MS} {T:Int} {p:Nat} {t:Int} {x:ai} {z:Prop}
theorem R8 {to v:Int}:(my c fl s p to v).tick=s.tick:=by
 unfold my
 repeat' split
 all_goals rfl
theorem Lt {a:Int}:(jY s a).tick=s.tick:=by unfold jY;split<;>rfl
theorem Kl :∀ {l:List Int} {s:MS},(l.foldl jY s).tick=s.tick
 | [],_=>rfl
 | a::l,s=>by rw [List.foldl_cons,Kl,Lt]
theorem Lu {v:Int}:∀ {l:List ly} {s:MS},(l.foldl (λs w=>da c s w.proc.toNat v) s).tick=s.tick
 | [],_=>rfl
 | a::l,s=>by rw [List.foldl_cons,Lu];rfl
theorem Mj {b:Bool}:(lj c s p b).tick=s.tick:=by
 unfold lj;dsimp only
 repeat' split
 all_goals rfl
theorem R9 {n:Int}:(kE c s p n).tick=s.tick:=by unfold kE;dsimp only;split<;>rfl
theorem aaw {n:Int}:(Ap c s p n).tick=s.tick:=by
 unfold Ap;dsimp only;split
 ·split
  ·rfl
  ·exact Lt
 ·rfl
theorem NG {st:Int}:(oY c s p st).tick=s.tick:=by rw [zS];unfold qW;rw [Lu];show (jc c (ee c s p st) p).tick=_;unfold jc;rw [Kl];rfl
theorem Je {D:Int->Int->Int->Int}:(ya c D fl s p).tick=s.tick:=by
 unfold ya;dsimp only;split
 ·exact NG
 split
 ·exact R8
 split
 ·exact Mj
 split
 ·exact Mj
 split
 ·rfl
 split
 ·rfl
 split
 ·exact R9
 split
 ·exact aaw
 split
 ·rfl
 ·rfl
theorem Good.wH {X Z:Nat->Prop} {T':Int} (g:Good c fl s X Z T) (h:T<=T'):Good c fl s X Z T':=
 ⟨g.tick,λi hi=>by
  have pm:=g.part i hi;exact ⟨pm.cur,pm.kg,⟨pm.log.1,λe a=>by have:=pm.log.2 e a;omega⟩,pm.lost,pm.lM,pm.full,pm.im,pm.iP⟩,g.proc,g.own,g.jT,g.dY,g.sB,g.sA⟩
theorem Good.PV (g:Good c fl s No No T) (hp:p<nQ c):Good c fl (s.bw p (nf s.tick (s.proc p))) No No T:=by
 have H:=g.tick;have B:s.bw p (s.proc p)=s:=by unfold MS.bw;rw [zN]
 have f:Good c fl (s.bw p (if 0<(s.proc p).cp/\(s.proc p).cp<=s.tick then {s.proc p with cp:=0,state:=0,pc:=(s.proc p).pc+1} else s.proc p)) No No T:=by
  by_cases h:0<(s.proc p).cp/\(s.proc p).cp<=s.tick
  ·rw [if_pos h];have pm:=g.proc p hp;have o:=(pm.nX.resolve_left (λh=>h)).1 h.1;obtain ⟨n,v,_⟩:=pm.jE o;have G:=Bg v;refine xP (g.run (xN ⟨by omega,by omega⟩) ⟨by show (0:Int)<=0/\(0:Int)<=6;omega,by show 0<=(s.proc p).pc+1/\(s.proc p).pc+1<=_;omega,pm.mG,pm.cur,pm.np,by show (0:Int)<=0/\(0:Int)<=_;omega,.inr ⟨λh=>absurd h (Int.lt_irrefl 0),λh=>by have h:(0:Int)=4:=h;omega⟩,λh=>by have h:(0:Int)=5\/(0:Int)=6:=h;omega,pm.dY,λh=>by have h:(0:Int)=1:=h;omega,λh=>by have h:(0:Int)=2:=h;omega,λh=>by have h:(0:Int)=3:=h;omega,λh=>by have h:(0:Int)=4:=h;omega,pm.aO⟩ ⟨by show (0:Int)≠2;omega,by show (0:Int)≠3;omega⟩ rfl λ_=>rfl)
  ·rw [if_neg h,B];exact g
 generalize E:(if 0<(s.proc p).cp/\(s.proc p).cp<=s.tick then ({s.proc p with cp:=0,state:=0,pc:=(s.proc p).pc+1}:ai) else s.proc p)=y at f;have e:nf s.tick (s.proc p)=if 0<y.timer/\y.timer<=s.tick then {y with timer:=0,bK:=true,state:=if y.state=1 then 0 else y.state} else y:=by unfold nf;dsimp only;rw [E]
 rw [e];by_cases h:0<y.timer/\y.timer<=s.tick
 ·rw [if_pos h];have pm:=f.proc p hp;rw [fV] at pm;have C:(if y.state=1 then (0:Int) else y.state)=y.state\/(y.state=1/\(if y.state=1 then (0:Int) else y.state)=0):=by
   by_cases h:y.state=1
   ·right;exact ⟨h,if_pos h⟩
   ·left;exact if_neg h
  have b:∀ {m:Int},m≠0->(if y.state=1 then (0:Int) else y.state)=m->y.state=m/\y.state≠1:=λ{m} u h=>by
   by_cases k:y.state=1
   ·rw [if_pos k] at h;exact absurd h.symm u
   ·rw [if_neg k] at h;exact ⟨h,k⟩
  have hb:=pm.st;have q:=f.ae (p:=p) (x':={y with timer:=0,bK:=true,state:=if y.state=1 then 0 else y.state}) (X':=No)
   ⟨by show 0<=(if y.state=1 then (0:Int) else y.state)/\(if y.state=1 then (0:Int) else y.state)<=6;split<;>omega,pm.pc,pm.mG,pm.cur,by show (0:Int)<=0/\(0:Int)<=_;have:(s.bw p y).tick=s.tick:=rfl;omega,pm.nq,
    pm.nX.imp (λh=>h) λr=>⟨λa=>by
     have:=r.1 a;show (if y.state=1 then (0:Int) else y.state)=4;rw [om];exact this,λa=>r.2 (b (by decide) a).1⟩,
    λa=>by have a:(if y.state=1 then (0:Int) else y.state)=5\/(if y.state=1 then (0:Int) else y.state)=6:=a;have o:y.state=5\/y.state=6:=a.imp (λh=>(b (by decide) h).1) λh=>(b (by decide) h).1;have:=(pm.dead o).1.resolve_left (λh=>h);omega,
    pm.dY,λa=>absurd (b (by decide) a).1 (b (by decide) a).2,λa=>pm.snd (b (by decide) a).1,λa=>pm.qo (b (by decide) a).1,λa=>pm.jE (b (by decide) a).1,pm.aO⟩
   (by rw [fV];exact C) (by rw [fV]) (by rw [fV]) (by rw [fV]) (λi l F j d=>by
    rw [fV] at j;have d:y.ae[i]? =some F:=d;rw [j] at d;cases d;refine ⟨List.Sublist.refl _,λA=> ?_,λw D=>.inl D⟩;exact ((f.dY p hp i l (by rw [fV];exact j)).2.1 A).2.2) hp (λ_ h=>h) (λ_ h=>h.elim)
  rw [Ba] at q;exact q
 grind
def nC (s:MS) (l:List Nat):MS:=⟨s.tick,s.part,λq=>if q∈l then nf s.tick (s.proc q) else s.proc q⟩
theorem Good.Gf (g:Good c fl s No No T):∀(l:List Nat),(∀q∈l,q<nQ c)->l.Nodup->Good c fl (nC s l) No No T
 | [],_,_=>by
  have e:nC s []=s:=by unfold nC;simp
  rw [e];exact g
 | q::l,h,b=>by
  rw [List.nodup_cons] at b;have f:=g.Gf l (λr i=>h r (List.mem_cons_of_mem _ i)) b.2;have j:=f.PV (p:=q) (h q (List.mem_cons_self ..));have d:(nC s l).proc q=s.proc q:=if_neg b.1;have e:(nC s l).bw q (nf (nC s l).tick ((nC s l).proc q))=nC s (q::l):=by
   rw [d];unfold nC MS.bw;congr 1;funext r;unfold dd;by_cases e:r=q
   ·subst e;rw [if_pos rfl,if_pos (by simp)]
   ·rw [if_neg e];show (if r∈l then nf s.tick (s.proc r) else s.proc r)=_;by_cases a:r∈l
    ·rw [if_pos a,if_pos (by simp [a])]
    ·rw [if_neg a,if_neg (by simp [a,e])]
  grind
theorem Good.due (g:Good c fl s No No T) {i:Nat}:Good c fl (jN c s i) No No T:=by
 have h:=g.Gf (eC c i) (λq b=>(gD.1 b).1) Mi;have e:nC s (eC c i)=jN c s i:=by
  unfold nC jN;congr 1;funext q;by_cases h:q<nQ c/\aH c q=i
  ·rw [if_pos h,if_pos (gD.2 h)]
  ·rw [if_neg h,if_neg λa=>h (gD.1 a)]
 grind
theorem Qv {i a:Nat} (h:j6 c s i=some a):a<(eC c i).length/\(s.proc ((eC c i).getD a 0)).state=0:=by unfold j6 at h;have d:=List.find?_some h;have f:=List.mem_of_find?_eq_some h;obtain ⟨k,b,e⟩:=List.mem_map.1 f;have b:=List.mem_range.1 b;refine ⟨?_,of_decide_eq_true d⟩;rw [<-e];exact Nat.mod_lt _ (by omega)
theorem Good.wB {D:Int->Int->Int->Int} (m:cP c) (g:Good c fl s No No T) {i a:Nat} (hi:i<nP c) (f:T=s.tick+1) (h:j6 c s i=some a):Good c fl (mD c D fl s i a) No No T:=by
 obtain ⟨l,d⟩:=Qv h;unfold mD;have pm:=g.part i hi;have b:Good c fl (s.eS i {s.part i with ag:=((a+1:Nat):Int)%((eC c i).length:Int)}) No No T:=by refine g.parts ⟨?_,pm.kg,pm.log,pm.lost,pm.lM,pm.full,pm.im,pm.iP⟩ rfl rfl;have j:=Int.emod_nonneg ((a+1:Nat):Int) (show ((eC c i).length:Int)≠0 by omega);have k:=Int.emod_lt_of_pos ((a+1:Nat):Int) (show (0:Int)<((eC c i).length:Int) by omega);grind
 have e:(eC c i).getD a 0∈eC c i:=by grind
 exact b.do_ m (gD.1 e).1 d f
theorem Good.turns {D:Int->Int->Int->Int} (m:cP c) {i:Nat} (hi:i<nP c):∀(n:Nat) {s:MS},Good c fl s No No T->T=s.tick+1->Good c fl (oy c D fl i n s) No No T/\(oy c D fl i n s).tick=s.tick
 | 0,s,g,_=>⟨g,rfl⟩
 | n+1,s,g,b=>by
  unfold oy;cases h:j6 c s i with
  | none=>exact ⟨g,rfl⟩
  | some a=>have d:(mD c D fl s i a).tick=s.tick:=Je;have:=Good.turns (D:=D) m hi n (g.wB (D:=D) m hi b h) (by rw [d];exact b);grind
theorem cP.mP (m:cP c) {t:Int}:nt c t<nP c:=by
 unfold nt;have h:=m.table;have b:0<c.table.length:=List.length_pos_iff.2 h.1;have a:t.toNat%c.table.length<c.table.length:=Nat.mod_lt _ b;have:c.table.getD (t.toNat%c.table.length) 0=c.table[t.toNat%c.table.length]:=by simp [List.getD,List.getElem?_eq_getElem a]
 rw [this];have:=h.2.2 _ (List.getElem_mem a);omega
theorem de.later (pm:de c fl t p z x) {a:Int} (h:t<=a):de c fl a p z x:=
 ⟨pm.st,pm.pc,pm.mG,pm.cur,by have:=pm.np;omega,by have:=pm.nq;omega,pm.nX,pm.dead,pm.dY,pm.recv,pm.snd,pm.qo,pm.jE,pm.aO⟩
theorem Good.GR {D:Int->Int->Int->Int} (m:cP c) (g:Good c fl s No No s.tick):Good c fl (mC c D fl s) No No (mC c D fl s).tick:=by have d:=(g.wH (T':=s.tick+1) (by omega)).due (i:=nt c s.tick);obtain ⟨a,b⟩:=Good.turns (D:=D) m (m.mP (t:=s.tick)) c.fuel.toNat d rfl;have b:(oy c D fl (nt c s.tick) c.fuel.toNat (jN c s (nt c s.tick))).tick=s.tick:=b;have f:=a.tick;unfold mC;dsimp only;rw [b];exact ⟨by grind,a.part,λq e=>(a.proc q e).later (by grind),a.own,a.jT,a.dY,a.sB,a.sA⟩
theorem DL {v:Int} (h:uW c s v=0):0<=v/\v.toNat<nQ c/\kO (s.proc v.toNat)=true:=by unfold uW at h;grind
theorem Good.BB (g:Good c fl s No No T) {q v:Int}:Good c fl (ve c s q v).1 No No T:=by
 unfold ve;by_cases h:uW c s q≠0
 ·grind
 rw [if_neg h];obtain ⟨k,d,m⟩:=DL (Classical.not_not.1 h);have b:∀l,(s.proc q.toNat).ae[nP c]? =some l->(l.values.length:Int)<=c.lane/\fF l.taken/\fF l.dropped:=λl a=>by have:=(g.proc _ d).dY _ l a;grind
 by_cases e:gB c (s.proc q.toNat) (nP c)=true
 ·rw [if_pos e];exact g.lane d (i:=nP c) (f:=mq) (λl a=>⟨(b l a).1,(b l a).2.1,wO (b l a).2.2,λ_ h=>by omega⟩) (λl a=>⟨rfl,λ_=>rfl⟩) false λ_ l a=>a
 ·rw [if_neg e];have n:∀l,(s.proc q.toNat).ae[nP c]? =some l->(l.values.length:Int)<c.lane:=λl a=>by unfold gB at e;grind
  exact g.lane d (i:=nP c) (f:=vQ v) (λl a=>⟨by
   show ((l.values++ [v]).length:Int)<=_;grind,(b l a).2.1,(b l a).2.2,λ_ h=>by omega⟩) (λl a=>⟨rfl,λj=>by
   have:=((g.dY _ d _ l a).2.1 j).2.2;grind⟩) true λh=>by cases h
theorem Good.kill (m:cP c) (g:Good c fl s No No T) {q:Int}:Good c fl (kC c s q).1 No No T:=by
 unfold kC;by_cases h:uW c s q≠0
 ·grind
 rw [if_neg h];exact g.ends m (.inr rfl) (DL (Classical.not_not.1 h)).2.1
theorem aax {q v:Int}:(ve c s q v).1.tick=s.tick:=by
 unfold ve;split
 ·rfl
 ·split<;>rfl
theorem Sa {q:Int}:(kC c s q).1.tick=s.tick:=by
 unfold kC;split
 ·rfl
 ·exact NG
theorem Good.first (m:cP c):Good c fl (xA c) No No (xA c).tick where
 tick:=Int.le_refl _
 part:=λi hi=>by
  have d:=m.ak;have f:=m.log;refine ⟨⟨Int.le_refl _,λh=>absurd h (Int.lt_irrefl 0)⟩,by show ((0:Nat):Int)<=c.log;omega,⟨List.Pairwise.nil,λe a=>by cases a⟩,⟨Int.le_refl _,by show (0:Int)<=65535;omega⟩,⟨Int.le_refl _,by show (0:Int)<=65535;omega⟩,λh=>absurd h (Int.lt_irrefl 0),?_,?_⟩
  ·show ((List.replicate c.ak.toNat (-1:Int)).length:Int)=_;grind
  ·show ((List.replicate c.ak.toNat ([]:List Int)).length:Int)=_;grind
 proc:=λp hp=>by
  refine ⟨by show (0:Int)<=0/\(0:Int)<=6;omega,by show (0:Int)<=0/\(0:Int)<=_;omega,List.length_replicate ..,?_,by show (0:Int)<=0/\(0:Int)<=0+1099511627776;omega,by show (0:Int)<=0/\(0:Int)<=0+1099511627776;omega,.inr ⟨λh=>absurd h (Int.lt_irrefl 0),λh=>by have h:(0:Int)=4:=h;omega⟩,λh=>by have h:(0:Int)=5\/(0:Int)=6:=h;omega,λi l h=> ?_,λh=>by have h:(0:Int)=1:=h;omega,λh=>by have h:(0:Int)=2:=h;omega,λh=>by have h:(0:Int)=3:=h;omega,λh=>by have h:(0:Int)=4:=h;omega,List.length_replicate ..⟩
  ·show (0:Int)<=0/\(0:Int)<((List.replicate (nP c+1) _).length:Int);simp
  ·have h:(List.replicate (nP c+1) (⟨[],[],0,0⟩:br))[i]? =some l:=h;have b:=List.eq_of_mem_replicate (List.mem_of_getElem? h);subst b;have:=m.lane;refine ⟨by show ((0:Nat):Int)<=_;omega,⟨Int.le_refl _,by show (0:Int)<=65535;omega⟩,⟨Int.le_refl _,by show (0:Int)<=65535;omega⟩,λh=> ?_⟩;rcases h with h | h | h
   ·exact absurd rfl h
   ·exact absurd h (Int.lt_irrefl 0)
   grind
 own:=λi hi k o h=>by have h:(List.replicate c.ak.toNat (-1:Int))[k]? =some o:=h;grind
 jT:=λi hi k q h=>by have h:(List.replicate c.ak.toNat ([]:List Int))[k]? =some q:=h;grind
 dY:=λr g i l h=>by have h:(List.replicate (nP c+1) (⟨[],[],0,0⟩:br))[i]? =some l:=h;grind
 sB:=λp hp _ h=>by have h:(0:Int)=3:=h;omega
 sA:=λp hp _ h=>by have h:(0:Int)=2:=h;omega
end
section
variable {c:bd} {fl:Nat->Nat->Bool} {s:MS} {T:Int}
theorem jx {i:Nat} {x:cR}:(s.list c).parts[i]? =some x↔i<nP c/\x=s.part i:=by
 show ((List.range (nP c)).map s.part)[i]? =some x↔_;rw [List.getElem?_map];by_cases h:i<nP c
 ·rw [List.getElem?_range h];constructor
  ·intro e;exact ⟨h,(Option.some.inj e).symm⟩
  ·rintro ⟨_,rfl⟩;rfl
 ·rw [List.getElem?_eq_none (by rw [List.length_range];omega)];constructor
  ·intro e;cases e
  ·intro e;exact absurd e.1 h
theorem iF {i:Nat} {x:ai}:(s.list c).procs[i]? =some x↔i<nQ c/\x=s.proc i:=by
 show ((List.range (nQ c)).map s.proc)[i]? =some x↔_;rw [List.getElem?_map];by_cases h:i<nQ c
 ·rw [List.getElem?_range h];constructor
  ·intro e;exact ⟨h,(Option.some.inj e).symm⟩
  ·rintro ⟨_,rfl⟩;rfl
 ·rw [List.getElem?_eq_none (by rw [List.length_range];omega)];constructor
  ·intro e;cases e
  ·intro e;exact absurd e.1 h
theorem vc (m:cP c) {p:Nat} (hp:p<nQ c):∃y,c.procs[p]? =some y/\y.part=(aH c p:Int)/\y.code=jX c p:=by
 have h:=List.getElem?_eq_getElem (show p<c.procs.length from hp);refine ⟨_,h,?_,?_⟩
 ·have:=m.part _ (List.mem_of_getElem? h);unfold aH;rw [h];simp;omega
 ·unfold jX;rw [h];rfl
theorem xa {y:eu} {p:Nat} {x:ai} (h:y.code=jX c p):ff y x.pc=dP c p x:=by unfold ff dP ik;rw [h]
theorem vf (m:cP c) {p:Int} {i:Nat}:jR c p i↔0<=p/\p.toNat<nQ c/\aH c p.toNat=i:=by
 unfold jR;constructor
 ·rintro ⟨d,y,b,f⟩;have hp:p.toNat<nQ c:=(List.getElem?_eq_some_iff.1 b).1;obtain ⟨g,a,e,_⟩:=vc m hp;rw [b] at a;cases a;exact ⟨d,hp,by omega⟩
 ·rintro ⟨d,b,f⟩;obtain ⟨g,a,e,_⟩:=vc m b;exact ⟨d,g,a,by rw [e,f]⟩
theorem Jh (m:cP c) {i:Nat}:jz c i=(eC c i).length:=by
 have e:c.procs=(List.range c.procs.length).map λq=>c.procs.getD q ⟨0,[]⟩:=by
  refine List.ext_getElem? λj=> ?_;rw [List.getElem?_map];by_cases h:j<c.procs.length
  ·rw [List.getElem?_range h,List.getElem?_eq_getElem h];simp [List.getD,List.getElem?_eq_getElem h]
  ·rw [List.getElem?_eq_none (by omega),List.getElem?_eq_none (by rw [List.length_range];omega)];rfl
 unfold jz eC;rw [e,List.filter_map,List.length_map];congr 1;refine List.filter_congr λq a=> ?_;have a:q<nQ c:=List.mem_range.1 a;obtain ⟨y,b,d,_⟩:=vc m a;have f:c.procs.getD q ⟨0,[]⟩=y:=by simp [List.getD,b]
 show decide ((c.procs.getD q ⟨0,[]⟩).part=(i:Int))=decide (aH c q=i);rw [f,d];by_cases h:aH c q=i
 ·rw [decide_eq_true h,fT]
 ·rw [decide_eq_false h,decide_eq_false (by omega)]
theorem KE (m:cP c) {i:Nat} {st:fe} (j:st.tick=T):∀ {l:List uh} {last:Int},l.Pairwise (λa b=>a.tick<=b.tick)->(∀e∈l,last<=e.tick/\e.tick<T/\0<=e.proc/\e.proc.toNat<nQ c/\aH c e.proc.toNat=i)->qc c st i last l
 | [],_,_,_=>trivial
 | e::r,last,h,g=>by obtain ⟨k,n⟩:=List.pairwise_cons.1 h;obtain ⟨a1,a2,a3⟩:=g e (List.mem_cons_self ..);refine ⟨a1,by rw [j];exact a2,(vf m).2 a3,KE m j n λd f=>⟨k d f,(g d (List.mem_cons_of_mem _ f)).2⟩⟩
theorem Mk {l:List Int} {z:Int} (nd:l.Nodup) (h:z∈l):l.countP (λy=>decide (y=z))=1:=by
 induction l with
 | nil=>cases h
 | cons a l d=>
  rw [List.nodup_cons] at nd;rw [List.countP_cons];rcases List.mem_cons.1 h with rfl | h
  ·have:l.countP (λy=>decide (y=z))=0:=by rw [List.countP_eq_zero];intro y b;simp;exact λe=>nd.1 (e▸b)
   rw [this];simp
  ·rw [d nd.2 h];have:a≠z:=λe=>nd.1 (e▸h);simp [this]
theorem FJ {l:List Int} {z:Int} (h:z∉l):l.countP (λy=>decide (y=z))=0:=by rw [List.countP_eq_zero];intro y a;simp;exact λe=>h (e▸a)
theorem DM {p:Int} {x:cR} (h:∀q∈x.ah,p∉q):gJ p x=0:=by unfold gJ;rw [List.sum_eq_zero_iff_forall_eq_nat];intro y b;obtain ⟨q,a,rfl⟩:=List.mem_map.1 b;exact FJ (h q a)
theorem xb {p:Int} {l:br}:jo p l=(l.waiters.map (·.proc)).countP λy=>decide (y=p):=by unfold jo;rw [List.countP_map];rfl
theorem DN {p:Int} {x:ai} (h:∀l∈x.ae,∀w∈l.waiters,w.proc≠p):j9 p x=0:=by unfold j9;rw [List.sum_eq_zero_iff_forall_eq_nat];intro y f;obtain ⟨l,a,rfl⟩:=List.mem_map.1 f;rw [xb];refine FJ λb=> ?_;obtain ⟨w,d,e⟩:=List.mem_map.1 b;exact h l a w d e
end
section
variable {c:bd} {fl:Nat->Nat->Bool} {s:MS} {T:Int}
theorem Ml {i:Nat} (h:i<nP c):(s.list c).parts[i]? =some (s.part i):=jx.2 ⟨h,rfl⟩
theorem yV {i:Nat} (h:i<nQ c):(s.list c).procs[i]? =some (s.proc i):=iF.2 ⟨h,rfl⟩
theorem Ww {p:Int} (h:p.toNat<nQ c) {q:ai->Prop} (a:q (s.proc p.toNat)):qE (s.list c) p q:=⟨_,yV h,a⟩
theorem AB (m:cP c) {p:Int} (h:p.toNat<nQ c) {n:dF} (d:dP c p.toNat (s.proc p.toNat)=some n) {q:ai->dF->Prop} (e:q (s.proc p.toNat) n):xX c (s.list c) p q:=by obtain ⟨y,a,f,b⟩:=vc m h;exact ⟨_,y,n,yV h,a,by rw [xa b];exact d,e⟩
theorem Jj {r:List Int} {i v:Int} (b:r.length=8) (hi:0<=i/\i<8) (h:fy r i=v):r[i.toNat]? =some v:=by
 have a:i.toNat<r.length:=by omega
 rw [List.getElem?_eq_getElem a,<-h];unfold fy;grind
theorem Good.waits (m:cP c) (g:Good c fl s No No T):sc c (s.list c):=by
 refine ⟨λi x a k q hq p hp=> ?_,λr x y a L i l hl w X=> ?_,λp x a=> ?_⟩
 ·obtain ⟨hi,rfl⟩:=jx.1 a;obtain ⟨b1,Q,R⟩:=g.jT i hi k q hq;obtain ⟨a1,a2,a3,_,a5⟩:=Q p hp;obtain ⟨a5,n,a6,a7,D⟩:=a5.resolve_left (λh=>h);obtain ⟨o,t,u,N⟩:=R (List.ne_nil_of_mem hp);refine ⟨(vf m).2 ⟨a1,a2,a3⟩,AB m a2 a6 ⟨a5,D⟩,o,t,?_,λe=>N (e▸hp)⟩;rcases g.own i hi k o t with h | h
  ·exact absurd h u
  ·exact h.1
 ·obtain ⟨F,rfl⟩:=iF.1 a;obtain ⟨y',f1,f2,f3⟩:=vc m F;rw [L] at f1;cases f1;obtain ⟨b1,Q,R⟩:=g.dY r F i l hl;obtain ⟨c1,c2,c3⟩:=Q (List.ne_nil_of_mem X);obtain ⟨a1,a2,a3,_,a5⟩:=R w X;obtain ⟨a5,n,a6,a7,D,Z⟩:=a5.resolve_left (λh=>h);have b0:=dp.1 (c2.resolve_right (λh=>h));have W:=(g.proc _ a2).aO;have Y:=Qt (m.ins a6).1 a7;exact ⟨by rw [f2,c1],(vf m).2 ⟨a1,a2,a3⟩,b0,c3,AB m a2 a6 ⟨a5,a7,Jj W Y.2.1 D,Jj W Y.2.2 Z⟩⟩
 ·obtain ⟨hp,rfl⟩:=iF.1 a;have b4:((s.list c).parts.map (gJ (p:Int))).sum=if (s.proc p).state=3 then 1 else 0:=by
   by_cases P:(s.proc p).state=3
   ·rw [if_pos P];obtain ⟨k,q,t,u⟩:=g.sB p hp (λh=>h) P;have hi:=m.fo (p:=p);rw [Fl (gJ (p:Int)) _ (aH c p) λj x a I=> ?_,Ml hi]
    ·show gJ (p:Int) (s.part (aH c p))=1;unfold gJ;rw [Fl _ _ k λj C J I=> ?_,t]
     ·exact Mk (g.jT _ hi k q t).1 u
     ·refine FJ λA=> ?_;obtain ⟨_,_,_,_,a5⟩:=(g.jT _ hi j C J).2.1 _ A;obtain ⟨_,n1,a6,_,D⟩:=a5.resolve_left (λh=>h);obtain ⟨_,_,_,_,S⟩:=(g.jT _ hi k q t).2.1 _ u;obtain ⟨_,n2,E,_,V⟩:=S.resolve_left (λh=>h);rw [a6] at E;cases E;omega
    ·obtain ⟨d,rfl⟩:=jx.1 a;refine DM λC J A=> ?_;obtain ⟨f,z,b⟩:=List.getElem_of_mem J;have v:(s.part j).ah[f]? =some C:=by rw [List.getElem?_eq_getElem z,b]
     have:=((g.jT j d f C v).2.1 _ A).2.2.1;rw [Int.toNat_natCast] at this;exact I this.symm
   ·rw [if_neg P,List.sum_eq_zero_iff_forall_eq_nat];intro y L;obtain ⟨x,a,rfl⟩:=List.mem_map.1 L;obtain ⟨j,d,b⟩:=List.getElem_of_mem a;have U:(s.list c).parts[j]? =some x:=by rw [List.getElem?_eq_getElem d,b]
    obtain ⟨d,rfl⟩:=jx.1 U;refine DM λC J A=> ?_;obtain ⟨f,z,b⟩:=List.getElem_of_mem J;have v:(s.part j).ah[f]? =some C:=by rw [List.getElem?_eq_getElem z,b]
    obtain ⟨_,_,_,_,a5⟩:=(g.jT j d f C v).2.1 _ A;have:=(a5.resolve_left (λh=>h)).1;rw [Int.toNat_natCast] at this;exact P this
  have b7:((s.list c).procs.map (j9 (p:Int))).sum=if (s.proc p).state=2 then 1 else 0:=by
   by_cases O:(s.proc p).state=2
   ·rw [if_pos O];obtain ⟨r,F,l,t,w,u,N⟩:=g.sA p hp (λh=>h) O;obtain ⟨d1,d2,d3⟩:=g.dY r F _ l t;obtain ⟨_,_,_,_,S⟩:=d3 w u;obtain ⟨_,n2,E,_,V,_⟩:=S.resolve_left (λh=>h);rw [N,Int.toNat_natCast] at E V;rw [Fl (j9 (p:Int)) _ r λj x a I=> ?_,yV F]
    ·show j9 (p:Int) (s.proc r)=1;unfold j9;rw [Fl _ _ (aH c p) λj B H I=> ?_,t]
     ·show jo (p:Int) l=1;rw [xb];exact Mk d1 (List.mem_map.2 ⟨w,u,N⟩)
     ·rw [xb];refine FJ λA=> ?_;obtain ⟨M,K,G⟩:=List.mem_map.1 A;have:=((g.dY r F j B H).2.2 M K).2.2.1;rw [G,Int.toNat_natCast] at this;exact I this.symm
    ·obtain ⟨d,rfl⟩:=iF.1 a;refine DN λB H M K G=> ?_;obtain ⟨f,z,b⟩:=List.getElem_of_mem H;have v:(s.proc j).ae[f]? =some B:=by rw [List.getElem?_eq_getElem z,b]
     obtain ⟨_,_,_,_,a5⟩:=(g.dY j d f B v).2.2 M K;obtain ⟨_,n1,a6,_,D,_⟩:=a5.resolve_left (λh=>h);rw [G,Int.toNat_natCast] at a6 D;rw [a6] at E;cases E;omega
   ·rw [if_neg O,List.sum_eq_zero_iff_forall_eq_nat];intro y L;obtain ⟨x,a,rfl⟩:=List.mem_map.1 L;obtain ⟨j,d,b⟩:=List.getElem_of_mem a;have U:(s.list c).procs[j]? =some x:=by rw [List.getElem?_eq_getElem d,b]
    obtain ⟨d,rfl⟩:=iF.1 U;refine DN λB H M K G=> ?_;obtain ⟨f,z,b⟩:=List.getElem_of_mem H;have v:(s.proc j).ae[f]? =some B:=by rw [List.getElem?_eq_getElem z,b]
    obtain ⟨_,_,_,_,a5⟩:=(g.dY j d f B v).2.2 M K;have:=(a5.resolve_left (λh=>h)).1;rw [G,Int.toNat_natCast] at this;exact O this
  grind
theorem Good.may (m:cP c) (g:Good c fl s No No s.tick) (o:s.tick<=4611686018427387904):qJ c (s.list c) λi y=>fl i y.toNat=true:=by
 refine ⟨⟨⟨g.tick,o⟩,?_,?_⟩,λi x b=> ?_,λp x y b r=> ?_,g.waits m⟩
 ·show ((List.range (nP c)).map s.part).length=_;rw [List.length_map,List.length_range];rfl
 ·show ((List.range (nQ c)).map s.proc).length=_;rw [List.length_map,List.length_range];rfl
 ·obtain ⟨hi,rfl⟩:=jx.1 b;have pm:=g.part i hi;refine ⟨⟨pm.cur.1,by rw [Jh m];exact pm.cur.2,pm.kg⟩,KE m rfl pm.log.1 λe d=>pm.log.2 e d,pm.lost,pm.lM,pm.full,pm.im,pm.iP,λp hp n=> ?_⟩;obtain ⟨k,t,d⟩:=List.getElem_of_mem hp;have f:(s.part i).av[k]? =some p:=by grind
  rcases g.own i hi k p f with h | ⟨a1,a2,a3,a4⟩
  ·exact absurd h n
  ·exact ⟨(vf m).2 ⟨a1,a2,a3⟩,Ww a2 (dp.1 (a4.resolve_right (λh=>h)))⟩
 ·obtain ⟨hp,rfl⟩:=iF.1 b;obtain ⟨u,f1,f2,f3⟩:=vc m hp;rw [r] at f1;cases f1;have pm:=g.proc p hp;have a:ff y (s.proc p).pc=dP c p (s.proc p):=xa f3;refine ⟨pm.st,by rw [f3];exact pm.pc,pm.mG,pm.cur,pm.np,pm.nq,pm.nX.resolve_left (λh=>h),λh=>⟨(pm.dead h).1.resolve_left (λh=>h),(pm.dead h).2⟩,λi l j=> ?_,λh=> ?_,λh=> ?_,λh=> ?_,λh=> ?_⟩
  ·obtain ⟨a1,a2,a3,a4⟩:=pm.dY i l j;refine ⟨a1,a2,a3,λq hi=> ?_⟩;rw [f2];show fl i ((aH c p:Nat):Int).toNat=true;rw [Int.toNat_natCast];exact a4 q hi
  ·rw [a];exact pm.recv h
  ·rw [a];exact pm.snd h
  ·rw [a];exact pm.qo h
  ·rw [a];exact pm.jE h
end
end Lf
