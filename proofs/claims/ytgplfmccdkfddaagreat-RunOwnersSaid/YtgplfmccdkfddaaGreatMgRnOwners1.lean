/-
  Part 2 of the texts that the claim leans on.
-/
import Derived.ScopeJumps
import Derived.Test.YtgplfmccdkfddaaGreatMgRnOwners0
set_option maxRecDepth 100000
namespace Lf
open Go
theorem jq {b:Bool} {p:Prop} (h:cond b p False):b=true/\p:=by grind
theorem LQ {C:Ctx} {m:Nat->Bool} {L:List Oper} {s:St} {h:Hp}:∀ {a:List Nat},ES C m L s h a->∀ {j:Nat} {p:Oper} {ch:aS},j∈a->L[j]? =some p->pd L L.length p=some ch->nY C m p ch s h
 | [],_,_,_,_,hj,_,_=>by cases hj
 | r::a,d,j,p,ch,hj,hp,e=>by
  obtain ⟨b,c⟩:=d;rcases List.mem_cons.1 hj with rfl | hj
  ·rw [ma,hp] at b;grind
  ·exact LQ c hj hp e
theorem Uz {C:Ctx} {m:Nat->Bool} {p:Oper} {ch:aS} {s:St} {h:Hp} (a:nY C m p ch s h):∃d,p.dst=some d:=by
 cases b:p.dst with
 | some d=>simp
 | none=>unfold nY at a;grind
section
variable {C:Ctx} {L:List Oper} {mok:List Nat} {n:Nat} {lv0:Nat->Prop} {β0:Nat->Nat} {a0:Act} {h0:Hp} {w0:World} {done ls:List Nat} {g:Array Bool} {β:Nat->Nat} {s:St} {a:Act} {h:Hp} {w:World}
theorem W7 (k:(bO L).Nodup) {i:Nat} {o:Oper} (f:L[i]? =some o) (hid:i∉done) (t:Nat):kE L (i::done) (i::ls) t↔(o.dst=some t\/kE L done ls t):=by
 constructor
 ·intro hc;by_cases d:o.dst=some t
  ·exact .inl d
  ·exact .inr λj p h1 c b=>hc j p (List.mem_cons_of_mem _ h1) (λe=>by
    grind) b
 ·rintro (d | hc) j p h1 c b
  ·intro e;exact c (by rw [sQ k b f e d];simp)
  ·rcases List.mem_cons.1 h1 with e | h1
   ·grind
   ·exact hc j p h1 (λe=>c (List.mem_cons_of_mem _ e)) b
theorem Ih (d:(bO L).Nodup) {i:Nat} {o:Oper} (c:L[i]? =some o) (hid:i∉done) (k:Nat):gI C L (i::done) (i::ls) k↔(cd C.aK o k\/gI C L done ls k):=by
 constructor
 ·rintro ⟨q,m⟩;by_cases hp:cd C.aK o k
  ·exact .inl hp
  ·exact .inr ⟨λj p f l b=>q j p (List.mem_cons_of_mem _ f) (λe=>by
    grind) b,λe=>m ((Bg d c hid k).2 ⟨hp,e⟩)⟩
 ·rintro (hp | ⟨q,m⟩)
  ·exact ⟨λj p f l b r=>l (by rw [sQ d b c r.2 hp.2];simp),λe=>((Bg d c hid k).1 e).1 hp⟩
  ·refine ⟨λj p f l b=> ?_,λe=>m ((Bg d c hid k).1 e).2⟩;grind
theorem RC (ok:C.tb.Ok C.P) (X:(bO L).Nodup) (v:mL C L mok n lv0 β0 a0 h0 w0 done ls g β s a h w) {i:Nat} {o:Oper} (A:L[i]? =some o) (hid:i∉done) (b0:∀j∈kN (bw L []) i,j∈ls)
  {O:List Nat} (hwatch:(isVal C.tb o=true\/ly C.aK o=true)\/∀j p,j∈done->L[j]? =some p->isVal C.tb p=true->qG C.tb p=true->j∈O\/j∈kN (bw L []) i)
  {l:List Nat} {c2:Nat->Nat} {s':St} {a':Act} {y:Hp} {w':World} (out:uz C l mok n (kE L done ls) (gI C L done ls) (qM L done) (pK C L done) o β s a h w c2 s' a' y w')
  (a9:ES C (uH o s) L s' y O) {j:Nat} {p:Oper} (r:j∈done) (I:j∉ls) (q:L[j]? =some p):
  mJ C L p s' y/\de L (bw L []) j p=true/\gD (bw L []) j p L 0=false/\∀d,cd C.aK p d->d∈mok:=by
 obtain ⟨⟨ch,F,T,b6⟩,K,b9⟩:=v.facts j p r I q;refine ⟨?_,K,b9⟩;have k:iU (qM L done) p s s':=Ig X v A hid out.f q r λt u e=>by
  rcases Rz K u A e with h1 | h1 | h1
  ·exact hid (ze v q r h1)
  ·exact hid (h1▸r)
  grind
 have Q:=Cu v q (v.kh j p q r) K F T;have H:∀d,p.dst=some d->qM L done d:=λd e=>⟨j,p,r,q,e⟩;have W:∀t,Operand.tmp t∈p.op.operands->∀b off c,(s.f t=some (.box b off,c)\/s.f t=some (.dz b off,c))->holds s c->s'.m b=s.m b\/(uH o s b=true/\isVal C.tb o=false):=by
  intro t u b off c hfb z;rcases out.m b with e | e | e
  ·exact .inl e
  ·exfalso;have R:pK C L done b:=⟨i,o,hid,A,e⟩;rcases hfb with hfb | hfb
   ·exact (v.rr.jz b R t _ c hfb z off).1 rfl
   ·exact (v.rr.jz b R t _ c hfb z off).2 rfl
  grind
 refine ⟨ch,F,by rw [Nl k Q];exact T,?_⟩;rcases b6 with ⟨D,Y,lv,V,N,b7,c0⟩ | ⟨rfl,D,d,cs,B,b1,b4,N⟩
 ·have Z:wL C.tb p ch s' lv:=λb3=>c0 (by rw [<-k.kind (s':=s')];exact b3);refine .inl ⟨D,by rw [k.kind];exact Y,lv,λd e=>by rw [k.dn d (H d e)];exact V d e,λU=> ?_,k.BN b7,Z⟩;have z:=(k.lK Q).1 U;have x:=N z;have J:bZ C.tb p ch s'=bZ C.tb p ch s:=k.kind;rw [J];by_cases M:bZ C.tb p ch s=.pure
  ·rw [M] at x ⊢;exact Ly k (λe=>absurd rfl e) (λe=>by cases e) x
  ·have b8:=Y.resolve_right M;rcases hwatch with a8 | hwatch
   ·have b5:∀b,¬(uH o s b=true/\isVal C.tb o=false):=by
     rintro b ⟨e1,e2⟩;rcases a8 with e | e
     ·grind
     ·unfold uH at e1;unfold ly at e;grind
    have b2:y=h:=by
     rcases a8 with e | e
     ·exact out.hv e
     ·exact out.hp e
    exact Ly k (λ_ t u b off c hfb E=>(W t u b off c hfb E).resolve_right (b5 b)) (λ_=>b2) x
   ·have c1:j∈O:=(hwatch j p r q D b8).resolve_right λe=>I (b0 j e);have S:=LQ a9 c1 q F;obtain ⟨d,G⟩:=Uz S;rcases ON rfl ok S G ⟨ch,by rw [k.dn d (H d G)];exact V d G⟩ U Z with h1 | ⟨h1,h2⟩ | ⟨h1,h2⟩
    ·rw [J] at h1;exact absurd h1 M
    ·rw [J] at h1;rw [h1] at x ⊢;exact Ly k (λ_ t u b off c hfb E=>(W t u b off c hfb E).resolve_right λe=>by rw [h2 t b off c u (by rw [k.op t u];exact hfb)] at e;cases e.1) (λe=>by cases e) x
    grind
 ·refine .inr ⟨rfl,D,d,cs,B,by rw [k.dn d (H d B.2)];exact b1,?_,C9 k N⟩;rcases out.m d with e | e | e
  ·rw [e];exact b4
  ·exact absurd r (by rw [sQ X q A B.2 e.2];exact hid)
  ·exact absurd B (e.2.2.2.1 j p r I q)
theorem Xa (ok:C.tb.Ok C.P) {S:Array Oper} (O:S.toList=L) (u:(bO L).Nodup) (Y:∀d∈bO L,d<n) (c:mL C L mok n lv0 β0 a0 h0 w0 done ls g β s a h w) {i:Nat} {o:Oper} (f:L[i]? =some o) (hid:i∉done)
  (R:∀k∈waits o,k∈ls) (X:de L (bw L []) i o=true) {T:List Nat}
  (a9:(isVal C.tb o=true\/ly C.aK o=true)\/∀j p,j∈done->L[j]? =some p->isVal C.tb p=true->qG C.tb p=true->j∈T\/j∈kN (bw L []) i)
  {K:St->Hp->Prop} (V:∀s1 m,K s1 m->ES C (uH o s) L s1 m T) (hv:BM C L mok o s h K) (next:Act->World->Prop) (Q:Exit->Act->World->Prop)
  (Z:∀A y F x B,K A y->mL C L mok n lv0 β0 a0 h0 w0 (i::done) (i::ls) (g.setIfInBounds i true) F A x y B->next x B):wpOp C.P S Q i next a w:=by
 have I:∀j∈kN (bw L []) i,j∈ls:=λj hj=>yi hj (· ∈ls) c.pU (λo' N=>by grind);have J:i<L.length:=(List.getElem?_eq_some_iff.1 f).1;have M:=List.mem_of_getElem? f;refine Jq (l:=bO L) ok (by grind) (by rw [O];exact hv) c.rr (λt ht j p m q r E=> ?_) (λj b p d U D G=> ?_) (λd e=>⟨Y d (wC M e),?_,wC M e⟩) (λd hp=> ?_) next Q λA y F x B z out=> ?_
 ·have:=vQ E (c.facts j p m q r).2.2.1 i o f ht;grind
 ·rw [O,ma] at D;have W:=I _ (CQ X U);refine ⟨λj' p' m q r E=> ?_,j,p,c.iM j W,D,G⟩;have:=sQ u r D E G;grind
 ·rintro ⟨j,p,m,q,r⟩;exact hid (by rw [<-sQ u q f r e];exact m)
 ·have H:pK C L done d:=⟨i,o,hid,f,hp⟩;exact ⟨H,λe=>e.2 H⟩
 ·refine Z A y F x B z ⟨by simpa using c.zl,λj=>KY c.zl J c.zk,List.nodup_cons.2 ⟨λe=>hid (c.iM i e),c.BC⟩,λj hj=> ?_,λj hj=> ?_,?_,?_,
   ⟨λo' N=>by rw [yu f N];exact λk z=>c.iM k (R k z),c.ry⟩,out.rr.congr (λt=>W7 u f hid t) (λk=>Ih u f hid k) yv (λk e=>(Bg u f hid k).1 e),λj p m q r=> ?_,
   c.vd.trans (out.vd.mono (λ_ e=>e) (λ_ e=>e) (λ_ e=>e) (λk e=>⟨e.1,(Ih u f hid k).1 e.2⟩))⟩
  ·rcases List.mem_cons.1 hj with rfl | hj
   ·simp
   ·exact List.mem_cons_of_mem _ (c.iM j hj)
  ·rcases List.mem_cons.1 hj with rfl | hj
   ·exact J
   ·exact c.qO j hj
  ·intro j p hj hjm k v;rcases List.mem_cons.1 hjm with rfl | hjm
   ·grind
   ·exact List.mem_cons_of_mem _ (c.pU j p hj hjm k v)
  ·intro j p hj hjm k v;rcases List.mem_cons.1 hjm with rfl | hjm
   ·rw [yu f hj] at v;exact List.mem_cons_of_mem _ (c.iM k (R k v))
   ·exact List.mem_cons_of_mem _ (c.kh j p hj hjm k v)
  ·have a8:j≠i:=λe=>q (e▸List.mem_cons_self ..);exact RC ok u c f hid I a9 out (V _ _ z) ((List.mem_cons.1 m).resolve_left a8) (λe=>q (List.mem_cons_of_mem _ e)) r
theorem ym {i:Array Oper} (r:i.toList=L) (b:mL C L mok n lv0 β0 a0 h0 w0 done ls g β s a h w) {j:Nat}:
  j∈Region.ready .any i g↔j∉ls/\∃o,L[j]? =some o/\∀k∈waits o,k∈ls:=by
 rw [mem_ready];have m:∀j:Nat,i[j]? =L[j]?:=λj=>by grind
 constructor
 ·rintro ⟨l,o,c,d⟩;rw [m] at c;refine ⟨λe=> ?_,o,c,λk p=> ?_⟩
  ·have q:j<g.size:=by rw [b.zl];exact (List.getElem?_eq_some_iff.1 c).1
   have:=(b.zk j).2 e;grind
  ·obtain ⟨e,f,rfl,hb⟩:=Uw p;exact (b.zk _).1 (d e f hb)
 ·rintro ⟨l,o,c,d⟩;refine ⟨?_,o,by grind,λe f hb=>(b.zk _).2 (d _ (Um f hb))⟩;have q:j<g.size:=by rw [b.zl];exact (List.getElem?_eq_some_iff.1 c).1
  cases e:g.getD j true with
  | false=>rfl
  | true=>refine absurd ((b.zk j).1 ?_) l;grind
theorem Kr {tb:Tb} {aK:List Nat}:∀ {r:List (Nat×List Nat)} {done:List Nat} {last:Option Nat} {c:List Nat} {d:Option Nat},dM tb aK L (bw L []) r done last=true->ui tb aK L (bw L []) r done last=(c,d)->
  (∀x,x∈c↔x∈done\/x∈r.map (·.1))/\(done.Nodup->c.Nodup)/\(∀e,last=some e->∃b,d=some b/\(b=e\/kO L b e))
 | [],done,last,c,d,_,he=>by cases he;grind
 | (i,ws)::r,done,last,c,d,h,he=>by
  obtain ⟨o,E,_,_,hid,B,I⟩:=Ko h;have key:∀f,dM tb aK L (bw L []) r (i::done) f=true->ui tb aK L (bw L []) r (i::done) f=(c,d)->(f=last\/f=some i)->
    (∀x,x∈c↔x∈done\/x∈((i,ws)::r).map (·.1))/\(done.Nodup->c.Nodup)/\(∀e,last=some e->∃b,d=some b/\(b=e\/kO L b e)):=by
   intro f v y A;obtain ⟨t,u,l⟩:=Kr v y;refine ⟨λx=> ?_,λD=>u (List.nodup_cons.2 ⟨hid,D⟩),λe m=> ?_⟩
   ·rw [t,List.mem_cons,List.map_cons,List.mem_cons];constructor
    ·rintro ((h | h) | h)
     ·exact .inr (.inl h)
     ·exact .inl h
     ·exact .inr (.inr h)
    ·rintro (h | h | h)
     ·exact .inl (.inr h)
     ·exact .inl (.inl h)
     ·exact .inr h
   ·rcases A with rfl | rfl
    ·exact l e m
    ·obtain ⟨b,q,e2⟩:=l i rfl;have p:=yi (B e m);refine ⟨b,q,.inr ?_⟩;rcases e2 with rfl | e2
     ·exact p
     ·intro X j G;exact p X j λH F k z=>j i H F (e2 X j G) k z
  simp only [ui,ma,E] at he;grind
theorem Ii (ok:C.tb.Ok C.P) {m:Array Oper} (t:m.toList=L) (F:(bO L).Nodup) (O:∀d∈bO L,d<n) {K0:St->Hp->Prop} {Q:Exit->Act->World->Prop} {dE:List Nat} {lE:Option Nat}
  (a8:∀j,j<L.length->j∉dE->∀e,lE=some e->kO L j e)
  (fin:∀(fuel:Nat) (ls:List Nat) (g:Array Bool) (β:Nat->Nat) (s:St) (a:Act) (h:Hp) (w:World),mL C L mok n lv0 β0 a0 h0 w0 dE ls g β s a h w->K0 s h->L.length<=fuel+ls.length->wpAny C.P .any m Q fuel g a w):
  ∀(fuel:Nat) (r:List (Nat×List Nat)) (done ls:List Nat) (g:Array Bool) (last:Option Nat) (β:Nat->Nat) (s:St) (a:Act) (h:Hp) (w:World),
   mL C L mok n lv0 β0 a0 h0 w0 done ls g β s a h w->dM C.tb C.aK L (bw L []) r done last=true->ui C.tb C.aK L (bw L []) r done last=(dE,lE)->nR C L mok r s h K0->
   L.length<=fuel+ls.length->wpAny C.P .any m Q fuel g a w:=by
 intro fuel
 induction fuel with
 | zero=>
  intro r done ls g last β s a h w hs hp he hv hf;have b0:∀j,j<L.length->j∈ls:=λj q=>xK hs.BC (λx A=>hs.qO x (hs.iM x A)) (by omega) q;cases r with
  | nil=>cases he;exact fin 0 ls g β s a h w hs hv hf
  | cons x r=>obtain ⟨i,ws⟩:=x;obtain ⟨o,c,_,_,hid,_⟩:=Ko hp;exact absurd (hs.iM i (b0 i (List.getElem?_eq_some_iff.1 c).1)) hid
 | succ fuel W=>
  intro r
  induction r with
  | nil=>intro done ls g last β s a h w hs hp he hv hf;cases he;exact fin (fuel+1) ls g β s a h w hs hv hf
  | cons x r c2=>
   intro done ls g last β s a h w hs hp he hv hf;obtain ⟨i,ws⟩:=x;obtain ⟨o,c,z,N,hid,b9,hc⟩:=Ko hp;obtain ⟨c0,_,_⟩:=Kr hp he;simp only [nR,ma,c] at hv;obtain ⟨b5,S⟩:=jq hv;have rest:dM C.tb C.aK L (bw L []) r (i::done) (some i)=true->ui C.tb C.aK L (bw L []) r (i::done) (some i)=(dE,lE)->
     ((isVal C.tb o=true\/ly C.aK o=true)\/∀j p,j∈done->L[j]? =some p->isVal C.tb p=true->qG C.tb p=true->j∈ws\/j∈kN (bw L []) i)->wpAny C.P .any m Q (fuel+1) g a w:=by
    intro f K b7;have J:∀s1 b,(match (generalizing:=false) ws with
     | []=>nR C L mok r s1 b K0
     | ws=>ES C (uH o s) L s1 b ws/\nR C L mok r s1 b K0)->ES C (uH o s) L s1 b ws/\nR C L mok r s1 b K0:=by
     intro s1 b e;cases ws with
     | nil=>exact ⟨trivial,e⟩
     | cons x ws=>exact e
    refine ⟨λhr=> ?_,λj q=> ?_⟩
    ·exfalso;by_cases A:∃j∈done,j∉ls
     ·obtain ⟨j,b,u,h3⟩:=xr hs.ry A;have M:=List.getElem?_eq_getElem (hs.qO j b);have:j∈Region.ready .any m g:=(ym t hs).2 ⟨u,_,M,h3 _ M⟩;grind
     ·have:i∈Region.ready .any m g:=(ym t hs).2 ⟨λe=>hid (hs.iM i e),o,c,λk l=>Classical.byContradiction λe=>A ⟨k,z k l,e⟩⟩;grind
    ·obtain ⟨b,p,v,u⟩:=(ym t hs).1 q;by_cases E:j∈done
     ·exact D4 ok t F hs v E b u _ Q λH B G y=>W ((i,ws)::r) done (j::ls) _ last H s B h G y hp he (by
       simp only [nR,ma,c];omega) (by simp;omega)
     ·by_cases b2:j=i
      ·subst b2;rw [c] at v;cases v;exact Xa ok t F O hs c hid u N b7 (λs h e=>(J s h e).1) S _ Q λZ h' H B G l y=>W r (j::done) (j::ls) _ (some j) H Z B h' G y f K (J _ _ l).2 (by simp;omega)
      ·exfalso;have b3:=(List.getElem?_eq_some_iff.1 v).1;have a9:kO L j i:=by
        by_cases b4:j∈r.map (·.1)
        ·exact KW f j b4
        ·have b1:j∉dE:=λh=>by grind
         obtain ⟨_,_,g3⟩:=Kr f K;obtain ⟨I,e1,e2⟩:=g3 i rfl;have b:=a8 j b3 b1 I e1;rcases e2 with rfl | e2
         ·exact b
         ·intro X D z;exact e2 X D λY R k l=>D I Y R (b X D z) k l
       have:=a9 (· ∈ls) hs.pU λY R=>by grind
       exact hid (hs.iM i this)
   simp only [ui,ma,c] at he;rcases hc with ⟨U,V,f⟩ | ⟨U,V,f⟩ | ⟨T,c1,b8,f⟩
   ·obtain ⟨Z,l,y⟩:=W4 ok F O hs c hid z N V U b5 S;grind
   ·grind
   ·exact rest f (by grind) (.inr λj p E q T b6=>J4 b8 j E p q T b6)
theorem Ij {tb:Tb} {aK:List Nat} {rows:List (List Nat)}:∀ {r:List (Nat×List Nat)} {done:List Nat} {last:Option Nat},dM tb aK L rows r done last=true->
  (r.map (·.1)).Nodup/\∀j∈r.map (·.1),j∉done/\j<L.length
 | [],_,_,_=>⟨.nil,λj d=>(nomatch d)⟩
 | (i,ws)::r,done,last,h=>by obtain ⟨o,f,_,_,hid,_,e⟩:=Ko h;have k:∀b,dM tb aK L rows r (i::done) b=true->_:=λb c=>Ij c;grind
theorem K3 {aK:List Nat} {k:Nat}:∀ {L:List Oper},k∈j6 aK L↔∃(i:Nat) (o:Oper),L[i]? =some o/\cd aK o k
 | []=>by simp [j6]
 | o::L=>by
  have f:=K3 (aK:=aK) (k:=k) (L:=L);have key:(∃(i:Nat) (p:Oper),(o::L)[i]? =some p/\cd aK p k)↔(cd aK o k\/∃(i:Nat) (p:Oper),L[i]? =some p/\cd aK p k):=by
   constructor
   ·grind
   ·rintro (h | ⟨i,p,b,c⟩)
    ·exact ⟨0,o,by simp,h⟩
    ·exact ⟨i+1,p,by simpa using b,c⟩
  rw [key,<-f];by_cases hp:∃d,cd aK o d
  ·obtain ⟨d,hp⟩:=hp;rw [Nk hp,List.mem_cons];refine or_congr ⟨λe=>e▸hp,λe=> ?_⟩ .rfl;have:=e.2;rw [hp.2] at this;cases this;rfl
  ·rw [CO λd e=>hp ⟨d,e⟩];grind
end
theorem EU :∀(l:List Oper) (j i k:Nat),(dW l j i)[k]? =(l[k]?).map λo=>if k=j then {o with after:=⟨app o.after.toList [⟨i,.data⟩]⟩} else o
 | [],_,_,k=>by simp [dW]
 | o::r,0,i,0=>by simp [dW]
 | o::r,0,i,k+1=>by simp [dW]
 | o::r,j+1,i,0=>by simp [dW]
 | o::r,j+1,i,k+1=>by simp [dW,EU r j i k]
theorem tA :∀(l:List Oper) (j i:Nat),(dW l j i).length=l.length
 | [],_,_=>rfl
 | _::_,0,_=>rfl
 | o::r,j+1,i=>by simp [dW,tA r j i]
theorem Bc :∀(l:List Oper) (j i:Nat),bO (dW l j i)=bO l
 | [],_,_=>rfl
 | _::_,0,_=>rfl
 | o::r,j+1,i=>by simp only [dW,bO,Bc r j i]
section
variable {P:Program} {Q:Exit->Act->World->Prop} {ops b:Array Oper} {i j:Nat}
theorem D7 (d:b.toList=dW ops.toList j i) {k:Nat} {K:Act->World->Prop} {a:Act} {w:World} (h:wpOp P b Q k K a w):wpOp P ops Q k K a w:=by
 have f:∀k:Nat,b[k]? =(ops[k]?).map λo=>if k=j then {o with after:=⟨app o.after.toList [⟨i,.data⟩]⟩} else o:=λk=>by rw [<-Array.getElem?_toList,d,EU,Array.getElem?_toList]
 have l:∀c,yielded b c=yielded ops c:=λc=>by funext q;unfold yielded;grind
 unfold wpOp at*;rw [f] at h;cases g:ops[k]? with
 | none=>grind
 | some o=>
  rw [g] at h;simp only [Option.map_some,l] at h;by_cases e:k=j
  ·rw [if_pos e] at h;exact h
  grind
theorem Lz (g:b.toList=dW ops.toList j i) {k:Nat} {c:Array Bool}:(k∈Region.ready .any b c->k∈Region.ready .any ops c)/\(k∈Region.ready .any ops c->(k≠j\/c.getD i false=true)->k∈Region.ready .any b c):=by
 have l:∀k:Nat,b[k]? =(ops[k]?).map λo=>if k=j then {o with after:=⟨app o.after.toList [⟨i,.data⟩]⟩} else o:=λk=>by rw [<-Array.getElem?_toList,g,EU,Array.getElem?_toList]
 simp only [mem_ready,l];constructor
 ·rintro ⟨d,n,a,f⟩;refine ⟨d,?_⟩;cases e:ops[k]? with
  | none=>grind
  | some o=>
   rw [e] at a;refine ⟨o,rfl,λx hx=>f x ?_⟩;simp at a;subst a;split
   ·rw [qH];grind
   ·exact hx
 ·rintro ⟨d,o,a,f⟩ m;refine ⟨d,_,by rw [a];rfl,λx hx hb=> ?_⟩;dsimp only at hx;by_cases e:k=j
  ·rw [if_pos e] at hx;have hx:x∈(⟨app o.after.toList [⟨i,.data⟩]⟩:Array Edge):=hx;rw [qH] at hx;simp at hx;rcases hx with hx | hx
   ·exact f x (by simpa using hx) hb
   ·subst hx;exact m.resolve_left λh=>h e
  grind
theorem LR (f:b.toList=dW ops.toList j i):∀(fuel:Nat) (c:Array Bool) (a:Act) (w:World),c.getD i false=true->wpAny P .any b Q fuel c a w->wpAny P .any ops Q fuel c a w:=by
 have l:∀c:Array Bool,c.getD i false=true->Region.ready .any ops c=[]->Region.ready .any b c=[]:=λc d g=>by refine List.eq_nil_iff_forall_not_mem.2 λk e=> ?_;have:=(Lz f).1 e;grind
 have m:∀c:Array Bool,c.getD i false=true->Region.ready .any b c=[]->Region.ready .any ops c=[]:=λc d g=>by refine List.eq_nil_iff_forall_not_mem.2 λk e=> ?_;have:=(Lz f).2 e (.inr d);grind
 intro fuel
 induction fuel with
 | zero=>exact λc a w d h=>⟨m c d h.1,h.2⟩
 | succ fuel n=>intro c a w d h;refine ⟨λg=>h.1 (l c d g),λk e=> ?_⟩;exact wpOp_mono (λa w h=>n _ a w (getD_set_true d) h) (D7 f (h.2 k ((Lz f).2 e (.inr d))))
end
section
variable {C:Ctx} {L:List Oper} {mok:List Nat} {n:Nat} {lv0:Nat->Prop} {β0:Nat->Nat} {a0:Act} {h0:Hp} {w0:World} {done ls:List Nat} {c:Array Bool} {β:Nat->Nat} {s:St} {a:Act} {h:Hp} {w:World} {i j:Nat}
theorem Js {k:Nat} (b:k≠j):(dW L j i)[k]? =L[k]?:=by rw [EU];grind
theorem UC (k:Nat) {o:Oper}:(dW L j i)[k]? =some o->∃p,L[k]? =some p/\o.dst=p.dst/\o.op=p.op/\o.guard=p.guard:=by rw [EU];grind
theorem mM (k:Nat) {p:Oper} (h:L[k]? =some p):∃o,(dW L j i)[k]? =some o/\o.dst=p.dst/\o.op=p.op/\o.guard=p.guard:=by rw [EU,h];grind
theorem K4 :∀(m:Nat) (o:Oper),pd (dW L j i) m o=pd L m o
 | 0,_=>rfl
 | m+1,o=>by
  unfold pd;cases o.guard with
  | none=>rfl
  | some g=>
   obtain ⟨q,b⟩:=g;dsimp only;rw [ma,ma];cases e:L[q]? with
   | none=>
    have:(dW L j i)[q]? =none:=by rw [EU,e];rfl
    rw [this]
   | some p=>
    obtain ⟨d,f,k,_,l⟩:=mM (i:=i) (j:=j) q e;rw [f];dsimp only;have:∀m,pd L m d=pd L m p:=λm=>by cases m<;>simp [pd,l]
    rw [K4 m d,this,k]
theorem K5 {aK:List Nat} {o p:Oper} (b:o.dst=p.dst) (d:o.op=p.op) (k:Nat):cd aK o k↔cd aK p k:=by unfold cd ly;rw [b,d]
theorem Ik {b:List Oper} {e rows:List (List Nat)}:∀ {done:List Nat},tU b e L rows done=true->∀k∈done,∀o,L[k]? =some o->gD e k o b 0=false->de L rows k o=true/\gD rows k o L 0=false
 | [],_,k,hk,_,_,_=>by cases hk
 | q::r,h,k,hk,o,d,l=>by
  unfold tU at h;obtain ⟨f,g⟩:=eV h;rcases List.mem_cons.1 hk with rfl | hk
  ·rw [ma,d] at f;grind
  ·exact Ik g k hk o d l
theorem Cv {rows:List (List Nat)} {i:Nat} {done:List Nat}:∀ {m:Nat},tT rows i done m=true->∀k,k<m->k∉done->k≠i->i∈kN rows k
 | 0,_,k,p,_,_=>by omega
 | m+1,h,k,p,d,f=>by
  unfold tT at h;obtain ⟨b,o⟩:=eV h;by_cases e:k=m
  ·subst e;have g:has done k=false:=by
    cases e:has done k with
    | false=>rfl
    | true=>exact absurd ((qD _ _).1 e) d
   have l:Nat.beq k i=false:=by
    cases e:Nat.beq k i with
    | false=>rfl
    | true=>exact absurd (Nat.eq_of_beq_eq_true e) f
   rw [g,l] at b;exact (qD _ _).1 b
  ·exact Cv o k (by omega) d f
theorem Jt (k:mL C L mok n lv0 β0 a0 h0 w0 done ls c β s a h w) (O:j∉done) (P:tU L (bw L []) (dW L j i) (bw (dW L j i) []) done=true):
  mL C (dW L j i) mok n lv0 β0 a0 h0 w0 done ls c β s a h w:=by
 have l:∀q,q∈done->(dW L j i)[q]? =L[q]?:=λq m=>Js λe=>O (e▸m);have M:kE (dW L j i) done ls=kE L done ls:=funext λt=>propext ⟨λh q o b g f=>h q o b g ((l q b).trans f),λh q o b g f=>h q o b g ((l q b).symm.trans f)⟩;have N:qM (dW L j i) done=qM L done:=funext λt=>propext ⟨λ⟨q,o,b,g,f⟩=>⟨q,o,b,(l q b).symm.trans g,f⟩,λ⟨q,o,b,g,f⟩=>⟨q,o,b,(l q b).trans g,f⟩⟩;have D:pK C (dW L j i) done=pK C L done:=funext λt=>propext ⟨λ⟨q,o,b,g,f⟩=>by
   obtain ⟨p,r,u,v,_⟩:=UC q g;exact ⟨q,p,b,r,(K5 u v t).1 f⟩,λ⟨q,o,b,g,f⟩=>by
   obtain ⟨p,r,u,v,_⟩:=mM (i:=i) (j:=j) q g;exact ⟨q,p,b,r,(K5 u v t).2 f⟩⟩
 have B:gI C (dW L j i) done ls=gI C L done ls:=funext λt=>propext (by
  unfold gI;rw [D];grind)
 have z:∀X:List Nat,(∀q∈X,q∈done)->uw L (· ∈X)->uw (dW L j i) (· ∈X):=λX J K q o y m=>K q o ((l q (J q m)).symm.trans y) m;have Q:∀d:List Nat,(∀q∈d,q∈done)->uD L d->uD (dW L j i) d:=by
  intro d
  induction d with
  | nil=>intro _ _;trivial
  | cons q d S=>intro A E;exact ⟨λo y=>E.1 o ((l q (A q (List.mem_cons_self ..))).symm.trans y),S (λx R=>A x (List.mem_cons_of_mem _ R)) E.2⟩
 refine ⟨by rw [tA];exact k.zl,k.zk,k.BC,k.iM,λq m=>by rw [tA];exact k.qO q m,z ls k.iM k.pU,z done (λ_ h=>h) k.kh,Q done (λ_ h=>h) k.ry,?_,λq o b g f=> ?_,?_⟩
 ·rw [M,B,N,D];exact k.rr
 ·have I:=(l q b).symm.trans f;obtain ⟨f1,f2,f3,F⟩:=k.facts q o b g I;obtain ⟨G,H⟩:=Ik P q b o f f3;refine ⟨?_,G,H,F⟩;unfold mJ at*;rw [tA,K4];exact f1
 ·rw [Bc,B];exact k.vd
end
theorem UF {l m:List Nat} (b:m.Nodup) (h:l.Nodup) (c:∀x∈l,x∈m):l.length<=m.length:=by
 induction l generalizing m with
 | nil=>simp
 | cons a l i=>obtain ⟨f,g⟩:=List.nodup_cons.1 h;have j:=c a (List.mem_cons_self ..);have:=i (m:=m.erase a) (b.erase a) g λx d=>(b.mem_erase_iff).2 ⟨λe=>f (e▸d),c x (List.mem_cons_of_mem _ d)⟩;grind
theorem Ju {C:Ctx} {L:List Oper} {u:List Nat} {n:Nat} {r:Nat->Prop} {z:Nat->Nat} {a0:Act} {l:Hp} {v:World} {K:St->Hp->Prop} {Q:Exit->Act->World->Prop} {done ls:List Nat} {F:Array Bool} {x:Nat->Nat} {s:St} {a:Act} {h:Hp} {w:World}
  (q:mL C L u n r z a0 l v done ls F x s a h w) (D:∀j,j<L.length->j∈done) (o:∀j∈done,j∈ls) (E:K s h)
  (B:∀g f y d i,K g f->RR n (λ_=>True) (λ_=>True) (λ_=>True) (λ_=>False) y g d f i->gm (bO L) u r z a0 l v (cc g) y d f i->Q .normal d i):Q .normal a w:=by
 have A:∀k,¬pK C L done k:=λk ⟨j,p,b,c,_⟩=>b (D j (List.getElem?_eq_some_iff.1 c).1);have m:∀k,True↔gI C L done ls k:=λk=>⟨λ_=>⟨λj p b c _=>absurd (o j b) c,A k⟩,λ_=>trivial⟩;exact B s h x a w E (q.rr.congr (λt=>⟨λ_ j p b c _=>absurd (o j b) c,λ_=>trivial⟩) m (λ_ _=>trivial) (λ_ e=>e.elim)) (q.vd.mono (λ_ e=>e) (λ_ e=>e) (λ_ e=>e) (λk e=>⟨e.1,(m k).1 trivial⟩))
theorem RE {C:Ctx} (ok:C.tb.Ok C.P) {mok:List Nat} {n:Nat} {lv0:Nat->Prop} {β0:Nat->Nat} {a0:Act} {h0:Hp} {w0:World} {K:St->Hp->Prop} {Q:Exit->Act->World->Prop}:
  ∀(A:bp) (c:Array Oper) (done:List Nat) (last:Option Nat),(bO c.toList).Nodup->(∀d∈bO c.toList,d<n)->mY C.tb C.aK A c.toList done last=true->done.Nodup->
  (∀s' S J D G,K s' S->RR n (λ_=>True) (λ_=>True) (λ_=>True) (λ_=>False) J s' D S G->gm (bO c.toList) mok lv0 β0 a0 h0 w0 (cc s') J D S G->Q .normal D G)->
  ∀(fuel:Nat) (l:List Nat) (g:Array Bool) (v:Nat->Nat) (s:St) (a:Act) (h:Hp) (w:World),mL C c.toList mok n lv0 β0 a0 h0 w0 done l g v s a h w->va C mok K A c.toList s h->c.toList.length<=fuel+l.length->
   wpAny C.P .any c Q fuel g a w:=by
 intro A
 induction A with
 | rg R=>
  intro c done last hnd F hp hdn hQ fuel l g v s a h w b hv t;unfold mY at hp;obtain ⟨b4,hp⟩:=eV hp;have b4:=Nat.eq_of_beq_eq_true b4;have H:∀dE lE,ui C.tb C.aK c.toList (bw c.toList []) R done last=(dE,lE)->∀j,j<c.toList.length->j∈dE:=λdE lE B j u=>by
   obtain ⟨Z,M,_⟩:=Kr hp B;have a8:=Ij hp;refine xK (M hdn) (λx r=> ?_) ?_ u
   ·rcases (Z x).1 r with h1 | h1
    ·exact b.qO x h1
    grind
   ·have h1:(done++R.map (·.1)).Nodup:=List.nodup_append.2 ⟨hdn,a8.1,λx r y hy e=>(a8.2 y hy).1 (e▸r)⟩;have z:=UF (M hdn) h1 λx r=>by rw [List.mem_append] at r;exact (Z x).2 r
    grind
  cases B:ui C.tb C.aK c.toList (bw c.toList []) R done last with
  | mk dE lE=>
   have H:=H dE lE B;refine Ii (mok:=mok) (K0:=K) ok rfl hnd F (dE:=dE) (lE:=lE) (λj u O=>absurd (H j u) O) ?_ fuel R done l g last v s a h w b hp B hv t;clear b hv t;intro fuel
   induction fuel with
   | zero=>intro l g v s a h w b hv t;have hl:∀j,j<c.toList.length->j∈l:=λj u=>xK b.BC (λx r=>b.qO x (b.iM x r)) (by omega) u;refine ⟨List.eq_nil_iff_forall_not_mem.2 λk m=> ?_,Ju b H (λj u=>hl j (b.qO j u)) hv hQ⟩;obtain ⟨h1,o,U,_⟩:=(ym rfl b).1 m;grind
   | succ fuel Y=>
    intro l g v s a h w b hv t;refine ⟨λhr=>Ju b H (λj u=>Classical.byContradiction λe=> ?_) hv hQ,λj u=> ?_⟩
    ·obtain ⟨i,h1,z,T⟩:=xr b.ry ⟨j,u,e⟩;have L:=List.getElem?_eq_getElem (b.qO i h1);have:i∈Region.ready .any c g:=(ym rfl b).2 ⟨z,_,L,T _ L⟩;grind
    ·obtain ⟨h1,o,U,z⟩:=(ym rfl b).1 u;exact D4 ok rfl hnd b U (H j (List.getElem?_eq_some_iff.1 U).1) h1 z _ Q λJ D G X=>Y (j::l) _ J s D h G X hv (by grind)
 | r2 pre i j x y d0 d1=>
  intro c done last hnd F hp hdn hQ fuel l g v s a h w b hv t;unfold mY at hp;obtain ⟨b5,hp⟩:=eV hp;cases B:ui C.tb C.aK c.toList (bw c.toList []) pre done last with
  | mk dE lE=>
   rw [B] at hp;dsimp only at hp;obtain ⟨f,hp⟩:=eV hp;obtain ⟨c6,c7⟩:=eV hp;obtain ⟨Z,M,_⟩:=Kr b5 B;unfold KE at f;cases I:Nat.beq i j with
   | true=>grind
   | false=>
    rw [I] at f;have I:i≠j:=λe=>by rw [e] at I;simp at I
    simp only [cond_false,ma] at f;cases V:c.toList[i]? with
    | none=>grind
    | some o=>
     cases c5:c.toList[j]? with
     | none=>grind
     | some p=>
      rw [V,c5] at f;dsimp only at f;cases E:has dE i with
      | true=>grind
      | false=>
       cases N:has dE j with
       | true=>grind
       | false=>
        rw [E,N] at f;simp only [cond_false] at f;have E:=yk E;have N:=yk N;obtain ⟨c8,f⟩:=eV f;obtain ⟨d3,f⟩:=eV f;obtain ⟨b3,f⟩:=eV f;obtain ⟨b7,f⟩:=eV f;obtain ⟨d2,f⟩:=eV f;obtain ⟨c0,c1⟩:=eV f;refine Ii (mok:=mok) ok rfl hnd F (dE:=dE) (lE:=lE) (λk m O e c3=> ?_) ?_ fuel pre done l g last v s a h w b b5 B hv t
        ·subst c3;by_cases b0:k=e
         ·subst b0;exact absurd ((qD _ _).1 (eV b3).1) O
         ·exact yi (Cv (eV b3).2 k m O b0)
        ·clear b hv t;have b9:i<c.toList.length:=(List.getElem?_eq_some_iff.1 V).1;intro fuel
         induction fuel with
         | zero=>intro l g v s a h w b hv t;exact absurd (b.iM i (xK b.BC (λx r=>b.qO x (b.iM x r)) (by omega) b9)) E
         | succ fuel Y=>
          intro l g v s a h w b hv t;have s1:=Jt b N c0;have s2:=Jt b E c1;have kx:=d0 (dW c.toList j i).toArray dE lE (by simpa [Bc] using hnd) (by simpa [Bc] using F) c6 (M hdn) (by simpa [Bc] using hQ) (fuel+1) l g v s a h w s1 hv.1 (by simpa [tA] using t);have ky:=d1 (dW c.toList i j).toArray dE lE (by simpa [Bc] using hnd) (by simpa [Bc] using F) c7 (M hdn) (by simpa [Bc] using hQ) (fuel+1) l g v s a h w s2 hv.2 (by simpa [tA] using t);have b6:∀ {k:Nat},k∈Region.ready .any c g->(g.setIfInBounds k true).getD k false=true:=λ{k} m=>by
           have h0:=(mem_ready.1 m).1;have F:k<g.size:=by grind
           simp [F]
          refine ⟨λhr=> ?_,λk m=> ?_⟩
          ·exfalso;by_cases r:∃j∈dE,j∉l
           ·obtain ⟨q,h1,z,T⟩:=xr b.ry r;have L:=List.getElem?_eq_getElem (b.qO q h1);have:q∈Region.ready .any c g:=(ym rfl b).2 ⟨z,_,L,T _ L⟩;grind
           ·have:i∈Region.ready .any c g:=(ym rfl b).2 ⟨λe=>E (b.iM i e),o,V,λk m=>Classical.byContradiction λe=>r ⟨k,FM c8 k m,e⟩⟩;grind
          ·obtain ⟨h1,q,W,z⟩:=(ym rfl b).1 m;by_cases a9:k∈dE
           ·exact D4 ok rfl hnd b W a9 h1 z _ Q λJ D G X=>Y (k::l) _ J s D h G X hv (by grind)
           ·by_cases b1:k=i
            ·subst b1;exact wpOp_mono (λa w h=>LR rfl _ _ a w (b6 m) h) (D7 rfl (kx.2 k ((Lz rfl).2 m (.inl I))))
            ·by_cases b2:k=j
             ·subst b2;exact wpOp_mono (λa w h=>LR rfl _ _ a w (b6 m) h) (D7 rfl (ky.2 k ((Lz rfl).2 m (.inl λe=>I e.symm))))
             ·exfalso;have c2:=(List.getElem?_eq_some_iff.1 W).1;have b8:=yi (Cv b7 k c2 a9 b1) (· ∈l) s1.pU λo' c4=>by rw [Js b2,W] at c4;grind
              exact E (b.iM i b8)
 | _=>intro c done last _ _ hp;cases hp
theorem UI {C:Ctx} (ok:C.tb.Ok C.P) {b:Array Oper} {mok:List Nat} {n:Nat} {A:bp} {m:Nat->Nat} {s:St} {a:Act} {h:Hp} {w:World} {K:St->Hp->Prop} {Q:Exit->Act->World->Prop} {id:Nat}
  (q:nodup (bO b.toList)=true) (hp:mY C.tb C.aK A b.toList [] none=true) (F:∀d∈bO b.toList,d<n) (z:Rel n m s a h w) (hv:va C mok K A b.toList (s.ki (j6 C.aK b.toList)) h)
  (D:∀g f p c j,K g f->Rel n p g.clean c f j->gm (bO b.toList) mok (cc s) m a h w (cc g) p c f j->Q .normal c j):(Code.region id b true).wp C.P Q a w:=by
 have G:=xT q;refine wp_region_any ok.mixed ?_;have B:Step h h w {w with drawn:=w.drawn+1}:=⟨z.sub,Nat.le_refl _,λ_ _ e=>⟨rfl,e⟩,rfl,rfl,rfl⟩;have I:=(z.step B).start (j6 C.aK b.toList);have x:∀k,pK C b.toList [] k↔k∈j6 C.aK b.toList:=λk=>by rw [K3];exact ⟨λ⟨i,o,_,r,u⟩=>⟨i,o,r,u⟩,λ⟨i,o,r,u⟩=>⟨i,o,by simp,r,u⟩⟩
 have v:∀k,gI C b.toList [] [] k↔k∉j6 C.aK b.toList:=λk=>by rw [<-x];exact ⟨λe=>e.2,λe=>⟨λi o q=>absurd q List.not_mem_nil,e⟩⟩
 refine RE (mok:=mok) (n:=n) (lv0:=cc s) (β0:=m) (a0:=a) (h0:=h) (w0:=w) (K:=K) ok A b [] none G F hp .nil (λg f p c j E H J=>D g f p c j E H.clean J) b.size [] _ m (s.ki (j6 C.aK b.toList)) a h _
  ⟨by simp,λi=> ?_,.nil,λi e=>absurd e List.not_mem_nil,λi e=>absurd e List.not_mem_nil,λi o _ e=>absurd e List.not_mem_nil,λi o _ e=>absurd e List.not_mem_nil,trivial,?_,λi o e=>absurd e List.not_mem_nil,?_⟩ hv (by simp)
 ·by_cases y:i<b.size
  ·simp [y]
  ·simp [y]
 ·exact I.congr (λt=>⟨λ_=>trivial,λ_ i o e=>absurd e List.not_mem_nil⟩) v (λ_ e=>e.elim) (λk e=>(x k).1 e)
 ·exact (gm.step (lv:=cc s) B).mono (λ_ e=>e) (λ_ e=>e) (λ_ e=>e) (λk e=>LL (l:=j6 C.aK b.toList) ⟨e.1,(v k).1 e.2⟩)
def nN :Ex->Exit
 | .fR=>.normal
 | .ret=>.ret
 | .ext i=>.exit i
 | .jD i=>.goto i
theorem Il {p:Nat->Prop}:(∃n,p n)->∃n,p n/\∀m,p m->n<=m:=by
 rintro ⟨n,a⟩
 induction n using Nat.strongRecOn with
 | _ n b=>grind
theorem aas {P:Program} {c:Code} {Q:Exit->Act->World->Prop} {a:Act} {w:World} (J:Nat->Act->World->Prop) (g:∃n,J n a w)
  (round:∀n a w,J n a w->c.wp P (Exit.then (λd f=>∃m,m<n/\J m d f) Q) a w):(Code.loop c).wp P Q a w:=by
 classical
 let b:Act->World->Nat:=λa w=>if h:∃n,J n a w then Classical.choose (Il h) else 0
 have j:∀a w,(h:∃n,J n a w)->J (b a w) a w/\∀m,J m a w->b a w<=m:=λa w h=>by have:=Classical.choose_spec (Il h);simp only [b,dif_pos h];exact this
 refine wp_loop (λa w=>∃n,J n a w) b g λa w i=> ?_;refine wp_mono (round (b a w) a w (j a w i).1) λe d f k=> ?_;grind
section
variable {n:Nat} {β:Nat->Nat} {s:St} {a:Act} {h:Hp} {w:World}
structure Fl (s s' s2:St) (a':Act) (n:Nat) (l mm:List Nat):Prop where
 f:∀t v c,s2.f t=some (v,c)->c=[]/\((s.f t=some (v,[])/\t∉l/\∀k o,(v=.box k o\/v=.dz k o)->k∉l)\/(∃x,v=.v x/\a'.eval (.tmp t)=x/\t<n))
 m:∀k cs,s2.m k=some cs->(s.m k=some cs/\k∉mm)\/s'.m k=some cs
theorem aaP {l B:List Nat} {u:Nat->Nat} {G s2:St} {z:Act} {A:Hp} {C:World} (r:Rel n β s a h w) (b:gm l B (cc s) β a h w (cc G) u z A C) (F:Rel n u G z A C) (j:Fl s G s2 z n l B):
  Rel n u s2 z A C/\gm l B (cc s) β a h w (cc s2) u z A C:=by
 have E:∀k g,s.m k=some g->k∉B->u k=β k/\β k<w.heap.size/\A (β k)=none/\∃H,C.heap[β k]? =some (.cells g.toArray H (0,0)):=by intro k g e O;obtain ⟨h1,H,i⟩:=r.box k g e trivial;have P:∀d∈B,cc s d->β d≠β k:=λd R S y=>O (by rw [r.inj k d (by simp [e]) S.1 trivial trivial y.symm];exact R);refine ⟨b.beta k (.inr O),gy i,b.wo _ (gy i) h1 P,H,?_⟩;rw [b.bq _ (gy i) h1 P];exact i
 have Q:∀k,G.m k≠none->(s.m k≠none/\u k=β k)\/w.heap.size<=u k:=λk e=>(b.fresh k ⟨e,trivial⟩).imp (λe=>⟨e.1.1,e.2⟩) id;refine ⟨⟨F.sz,F.sub,λt v c e=> ?_,λt v c e p hp=> ?_,λt v c e _ _=> ?_,λt v c e _ N=> ?_,λk g e _=> ?_,λk d e y _ _ q=> ?_,λ_ e=>e.elim,λ_ e=>e.elim⟩,?_⟩
 ·obtain ⟨_,h1 | ⟨x,_,_,h1⟩⟩:=j.f t v c e
  ·exact r.lt t v [] h1.1
  ·exact h1
 ·rw [(j.f t v c e).1] at hp;cases hp
 ·refine ⟨?_,λ_ _ _=>trivial⟩;obtain ⟨_,⟨h1,i,M⟩ | ⟨x,rfl,h1,_⟩⟩:=j.f t v c e
  ·rw [b.tmp t i,(r.cur t v [] h1 trivial (bz _)).1];cases v with
   | v x=>rfl
   | box k o=>simp only [LVal,b.beta k (.inl (M k o (.inl rfl)))]
   | dz k o=>simp only [LVal,b.beta k (.inl (M k o (.inr rfl)))]
  ·exact h1
 ·rw [(j.f t v c e).1] at N;exact absurd (bz _) N
 ·rcases j.m k g e with ⟨h1,i⟩ | h1
  ·grind
  ·exact F.box k g h1 trivial
 ·obtain ⟨g,e⟩:=Option.ne_none_iff_exists'.1 e;obtain ⟨D,y⟩:=Option.ne_none_iff_exists'.1 y;rcases j.m k g e with ⟨h1,i⟩ | h1
  ·obtain ⟨L,T,_⟩:=E k g h1 i;rcases j.m d D y with ⟨h1',K⟩ | h1'
   ·obtain ⟨I,_⟩:=E d D h1' K;rw [L,I] at q;exact r.inj k d (by simp [h1]) (by simp [h1']) trivial trivial q
   ·rcases Q d (by simp [h1']) with ⟨e3,J⟩ | e3
    ·rw [L,J] at q;exact r.inj k d (by simp [h1]) e3 trivial trivial q
    omega
  ·rcases j.m d D y with ⟨h1',K⟩ | h1'
   ·obtain ⟨I,U,_⟩:=E d D h1' K;rcases Q k (by simp [h1]) with ⟨e3,J⟩ | e3
    ·rw [I,J] at q;exact r.inj k d e3 (by simp [h1']) trivial trivial q
    omega
   ·exact F.inj k d (by simp [h1]) (by simp [h1']) trivial trivial q
 ·refine ⟨b.tmp,b.beta,b.size,b.wo,b.bq,λk e=> ?_,b.os,b.tape,b.output,b.defers⟩;obtain ⟨g,e⟩:=Option.ne_none_iff_exists'.1 e.1;rcases j.m k g e with ⟨h1,i⟩ | h1
  ·exact .inl ⟨⟨by simp [h1],trivial⟩,(E k g h1 i).1⟩
  ·exact b.fresh k ⟨by simp [h1],trivial⟩
def shO :Option Ty->Shape
 | some e=>e.sh
 | none=>sW
theorem Jv (tb:Tb) (t:Nat):dt tb t=shO (tb.ty t):=by unfold dt shO;grind
theorem Zx {P:Program} {tb:Tb} (ok:tb.Ok P) {t:Nat} (c:xH tb t=false):∀(x:(dt tb t).T) (b:Array Value),(dt tb t).enc x≠ .agg b:=by
 rw [Jv];unfold xH at c;cases d:tb.ty t with
 | none=>intro x b e;cases e
 | some e=>rw [d] at c;intro x b;exact ((ok.leaf t e d c).2 x).2 b
theorem yM {tb:Tb} {t:Nat} {v:Value} {K:(dt tb t).T->Prop} (h:th tb t v K):∃x,(dt tb t).enc x=v/\K x:=by
 unfold th at h;cases b:zi tb t with
 | true=>rw [b] at h;exact h
 | false=>
  rw [b] at h;simp only [cond_false] at h;split at h
  ·rename_i x c;exact ⟨x,(dt tb t).ok v x c,h⟩
  ·exact h.elim
theorem Im {P:Program} {tb:Tb} (ok:tb.Ok P) {t:Nat} {c:List Value} {v:Value} {x:(dt tb t).T} (b:yG tb t c=some v) (hv:(dt tb t).enc x=v):bg ((dt tb t).enc x)=c:=by
 rw [hv];unfold yG at b;cases d:xH tb t with
 | true=>rw [d] at b;cases b;rfl
 | false=>
  rw [d] at b;simp only [cond_false] at b;split at b
  ·cases b;have f:∀c,v≠ .agg c:=λc e=>Zx ok d x c (hv.trans e);cases v<;>first | rfl | grind
  ·cases b
theorem K6 {P:Program} {tb:Tb} (ok:tb.Ok P) {l B:List Nat} {G:Nat->Nat} {o s2:St} {p:Act} {D:Hp} {F:World} (z:Rel n G o p D F) {j:J} {K:(dt tb j.t).T->Prop} (b:xI tb o j K)
  (g:Fl s o s2 p n l B):∃x,K x/\Fl s o (vZ tb j x s2) p n l B:=by
 unfold xI at b;cases d:j.NQ with
 | true=>
  rw [d] at b;simp only [cond_true] at b;split at b
  ·rename_i r H;split at b
   ·rename_i v hv
    ·obtain ⟨x,q,b⟩:=yM b;refine ⟨x,b,?_⟩;have E:=Im ok hv q;unfold vZ;rw [d];simp only [cond_true,E];refine ⟨g.f,λk C e=> ?_⟩;by_cases y:k=j.i
     ·subst y;rw [xQ] at e;grind
     ·rw [vU _ _ y] at e;exact g.m k C e
   ·exact b.elim
  ·exact b.elim
 | false=>
  rw [d] at b;simp only [cond_false] at b;split at b
  ·rename_i v hv
   ·obtain ⟨x,q,b⟩:=yM b;refine ⟨x,b,?_⟩;unfold vZ;rw [d];simp only [cond_false];rw [q];refine ⟨λt u c e=> ?_,λk r e=>g.m k r (by rwa [lW] at e)⟩;by_cases A:t=j.i
    ·subst A;rw [ET] at e;cases e;exact ⟨rfl,.inr ⟨v,rfl,(z.cur j.i _ [] hv trivial (bz _)).1,z.lt _ _ _ hv⟩⟩
    ·rw [rM _ _ _ A] at e;exact g.f t u c e
  ·exact b.elim
theorem Io {P:Program} {tb:Tb} (ok:tb.Ok P) {l e:List Nat} {q:Nat->Nat} {s':St} {a':Act} {f:Hp} {p:World} (d:Rel n q s' a' f p):∀ {js:List J} {s2:St} {K:nG tb js->Prop},mQ tb js s' K->
  Fl s s' s2 a' n l e->∃x,K x/\Fl s s' (ng tb js x s2) a' n l e
 | [],s2,K,b,c=>⟨(),b,c⟩
 | [j],s2,K,b,c=>K6 ok d b c
 | j::o::js,s2,K,b,c=>by obtain ⟨x,k,g⟩:=K6 ok d b c;obtain ⟨y,m,i⟩:=Io ok d (js:=o::js) k g;exact ⟨(x,y),m,i⟩
theorem RG (m:Rel n β s a h w) {l f:List Nat} {s':St} {a':Act}:Fl s s' (s.forget l f) a' n l f:=by
 refine ⟨λt v c e=> ?_,λk o e=> ?_⟩
 ·simp only [St.forget] at e;cases d:has l t with
  | true=>simp [d] at e
  | false=>
   simp only [d,cond_false] at e;obtain ⟨g,i⟩:=lU e;have j:c=[]:=by
    cases c with
    | nil=>rfl
    | cons p c=>exact (m.chain t v _ g p (List.mem_cons_self ..)).elim
   subst j;exact ⟨rfl,.inl ⟨g,yk d,i⟩⟩
 ·simp only [St.forget] at e;cases b:has f k with
  | true=>simp [b] at e
  | false=>simp only [b,cond_false] at e;exact .inl ⟨e,yk b⟩
theorem vz {P:Program} {tb:Tb} (ok:tb.Ok P) {l mm:List Nat} {e:Nat->Nat} {s':St} {a':Act} {b:Hp} {d:World} (f:Rel n β s a h w) (k:gm l mm (cc s) β a h w (cc s') e a' b d) (g:Rel n e s' a' b d)
  {c:List J} {K:nG tb c->Prop} (i:mQ tb c s' K):
  ∃x,K x/\Rel n e (ng tb c x (s.forget l mm)) a' b d/\gm l mm (cc s) β a h w (cc (ng tb c x (s.forget l mm))) e a' b d:=by
 obtain ⟨x,p,j⟩:=Io ok g i (RG (s':=s') (a':=a') f);obtain ⟨m,o⟩:=aaP f k g j;grind
end
theorem Zy {n:Nat} {Q:Nat->Nat} {s:St} {a:Act} {h:Hp} {w:World} {l L:List Nat} {r:Nat->Nat} {u:St} {C:Act} {z:Hp} {E:World} {k:Nat} {K:St->Hp->Prop} (hk:k∈L) (g:gm l L (cc s) Q a h w (cc u) r C z E) (d:Rel n r u C z E) (hp:BO k u z K):
  ∃s2 q,K s2 q/\Rel n r s2 C q E/\gm l L (cc s) Q a h w (cc s2) r C q E:=by
 unfold BO at hp;split at hp
 ·rename_i k' off F M I;obtain ⟨A,O⟩:=jq hp;obtain ⟨q,a8⟩:=jq O;clear hp O;have A:=Nat.eq_of_beq_eq_true A;have q:=Nat.eq_of_beq_eq_true q;subst A q;obtain ⟨X,G,hw⟩:=d.box k F I trivial;have J:∀x,(z.set (r k) (.cells F.toArray G (0,0))) x=if x=r k then some (.cells F.toArray G (0,0)) else z x:=λx=>rfl
  have W:∀i y,cond (Nat.beq i k) none (u.m i)=some y->i≠k/\u.m i=some y:=λi y e=>by grind
  have B:∀t v c,cond (Nat.beq t k) (some (LV.v (.pointer (some ⟨r k,0,none⟩)),([]:aS))) (u.f t)=some (v,c)->(t=k/\v=LV.v (.pointer (some ⟨r k,0,none⟩))/\c=[])\/u.f t=some (v,c):=λt v c e=>by
   by_cases H:t=k
   ·grind
   ·rw [nT H] at e;exact .inr e
  refine ⟨_,_,a8 (r k) G X,⟨d.sz,λb o e=> ?_,λt v c e=> ?_,λt v c e p P=> ?_,λt v c e _ N=> ?_,λt v c e _ N=> ?_,λi y e _=> ?_,λi j e D _ _ U=> ?_,λ_ e=>e.elim,λ_ e=>e.elim⟩,?_⟩
  ·rw [J] at e;split at e
   ·grind
   ·exact d.sub b o e
  ·rcases B t v c e with ⟨rfl,_,_⟩ | e
   ·exact d.lt t _ _ M
   ·exact d.lt t v c e
  ·rcases B t v c e with ⟨rfl,_,rfl⟩ | e
   ·cases P
   ·exact d.chain t v c e p P
  ·have V:holds u c:=by
    have:c=[]:=by
     rcases B t v c e with ⟨_,_,h⟩ | e
     ·exact h
     ·cases c with
      | nil=>rfl
      | cons p c=>exact (d.chain t v _ e p (List.mem_cons_self ..)).elim
    subst this;exact bz _
   rcases B t v c e with ⟨rfl,rfl,rfl⟩ | e
   ·refine ⟨?_,λ_ _ _=>trivial⟩;exact (d.cur t _ _ M trivial (bz _)).1
   ·exact ⟨(d.cur t v c e trivial V).1,λ_ _ _=>trivial⟩
  ·have:c=[]:=by
    rcases B t v c e with ⟨_,_,h⟩ | e
    ·exact h
    ·cases c with
     | nil=>rfl
     | cons p c=>exact (d.chain t v _ e p (List.mem_cons_self ..)).elim
   subst this;exact absurd (bz _) N
  ·obtain ⟨A,q⟩:=W i y e;obtain ⟨S,R,T⟩:=d.box i y q trivial;refine ⟨?_,R,T⟩;rw [J,if_neg]
   ·exact S
   ·intro D;exact A (d.inj i k (by simp [q]) (by simp [I]) trivial trivial D)
  ·obtain ⟨ci,e⟩:=Option.ne_none_iff_exists'.1 e;obtain ⟨cj,D⟩:=Option.ne_none_iff_exists'.1 D;exact d.inj i j (by grind) (by grind) trivial trivial U
  ·refine ⟨g.tmp,g.beta,g.size,λb hb Y Z=> ?_,g.bq,λi H=> ?_,g.os,g.tape,g.output,g.defers⟩
   ·rw [J,if_neg]
    ·exact g.wo b hb Y Z
    ·rintro rfl;rcases g.fresh k ⟨by simp [I],trivial⟩ with ⟨e1,e2⟩ | e1
     ·grind
     ·omega
   ·obtain ⟨ci,e⟩:=Option.ne_none_iff_exists'.1 H.1;exact g.fresh i ⟨by grind,trivial⟩
 ·exact hp.elim
theorem ig {x y:List Nat} {d:Nat}:d∈app x y↔d∈x\/d∈y:=by rw [qH,List.mem_append]
theorem ot {a:Type} {c:Bool} {x:Option a} {y:a} (e:cond c x none=some y):c=true/\x=some y:=by grind
theorem K7 {l:Nat}:∀ {c:Code},ko c l=true->findLabel c l=none:=by
 intro c
 induction c with
 | seq a b g h=>
  intro e;simp only [ko] at e;cases d:ko a l with
  | false=>grind
  | true=>rw [d] at e;simp only [findLabel,g d];exact h e
 | label i=>
  intro e;simp only [ko] at e;by_cases f:i=l
  ·subst f;simp at e
  ·simp [findLabel,f]
 | _=>intro _;rfl
theorem K8 {x y:Code} {l:Nat} (b:∀a,x≠ .label a):pM (.seq x y) l=cond (ko x l) (pM y l) none:=by cases x<;>first | rfl | grind
theorem Xd {C:Ctx} {x y:Code} {l:Nat} {A:bp} {a:List Nat} {s:St} {E:Env} {h:Hp} (c:∀d,x≠ .label d):
  liftM C (.seq x y) (.fr l) A a s E h=liftM C x .full A.fst a s (E.fR λe b=>liftM C y (.fr l) A.snd a e E b) h:=by
 cases x<;>first | rfl | exact absurd rfl (c _)
theorem Xg {C:Ctx} {x y:Code} {l:Nat} {A:bp} {b:List Nat} {s:St} {E:Env} {h:Hp} (f:∀g,x≠ .label g):
  liftM C (.seq x y) (.pr l) A b s E h=match (generalizing:=false) A with
   | .gj _ d e z _=>cond (jM e b) (liftM C x .full .tt b s (E.lg.fR λc a=>
     mI (λ(R:nG C.tb d->Hp->Prop)=>liftM C y (.fr l) z e c (E.Mn l λc a=>mQ C.tb d c λx=>R x a) a)
      (λx a=>liftM C y (.rs l) A.snd b (ng C.tb d x (c.forget (dH y) e)) E.lg a)) h) False
   | _=>liftM C x .full A.fst b s (E.lg.fR λc a=>liftM C y (.pr l) A.snd b c E a) h:=by
 cases x<;>first | rfl | exact absurd rfl (f _)
theorem HL {l:Nat} {Q:Exit->Act->World->Prop} {J:Act->World->Prop} {e:Exit} {a:Act} {w:World} (b:Exit.noGoto Q e a w):Exit.jump l J Q e a w:=by cases e<;>first | exact b | exact b.elim
theorem Xj {C:Ctx} {x y:Code} {l:Nat} {A:bp} {a:List Nat} {s:St} {E:Env} {h:Hp} (c:∀b,x≠ .label b):
  liftM C (.seq x y) (.rs l) A a s E h=liftM C y (.rs l) A a s E h:=by
 cases x<;>first | rfl | grind
theorem OP {l:Nat} {r:Code}:∀ {c:Code},pM c l=some r->findLabel c l=some (.seq .skip r):=by
 intro c
 induction c with
 | seq x y g f=>
  intro e;by_cases d:∃a,x=.label a
  ·obtain ⟨a,rfl⟩:=d;obtain ⟨b,e⟩:=ot e;obtain rfl:y=r:=Option.some.inj e;obtain rfl:=Nat.eq_of_beq_eq_true b;simp [findLabel]
  ·rw [K8 (λa e=>d ⟨a,e⟩)] at e;obtain ⟨b,e⟩:=ot e;simp only [findLabel,K7 b];exact f e
 | _=>intro e;simp [pM] at e
theorem J6 {x y:Code} {l:Nat} (b:∀a,x≠ .label a):mF (.seq x y) l=cond (ko x l) (mF y l) none:=by cases x<;>first | rfl | grind
theorem Xm {C:Ctx} {x y:Code} {l:Nat} {A:bp} {a:List Nat} {s:St} {E:Env} {h:Hp} (c:∀b,x≠ .label b):
  liftM C (.seq x y) (.rz l) A a s E h=liftM C y (.rz l) A a s E h:=by
 cases x<;>first | rfl | grind
theorem ab2 {l:Nat} {r:Code}:∀ {c:Code},mF c l=some r->findLabel c l=some (.seq .skip r):=by
 intro c
 induction c with
 | seq x y i f=>
  intro e;by_cases d:∃a,x=.label a
  ·obtain ⟨a,rfl⟩:=d;by_cases b:a=l
   ·subst b;simp only [mF,Nat.beq_refl,cond_true] at e;obtain rfl:y=r:=Option.some.inj e;simp [findLabel]
   ·simp only [mF,nT b,cond_false] at e;have hb:¬((a==l)=true):=λh=>b (by simpa using h);simp only [findLabel,if_neg hb];exact f e
  ·rw [J6 (λa e=>d ⟨a,e⟩)] at e;obtain ⟨g,e⟩:=ot e;simp only [findLabel,K7 g];exact f e
 | _=>intro e;simp [mF] at e
def uA (P:Program) (x:Code) (Q:Exit->Act->World->Prop) (c:Code) (a:Act) (w:World):Prop:=
 ∀b k f,∃e d g,Q e d g/\Arrives P (lone (b.at a (.code c:: .inScope x::k)) f w) b k f e d g
def uC (P:Program) (x:Code) (Q:Exit->Act->World->Prop):Exit->Act->World->Prop
 | .goto l,a,w=>∃r,findLabel x l=some r/\uA P x Q r a w
 | e,a,w=>Q e a w
theorem Ip {P:Program} {x c:Code} {Q:Exit->Act->World->Prop} {a:Act} {w:World} (h:c.wp P (uC P x Q) a w):uA P x Q c a w:=by
 intro b k j;obtain ⟨e,g,i,f,d⟩:=h b (.inScope x::k) j;cases e with
 | normal=>exact ⟨.normal,g,i,f,Steps.trans d (.one step_inScope)⟩
 | exit id=>exact ⟨.exit id,g,i,f,λv s=>d v (by simp [exitTo,s])⟩
 | goto l=>
  obtain ⟨r,p,u⟩:=f;have q:gotoIn l (.inScope x::k)=some (.code r:: .inScope x::k):=by simp [gotoIn,p]
  obtain ⟨n,m,y,t,o⟩:=u b k j;exact ⟨n,m,y,t,.of_steps (d _ q) o⟩
 | ret=>exact ⟨_,g,i,f,d⟩
 | panic ch=>exact ⟨_,g,i,f,d⟩
 | outgrown=>exact ⟨_,g,i,f,d⟩
theorem ab3 {P:Program} {x:Code} {Q:Exit->Act->World->Prop} {a:Act} {w:World} (h:uA P x Q x a w):(Code.scope x).wp P Q a w:=by intro b k d;obtain ⟨e,c,i,g,f⟩:=h b k d;exact ⟨e,c,i,g,.of_steps (.one step_scope) f⟩
theorem OQ {C:Ctx} (ok:C.tb.Ok C.P) {n:Nat}:∀(c:Code),
  (∀(A:bp) (mok:List Nat) (s:St) (E:Env) (h:Hp),(∀d∈dH c,d<n)->liftM C c .full A mok s E h->∀(G:Nat->Nat) (a:Act) (w:World),Rel n G s a h w->
   ∀Q:Exit->Act->World->Prop,(∀e p j q f o,E e p j->Rel n q p f j o->gm (dH c) mok (cc s) G a h w (cc p) q f j o->Q (nN e) f o)->c.wp C.P Q a w)/\
  (∀l r,pM c l=some r->
   (∀(A:bp) (mok:List Nat) (s:St) (E:Env) (h:Hp),(∀d∈dH c,d<n)->liftM C c (.fr l) A mok s E h->∀(G:Nat->Nat) (a:Act) (w:World),Rel n G s a h w->
    ∀Q:Exit->Act->World->Prop,(∀p j q f o,E .fR p j->Rel n q p f j o->gm (dH c) mok (cc s) G a h w (cc p) q f j o->r.wp C.P Q f o)->
    (∀e p j q f o,e≠ .fR->E e p j->Rel n q p f j o->gm (dH c) mok (cc s) G a h w (cc p) q f j o->Q (nN e) f o)->c.wp C.P Q a w)/\
   (∀(A:bp) (mok:List Nat) (s:St) (E:Env) (h:Hp),(∀d∈dH c,d<n)->liftM C c (.rs l) A mok s E h->∀(G:Nat->Nat) (a:Act) (w:World),Rel n G s a h w->
    ∀Q:Exit->Act->World->Prop,(∀e p j q f o,E e p j->Rel n q p f j o->gm (dH c) mok (cc s) G a h w (cc p) q f j o->Q (nN e) f o)->r.wp C.P Q a w)/\
   (∀(A:bp) (mok:List Nat) (s:St) (E:Env) (h:Hp),(∀d∈dH c,d<n)->liftM C c (.pr l) A mok s E h->∀(G:Nat->Nat) (a:Act) (w:World),Rel n G s a h w->
    ∀Q:Exit->Act->World->Prop,(∀e p j q f o,(∀i,e≠ .jD i)->E e p j->Rel n q p f j o->gm (dH c) mok (cc s) G a h w (cc p) q f j o->Q (nN e) f o)->
    c.wp C.P (Exit.jump l (λf o=>r.wp C.P (Exit.noGoto Q) f o) Q) a w))/\
  ∀l r,mF c l=some r->
   ∀(A:bp) (mok:List Nat) (s:St) (E:Env) (h:Hp),(∀d∈dH c,d<n)->liftM C c (.rz l) A mok s E h->∀(G:Nat->Nat) (a:Act) (w:World),Rel n G s a h w->
    ∀Q:Exit->Act->World->Prop,(∀e p j q f o,E e p j->Rel n q p f j o->gm (dH c) mok (cc s) G a h w (cc p) q f j o->Q (nN e) f o)->r.wp C.P Q a w:=by
 intro c
 induction c with
 | skip=>refine ⟨?_,λl r e=>by simp [pM] at e,λl r e=>by simp [mF] at e⟩;intro A mok s E h _ hv G a w H Q F;exact wp_skip (F .fR s h G a w hv H (gm.refl _ _))
 | ret=>refine ⟨?_,λl r e=>by simp [pM] at e,λl r e=>by simp [mF] at e⟩;intro A mok s E h _ hv G a w H Q F;exact wp_ret (F .ret s h G a w hv H (gm.refl _ _))
 | exit i=>refine ⟨?_,λl r e=>by simp [pM] at e,λl r e=>by simp [mF] at e⟩;intro A mok s E h _ hv G a w H Q F;exact wp_exit (F (.ext i) s h G a w hv H (gm.refl _ _))
 | goto i=>refine ⟨?_,λl r e=>by simp [pM] at e,λl r e=>by simp [mF] at e⟩;intro A mok s E h _ hv G a w H Q F;exact wp_goto (F (.jD i) s h G a w hv H (gm.refl _ _))
 | label i=>refine ⟨?_,λl r e=>by simp [pM] at e,λl r e=>by simp [mF] at e⟩;intro A mok s E h _ hv G a w H Q F;exact wp_label (F .fR s h G a w hv H (gm.refl _ _))
 | region id b8 d3=>
  refine ⟨?_,λl r e=>by simp [pM] at e,λl r e=>by simp [mF] at e⟩;intro A mok s E h J hv G a w H Q F;have e1:∀p:St,∀k,cc p.clean k↔cc p k:=λp k=>.rfl;cases d3 with
  | true=>simp only [liftM] at hv;obtain ⟨hp,hv⟩:=jq hv;obtain ⟨h1,hp⟩:=eV hp;exact UI ok h1 hp J H hv λp j q f o hk B D=>F .fR p.clean j q f o hk B D
  | false=>
   simp only [liftM] at hv;obtain ⟨hp,hv⟩:=jq hv;unfold zt at hp;obtain ⟨h1,hp⟩:=eV hp;have d9:=H.start (j6 C.aK b8.toList);have d2:∀g:Bool,(g=false->rC b8.toList=true)->(g=true->(bO b8.toList).Nodup/\yg b8.toList 0=true)->(Code.region id b8 false).wp C.P Q a w:=by
    intro g d7 d8;refine wp_region ?_;have:=LM (n:=n) (mok:=mok) (K:=λp j=>E .fR p.clean j) (Q:=Q) ok g J d7 d8 b8.toList [] G _ a h w rfl (xT h1) hv
     (d9.congr (λ_=>.rfl) (λ_=>.rfl) (λ_ e=>e.elim) (λ_ e=>e)) (λp j q f o hk B D=>F .fR p.clean j q f o hk B.clean
      (D.mono (λ_ e=>e) (λ_ e=>e) (λk e=>LL e) (λ_ e=>e)))
    rw [List.range_eq_range'];simpa using this
   cases d0:rC b8.toList with
   | true=>exact d2 false (λ_=>d0) (λe=>by cases e)
   | false=>rw [d0] at hp;simp only [cond_false] at hp;obtain ⟨M,h3⟩:=eV hp;exact d2 true (λe=>by cases e) (λ_=>⟨xT M,h3⟩)
 | seq x y b5 V=>
  have S:∀d∈dH x,d∈dH (.seq x y):=λd L=>ig.2 (.inl L);have T:∀d∈dH y,d∈dH (.seq x y):=λd L=>ig.2 (.inr L);refine ⟨?_,λl r e=> ?_,λl r e=> ?_⟩
  rotate_left
  rotate_left
  ·intro A mok s E h J hv G a w H Q F;have Y:∀d∈dH y,d<n:=λd L=>J d (T d L);by_cases hx:∃l',x=.label l'
   ·obtain ⟨l',rfl⟩:=hx;by_cases hl:l'=l
    ·subst hl;simp only [mF,Nat.beq_refl,cond_true] at e;obtain rfl:y=r:=Option.some.inj e;simp only [liftM,Nat.beq_refl,cond_true] at hv;exact V.1 _ _ _ _ _ Y hv G a w H Q λe p j q f o u B D=>F e p j q f o u B (D.mono T (λ_ e=>e) (λ_ e=>e) (λ_ e=>e))
    ·simp only [mF,nT hl,cond_false] at e;simp only [liftM,nT hl,cond_false] at hv;exact V.2.2 l r e _ mok s E h Y hv G a w H Q λW p j q f o u B D=>F W p j q f o u B (D.mono T (λ_ e=>e) (λ_ e=>e) (λ_ e=>e))
   ·rw [J6 (λl' e=>hx ⟨l',e⟩)] at e;obtain ⟨-,e⟩:=ot e;rw [Xm (λl' e=>hx ⟨l',e⟩)] at hv;exact V.2.2 l r e _ mok s E h Y hv G a w H Q λW p j q f o u B D=>F W p j q f o u B (D.mono T (λ_ e=>e) (λ_ e=>e) (λ_ e=>e))
  rotate_left
  ·by_cases hx:∃l',x=.label l'
   ·obtain ⟨l',rfl⟩:=hx;obtain ⟨-,e⟩:=ot e;obtain rfl:y=r:=Option.some.inj e;refine ⟨λA mok s E h J hv G a w H Q h1 _=> ?_,λA mok s E h J hv G a w H Q F=> ?_,λA mok s E h J hv=>hv.elim⟩
    ·exact wp_seq (wp_label (h1 s h G a w hv H (gm.refl _ _)))
    ·exact V.1 _ _ _ _ _ (λd L=>J d (T d L)) hv G a w H Q λe p j q f o u B D=>F e p j q f o u B (D.mono T (λ_ e=>e) (λ_ e=>e) (λ_ e=>e))
   ·rw [K8 (λl' e=>hx ⟨l',e⟩)] at e;obtain ⟨-,e⟩:=ot e;refine ⟨λA mok s E h J hv G a w H Q h1 M=> ?_,λA mok s E h J hv G a w H Q F=> ?_,λA mok s E h J hv G a w H Q F=> ?_⟩
    ·rw [Xd (λl' e=>hx ⟨l',e⟩)] at hv;refine wp_seq ?_;refine b5.1 _ mok s _ h (λd L=>J d (S d L)) hv G a w H _ λW p j q f o u B D=> ?_;have b1:=D.mono (mm':=mok) S (λ_ e=>e) (λ_ e=>e) (λ_ e=>e);cases W with
     | fR=>
      exact ((V.2.1 l r e).1 _ mok _ E j (λd L=>J d (T d L)) u q f o B Q
       (λs2 M N a2 O a8 b0 b3=>h1 s2 M N a2 O a8 b0 (b1.trans (b3.mono T (λ_ e=>e) (λ_ e=>e) (λ_ e=>e))))
       (λe2 s2 d4 N a2 O c4 a8 b0 b3=>M e2 s2 d4 N a2 O c4 a8 b0 (b1.trans (b3.mono T (λ_ e=>e) (λ_ e=>e) (λ_ e=>e)))))
     | ret=>exact M .ret p j q f o (by simp) u B b1
     | ext i=>exact M (.ext i) p j q f o (by simp) u B b1
     | jD i=>exact M (.jD i) p j q f o (by simp) u B b1
    ·rw [Xj (λl' e=>hx ⟨l',e⟩)] at hv;exact (V.2.1 l r e).2.1 _ mok s E h (λd L=>J d (T d L)) hv G a w H Q λW p j q f o u B D=>F W p j q f o u B (D.mono T (λ_ e=>e) (λ_ e=>e) (λ_ e=>e))
    ·rw [Xg (λl' e=>hx ⟨l',e⟩)] at hv;have Y:∀d∈dH y,d<n:=λd L=>J d (T d L);refine wp_seq ?_;split at hv
     ·rename_i js mm z _;obtain ⟨b7,hv⟩:=jq hv;have U:=FM b7;refine b5.1 _ mok s _ h (λd L=>J d (S d L)) hv G a w H _ λW s0 h0 b6 a0 w0 u a9 c3=> ?_;have b4:=c3.mono (mm':=mok) S (λ_ e=>e) (λ_ e=>e) (λ_ e=>e);cases W with
      | fR=>
       obtain ⟨R,hA,hB⟩:=u;have c6:∀p j q f o,Rel n q p f j o->gm (dH y) mm (cc s0) b6 a0 h0 w0 (cc p) q f j o->mQ C.tb js p (λz=>R z j)->r.wp C.P (Exit.noGoto Q) f o:=by
        intro p j q f o B D hg;obtain ⟨z,hz,Z,b2⟩:=vz ok a9 D B hg;refine (V.2.1 l r e).2.1 _ mok _ _ j Y (hB z j hz) q f o Z _ λe s2 M N a2 O u c1 c8=> ?_;have b9:=b4.trans (((b2.mono (l':=dH y) (mm':=mok) (λ_ e=>e) U (λ_ e=>e) (λ_ e=>e)).trans c8).mono T (λ_ e=>e) (λ_ e=>e) (λ_ e=>e));cases e with
        | fR=>exact F .fR s2 M N a2 O (by simp) u c1 b9
        | ret=>exact F .ret s2 M N a2 O (by simp) u c1 b9
        | ext i=>exact F (.ext i) s2 M N a2 O (by simp) u c1 b9
        | jD i=>exact u.elim
       refine (V.2.1 l r e).1 _ mm s0 _ h0 Y hA b6 a0 w0 a9 _ (λp j q f o u B D=> ?_) λe p j q f o c4 u B D=> ?_
       ·exact wp_mono (c6 p j q f o B D u) λ_ _ _=>HL
       ·have b9:=b4.trans (D.mono (mm':=mok) T U (λ_ e=>e) (λ_ e=>e));cases e with
        | fR=>grind
        | ret=>exact F .ret p j q f o (by simp) u B b9
        | ext i=>exact F (.ext i) p j q f o (by simp) u B b9
        | jD i=>
         by_cases X:i=l
         ·subst X;simp only [Env.Mn,Nat.beq_refl,cond_true] at u;exact ⟨rfl,c6 p j q f o B D u⟩
         ·simp only [Env.Mn,nT X,cond_false] at u
      | ret=>exact F .ret s0 h0 b6 a0 w0 (by simp) u a9 b4
      | ext i=>exact F (.ext i) s0 h0 b6 a0 w0 (by simp) u a9 b4
      | jD i=>exact u.elim
     ·refine b5.1 _ mok s _ h (λd L=>J d (S d L)) hv G a w H _ λW s0 h0 b6 a0 w0 u a9 c3=> ?_;have b4:=c3.mono (mm':=mok) S (λ_ e=>e) (λ_ e=>e) (λ_ e=>e);cases W with
      | fR=>exact (V.2.1 l r e).2.2 _ mok s0 E h0 Y u b6 a0 w0 a9 Q λW p j q f o c4 u B D=>F W p j q f o c4 u B (b4.trans (D.mono T (λ_ e=>e) (λ_ e=>e) (λ_ e=>e)))
      | ret=>exact F .ret s0 h0 b6 a0 w0 (by simp) u a9 b4
      | ext i=>exact F (.ext i) s0 h0 b6 a0 w0 (by simp) u a9 b4
      | jD i=>exact u.elim
  intro A mok s E h J hv G a w H Q F;have c0:∀d∈dH x,d<n:=λd L=>J d (ig.2 (.inl L));have Y:∀d∈dH y,d<n:=λd L=>J d (ig.2 (.inr L));refine wp_seq ?_;unfold liftM at hv;split at hv
  ·rename_i js mm _ _;obtain ⟨b7,R,hA,hB⟩:=jq hv;have U:=FM b7;refine b5.1 _ mm s _ h c0 hA G a w H _ λe p j q f o u B D=> ?_;cases e with
   | fR=>obtain ⟨z,hz,Z,b2⟩:=vz ok H D B u;refine V.1 _ mok _ E j Y (hB z j hz) q f o Z Q λe2 s2 M N a2 O a8 b0 b3=> ?_;exact F e2 s2 M N a2 O a8 b0 ((b2.mono S U (λ_ e=>e) (λ_ e=>e)).trans (b3.mono T (λ_ e=>e) (λ_ e=>e) (λ_ e=>e)))
   | ret=>exact F .ret p j q f o u B (D.mono S U (λ_ e=>e) (λ_ e=>e))
   | ext i=>exact F (.ext i) p j q f o u B (D.mono S U (λ_ e=>e) (λ_ e=>e))
   | jD i=>exact F (.jD i) p j q f o u B (D.mono S U (λ_ e=>e) (λ_ e=>e))
  ·rename_i k _ _;obtain ⟨hk,hv⟩:=jq hv;have hk:=(qD _ _).1 hk;refine b5.1 _ mok s _ h c0 hv G a w H _ λe p j q f o u B D=> ?_;cases e with
   | fR=>obtain ⟨s1,h1,u,c7,b1⟩:=Zy (K:=λs2 M=>liftM C y .full _ mok s2 E M) hk D B u;refine V.1 _ mok _ E h1 Y u q f o c7 Q λe2 s2 M N a2 O a8 b0 b3=> ?_;exact F e2 s2 M N a2 O a8 b0 ((b1.mono S (λ_ e=>e) (λ_ e=>e) (λ_ e=>e)).trans (b3.mono T (λ_ e=>e) (λ_ e=>e) (λ_ e=>e)))
   | ret=>exact F .ret p j q f o u B (D.mono S (λ_ e=>e) (λ_ e=>e) (λ_ e=>e))
   | ext i=>exact F (.ext i) p j q f o u B (D.mono S (λ_ e=>e) (λ_ e=>e) (λ_ e=>e))
   | jD i=>exact F (.jD i) p j q f o u B (D.mono S (λ_ e=>e) (λ_ e=>e) (λ_ e=>e))
  ·refine b5.1 _ mok s _ h c0 hv G a w H _ λe p j q f o u B D=> ?_;cases e with
   | fR=>refine V.1 _ mok _ E j Y u q f o B Q λe2 s2 M N a2 O a8 b0 b3=> ?_;exact F e2 s2 M N a2 O a8 b0 ((D.mono S (λ_ e=>e) (λ_ e=>e) (λ_ e=>e)).trans (b3.mono T (λ_ e=>e) (λ_ e=>e) (λ_ e=>e)))
   | ret=>exact F .ret p j q f o u B (D.mono S (λ_ e=>e) (λ_ e=>e) (λ_ e=>e))
   | ext i=>exact F (.ext i) p j q f o u B (D.mono S (λ_ e=>e) (λ_ e=>e) (λ_ e=>e))
   | jD i=>exact F (.jD i) p j q f o u B (D.mono S (λ_ e=>e) (λ_ e=>e) (λ_ e=>e))
 | cond c x y b5 V=>
  refine ⟨?_,λl r e=>by simp [pM] at e,λl r e=>by simp [mF] at e⟩;intro A mok s E h J hv G a w H Q F;have c0:∀d∈dH x,d<n:=λd L=>J d (ig.2 (.inl L));have Y:∀d∈dH y,d<n:=λd L=>J d (ig.2 (.inr L));simp only [liftM] at hv;obtain ⟨v,d6,hv⟩:=jB hv;split at hv
  ·rename_i t;have hc:=bx (Cq H (x:=c) λ_ _=>trivial) (bz s) d6;refine wp_cond_split (t:=t) hc (λht=> ?_) (λht=> ?_)
   ·rw [if_pos ht] at hv;exact b5.1 _ mok s E h c0 hv G a w H Q λe p j q f o u B D=>F e p j q f o u B (D.mono (λd L=>ig.2 (.inl L)) (λ_ e=>e) (λ_ e=>e) (λ_ e=>e))
   ·rw [if_neg (by rw [ht];simp)] at hv;exact V.1 _ mok s E h Y hv G a w H Q λe p j q f o u B D=>F e p j q f o u B (D.mono (λd L=>ig.2 (.inr L)) (λ_ e=>e) (λ_ e=>e) (λ_ e=>e))
  ·exact hv.elim
 | block id x ih=>
  refine ⟨?_,λl r e=>by simp [pM] at e,λl r e=>by simp [mF] at e⟩;intro A mok s E h J hv G a w H Q F;refine wp_block ?_;unfold liftM at hv;split at hv
  ·rename_i js mm _;obtain ⟨b7,R,hA,hB⟩:=jq hv;have U:=FM b7;refine ih.1 _ mm s _ h J hA G a w H _ λe p j q f o u B D=> ?_;have c6:mQ C.tb js p (λx=>R x j)->Q .normal f o:=λhg=>by obtain ⟨z,hz,Z,b2⟩:=vz ok H D B hg;exact F .fR _ j q f o (hB z j hz) Z (b2.mono (λ_ e=>e) U (λ_ e=>e) (λ_ e=>e))
   cases e with
   | fR=>exact c6 u
   | ret=>exact F .ret p j q f o u B (D.mono (λ_ e=>e) U (λ_ e=>e) (λ_ e=>e))
   | ext i=>
    simp only [nN,Exit.inBlock];by_cases X:i=id
    ·subst X;simp only [Env.fu,Nat.beq_refl,cond_true] at u;grind
    ·rw [if_neg X];simp only [Env.fu,nT X,cond_false] at u;exact F (.ext i) p j q f o u B (D.mono (λ_ e=>e) U (λ_ e=>e) (λ_ e=>e))
   | jD i=>exact F (.jD i) p j q f o u B (D.mono (λ_ e=>e) U (λ_ e=>e) (λ_ e=>e))
  ·refine ih.1 _ mok s _ h J hv G a w H _ λe p j q f o u B D=> ?_;cases e with
   | fR=>exact F .fR p j q f o u B D
   | ret=>exact F .ret p j q f o u B D
   | ext i=>
    simp only [nN,Exit.inBlock];by_cases X:i=id
    ·subst X;simp only [Env.fu,Nat.beq_refl,cond_true] at u;rw [if_pos rfl];exact F .fR p j q f o u B D
    ·rw [if_neg X];simp only [Env.fu,nT X,cond_false] at u;exact F (.ext i) p j q f o u B D
   | jD i=>exact F (.jD i) p j q f o u B D
 | scope x ih=>
  refine ⟨?_,λl r e=>by simp [pM] at e,λl r e=>by simp [mF] at e⟩;intro A mok s E h J hv G a w H Q F;unfold liftM at hv;split at hv
  ·rename_i l _;split at hv
   ·rename_i r c2;refine wp_scope_jumps l (λf o=>r.wp C.P (Exit.noGoto Q) f o) (λ_ _=>0) (OP c2) ?_ λf o hJ=>wp_seq (wp_skip (wp_mono hJ λ_ _ _=>HL));exact (ih.2.1 l r c2).2.2 _ mok s E h J hv G a w H Q λe p j q f o _ u B D=>F e p j q f o u B D
   ·exact hv.elim
  ·rename_i l0 a0 x0;refine ab3 (Ip ?_);have chain:∀(A:bp) (E':Env),(∀e p j q f o,E' e p j->Rel n q p f j o->gm (dH x) mok (cc s) G a h w (cc p) q f j o->uC C.P x Q (nN e) f o)->
     ∀e p j q f o,uS (λl f E s h=>match mF x l with
      | some _=>liftM C x (.rz l) f mok s E h
      | none=>False) A E' e p j->Rel n q p f j o->gm (dH x) mok (cc s) G a h w (cc p) q f j o->uC C.P x Q (nN e) f o:=by
    intro A
    induction A with
    | gd l b y _ V=>
     intro E' hE;refine V _ λe p j q f o u B D=> ?_;cases e with
     | fR=>exact hE .fR p j q f o u B D
     | ret=>exact hE .ret p j q f o u B D
     | ext i=>exact hE (.ext i) p j q f o u B D
     | jD i=>
      by_cases X:i=l
      ·subst X;simp only [Env.put,Nat.beq_refl,cond_true] at u;split at u
       ·rename_i r c2;refine ⟨_,ab2 c2,Ip (wp_seq (wp_skip ?_))⟩;exact ih.2.2 i r c2 _ mok p _ j J u q f o B _ λe2 s2 M N a2 O a8 Z b2=>hE e2 s2 M N a2 O a8 Z (D.trans b2)
       ·exact u.elim
      ·simp only [Env.put,nT X,cond_false] at u;exact hE (.jD i) p j q f o u B D
    | _=>intro E' hE;exact hE
   refine ih.1 _ mok s _ h J hv G a w H _ λe p j q f o u B D=> ?_;refine chain (.gd l0 a0 x0) E.lg (λe p j q f o u B D=> ?_) e p j q f o u B D;cases e with
   | fR=>exact F .fR p j q f o u B D
   | ret=>exact F .ret p j q f o u B D
   | ext i=>exact F (.ext i) p j q f o u B D
   | jD i=>exact u.elim
  ·refine wp_scope_straight ?_;refine ih.1 _ mok s _ h J hv G a w H _ λe p j q f o u B D=> ?_;cases e with
   | fR=>exact F .fR p j q f o u B D
   | ret=>exact F .ret p j q f o u B D
   | ext i=>exact F (.ext i) p j q f o u B D
   | jD i=>exact u.elim
 | loop x ih=>
  refine ⟨?_,λl r e=>by simp [pM] at e,λl r e=>by simp [mF] at e⟩;intro A mok s E h J hv G a w H Q F;unfold liftM at hv;split at hv
  ·rename_i js mm _;obtain ⟨b7,hv⟩:=jq hv;have U:=FM b7;obtain ⟨x0,e0,a9,c3⟩:=vz ok H (gm.refl (l:=dH x) (mm:=mm)) H hv;obtain ⟨I,μ,hI,d5⟩:=e0;refine aas (λm f o=>∃z j q,I z j/\μ z j=m/\Rel n q (ng C.tb js z (s.forget (dH x) mm)) f j o/\gm (dH x) mm (cc s) G a h w (cc (ng C.tb js z (s.forget (dH x) mm))) q f j o)
    ⟨_,x0,h,G,hI,rfl,a9,c3⟩ ?_
   rintro m f o ⟨z,j,q,hz,rfl,c7,b1⟩;refine ih.1 _ mm _ _ j J (d5 z j hz) q f o c7 _ λe s2 M N a2 O u Z b2=> ?_;have c5:=b1.trans b2;cases e with
   | fR=>obtain ⟨z2,d1,c1,c8⟩:=vz ok H c5 Z u;exact ⟨_,d1.2,z2,M,N,d1.1,rfl,c1,c8⟩
   | ret=>exact F .ret s2 M N a2 O u Z (c5.mono (λ_ e=>e) U (λ_ e=>e) (λ_ e=>e))
   | ext i=>exact F (.ext i) s2 M N a2 O u Z (c5.mono (λ_ e=>e) U (λ_ e=>e) (λ_ e=>e))
   | jD i=>exact F (.jD i) s2 M N a2 O u Z (c5.mono (λ_ e=>e) U (λ_ e=>e) (λ_ e=>e))
  ·exact hv.elim
 | _=>exact ⟨λA mok s E h _ hv=>hv.elim,λl r e=>by simp [pM] at e,λl r e=>by simp [mF] at e⟩
theorem mT {C:Ctx} (ok:C.tb.Ok C.P) {n:Nat} (c:Code) (A:bp) (g:List Nat) (s:St) (E:Env) (h:Hp) (o:∀d∈dH c,d<n) (hv:liftM C c .full A g s E h) (k:Nat->Nat) (a:Act) (w:World) (p:Rel n k s a h w)
  (Q:Exit->Act->World->Prop) (m:∀e i f l b j,E e i f->Rel n l i b f j->gm (dH c) g (cc s) k a h w (cc i) l b f j->Q (nN e) b j):c.wp C.P Q a w:=
 (OQ ok c).1 A g s E h o hv k a w p Q m
def nU (b:Array Value):ResultVar->Sem Value
 | .tmp t=>pure (b.getD t undef)
 | .cell a t=>do loadVar t (<-asAddr (b.getD a undef))
def DI :List Value->Value
 | [v]=>v
 | vs=>.tuple vs.toArray
theorem lX {P:Program} {fn:Func} {b:Array Value} {a:List Value} {w:World} (h:(fn.results.toList.mapM (nU b)).run P w=.ok a w):(results fn b).run P w=.ok (DI a) w:=by
 have e:results fn b=((fn.results.mapM (nU b))>>=λa=>pure (if h:a.size=1 then a[0] else .tuple a)):=by unfold results;congr 1
 rw [e,Array.mapM_eq_mapM_toList,map_eq_pure_bind];simp only [Sem.run_bind,h,Result.andThen_ok,Sem.run_pure];cases a with
 | nil=>rfl
 | cons v a=>cases a<;>simp [DI]
theorem RI {P:Program} {tb:Tb} (ok:tb.Ok P) {t:Nat} {e:Ty} (c:tb.ty t=some e) {w:World} {a:Addr} {x:(dt tb t).T}
  (b:∀(j:Nat) (v:Value),(bg ((dt tb t).enc x))[j]? =some v->w.cell? (a.add j)=some v):(loadVar t a).run P w=.ok ((dt tb t).enc x) w:=by
 revert x;rw [Jv,c];intro x b;exact Nr ok c b
section
variable {C:Ctx} {n:Nat} {β:Nat->Nat} {s:St} {a:Act} {h:Hp} {w:World}
theorem nx (ok:C.tb.Ok C.P) (d:Rel n β s a h w) {r:ResultVar} {t:Nat} {K:(dt C.tb t).T->Prop} (hv:mw C s r t K):∃x,K x/\(nU a.tmps r).run C.P w=.ok ((dt C.tb t).enc x) w:=by
 cases r with
 | tmp i=>
  simp only [mw] at hv;split at hv
  ·rename_i v c
   ·obtain ⟨x,f,hv⟩:=yM hv;refine ⟨x,hv,?_⟩;have:=(d.cur i _ [] c trivial (bz _)).1;rw [f];simp only [nU,Sem.run_pure];exact congrArg (λv=>Result.ok v w) this
  ·exact hv.elim
 | cell i y=>
  simp only [mw] at hv;obtain ⟨b,hv⟩:=jq hv;have b:=Nat.eq_of_beq_eq_true b;subst b;split at hv
  ·rename_i k e c q;split at hv
   ·rename_i l u;split at hv
    ·rename_i v p
     ·obtain ⟨x,f,hv⟩:=yM hv;refine ⟨x,hv,?_⟩;have o:=Im ok p f;obtain ⟨_,z,hb⟩:=d.box k l u trivial;have:=(d.cur i _ [] c trivial (bz _)).1;have m:a.tmps.getD i undef=.pointer (some ⟨β k,0,none⟩):=this;simp only [nU,m,asAddr,Sem.run_bind,Sem.run_pure,Result.andThen_ok];refine RI ok q λj v g=> ?_;rw [o] at g;rw [jC,ED hb];simpa using g
    ·exact hv.elim
   ·exact hv.elim
  ·exact hv.elim
theorem qo (ok:C.tb.Ok C.P) (b:Rel n β s a h w) {rs:List ResultVar} {p:List Nat} {K:(bn C.tb p).T->Hp->Prop} (hv:tu C s h rs p K):
  ∃x k,K x h/\(rs.mapM (nU a.tmps)).run C.P w=.ok k w/\DI k=(bn C.tb p).enc x:=by
 have step:∀ {r:ResultVar} {rs:List ResultVar} {v:Value} {k:List Value},(nU a.tmps r).run C.P w=.ok v w->(rs.mapM (nU a.tmps)).run C.P w=.ok k w->((r::rs).mapM (nU a.tmps)).run C.P w=.ok (v::k) w:=by intro r rs v k c d;simp only [List.mapM_cons,Sem.run_bind,c,d,Result.andThen_ok,Sem.run_pure]
 have nil:(([]:List ResultVar).mapM (nU a.tmps)).run C.P w=.ok [] w:=by simp
 unfold tu at hv;split at hv
 ·exact ⟨(),[],hv,nil,rfl⟩
 ·obtain ⟨x,e,c⟩:=nx ok b hv;exact ⟨x,_,e,step c nil,rfl⟩
 ·obtain ⟨f,hv,c⟩:=nx ok b hv;obtain ⟨g,e,d⟩:=nx ok b hv;exact ⟨(f,g),_,e,step c (step d nil),rfl⟩
 ·obtain ⟨f,hv,c⟩:=nx ok b hv;obtain ⟨g,hv,d⟩:=nx ok b hv;obtain ⟨j,e,i⟩:=nx ok b hv;exact ⟨(f,g,j),_,e,step c (step d (step i nil)),rfl⟩
 ·obtain ⟨f,hv,c⟩:=nx ok b hv;obtain ⟨g,hv,d⟩:=nx ok b hv;obtain ⟨j,hv,i⟩:=nx ok b hv;obtain ⟨m,e,l⟩:=nx ok b hv;exact ⟨(f,g,j,m),_,e,step c (step d (step i (step l nil))),rfl⟩
 ·obtain ⟨f,hv,c⟩:=nx ok b hv;obtain ⟨g,hv,d⟩:=nx ok b hv;obtain ⟨j,hv,i⟩:=nx ok b hv;obtain ⟨m,hv,l⟩:=nx ok b hv;obtain ⟨q,e,o⟩:=nx ok b hv;exact ⟨(f,g,j,m,q),_,e,step c (step d (step i (step l (step o nil)))),rfl⟩
 ·obtain ⟨f,hv,c⟩:=nx ok b hv;obtain ⟨g,hv,d⟩:=nx ok b hv;obtain ⟨j,hv,i⟩:=nx ok b hv;obtain ⟨m,hv,l⟩:=nx ok b hv;obtain ⟨q,hv,o⟩:=nx ok b hv;obtain ⟨y,hv,t⟩:=nx ok b hv;obtain ⟨z,e,u⟩:=nx ok b hv;exact ⟨(f,g,j,m,q,y,z),_,e,step c (step d (step i (step l (step o (step t (step u nil)))))),rfl⟩
 ·exact hv.elim
end
theorem oi {n:Nat} {l:List Nat} (h:se n l=true):∀d∈l,d<n:=by
 induction l with
 | nil=>simp
 | cons a l e=>
  simp only [se] at h;obtain ⟨b,c⟩:=eV h;intro d hd;rcases List.mem_cons.1 hd with rfl | hd
  ·have:d+1<=n:=by simpa [Nat.blt] using b
   exact this
  grind
theorem bM {C:Ctx} (ok:C.tb.Ok C.P) {g:FuncId} {f:Func} {c:Code} {A:bp} {args:List Value} {K:(bn C.tb f.resultTypes.toList).T->Hp->Prop} {h:Hp} (G:C.P.funcs[g]? =some f) (hb:f.body=some c)
  (hv:Gh C f A args K h):ae C.P g args (bn C.tb f.resultTypes.toList) K h:=by
 intro w N;unfold Gh at hv;obtain ⟨F,hv⟩:=jq hv;obtain ⟨s,d⟩:=eV F;have s:args.length<=f.ntmps:=Nat.le_of_ble_eq_true s;have E:v7 f=c:=by unfold v7;rw [hb]
 rw [E] at hv d;refine calls_of_wp G hb ?_;have H:∀(t:Nat) (v:Value),args[t]? =some v->(args.toArray++Array.replicate (f.ntmps-args.toArray.size) undef)[t]? =some v:=by grind
 have z:∀(t:Nat) (l:LV) (c:aS),sf args t=some (l,c)->∃v,args[t]? =some v/\l=.v v/\c=[]:=by intro t l c e;unfold sf at e;rw [ma] at e;grind
 have L:Rel f.ntmps (λ_=>0) {f:=sf args,m:=λ_=>none} {tmps:=args.toArray++Array.replicate (f.ntmps-args.toArray.size) undef,defers:=[]} h w:=by
  refine ⟨by simp;omega,N,λt l c e=> ?_,λt l c e p hp=> ?_,λt l c e _ _=> ?_,λt l c e _ I=> ?_,λk U e _=>(by cases e),λk V e=>absurd rfl e,λ_ e=>e.elim,λ_ e=>e.elim⟩
  ·grind
  ·grind
  ·obtain ⟨v,y,rfl,rfl⟩:=z t l c e;refine ⟨?_,λ_ _ _=>trivial⟩;simp only [Act.eval,LVal,Array.getD_eq_getD_getElem?,H t v y,Option.getD_some]
  ·obtain ⟨v,y,rfl,rfl⟩:=z t l c e;exact absurd (bz _) I
 refine mT ok c A C.aK _ _ h (oi d) hv _ _ w L _ λe S o X r n j D a=> ?_;have O:Step h o w n:=⟨D.sub,a.size,λb hb B=>⟨a.bq b hb B (λk _ q=>absurd rfl q.1),a.wo b hb B (λk _ q=>absurd rfl q.1)⟩,a.os,a.tape,a.output⟩;have done:tu C S o f.results.toList f.resultTypes.toList K->r.defers=[]/\∃v,(results f r.tmps).run C.P n=.ok v n/\∃u d,Ending.returned v=.returned u/\(∃x,u=(bn C.tb f.resultTypes.toList).enc x/\K x d)/\Step h d w n:=by intro R;obtain ⟨x,W,J,M,Q⟩:=qo ok D R;exact ⟨a.defers,_,lX M,_,o,rfl,⟨x,Q,J⟩,O⟩
 cases e with
 | fR=>exact done j
 | ret=>exact done j
 | ext i=>exact j.elim
 | jD i=>exact j.elim
def bF (A:(Hp->Prop)->Prop) (B:Hp->Prop):Prop:=
 mI (σ:=Unit) (λR=>A (λh=>R () h)) (λ_ h=>B  h)
theorem bF.intro {A:(Hp->Prop)->Prop} {B:Hp->Prop} (R:Hp->Prop) (a:A R) (b:∀h,R h->B h):bF A B:=
 ⟨λ_ h=>R  h,a,λ_ h c=>b  h c⟩
theorem bF.direct {A:(Hp->Prop)->Prop} {B:Hp->Prop} (a:A B):bF A B:=bF.intro B a (λ_ b=>b)
def cY {α1:Type} (A:(α1->Hp->Prop)->Prop) (B:α1->Hp->Prop):Prop:=
 mI (σ:=α1) (λR=>A (λa h=>R a h)) (λp h=>B p h)
theorem cY.intro {a:Type} {A:(a->Hp->Prop)->Prop} {B:a->Hp->Prop} (R:a->Hp->Prop) (c:A R) (d:∀b h,R b h->B b h):cY A B:=
 ⟨λp h=>R p h,c,λp h e=>d p h e⟩
theorem cY.direct {a:Type} {A:(a->Hp->Prop)->Prop} {B:a->Hp->Prop} (b:A B):cY A B:=cY.intro B b (λ_ _ c=>c)
def aC {α1:Type} (b:(α1->Hp->Prop)->α1->Hp->Prop) (a:α1) (h:Hp):Prop:=
 rY (σ:=α1) (λR p h=>b (λa h=>R a h) p h) a h
theorem aC.intro {b:Type} {d:(b->Hp->Prop)->b->Hp->Prop} {a:b} {h:Hp} (I:b->Hp->Prop) (c:b->Hp->Nat)
  (h0:I a h) (i:∀a k,I a k->d (λf e=>I f e/\c f e<c a k) a k):aC d a h:=
 ⟨λp h=>I p h,λp h=>c p h,h0,λp k g=>i p k g⟩
def iT {α1 α2:Type} (A:(α1->α2->Hp->Prop)->Prop) (B:α1->α2->Hp->Prop):Prop:=
 mI (σ:=α1×α2) (λR=>A (λa b h=>R (a,b) h)) (λp h=>B p.1 p.2 h)
theorem iT.intro {a b:Type} {A:(a->b->Hp->Prop)->Prop} {B:a->b->Hp->Prop} (R:a->b->Hp->Prop) (e:A R) (f:∀c d h,R c d h->B c d h):iT A B:=
 ⟨λp h=>R p.1 p.2 h,e,λp h g=>f p.1 p.2 h g⟩
theorem iT.direct {a b:Type} {A:(a->b->Hp->Prop)->Prop} {B:a->b->Hp->Prop} (c:A B):iT A B:=iT.intro B c (λ_ _ _ d=>d)
def bD {α1 α2:Type} (c:(α1->α2->Hp->Prop)->α1->α2->Hp->Prop) (a:α1) (b:α2) (h:Hp):Prop:=
 rY (σ:=α1×α2) (λR p h=>c (λa b h=>R (a,b) h) p.1 p.2 h) (a,b) h
theorem bD.intro {c d:Type} {f:(c->d->Hp->Prop)->c->d->Hp->Prop} {a:c} {b:d} {h:Hp} (I:c->d->Hp->Prop) (e:c->d->Hp->Nat)
  (h0:I a b h) (m:∀a b k,I a b k->f (λi j g=>I i j g/\e i j g<e a b k) a b k):bD f a b h:=
 ⟨λp h=>I p.1 p.2 h,λp h=>e p.1 p.2 h,h0,λp k l=>m p.1 p.2 k l⟩
def ph {α1 α2 α3:Type} (d:(α1->α2->α3->Hp->Prop)->α1->α2->α3->Hp->Prop) (a:α1) (b:α2) (c:α3) (h:Hp):Prop:=
 rY (σ:=α1×α2×α3) (λR p h=>d (λa b c h=>R (a,b,c) h) p.1 p.2.1 p.2.2 h) (a,b,c) h
theorem ph.intro {d e f:Type} {i:(d->e->f->Hp->Prop)->d->e->f->Hp->Prop} {a:d} {b:e} {c:f} {h:Hp} (I:d->e->f->Hp->Prop) (g:d->e->f->Hp->Nat)
  (h0:I a b c h) (q:∀a b c k,I a b c k->i (λl m n j=>I l m n j/\g l m n j<g a b c k) a b c k):ph i a b c h:=
 ⟨λp h=>I p.1 p.2.1 p.2.2 h,λp h=>g p.1 p.2.1 p.2.2 h,h0,λp k o=>q p.1 p.2.1 p.2.2 k o⟩
def bh (P:Program) (g:FuncId) (args:List Value) (s1 s2:Shape) (K:s1.T->s2.T->Hp->Prop) (h:Hp):Prop:=
 ae P g args (mu s1 s2) (λp a=>K p.1 p.2 a) h
def fW (P:Program) (g:FuncId) (args:List Value) (s1 s2 a:Shape) (K:s1.T->s2.T->a.T->Hp->Prop) (h:Hp):Prop:=
 ae P g args (rK s1 s2 a) (λp b=>K p.1 p.2.1 p.2.2 b) h
def mH (P:Program) (g:FuncId) (args:List Value) (s1 s2 a b:Shape) (K:s1.T->s2.T->a.T->b.T->Hp->Prop) (h:Hp):Prop:=
 ae P g args (xB s1 s2 a b) (λp c=>K p.1 p.2.1 p.2.2.1 p.2.2.2 c) h
def y9 (P:Program) (g:FuncId) (args:List Value) (s1 s2 a b c:Shape) (K:s1.T->s2.T->a.T->b.T->c.T->Hp->Prop) (h:Hp):Prop:=
 ae P g args (xC s1 s2 a b c) (λp d=>K p.1 p.2.1 p.2.2.1 p.2.2.2.1 p.2.2.2.2 d) h
def aY (P:Program) (g:FuncId) (args:List Value) (K:Hp->Prop) (h:Hp):Prop:=
 ae P g args sW (λ_ a=>K a) h
def lT (P:Program) (s:Sem Value) (_:Shape) (K:Hp->Prop) (h:Hp):Prop:=jy P s sW (λ_ a=>K a) h
def Rw {a:Type} (h:Hp) (sz:Nat) (enc:a->List Value) (l:Sl) (xs:List a):Prop:=
 l.len=xs.length/\nX h l.base (xs.length*sz) (xs.flatMap enc)
section
variable {α:Type} {h d:Hp} {sz:Nat} {enc:α->List Value} {l:Sl} {xs:List α}
theorem K9 (b:h<=d) {a:Addr} {v:Value} (e:cQ h a=some v):cQ d a=some v:=by
 unfold cQ at e ⊢;split at e
 ·rename_i c t f hb;rw [b _ _ hb];exact e
 ·cases e
theorem ns (b:h<=d) {a:Addr} {cs:List Value} (e:aV h a cs):aV d a cs:=λi v hv=>K9 b (e i v hv)
theorem Rw.mono (i:h<=d) (r:Rw h sz enc l xs):Rw d sz enc l xs:=by obtain ⟨b,c,e⟩:=r;refine ⟨b,c,e.imp id ?_⟩;rintro ⟨a,f,g⟩;exact ⟨a,f,ns i g⟩
theorem Iq (b:∀x,(enc x).length=sz):∀(xs:List α) (i:Nat) (x:α),xs[i]? =some x->∀j v,(enc x)[j]? =some v->(xs.flatMap enc)[i*sz+j]? =some v
 | [],i,x,a,_,_,_=>by simp at a
 | y::xs,0,x,a,j,v,hv=>by grind
 | y::xs,i+1,x,a,j,v,hv=>by have:=Iq b xs i x (by simpa using a) j v hv;grind
theorem Jw (a:∀x,(enc x).length=sz):∀(xs:List α) (i:Nat) (v:Value),(xs.flatMap enc)[i]? =some v->∃q x j,xs[q]? =some x/\(enc x)[j]? =some v/\i=q*sz+j
 | [],i,v,hv=>by simp at hv
 | y::xs,i,v,hv=>by
  simp only [List.flatMap_cons] at hv;by_cases b:i<(enc y).length
  ·rw [List.getElem?_append_left b] at hv;exact ⟨0,y,i,rfl,hv,by simp⟩
  ·rw [List.getElem?_append_right (by omega)] at hv;obtain ⟨q,x,j,c,e,f⟩:=Jw a xs _ v hv;rw [a] at f b;exact ⟨q+1,x,j,by simpa using c,e,by grind⟩
theorem Rw.read (r:Rw h sz enc l xs) (m:∀x,(enc x).length=sz) (o:0<sz) {i:Int} (e:0<=i) (f:i<(l.len:Int)):
  bJ l.base l.len i/\∃x,xs[i.toNat]? =some x/\aV h (sat l.base sz i) (enc x):=by
 obtain ⟨p,q,g⟩:=r;have c:i.toNat<xs.length:=by omega
 have n:xs.length*sz≠0:=by
  have:0<xs.length:=by omega
  exact Nat.ne_of_gt (Nat.mul_pos this o)
 obtain ⟨a,b,k⟩:=g.resolve_left n;refine ⟨⟨by simp [b],e,f⟩,xs[i.toNat],by simp [c],λj v hv=> ?_⟩;have:=k (i.toNat*sz+j) v (Iq m xs i.toNat _ (by simp [c]) j v hv);unfold sat;rw [b,Option.getD_some,sP];exact this
def Own (h0 h:Hp) (sz:Nat) (enc:α->List Value) (l:Sl) (xs:List α):Prop:=
 l.len=xs.length/\l.len<=l.cap/\((l.base=none/\l.cap=0)\/
  ∃(b:Nat) (a:List Value) (t:Nat),l.base=some ⟨b,0,none⟩/\h b=some (.cells a.toArray t (0,0))/\a.length=l.cap*sz/\a.take (l.len*sz)=xs.flatMap enc/\h0 b=none)
theorem iH (a:∀x,(enc x).length=sz):∀xs:List α,(xs.flatMap enc).length=xs.length*sz
 | []=>by simp
 | x::xs=>by simp only [List.flatMap_cons,List.length_append,a,iH a xs,List.length_cons,Nat.add_mul,Nat.one_mul];omega
theorem rE (f:∀x,hH (enc x)=true):∀xs:List α,hH (xs.flatMap enc)=true:=by
 have app:∀a b:List Value,hH a=true->hH b=true->hH (a++b)=true:=by
  intro a b c hb
  induction a with
  | nil=>exact hb
  | cons v a e=>cases v<;>first | (exact e c) | (cases c)
 intro xs
 induction xs with
 | nil=>rfl
 | cons x xs e=>grind
theorem C6 {b:Nat} {a:List Value} {t:Nat} (e:h b=some (.cells a.toArray t (0,0))) (i:Nat):cQ h ⟨b,i,none⟩=a[i]?:=by unfold cQ;simp [e]
theorem Own.rw {h0:Hp} (o:Own h0 h sz enc l xs) (c:∀x,(enc x).length=sz):Rw h sz enc l xs:=by
 obtain ⟨h1,g,a⟩:=o;refine ⟨h1,iH c xs,?_⟩;rcases a with ⟨e,f⟩ | ⟨b,cs,t,e,hb,i,k,_⟩
 ·grind
 ·right;refine ⟨_,e,λj v hv=> ?_⟩;rw [jC,C6 hb,Nat.zero_add];grind
theorem Own.mono {h0:Hp} (j:h<=d) (o:Own h0 h sz enc l xs):Own h0 d sz enc l xs:=by obtain ⟨f,g,i⟩:=o;refine ⟨f,g,i.imp id ?_⟩;rintro ⟨b,cs,t,a,c,e⟩;exact ⟨b,cs,t,a,j _ _ c,e⟩
theorem Cw {s:Hp} {zero:List Value} {bytes:Nat} {x:Sl} {f:List α} {K:Sl->Hp->Prop} (w:s<=h) (o:Own s h sz enc l xs) (r:Rw h sz enc x f) (m:∀x,(enc x).length=sz) (U:∀x,hH (enc x)=true)
  (X:zero.length=sz) (hb:xs.length+f.length<=140737488355328/\(xs.length+f.length)*bytes<=140737488355328)
  (B:∀L d,s<=d->Own s d sz enc L (xs++f)->(∀b g,h b=some g->(∀a,l.base=some a->a.block≠b)->d b=some g)->K L d):eS sz bytes zero l x K h:=by
 have V:=o.rw m;obtain ⟨n,R,S⟩:=o;obtain ⟨p,a9⟩:=r;refine ⟨f.flatMap enc,by grind,xs.flatMap enc,by rw [n];exact V.2,by grind,rE U f,λF=> ?_,λF c b t T E=> ?_⟩
 ·rcases S with ⟨e,Q⟩ | ⟨b,q,t,e,A,H,J,I⟩
  · -- nothing is put
   have O:f.length=0:=by omega
   have P:f=[]:=List.length_eq_zero_iff.1 O;subst P;refine ⟨λa z=>(by grind),?_⟩;have y:fI h l.base (l.len*sz) (([]:List α).flatMap enc)=h:=by rw [e];rfl
   rw [y,p];refine B _ h w ⟨by simp [n],by simpa using R,.inl ⟨e,Q⟩⟩ λ_ _ e _=>e
  ·have u:l.len*sz+(f.flatMap enc).length<=q.length:=by rw [H,iH m,<-Nat.add_mul];exact Nat.mul_le_mul_right sz (by omega)
   obtain ⟨M,p2⟩:=xS b t (f.flatMap enc) h 0 (l.len*sz) q (by simpa using u) A;have W:∀(k:Nat),l.len*sz+k<=q.length->pS h (⟨b,l.len*sz,none⟩:Addr) k:=by
    intro k
    induction k with
    | zero=>intro _;trivial
    | succ k Z=>
     intro a8;refine ⟨Z (by omega),⟨q[l.len*sz+k]'(by omega),?_⟩,?_⟩
     ·rw [jC,C6 A];simp
     ·rw [jC];unfold fZ;simp [A]
   refine ⟨λa z=> ?_,?_⟩
   ·rw [e] at z;cases z;rw [jC,Nat.zero_add];refine W _ ?_;rw [p,<-iH m f];exact u
   ·have y:fI h l.base (l.len*sz) (f.flatMap enc)=jA h ⟨b,l.len*sz,none⟩ (f.flatMap enc) 0:=by rw [e];simp only [fI,jC,Nat.zero_add]
    rw [y];rw [Nat.add_zero] at M;refine B _ _ (λi g j=> ?_) ⟨by simp [n,p],F,.inr ⟨b,_,t,e,M,?_,?_,I⟩⟩ λi g j v=> ?_
    ·have v:i≠b:=λC=>by rw [C,I] at j;cases j
     rw [p2 i v];exact w _ _ j
    ·rw [OA _ _ _ u,H]
    ·rw [yQ _ _ _ u];have D:(l.len+x.len)*sz=(q.take (l.len*sz)++f.flatMap enc).length:=by rw [List.length_append,J,iH m,iH m,n,p,Nat.add_mul]
     rw [D,List.take_left,J,List.flatMap_append]
    grind
 ·have G:∀i g,h i=some g->(h.set b (.cells (xs.flatMap enc++f.flatMap enc++fk zero (c-(l.len+x.len))).toArray t (0,0))) i=some g:=λi g j=>by
   have v:i≠b:=λC=>by grind
   simp [Hp.set,v,j]
  refine B _ _ (λi g j=>G i g (w _ _ j)) ⟨by simp [n,p],T,.inr ⟨b,xs.flatMap enc++f.flatMap enc++fk zero (c-(l.len+x.len)),t,rfl,by simp [Hp.set],?_,?_,?_⟩⟩ λi g j _=>G i g j
  ·have Y:∀k,(fk zero k).length=k*sz:=λk=>by simp [fk,X]
   rw [List.length_append,List.length_append,iH m,iH m,Y,<-Nat.add_mul,<-Nat.add_mul];grind
  ·have D:(l.len+x.len)*sz=(xs.flatMap enc++f.flatMap enc).length:=by rw [List.length_append,iH m,iH m,n,p,Nat.add_mul]
   grind
  ·cases N:s b with
   | none=>rfl
   | some g=>rw [w _ _ N] at E;cases E
end
abbrev Rs (h:Hp) (sh:Shape) (sz:Nat) (l:Sl) (xs:List sh.T):Prop:=Rw h sz (λx=>bg (sh.enc x)) l xs
section
variable {h b:Hp} {sh:Shape} {sz:Nat} {l:Sl} {xs:List sh.T} {K:sh.T->Prop} {i:Int}
theorem Rs.get (r:Rs h sh sz l xs) (e:∀x,(bg (sh.enc x)).length=sz) (j:0<sz) (c:0<=i) (d:i<(xs.length:Int)) (f:∀x,xs[i.toNat]? =some x->K x):
  bJ l.base l.len i/\aP none sh h (sat l.base sz i) K:=by
 obtain ⟨a,x,k,g⟩:=Rw.read r e j c (by rw [r.1];exact d);exact ⟨a,x,g,f x k⟩
theorem Rs.mP {c:Bool} (r:Rs h sh sz l xs) (f:sh.T) (j:∀x,(bg (sh.enc x)).length=sz) (m:0<sz) (a:c=true->0<=i/\i<(xs.length:Int)) (d:∀x,(c=true->xs[i.toNat]? =some x)->K x):
  (c=true->bJ l.base l.len i)/\aP (some c) sh h (sat l.base sz i) K:=by
 cases c with
 | false=>exact ⟨λe=>(by cases e),f,λe=>(by cases e),d f λe=>(by cases e)⟩
 | true=>obtain ⟨g,x,n,k⟩:=Rw.read r j m (a rfl).1 (by rw [r.1];exact (a rfl).2);exact ⟨λ_=>g,x,λ_=>k,d x λ_=>n⟩
theorem bt {a:Addr} (x:sh.T) (d:aV h a (bg (sh.enc x))) (c:K x):aP none sh h a K:=⟨x,d,c⟩
theorem aU {a:Type} {x:a} {K:a->Prop} (c:K x):aJ x K:=λ_ e=>e▸c
theorem wrap64 {n:Int} (a: -9223372036854775808<=n) (c:n<9223372036854775808):yw n=n:=by
 (try unfold yw);unfold IntKind.wrap
 simp only [IntKind.signed,IntKind.bits];grind
end
theorem tK {g:Type} {h0 h:Hp} {sz:Nat} {enc:g->List Value} {c:List Value} {xs:List g} {K:Addr->Hp->Prop} (p:h0<=h) (k:c=xs.flatMap enc) (f:∀x,(enc x).length=sz)
  (l:∀a d,h<=d->Own h0 d sz enc ⟨some a,xs.length,xs.length⟩ xs->K a d):bc c K h:=by
 intro b t hb;have m:h<=h.set b (.cells c.toArray t (0,0)):=λi o e=>by
  have n:i≠b:=λq=>by grind
  simp [Hp.set,n,e]
 refine l _ _ m ⟨rfl,Nat.le_refl _,.inr ⟨b,c,t,rfl,by simp [Hp.set],?_,?_,?_⟩⟩
 ·rw [k,iH f]
 ·have:(xs.length*sz)=(xs.flatMap enc).length:=(iH f xs).symm;grind
 ·cases j:h0 b with
  | none=>rfl
  | some r=>rw [p _ _ j] at hb;cases hb
def nZ (h b:Hp):Prop:=∀a v,cQ h a=some v->cQ b a=some v
theorem nZ.of_le {h a:Hp} (b:h<=a):nZ h a:=λ_ _ e=>K9 b e
theorem Jy {h c:Hp} (d:nZ h c) {a:Addr} {b:List Value} (e:aV h a b):aV c a b:=λi v hv=>d _ _ (e i v hv)
theorem Rw.ck {d:Type} {h b:Hp} {sz:Nat} {enc:d->List Value} {l:Sl} {c:List d} (k:nZ h b) (r:Rw h sz enc l c):Rw b sz enc l c:=by obtain ⟨e,f,g⟩:=r;refine ⟨e,f,g.imp id ?_⟩;rintro ⟨a,i,j⟩;exact ⟨a,i,Jy k j⟩
theorem aaR {h:Hp} {m:Nat} {o b:Obj} (e:h m=some o) (f:isCells o=false):nZ h (h.set m b):=by
 intro a v hv;obtain ⟨c,t,fr,hb,j,i⟩:=FF hv;have g:a.block≠m:=λd=>by rw [d,e] at hb;cases hb;cases f
 unfold cQ at hv ⊢;have:(h.set m b) a.block=h a.block:=by simp [Hp.set,g]
 rw [this];exact hv
theorem lz {h:Hp} {b:Nat} {o:Obj} (d:h b=none):h<=h.set b o:=λa g e=>by
 have f:a≠b:=λc=>by rw [c,d] at e;cases e
 simp [Hp.set,f,e]
theorem lZ {h:Hp} {b:Nat} {o:Obj}:(h.set b o) b=some o:=by simp [Hp.set]
theorem vA {h a:Hp} {b:Nat} {o:Obj} (f:a<=h) (g:a b=none):a<=h.set b o:=λc j e=>by
 have i:c≠b:=λd=>by rw [d,g] at e;cases e
 simp only [Hp.set,i,if_false];exact f _ _ e
theorem pH {a h:Hp} {b:Nat} (d:a<=h) (c:h b=none):a b=none:=by
 cases e:a b with
 | none=>rfl
 | some o=>rw [d _ _ e] at c;cases c
theorem EV {h:Hp} {b t:Nat} {cs:List Value}:aV (h.set b (.cells cs.toArray t (0,0))) ⟨b,0,none⟩ cs:=λi v hv=>by rw [jC,C6 lZ,Nat.zero_add];exact hv
theorem NL {a:Type} {A:(a->Hp->Prop)->Hp->Prop} {K:a->Hp->Prop} {h:Hp} (b:A K h):dy (some true) A K h:=⟨λ_=>b,λe=>by cases e⟩
theorem aD {p:Addr} {c:Option Bool} {K:Addr->Prop} (a:K p):ai c (some p) K:=by
 refine ⟨p,?_,a⟩;cases c with
 | none=>rfl
 | some b=>exact λ_=>rfl
theorem EJ {P:Program} {t:Nat} {d:TypeDesc} (b:P.underlying t=some d) {K:TypeDesc->Hp->Prop} {h:Hp} (a:K d h):cP P (underlying t) K h:=by
 show cP P (match P.underlying t with
  | some d=>Sem.pure d
  | none=>_) K h
 rw [b];exact a
theorem D9 {P:Program} {tb:Tb} (ok:tb.Ok P) {t:Nat} {e:Ty} (f:tb.ty t=some e) {K:Value->Hp->Prop} {h:Hp} (g:K e.zero h):cP P (zeroValue t) K h:=by
 obtain ⟨i,b,_,_,c⟩:=ok.info t e f;have key:cP P (match P.info? t with
  | some d=>(match d.zero with
   | some v=>Sem.pure v
   | none=>unsupported (.resourceLimit "a value of more than 2^22 cells"))
  | none=>stuck "no such type") K h:=by
  rw [b];dsimp only;rw [c];exact g
 cases a:P.info? t with
 | none=>rw [b] at a;cases a
 | some d=>
  rw [a] at key;show cP P (Sem.bind (match P.info? t with
   | some d=>Sem.pure d
   | none=>_) _) K h
  rw [a];exact key
theorem I5 {P:Program} {s:Sem Value} {h:Hp} {v:Value} (e:cP P s (λu b=>u=v/\b=h) h):jL P s h v:=by intro w g;obtain ⟨a,j,b,f,⟨c,d⟩,i⟩:=Lv s g e;subst c;subst d;exact ⟨j,f,i⟩
theorem B9 {P:Program} {s:Sem Value} {h:Hp} {v:Value} (a:∀w,s.run P w=.ok v w):jL P s h v:=λw b=>⟨w,a w,.refl b⟩
theorem Nu {P:Program} {t e:Nat} {x y:Operand} {h:Hp} (g:P.underlying t=some (.slice e)) (s:Sl):jL P (cX .eql t x y s.v (.slice none 0 0)) h (.bool s.base.isNone):=by
 have key:∀d,cP P (Op.equalIn (d+1) t s.v (.slice none 0 0)) (λu c=>u=s.base.isNone/\c=h) h:=by
  intro d;unfold Op.equalIn;refine (DQ _ _).2 (EJ g ?_);cases hb:s.base with
  | none=>simp only [Sl.v,hb];exact ⟨rfl,rfl⟩
  | some a=>simp only [Sl.v,hb];exact ⟨rfl,rfl⟩
 refine I5 ?_;show cP P (Sem.bind (Op.equal t s.v (.slice none 0 0)) λb=>Sem.pure (Value.bool b)) _ h;refine (DQ _ _).2 (Tp _ (λa k f=> ?_) (key 9999));obtain ⟨rfl,rfl⟩:=f;exact ⟨rfl,rfl⟩
theorem UN {h:Hp} {a:Addr} {b:List Value} (e:aV h a b) (n:Nat):aV h (a.add n) (b.drop n):=λi v hv=>by rw [sP];exact e (n+i) v (by simpa [List.getElem?_drop] using hv)
theorem yn {c:Type} {sz:Nat} {enc:c->List Value} (b:∀x,(enc x).length=sz):∀(a:List c) (n:Nat),(a.drop n).flatMap enc=(a.flatMap enc).drop (n*sz)
 | [],n=>by simp
 | x::a,0=>by simp
 | x::a,n+1=>by simp only [List.drop_succ_cons,List.flatMap_cons];have e:(enc x).drop (n*sz+sz)=[]:=List.drop_eq_nil_of_le (by rw [b];omega);rw [yn b a n,Nat.add_mul,Nat.one_mul,List.drop_append,b,e,List.nil_append,Nat.add_sub_cancel]
theorem Bd {c:Type} {sz:Nat} {enc:c->List Value} (b:∀x,(enc x).length=sz):∀(a:List c) (n:Nat),(a.take n).flatMap enc=(a.flatMap enc).take (n*sz)
 | [],n=>by simp
 | x::a,0=>by simp
 | x::a,n+1=>by simp only [List.take_succ_cons,List.flatMap_cons];have e:(enc x).take (n*sz+sz)=enc x:=List.take_of_length_le (by rw [b];omega);rw [Bd b a n,Nat.add_mul,Nat.one_mul,List.take_append,b,e,Nat.add_sub_cancel]
theorem Rw.cut {j:Type} {h:Hp} {sz:Nat} {enc:j->List Value} {l:Sl} {xs:List j} (r:Rw h sz enc l xs) (f:∀x,(enc x).length=sz) {a b c n m:Nat} (y:a<=b) (hb:b<=xs.length) (A:b<=c) (q:n=b-a):
  Rw h sz enc ⟨aW l.base sz a c,n,m⟩ ((xs.drop a).take (b-a)):=by
 obtain ⟨u,w,k⟩:=r;have g:((xs.drop a).take (b-a)).length=b-a:=by rw [List.length_take,List.length_drop];omega
 refine ⟨q.trans g.symm,iH f _,?_⟩;rw [g];by_cases d:(b-a)*sz=0
 ·exact .inl d
 ·right;have z:b-a≠0:=λe=>d (by rw [e,Nat.zero_mul]);have s:sz≠0:=λe=>d (by rw [e,Nat.mul_zero]);have t:xs.length*sz≠0:=Nat.mul_ne_zero (by omega) s;obtain ⟨p,hp,o⟩:=k.resolve_left t;refine ⟨p.add (a*sz),?_,λi v hv=> ?_⟩
  ·unfold aW;rw [if_neg (show ¬c=a by omega),hp];rfl
  ·rw [Bd f,yn f,List.getElem?_take] at hv;split at hv
   ·exact UN o (a*sz) i v hv
   ·cases hv
structure Mv (F:List Nat) (h:Hp) (F':List Nat) (h':Hp):Prop where
 bq:∀b o,h b=some o->b∉F->h' b=some o
 from_:∀b∈F',b∈F\/h b=none
theorem Mv.refl (F:List Nat) (h:Hp):Mv F h F h:=⟨λ_ _ e _=>e,λ_ e=>.inl e⟩
theorem Mv.trans {F d f:List Nat} {h g j:Hp} (a:Mv F h d g) (b:Mv d g f j):Mv F h f j:=by
 refine ⟨λi o e c=>b.bq i o (a.bq i o e c) λk=> ?_,λi l=> ?_⟩
 ·rcases a.from_ i k with h1 | h1
  ·exact c h1
  grind
 ·rcases b.from_ i l with h1 | h1
  ·exact a.from_ i h1
  ·cases e:h i with
   | none=>exact .inr rfl
   | some o=>left;refine Classical.byContradiction λc=> ?_;rw [a.bq i o e c] at h1;cases h1
theorem Mv.of_le {h a:Hp} (F:List Nat) (c:h<=a):Mv F h F a:=⟨λb o e _=>c b o e,λ_ e=>.inl e⟩
theorem Mv.le {F c:List Nat} {h0 h d:Hp} (a:Mv F h c d) (f:h0<=h) (g:∀b∈F,h0 b=none):h0<=d/\∀b∈c,h0 b=none:=by
 refine ⟨λb o e=>a.bq b o (f b o e) λhb=>(by grind),λb hb=> ?_⟩;rcases a.from_ b hb with h1 | h1
 ·exact g b h1
 ·exact pH f h1
theorem Mv.wide {F c:List Nat} {h d:Hp} (a:Mv F h c d) (G:List Nat):Mv (F++G) h (c++G) d:=
 ⟨λb o e f=>a.bq b o e λhb=>f (List.mem_append_left _ hb),λb hb=>by
  rcases List.mem_append.1 hb with hb | hb
  ·rcases a.from_ b hb with h1 | h1
   ·exact .inl (List.mem_append_left _ h1)
   ·exact .inr h1
  grind⟩
theorem Mv.sub {F c G d:List Nat} {h f:Hp} (a:Mv F h c f) (g:∀b∈F,b∈G) (i:∀b∈d,b∈c\/b∈G\/h b=none):Mv G h d f:=
 ⟨λb o e j=>a.bq b o e λhb=>j (g b hb),λb hb=>by
  rcases i b hb with h3 | h3
  ·rcases a.from_ b h3 with h4 | h4
   ·grind
   ·exact .inr h4
  ·exact h3⟩
theorem Mv.set {h:Hp} {b:Nat} {o:Obj}:Mv [b] h [b] (h.set b o):=by refine ⟨λi x e c=> ?_,λi a=>.inl a⟩;have d:i≠b:=λf=>c (by grind);simp only [Hp.set,d,if_false];exact e
theorem Mv.new {h:Hp} {b:Nat} {o:Obj} (a:h b=none):Mv [] h [b] (h.set b o):=
 ⟨λi x e _=>lz a i x e,λi c=>.inr (by grind)⟩
def eI (h:Hp) (b:Nat) (a:List Value):Prop:=∃t,h b=some (.cells a.toArray t (0,0))
theorem eI.mv {F f:List Nat} {h d:Hp} {b:Nat} {c:List Value} (k:eI h b c) (a:Mv F h f d) (g:b∉F):eI d b c:=by obtain ⟨t,e⟩:=k;exact ⟨t,a.bq b _ e g⟩
theorem eI.le {h c:Hp} {b:Nat} {a:List Value} (k:eI h b a) (d:h<=c):eI c b a:=by obtain ⟨t,e⟩:=k;exact ⟨t,d _ _ e⟩
theorem eI.known {h:Hp} {b:Nat} {a:List Value} (k:eI h b a):h b≠none:=by obtain ⟨t,e⟩:=k;rw [e];simp
def at_ (b off:Nat):Addr:=⟨b,off,none⟩
theorem eI.bI {h:Hp} {b:Nat} {cs:List Value} (k:eI h b cs) {off n:Nat} {a:List Value} (e:(cs.drop off).take n=a):aV h ⟨b,off,none⟩ a:=by obtain ⟨t,hb⟩:=k;intro i v hv;rw [jC,C6 hb];grind
theorem eI.ru {h:Hp} {b:Nat} {a:List Value} (k:eI h b a) {off:Nat}:∀n,off+n<=a.length->pS h ⟨b,off,none⟩ n
 | 0,_=>trivial
 | n+1,c=>by
  obtain ⟨t,hb⟩:=k;refine ⟨eI.ru ⟨t,hb⟩ n (by omega),⟨a[off+n]'(by omega),?_⟩,?_⟩
  ·rw [jC,C6 hb];simp
  ·rw [jC];unfold fZ;simp [hb]
theorem eI.put {h:Hp} {b:Nat} {a new:List Value} (k:eI h b a) {off:Nat} (d:off+new.length<=a.length):
  eI (jA h ⟨b,off,none⟩ new 0) b (a.take off++new++a.drop (off+new.length))/\∀c,c≠b->(jA h ⟨b,off,none⟩ new 0) c=h c:=by
 obtain ⟨t,hb⟩:=k;obtain ⟨e,f⟩:=xS b t new h 0 off a (by simpa using d) hb;rw [Nat.add_zero,yQ _ _ _ d] at e;exact ⟨⟨t,e⟩,f⟩
theorem Mv.jR {h c:Hp} {b:Nat} (g:∀a,a≠b->c a=h a):Mv [b] h [b] c:=
 ⟨λi o e f=>by grind,λi d=>.inl d⟩
theorem qE {h:Hp} {b:Nat} {cs new:List Value} {off:Nat} {K:Hp->Prop} (k:eI h b cs) (c:off+new.length<=cs.length)
  (d:∀a,Mv [b] h [b] a->eI a b (cs.take off++new++cs.drop (off+new.length))->K a):bW h ⟨b,off,none⟩ new K:=by
 obtain ⟨e,f⟩:=k.put c;exact ⟨k.ru _ c,d _ (Mv.jR f) e⟩
section
variable {α:Type} {h:Hp} {sz:Nat} {enc:α->List Value} {l:Sl} {xs:List α}
def c9 (h:Hp) (sz:Nat) (enc:α->List Value) (l:Sl) (xs:List α) (F:List Nat):Prop:=
 l.len=xs.length/\l.len<=l.cap/\((l.base=none/\l.cap=0/\F=[])\/
  ∃(b:Nat) (a:List Value),l.base=some ⟨b,0,none⟩/\F=[b]/\eI h b a/\a.length=l.cap*sz/\a.take (l.len*sz)=xs.flatMap enc)
theorem c9.own {F:List Nat} {h0:Hp} (o:c9 h sz enc l xs F) (m:∀b∈F,h0 b=none):Own h0 h sz enc l xs:=by
 obtain ⟨d,e,f⟩:=o;refine ⟨d,e,?_⟩;rcases f with ⟨a,c,_⟩ | ⟨b,g,a,rfl,⟨t,i⟩,j,k⟩
 ·exact .inl ⟨a,c⟩
 grind
theorem c9.rw {F:List Nat} (o:c9 h sz enc l xs F) (a:∀x,(enc x).length=sz):Rw h sz enc l xs:=(o.own (h0:=λ_=>none) λ_ _=>rfl).rw a
theorem Own.xe {c:Hp} (o:Own c h sz enc l xs):∃F,c9 h sz enc l xs F/\∀b∈F,c b=none:=by
 obtain ⟨d,e,m⟩:=o;rcases m with ⟨a,g⟩ | ⟨b,f,t,a,i,j,k,p⟩
 ·exact ⟨[],⟨d,e,.inl ⟨a,g,rfl⟩⟩,λb hb=>by cases hb⟩
 ·exact ⟨[b],⟨d,e,.inr ⟨b,f,a,rfl,⟨t,i⟩,j,k⟩⟩,λn hb=>by grind⟩
theorem c9.known {F:List Nat} (o:c9 h sz enc l xs F):∀b∈F,h b≠none:=by
 obtain ⟨_,_,c⟩:=o;rcases c with ⟨_,_,rfl⟩ | ⟨b,e,_,rfl,a,_,_⟩
 ·simp
 ·intro d hb;rw [List.mem_singleton.1 hb];exact a.known
theorem c9.same {F:List Nat} {a:Hp} (o:c9 h sz enc l xs F) (k:∀b∈F,a b=h b):c9 a sz enc l xs F:=by obtain ⟨f,g,i⟩:=o;refine ⟨f,g,i.imp id ?_⟩;rintro ⟨b,c,d,rfl,⟨t,j⟩,e⟩;exact ⟨b,c,d,rfl,⟨t,by grind⟩,e⟩
theorem c9.mv {F G d:List Nat} {c:Hp} (o:c9 h sz enc l xs F) (a:Mv G h d c) (n:∀b∈F,b∉G):c9 c sz enc l xs F:=by obtain ⟨j,k,m⟩:=o;refine ⟨j,k,m.imp id ?_⟩;rintro ⟨b,e,f,rfl,g,i⟩;exact ⟨b,e,f,rfl,g.mv a (n b (List.mem_singleton.2 rfl)),i⟩
theorem mn {c:List Value} {K:Addr->Hp->Prop} (e:c=xs.flatMap enc) (d:∀x,(enc x).length=sz)
  (f:∀b a,h b=none->h<=a->Mv [] h [b] a->c9 a sz enc ⟨some ⟨b,0,none⟩,xs.length,xs.length⟩ xs [b]->K ⟨b,0,none⟩ a):bc c K h:=by
 intro b t hb;refine f b _ hb (lz hb) (Mv.new hb) ⟨rfl,Nat.le_refl _,.inr ⟨b,c,rfl,rfl,⟨t,lZ⟩,?_,?_⟩⟩
 ·rw [e,iH d]
 ·have:(xs.length*sz)=(xs.flatMap enc).length:=(iH d xs).symm;grind
theorem wQ {F:List Nat} {zero:List Value} {bytes:Nat} {x:Sl} {d:List α} {K:Sl->Hp->Prop} (o:c9 h sz enc l xs F) (r:Rw h sz enc x d) (f:∀x,(enc x).length=sz) (J:∀x,hH (enc x)=true)
  (N:zero.length=sz) (hb:xs.length+d.length<=140737488355328/\(xs.length+d.length)*bytes<=140737488355328)
  (n:∀w k p,c9 k sz enc w (xs++d) p->Mv F h p k->K w k):eS sz bytes zero l x K h:=by
 have L:=o.rw f;obtain ⟨g,C,D⟩:=o;obtain ⟨i,Q⟩:=r;refine ⟨d.flatMap enc,by grind,xs.flatMap enc,by rw [g];exact L.2,by grind,rE J d,λu=> ?_,λu c b t G E=> ?_⟩
 ·rcases D with ⟨e,B,rfl⟩ | ⟨b,q,e,rfl,s,H,M⟩
  ·have y:d.length=0:=by omega
   have z:d=[]:=List.length_eq_zero_iff.1 y;subst z;refine ⟨λa m=>(by grind),?_⟩;have j:fI h l.base (l.len*sz) (([]:List α).flatMap enc)=h:=by rw [e];rfl
   rw [j,i];exact n _ h [] ⟨by simp [g],by simpa using C,.inl ⟨e,B,rfl⟩⟩ (Mv.refl _ _)
  ·have v:l.len*sz+(d.flatMap enc).length<=q.length:=by rw [H,iH f,<-Nat.add_mul];exact Nat.mul_le_mul_right sz (by omega)
   obtain ⟨O,P⟩:=s.put v;refine ⟨λa m=> ?_,?_⟩
   ·rw [e] at m;cases m;rw [jC,Nat.zero_add];refine s.ru _ ?_;rw [i,<-iH f d];exact v
   ·have j:fI h l.base (l.len*sz) (d.flatMap enc)=jA h ⟨b,l.len*sz,none⟩ (d.flatMap enc) 0:=by rw [e];simp only [fI,jC,Nat.zero_add]
    rw [j];refine n _ _ [b] ⟨by simp [g,i],u,.inr ⟨b,_,e,rfl,O,?_,?_⟩⟩ (Mv.jR P)
    ·grind
    ·have A:(l.len+x.len)*sz=(q.take (l.len*sz)++d.flatMap enc).length:=by rw [List.length_append,M,iH f,iH f,g,i,Nat.add_mul]
     grind
 ·have I:Mv F h [b] (h.set b (.cells (xs.flatMap enc++d.flatMap enc++fk zero (c-(l.len+x.len))).toArray t (0,0))):=
   (Mv.new E).sub (λb hb=>by cases hb) λb hb=>.inl hb
  refine n _ _ [b] ⟨by simp [g,i],G,.inr ⟨b,xs.flatMap enc++d.flatMap enc++fk zero (c-(l.len+x.len)),rfl,rfl,⟨t,lZ⟩,?_,?_⟩⟩ I
  ·rw [List.length_append,List.length_append,iH f,iH f,yh,N,<-Nat.add_mul,<-Nat.add_mul];grind
  ·have A:(l.len+x.len)*sz=(xs.flatMap enc++d.flatMap enc).length:=by rw [List.length_append,iH f,iH f,g,i,Nat.add_mul]
   grind
end
theorem rF {F e E:List Nat} {k d:Hp} (m:Mv F k e d) (f:∀c∈E,k c≠none) (g:∀c∈E,c∉F):∀c∈E,d c=k c:=λc a=>by
 cases b:k c with
 | none=>exact absurd b (f c a)
 | some o=>exact m.bq c o b (g c a)
theorem Zz {F a E:List Nat} {k g:Hp} (m:Mv F k a g) (d:∀c∈E,k c≠none) (e:∀c∈E,c∉F):∀c∈E,c∉a:=λc b f=>by
 rcases m.from_ c f with h | h
 ·exact e c b h
 ·exact d c b h
theorem Mv.less {F d E:List Nat} {h e:Hp} (a:Mv F h d e) (f:∀c∈E,c∈d):Mv F h E e:=⟨a.bq,λb hb=>a.from_ b (f b hb)⟩
structure mK (h k:Hp) (Rg:List (List Nat)):Prop where
 sep:∀(a b:Nat) E G,Rg[a]? =some E->Rg[b]? =some G->a≠b->∀c∈E,c∉G
 known:∀(a:Nat) E,Rg[a]? =some E->∀c∈E,k c≠none
 fresh:∀(a:Nat) E,Rg[a]? =some E->∀c∈E,h c=none
 le:h<=k
theorem mK.grow {h k f:Hp} {b:List (List Nat)} (r:mK h k b) (d:k<=f):mK h f b:=
 ⟨r.sep,λa E g c i e=>r.known a E g c i (pH d e),r.fresh,Hp.le_trans r.le d⟩
theorem mK.step {h k t:Hp} {l:List (List Nat)} {j:Nat} {F i:List Nat} (r:mK h k l) (o:l[j]? =some F) (m:Mv F k i t) (C:∀c∈i,t c≠none):mK h t (l.set j i):=by
 have A:j<l.length:=(List.getElem?_eq_some_iff.1 o).1;have n:∀a E,(l.set j i)[a]? =some E->(a=j/\E=i)\/(a≠j/\l[a]? =some E):=by
  intro a E d;rw [List.getElem?_set,if_pos A] at d;split at d
  ·rename_i e;exact .inl ⟨e.symm,(Option.some.inj d).symm⟩
  ·rename_i e;exact .inr ⟨λy=>e y.symm,d⟩
 have x:∀a E,a≠j->l[a]? =some E->∀c∈E,c∉i:=λa E B d=>Zz m (r.known a E d) (r.sep a j E F d o B);have z:∀c∈i,h c=none:=(m.le r.le (r.fresh j F o)).2;refine ⟨λa b E G d v w c f s=> ?_,λa E d c f=> ?_,λa E d c f=> ?_,(m.le r.le (r.fresh j F o)).1⟩
 ·rcases n a E d with ⟨rfl,rfl⟩ | ⟨p,g⟩
  ·rcases n b G v with ⟨rfl,rfl⟩ | ⟨u,q⟩
   ·exact w rfl
   ·exact x b G u q c s f
  ·rcases n b G v with ⟨rfl,rfl⟩ | ⟨u,q⟩
   ·exact x a E p g c f s
   ·exact r.sep a b E G g q w c f s
 ·rcases n a E d with ⟨rfl,rfl⟩ | ⟨p,g⟩
  ·exact C c f
  ·have:=rF m (r.known a E g) (r.sep a j E F g o p) c f;rw [this];exact r.known a E g c f
 ·rcases n a E d with ⟨rfl,rfl⟩ | ⟨p,g⟩
  ·exact z c f
  ·exact r.fresh a E g c f
theorem mK.other {h k e:Hp} {b:List (List Nat)} {j a:Nat} {F f E:List Nat} (r:mK h k b) (g:b[j]? =some F) (m:Mv F k f e) (d:b[a]? =some E) (i:a≠j):∀c∈E,e c=k c:=
 rF m (r.known a E d) (r.sep a j E F d g i)
theorem mK.push {h k p:Hp} {f:List (List Nat)} {E:List Nat} (r:mK h k f) (t:k<=p) (o:∀c∈E,k c=none) (v:∀c∈E,p c≠none):mK h p (f++ [E]):=by
 have l:∀a G,(f++ [E])[a]? =some G->(a=f.length/\G=E)\/(a<f.length/\f[a]? =some G):=by
  intro a G i;by_cases h1:a<f.length
  ·rw [List.getElem?_append_left h1] at i;exact .inr ⟨h1,i⟩
  ·rw [List.getElem?_append_right (by omega)] at i;have g:a-f.length=0:=by have:=(List.getElem?_eq_some_iff.1 i).1;simp at this;omega
   rw [g] at i;exact .inl ⟨by omega,(Option.some.inj i).symm⟩
 refine ⟨λa b A B j q s c d n=> ?_,λa A j c d=> ?_,λa A j c d=> ?_,Hp.le_trans r.le t⟩
 ·rcases l a A j with ⟨rfl,rfl⟩ | ⟨h1,g⟩
  ·rcases l b B q with ⟨rfl,rfl⟩ | ⟨u,m⟩
   ·exact s rfl
   ·exact r.known b B m c n (o c d)
  ·rcases l b B q with ⟨rfl,rfl⟩ | ⟨u,m⟩
   ·exact r.known a A g c d (o c n)
   ·exact r.sep a b A B g m s c d n
 ·rcases l a A j with ⟨rfl,rfl⟩ | ⟨h1,g⟩
  ·exact v c d
  ·exact λe=>r.known a A g c d (pH t e)
 ·rcases l a A j with ⟨rfl,rfl⟩ | ⟨h1,g⟩
  ·exact pH r.le (o c d)
  ·exact r.fresh a A g c d
def cg {a:Type} (f:Nat->a) (i:Nat) (x:a):Nat->a:=λj=>if j=i then x else f j
theorem kK {a:Type} {f:Nat->a} {i:Nat} {x:a}:cg f i x i=x:=if_pos rfl
theorem kB {a:Type} {f:Nat->a} {i j:Nat} {x:a} (h:j≠i):cg f i x j=f j:=if_neg h
theorem Xp {a b:Type} (g:a->b) {f:Nat->a} {i:Nat} {x:a}:(λj=>g (cg f i x j))=cg (λj=>g (f j)) i (g x):=by funext j;unfold cg;split<;>rfl
theorem yo {a:Type} {f:Nat->a} {i:Nat}:cg f i (f i)=f:=by
 funext j;unfold cg;split
 ·rename_i h;rw [h]
 ·rfl
theorem LA {a:Type} {f:Nat->a} {i:Nat} {x y:a}:cg (cg f i x) i y=cg f i y:=by funext j;unfold cg;split<;>rfl
structure dh where
 R:Hp->(Nat->Prop)->Prop
 same:∀ {k k':Hp} {F:Nat->Prop},R k F->(∀b,F b->k' b=k b)->R k' F
 known:∀ {k:Hp} {F:Nat->Prop},R k F->∀b,F b->k b≠none
def Has (h0:Hp) (A:dh) (k:Hp):Prop:=h0<=k/\∃F,A.R k F/\∀b,F b->h0 b=none
def dh.star (A B:dh):dh where
 R k F:=∃f g:Nat->Prop,(∀b,F b↔f b\/g b)/\(∀b,f b->¬g b)/\A.R k f/\B.R k g
 same:=by rintro k i F ⟨f,g,e,d,a,b⟩ h;exact ⟨f,g,e,d,A.same a λc hc=>h c ((e c).2 (.inl hc)),B.same b λc hc=>h c ((e c).2 (.inr hc))⟩
 known:=by
  rintro k F ⟨f,g,e,d,a,b⟩ c hc;rcases (e c).1 hc with hc | hc
  ·exact A.known a c hc
  ·exact B.known b c hc
def dh.fact (p:Prop):dh:=⟨λ_ F=>p/\∀b,¬F b,λh _=>h,λh b hb=>absurd hb (h.2 b)⟩
def dh.some_ {b:Type} (A:b->dh):dh:=⟨λk F=>∃x,(A x).R k F,λ⟨x,h⟩ a=>⟨x,(A x).same h a⟩,λ⟨x,h⟩=>(A x).known h⟩
def dh.first (A:Nat->dh):Nat->dh
 | 0=>.fact True
 | n+1=>(dh.first A n).star (A n)
noncomputable def Hp.less (k:Hp) (F:Nat->Prop):Hp:=λb=>open Classical in if F b then none else k b
theorem Hp.sx {k:Hp} {F:Nat->Prop}:k.less F<=k:=λb o e=>by unfold Hp.less at e;grind
theorem Hp.mz {k:Hp} {F:Nat->Prop} {b:Nat} (h:¬F b):k.less F b=k b:=if_neg h
theorem Hp.sv {k:Hp} {F:Nat->Prop} {b:Nat} (h:F b):k.less F b=none:=if_pos h
section
variable {h0 h1 k f:Hp} {A g B C D:dh}
theorem Has.le (o:Has h0 A k):h0<=k:=o.1
theorem Has.fst (o:Has h0 (A.star B) k):∃h1,h0<=h1/\Has h1 A k/\(∃i,B.R h1 i/\∀b,i b->h0 b=none)/\∀g f,Has h1 g f->Has h0 (g.star B) f:=by
 obtain ⟨w,F,⟨l,i,e,d,a,b⟩,u⟩:=o;have n:B.R (k.less l) i:=B.same b λc hc=>Hp.mz λh=>d c h hc;have f2:∀b,i b->h0 b=none:=λc hc=>u c ((e c).2 (.inr hc));have p:h0<=k.less l:=λc j m=>by
  have:¬l c:=λh=>by grind
  rw [Hp.mz this];exact w c j m
 refine ⟨k.less l,p,⟨Hp.sx,l,a,λc hc=>Hp.sv hc⟩,⟨i,n,f2⟩,λg f j=> ?_⟩;obtain ⟨r,q,s,v⟩:=j;refine ⟨Hp.le_trans p r,λc=>q c\/i c,⟨q,i,λ_=>Iff.rfl,λc hc t=> ?_,s,B.same n λc hc=> ?_⟩,λc hc=> ?_⟩
 ·exact B.known n c t (v c hc)
 ·cases m:(k.less l) c with
  | none=>exact absurd m (B.known n c hc)
  | some j=>exact r c j m
 ·rcases hc with hc | hc
  ·cases m:h0 c with
   | none=>rfl
   | some j=>have:=p c j m;grind
  ·exact f2 c hc
theorem Has.map (h:∀k F,A.R k F->g.R k F) (o:Has h0 A k):Has h0 g k:=by obtain ⟨c,F,a,b⟩:=o;exact ⟨c,F,h k F a,b⟩
theorem FN {F:Nat->Prop} (h:(A.star B).R k F):(B.star A).R k F:=by obtain ⟨i,j,e,d,a,b⟩:=h;exact ⟨j,i,λc=>(e c).trans or_comm,λc h1 l=>d c l h1,b,a⟩
theorem LB {F:Nat->Prop} (h:((A.star B).star C).R k F):(A.star (B.star C)).R k F:=by
 obtain ⟨o,j,e,d,⟨n,i,l,p,a,b⟩,c⟩:=h;refine ⟨n,λx=>i x\/j x,λx=> ?_,λx h1 m=> ?_,a,i,j,λ_=>Iff.rfl,λx h1 m=>d x ((l x).2 (.inr h1)) m,b,c⟩
 ·rw [e,l,or_assoc]
 grind
theorem Be {F:Nat->Prop} (j:∀F,A.R k F->C.R k F) (hb:∀F,B.R k F->D.R k F) (h:(A.star B).R k F):(C.star D).R k F:=by obtain ⟨c,i,e,d,a,b⟩:=h;exact ⟨c,i,e,d,j _ a,hb _ b⟩
theorem Has.comm (o:Has h0 (A.star B) k):Has h0 (B.star A) k:=o.map λ_ _=>FN
theorem Has.assoc (o:Has h0 ((A.star B).star C) k):Has h0 (A.star (B.star C)) k:=o.map λ_ _=>LB
theorem Has.Br (o:Has h0 (A.star (B.star C)) k):Has h0 ((A.star B).star C) k:=o.map λ_ _ h=>FN (LB (FN (LB (FN h))))
theorem Has.snd (o:Has h0 (A.star B) k):∃h1,h0<=h1/\Has h1 B k/\(∃h,A.R h1 h/\∀b,h b->h0 b=none)/\∀e f,Has h1 e f->Has h0 (A.star e) f:=by obtain ⟨h1,a,b,c,d⟩:=o.comm.fst;exact ⟨h1,a,b,c,λe f i=>(d e f i).comm⟩
theorem Has.left (o:Has h0 (A.star B) k):Has h0 A k:=by obtain ⟨l,F,⟨h,m,e,d,a,b⟩,j⟩:=o;exact ⟨l,h,a,λc i=>j c ((e c).2 (.inl i))⟩
theorem Has.right (o:Has h0 (A.star B) k):Has h0 B k:=o.comm.left
theorem Has.mono (o:Has h1 A k) (c:h0<=h1):Has h0 A k:=by obtain ⟨h,F,a,d⟩:=o;exact ⟨Hp.le_trans c h,F,a,λb hb=>pH c (d b hb)⟩
theorem Has.grow (o:Has h0 A k) (c:k<=f):Has h0 A f:=by
 obtain ⟨h,F,a,d⟩:=o;refine ⟨Hp.le_trans h c,F,A.same a λb hb=> ?_,d⟩;cases e:k b with
 | none=>exact absurd e (A.known a b hb)
 | some i=>exact c b i e
theorem Has.beside (o:Has h0 A k) (n:Has k B f):Has h0 (A.star B) f:=by
 obtain ⟨h,F,a,l⟩:=o;obtain ⟨i,G,b,d⟩:=n;refine ⟨Hp.le_trans h i,λc=>F c\/G c,⟨F,G,λ_=>Iff.rfl,λc h1 j=>A.known a c h1 (d c j),A.same a λc hc=> ?_,b⟩,λc hc=> ?_⟩
 ·cases e:k c with
  | none=>exact absurd e (A.known a c hc)
  | some m=>exact i c m e
 ·rcases hc with hc | hc
  ·exact l c hc
  ·exact pH h (d c hc)
theorem Has.carry {X:dh} (put:∀f,Has h1 A f->Has h0 X f) (o:Has h1 (A.star B) k):Has h0 (X.star B) k:=by
 obtain ⟨p,F,⟨l,j,e,d,a,b⟩,n⟩:=o;have ol:Has h1 A (k.less j):=⟨λc r m=>by
  have q:¬j c:=λh=>by grind
  rw [Hp.mz q];exact p c r m,l,A.same a λc i=>Hp.mz (λh=>d c i h),λc i=>n c ((e c).2 (.inl i))⟩
 exact (put _ ol).beside ⟨Hp.sx,j,b,λc i=>Hp.sv i⟩
theorem Has.fact {p:Prop} (hp:p) (a:h0<=k):Has h0 (.fact p) k:=⟨a,λ_=>False,⟨hp,λ_ h=>h⟩,λ_ h=>h.elim⟩
theorem Has.uY {p:Prop} (o:Has h0 (.fact p) k):p:=by obtain ⟨_,_,h,_⟩:=o;exact h.1
theorem Has.fj {p:Prop} (o:Has h0 A k) (hp:p):Has h0 (A.star (.fact p)) k:=o.beside (Has.fact hp (Hp.le_refl _))
theorem Has.jc {p:Prop} (o:Has h0 (A.star (.fact p)) k):Has h0 A k/\p:=⟨o.left,o.right.uY⟩
theorem Has.ex {d:Type} {A:d->dh}:Has h0 (.some_ A) k↔∃x,Has h0 (A x) k:=
 ⟨λ⟨c,F,⟨x,a⟩,b⟩=>⟨x,c,F,a,b⟩,λ⟨x,c,F,a,b⟩=>⟨c,F,⟨x,a⟩,b⟩⟩
end
theorem sL {A B:Nat->dh}:∀ {n:Nat},(∀i,i<n->A i=B i)->dh.first A n=dh.first B n
 | 0,_=>rfl
 | n+1,h=>by show (dh.first A n).star (A n)=(dh.first B n).star (B n);rw [sL λi a=>h i (by omega),h n (by omega)]
section
variable {h0 k:Hp} {A:Nat->dh} {B:dh}
theorem Has.one {n i:Nat} (J:i<n) (o:Has h0 (dh.first A n) k):∃f,h0<=f/\Has f (A i) k/\(∀j,j<n->j≠i->∃l,(A j).R f l)/\∀g h,Has f g h->Has h0 (dh.first (cg A i g) n) h:=by
 induction n generalizing h0 with
 | zero=>omega
 | succ n r=>
  by_cases e:i=n
  ·subst e;obtain ⟨f,a,b,c,d⟩:=Has.snd o;obtain ⟨l,H,x⟩:=c;refine ⟨f,a,b,λj q G=> ?_,λg h p=> ?_⟩
   ·have key:∀m (F:Nat->Prop),(dh.first A m).R f F->j<m->∃l,(A j).R f l:=by
     intro m
     induction m with
     | zero=>intro F _ q;omega
     | succ m r=>
      rintro F ⟨u,v,_,_,C,D⟩ q;by_cases e:j=m
      ·subst e;exact ⟨v,D⟩
      ·exact r u C (by omega)
    grind
   ·have:=d g h p;show Has h0 ((dh.first (cg A i g) i).star (cg A i g i)) h;rw [kK,sL (B:=A) λj q=>kB (by omega)];exact this
  ·obtain ⟨f,a,b,c,d⟩:=Has.fst o;obtain ⟨E,a2,w,x,y⟩:=r (h0:=f) (by omega) b;obtain ⟨l,s,I⟩:=c;refine ⟨E,Hp.le_trans a a2,w,λj q G=> ?_,λg h p=> ?_⟩
   ·by_cases z:j=n
    ·subst z;refine ⟨l,(A j).same s λb hb=> ?_⟩;cases t:f b with
     | none=>exact absurd t ((A j).known s b hb)
     | some p=>exact a2 b p t
    grind
   ·have:=d _ _ (y g h p);show Has h0 ((dh.first (cg A i g) n).star (cg A i g n)) h;rw [kB (by omega)];exact this
theorem Has.at_ {n i:Nat} (c:i<n) (o:Has h0 (dh.first A n) k):Has h0 (A i) k:=by obtain ⟨d,a,b,_,_⟩:=o.one c;exact b.mono a
end
def Bh (b:Nat) (a:List Value):dh:=⟨λk F=>eI k b a/\∀c,F c↔c=b,λh f=>⟨h.1.imp λt e=>(by grind),h.2⟩,λh c d=>by rw [(h.2 c).1 d];exact h.1.known⟩
theorem Has.fu {d k:Hp} {b:Nat} {c:List Value} (o:Has d (Bh b c) k):eI k b c/\d b=none:=by obtain ⟨_,F,⟨a,e⟩,f⟩:=o;grind
theorem Has.Gq {a k:Hp} {b:Nat} {d:List Value} (f:a<=k) (hb:eI k b d) (g:a b=none):Has a (Bh b d) k:=
 ⟨f,λc=>c=b,⟨hb,λ_=>Iff.rfl⟩,λc e=>by rw [e];exact g⟩
def da (sh:Shape) (p:Addr) (x:sh.T):dh:=(Bh p.block (bg (sh.enc x))).star (.fact (p=⟨p.block,0,none⟩))
section
variable {h0 k:Hp} {sh:Shape} {p:Addr} {x:sh.T}
theorem Has.pD (o:Has h0 (da sh p x) k):∃b,p=⟨b,0,none⟩/\eI k b (bg (sh.enc x))/\h0 b=none:=⟨p.block,o.right.uY,(Has.left o).fu⟩
theorem Has.zn {b:Nat} (a:h0<=k) (hb:eI k b (bg (sh.enc x))) (c:h0 b=none):Has h0 (da sh ⟨b,0,none⟩ x) k:=(Has.Gq a hb c).fj rfl
theorem Has.ld (o:Has h0 (da sh p x) k) {shf:Shape} (v:shf.T) {off:Nat} (hv:((bg (sh.enc x)).drop off).take (bg (shf.enc v)).length=bg (shf.enc v)) {K:shf.T->Prop} (a:K v):aP none shf k (p.add off) K:=by obtain ⟨b,rfl,hb,_⟩:=o.pD;refine ⟨v,?_,a⟩;rw [jC,Nat.zero_add];exact hb.bI hv
theorem Has.ua (o:Has h0 (da sh p x) k) {shf:Shape} (v:shf.T) (hv:(bg (sh.enc x)).take (bg (shf.enc v)).length=bg (shf.enc v)) {K:shf.T->Prop} (a:K v):aP none shf k p K:=by obtain ⟨b,rfl,hb,_⟩:=o.pD;exact ⟨v,hb.bI (off:=0) (by simpa using hv),a⟩
theorem Has.su (o:Has h0 (da sh p x) k) {shf:Shape} {c:Bool} (v:shf.T) {off:Nat} (hv:((bg (sh.enc x)).drop off).take (bg (shf.enc v)).length=bg (shf.enc v)) {K:shf.T->Prop} (a:K v):aP (some c) shf k (p.add off) K:=by obtain ⟨b,rfl,hb,_⟩:=o.pD;refine ⟨v,λ_=> ?_,a⟩;rw [jC,Nat.zero_add];exact hb.bI hv
theorem Has.eh (o:Has h0 (da sh p x) k) {off n:Nat} {vs:List Value} (hv:((bg (sh.enc x)).drop off).take n=vs):aV k (p.add off) vs:=by obtain ⟨b,rfl,hb,_⟩:=o.pD;rw [jC,Nat.zero_add];exact hb.bI hv
theorem Has.st (o:Has h0 (da sh p x) k) (x':sh.T) {off:Nat} {new:List Value} (g:off+new.length<=(bg (sh.enc x)).length) (l:(bg (sh.enc x)).take off++new++(bg (sh.enc x)).drop (off+new.length)=bg (sh.enc x'))
  {K:Hp->Prop} (f:∀a,Has h0 (da sh p x') a->K a):bW k (p.add off) new K:=by
 obtain ⟨b,rfl,hb,h⟩:=o.pD;rw [jC,Nat.zero_add];refine qE hb g λa m i=>f a (Has.zn (λc d e=> ?_) (by grind) h);exact m.bq c d (o.1 c d e) λj=>by grind
theorem Has.BS (o:Has h0 (da sh p x) k) (a:sh.T) {new:List Value} (f:new.length<=(bg (sh.enc x)).length) (g:new++(bg (sh.enc x)).drop new.length=bg (sh.enc a))
  {K:Hp->Prop} (d:∀c,Has h0 (da sh p a) c->K c):bW k p new K:=by
 obtain ⟨b,e,_⟩:=o.pD;have:=o.st a (off:=0) (new:=new) (by omega) (by grind) d;subst e;simpa [jC] using this
theorem qJ {k:Hp} (x:sh.T) {c:List Value} (d:c=bg (sh.enc x)) {K:Addr->Hp->Prop} (e:∀p a,k<=a->Has k (da sh p x) a->K p a):bc c K k:=by intro b t hb;refine e _ _ (lz hb) ?_;exact Has.zn (lz hb) ⟨t,by rw [<-d];exact lZ⟩ hb
end
section
variable {P:Program} {h:Hp}
theorem bQ {b c:Type} (s:Sem b) (f:b->Sem c) {K:c->Hp->Prop}:cP P (s>>=f) K h↔cP P s (λa h=>cP P (f a) K h) h:=DQ s f
theorem UO {t:Nat} {i:TypeInfo} (a:P.info? t=some i) {K:Nat->Hp->Prop} (b:K i.size h):cP P (sizeOf t) K h:=by
 show cP P (Sem.bind (match P.info? t with
  | some d=>Sem.pure d
  | none=>_) _) K h
 rw [a];exact b
theorem Nv {a:Addr} {o:Obj} (e:h a.block=some o) {K:Bool->Hp->Prop} (b:K (fZ h a) h):cP P (frozen a) K h:=⟨⟨o,e⟩,b⟩
theorem xt {r:Nat} {o:Obj} (e:h r=some o) {K:Option (TypeId×Nat)->Hp->Prop} (a:K (Cd o) h):cP P (shape r) K h:=⟨o,e,a⟩
theorem EK {b:Nat} {a:List Value} (k:eI h b a) (off:Nat):fZ h ⟨b,off,none⟩=false:=by obtain ⟨t,e⟩:=k;unfold fZ;simp [e]
theorem J8 {b off:Nat} {a:List Value} (k:eI h b a) {K:Unit->Hp->Prop} (c:K () h):cP P (noView ⟨b,off,none⟩) K h:=by obtain ⟨t,e⟩:=k;unfold noView viewAt;refine (bQ _ _).2 ((bQ _ _).2 (xt (r:=b) e ?_));exact c
theorem HN {b off:Nat} {d:List Value} (k:eI h b d) {K:Bool->Hp->Prop} (f:K false h):cP P (stringish ⟨b,off,none⟩) K h:=by have c:=k;obtain ⟨t,e⟩:=k;unfold stringish;refine (bQ _ _).2 (Nv (a:=⟨b,off,none⟩) e ?_);rw [EK c];refine (bQ _ _).2 (xt (r:=b) e ?_);refine Nv (a:=⟨b,_,none⟩) e ?_;rw [EK c];exact f
theorem YF {j B e:Nat} {i:TypeInfo} {a b c f q t s v:Nat} {u w:List Value} {K:Bool->Hp->Prop} (A:P.underlying j=some (.slice e)) (z:P.info? e=some i) (g:eI h a u) (k:eI h b w) (p:a≠b)
  (o:K false h):jy P (Extern.SlicesOverlaps.overlaps #[j,j] #[B] #[.slice (some ⟨a,c,none⟩) q t,.slice (some ⟨b,f,none⟩) s v]) bB K h:=by
 have x:((⟨a,c,none⟩:Addr).block !=(⟨b,f,none⟩:Addr).block)=true:=by simpa using p
 have y:((⟨a,c,none⟩:Addr).block==(⟨b,f,none⟩:Addr).block)=false:=by simpa using p
 obtain ⟨C,l⟩:=id g;obtain ⟨tb,m⟩:=id k;unfold jy;show cP P (α:=Value) (underlying j>>=λd=>_) _ h;refine (bQ _ _).2 (EJ A ?_);refine (bQ _ _).2 (UO z ?_);dsimp only;by_cases n:q=0\/s=0\/i.size=0
 ·rw [if_pos n];exact ⟨false,rfl,o⟩
 ·rw [if_neg n];refine (bQ _ _).2 (Nv (a:=⟨a,c,none⟩) l ?_);refine (bQ _ _).2 (Nv (a:=⟨b,f,none⟩) m ?_);rw [x,EK g];simp only [Bool.true_and,Bool.false_and,Bool.false_eq_true,if_false,if_true];refine (bQ _ _).2 (J8 g ?_);refine (bQ _ _).2 (J8 k ?_);refine (bQ _ _).2 ?_;unfold mayBeOne;refine (bQ _ _).2 (HN g ?_);refine (bQ _ _).2 (HN k ?_);refine (bQ _ _).2 ((bQ _ _).2 (xt (r:=a) l ?_));refine (bQ _ _).2 ((bQ _ _).2 (xt (r:=b) m ?_));simp only [Bool.false_and,Bool.or_false];refine ⟨false,?_,o⟩;rw [y];rfl
theorem Hq {a:Addr}:∀(b:List Value) (i:Nat) {h:Hp} {K:Unit->Hp->Prop},hH b=true->(∀j,j<b.length->(∃v,cQ h (a.add (i+j))=some v)/\fZ h (a.add (i+j))=false)->
  K () (jA h a b i)->cP P (storeCells a b i) K h
 | [],i,h,K,_,_,c=>c
 | v::b,i,h,K,d,m,c=>by
  obtain ⟨f,g⟩:=m 0 (by simp);rw [Nat.add_zero] at f g;have o:hH b=true:=by cases v<;>first | (exact d) | (cases d)
  have step:cP P (storeCells a b (i+1)) K (h.put (a.add i) v):=by
   refine Hq b (i+1) o (λj n=> ?_) c;obtain ⟨⟨u,k⟩,l⟩:=m (j+1) (by simpa using n);have e:i+(j+1)=i+1+j:=by omega
   rw [e] at k l;exact ⟨LI ⟨u,k⟩,(by rw [LJ];exact l)⟩
  show cP P (Sem.store Mode.plain (a.add i) v (storeCells a b (i+1))) K h;cases v<;>first | (exact ⟨f,g,step⟩) | (cases d)
theorem LS {t e b off n c:Nat} {z:Value} {a:List Value} {K:Hp->Prop} (o:P.underlying t=some (.slice e)) (p:∀ {K:Value->Hp->Prop} {h:Hp},K z h->cP P (zeroValue e) K h) (l:∀n,hH (fk (bg z) n)=true) (g:eI h b a)
  (s:off+n*(bg z).length<=a.length)
  (i:∀f,Mv [b] h [b] f->eI f b (a.take off++fk (bg z) n++a.drop (off+n*(bg z).length))->K f):
  lT P (Builtin.clear_ #[t] 0 #[.slice (some ⟨b,off,none⟩) n c]) sW K h:=by
 unfold lT jy;show cP P (α:=Value) (underlying t>>=λd=>_) _ h;refine (bQ _ _).2 (EJ o ?_);cases n with
 | zero=>refine ⟨(),rfl,i h (Mv.refl _ _) ?_⟩;simp [fk];exact g
 | succ n=>
  refine (bQ _ _).2 ?_;refine p ?_;have q:(Builtin.zeroCells z.cells (n+1)).toList=fk (bg z) (n+1):=by rw [FB,nq]
  have u:(fk (bg z) (n+1)).length=(n+1)*(bg z).length:=yh _ _;obtain ⟨v,r⟩:=g.put (off:=off) (new:=fk (bg z) (n+1)) (by omega);have m:=g.ru (off:=off) (fk (bg z) (n+1)).length (by omega);refine (bQ _ _).2 ?_;rw [q];refine Hq _ 0 (l _) (λj k=> ?_) ⟨(),rfl,i _ (Mv.jR r) (by grind)⟩;rw [Nat.zero_add];exact tz m j k
end
section
variable {α:Type} {h:Hp} {sz:Nat} {enc:α->List Value} {l:Sl} {xs:List α}
theorem Rw.Fp (r:Rw h sz enc l xs) (d:∀x,(enc x).length=sz) (k:0<sz) {sh:Shape} (g:α->sh.T) {j:Nat} (n:∀x,((enc x).drop j).take (bg (sh.enc (g x))).length=bg (sh.enc (g x))) {i:Int} (b:0<=i) (c:i<(xs.length:Int))
  {K:sh.T->Prop} (e:∀x,xs[i.toNat]? =some x->K (g x)):bJ l.base l.len i/\aP none sh h ((sat l.base sz i).add j) K:=by
 obtain ⟨a,x,m,f⟩:=r.read d k b (by rw [r.1];exact c);refine ⟨a,g x,λq v hv=> ?_,e x m⟩;rw [sP];refine f (j+q) v ?_;grind
theorem Rw.Gg (r:Rw h sz enc l xs) (m:∀x,(enc x).length=sz) (p:0<sz) {sh:Shape} (g:α->sh.T) {j:Nat} (n:∀x,((enc x).drop j).take (bg (sh.enc (g x))).length=bg (sh.enc (g x))) (d:sh.T) {c:Bool} {i:Int} (a:c=true->0<=i/\i<(xs.length:Int))
  {K:sh.T->Prop} (b:∀y,(c=true->∃x,xs[i.toNat]? =some x/\y=g x)->K y):(c=true->bJ l.base l.len i)/\aP (some c) sh h ((sat l.base sz i).add j) K:=by
 cases c with
 | false=>exact ⟨λe=>(by cases e),d,λe=>(by cases e),b d λe=>(by cases e)⟩
 | true=>obtain ⟨a,k⟩:=a rfl;obtain ⟨f,y,s,o⟩:=r.Fp m p g n a k (K:=λy=>∃x,xs[i.toNat]? =some x/\y=g x) λx q=>⟨x,q,rfl⟩;exact ⟨λ_=>f,y,λ_=>s,b y λ_=>o⟩
theorem tL {b o a c:Nat} (d:c≠a):aW (some ⟨b,o,none⟩) sz a c=some ⟨b,o+a*sz,none⟩:=by unfold aW;rw [if_neg d];show some ((⟨b,o,none⟩:Addr).add (a*sz))=_;rw [jC]
theorem eI.rd {b:Nat} {a new:List Value} (k:eI h b a) {off n:Nat} (c:new.length=n) (e:(a.drop off).take n=new):nX h (some ⟨b,off,none⟩) n new:=⟨c,.inr ⟨_,rfl,k.bI e⟩⟩
theorem Er {b off dl dc n:Nat} {c new:List Value} {x:Sl} {K:Int->Hp->Prop} (g:eI h b c) (p:min x.len dl=n) (f:nX h x.base (n*sz) new) (q:hH new=true) (m:off+n*sz<=c.length)
  (k:∀d,Mv [b] h [b] d->eI d b (c.take off++new++c.drop (off+n*sz))->K (n:Nat) d):fD sz ⟨some ⟨b,off,none⟩,dl,dc⟩ x K h:=by
 subst p;have o:new.length=min x.len dl*sz:=f.1;refine ⟨new,f,q,λa j=> ?_,?_⟩
 ·cases j;exact g.ru _ m
 ·obtain ⟨i,r⟩:=g.put (off:=off) (new:=new) (by omega);have e:fI h (some ⟨b,off,none⟩) 0 new=jA h ⟨b,off,none⟩ new 0:=by simp only [fI,jC,Nat.add_zero]
  show K _ (fI h (some ⟨b,off,none⟩) 0 new);rw [e];rw [o] at i;exact k _ (Mv.jR r) i
theorem Xs {bytes:Nat} {zero:List Value} {l:Sl} {m:Int} {e:List Value} {K:Sl->Hp->Prop} (j:0<=m) (k:nX h l.base (l.len*sz) e) (hb:l.len+m.toNat<=140737488355328/\(l.len+m.toNat)*bytes<=140737488355328)
  (n:hH (fk zero m.toNat)=true) (o:l.cap<l.len+m.toNat) (i:∀b c a,h b=none->l.len+m.toNat<=c->h<=a->Mv [] h [b] a->eI a b (e++fk zero m.toNat++fk zero (c-(l.len+m.toNat)))->K ⟨some ⟨b,0,none⟩,l.len+m.toNat,c⟩ a):
  yq sz bytes zero l m K h:=
 ⟨j,e,k,hb,n,λf=>absurd f (by omega),λ_ c b t g d=>i b c _ d g (lz d) (Mv.new d) ⟨t,lZ⟩⟩
theorem KF {bytes b off c g n:Nat} {zero:List Value} {x:Sl} {d new k:List Value} {K:Sl->Hp->Prop} (j:eI h b d) (v:nX h (some ⟨b,off,none⟩) (c*sz) k) (i:nX h x.base (x.len*sz) new) (t:x.len=n) (u:hH new=true)
  (hb:c+n<=140737488355328/\(c+n)*bytes<=140737488355328) (y:c+n<=g) (r:off+c*sz+n*sz<=d.length)
  (q:∀f,Mv [b] h [b] f->eI f b (d.take (off+c*sz)++new++d.drop (off+c*sz+n*sz))->K ⟨some ⟨b,off,none⟩,c+n,g⟩ f):eS sz bytes zero ⟨some ⟨b,off,none⟩,c,g⟩ x K h:=by
 subst t;have s:new.length=x.len*sz:=i.1;refine ⟨new,i,k,v,hb,u,λ_=>⟨λa p=> ?_,?_⟩,λo=>absurd o (by grind)⟩
 ·cases p;rw [jC];exact j.ru _ r
 ·obtain ⟨m,w⟩:=j.put (off:=off+c*sz) (new:=new) (by omega);have e:fI h (some ⟨b,off,none⟩) (c*sz) new=jA h ⟨b,off+c*sz,none⟩ new 0:=by simp only [fI,jC]
  show K _ (fI h (some ⟨b,off,none⟩) (c*sz) new);rw [e];rw [s] at m;exact q _ (Mv.jR w) m
theorem Ea {xs:List α} {i:Nat} (x:α) (a:i<xs.length):xs.set i x=xs.take i++x::xs.drop (i+1):=by rw [List.set_eq_take_append_cons_drop,if_pos a]
theorem c9.store {F:List Nat} (o:c9 h sz enc l xs F) (e:∀x,(enc x).length=sz) {i:Int} (k:0<=i) (y:i<(xs.length:Int)) (x:α) {K:Hp->Prop} (p:∀a,c9 a sz enc l (xs.set i.toNat x) F->Mv F h F a->K a):
  bJ l.base l.len i/\bW h (sat l.base sz i) (enc x) K:=by
 obtain ⟨t,j,u⟩:=o;rcases u with ⟨_,v,_⟩ | ⟨b,c,d,rfl,r,w,f⟩
 ·omega
 ·refine ⟨⟨by rw [d];simp,k,by omega⟩,?_⟩;have n:i.toNat<xs.length:=by omega
  have m:sat l.base sz i=⟨b,i.toNat*sz,none⟩:=by unfold sat;rw [d,Option.getD_some,jC,Nat.zero_add]
  rw [m];have z:i.toNat*sz+sz<=l.len*sz:=by have:=Nat.mul_le_mul_right sz (show i.toNat+1<=l.len by omega);grind
  have A:l.len*sz<=l.cap*sz:=Nat.mul_le_mul_right sz j;refine qE r (by grind) λa s g=> ?_;rw [e] at g;refine p a ⟨by simp [t],j,.inr ⟨b,_,d,rfl,g,?_,?_⟩⟩ s
  ·grind
  ·rw [Ea x n];have t1:c.take (i.toNat*sz)=(xs.take i.toNat).flatMap enc:=by rw [Bd e,<-f,List.take_take];congr 1;omega
   have t2:(c.drop (i.toNat*sz+sz)).take (l.len*sz-(i.toNat*sz+sz))=(xs.drop (i.toNat+1)).flatMap enc:=by rw [yn e,<-f,Nat.add_mul,Nat.one_mul,List.drop_take]
   have q:(c.take (i.toNat*sz)++enc x).length=i.toNat*sz+sz:=by grind
   rw [List.take_append,q,t2,List.take_of_length_le (by omega),t1];simp
end
section
variable {P:Program} {α:Type} {h:Hp} {sz:Nat} {enc:α->List Value}
def Gi (P:Program) (sz bytes:Nat) (zero:List Value) (j k:Nat) (R:Sl->(Hp->Prop)->Hp->Prop) (s:Sl) (i:Int) (v:Sl) (Q:Sl->Hp->Prop) (h:Hp):Prop:=
 (((0:Int)<=i/\i<=((s.len:Nat):Int))/\aJ (α:=Sl) ⟨(aW s.base sz (Int.toNat i) s.cap),(s.len-(Int.toNat i)),(s.cap-(Int.toNat i))⟩ λ_=>
 (if (((v.len:Nat):Int)==(0:Int))=true then
 Q s h
 else
 (if (i==((s.len:Nat):Int))=true then
 eS sz bytes zero s v (λr b=>
 Q r b) h
 else
 (if (decide ((yw (((s.len:Nat):Int)+((v.len:Nat):Int)))>((s.cap:Nat):Int)))=true then
 (((0:Int)<=i/\i<=((s.cap:Nat):Int))/\aJ (α:=Sl) ⟨(aW s.base sz 0 s.cap),((Int.toNat i)-0),(s.cap-0)⟩ λa=>
 yq sz bytes zero a (yw ((yw (((s.len:Nat):Int)+((v.len:Nat):Int)))-i)) (λr b=>
 (((0:Int)<=i/\i<=((r.len:Nat):Int))/\aJ (α:=Sl) ⟨(aW r.base sz (Int.toNat i) r.cap),(r.len-(Int.toNat i)),(r.cap-(Int.toNat i))⟩ λg=>
 fD sz g v (λ_ c=>
 (((0:Int)<=(yw (i+((v.len:Nat):Int)))/\(yw (i+((v.len:Nat):Int)))<=((r.len:Nat):Int))/\aJ (α:=Sl) ⟨(aW r.base sz (Int.toNat (yw (i+((v.len:Nat):Int)))) r.cap),(r.len-(Int.toNat (yw (i+((v.len:Nat):Int))))),(r.cap-(Int.toNat (yw (i+((v.len:Nat):Int)))))⟩ λe=>
 (((0:Int)<=i/\i<=((s.len:Nat):Int))/\aJ (α:=Sl) ⟨(aW s.base sz (Int.toNat i) s.cap),(s.len-(Int.toNat i)),(s.cap-(Int.toNat i))⟩ λf=>
 fD sz e f (λ_ d=>
 Q r d) c))) b)) h)
 else
 (((0:Int)<=(yw (((s.len:Nat):Int)+((v.len:Nat):Int)))/\(yw (((s.len:Nat):Int)+((v.len:Nat):Int)))<=((s.cap:Nat):Int))/\aJ (α:=Sl) ⟨(aW s.base sz 0 s.cap),((Int.toNat (yw (((s.len:Nat):Int)+((v.len:Nat):Int))))-0),(s.cap-0)⟩ λa=>
 (((0:Int)<=(yw (i+((v.len:Nat):Int)))/\(yw (i+((v.len:Nat):Int)))<=((a.len:Nat):Int))/\aJ (α:=Sl) ⟨(aW a.base sz (Int.toNat (yw (i+((v.len:Nat):Int)))) a.cap),(a.len-(Int.toNat (yw (i+((v.len:Nat):Int))))),(a.cap-(Int.toNat (yw (i+((v.len:Nat):Int)))))⟩ λg=>
 jy P (Extern.SlicesOverlaps.overlaps #[j,j] #[k] #[v.v,g.v]) bB (λr b=>
 (if (!r)=true then
 (((0:Int)<=(yw (i+((v.len:Nat):Int)))/\(yw (i+((v.len:Nat):Int)))<=((a.len:Nat):Int))/\aJ (α:=Sl) ⟨(aW a.base sz (Int.toNat (yw (i+((v.len:Nat):Int)))) a.cap),(a.len-(Int.toNat (yw (i+((v.len:Nat):Int))))),(a.cap-(Int.toNat (yw (i+((v.len:Nat):Int)))))⟩ λe=>
 (((0:Int)<=i/\i<=((a.len:Nat):Int))/\aJ (α:=Sl) ⟨(aW a.base sz (Int.toNat i) a.cap),(a.len-(Int.toNat i)),(a.cap-(Int.toNat i))⟩ λf=>
 fD sz e f (λ_ c=>
 (((0:Int)<=i/\i<=((a.len:Nat):Int))/\aJ (α:=Sl) ⟨(aW a.base sz (Int.toNat i) a.cap),(a.len-(Int.toNat i)),(a.cap-(Int.toNat i))⟩ λl=>
 fD sz l v (λ_ d=>
 Q a d) c)) b))
 else
 (((0:Int)<=((s.len:Nat):Int)/\((s.len:Nat):Int)<=((a.len:Nat):Int))/\aJ (α:=Sl) ⟨(aW a.base sz (Int.toNat ((s.len:Nat):Int)) a.cap),(a.len-(Int.toNat ((s.len:Nat):Int))),(a.cap-(Int.toNat ((s.len:Nat):Int)))⟩ λe=>
 fD sz e v (λ_ c=>
 (((0:Int)<=i/\i<=((a.len:Nat):Int))/\aJ (α:=Sl) ⟨(aW a.base sz (Int.toNat i) a.cap),(a.len-(Int.toNat i)),(a.cap-(Int.toNat i))⟩ λf=>
 R f (λd=>Q a d) c)) b))) h))))))
theorem aaT {bytes tS tR tE y:Nat} {i0:TypeInfo} {zero b1:List Value} {R:Sl->(Hp->Prop)->Hp->Prop} {s v:Sl} {d:List α} {e:α} {F:List Nat} {i:Nat} {Q:Sl->Hp->Prop}
  (ht:P.underlying tS=some (.slice tE)) (c0:P.info? tE=some i0) (r:∀x,(enc x).length=sz) (f4:0<sz) (D:∀x,hH (enc x)=true) (hz:zero.length=sz) (c5:∀n,hH (fk zero n)=true)
  (o:c9 h sz enc s d F) (I:Rw h sz enc v [e]) (hv:v.base=some ⟨y,0,none⟩) (kv:eI h y b1) (Z:y∉F) (hi:i<=d.length) (hb:d.length+1<=140737488355328/\(d.length+1)*bytes<=140737488355328)
  (hq:∀S z J,c9 z sz enc S (d.take i++e::d.drop i) J->Mv F h J z->Q S z):Gi P sz bytes zero tS tR R s (i:Int) v Q h:=by
 have hs:=o.1;have f0:=o.2.1;have a8:v.len=1:=I.1;have w1:yw ((s.len:Int)+(v.len:Int))=(s.len:Int)+1:=by rw [a8,wrap64 (by omega) (by omega)];rfl
 have w2:yw ((i:Int)+(v.len:Int))=((i+1:Nat):Int):=by rw [a8,wrap64 (by omega) (by omega)];omega
 have d6:nX h v.base (1*sz) (enc e):=by simpa using I.2
 unfold Gi;rw [w1,w2];have it:(i:Int).toNat=i:=by omega
 have c6:((i+1:Nat):Int).toNat=i+1:=by omega
 rw [it,c6];refine ⟨by omega,aU ?_⟩;rw [if_neg (show ¬(((v.len:Int)==0)=true) by simp;omega)];by_cases e5:i=d.length
 ·rw [if_pos (show ((i:Int)==(s.len:Int))=true by simp;omega)];refine wQ o I r D hz (by simpa using hb) λS z J o' m'=> ?_;grind
 rw [if_neg (show ¬(((i:Int)==(s.len:Int))=true) by simp;omega)];have e6:i<d.length:=by omega
 have N:∀a b:Nat,a<=b->a*sz<=b*sz:=λa b b6=>Nat.mul_le_mul_right sz b6;have E:((d.take i).flatMap enc).length=i*sz:=by rw [iH r,List.length_take];congr 1;omega
 have tl:((d.drop i).flatMap enc).length=(d.length-i)*sz:=by rw [iH r,List.length_drop]
 have c4:d.flatMap enc=(d.take i).flatMap enc++(d.drop i).flatMap enc:=by rw [<-List.flatMap_append,List.take_append_drop]
 have f5:(d.take i++e::d.drop i).flatMap enc=(d.take i).flatMap enc++enc e++(d.drop i).flatMap enc:=by simp
 have a9:(d.take i++e::d.drop i).length=d.length+1:=by simp;omega
 have j:(i+1)*sz=i*sz+sz:=by grind
 have e2:(d.length+1)*sz=i*sz+sz+(d.length-i)*sz:=by grind
 have Y:=rE D (d.drop i);rcases o.2.2 with ⟨ob,oc,_⟩ | ⟨b,f,ob,rfl,m,k,X⟩
 ·omega
 have e3:s.cap≠0:=by omega
 rw [ob];rw [hs] at X;have e4:d.length*sz<=f.length:=by rw [k];exact N _ _ (by omega)
 have U:aW (some (⟨b,0,none⟩:Addr)) sz 0 s.cap=some ⟨b,0,none⟩:=by rw [tL (by omega)];simp
 have V:aW (some (⟨b,0,none⟩:Addr)) sz i s.cap=some ⟨b,i*sz,none⟩:=by rw [tL (by omega)];simp
 have f6:d.length*sz=i*sz+(d.length-i)*sz:=by grind
 have d3:nX h (some ⟨b,0,none⟩) (i*sz) ((d.take i).flatMap enc):=m.rd E (by
  rw [List.drop_zero];have:f.take (i*sz)=(f.take (d.length*sz)).take (i*sz):=by rw [List.take_take];congr 1;omega
  grind)
 have d1:nX h (some ⟨b,i*sz,none⟩) ((d.length-i)*sz) ((d.drop i).flatMap enc):=m.rd tl (by
  have:(f.drop (i*sz)).take ((d.length-i)*sz)=(f.take (d.length*sz)).drop (i*sz):=by rw [List.drop_take];congr 1;omega
  grind)
 by_cases e9:s.cap<d.length+1
 ·rw [if_pos (show (decide ((s.len:Int)+1>(s.cap:Int)))=true by simp;omega)];refine ⟨by omega,aU ?_⟩;rw [U];have w3:yw ((s.len:Int)+1-(i:Int))=((d.length+1-i:Nat):Int):=by rw [wrap64 (by omega) (by omega)];omega
  rw [w3];have C:(((d.length+1-i:Nat):Int)).toNat=d.length+1-i:=by omega
  refine Xs (l:=⟨some ⟨b,0,none⟩,i-0,s.cap-0⟩) (by omega) d3 ?_ (c5 _) ?_ λg c L B hc l1 m1 k1=> ?_
  ·grind
  ·grind
  rw [C] at hc k1;have b4:(i-0)+(d.length+1-i)=d.length+1:=by omega
  have W:d.length+1<=c:=by grind
  have c7:eI L g ((d.take i).flatMap enc++fk zero (d.length+1-i)++fk zero (c-(d.length+1))):=by grind
  have c2:(⟨some ⟨b,0,none⟩,i-0,s.cap-0⟩:Sl).len+(((d.length+1-i:Nat):Int)).toNat=d.length+1:=by rw [C];exact b4
  rw [c2];have e7:g≠b:=λp=>by rw [p] at B;exact m.known B
  have e8:g≠y:=λp=>by rw [p] at B;exact kv.known B
  refine ⟨by grind,aU ?_⟩;rw [tL (show c≠i by omega),Nat.zero_add];have b0:∀n,(fk zero n).length=n*sz:=λn=>by rw [yh,hz]
  have d7:((d.take i).flatMap enc++fk zero (d.length+1-i)++fk zero (c-(d.length+1))).length=c*sz:=by rw [List.length_append,List.length_append,E,b0,b0,<-Nat.add_mul,<-Nat.add_mul];congr 1;omega
  have d4:nX L v.base (1*sz) (enc e):=by simpa using (I.mono l1).2
  refine Er (n:=1) c7 (by grind) d4 (D e) (by grind) λA w O=> ?_;refine ⟨by grind,aU ⟨by omega,aU ?_⟩⟩;rw [tL (show c≠i+1 by omega),Nat.zero_add,V];have c8:eI A b f:=(m.le l1).mv w (by grind);have d2:nX A (some ⟨b,i*sz,none⟩) ((d.length-i)*sz) ((d.drop i).flatMap enc):=c8.rd tl (by
   grind)
  have G:=O;rw [Nat.one_mul] at G;have K:((d.take i).flatMap enc++fk zero (d.length+1-i)++fk zero (c-(d.length+1))).take (i*sz)=(d.take i).flatMap enc:=by grind
  rw [K] at G;have c3:(((d.take i).flatMap enc++fk zero (d.length+1-i)++fk zero (c-(d.length+1))).drop (i*sz+sz)).length=c*sz-(i*sz+sz):=by grind
  generalize ((d.take i).flatMap enc++fk zero (d.length+1-i)++fk zero (c-(d.length+1))).drop (i*sz+sz)=rest at G c3;have d9:=N _ _ W;refine Er (n:=d.length-i) G (by grind) d2 Y (by
   grind) λh3 T H=> ?_
  refine hq _ _ [g] ⟨a9.symm,W,.inr ⟨g,_,rfl,rfl,H,?_,?_⟩⟩ ?_
  ·grind
  ·grind
  ·have d0:Mv [b] h [g] L:=m1.sub (λb hb=>by cases hb) λb hb=>.inl hb;exact d0.trans (w.trans T)
 ·rw [if_neg (show ¬(decide ((s.len:Int)+1>(s.cap:Int)))=true by simp;omega)];refine ⟨by omega,aU ⟨?_,aU ?_⟩⟩
  ·show (0:Int)<=((i+1:Nat):Int)/\((i+1:Nat):Int)<=(((((s.len:Int)+1).toNat-0:Nat)):Int);omega
  have c1:((s.len:Int)+1).toNat-0=d.length+1:=by omega
  have b9:s.cap-0=s.cap:=by omega
  rw [U,c1,b9];have b8:aW (some (⟨b,0,none⟩:Addr)) sz (i+1) s.cap=some ⟨b,(i+1)*sz,none⟩:=by rw [tL (by omega)];simp
  show jy P (Extern.SlicesOverlaps.overlaps #[tS,tS] #[tR] #[.slice v.base v.len v.cap,.slice (aW (some (⟨b,0,none⟩:Addr)) sz (i+1) s.cap) (d.length+1-(i+1)) (s.cap-(i+1))]) bB _ h;rw [b8,hv];refine YF ht c0 kv m (λp=>Z (by rw [p];exact List.mem_singleton.2 rfl)) ?_;rw [if_pos (by rfl)];refine ⟨by show (0:Int)<=((i+1:Nat):Int)/\((i+1:Nat):Int)<=((d.length+1:Nat):Int);omega,aU ⟨by show (0:Int)<=i/\(i:Int)<=((d.length+1:Nat):Int);omega,aU ?_⟩⟩;have d8:(d.length+1)*sz<=s.cap*sz:=N _ _ (by omega);have b7:aW (some (⟨b,0,none⟩:Addr)) sz i s.cap=some ⟨b,i*sz,none⟩:=V;show fD sz ⟨some ⟨b,(i+1)*sz,none⟩,d.length+1-(i+1),s.cap-(i+1)⟩ ⟨aW (some (⟨b,0,none⟩:Addr)) sz i s.cap,d.length+1-i,s.cap-i⟩ _ h;rw [b7];refine Er (n:=d.length-i) m (by show min (d.length+1-i) (d.length+1-(i+1))=_;omega) d1 Y (by rw [k,j];omega) λA w O=> ?_;refine ⟨by show (0:Int)<=i/\(i:Int)<=((d.length+1:Nat):Int);omega,aU ?_⟩;have d5:nX A v.base (1*sz) (enc e):=by
   refine ⟨by rw [r,Nat.one_mul],?_⟩;rcases d6.2 with e0 | ⟨a,M,hl⟩
   ·exact .inl e0
   ·refine .inr ⟨a,M,λq u hu=> ?_⟩;have:=hl q u hu;rw [hv] at M;cases M;rw [jC] at this ⊢;obtain ⟨t,ek⟩:=id kv;obtain ⟨t',b5⟩:=kv.mv w (λC=>Z C);rw [C6 ek] at this;rw [C6 b5];exact this
  have K:(f.take ((i+1)*sz)++(d.drop i).flatMap enc++f.drop ((i+1)*sz+(d.length-i)*sz)).take (i*sz)=(d.take i).flatMap enc:=by
   rw [List.append_assoc,List.take_append_of_le_length (by rw [List.length_take,k];rw [j];omega),List.take_take];have:f.take (min (i*sz) ((i+1)*sz))=(f.take (d.length*sz)).take (i*sz):=by rw [List.take_take];congr 1;rw [j];omega
   rw [this,X,c4,<-E,List.take_left]
  have b3:(f.take ((i+1)*sz)++(d.drop i).flatMap enc++f.drop ((i+1)*sz+(d.length-i)*sz)).drop (i*sz+1*sz)=(d.drop i).flatMap enc++f.drop ((i+1)*sz+(d.length-i)*sz):=by
   have:i*sz+1*sz=(f.take ((i+1)*sz)).length:=by rw [List.length_take,k,j,Nat.one_mul];omega
   rw [List.append_assoc,this,List.drop_left]
  refine Er (n:=1) O (by show min v.len (d.length+1-i)=1;omega) d5 (D e) (by
   simp only [List.length_append,List.length_take,List.length_drop,tl,k,j,Nat.one_mul];omega) λh3 T H=> ?_
  rw [K,b3] at H;refine hq _ _ [b] ⟨a9.symm,by show d.length+1<=s.cap;omega,.inr ⟨b,_,rfl,rfl,H,?_,?_⟩⟩ (w.trans T)
  ·simp only [List.length_append,List.length_drop,E,r,tl,k,j];show _=s.cap*sz;omega
  grind
def wS (P:Program) (sz bytes:Nat) (zero:List Value) (c:Nat) (s:Sl) (i j:Int) (Q:Sl->Hp->Prop) (h:Hp):Prop:=
 (((0:Int)<=i/\(i<=j/\(j<=((s.len:Nat):Int)/\((s.len:Nat):Int)<=((s.cap:Nat):Int))))/\aJ (α:=Sl) ⟨(aW s.base sz (Int.toNat i) (Int.toNat ((s.len:Nat):Int))),((Int.toNat j)-(Int.toNat i)),((Int.toNat ((s.len:Nat):Int))-(Int.toNat i))⟩ λ_=>
 (if (i==j)=true then
 Q s h
 else
 (((0:Int)<=i/\i<=((s.cap:Nat):Int))/\aJ (α:=Sl) ⟨(aW s.base sz 0 s.cap),((Int.toNat i)-0),(s.cap-0)⟩ λd=>
 (((0:Int)<=j/\j<=((s.len:Nat):Int))/\aJ (α:=Sl) ⟨(aW s.base sz (Int.toNat j) s.cap),(s.len-(Int.toNat j)),(s.cap-(Int.toNat j))⟩ λe=>
 eS sz bytes zero d e (λr a=>
 (((0:Int)<=((r.len:Nat):Int)/\(((r.len:Nat):Int)<=((s.len:Nat):Int)/\((s.len:Nat):Int)<=((r.cap:Nat):Int)))/\aJ (α:=Sl) ⟨(aW r.base sz (Int.toNat ((r.len:Nat):Int)) r.cap),((Int.toNat ((s.len:Nat):Int))-(Int.toNat ((r.len:Nat):Int))),(r.cap-(Int.toNat ((r.len:Nat):Int)))⟩ λf=>
 lT P (Builtin.clear_ #[c] 0 #[f.v]) sW (λb=>
 Q r b) a)) h))))
theorem aaV {bytes tS tE:Nat} {z:Value} {s:Sl} {c:List α} {F:List Nat} {i j:Nat} {Q:Sl->Hp->Prop}
  (R:P.underlying tS=some (.slice tE)) (V:∀ {K:Value->Hp->Prop} {h:Hp},K z h->cP P (zeroValue tE) K h) (f:∀x,(enc x).length=sz) (L:∀x,hH (enc x)=true) (u:(bg z).length=sz) (U:∀n,hH (fk (bg z) n)=true)
  (o:c9 h sz enc s c F) (b2:i<j) (H:j<=c.length) (hb:c.length<=140737488355328/\c.length*bytes<=140737488355328)
  (M:∀w g,c9 g sz enc w (c.take i++c.drop j) F->Mv F h F g->Q w g):wS P sz bytes (bg z) tS s (i:Int) (j:Int) Q h:=by
 have O:=o.1;have b5:=o.2.1;unfold wS;have W:(i:Int).toNat=i:=by omega
 have X:(j:Int).toNat=j:=by omega
 have st:(s.len:Int).toNat=c.length:=by omega
 rw [W,X,st];refine ⟨by omega,aU ?_⟩;rw [if_neg (show ¬(((i:Int)==(j:Int))=true) by simp;omega)];have e:∀a b:Nat,a<=b->a*sz<=b*sz:=λa b B=>Nat.mul_le_mul_right sz B;have T:((c.take i).flatMap enc).length=i*sz:=by rw [iH f,List.length_take];congr 1;omega
 have tl:((c.drop j).flatMap enc).length=(c.length-j)*sz:=by rw [iH f,List.length_drop]
 rcases o.2.2 with ⟨y,oc,_⟩ | ⟨b,d,y,rfl,l,m,k⟩
 ·omega
 rw [y];rw [O] at k;have b1:c.length*sz<=d.length:=by rw [m];exact e _ _ (by omega)
 have C:aW (some (⟨b,0,none⟩:Addr)) sz 0 s.cap=some ⟨b,0,none⟩:=by rw [tL (by omega)];simp
 have b3:=e i c.length (by omega);have b4:=e j c.length H;have b7:c.length*sz=j*sz+(c.length-j)*sz:=by rw [<-Nat.add_mul];congr 1;omega
 have b6:i*sz<=j*sz:=e _ _ (by omega);have S:d.take (i*sz)=(c.take i).flatMap enc:=by rw [Bd f,<-k,List.take_take];congr 1;omega
 have a9:nX h (some ⟨b,0,none⟩) ((i-0)*sz) ((c.take i).flatMap enc):=l.rd T (by rw [List.drop_zero];exact S);have a8:nX h (aW (some (⟨b,0,none⟩:Addr)) sz j s.cap) ((c.length-j)*sz) ((c.drop j).flatMap enc):=by
  by_cases E:s.cap=j
  ·refine ⟨tl,.inl ?_⟩;have:c.length-j=0:=by omega
   rw [this,Nat.zero_mul]
  ·rw [tL E,Nat.zero_add];refine l.rd tl ?_;rw [yn f,<-k,List.drop_take];congr 1;omega
 refine ⟨by omega,aU ⟨by omega,aU ?_⟩⟩;rw [C];have J:i-0+(c.length-j)<=c.length:=by omega
 have b0:(i-0+(c.length-j))*bytes<=c.length*bytes:=Nat.mul_le_mul_right _ J;have t:(⟨aW (some (⟨b,0,none⟩:Addr)) sz j s.cap,s.len-j,s.cap-j⟩:Sl).len=c.length-j:=by show s.len-j=_;omega
 refine KF (n:=c.length-j) l a9 (by rw [t];exact a8) t (rE L _) ⟨by omega,by omega⟩ (by omega) (by
  have:i-0=i:=by omega
  rw [this,Nat.zero_add,m];have:=e (i+(c.length-j)) s.cap (by omega);rw [Nat.add_mul] at this;exact this) λA Z v=> ?_
 have p:i-0=i:=by omega
 rw [p,Nat.zero_add] at v;show ((0:Int)<=((i-0+(c.length-j):Nat):Int)/\((i-0+(c.length-j):Nat):Int)<=(s.len:Int)/\(s.len:Int)<=((s.cap-0:Nat):Int))/\aJ (α:=Sl) ⟨aW (some ⟨b,0,none⟩) sz (((i-0+(c.length-j):Nat):Int)).toNat (s.cap-0),c.length-(((i-0+(c.length-j):Nat):Int)).toNat,s.cap-0-(((i-0+(c.length-j):Nat):Int)).toNat⟩ _;refine ⟨by omega,aU ?_⟩;have I:(((i-0+(c.length-j):Nat):Int)).toNat=i+(c.length-j):=by omega
 have D:s.cap-0=s.cap:=by omega
 rw [I,D,tL (show s.cap≠i+(c.length-j) by omega),Nat.zero_add];have G:c.length-(i+(c.length-j))=j-i:=by omega
 have r:(i+(c.length-j))*sz=i*sz+(c.length-j)*sz:=Nat.add_mul _ _ _;have q:(d.take (i*sz)++(c.drop j).flatMap enc++d.drop (i*sz+(c.length-j)*sz)).length=d.length:=by simp only [List.length_append,List.length_take,List.length_drop,tl];omega
 show lT P (Builtin.clear_ #[tS] 0 #[.slice (some ⟨b,(i+(c.length-j))*sz,none⟩) (c.length-(i+(c.length-j))) (s.cap-(i+(c.length-j)))]) sW _ A;rw [G];refine LS R V U v (by
  rw [q,u,r];have:i*sz+(j-i)*sz=j*sz:=by rw [<-Nat.add_mul];congr 1;omega
  omega) λh2 m2 Y=> ?_
 have N:(c.take i++c.drop j).length=i+(c.length-j):=by simp;omega
 refine M _ _ ⟨?_,?_,.inr ⟨b,_,rfl,rfl,Y,?_,?_⟩⟩ (Z.trans m2)
 ·rw [N,p]
 ·show i-0+(c.length-j)<=s.cap;omega
 ·simp only [List.length_append,List.length_take,List.length_drop,q,yh,u];show _=s.cap*sz;have:i*sz+(j-i)*sz=j*sz:=by rw [<-Nat.add_mul];congr 1;omega
  rw [r];omega
 grind
end
def dK {g:Type} (sz:Nat) (enc:g->List Value) (l:Sl) (xs:List g):dh where
 R k F:=l.len=xs.length/\l.len<=l.cap/\((l.base=none/\l.cap=0/\∀b,¬F b)\/∃(b off:Nat) (cs:List Value),l.base=some ⟨b,off,none⟩/\(∀c,F c↔c=b)/\eI k b cs/\off+l.cap*sz<=cs.length/\(cs.drop off).take (l.len*sz)=xs.flatMap enc)
 same:=by rintro k p F ⟨j,m,d⟩ o;refine ⟨j,m,d.imp id ?_⟩;rintro ⟨b,off,cs,e,a,⟨t,f⟩,i⟩;exact ⟨b,off,cs,e,a,⟨t,by grind⟩,i⟩
 known:=by
  rintro k F ⟨_,_,d⟩ c n;rcases d with ⟨_,_,h⟩ | ⟨b,off,cs,e,a,f,_⟩
  ·grind
  ·rw [(a c).1 n];exact f.known
section
variable {α:Type} {h0 k:Hp} {sz:Nat} {enc:α->List Value} {l:Sl} {xs:List α}
theorem Has.km {h0 k:Hp} (a:h0<=k):Has h0 (dK sz enc ⟨none,0,0⟩ ([]:List α)) k:=⟨a,λ_=>False,⟨rfl,Nat.le_refl _,.inl ⟨rfl,rfl,λ_ h=>h⟩⟩,λ_ h=>h.elim⟩
theorem Has.ic (o:Has h0 (dK sz enc l xs) k):l.len=xs.length:=by obtain ⟨_,_,h,_⟩:=o;exact h.1
theorem Has.vc (o:Has h0 (dK sz enc l xs) k):l.len<=l.cap:=by obtain ⟨_,_,h,_⟩:=o;exact h.2.1
theorem Has.jE (o:Has h0 (dK sz enc l xs) k) (c:∀x,(enc x).length=sz):Rw k sz enc l xs:=by
 obtain ⟨_,F,⟨h1,h,a⟩,_⟩:=o;refine ⟨h1,iH c xs,?_⟩;rcases a with ⟨e,g,_⟩ | ⟨b,off,f,e,_,hb,i,d⟩
 ·grind
 ·right;exact ⟨_,e,hb.bI (n:=l.len*sz) d⟩
theorem Has.uZ {b:Nat} {cs:List Value} (h:h0<=k) (i:h0 b=none) (hb:eI k b cs) (f:l.base=some ⟨b,0,none⟩) (a:l.len=xs.length) (d:l.len<=l.cap) (j:cs.length=l.cap*sz) (e:cs.take (l.len*sz)=xs.flatMap enc):Has h0 (dK sz enc l xs) k:=
 ⟨h,λc=>c=b,⟨a,d,.inr ⟨b,0,cs,f,λ_=>Iff.rfl,hb,by omega,by simpa using e⟩⟩,λc g=>by rw [g];exact i⟩
theorem Has.BH {F:List Nat} (o:c9 k sz enc l xs F) (d:h0<=k) (j:∀b∈F,h0 b=none):Has h0 (dK sz enc l xs) k:=by
 obtain ⟨a,c,g⟩:=o;rcases g with ⟨e,f,rfl⟩ | ⟨b,n,e,rfl,hb,i,m⟩
 ·exact ⟨d,λ_=>False,⟨a,c,.inl ⟨e,f,λ_ h=>h⟩⟩,λ_ h=>h.elim⟩
 ·exact Has.uZ d (j b (List.mem_singleton.2 rfl)) hb e a c i m
theorem ju {k:Hp} {cs:List Value} {K:Addr->Hp->Prop} (d:cs=xs.flatMap enc) (e:∀x,(enc x).length=sz) (f:∀a c,k<=c->Has k (dK sz enc ⟨some a,xs.length,xs.length⟩ xs) c->K a c):bc cs K k:=by intro b t hb;refine f _ _ (lz hb) (Has.uZ (b:=b) (cs:=cs) (lz hb) hb ⟨t,lZ⟩ rfl rfl (Nat.le_refl _) (by rw [d,iH e]) ?_);rw [d];show List.take (xs.length*sz) _=_;rw [<-iH e xs,List.take_length]
theorem Has.app {zero:List Value} {bytes:Nat} {x:Sl} {d:List α} {K:Sl->Hp->Prop} (o:Has h0 (dK sz enc l xs) k) (r:Rw k sz enc x d) (f:∀x,(enc x).length=sz) (J:∀x,hH (enc x)=true)
  (N:zero.length=sz) (hb:xs.length+d.length<=140737488355328/\(xs.length+d.length)*bytes<=140737488355328)
  (q:∀z y,Has h0 (dK sz enc z (xs++d)) y->K z y):eS sz bytes zero l x K k:=by
 have L:=o.jE f;obtain ⟨i,F,⟨h1,D,E⟩,p⟩:=o;obtain ⟨g,X⟩:=r;refine ⟨d.flatMap enc,by grind,xs.flatMap enc,by rw [h1];exact L.2,by grind,rE J d,λw=> ?_,λw c b t G v=> ?_⟩
 ·rcases E with ⟨e,m,h⟩ | ⟨b,off,cs,e,h,u,T,M⟩
  ·have A:d.length=0:=by omega
   have B:d=[]:=List.length_eq_zero_iff.1 A;subst B;refine ⟨λa n=>(by grind),?_⟩;have j:fI k l.base (l.len*sz) (([]:List α).flatMap enc)=k:=by rw [e];rfl
   rw [j,g];exact q _ k ⟨i,F,⟨by simp [h1],by simpa using D,.inl ⟨e,m,h⟩⟩,p⟩
  ·have V:l.len*sz+(d.flatMap enc).length<=l.cap*sz:=by rw [iH f,<-Nat.add_mul];exact Nat.mul_le_mul_right sz (by omega)
   obtain ⟨P,Q⟩:=u.put (off:=off+l.len*sz) (new:=d.flatMap enc) (by omega);have W:h0 b=none:=p b ((h b).2 rfl);refine ⟨λa n=> ?_,?_⟩
   ·rw [e] at n;cases n;rw [jC];refine u.ru _ ?_;rw [g,<-iH f d];omega
   ·have j:fI k l.base (l.len*sz) (d.flatMap enc)=jA k ⟨b,off+l.len*sz,none⟩ (d.flatMap enc) 0:=by rw [e];simp only [fI,jC]
    rw [j];refine q _ _ ⟨λc O m=> ?_,F,⟨by simp [h1,g],w,.inr ⟨b,off,_,e,h,P,?_,?_⟩⟩,p⟩
    ·have I:c≠b:=λR=>by grind
     rw [Q c I];exact i c O m
    ·grind
    ·have U:off+l.len*sz<=cs.length:=by omega
     have s:(l.len+x.len)*sz=l.len*sz+(d.flatMap enc).length:=by rw [g,iH f,Nat.add_mul]
     have C:(cs.take (off+l.len*sz)).drop off=xs.flatMap enc:=by rw [List.drop_take,<-M];congr 1;omega
     show List.take ((l.len+x.len)*sz) _=_;rw [s,List.append_assoc,List.drop_append_of_le_length (by rw [List.length_take];omega),C,List.flatMap_append,<-List.append_assoc];have S:l.len*sz+(d.flatMap enc).length=(xs.flatMap enc++d.flatMap enc).length:=by rw [List.length_append,iH f xs,h1]
     grind
 ·have H:h0 b=none:=pH i v;refine q _ _ (Has.uZ (b:=b) (cs:=xs.flatMap enc++d.flatMap enc++fk zero (c-(l.len+x.len))) (Hp.le_trans i (lz v)) H ⟨t,lZ⟩ rfl (by simp [h1,g]) G ?_ ?_)
  ·rw [List.length_append,List.length_append,iH f,iH f,yh,N,<-Nat.add_mul,<-Nat.add_mul];grind
  ·have s:(l.len+x.len)*sz=(xs.flatMap enc++d.flatMap enc).length:=by rw [List.length_append,iH f,iH f,h1,g,Nat.add_mul]
   grind
theorem Has.push {zero:List Value} {bytes:Nat} {e:α} {cs:List Value} {K:Sl->Hp->Prop} (o:Has h0 (dK sz enc l xs) k) (g:cs=enc e) (b:∀x,(enc x).length=sz) (j:∀x,hH (enc x)=true)
  (m:zero.length=sz) (hb:xs.length+1<=140737488355328/\(xs.length+1)*bytes<=140737488355328)
  (h:∀f c,Has h0 (dK sz enc f (xs++ [e])) c->K f c):bc cs (λa d=>eS sz bytes zero l ⟨some a,1,1⟩ K d) k:=by
 refine ju (xs:=[e]) (sz:=sz) (enc:=enc) (by rw [g];simp) b λa d i n=> ?_;exact (o.grow i).app (n.jE b) b j m hb h
theorem Has.wR (o:Has h0 (dK sz enc l xs) k) (i:∀x,(enc x).length=sz) {n c:Nat} (w:n<=xs.length) (t:n<=c) (u:c<=l.cap):Has h0 (dK sz enc ⟨aW l.base sz 0 c,n-0,c-0⟩ (xs.take n)) k:=by
 obtain ⟨m,F,⟨r,s,g⟩,j⟩:=o;have hb:aW l.base sz 0 c=l.base:=by
  unfold aW;split
  ·rfl
  ·cases l.base with
   | none=>rfl
   | some a=>obtain ⟨b,off,sp⟩:=a;simp [Addr.add]
 refine ⟨m,F,⟨by simp;omega,by simp;omega,?_⟩,j⟩;rw [hb];rcases g with ⟨e,q,d⟩ | ⟨b,off,f,e,d,h,v,p⟩
 ·grind
 ·refine .inr ⟨b,off,f,e,d,h,?_,?_⟩
  ·have:(c-0)*sz<=l.cap*sz:=Nat.mul_le_mul_right sz (by omega);grind
  ·show List.take ((n-0)*sz) _=_;rw [Bd i,<-p,List.take_take];congr 1;have:n*sz<=l.len*sz:=Nat.mul_le_mul_right sz (by omega);grind
theorem Has.pn {a:α} {r:List α} (o:Has h0 (dK sz enc l (a::r)) k) (y:∀x,(enc x).length=sz) {c:Nat} (v:l.len<=c) (w:c<=l.cap):Has h0 (dK sz enc ⟨aW l.base sz 1 c,l.len-1,c-1⟩ r) k:=by
 obtain ⟨n,F,⟨h1,u,j⟩,m⟩:=o;have p:l.len=r.length+1:=by simpa using h1
 refine ⟨n,F,⟨by grind,by grind,?_⟩,m⟩;rcases j with ⟨e,t,d⟩ | ⟨b,off,f,e,d,g,z,s⟩
 ·omega
 ·by_cases h:c=1
  ·have q:r=[]:=List.length_eq_zero_iff.1 (by omega);subst q;refine .inr ⟨b,off,f,?_,d,g,?_,?_⟩
   ·show aW l.base sz 1 c=_;unfold aW;rw [if_pos h];exact e
   ·show off+(c-1)*sz<=_;have:(c-1)*sz<=l.cap*sz:=Nat.mul_le_mul_right sz (by omega);omega
   grind
  ·refine .inr ⟨b,off+1*sz,f,?_,d,g,?_,?_⟩
   ·show aW l.base sz 1 c=_;rw [e,tL h]
   ·show off+1*sz+(c-1)*sz<=_;have:1*sz+(c-1)*sz<=l.cap*sz:=by rw [<-Nat.add_mul];exact Nat.mul_le_mul_right sz (by omega)
    omega
   ·show List.take ((l.len-1)*sz) _=_;have i:(List.flatMap enc (a::r)).drop sz=r.flatMap enc:=by grind
    rw [<-i,<-s,List.drop_take,List.drop_drop,Nat.one_mul];congr 1;rw [p,Nat.add_mul,Nat.one_mul];simp
theorem UP (b:∀x,(enc x).length=sz) {off n:Nat} {a:List Value} (h:n=xs.length) (f:off+n*sz<=a.length) (d:(a.drop off).take (n*sz)=xs.flatMap enc) {i:Nat} (c:i<xs.length) (x:α):
  ((a.take (off+i*sz)++enc x++a.drop (off+i*sz+sz)).drop off).take (n*sz)=(xs.set i x).flatMap enc:=by
 have g:i*sz+sz<=n*sz:=by have:=Nat.mul_le_mul_right sz (show i+1<=n by omega);rw [Nat.add_mul,Nat.one_mul] at this;exact this
 rw [Ea x c,List.flatMap_append,List.flatMap_cons,Bd b,yn b,<-d];have t1:((a.take (off+i*sz)).drop off)=(a.drop off).take (i*sz):=by rw [List.drop_take];congr 1;omega
 rw [List.append_assoc,List.drop_append_of_le_length (by rw [List.length_take];omega),t1,List.take_take,Nat.min_eq_left (by omega)];have e:((a.drop off).take (i*sz)).length=i*sz:=by rw [List.length_take,List.length_drop];omega
 rw [List.take_append,e,List.take_of_length_le (by omega),List.take_append,b,List.take_of_length_le (l:=enc x) (by rw [b];omega)];congr 2;rw [List.drop_take,List.drop_drop];grind
theorem Has.BR (o:Has h0 (dK sz enc l xs) k) (g:∀x,(enc x).length=sz) {i:Nat} {x x':α} (s:xs[i]? =some x) {off:Nat} {new:List Value} (S:off+new.length<=sz) (M:(enc x).take off++new++(enc x).drop (off+new.length)=enc x')
  {K:Hp->Prop} (J:∀j,Has h0 (dK sz enc l (xs.set i x')) j->K j):bW k ((sat l.base sz (i:Int)).add off) new K:=by
 have r:i<xs.length:=(List.getElem?_eq_some_iff.1 s).1;obtain ⟨L,F,⟨t,f,n⟩,w⟩:=o;rcases n with ⟨e,h,q⟩ | ⟨b,a,d,e,q,H,P,A⟩
 ·omega
 ·have N:h0 b=none:=w b ((q b).2 rfl);have Q:i*sz+sz<=l.len*sz:=by have:=Nat.mul_le_mul_right sz (show i+1<=l.len by omega);rw [Nat.add_mul,Nat.one_mul] at this;exact this
  have R:l.len*sz<=l.cap*sz:=Nat.mul_le_mul_right sz f;have G:(sat l.base sz (i:Int)).add off=⟨b,a+i*sz+off,none⟩:=by unfold sat;rw [e,Option.getD_some,jC,jC,Int.toNat_natCast]
  rw [G];have O:(d.drop (a+i*sz)).take sz=enc x:=by
   have f:(xs.drop i).flatMap enc=enc x++(xs.drop (i+1)).flatMap enc:=by rw [List.drop_eq_getElem_cons r,List.flatMap_cons];rw [List.getElem?_eq_getElem r] at s;rw [Option.some.inj s]
   have n:(xs.drop i).flatMap enc=(d.drop (a+i*sz)).take (l.len*sz-i*sz):=by rw [yn g,<-A,List.drop_take,List.drop_drop]
   rw [n] at f;have p:=congrArg (List.take sz) f;rw [List.take_take,Nat.min_eq_left (by omega),<-g x,List.take_left] at p;rw [g x] at p;exact p
  have v:d=d.take (a+i*sz)++(enc x++d.drop (a+i*sz+sz)):=by
   have E:d.drop (a+i*sz+sz)=(d.drop (a+i*sz)).drop sz:=by rw [List.drop_drop]
   rw [<-O,E,List.take_append_drop,List.take_append_drop]
  have y:(d.take (a+i*sz)).length=a+i*sz:=by rw [List.length_take];omega
  have z:(enc x).length=sz:=g x;have C:d.take (a+i*sz+off)=d.take (a+i*sz)++(enc x).take off:=by
   conv=>lhs;rw [v]
   rw [List.take_append,y,List.take_of_length_le (by omega),List.take_append,z,show a+i*sz+off-(a+i*sz)=off by omega,show off-sz=0 by omega,List.take_zero,List.append_nil]
  have D:d.drop (a+i*sz+off+new.length)=(enc x).drop (off+new.length)++d.drop (a+i*sz+sz):=by
   conv=>lhs;rw [v]
   rw [List.drop_append,y,List.drop_eq_nil_of_le (by omega),List.nil_append,List.drop_append,z,show a+i*sz+off+new.length-(a+i*sz)=off+new.length by omega,show off+new.length-sz=0 by omega,List.drop_zero]
  refine qE H (by omega) λj m u=> ?_;rw [C,D,show d.take (a+i*sz)++(enc x).take off++new++((enc x).drop (off+new.length)++d.drop (a+i*sz+sz))=d.take (a+i*sz)++enc x'++d.drop (a+i*sz+sz) by rw [<-M];simp] at u;refine J j ⟨λc B h=>m.bq c B (L c B h) (λI=>(by rw [List.mem_singleton.1 I,N] at h;cases h)),F,⟨by simp [t],f,.inr ⟨b,a,_,e,q,u,?_,UP g t (by omega) A r x'⟩⟩,w⟩;grind
end
end Lf
namespace Lf
structure cp where
 op:Int
 a:Int
 b:Int
 c:Int
 gW:Int
def gQ (op:Int):Bool×Bool×Bool×Bool:=
 if op=1 then (true,false,false,true)
 else if op=2\/op=20\/op=21\/op=25\/op=26 then (true,true,false,false)
 else if (3<=op/\op<=14)\/(15<=op/\op<=19)\/op=24 then (true,true,true,false)
 else if op=22\/op=29\/op=30 then (false,false,false,true)
 else if op=23 then (true,false,false,true)
 else if op=27\/op=28\/op=31\/op=32\/op=33 then (true,false,false,false)
 else (false,false,false,false)
def cS (has:Bool) (n:Int):Int:=if has=false/\n≠0 then 11 else if n<0\/8<=n then 10 else 0
def gG (x:cp) (n ag:Int):Int×Int:=
 if x.op<0\/34<=x.op then (9,0)
 else if cS (gQ x.op).1 x.a≠0 then (cS (gQ x.op).1 x.a,1)
 else if cS (gQ x.op).2.1 x.b≠0 then (cS (gQ x.op).2.1 x.b,2)
 else if cS (gQ x.op).2.2.1 x.c≠0 then (cS (gQ x.op).2.2.1 x.c,3)
 else if (gQ x.op).2.2.2=false/\x.gW≠0 then (11,4)
 else if (x.op=22\/x.op=23)/\(x.gW<0\/n<x.gW) then (12,4)
 else if (x.op=29\/x.op=30)/\(x.gW<0\/ag<=x.gW) then (13,4)
 else (0,0)
def jo (n ag:Int):List cp->Int->Int×Int
 | [],_=>(0,0)
 | x::r,i=>if (gG x n ag).1≠0 then ((gG x n ag).1,i) else jo n ag r (i+1)
def iK (l:List cp) (ag:Int):Int×Int:=
 if ag<0\/8<ag then (1,0) else if 256<l.length then (3,256) else jo l.length ag l 0
structure fq where
 part:Int
 code:List cp
structure aI where
 labels:List Int
 table:List Int
 fuel:Int
 lane:Int
 ag:Int
 log:Int
 procs:List fq
def within (n a b:Int):Bool:=decide (a<=n)&&decide (n<=b)
def sX (parts ag:Int):List fq->Int->Int×Int
 | [],_=>(0,0)
 | p::r,i=>if within p.part 0 (parts-1)=false then (2,7+i) else if (iK p.code ag).1≠0 then ((iK p.code ag).1,7+i) else sX parts ag r (i+1)
def qX (m:Int) (c:aI):Int×Int:=
 if m≠0 then (m,0)
 else if c.table=[] then (1,1)
 else if 64<c.table.length then (3,1)
 else if c.table.all (λp=>within p 0 (c.labels.length-1))=false then (2,1)
 else if within c.fuel 1 256=false then (2,2)
 else if within c.lane 1 64=false then (2,3)
 else if within c.ag 0 8=false then (2,4)
 else if within c.log 0 4096=false then (2,5)
 else if c.procs=[] then (1,6)
 else if 32<c.procs.length then (3,6)
 else sX c.labels.length c.ag c.procs 0
def cM (n:Int):Nat->List UInt8
 | 0=> []
 | k+1=>UInt8.ofNat (n%256).toNat::cM (n / 256) k
def eN :List UInt8->Nat
 | []=>0
 | b::r=>b.toNat+256*eN r
theorem lQ (n:Int) (k:Nat):(cM n k).length=k:=by
 induction k generalizing n with
 | zero=>rfl
 | succ k a=>simp [cM,a]
theorem vB (n:Int) (k:Nat):(eN (cM n k):Int)=n%((256^k:Nat):Int):=by
 induction k generalizing n with
 | zero=>show ((0:Nat):Int)=n%1;omega
 | succ k b=>
  have a:(UInt8.ofNat (n%256).toNat).toNat=(n%256).toNat:=by
   rw [UInt8.toNat_ofNat'];have:(n%256).toNat<256:=by omega
   omega
  have c:=b (n / 256);have e:((256^(k+1):Nat):Int)=256*((256^k:Nat):Int):=by rw [Nat.pow_succ,Int.natCast_mul,Int.mul_comm];rfl
  rw [e];show (((UInt8.ofNat (n%256).toNat).toNat+256*eN (cM (n / 256) k):Nat):Int)=_;rw [a];generalize ((256^k:Nat):Int)=q at*;have d:(0:Int)<=n%256:=by omega
  have f:=Int.emod_add_mul_ediv n (256*q);have g:=Int.emod_add_mul_ediv (n / 256) q;have h:=Int.emod_add_mul_ediv n 256;have i:n / (256*q)=n / 256 / q:=(Int.ediv_ediv_of_nonneg (by decide)).symm;grind
theorem qz :∀l:List UInt8,eN l<256^l.length
 | []=>by simp [eN]
 | b::r=>by have a:=qz r;have c:=b.toNat_lt;simp only [eN,List.length_cons,Nat.pow_succ];omega
theorem EW :∀l:List UInt8,cM (eN l:Int) l.length=l
 | []=>rfl
 | b::r=>by
  have d:=b.toNat_lt;have a:(((b.toNat+256*eN r:Nat):Int)%256).toNat=b.toNat:=by omega
  have c:((b.toNat+256*eN r:Nat):Int) / 256=(eN r:Int):=by omega
  simp only [eN,List.length_cons,cM];rw [a,c,EW r];simp
def lL (x:cp):List UInt8:=cM x.op 1++(cM x.a 1++(cM x.b 1++(cM x.c 1++cM x.gW 8)))
def sk (l:List cp):List UInt8:=l.flatMap lL
def gg (p:fq):List UInt8:=cM p.part 1++(cM p.code.length 2++sk p.code)
def nI (c:aI):List UInt8:=
 [70,66,67,70,1]++(cM c.labels.length 1++(c.labels.flatMap (λa=>cM a 8)++(cM c.table.length 1++(c.table.flatMap (λa=>cM a 1)++
  (cM c.fuel 2++(cM c.lane 1++(cM c.ag 1++(cM c.log 2++(cM c.procs.length 1++c.procs.flatMap gg)))))))))
structure pJ where
 tick:Int
 proc:Int
 value:Int
structure mr where
 proc:Int
 value:Int
structure bm where
 values:List Int
 waiters:List mr
 taken:Int
 dropped:Int
structure au where
 state:Int
 pc:Int
 br:List Int
 aj:Int
 timer:Int
 bN:Bool
 cJ:Int
 ak:List bm
structure dB where
 aj:Int
 log:List pJ
 lost:Int
 forbidden:Int
 az:List Int
 aw:List (List Int)
structure gN where
 tick:Int
 parts:List dB
 procs:List au
section
variable (c:aI) (s:gN)
def Fq (p:Int) (i:Nat):Prop:=0<=p/\∃y,c.procs[p.toNat]? =some y/\y.part=(i:Int)
def NU (p:Int) (q:au->Prop):Prop:=∃x,s.procs[p.toNat]? =some x/\q x
def uW (i:Nat):Nat:=(c.procs.filter λy=>decide (y.part=(i:Int))).length
def jl (n:Int):Prop:=0<=n/\n<=65535
def qc (y:fq) (pc:Int):Option cp:=if 0<=pc then y.code[pc.toNat]? else none
def wM (i:Nat):Int->List pJ->Prop
 | _,[]=>True
 | last,e::r=>last<=e.tick/\e.tick<s.tick/\Fq c e.proc i/\wM i e.tick r
def FU (i:Nat) (x:dB):Prop:=
 (0<=x.aj/\(0<x.aj->x.aj<uW c i)/\(x.log.length:Int)<=c.log)/\wM c s i 0 x.log/\jl x.lost/\jl x.forbidden/\(0<x.lost->c.log<=x.log.length)/\
 (x.az.length:Int)=c.ag/\(x.aw.length:Int)=c.ag/\∀p∈x.az,p≠ -1->Fq c p i/\NU s p λz=>z.state≠5/\z.state≠6
def tc (l:bm):Prop:=l.values≠ []\/0<l.taken\/0<l.dropped
def sd (fl:Nat->Int->Prop) (x:au) (y:fq):Prop:=
 (0<=x.state/\x.state<=6)/\(0<=x.pc/\x.pc<=y.code.length)/\x.ak.length=c.labels.length+1/\(0<=x.aj/\x.aj<x.ak.length)/\
 (0<=x.timer/\x.timer<=s.tick+1099511627776)/\(0<=x.cJ/\x.cJ<=s.tick+1099511627776)/\(0<x.cJ↔x.state=4)/\
 (x.state=5\/x.state=6->x.timer=0/\x.bN=false)/\
 (∀(i:Nat) l,x.ak[i]? =some l->(l.values.length:Int)<=c.lane/\jl l.taken/\jl l.dropped/\(tc l->i<c.labels.length->fl i y.part))/\
 (x.state=1->(∃n,qc y x.pc=some n/\n.op=25)/\(∀l∈x.ak,l.values=[])/\x.bN=false)/\
 (x.state=2->∃n,qc y x.pc=some n/\n.op=24)/\(x.state=3->∃n,qc y x.pc=some n/\n.op=29)/\(x.state=4->∃n,qc y x.pc=some n/\n.op=28)
def Mm (p:Int) (q:au->cp->Prop):Prop:=∃x y n,s.procs[p.toNat]? =some x/\c.procs[p.toNat]? =some y/\qc y x.pc=some n/\q x n
def aaX (p v:Int) (r:Nat):Prop:=Mm c s p λx n=>x.state=2/\n.op=24/\x.br[n.b.toNat]? =some (r:Int)/\x.br[n.c.toNat]? =some v
def mh (p:Int) (x:dB):Nat:=(x.aw.map λq=>q.countP (λz=>decide (z=p))).sum
def uI (p:Int) (l:bm):Nat:=l.waiters.countP λw=>decide (w.proc=p)
def mg (p:Int) (x:au):Nat:=(x.ak.map (uI p)).sum
def KG :Prop:=
 (∀(i:Nat) x,s.parts[i]? =some x->∀(k:Nat) q,x.aw[k]? =some q->∀p∈q,Fq c p i/\(Mm c s p λz n=>z.state=3/\n.gW=(k:Int))/\∃o,x.az[k]? =some o/\0<=o/\o≠p)/\
 (∀(r:Nat) x y,s.procs[r]? =some x->c.procs[r]? =some y->∀(i:Nat) l,x.ak[i]? =some l->∀w∈l.waiters,(i:Int)=y.part/\Fq c w.proc i/\(x.state≠5/\x.state≠6)/\(l.values.length:Int)=c.lane/\aaX c s w.proc w.value r)/\
 (∀(p:Nat) x,s.procs[p]? =some x->(s.parts.map (mh (p:Int))).sum+(s.procs.map (mg (p:Int))).sum=if x.state=3\/x.state=2 then 1 else 0)
def aaZ :Prop:=(0<=s.tick/\s.tick<=4611686018427387904)/\s.parts.length=c.labels.length/\s.procs.length=c.procs.length
def uy (fl:Nat->Int->Prop):Prop:=
 aaZ c s/\(∀(i:Nat) x,s.parts[i]? =some x->FU c s i x)/\(∀(p:Nat) x y,s.procs[p]? =some x->c.procs[p]? =some y->sd c s fl x y)/\KG c s
end
theorem vC {b:Type} (f:b->Nat):∀(l:List b) (i:Nat),(∀j x,l[j]? =some x->j≠i->f x=0)->(l.map f).sum=((l[i]?).map f).getD 0
 | [],i,_=>by simp
 | x::r,0,h=>by
  have:(r.map f).sum=0:=by rw [List.sum_eq_zero_iff_forall_eq_nat];intro y d;obtain ⟨z,e,rfl⟩:=List.mem_map.1 d;obtain ⟨j,a⟩:=List.getElem?_of_mem e;exact h (j+1) z (by simpa using a) (by omega)
  simp [this]
 | x::r,i+1,h=>by have c:=h 0 x rfl (by omega);have:=vC f r i λj y a g=>h (j+1) y (by simpa using a) (by omega);simp [c,this]
end Lf
namespace Lf
open Go
structure MS where
 tick:Int
 part:Nat->dB
 proc:Nat->au
def MS.bd (s:MS) (p:Nat) (x:au):MS:=⟨s.tick,s.part,cg s.proc p x⟩
def MS.dZ (s:MS) (i:Nat) (x:dB):MS:=⟨s.tick,cg s.part i x,s.proc⟩
def aA (c:aI) (p:Nat):Nat:=((c.procs[p]?).map λy=>y.part.toNat).getD 0
def ji (c:aI) (p:Nat):List cp:=((c.procs[p]?).map λy=>y.code).getD []
def nP (c:aI):Nat:=c.labels.length
def nQ (c:aI):Nat:=c.procs.length
def MS.list (c:aI) (s:MS):gN:=⟨s.tick,(List.range (nP c)).map s.part,(List.range (nQ c)).map s.proc⟩
def gC (l:List cp) (pc:Int):Option cp:=if 0<=pc then l[pc.toNat]? else none
def jf (r:List Int) (i v:Int):List Int:=if 0<=i/\i<8 then r.set i.toNat v else r
def fi (r:List Int) (i:Int):Int:=r.getD i.toNat 0
structure Core where
 pc:Int
 br:List Int
def au.core (x:au):Core:=⟨x.pc,x.br⟩
def au.put (x:au) (k:Core):au:={x with pc:=k.pc,br:=k.br}
def fz (k:Core):Core:=⟨k.pc+1,k.br⟩
def jU (l:List cp) (k:Core) (v:Int):Core:=match gC l k.pc with
 | some n=>⟨k.pc+1,jf k.br n.a v⟩
 | none=>fz k
def gi (l:List cp) (k:Core) (v from_:Int):Core:=match gC l k.pc with
 | some n=>⟨k.pc+1,jf (jf k.br n.a v) n.b from_⟩
 | none=>fz k
structure Want where
 kind:Int
 to:Int
 value:Int
def kA (x:cp) (r:List Int):Option (Want×Bool):=
 if x.op=0 then some (⟨1,0,0⟩,true)
 else if x.op=24 then some (⟨2,fi r x.b,fi r x.c⟩,true)
 else if x.op=25 then some (⟨3,0,0⟩,true)
 else if x.op=26 then some (⟨4,0,0⟩,true)
 else if x.op=27 then some (⟨5,0,fi r x.a⟩,false)
 else if x.op=28 then some (⟨6,0,fi r x.a⟩,true)
 else if x.op=29 then some (⟨7,x.gW,0⟩,true)
 else if x.op=30 then some (⟨8,x.gW,0⟩,false)
 else if x.op=31 then some (⟨9,0,fi r x.a⟩,false)
 else none
def rG (D:Int->Int->Int->Int) (x:cp) (k:Core) (tick d:Int):Core:=
 if x.op=1 then ⟨k.pc+1,jf k.br x.a x.gW⟩
 else if x.op=2 then ⟨k.pc+1,jf k.br x.a (fi k.br x.b)⟩
 else if x.op=32 then ⟨k.pc+1,jf k.br x.a tick⟩
 else if x.op=33 then ⟨k.pc+1,jf k.br x.a d⟩
 else if x.op=22 then ⟨x.gW,k.br⟩
 else if x.op=23 then if fi k.br x.a=0 then fz k else ⟨x.gW,k.br⟩
 else ⟨k.pc+1,jf k.br x.a (D x.op (fi k.br x.b) (fi k.br x.c))⟩
def jw (D:Int->Int->Int->Int) (l:List cp) (k:Core) (tick self:Int):Core×Want:=match gC l k.pc with
 | none=>(k,⟨1,0,0⟩)
 | some x=>if (gG x l.length 8).1≠0 then (k,⟨1,0,0⟩) else match kA x k.br with
  | some (w,a)=>(if a then k else fz k,w)
  | none=>(rG D x k tick self,⟨0,0,0⟩)
section
variable (c:aI) (D:Int->Int->Int->Int) (fl:Nat->Nat->Bool)
def more (n:Int):Int:=if n+1<=65535 then n+1 else 65535
def jF (x:au):Bool:=decide (x.state≠5)&&decide (x.state≠6)
def uR (x:au) (k:Core):au:={x with state:=0,pc:=k.pc,br:=k.br}
def oH (s:MS) (p:Nat):MS:=s.bd p (uR (s.proc p) (fz (s.proc p).core))
def jj (s:MS) (kf:Int):MS:=if 0<=kf then oH s kf.toNat else s
def cf (s:MS) (p:Nat) (v:Int):MS:=s.bd p (uR (s.proc p) (jU (ji c p) (s.proc p).core v))
def ed (x:au):au:={x with state:=if x.state=1 then 0 else x.state}
def bE (x:au) (i:Nat) (f:bm->bm):au:={x with ak:=x.ak.modify i f}
def uT (v:Int) (l:bm):bm:={l with values:=l.values++ [v]}
def lf (l:bm):bm:={l with dropped:=more l.dropped}
def gZ (p v:Int) (l:bm):bm:={l with waiters:=l.waiters++ [⟨p,v⟩]}
def fy (x:au) (i:Nat):Bool:=match x.ak[i]? with
 | some l=>decide (c.lane<=(l.values.length:Int))
 | none=>true
def lj (s:MS) (p:Nat) (to v:Int):MS:=
 if to<0\/(nQ c:Int)<=to then cf c s p 1
 else if fl (aA c p) (aA c to.toNat)=false then cf c (s.dZ (aA c p) {s.part (aA c p) with forbidden:=more (s.part (aA c p)).forbidden}) p 0
 else if aA c p=aA c to.toNat then
  if jF (s.proc to.toNat)=false then cf c s p 2
  else if fy c (s.proc to.toNat) (aA c p) then
   let s1:=s.bd to.toNat (bE (s.proc to.toNat) (aA c p) (gZ p v))
   s1.bd p {s1.proc p with state:=2}
  else cf c (s.bd to.toNat (ed (bE (s.proc to.toNat) (aA c p) (uT v)))) p 0
 else if jF (s.proc to.toNat)=false\/fy c (s.proc to.toNat) (aA c p) then cf c (s.bd to.toNat (bE (s.proc to.toNat) (aA c p) lf)) p 0
 else cf c (s.bd to.toNat (ed (bE (s.proc to.toNat) (aA c p) (uT v)))) p 0
def nV (aj:Int) (l:List bm):Option Nat:=
 ((List.range l.length).map λk=>(aj.toNat+k)%l.length).find? λi=>match l[i]? with
  | some x=> !x.values.isEmpty
  | none=>false
def dw (l:bm):bm:=match l.waiters with
 | []=>{l with values:=l.values.tail,taken:=more l.taken}
 | w::r=>{l with values:=l.values.tail++ [w.value],waiters:=r,taken:=more l.taken}
def kz (s:MS) (p:Nat) (a:Bool):MS:=
 let x:=s.proc p
 match nV x.aj x.ak with
 | some i=>
  let l:=x.ak.getD i ⟨[],[],0,0⟩;let b:={bE x i dw with aj:=((i+1:Nat):Int)%(x.ak.length:Int)};let s1:=s.bd p (b.put (gi (ji c p) x.core (l.values.headD 0) i))
  match l.waiters with
  | []=>s1
  | w::_=>cf c s1 w.proc.toNat 0
 | none=>
  if x.bN then s.bd p {x.put (gi (ji c p) x.core 0 (-2)) with bN:=false}
  else if a then s.bd p (x.put (gi (ji c p) x.core 0 (-1)))
  else s.bd p {x with state:=1}
def gP {b:Type} (f:b->Bool):List b->List b
 | []=> []
 | a::l=>if f a then l else a::gP f l
def qQ (p:Int) (x:au):au:={x with ak:=x.ak.map λl=>{l with waiters:=gP (λw=>decide (w.proc=p)) l.waiters}}
def iR (p:Int):List Int->List (List Int)->List Int×List (List Int)×List Int
 | o::os,q::qs=>
  let r:=iR p os qs
  if o=p then match q with
   | []=>(-1::r.1,[]::r.2.1, -1::r.2.2)
   | a::b=>(a::r.1,b::r.2.1,a::r.2.2)
  else (o::r.1,q::r.2.1,r.2.2)
 | os,qs=>(os,qs,[])
def yp (p:Int) (x:dB):dB×List Int:=
 let r:=iR p x.az (x.aw.map (gP λz=>decide (z=p)))
 ({x with az:=r.1,aw:=r.2.1},r.2.2)
def nL (s:MS) (p:Nat) (st:Int):MS:=
 let i:=aA c p;let s1:=s.bd p {s.proc p with state:=st,bN:=false};let s2:MS:=⟨s1.tick,s1.part,λq=>if q<nQ c/\aA c q=i then qQ p (s1.proc q) else s1.proc q⟩;let r:=yp p (s2.part i);let b:=r.2.foldl jj (s2.dZ i r.1);let a:=b.bd p {b.proc p with timer:=0,cJ:=0};let d:=(a.proc p).ak.flatMap (·.waiters)
 d.foldl (λs w=>cf c s w.proc.toNat 2) (a.bd p {a.proc p with ak:=(a.proc p).ak.map λl=>{l with waiters:=[]}})
def tq (s:MS) (p:Nat) (v:Int):MS:=
 let x:=s.part (aA c p)
 s.dZ (aA c p) (if (x.log.length:Int)<c.log then {x with log:=x.log++ [⟨s.tick,p,v⟩]} else {x with lost:=more x.lost})
def jO (s:MS) (p:Nat) (n:Int):MS:=
 let x:=s.part (aA c p);let o:=x.az.getD n.toNat 0
 if o= -1\/o=p then goK (s.dZ (aA c p) {x with az:=x.az.set n.toNat p}) p
 else (s.dZ (aA c p) {x with aw:=x.aw.modify n.toNat (· ++ [(p:Int)])}).bd p {s.proc p with state:=3}
where
 goK (s:MS) (p:Nat):MS:=s.bd p ((s.proc p).put (fz (s.proc p).core))
def yR (s:MS) (p:Nat) (n:Int):MS:=
 let x:=s.part (aA c p)
 if x.az.getD n.toNat (-1)=p then match x.aw.getD n.toNat [] with
  | []=>s.dZ (aA c p) {x with az:=x.az.set n.toNat (-1)}
  | a::r=>jj (s.dZ (aA c p) {x with az:=x.az.set n.toNat a,aw:=x.aw.set n.toNat r}) a
 else s
def pC (a b:Int):Int:=if a<=b then a else b
def uX (a b:Int):Int:=if a<=b then b else a
def wT (s:MS) (p:Nat):MS:=
 let r:=jw D (ji c p) (s.proc p).core s.tick p;let s1:=s.bd p ((s.proc p).put r.1);let w:=r.2
 if w.kind=1 then nL c s1 p 5
 else if w.kind=2 then lj c fl s1 p w.to w.value
 else if w.kind=3 then kz c s1 p false
 else if w.kind=4 then kz c s1 p true
 else if w.kind=5 then s1.bd p {s1.proc p with bN:=false,timer:=if 0<w.value then s.tick+pC w.value 1099511627776 else 0}
 else if w.kind=6 then s1.bd p {s1.proc p with state:=4,cJ:=s.tick+pC (uX w.value 1) 1099511627776}
 else if w.kind=7 then jO c s1 p w.to
 else if w.kind=8 then yR c s1 p w.to
 else if w.kind=9 then tq c s1 p w.value
 else s1
def mi (t:Int) (x:au):au:=
 let y:au:=if 0<x.cJ/\x.cJ<=t then {x with cJ:=0,state:=0,pc:=x.pc+1} else x
 if 0<y.timer/\y.timer<=t then {y with timer:=0,bN:=true,state:=if y.state=1 then 0 else y.state} else y
def iZ (s:MS) (i:Nat):MS:=⟨s.tick,s.part,λq=>if q<nQ c/\aA c q=i then mi s.tick (s.proc q) else s.proc q⟩
def dS (i:Nat):List Nat:=(List.range (nQ c)).filter λq=>decide (aA c q=i)
def jv (s:MS) (i:Nat):Option Nat:=
 ((List.range (dS c i).length).map λk=>((s.part i).aj.toNat+k)%(dS c i).length).find? λa=>decide ((s.proc ((dS c i).getD a 0)).state=0)
def lu (s:MS) (i a:Nat):MS:=wT c D fl (s.dZ i {s.part i with aj:=((a+1:Nat):Int)%((dS c i).length:Int)}) ((dS c i).getD a 0)
def nC (i:Nat):Nat->MS->MS
 | 0,s=>s
 | n+1,s=>match jv c s i with
  | none=>s
  | some a=>nC i n (lu c D fl s i a)
def jk (t:Int):Nat:=(c.table.getD (t.toNat%c.table.length) 0).toNat
def lq (s:MS):MS:=
 let s1:=nC c D fl (jk c s.tick) c.fuel.toNat (iZ c s (jk c s.tick))
 ⟨s1.tick+1,s1.part,s1.proc⟩
def tY (s:MS) (p:Int):Int:=if p<0\/(nQ c:Int)<=p then 17 else if jF (s.proc p.toNat)=false then 18 else 0
def uj (s:MS) (p v:Int):MS×Int:=
 if tY c s p≠0 then (s,tY c s p)
 else if fy c (s.proc p.toNat) (nP c) then (s.bd p.toNat (bE (s.proc p.toNat) (nP c) lf),19)
 else (s.bd p.toNat (ed (bE (s.proc p.toNat) (nP c) (uT v))),0)
def gX (s:MS) (p:Int):MS×Int:=
 if tY c s p≠0 then (s,tY c s p) else (nL c s p.toNat 6,0)
def rT :MS:=⟨0,λ_=>⟨0,[],0,0,List.replicate c.ag.toNat (-1),List.replicate c.ag.toNat []⟩,
 λ_=>⟨0,0,List.replicate 8 0,0,0,false,0,List.replicate (nP c+1) ⟨[],[],0,0⟩⟩⟩
end
section
variable {P:Program} {α:Type} {h0 k:Hp} {sz:Nat} {enc:α->List Value} {s:Sl} {xs:List α}
theorem LU {g q bytes:Nat} {zero:List Value} {x y:Operand} {Q:Sl->Hp->Prop} (m:P.underlying g=some (.slice q)) (r:Rw k sz enc s xs) (w:0<sz) (d:∀x,(enc x).length=sz) (l:∀x,hH (enc x)=true) (p:zero.length=sz)
  (hb:xs.length<=140737488355328/\xs.length*bytes<=140737488355328) (f:∀c b,k<=b->Has k (dK sz enc c xs) b->Q c b):
  iC none P (cX .eql g x y s.v (.slice none 0 0)) bB k λx=>(if x=true then Q ⟨none,0,0⟩ k else bc [] (λa h=>eS sz bytes zero ⟨(some a),0,0⟩ s (λr i=>Q r i) h) k):=by
 refine ⟨s.base.isNone,Nu m s,?_⟩;cases u:s.base with
 | none=>
  rw [if_pos (show (none:Option Addr).isNone=true from rfl)];have:xs=[]:=by
   rcases r.2.2 with e | ⟨a,t,_⟩
   ·exact List.length_eq_zero_iff.1 ((Nat.mul_eq_zero.1 e).resolve_right (by omega))
   grind
  subst this;exact f _ k (Hp.le_refl k) (Has.km (Hp.le_refl k))
 | some a=>rw [if_neg (by simp)];refine ju (xs:=([]:List α)) (enc:=enc) (sz:=sz) rfl d λa z j n=> ?_;refine n.app (Rw.mono j r) d l p (by simpa using hb) λc b o=> ?_;exact f c b o.le (by simpa using o)
def ia (f:α->Bool) (xs:List α):Int:=match xs.findIdx? f with
 | some i=>i
 | none=> -1
theorem Ca (f:α->Bool):∀xs:List α,gP f xs=if 0<=ia f xs then xs.take (ia f xs).toNat++xs.drop ((ia f xs).toNat+1) else xs
 | []=>by simp [gP,ia]
 | a::l=>by
  unfold gP;by_cases h:f a=true
  ·have:ia f (a::l)=0:=by unfold ia;grind
   rw [if_pos h,this];simp
  ·have b:=Ca f l;rw [if_neg h,b];unfold ia;grind
theorem JA {f:α->Bool} {xs:List α} (h:0<=ia f xs):ia f xs<xs.length:=by
 unfold ia at*;cases e:xs.findIdx? f with
 | none=>grind
 | some i=>have:=(List.findIdx?_eq_some_iff_getElem.1 e).1;grind
theorem JB {f:α->Bool} {xs:List α} {t:Nat} {x:α} (c:xs[t]? =some x) (a:f x=true) (b:∀(j:Nat) y,j<t->xs[j]? =some y->f y=false):ia f xs=t:=by
 have:xs.findIdx? f=some t:=by rw [List.findIdx?_eq_some_iff_getElem];grind
 unfold ia;rw [this]
theorem xW {f:α->Bool} {xs:List α} (a:∀x∈xs,f x=false):ia f xs= -1:=by have:xs.findIdx? f=none:=List.findIdx?_eq_none_iff.2 a;unfold ia;rw [this]
theorem Has.Gy {bytes r G:Nat} {z:Value} {i j:Nat} {Q:Sl->Hp->Prop} (ht:P.underlying r=some (.slice G)) (b0:∀ {K:Value->Hp->Prop} {h:Hp},K z h->cP P (zeroValue G) K h) (e:∀x,(enc x).length=sz) (X:∀x,hH (enc x)=true) (hz:(bg z).length=sz) (a9:∀n,hH (fk (bg z) n)=true)
  (o:Has h0 (dK sz enc s xs) k) (b6:i<j) (T:j<=xs.length) (hb:xs.length<=140737488355328/\xs.length*bytes<=140737488355328)
  (Y:∀C A,Has h0 (dK sz enc C (xs.take i++xs.drop j)) A->Q C A):wS P sz bytes (bg z) r s (i:Int) (j:Int) Q k:=by
 obtain ⟨U,F,⟨hs,c0,L⟩,v⟩:=o;unfold wS;have it:(i:Int).toNat=i:=by omega
 have jt:(j:Int).toNat=j:=by omega
 have st:(s.len:Int).toNat=xs.length:=by omega
 rw [it,jt,st];refine ⟨by omega,aU ?_⟩;rw [if_neg (show ¬(((i:Int)==(j:Int))=true) by simp;omega)];have l:∀a b:Nat,a<=b->a*sz<=b*sz:=λa b M=>Nat.mul_le_mul_right sz M;have a8:((xs.take i).flatMap enc).length=i*sz:=by rw [iH e,List.length_take];congr 1;omega
 have tl:((xs.drop j).flatMap enc).length=(xs.length-j)*sz:=by rw [iH e,List.length_drop]
 rcases L with ⟨D,oc,_⟩ | ⟨b,off,d,D,u,q,b4,f⟩
 ·omega
 rw [D];rw [hs] at f;have hn:h0 b=none:=v b ((u b).2 rfl);have b5:off+xs.length*sz<=d.length:=by grind
 have N:aW (some (⟨b,off,none⟩:Addr)) sz 0 s.cap=some ⟨b,off,none⟩:=by rw [tL (by omega)];simp
 have b7:=l i xs.length (by omega);have b8:=l j xs.length T;have c3:xs.length*sz=j*sz+(xs.length-j)*sz:=by rw [<-Nat.add_mul];congr 1;omega
 have c2:i*sz<=j*sz:=l _ _ (by omega);have c1:(d.drop off).take (i*sz)=(xs.take i).flatMap enc:=by rw [Bd e,<-f,List.take_take];congr 1;omega
 have b2:nX k (some ⟨b,off,none⟩) ((i-0)*sz) ((xs.take i).flatMap enc):=q.rd a8 (by omega);have b1:nX k (aW (some (⟨b,off,none⟩:Addr)) sz j s.cap) ((xs.length-j)*sz) ((xs.drop j).flatMap enc):=by
  by_cases R:s.cap=j
  ·refine ⟨tl,.inl ?_⟩;grind
  ·rw [tL R];refine q.rd tl ?_;rw [yn e,<-f,List.drop_take,List.drop_drop];grind
 refine ⟨by omega,aU ⟨by omega,aU ?_⟩⟩;rw [N];have V:i-0+(xs.length-j)<=xs.length:=by omega
 have b3:(i-0+(xs.length-j))*bytes<=xs.length*bytes:=Nat.mul_le_mul_right _ V;have y:(⟨aW (some (⟨b,off,none⟩:Addr)) sz j s.cap,s.len-j,s.cap-j⟩:Sl).len=xs.length-j:=by grind
 have g:i-0=i:=by omega
 refine KF (n:=xs.length-j) q b2 (by rw [y];exact b1) y (rE X _) ⟨by omega,by omega⟩ (by omega) (by
  grind) λJ m1 B=> ?_
 rw [g] at B;show ((0:Int)<=((i-0+(xs.length-j):Nat):Int)/\((i-0+(xs.length-j):Nat):Int)<=(s.len:Int)/\(s.len:Int)<=((s.cap-0:Nat):Int))/\aJ (α:=Sl) ⟨aW (some ⟨b,off,none⟩) sz (((i-0+(xs.length-j):Nat):Int)).toNat (s.cap-0),xs.length-(((i-0+(xs.length-j):Nat):Int)).toNat,s.cap-0-(((i-0+(xs.length-j):Nat):Int)).toNat⟩ _;refine ⟨by omega,aU ?_⟩;have W:(((i-0+(xs.length-j):Nat):Int)).toNat=i+(xs.length-j):=by omega
 have O:s.cap-0=s.cap:=by omega
 rw [W,O,tL (show s.cap≠i+(xs.length-j) by omega)];have S:xs.length-(i+(xs.length-j))=j-i:=by omega
 have p:(i+(xs.length-j))*sz=i*sz+(xs.length-j)*sz:=Nat.add_mul _ _ _;have w:(d.take (off+i*sz)++(xs.drop j).flatMap enc++d.drop (off+i*sz+(xs.length-j)*sz)).length=d.length:=by grind
 show lT P (Builtin.clear_ #[r] 0 #[.slice (some ⟨b,off+(i+(xs.length-j))*sz,none⟩) (xs.length-(i+(xs.length-j))) (s.cap-(i+(xs.length-j)))]) sW _ J;rw [S];have b9:i*sz+(j-i)*sz=j*sz:=by rw [<-Nat.add_mul];congr 1;omega
 refine LS ht b0 a9 B (by
  grind) λh2 m2 k2=> ?_
 have Z:(xs.take i++xs.drop j).length=i+(xs.length-j):=by simp;omega
 have m:=m1.trans m2;refine Y _ _ ⟨λc E I=>m.bq c E (U c E I) (λhc=>(by grind)),F,⟨?_,?_,.inr ⟨b,off,_,rfl,u,k2,?_,?_⟩⟩,v⟩
 ·rw [Z,g]
 ·grind
 ·simp only [List.length_append,List.length_take,List.length_drop,w,yh,hz];omega
 ·show List.take ((i-0+(xs.length-j))*sz) _=_;have t1:((d.take (off+i*sz)).drop off)=(xs.take i).flatMap enc:=by grind
  have t:i*sz+(xs.length-j)*sz=((xs.take i).flatMap enc++(xs.drop j).flatMap enc).length:=by grind
  have H:List.drop off (List.take (off+(i+(xs.length-j))*sz) (d.take (off+i*sz)++(xs.drop j).flatMap enc++d.drop (off+i*sz+(xs.length-j)*sz)))=(xs.take i).flatMap enc++(xs.drop j).flatMap enc:=by rw [List.drop_take,show off+(i+(xs.length-j))*sz-off=i*sz+(xs.length-j)*sz by rw [p];omega,List.append_assoc,List.drop_append_of_le_length (by grind),t1,<-List.append_assoc,t,List.take_left]
  rw [g,List.append_assoc,List.drop_append_of_le_length (by rw [List.length_take,w,p];omega),H,p,t,List.flatMap_append,List.take_left]
end
structure al where
 aE:Sl
 Table:Sl
 Fuel:Int
 gz:Int
 bG:Int
 Log:Int
 aQ:Sl
def al.v (x:al):Value:=.agg #[.slice x.aE.base x.aE.len x.aE.cap,.slice x.Table.base x.Table.len x.Table.cap,.int .i64 x.Fuel,.int .i64 x.gz,.int .i64 x.bG,.int .i64 x.Log,.slice x.aQ.base x.aQ.len x.aQ.cap]
@[reducible] def aO : Shape where
 T:=al
 enc:=λx=>.agg #[.slice x.aE.base x.aE.len x.aE.cap,.slice x.Table.base x.Table.len x.Table.cap,.int .i64 x.Fuel,.int .i64 x.gz,.int .i64 x.bG,.int .i64 x.Log,.slice x.aQ.base x.aQ.len x.aQ.cap]
 dec:=λv=>match v with
  | .agg ⟨[.slice a0 a d,.slice a1 b e,.int .i64 a2,.int .i64 a3,.int .i64 a4,.int .i64 a5,.slice a6 c f]⟩=>some ⟨⟨a0,a,d⟩,⟨a1,b,e⟩,a2,a3,a4,a5,⟨a6,c,f⟩⟩
  | _=>none
 ok:=by intro v x h;split at h<;>cases h;rfl
structure cI where
 Kind:Int
 N:Int
 V:Int
def cI.v (x:cI):Value:=.agg #[.int .i64 x.Kind,.int .i64 x.N,.int .i64 x.V]
@[reducible] def dJ : Shape where
 T:=cI
 enc:=λx=>.agg #[.int .i64 x.Kind,.int .i64 x.N,.int .i64 x.V]
 dec:=λv=>match v with
  | .agg ⟨[.int .i64 a0,.int .i64 a1,.int .i64 a2]⟩=>some ⟨a0,a1,a2⟩
  | _=>none
 ok:=by intro v x h;split at h<;>cases h;rfl
structure eC where
 E:Int
 gO:Int
 rZ:Int
def eC.v (x:eC):Value:=.agg #[.int .i64 x.E,.int .i64 x.gO,.int .i64 x.rZ]
@[reducible] def Fz : Shape where
 T:=eC
 enc:=λx=>.agg #[.int .i64 x.E,.int .i64 x.gO,.int .i64 x.rZ]
 dec:=λv=>match v with
  | .agg ⟨[.int .i64 a0,.int .i64 a1,.int .i64 a2]⟩=>some ⟨a0,a1,a2⟩
  | _=>none
 ok:=by intro v x h;split at h<;>cases h;rfl
structure aL where
 Op:Int
 A:Int
 B:Int
 C:Int
 jm:Int
def aL.v (x:aL):Value:=.agg #[.int .i64 x.Op,.int .i64 x.A,.int .i64 x.B,.int .i64 x.C,.int .i64 x.jm]
@[reducible] def aM : Shape where
 T:=aL
 enc:=λx=>.agg #[.int .i64 x.Op,.int .i64 x.A,.int .i64 x.B,.int .i64 x.C,.int .i64 x.jm]
 dec:=λv=>match v with
  | .agg ⟨[.int .i64 a0,.int .i64 a1,.int .i64 a2,.int .i64 a3,.int .i64 a4]⟩=>some ⟨a0,a1,a2,a3,a4⟩
  | _=>none
 ok:=by intro v x h;split at h<;>cases h;rfl
structure bK where
 Part:Int
 Code:Sl
def bK.v (x:bK):Value:=.agg #[.int .i64 x.Part,.slice x.Code.base x.Code.len x.Code.cap]
@[reducible] def bC : Shape where
 T:=bK
 enc:=λx=>.agg #[.int .i64 x.Part,.slice x.Code.base x.Code.len x.Code.cap]
 dec:=λv=>match v with
  | .agg ⟨[.int .i64 a0,.slice a1 a b]⟩=>some ⟨a0,⟨a1,a,b⟩⟩
  | _=>none
 ok:=by intro v x h;split at h<;>cases h;rfl
structure iW where
 iI:Sl
 jX:Sl
 uo:Int
 uq:Int
 rV:Int
 yZ:Int
 jW:Sl
 iJ:Sl
 jZ:Sl
 ur:Int
 uu:Int
 rW:Int
 y8:Int
 jY:Sl
 S:Sl
 T:Sl
 Label:Int
def iW.v (x:iW):Value:=.agg #[.slice x.iI.base x.iI.len x.iI.cap,.slice x.jX.base x.jX.len x.jX.cap,.int .i64 x.uo,.int .i64 x.uq,.int .i64 x.rV,.int .i64 x.yZ,.slice x.jW.base x.jW.len x.jW.cap,.slice x.iJ.base x.iJ.len x.iJ.cap,.slice x.jZ.base x.jZ.len x.jZ.cap,.int .i64 x.ur,.int .i64 x.uu,.int .i64 x.rW,.int .i64 x.y8,.slice x.jY.base x.jY.len x.jY.cap,.slice x.S.base x.S.len x.S.cap,.slice x.T.base x.T.len x.T.cap,.int .u64 x.Label]
@[reducible] def aax : Shape where
 T:=iW
 enc:=λx=>.agg #[.slice x.iI.base x.iI.len x.iI.cap,.slice x.jX.base x.jX.len x.jX.cap,.int .i64 x.uo,.int .i64 x.uq,.int .i64 x.rV,.int .i64 x.yZ,.slice x.jW.base x.jW.len x.jW.cap,.slice x.iJ.base x.iJ.len x.iJ.cap,.slice x.jZ.base x.jZ.len x.jZ.cap,.int .i64 x.ur,.int .i64 x.uu,.int .i64 x.rW,.int .i64 x.y8,.slice x.jY.base x.jY.len x.jY.cap,.slice x.S.base x.S.len x.S.cap,.slice x.T.base x.T.len x.T.cap,.int .u64 x.Label]
 dec:=λv=>match v with
  | .agg ⟨[.slice a0 k s,.slice a1 l t,.int .i64 a2,.int .i64 a3,.int .i64 a4,.int .i64 a5,.slice a6 p z,.slice a7 q A,.slice i r B,.int .i64 j,.int .i64 a,.int .i64 b,.int .i64 c,.slice d m u,.slice e n w,.slice f o y,.int .u64 g]⟩=>some ⟨⟨a0,k,s⟩,⟨a1,l,t⟩,a2,a3,a4,a5,⟨a6,p,z⟩,⟨a7,q,A⟩,⟨i,r,B⟩,j,a,b,c,⟨d,m,u⟩,⟨e,n,w⟩,⟨f,o,y⟩,g⟩
  | _=>none
 ok:=by intro v x h;split at h<;>cases h;rfl
structure aZ where
 gO:Int
 eo:Sl
 aQ:Sl
def aZ.v (x:aZ):Value:=.agg #[.int .i64 x.gO,.slice x.eo.base x.eo.len x.eo.cap,.slice x.aQ.base x.aQ.len x.aQ.cap]
@[reducible] def A9 : Shape where
 T:=aZ
 enc:=λx=>.agg #[.int .i64 x.gO,.slice x.eo.base x.eo.len x.eo.cap,.slice x.aQ.base x.aQ.len x.aQ.cap]
 dec:=λv=>match v with
  | .agg ⟨[.int .i64 a0,.slice a1 a c,.slice a2 b d]⟩=>some ⟨a0,⟨a1,a,c⟩,⟨a2,b,d⟩⟩
  | _=>none
 ok:=by intro v x h;split at h<;>cases h;rfl
structure gV where
 a0:Int
 a1:Int
 a2:Int
 a3:Int
 a4:Int
 a5:Int
 a6:Int
 a7:Int
def gV.v (x:gV):Value:=.agg #[.int .i64 x.a0,.int .i64 x.a1,.int .i64 x.a2,.int .i64 x.a3,.int .i64 x.a4,.int .i64 x.a5,.int .i64 x.a6,.int .i64 x.a7]
@[reducible] def wA : Shape where
 T:=gV
 enc:=λx=>.agg #[.int .i64 x.a0,.int .i64 x.a1,.int .i64 x.a2,.int .i64 x.a3,.int .i64 x.a4,.int .i64 x.a5,.int .i64 x.a6,.int .i64 x.a7]
 dec:=λv=>match v with
  | .agg ⟨[.int .i64 a0,.int .i64 a1,.int .i64 a2,.int .i64 a3,.int .i64 a4,.int .i64 a5,.int .i64 a6,.int .i64 a7]⟩=>some ⟨a0,a1,a2,a3,a4,a5,a6,a7⟩
  | _=>none
 ok:=by intro v x h;split at h<;>cases h;rfl
structure bR where
 State:Int
 PC:Int
 cv:Int
 cw:Int
 cx:Int
 cC:Int
 cD:Int
 cE:Int
 cF:Int
 cG:Int
 Cursor:Int
 Timer:Int
 kP:Bool
 pT:Int
 jH:Sl
def bR.v (x:bR):Value:=.agg #[.int .i64 x.State,.int .i64 x.PC,.int .i64 x.cv,.int .i64 x.cw,.int .i64 x.cx,.int .i64 x.cC,.int .i64 x.cD,.int .i64 x.cE,.int .i64 x.cF,.int .i64 x.cG,.int .i64 x.Cursor,.int .i64 x.Timer,.bool x.kP,.int .i64 x.pT,.slice x.jH.base x.jH.len x.jH.cap]
@[reducible] def cO : Shape where
 T:=bR
 enc:=λx=>.agg #[.int .i64 x.State,.int .i64 x.PC,.int .i64 x.cv,.int .i64 x.cw,.int .i64 x.cx,.int .i64 x.cC,.int .i64 x.cD,.int .i64 x.cE,.int .i64 x.cF,.int .i64 x.cG,.int .i64 x.Cursor,.int .i64 x.Timer,.bool x.kP,.int .i64 x.pT,.slice x.jH.base x.jH.len x.jH.cap]
 dec:=λv=>match v with
  | .agg ⟨[.int .i64 a0,.int .i64 a1,.int .i64 a2,.int .i64 a3,.int .i64 a4,.int .i64 a5,.int .i64 a6,.int .i64 a7,.int .i64 f,.int .i64 g,.int .i64 a,.int .i64 b,.bool c,.int .i64 d,.slice e i j]⟩=>some ⟨a0,a1,a2,a3,a4,a5,a6,a7,f,g,a,b,c,d,⟨e,i,j⟩⟩
  | _=>none
 ok:=by intro v x h;split at h<;>cases h;rfl
structure fG where
 m:Option Addr
 ticks:Int
 owner:Int
def fG.v (x:fG):Value:=.agg #[.pointer x.m,.int .i64 x.ticks,.int .i64 x.owner]
@[reducible] def FI : Shape where
 T:=fG
 enc:=λx=>.agg #[.pointer x.m,.int .i64 x.ticks,.int .i64 x.owner]
 dec:=λv=>match v with
  | .agg ⟨[.pointer a0,.int .i64 a1,.int .i64 a2]⟩=>some ⟨a0,a1,a2⟩
  | _=>none
 ok:=by intro v x h;split at h<;>cases h;rfl
structure dT where
 B:Sl
 At:Int
 E:Int
 P_:Int
def dT.v (x:dT):Value:=.agg #[.slice x.B.base x.B.len x.B.cap,.int .i64 x.At,.int .i64 x.E,.int .i64 x.P_]
@[reducible] def zuz : Shape where
 T:=dT
 enc:=λx=>.agg #[.slice x.B.base x.B.len x.B.cap,.int .i64 x.At,.int .i64 x.E,.int .i64 x.P_]
 dec:=λv=>match v with
  | .agg ⟨[.slice a0 a b,.int .i64 a1,.int .i64 a2,.int .i64 a3]⟩=>some ⟨⟨a0,a,b⟩,a1,a2,a3⟩
  | _=>none
 ok:=by intro v x h;split at h<;>cases h;rfl
structure jK where
 m:Option Addr
 l:Sl
 at_:Int
 left:Int
 ticks:Int
 owner:Int
def jK.v (x:jK):Value:=.agg #[.pointer x.m,.slice x.l.base x.l.len x.l.cap,.int .i64 x.at_,.int .i64 x.left,.int .i64 x.ticks,.int .i64 x.owner]
@[reducible] def ab5 : Shape where
 T:=jK
 enc:=λx=>.agg #[.pointer x.m,.slice x.l.base x.l.len x.l.cap,.int .i64 x.at_,.int .i64 x.left,.int .i64 x.ticks,.int .i64 x.owner]
 dec:=λv=>match v with
  | .agg ⟨[.pointer a0,.slice a1 a b,.int .i64 a2,.int .i64 a3,.int .i64 a4,.int .i64 a5]⟩=>some ⟨a0,⟨a1,a,b⟩,a2,a3,a4,a5⟩
  | _=>none
 ok:=by intro v x h;split at h<;>cases h;rfl
structure iy where
 b:Sl
 at_:Int
 e:Int
 place:Int
def iy.v (x:iy):Value:=.agg #[.slice x.b.base x.b.len x.b.cap,.int .i64 x.at_,.int .i64 x.e,.int .i64 x.place]
@[reducible] def YI : Shape where
 T:=iy
 enc:=λx=>.agg #[.slice x.b.base x.b.len x.b.cap,.int .i64 x.at_,.int .i64 x.e,.int .i64 x.place]
 dec:=λv=>match v with
  | .agg ⟨[.slice a0 a c,.int .i64 a1,.int .i64 a2,.int .i64 a3]⟩=>some ⟨⟨a0,a,c⟩,a1,a2,a3⟩
  | _=>none
 ok:=by intro v x h;split at h<;>cases h;rfl
structure cU where
 Cursor:Int
 Log:Sl
 pP:Int
 fE:Int
 eA:Sl
 gl:Sl
def cU.v (x:cU):Value:=.agg #[.int .i64 x.Cursor,.slice x.Log.base x.Log.len x.Log.cap,.int .i64 x.pP,.int .i64 x.fE,.slice x.eA.base x.eA.len x.eA.cap,.slice x.gl.base x.gl.len x.gl.cap]
@[reducible] def dI : Shape where
 T:=cU
 enc:=λx=>.agg #[.int .i64 x.Cursor,.slice x.Log.base x.Log.len x.Log.cap,.int .i64 x.pP,.int .i64 x.fE,.slice x.eA.base x.eA.len x.eA.cap,.slice x.gl.base x.gl.len x.gl.cap]
 dec:=λv=>match v with
  | .agg ⟨[.int .i64 a0,.slice a1 a d,.int .i64 a2,.int .i64 a3,.slice a4 b e,.slice a5 c f]⟩=>some ⟨a0,⟨a1,a,d⟩,a2,a3,⟨a4,b,e⟩,⟨a5,c,f⟩⟩
  | _=>none
 ok:=by intro v x h;split at h<;>cases h;rfl
structure aT where
 gA:Sl
 ik:Sl
 lI:Int
 pk:Int
 my:Int
 om:Int
 gx:Sl
 table:Option Addr
 qq:Option Addr
 tick:Int
 parts:Sl
 procs:Sl
def aT.v (x:aT):Value:=.agg #[.slice x.gA.base x.gA.len x.gA.cap,.slice x.ik.base x.ik.len x.ik.cap,.int .i64 x.lI,.int .i64 x.pk,.int .i64 x.my,.int .i64 x.om,.slice x.gx.base x.gx.len x.gx.cap,.pointer x.table,.pointer x.qq,.int .i64 x.tick,.slice x.parts.base x.parts.len x.parts.cap,.slice x.procs.base x.procs.len x.procs.cap]
@[reducible] def H5 : Shape where
 T:=aT
 enc:=λx=>.agg #[.slice x.gA.base x.gA.len x.gA.cap,.slice x.ik.base x.ik.len x.ik.cap,.int .i64 x.lI,.int .i64 x.pk,.int .i64 x.my,.int .i64 x.om,.slice x.gx.base x.gx.len x.gx.cap,.pointer x.table,.pointer x.qq,.int .i64 x.tick,.slice x.parts.base x.parts.len x.parts.cap,.slice x.procs.base x.procs.len x.procs.cap]
 dec:=λv=>match v with
  | .agg ⟨[.slice a0 e k,.slice a1 f l,.int .i64 a2,.int .i64 a3,.int .i64 a4,.int .i64 a5,.slice a6 j o,.pointer a7,.pointer c,.int .i64 d,.slice a g m,.slice b i n]⟩=>some ⟨⟨a0,e,k⟩,⟨a1,f,l⟩,a2,a3,a4,a5,⟨a6,j,o⟩,a7,c,d,⟨a,g,m⟩,⟨b,i,n⟩⟩
  | _=>none
 ok:=by intro v x h;split at h<;>cases h;rfl
structure be where
 procs:Sl
 aj:Int
 log:Sl
 lost:Int
 forbidden:Int
 ag:Option Addr
 dx:Option Addr
def be.v (x:be):Value:=.agg #[.slice x.procs.base x.procs.len x.procs.cap,.int .i64 x.aj,.slice x.log.base x.log.len x.log.cap,.int .i64 x.lost,.int .i64 x.forbidden,.pointer x.ag,.pointer x.dx]
@[reducible] def wy : Shape where
 T:=be
 enc:=λx=>.agg #[.slice x.procs.base x.procs.len x.procs.cap,.int .i64 x.aj,.slice x.log.base x.log.len x.log.cap,.int .i64 x.lost,.int .i64 x.forbidden,.pointer x.ag,.pointer x.dx]
 dec:=λv=>match v with
  | .agg ⟨[.slice a0 a c,.int .i64 a1,.slice a2 b d,.int .i64 a3,.int .i64 a4,.pointer a5,.pointer a6]⟩=>some ⟨⟨a0,a,c⟩,a1,⟨a2,b,d⟩,a3,a4,a5,a6⟩
  | _=>none
 ok:=by intro v x h;split at h<;>cases h;rfl
structure fF where
 gO:Int
 dd:Int
 dV:Int
def fF.v (x:fF):Value:=.agg #[.int .i64 x.gO,.int .i64 x.dd,.int .i64 x.dV]
@[reducible] def fO : Shape where
 T:=fF
 enc:=λx=>.agg #[.int .i64 x.gO,.int .i64 x.dd,.int .i64 x.dV]
 dec:=λv=>match v with
  | .agg ⟨[.int .i64 a0,.int .i64 a1,.int .i64 a2]⟩=>some ⟨a0,a1,a2⟩
  | _=>none
 ok:=by intro v x h;split at h<;>cases h;rfl
structure aX where
 PC:Int
 cv:Int
 cw:Int
 cx:Int
 cC:Int
 cD:Int
 cE:Int
 cF:Int
 cG:Int
def aX.v (x:aX):Value:=.agg #[.int .i64 x.PC,.int .i64 x.cv,.int .i64 x.cw,.int .i64 x.cx,.int .i64 x.cC,.int .i64 x.cD,.int .i64 x.cE,.int .i64 x.cF,.int .i64 x.cG]
@[reducible] def eJ : Shape where
 T:=aX
 enc:=λx=>.agg #[.int .i64 x.PC,.int .i64 x.cv,.int .i64 x.cw,.int .i64 x.cx,.int .i64 x.cC,.int .i64 x.cD,.int .i64 x.cE,.int .i64 x.cF,.int .i64 x.cG]
 dec:=λv=>match v with
  | .agg ⟨[.int .i64 a0,.int .i64 a1,.int .i64 a2,.int .i64 a3,.int .i64 a4,.int .i64 a5,.int .i64 a6,.int .i64 a7,.int .i64 a]⟩=>some ⟨a0,a1,a2,a3,a4,a5,a6,a7,a⟩
  | _=>none
 ok:=by intro v x h;split at h<;>cases h;rfl
structure aH where
 dg:Int
 part:Int
 code:Sl
 state:Int
 il:Int
 eZ:Int
 fa:Int
 fb:Int
 fc:Int
 fe:Int
 ff:Int
 fg:Int
 fh:Int
 bN:Bool
 post:Option Addr
def aH.v (x:aH):Value:=.agg #[.int .i64 x.dg,.int .i64 x.part,.slice x.code.base x.code.len x.code.cap,.int .i64 x.state,.int .i64 x.il,.int .i64 x.eZ,.int .i64 x.fa,.int .i64 x.fb,.int .i64 x.fc,.int .i64 x.fe,.int .i64 x.ff,.int .i64 x.fg,.int .i64 x.fh,.bool x.bN,.pointer x.post]
@[reducible] def bf : Shape where
 T:=aH
 enc:=λx=>.agg #[.int .i64 x.dg,.int .i64 x.part,.slice x.code.base x.code.len x.code.cap,.int .i64 x.state,.int .i64 x.il,.int .i64 x.eZ,.int .i64 x.fa,.int .i64 x.fb,.int .i64 x.fc,.int .i64 x.fe,.int .i64 x.ff,.int .i64 x.fg,.int .i64 x.fh,.bool x.bN,.pointer x.post]
 dec:=λv=>match v with
  | .agg ⟨[.int .i64 a0,.int .i64 a1,.slice a2 i j,.int .i64 a3,.int .i64 a4,.int .i64 a5,.int .i64 a6,.int .i64 a7,.int .i64 f,.int .i64 g,.int .i64 a,.int .i64 b,.int .i64 c,.bool d,.pointer e]⟩=>some ⟨a0,a1,⟨a2,i,j⟩,a3,a4,a5,a6,a7,f,g,a,b,c,d,e⟩
  | _=>none
 ok:=by intro v x h;split at h<;>cases h;rfl
structure cH where
 fK:Sl
 dk:Sl
 kT:Int
 ie:Int
def cH.v (x:cH):Value:=.agg #[.slice x.fK.base x.fK.len x.fK.cap,.slice x.dk.base x.dk.len x.dk.cap,.int .i64 x.kT,.int .i64 x.ie]
@[reducible] def cL : Shape where
 T:=cH
 enc:=λx=>.agg #[.slice x.fK.base x.fK.len x.fK.cap,.slice x.dk.base x.dk.len x.dk.cap,.int .i64 x.kT,.int .i64 x.ie]
 dec:=λv=>match v with
  | .agg ⟨[.slice a0 a c,.slice a1 b d,.int .i64 a2,.int .i64 a3]⟩=>some ⟨⟨a0,a,c⟩,⟨a1,b,d⟩,a2,a3⟩
  | _=>none
 ok:=by intro v x h;split at h<;>cases h;rfl
structure bH where
 dd:Int
 dV:Int
def bH.v (x:bH):Value:=.agg #[.int .i64 x.dd,.int .i64 x.dV]
@[reducible] def aF : Shape where
 T:=bH
 enc:=λx=>.agg #[.int .i64 x.dd,.int .i64 x.dV]
 dec:=λv=>match v with
  | .agg ⟨[.int .i64 a0,.int .i64 a1]⟩=>some ⟨a0,a1⟩
  | _=>none
 ok:=by intro v x h;split at h<;>cases h;rfl
structure gw where
 l:Sl
def gw.v (x:gw):Value:=.agg #[.slice x.l.base x.l.len x.l.cap]
@[reducible] def Fy : Shape where
 T:=gw
 enc:=λx=>.agg #[.slice x.l.base x.l.len x.l.cap]
 dec:=λv=>match v with
  | .agg ⟨[.slice a0 a b]⟩=>some ⟨⟨a0,a,b⟩⟩
  | _=>none
 ok:=by intro v x h;split at h<;>cases h;rfl
structure aG where
 owner:Int
 queue:Sl
def aG.v (x:aG):Value:=.agg #[.int .i64 x.owner,.slice x.queue.base x.queue.len x.queue.cap]
@[reducible] def eO : Shape where
 T:=aG
 enc:=λx=>.agg #[.int .i64 x.owner,.slice x.queue.base x.queue.len x.queue.cap]
 dec:=λv=>match v with
  | .agg ⟨[.int .i64 a0,.slice a1 a b]⟩=>some ⟨a0,⟨a1,a,b⟩⟩
  | _=>none
 ok:=by intro v x h;split at h<;>cases h;rfl
structure db where
 ak:Sl
 aj:Int
def db.v (x:db):Value:=.agg #[.slice x.ak.base x.ak.len x.ak.cap,.int .i64 x.aj]
@[reducible] def Nn : Shape where
 T:=db
 enc:=λx=>.agg #[.slice x.ak.base x.ak.len x.ak.cap,.int .i64 x.aj]
 dec:=λv=>match v with
  | .agg ⟨[.slice a0 a b,.int .i64 a1]⟩=>some ⟨⟨a0,a,b⟩,a1⟩
  | _=>none
 ok:=by intro v x h;split at h<;>cases h;rfl
structure ay where
 due:Int
 dg:Int
def ay.v (x:ay):Value:=.agg #[.int .i64 x.due,.int .i64 x.dg]
@[reducible] def aR : Shape where
 T:=ay
 enc:=λx=>.agg #[.int .i64 x.due,.int .i64 x.dg]
 dec:=λv=>match v with
  | .agg ⟨[.int .i64 a0,.int .i64 a1]⟩=>some ⟨a0,a1⟩
  | _=>none
 ok:=by intro v x h;split at h<;>cases h;rfl
structure iB where
 l:Sl
 of_:Option Nat
def iB.v (x:iB):Value:=.agg #[.slice x.l.base x.l.len x.l.cap,.map x.of_]
@[reducible] def YL : Shape where
 T:=iB
 enc:=λx=>.agg #[.slice x.l.base x.l.len x.l.cap,.map x.of_]
 dec:=λv=>match v with
  | .agg ⟨[.slice a0 a b,.map a1]⟩=>some ⟨⟨a0,a,b⟩,a1⟩
  | _=>none
 ok:=by intro v x h;split at h<;>cases h;rfl
structure lH where
 a0:Bool
 a1:Bool
 a2:Bool
 a3:Bool
def lH.v (x:lH):Value:=.agg #[.bool x.a0,.bool x.a1,.bool x.a2,.bool x.a3]
@[reducible] def RL : Shape where
 T:=lH
 enc:=λx=>.agg #[.bool x.a0,.bool x.a1,.bool x.a2,.bool x.a3]
 dec:=λv=>match v with
  | .agg ⟨[.bool a0,.bool a1,.bool a2,.bool a3]⟩=>some ⟨a0,a1,a2,a3⟩
  | _=>none
 ok:=by intro v x h;split at h<;>cases h;rfl
structure iz where
 table:Sl
 parts:Int
def iz.v (x:iz):Value:=.agg #[.slice x.table.base x.table.len x.table.cap,.int .i64 x.parts]
@[reducible] def YO : Shape where
 T:=iz
 enc:=λx=>.agg #[.slice x.table.base x.table.len x.table.cap,.int .i64 x.parts]
 dec:=λv=>match v with
  | .agg ⟨[.slice a0 a b,.int .i64 a1]⟩=>some ⟨⟨a0,a,b⟩,a1⟩
  | _=>none
 ok:=by intro v x h;split at h<;>cases h;rfl
structure iA where
 labels:Sl
 by_:Option Nat
def iA.v (x:iA):Value:=.agg #[.slice x.labels.base x.labels.len x.labels.cap,.map x.by_]
@[reducible] def YR : Shape where
 T:=iA
 enc:=λx=>.agg #[.slice x.labels.base x.labels.len x.labels.cap,.map x.by_]
 dec:=λv=>match v with
  | .agg ⟨[.slice a0 a b,.map a1]⟩=>some ⟨⟨a0,a,b⟩,a1⟩
  | _=>none
 ok:=by intro v x h;split at h<;>cases h;rfl
structure bY where
 Bk:Int
 dd:Int
def bY.v (x:bY):Value:=.agg #[.int .i64 x.Bk,.int .i64 x.dd]
@[reducible] def Nc : Shape where
 T:=bY
 enc:=λx=>.agg #[.int .i64 x.Bk,.int .i64 x.dd]
 dec:=λv=>match v with
  | .agg ⟨[.int .i64 a0,.int .i64 a1]⟩=>some ⟨a0,a1⟩
  | _=>none
 ok:=by intro v x h;split at h<;>cases h;rfl
structure dp where
 room:Int
 values:Sl
 waiters:Sl
 taken:Int
 dropped:Int
def dp.v (x:dp):Value:=.agg #[.int .i64 x.room,.slice x.values.base x.values.len x.values.cap,.slice x.waiters.base x.waiters.len x.waiters.cap,.int .i64 x.taken,.int .i64 x.dropped]
@[reducible] def C7 : Shape where
 T:=dp
 enc:=λx=>.agg #[.int .i64 x.room,.slice x.values.base x.values.len x.values.cap,.slice x.waiters.base x.waiters.len x.waiters.cap,.int .i64 x.taken,.int .i64 x.dropped]
 dec:=λv=>match v with
  | .agg ⟨[.int .i64 a0,.slice a1 a c,.slice a2 b d,.int .i64 a3,.int .i64 a4]⟩=>some ⟨a0,⟨a1,a,c⟩,⟨a2,b,d⟩,a3,a4⟩
  | _=>none
 ok:=by intro v x h;split at h<;>cases h;rfl
structure eD where
 Kind:Int
 To:Int
 dV:Int
def eD.v (x:eD):Value:=.agg #[.int .i64 x.Kind,.int .i64 x.To,.int .i64 x.dV]
@[reducible] def Dz : Shape where
 T:=eD
 enc:=λx=>.agg #[.int .i64 x.Kind,.int .i64 x.To,.int .i64 x.dV]
 dec:=λv=>match v with
  | .agg ⟨[.int .i64 a0,.int .i64 a1,.int .i64 a2]⟩=>some ⟨a0,a1,a2⟩
  | _=>none
 ok:=by intro v x h;split at h<;>cases h;rfl
structure dU where
 has:Bool
 n:Int
def dU.v (x:dU):Value:=.agg #[.bool x.has,.int .i64 x.n]
@[reducible] def HD : Shape where
 T:=dU
 enc:=λx=>.agg #[.bool x.has,.int .i64 x.n]
 dec:=λv=>match v with
  | .agg ⟨[.bool a0,.int .i64 a1]⟩=>some ⟨a0,a1⟩
  | _=>none
 ok:=by intro v x h;split at h<;>cases h;rfl
def cK (n:String) (t o b:Nat):Field:={name:=n,type:=t,offset:=o,embedded:=false,tag:= "",pkgPath:= "",byteOffset:=b}
def ty0 :Ty:={aN:=(.tuple #[]),size:=1,bytes:=0,zero:=(.tuple #[]),sh:=sW}
def wj :Ty:={aN:=(.int .i64),size:=1,bytes:=8,zero:=(.int .i64 0),sh:=af .i64}
def Fs :Ty:={aN:=(.int .i64),size:=1,bytes:=8,zero:=(.int .i64 0),sh:=af .i64}
def ty4 :Ty:={aN:=.bool,size:=1,bytes:=1,zero:=(.bool false),sh:=bB}
def NV :Ty:={aN:=(.int .u8),size:=1,bytes:=1,zero:=(.int .u8 0),sh:=af .u8}
def ty9 :Ty:={aN:=.string,size:=1,bytes:=16,zero:=(.string ByteArray.empty),sh:=lY}
def GI :Ty:={aN:=(.interface #[]),size:=1,bytes:=16,zero:=.nilIface,sh:=jh}
def xi :Ty:={aN:=(.slice 28),size:=1,bytes:=24,zero:=(.slice none 0 0),sh:=av}
def rA :Ty:={aN:=(.slice 3),size:=1,bytes:=24,zero:=(.slice none 0 0),sh:=av}
def BU :Ty:={aN:=(.slice 50),size:=1,bytes:=24,zero:=(.slice none 0 0),sh:=av}
def GJ :Ty:={aN:=(.struct #[cK "Labels" 22 0 0,cK "Table" 23 1 24,cK "Fuel" 3 2 48,cK "Lane" 3 3 56,cK "Locks" 3 4 64,cK "Log" 3 5 72,cK "Procs" 24 6 80]),size:=7,bytes:=104,zero:=(.agg #[(.slice none 0 0),(.slice none 0 0),(.int .i64 0),(.int .i64 0),(.int .i64 0),(.int .i64 0),(.slice none 0 0)]),sh:=aO}
def xj :Ty:={aN:=(.slice 32),size:=1,bytes:=24,zero:=(.slice none 0 0),sh:=av}
def GK :Ty:={aN:=(.int .u64),size:=1,bytes:=8,zero:=(.int .u64 0),sh:=af .u64}
def BV :Ty:={aN:=(.struct #[cK "Kind" 3 0 0,cK "N" 3 1 8,cK "V" 2 2 16]),size:=3,bytes:=24,zero:=(.agg #[(.int .i64 0),(.int .i64 0),(.int .i64 0)]),sh:=dJ}
def xk :Ty:={aN:=(.slice 5),size:=1,bytes:=24,zero:=(.slice none 0 0),sh:=av}
def GL :Ty:={aN:=(.pointer 73),size:=1,bytes:=8,zero:=(.pointer none),sh:=ah}
def BW :Ty:={aN:=(.int .i64),size:=1,bytes:=8,zero:=(.int .i64 0),sh:=af .i64}
def GM :Ty:={aN:=(.tuple #[35,36,3]),size:=1,bytes:=0,zero:=(.tuple #[(.pointer none),(.int .i64 0),(.int .i64 0)]),sh:=rK ah (af .i64) (af .i64)}
def GN :Ty:={aN:=(.tuple #[26,36,3]),size:=1,bytes:=0,zero:=(.tuple #[(.agg #[(.slice none 0 0),(.slice none 0 0),(.int .i64 0),(.int .i64 0),(.int .i64 0),(.int .i64 0),(.slice none 0 0)]),(.int .i64 0),(.int .i64 0)]),sh:=rK aO (af .i64) (af .i64)}
def GO :Ty:={aN:=(.map 3 2),size:=1,bytes:=8,zero:=(.map none),sh:=fN}
def BX :Ty:={aN:=(.struct #[cK "E" 36 0 0,cK "Tick" 2 1 8,cK "Owner" 3 2 16]),size:=3,bytes:=24,zero:=(.agg #[(.int .i64 0),(.int .i64 0),(.int .i64 0)]),sh:=Fz}
def GP :Ty:={aN:=(.struct #[cK "Op" 3 0 0,cK "A" 3 1 8,cK "B" 3 2 16,cK "C" 3 3 24,cK "Imm" 2 4 32]),size:=5,bytes:=40,zero:=(.agg #[(.int .i64 0),(.int .i64 0),(.int .i64 0),(.int .i64 0),(.int .i64 0)]),sh:=aM}
def BY :Ty:={aN:=(.slice 47),size:=1,bytes:=24,zero:=(.slice none 0 0),sh:=av}
def GQ :Ty:={aN:=(.struct #[cK "Part" 3 0 0,cK "Code" 48 1 8]),size:=2,bytes:=32,zero:=(.agg #[(.int .i64 0),(.slice none 0 0)]),sh:=bC}
def GR :Ty:={aN:=(.struct #[cK "A" 26 0 0,cK "B" 26 7 104,cK "S" 27 14 208,cK "T" 27 15 232,cK "Label" 28 16 256]),size:=17,bytes:=264,zero:=(.agg #[(.slice none 0 0),(.slice none 0 0),(.int .i64 0),(.int .i64 0),(.int .i64 0),(.int .i64 0),(.slice none 0 0),(.slice none 0 0),(.slice none 0 0),(.int .i64 0),(.int .i64 0),(.int .i64 0),(.int .i64 0),(.slice none 0 0),(.slice none 0 0),(.slice none 0 0),(.int .u64 0)]),sh:=aax}
def GS :Ty:={aN:=(.tuple #[4,2]),size:=1,bytes:=0,zero:=(.tuple #[(.bool false),(.int .i64 0)]),sh:=mu bB (af .i64)}
def GU :Ty:={aN:=(.tuple #[34,4]),size:=1,bytes:=0,zero:=(.tuple #[(.slice none 0 0),(.bool false)]),sh:=mu av bB}
def GV :Ty:={aN:=(.slice 115),size:=1,bytes:=24,zero:=(.slice none 0 0),sh:=av}
def GW :Ty:={aN:=(.slice 68),size:=1,bytes:=24,zero:=(.slice none 0 0),sh:=av}
def GX :Ty:={aN:=(.struct #[cK "Tick" 2 0 0,cK "Parts" 60 1 8,cK "Procs" 61 2 32]),size:=3,bytes:=56,zero:=(.agg #[(.int .i64 0),(.slice none 0 0),(.slice none 0 0)]),sh:=A9}
def GY :Ty:={aN:=(.array 8 2),size:=8,bytes:=64,zero:=(.agg #[(.int .i64 0),(.int .i64 0),(.int .i64 0),(.int .i64 0),(.int .i64 0),(.int .i64 0),(.int .i64 0),(.int .i64 0)]),sh:=wA}
def GZ :Ty:={aN:=(.slice 187),size:=1,bytes:=24,zero:=(.slice none 0 0),sh:=av}
def G0 :Ty:={aN:=(.struct #[cK "State" 3 0 0,cK "PC" 3 1 8,cK "Regs" 65 2 16,cK "Cursor" 3 10 80,cK "Timer" 2 11 88,cK "Fired" 4 12 96,cK "Wake" 2 13 104,cK "Lanes" 66 14 112]),size:=15,bytes:=136,zero:=(.agg #[(.int .i64 0),(.int .i64 0),(.int .i64 0),(.int .i64 0),(.int .i64 0),(.int .i64 0),(.int .i64 0),(.int .i64 0),(.int .i64 0),(.int .i64 0),(.int .i64 0),(.int .i64 0),(.bool false),(.int .i64 0),(.slice none 0 0)]),sh:=cO}
def G3 :Ty:={aN:=(.pointer 123),size:=1,bytes:=8,zero:=(.pointer none),sh:=ah}
def G4 :Ty:={aN:=(.tuple #[69,36]),size:=1,bytes:=0,zero:=(.tuple #[(.pointer none),(.int .i64 0)]),sh:=mu ah (af .i64)}
def G5 :Ty:={aN:=(.struct #[{name:= "m",type:=69,offset:=0,embedded:=false,tag:= "",pkgPath:= "firebreak/run",byteOffset:=0},{name:= "ticks",type:=3,offset:=1,embedded:=false,tag:= "",pkgPath:= "firebreak/run",byteOffset:=8},{name:= "owner",type:=3,offset:=2,embedded:=false,tag:= "",pkgPath:= "firebreak/run",byteOffset:=16}]),size:=3,bytes:=24,zero:=(.agg #[(.pointer none),(.int .i64 0),(.int .i64 0)]),sh:=FI}
def G6 :Ty:={aN:=(.pointer 76),size:=1,bytes:=8,zero:=(.pointer none),sh:=ah}
def G7 :Ty:={aN:=(.struct #[cK "B" 34 0 0,cK "At" 3 1 24,cK "E" 36 2 32,cK "P" 3 3 40]),size:=4,bytes:=48,zero:=(.agg #[(.slice none 0 0),(.int .i64 0),(.int .i64 0),(.int .i64 0)]),sh:=zuz}
def G8 :Ty:={aN:=(.func #[35,32] #[36] false),size:=1,bytes:=8,zero:=.nilFunc,sh:=jh}
def G9 :Ty:={aN:=(.tuple #[79,4]),size:=1,bytes:=0,zero:=(.tuple #[.nilFunc,(.bool false)]),sh:=mu jh bB}
def Ha :Ty:={aN:=(.map 3 79),size:=1,bytes:=8,zero:=(.map none),sh:=fN}
def Hb :Ty:={aN:=(.pointer 85),size:=1,bytes:=8,zero:=(.pointer none),sh:=ah}
def Hc :Ty:={aN:=(.struct #[{name:= "m",type:=69,offset:=0,embedded:=false,tag:= "",pkgPath:= "firebreak/twin",byteOffset:=0},{name:= "l",type:=27,offset:=1,embedded:=false,tag:= "",pkgPath:= "firebreak/twin",byteOffset:=8},{name:= "at",type:=3,offset:=2,embedded:=false,tag:= "",pkgPath:= "firebreak/twin",byteOffset:=32},{name:= "left",type:=3,offset:=3,embedded:=false,tag:= "",pkgPath:= "firebreak/twin",byteOffset:=40},{name:= "ticks",type:=3,offset:=4,embedded:=false,tag:= "",pkgPath:= "firebreak/twin",byteOffset:=48},{name:= "owner",type:=3,offset:=5,embedded:=false,tag:= "",pkgPath:= "firebreak/twin",byteOffset:=56}]),size:=6,bytes:=64,zero:=(.agg #[(.pointer none),(.slice none 0 0),(.int .i64 0),(.int .i64 0),(.int .i64 0),(.int .i64 0)]),sh:=ab5}
def Hd :Ty:={aN:=(.tuple #[34,36]),size:=1,bytes:=0,zero:=(.tuple #[(.slice none 0 0),(.int .i64 0)]),sh:=mu av (af .i64)}
def He :Ty:={aN:=(.pointer 96),size:=1,bytes:=8,zero:=(.pointer none),sh:=ah}
def Hf :Ty:={aN:=(.struct #[{name:= "b",type:=34,offset:=0,embedded:=false,tag:= "",pkgPath:= "firebreak/conf",byteOffset:=0},{name:= "at",type:=3,offset:=1,embedded:=false,tag:= "",pkgPath:= "firebreak/conf",byteOffset:=24},{name:= "e",type:=36,offset:=2,embedded:=false,tag:= "",pkgPath:= "firebreak/conf",byteOffset:=32},{name:= "place",type:=3,offset:=3,embedded:=false,tag:= "",pkgPath:= "firebreak/conf",byteOffset:=40}]),size:=4,bytes:=48,zero:=(.agg #[(.slice none 0 0),(.int .i64 0),(.int .i64 0),(.int .i64 0)]),sh:=YI}
def Hg :Ty:={aN:=(.pointer 26),size:=1,bytes:=8,zero:=(.pointer none),sh:=ah}
def zx :Ty:={aN:=(.tuple #[36,3]),size:=1,bytes:=0,zero:=(.tuple #[(.int .i64 0),(.int .i64 0)]),sh:=mu (af .i64) (af .i64)}
def zy :Ty:={aN:=(.func #[3] #[36] false),size:=1,bytes:=8,zero:=.nilFunc,sh:=gv}
def sE :Ty:={aN:=(.slice 133),size:=1,bytes:=24,zero:=(.slice none 0 0),sh:=av}
def zz :Ty:={aN:=(.slice 23),size:=1,bytes:=24,zero:=(.slice none 0 0),sh:=av}
def zA :Ty:={aN:=(.struct #[cK "Cursor" 3 0 0,cK "Log" 112 1 8,cK "Lost" 3 2 32,cK "Forbidden" 3 3 40,cK "Owners" 23 4 48,cK "Queues" 113 5 72]),size:=6,bytes:=96,zero:=(.agg #[(.int .i64 0),(.slice none 0 0),(.int .i64 0),(.int .i64 0),(.slice none 0 0),(.slice none 0 0)]),sh:=dI}
def zB :Ty:={aN:=(.pointer 231),size:=1,bytes:=8,zero:=(.pointer none),sh:=ah}
def zC :Ty:={aN:=(.pointer 225),size:=1,bytes:=8,zero:=(.pointer none),sh:=ah}
def zE :Ty:={aN:=(.slice 124),size:=1,bytes:=24,zero:=(.slice none 0 0),sh:=av}
def zF :Ty:={aN:=(.slice 134),size:=1,bytes:=24,zero:=(.slice none 0 0),sh:=av}
def zG :Ty:={aN:=(.struct #[{name:= "c",type:=26,offset:=0,embedded:=false,tag:= "",pkgPath:= "firebreak/machine",byteOffset:=0},{name:= "table",type:=118,offset:=7,embedded:=false,tag:= "",pkgPath:= "firebreak/machine",byteOffset:=104},{name:= "slots",type:=119,offset:=8,embedded:=false,tag:= "",pkgPath:= "firebreak/machine",byteOffset:=112},{name:= "tick",type:=2,offset:=9,embedded:=false,tag:= "",pkgPath:= "firebreak/machine",byteOffset:=120},{name:= "parts",type:=120,offset:=10,embedded:=false,tag:= "",pkgPath:= "firebreak/machine",byteOffset:=128},{name:= "procs",type:=121,offset:=11,embedded:=false,tag:= "",pkgPath:= "firebreak/machine",byteOffset:=152}]),size:=12,bytes:=176,zero:=(.agg #[(.slice none 0 0),(.slice none 0 0),(.int .i64 0),(.int .i64 0),(.int .i64 0),(.int .i64 0),(.slice none 0 0),(.pointer none),(.pointer none),(.int .i64 0),(.slice none 0 0),(.slice none 0 0)]),sh:=H5}
def zH :Ty:={aN:=(.pointer 129),size:=1,bytes:=8,zero:=(.pointer none),sh:=ah}
def zI :Ty:={aN:=(.tuple #[23,113]),size:=1,bytes:=0,zero:=(.tuple #[(.slice none 0 0),(.slice none 0 0)]),sh:=mu av av}
def zJ :Ty:={aN:=(.pointer 194),size:=1,bytes:=8,zero:=(.pointer none),sh:=ah}
def zK :Ty:={aN:=(.pointer 208),size:=1,bytes:=8,zero:=(.pointer none),sh:=ah}
def zM :Ty:={aN:=(.struct #[{name:= "procs",type:=23,offset:=0,embedded:=false,tag:= "",pkgPath:= "firebreak/machine",byteOffset:=0},{name:= "cursor",type:=3,offset:=1,embedded:=false,tag:= "",pkgPath:= "firebreak/machine",byteOffset:=24},{name:= "log",type:=112,offset:=2,embedded:=false,tag:= "",pkgPath:= "firebreak/machine",byteOffset:=32},{name:= "lost",type:=3,offset:=3,embedded:=false,tag:= "",pkgPath:= "firebreak/machine",byteOffset:=56},{name:= "forbidden",type:=3,offset:=4,embedded:=false,tag:= "",pkgPath:= "firebreak/machine",byteOffset:=64},{name:= "locks",type:=126,offset:=5,embedded:=false,tag:= "",pkgPath:= "firebreak/machine",byteOffset:=72},{name:= "wheel",type:=127,offset:=6,embedded:=false,tag:= "",pkgPath:= "firebreak/machine",byteOffset:=80}]),size:=7,bytes:=88,zero:=(.agg #[(.slice none 0 0),(.int .i64 0),(.slice none 0 0),(.int .i64 0),(.int .i64 0),(.pointer none),(.pointer none)]),sh:=wy}
def zN :Ty:={aN:=(.struct #[cK "Tick" 2 0 0,cK "Proc" 3 1 8,cK "Value" 2 2 16]),size:=3,bytes:=24,zero:=(.agg #[(.int .i64 0),(.int .i64 0),(.int .i64 0)]),sh:=fO}
def zO :Ty:={aN:=(.pointer 140),size:=1,bytes:=8,zero:=(.pointer none),sh:=ah}
def zP :Ty:={aN:=(.tuple #[66,3]),size:=1,bytes:=0,zero:=(.tuple #[(.slice none 0 0),(.int .i64 0)]),sh:=mu av (af .i64)}
def zQ :Ty:={aN:=(.struct #[cK "PC" 3 0 0,cK "Regs" 65 1 8]),size:=9,bytes:=72,zero:=(.agg #[(.int .i64 0),(.int .i64 0),(.int .i64 0),(.int .i64 0),(.int .i64 0),(.int .i64 0),(.int .i64 0),(.int .i64 0),(.int .i64 0)]),sh:=eJ}
def zR :Ty:={aN:=(.pointer 199),size:=1,bytes:=8,zero:=(.pointer none),sh:=ah}
def zS :Ty:={aN:=(.struct #[{name:= "id",type:=3,offset:=0,embedded:=false,tag:= "",pkgPath:= "firebreak/machine",byteOffset:=0},{name:= "part",type:=3,offset:=1,embedded:=false,tag:= "",pkgPath:= "firebreak/machine",byteOffset:=8},{name:= "code",type:=48,offset:=2,embedded:=false,tag:= "",pkgPath:= "firebreak/machine",byteOffset:=16},{name:= "state",type:=3,offset:=3,embedded:=false,tag:= "",pkgPath:= "firebreak/machine",byteOffset:=40},{name:= "core",type:=137,offset:=4,embedded:=false,tag:= "",pkgPath:= "firebreak/machine",byteOffset:=48},{name:= "fired",type:=4,offset:=13,embedded:=false,tag:= "",pkgPath:= "firebreak/machine",byteOffset:=120},{name:= "post",type:=138,offset:=14,embedded:=false,tag:= "",pkgPath:= "firebreak/machine",byteOffset:=128}]),size:=15,bytes:=136,zero:=(.agg #[(.int .i64 0),(.int .i64 0),(.slice none 0 0),(.int .i64 0),(.int .i64 0),(.int .i64 0),(.int .i64 0),(.int .i64 0),(.int .i64 0),(.int .i64 0),(.int .i64 0),(.int .i64 0),(.int .i64 0),(.bool false),(.pointer none)]),sh:=bf}
def zT :Ty:={aN:=(.tuple #[2,4]),size:=1,bytes:=0,zero:=(.tuple #[(.int .i64 0),(.bool false)]),sh:=mu (af .i64) bB}
def zU :Ty:={aN:=(.func #[115,115] #[4] false),size:=1,bytes:=8,zero:=.nilFunc,sh:=gv}
def zV :Ty:={aN:=(.func #[68,68] #[4] false),size:=1,bytes:=8,zero:=.nilFunc,sh:=gv}
def zW :Ty:={aN:=(.func #[50,50] #[4] false),size:=1,bytes:=8,zero:=.nilFunc,sh:=gv}
def zZ :Ty:={aN:=(.func #[23,23] #[4] false),size:=1,bytes:=8,zero:=.nilFunc,sh:=gv}
def Aa :Ty:={aN:=(.func #[28] #[36] false),size:=1,bytes:=8,zero:=.nilFunc,sh:=gv}
def Ab :Ty:={aN:=(.tuple #[119,36,3]),size:=1,bytes:=0,zero:=(.tuple #[(.pointer none),(.int .i64 0),(.int .i64 0)]),sh:=rK ah (af .i64) (af .i64)}
def Ac :Ty:={aN:=(.tuple #[118,36,3]),size:=1,bytes:=0,zero:=(.tuple #[(.pointer none),(.int .i64 0),(.int .i64 0)]),sh:=rK ah (af .i64) (af .i64)}
def Ad :Ty:={aN:=(.tuple #[126,36]),size:=1,bytes:=0,zero:=(.tuple #[(.pointer none),(.int .i64 0)]),sh:=mu ah (af .i64)}
def Ae :Ty:={aN:=(.tuple #[138,36]),size:=1,bytes:=0,zero:=(.tuple #[(.pointer none),(.int .i64 0)]),sh:=mu ah (af .i64)}
def sH :Ty:={aN:=(.slice 2),size:=1,bytes:=24,zero:=(.slice none 0 0),sh:=av}
def qw :Ty:={aN:=(.slice 191),size:=1,bytes:=24,zero:=(.slice none 0 0),sh:=av}
def Af :Ty:={aN:=(.struct #[cK "Values" 184 0 0,cK "Waiters" 185 1 24,cK "Taken" 3 2 48,cK "Dropped" 3 3 56]),size:=4,bytes:=64,zero:=(.agg #[(.slice none 0 0),(.slice none 0 0),(.int .i64 0),(.int .i64 0)]),sh:=cL}
def vj :Ty:={aN:=(.struct #[cK "Proc" 3 0 0,cK "Value" 2 1 8]),size:=2,bytes:=16,zero:=(.agg #[(.int .i64 0),(.int .i64 0)]),sh:=aF}
def Ag :Ty:={aN:=(.slice 196),size:=1,bytes:=24,zero:=(.slice none 0 0),sh:=av}
def Ah :Ty:={aN:=(.struct #[{name:= "l",type:=192,offset:=0,embedded:=false,tag:= "",pkgPath:= "firebreak/locks",byteOffset:=0}]),size:=1,bytes:=24,zero:=(.agg #[(.slice none 0 0)]),sh:=Fy}
def Ai :Ty:={aN:=(.struct #[{name:= "owner",type:=3,offset:=0,embedded:=false,tag:= "",pkgPath:= "firebreak/locks",byteOffset:=0},{name:= "queue",type:=23,offset:=1,embedded:=false,tag:= "",pkgPath:= "firebreak/locks",byteOffset:=8}]),size:=2,bytes:=32,zero:=(.agg #[(.int .i64 0),(.slice none 0 0)]),sh:=eO}
def Aj :Ty:={aN:=(.slice 200),size:=1,bytes:=24,zero:=(.slice none 0 0),sh:=av}
def Ak :Ty:={aN:=(.struct #[{name:= "lanes",type:=197,offset:=0,embedded:=false,tag:= "",pkgPath:= "firebreak/post",byteOffset:=0},{name:= "cursor",type:=3,offset:=1,embedded:=false,tag:= "",pkgPath:= "firebreak/post",byteOffset:=24}]),size:=2,bytes:=32,zero:=(.agg #[(.slice none 0 0),(.int .i64 0)]),sh:=Nn}
def Al :Ty:={aN:=(.pointer 253),size:=1,bytes:=8,zero:=(.pointer none),sh:=ah}
def qx :Ty:={aN:=(.struct #[{name:= "due",type:=2,offset:=0,embedded:=false,tag:= "",pkgPath:= "firebreak/wheel",byteOffset:=0},{name:= "id",type:=3,offset:=1,embedded:=false,tag:= "",pkgPath:= "firebreak/wheel",byteOffset:=8}]),size:=2,bytes:=16,zero:=(.agg #[(.int .i64 0),(.int .i64 0)]),sh:=aR}
def Am :Ty:={aN:=(.tuple #[203,4]),size:=1,bytes:=0,zero:=(.tuple #[(.agg #[(.int .i64 0),(.int .i64 0)]),(.bool false)]),sh:=mu aR bB}
def sI :Ty:={aN:=(.slice 203),size:=1,bytes:=24,zero:=(.slice none 0 0),sh:=av}
def An :Ty:={aN:=(.map 3 203),size:=1,bytes:=8,zero:=(.map none),sh:=fN}
def Ao :Ty:={aN:=(.struct #[{name:= "l",type:=205,offset:=0,embedded:=false,tag:= "",pkgPath:= "firebreak/wheel",byteOffset:=0},{name:= "of",type:=206,offset:=1,embedded:=false,tag:= "",pkgPath:= "firebreak/wheel",byteOffset:=24}]),size:=2,bytes:=32,zero:=(.agg #[(.slice none 0 0),(.map none)]),sh:=YL}
def Ap :Ty:={aN:=(.func #[3,3] #[4] false),size:=1,bytes:=8,zero:=.nilFunc,sh:=gv}
def Aq :Ty:={aN:=(.func #[133,133] #[4] false),size:=1,bytes:=8,zero:=.nilFunc,sh:=gv}
def Ar :Ty:={aN:=(.func #[187,187] #[4] false),size:=1,bytes:=8,zero:=.nilFunc,sh:=gv}
def As :Ty:={aN:=(.array 4 4),size:=4,bytes:=4,zero:=(.agg #[(.bool false),(.bool false),(.bool false),(.bool false)]),sh:=RL}
def Au :Ty:={aN:=(.func #[3] #[4] false),size:=1,bytes:=8,zero:=.nilFunc,sh:=gv}
def Av :Ty:={aN:=(.struct #[{name:= "table",type:=23,offset:=0,embedded:=false,tag:= "",pkgPath:= "firebreak/slots",byteOffset:=0},{name:= "parts",type:=3,offset:=1,embedded:=false,tag:= "",pkgPath:= "firebreak/slots",byteOffset:=24}]),size:=2,bytes:=32,zero:=(.agg #[(.slice none 0 0),(.int .i64 0)]),sh:=YO}
def Aw :Ty:={aN:=(.map 28 3),size:=1,bytes:=8,zero:=(.map none),sh:=fN}
def Ax :Ty:={aN:=(.struct #[{name:= "labels",type:=22,offset:=0,embedded:=false,tag:= "",pkgPath:= "firebreak/table",byteOffset:=0},{name:= "by",type:=229,offset:=1,embedded:=false,tag:= "",pkgPath:= "firebreak/table",byteOffset:=24}]),size:=2,bytes:=32,zero:=(.agg #[(.slice none 0 0),(.map none)]),sh:=YR}
def Ay :Ty:={aN:=(.tuple #[3,4]),size:=1,bytes:=0,zero:=(.tuple #[(.int .i64 0),(.bool false)]),sh:=mu (af .i64) bB}
def Az :Ty:={aN:=(.tuple #[200,36]),size:=1,bytes:=0,zero:=(.tuple #[(.pointer none),(.int .i64 0)]),sh:=mu ah (af .i64)}
def AA :Ty:={aN:=(.func #[203,203] #[3] false),size:=1,bytes:=8,zero:=.nilFunc,sh:=gv}
def AB :Ty:={aN:=(.int .u64),size:=1,bytes:=8,zero:=(.int .u64 0),sh:=af .u64}
def AD :Ty:={aN:=(.tuple #[239,239]),size:=1,bytes:=0,zero:=(.tuple #[(.int .u64 0),(.int .u64 0)]),sh:=mu (af .u64) (af .u64)}
def AE :Ty:={aN:=(.tuple #[4,4,4,4]),size:=1,bytes:=0,zero:=(.tuple #[(.bool false),(.bool false),(.bool false),(.bool false)]),sh:=xB bB bB bB bB}
def AF :Ty:={aN:=(.slice 249),size:=1,bytes:=24,zero:=(.slice none 0 0),sh:=av}
def AG :Ty:={aN:=(.struct #[cK "Lock" 3 0 0,cK "Proc" 3 1 8]),size:=2,bytes:=16,zero:=(.agg #[(.int .i64 0),(.int .i64 0)]),sh:=Nc}
def AH :Ty:={aN:=(.struct #[{name:= "room",type:=3,offset:=0,embedded:=false,tag:= "",pkgPath:= "firebreak/lane",byteOffset:=0},{name:= "values",type:=184,offset:=1,embedded:=false,tag:= "",pkgPath:= "firebreak/lane",byteOffset:=8},{name:= "waiters",type:=185,offset:=2,embedded:=false,tag:= "",pkgPath:= "firebreak/lane",byteOffset:=32},{name:= "taken",type:=3,offset:=3,embedded:=false,tag:= "",pkgPath:= "firebreak/lane",byteOffset:=56},{name:= "dropped",type:=3,offset:=4,embedded:=false,tag:= "",pkgPath:= "firebreak/lane",byteOffset:=64}]),size:=5,bytes:=72,zero:=(.agg #[(.int .i64 0),(.slice none 0 0),(.slice none 0 0),(.int .i64 0),(.int .i64 0)]),sh:=C7}
def AI :Ty:={aN:=(.func #[2,2] #[4] false),size:=1,bytes:=8,zero:=.nilFunc,sh:=gv}
def AJ :Ty:={aN:=(.func #[191,191] #[4] false),size:=1,bytes:=8,zero:=.nilFunc,sh:=gv}
def AK :Ty:={aN:=(.struct #[cK "Kind" 3 0 0,cK "To" 2 1 8,cK "Value" 2 2 16]),size:=3,bytes:=24,zero:=(.agg #[(.int .i64 0),(.int .i64 0),(.int .i64 0)]),sh:=Dz}
def AL :Ty:={aN:=(.tuple #[137,262]),size:=1,bytes:=0,zero:=(.tuple #[(.agg #[(.int .i64 0),(.int .i64 0),(.int .i64 0),(.int .i64 0),(.int .i64 0),(.int .i64 0),(.int .i64 0),(.int .i64 0),(.int .i64 0)]),(.agg #[(.int .i64 0),(.int .i64 0),(.int .i64 0)])]),sh:=mu eJ Dz}
def AM :Ty:={aN:=(.tuple #[4,36]),size:=1,bytes:=0,zero:=(.tuple #[(.bool false),(.int .i64 0)]),sh:=mu bB (af .i64)}
def AN :Ty:={aN:=(.tuple #[3,36]),size:=1,bytes:=0,zero:=(.tuple #[(.int .i64 0),(.int .i64 0)]),sh:=mu (af .i64) (af .i64)}
def AO :Ty:={aN:=(.struct #[{name:= "has",type:=4,offset:=0,embedded:=false,tag:= "",pkgPath:= "firebreak/conf",byteOffset:=0},{name:= "n",type:=3,offset:=1,embedded:=false,tag:= "",pkgPath:= "firebreak/conf",byteOffset:=8}]),size:=2,bytes:=16,zero:=(.agg #[(.bool false),(.int .i64 0)]),sh:=HD}
def AP :Ty:={aN:=(.slice 274),size:=1,bytes:=24,zero:=(.slice none 0 0),sh:=av}
def AQ :Ty:={aN:=(.int .u32),size:=1,bytes:=4,zero:=(.int .u32 0),sh:=af .u32}
def AR :Ty:={aN:=(.tuple #[283,283]),size:=1,bytes:=0,zero:=(.tuple #[(.int .u32 0),(.int .u32 0)]),sh:=mu (af .u32) (af .u32)}
def AS :Ty:={aN:=(.tuple #[28,28]),size:=1,bytes:=0,zero:=(.tuple #[(.int .u64 0),(.int .u64 0)]),sh:=mu (af .u64) (af .u64)}
def AT :Ty:={aN:=(.tuple #[47,4]),size:=1,bytes:=0,zero:=(.tuple #[(.agg #[(.int .i64 0),(.int .i64 0),(.int .i64 0),(.int .i64 0),(.int .i64 0)]),(.bool false)]),sh:=mu aM bB}
def AU :Ty:={aN:=(.tuple #[262,4,4]),size:=1,bytes:=0,zero:=(.tuple #[(.agg #[(.int .i64 0),(.int .i64 0),(.int .i64 0)]),(.bool false),(.bool false)]),sh:=rK Dz bB bB}
def AV :Ty:={aN:=(.tuple #[2,36]),size:=1,bytes:=0,zero:=(.tuple #[(.int .i64 0),(.int .i64 0)]),sh:=mu (af .i64) (af .i64)}
def AW :Ty:={aN:=(.tuple #[2,3,191,4,36]),size:=1,bytes:=0,zero:=(.tuple #[(.int .i64 0),(.int .i64 0),(.agg #[(.int .i64 0),(.int .i64 0)]),(.bool false),(.int .i64 0)]),sh:=xC (af .i64) (af .i64) aF bB (af .i64)}
def AX :Ty:={aN:=(.pointer 196),size:=1,bytes:=8,zero:=(.pointer none),sh:=ah}
def AY :Ty:={aN:=(.func #[9] #[4] false),size:=1,bytes:=8,zero:=.nilFunc,sh:=gv}
def AZ :Ty:={aN:=(.map 3 3),size:=1,bytes:=8,zero:=(.map none),sh:=fN}
def A0 :Ty:={aN:=(.pointer 137),size:=1,bytes:=8,zero:=(.pointer none),sh:=ah}
def sJ :Ty:={aN:=(.float .f64),size:=1,bytes:=8,zero:=(.float .f64 0),sh:=iO .f64}
def A2 :Ty:={aN:=(.func #[223] #[] false),size:=1,bytes:=8,zero:=.nilFunc,sh:=gv}
def A3 :Ty:={aN:=(.func #[223] #[] false),size:=1,bytes:=8,zero:=.nilFunc,sh:=gv}
def A4 :Ty:={aN:=(.tuple #[2,191,4,36]),size:=1,bytes:=0,zero:=(.tuple #[(.int .i64 0),(.agg #[(.int .i64 0),(.int .i64 0)]),(.bool false),(.int .i64 0)]),sh:=xB (af .i64) aF bB (af .i64)}
def A5 :Ty:={aN:=(.array 34 9),size:=34,bytes:=544,zero:=(.agg (List.toArray (List.replicate 34 (.string ByteArray.empty)))),sh:=Zr 34}
def A6 :Ty:={aN:=(.func #[191] #[4] false),size:=1,bytes:=8,zero:=.nilFunc,sh:=gv}
def pF :List (List (Option Ty)):=[[some ty0,none,some wj,some Fs,some ty4,some NV,none,none,none,some ty9,none,none,none,none,none,none],
 [none,none,none,none,some GI,none,some xi,some rA,some BU,none,some GJ,some xj,some GK,none,none,none],
 [some BV,none,some xk,some GL,some BW,some GM,none,some GN,none,some GO,none,some BX,none,none,none,some GP],
 [some BY,none,some GQ,none,some GR,some GS,none,none,none,none,some GU,none,some GV,some GW,none,some GX],
 [none,some GY,some GZ,none,some G0,some G3,some G4,none,none,some G5,some G6,none,some G7,none,none,some G8],
 [some G9,some Ha,none,some Hb,none,some Hc,none,none,none,none,none,none,some Hd,none,some He,none],
 [some Hf,none,some Hg,none,none,some zx,none,none,none,none,none,none,none,none,none,some zy],
 [some sE,some zz,none,some zA,none,none,some zB,some zC,some zE,some zF,none,some zG,some zH,some zI,some zJ,some zK],
 [none,some zM,none,none,none,some zN,some zO,some zP,none,some zQ,some zR,none,some zS,none,some zT,none],
 [none,some zU,none,some zV,none,some zW,none,some zZ,none,none,none,none,none,some Aa,none,none],
 [none,none,none,some Ab,none,none,none,none,some Ac,none,some Ad,none,none,some Ae,none,none],
 [none,none,none,none,none,none,none,none,some sH,some qw,none,some Af,none,none,none,some vj],
 [some Ag,none,some Ah,none,some Ai,some Aj,none,some Ak,some Al,none,none,some qx,some Am,some sI,some An,none],
 [some Ao,none,some Ap,none,some Aq,none,none,some Ar,none,none,none,some As,none,none,none,some Au],
 [none,some Av,none,none,none,some Aw,none,some Ax,some Ay,none,some Az,none,none,some AA,none,some AB],
 [some AD,none,some AE,none,none,none,some AF,none,none,some AG,none,none,none,some AH,none,some AI],
 [none,some AJ,none,none,none,none,some AK,some AL,none,none,none,some AM,none,none,none,some AN],
 [none,none,some AO,some AP,none,none,none,none,none,none,none,some AQ,some AR,none,some AS,none],
 [none,none,none,some AT,none,some AU,none,none,some AV,none,none,some AW,none,none,some AX,none],
 [none,none,none,some AY,some AZ,none,none,some A0,none,none,some sJ,none,none,none,some A2,some A3],
 [none,some A4,none,some A5,none,none,none,some A6]]
def BZ (t:Nat):Option Ty:=match nth pF (t / 16) with
 | some r=>match nth r (t%16) with
  | some e=>e
  | none=>none
 | none=>none
def py :List (List Bool):=[[false,false,true,true,true,true,true,true,true,true,true,true,true,true,true,true],
 [true,true,true,true,true,true,true,true,true,true,true,true,true,true,true,true],
 [true,true,true,true,true,true,true,true,true,true,true,true,true,true,true,true],
 [true,true,true,true,true,true,true,true,true,true,true,true,true,true,true,true],
 [true,true,true,true,true,true,true,true,true,true,true,true,true,true,true,true],
 [true,true,true,true,true,true,true,true,true,true,true,true,true,true,true,true],
 [true,true,true,true,true,true,true,true,true,true,true,true,true,true,true,true],
 [true,true,true,true,true,true,true,true,true,true,true,true,true,true,true,true],
 [true,true,true,true,true,true,true,true,true,true,true,true,true,true,true,true],
 [true,true,true,true,true,true,true,true,true,true,true,true,true,true,true,true],
 [true,true,true,true,true,true,true,true,true,true,true,true,true,true,true,true],
 [true,true,true,true,true,true,true,true,true,true,true,true,true,false,true,true],
 [true,true,true,true,true,true,true,true,true,true,true,true,true,true,true,true],
 [true,true,true,true,true,true,true,true,true,true,true,true,true,true,true,true],
 [true,true,true,true,true,true,true,true,true,true,true,true,true,true,false,false],
 [true,true,true,true,true,false,true,true,false,true]]
def Bw (g:Nat):Bool:=match nth py (g / 16) with
 | some r=>match nth r (g%16) with
  | some e=>e
  | none=>false
 | none=>false
def uP (g:Nat):Option (Array Value->Sem Value):=cond (Nat.beq g 189) (some (Extern.SlicesOverlaps.overlaps #[205,205] #[4])) (cond (Nat.beq g 238) (some Extern.MathFloatBits.float64frombits) (cond (Nat.beq g 239) (some Extern.MathFloatBits.float64bits) (cond (Nat.beq g 248) (some Extern.BytealgIndexByte.indexByte) (none))))
def tb :Tb:={ty:=BZ,call:=Bw,ext:=uP}
abbrev zsl :Nat:=5
abbrev znk :Nat:=9
abbrev xu :Nat:=10
abbrev QS :Nat:=11
abbrev Ke :Nat:=12
abbrev QA :Nat:=17
abbrev Hr :Nat:=18
abbrev zwk :Nat:=19
abbrev zwl :Nat:=20
abbrev zfx :Nat:=21
abbrev tv :Nat:=22
abbrev La :Nat:=23
abbrev zmi :Nat:=26
abbrev QU :Nat:=35
abbrev xn :Nat:=36
abbrev Tq :Nat:=37
abbrev uf :Nat:=38
abbrev Ts :Nat:=39
abbrev Ux :Nat:=40
abbrev Fv :Nat:=41
abbrev MN :Nat:=42
abbrev U7 :Nat:=43
abbrev Da :Nat:=44
abbrev HO :Nat:=45
abbrev Hs :Nat:=46
abbrev P8 :Nat:=47
abbrev vo :Nat:=48
abbrev Mx :Nat:=49
abbrev zif :Nat:=50
abbrev YT :Nat:=51
abbrev UZ :Nat:=52
abbrev YV :Nat:=53
abbrev zls :Nat:=54
abbrev znl :Nat:=55
abbrev MP :Nat:=58
abbrev Hy :Nat:=59
abbrev MX :Nat:=60
abbrev Fw :Nat:=61
abbrev wz :Nat:=62
abbrev xA :Nat:=63
abbrev znm :Nat:=68
abbrev I6 :Nat:=74
abbrev Tu :Nat:=75
abbrev HE :Nat:=76
abbrev zqa :Nat:=77
abbrev wv :Nat:=78
abbrev RM :Nat:=79
abbrev RP :Nat:=80
abbrev QX :Nat:=81
abbrev Iw :Nat:=82
abbrev RU :Nat:=83
abbrev zwm :Nat:=84
abbrev QZ :Nat:=85
abbrev Nw :Nat:=86
abbrev Tw :Nat:=87
abbrev zva :Nat:=88
abbrev Nx :Nat:=89
abbrev Ny :Nat:=90
abbrev FA :Nat:=91
abbrev Db :Nat:=92
abbrev zyw :Nat:=93
abbrev CR :Nat:=94
abbrev Nz :Nat:=95
abbrev CS :Nat:=96
abbrev xv :Nat:=97
abbrev wx :Nat:=98
abbrev sK :Nat:=99
abbrev zqb :Nat:=100
abbrev MH :Nat:=101
abbrev Q1 :Nat:=102
abbrev M5 :Nat:=103
abbrev I7 :Nat:=104
abbrev HF :Nat:=105
abbrev MI :Nat:=106
abbrev MJ :Nat:=107
abbrev Qj :Nat:=110
abbrev OV :Nat:=111
abbrev VZ :Nat:=112
abbrev zrf :Nat:=123
abbrev SM :Nat:=124
abbrev RX :Nat:=125
abbrev Tz :Nat:=127
abbrev zml :Nat:=128
abbrev Co :Nat:=129
abbrev TC :Nat:=130
abbrev Qo :Nat:=131
abbrev UA :Nat:=132
abbrev MQ :Nat:=133
abbrev Np :Nat:=134
abbrev I8 :Nat:=135
abbrev zjr :Nat:=136
abbrev JP :Nat:=137
abbrev Qb :Nat:=138
abbrev zfh :Nat:=139
abbrev zfy :Nat:=140
abbrev MR :Nat:=141
abbrev Dc :Nat:=142
abbrev Cy :Nat:=143
abbrev Mw :Nat:=144
abbrev JQ :Nat:=145
abbrev OM :Nat:=146
abbrev Ym :Nat:=147
abbrev Q5 :Nat:=148
abbrev MB :Nat:=149
abbrev M6 :Nat:=150
abbrev MY :Nat:=151
abbrev Ht :Nat:=152
abbrev W5 :Nat:=153
abbrev V0 :Nat:=154
abbrev zvb :Nat:=155
abbrev Cp :Nat:=156
abbrev Hv :Nat:=157
abbrev wu :Nat:=158
abbrev zvc :Nat:=167
abbrev HH :Nat:=168
abbrev wB :Nat:=169
abbrev Dd :Nat:=170
abbrev Q6 :Nat:=171
abbrev Q8 :Nat:=172
abbrev MW :Nat:=173
abbrev MC :Nat:=174
abbrev MT :Nat:=175
abbrev H8 :Nat:=176
abbrev Nd :Nat:=177
abbrev znn :Nat:=179
abbrev Cc :Nat:=180
abbrev Nf :Nat:=181
abbrev De :Nat:=182
abbrev Ng :Nat:=183
abbrev JC :Nat:=184
abbrev zdk :Nat:=185
abbrev JD :Nat:=186
abbrev zrh :Nat:=187
abbrev zvd :Nat:=188
abbrev zfi :Nat:=190
abbrev V2 :Nat:=192
abbrev W8 :Nat:=193
abbrev CT :Nat:=194
abbrev zve :Nat:=195
abbrev RZ :Nat:=196
abbrev zmp :Nat:=197
abbrev Hw :Nat:=198
abbrev Lb :Nat:=199
abbrev vD :Nat:=202
abbrev CU :Nat:=203
abbrev vx :Nat:=204
abbrev EL :Nat:=205
abbrev EM :Nat:=206
abbrev zri :Nat:=207
abbrev QD :Nat:=208
abbrev Xb :Nat:=209
abbrev xw :Nat:=210
abbrev UB :Nat:=211
abbrev M7 :Nat:=212
abbrev Ja :Nat:=213
abbrev Jb :Nat:=214
abbrev Hz :Nat:=215
abbrev ztj :Nat:=216
abbrev V4 :Nat:=217
abbrev Yq :Nat:=218
abbrev V5 :Nat:=220
abbrev zdu :Nat:=221
abbrev ZF :Nat:=222
abbrev Lc :Nat:=223
abbrev J9 :Nat:=224
abbrev Eb :Nat:=225
abbrev CV :Nat:=226
abbrev FJ :Nat:=227
abbrev Ka :Nat:=228
abbrev Xe :Nat:=229
abbrev zyx :Nat:=230
abbrev zvf :Nat:=231
abbrev Wy :Nat:=232
abbrev Xh :Nat:=233
abbrev zdf :Nat:=236
abbrev MU :Nat:=237
abbrev zvg :Nat:=240
abbrev zyy :Nat:=241
end Lf
