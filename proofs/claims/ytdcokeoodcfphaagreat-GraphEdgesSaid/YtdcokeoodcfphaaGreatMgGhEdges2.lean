/-
  Part 3 of the texts that the claim leans on.
-/
import Derived.MapKept
import Derived.Test.YtdcokeoodcfphaaGreatRows
import Derived.Laws.Externs
import Derived.Test.YtdcokeoodcfphaaGreatMgGhEdges1
set_option maxRecDepth 100000
namespace Lf
open Go
def mX :cR:=⟨0,[],0,0,[],[]⟩
def jB :ai:=⟨0,0,[],0,0,false,0,[]⟩
def cq (t:fe):MS:=⟨t.tick,λi=>t.parts.getD i mX,λp=>t.procs.getD p jB⟩
theorem IN {l:List Int} (h:∀z∈l,l.countP (λy=>decide (y=z))<=1):l.Nodup:=by
 induction l with
 | nil=>simp
 | cons a l d=>
  rw [List.nodup_cons];refine ⟨λb=> ?_,d λz e=> ?_⟩
  ·have c:=h a (List.mem_cons_self ..);rw [List.countP_cons] at c;have:0<l.countP (λy=>decide (y=a)):=List.countP_pos_iff.2 ⟨a,b,by simp⟩;simp at c;exact absurd b (by
    intro b;have:=c a b;exact this rfl)
  grind
theorem Aq {c:Type} {f:c->Nat} {l:List c} {a:c} (h:a∈l):f a<=(l.map f).sum:=by
 induction l with
 | nil=>cases h
 | cons b l d=>grind
theorem zg {b:Type} {f:b->Nat} {l:List b} (h:(l.map f).sum≠0):∃a∈l,f a≠0:=by refine Classical.byContradiction λc=>h ?_;rw [List.sum_eq_zero_iff_forall_eq_nat];grind
section
variable {c:bd} {fl:Nat->Nat->Bool} {t:fe}
theorem yW (hp:t.parts.length=nP c) (d:t.procs.length=nQ c):(cq t).list c=t:=by
 have a:(List.range (nP c)).map (cq t).part=t.parts:=by
  refine List.ext_getElem? λj=> ?_;rw [List.getElem?_map];by_cases h:j<nP c
  ·rw [List.getElem?_range h,List.getElem?_eq_getElem (by omega)];simp [cq,List.getD,List.getElem?_eq_getElem (show j<t.parts.length by omega)]
  grind
 have b:(List.range (nQ c)).map (cq t).proc=t.procs:=by
  refine List.ext_getElem? λj=> ?_;rw [List.getElem?_map];by_cases h:j<nQ c
  ·rw [List.getElem?_range h,List.getElem?_eq_getElem (by omega)];simp [cq,List.getD,List.getElem?_eq_getElem (show j<t.procs.length by omega)]
  grind
 unfold MS.list;rw [a,b];rfl
theorem NH (m:cP c) {i:Nat} {st:fe}:∀ {l:List uh} {last:Int},qc c st i last l->l.Pairwise (λa b=>a.tick<=b.tick)/\∀e∈l,last<=e.tick/\e.tick<st.tick/\0<=e.proc/\e.proc.toNat<nQ c/\aH c e.proc.toNat=i
 | [],_,_=>⟨List.Pairwise.nil,λe h=>by cases h⟩
 | e::r,last,h=>by
  obtain ⟨f,g,j,k⟩:=h;obtain ⟨a,b⟩:=NH m k;refine ⟨List.pairwise_cons.2 ⟨λd he'=>(b d he').1,a⟩,λd he'=> ?_⟩;rcases List.mem_cons.1 he' with rfl | he'
  ·exact ⟨f,g,(vf m).1 j⟩
  grind
theorem E6 (m:cP c) (h:qJ c t λi y=>fl i y.toNat=true) (hr:∀x∈t.procs,x.aO.length=8):Good c fl (cq t) No No t.tick:=by
 obtain ⟨⟨hT,hp,hq⟩,hP,hQ,b5,b6,b0⟩:=h;have d1:=yW (c:=c) (t:=t) hp hq;have H:∀ {i},i<nP c->t.parts[i]? =some ((cq t).part i):=λ{i} hi=>by have:=Ml (c:=c) (s:=cq t) hi;grind
 have d:∀ {i},i<nQ c->t.procs[i]? =some ((cq t).proc i):=λ{i} hi=>by have:=yV (c:=c) (s:=cq t) hi;grind
 have c5:∀ {p:Int} {q:ai->Prop},qE t p q->p.toNat<nQ c->q ((cq t).proc p.toNat):=λ{p q} h hp=>by obtain ⟨x,A,G⟩:=h;grind
 have Z:∀ {p:Int} {q:ai->dF->Prop},xX c t p q->p.toNat<nQ c->∃n,dP c p.toNat ((cq t).proc p.toNat)=some n/\q ((cq t).proc p.toNat) n:=λ{p q} h hp=>by obtain ⟨x,y,n,A,G,R,e4⟩:=h;rw [d hp] at A;cases A;obtain ⟨y',f1,f2,f3⟩:=vc m hp;rw [G] at f1;cases f1;exact ⟨n,by rw [<-xa f3];exact R,e4⟩
 have c7:∀p,p<nQ c->∀j,j<nQ c->∀(i:Nat) l,((cq t).proc j).ae[i]? =some l->∀w∈l.waiters,w.proc=(p:Int)->((cq t).proc p).state=2:=λp hp j g i l K w F e=>by obtain ⟨y,f1,f2,f3⟩:=vc m g;have N:=(b6 j _ y (d g) f1 i l K w F).2.2.2.2;obtain ⟨n,_,D,_⟩:=Z N (by omega);rw [e,Int.toNat_natCast] at D;exact D
 have c6:∀p,p<nQ c->∀j,j<nP c->∀q∈((cq t).part j).ah,(p:Int)∈q->((cq t).proc p).state=3:=λp hp j g q W L=>by
  obtain ⟨k,hk,J⟩:=List.getElem_of_mem W;have V:((cq t).part j).ah[k]? =some q:=by grind
  obtain ⟨n,_,D,_⟩:=Z (b5 j _ (H g) k q V _ L).2.1 (by omega);rw [Int.toNat_natCast] at D;exact D
 refine ⟨hT.1,λi hi=> ?_,λp E=> ?_,λi hi k o ho=> ?_,λi hi k q c0=> ?_,λr b7 i l K=> ?_,λp E _ M=> ?_,λp E _ h2=> ?_⟩
 ·obtain ⟨⟨a1,a2,a3⟩,a4,a5,a6,a7,X,a9,_⟩:=hP i _ (H hi);obtain ⟨P,Q⟩:=NH m a4;exact ⟨⟨a1,by rw [Jh m] at a2;exact a2⟩,a3,⟨P,Q⟩,a5,a6,a7,X,a9⟩
 ·obtain ⟨y,f1,f2,f3⟩:=vc m E;obtain ⟨a1,a2,a3,a4,a5,a6,a7,X,a9,P,Q,b3,b4⟩:=hQ p _ y (d E) f1;rw [xa f3] at P Q b3 b4;rw [f3] at a2;refine ⟨a1,a2,a3,a4,a5,a6,.inr a7,λh=>⟨.inr (X h).1,(X h).2⟩,λi l K=> ?_,P,Q,b3,b4,hr _ (List.mem_of_getElem? (d E))⟩;obtain ⟨B,b,C,c4⟩:=a9 i l K;refine ⟨B,b,C,λhu hi=> ?_⟩;have:=c4 hu hi;rw [f2] at this;have this:fl i ((aH c p:Nat):Int).toNat=true:=this
  rwa [Int.toNat_natCast] at this
 ·by_cases e:o= -1
  ·exact .inl e
  ·obtain ⟨P,Q⟩:=(hP i _ (H hi)).2.2.2.2.2.2.2 o (List.mem_of_getElem? ho) e;obtain ⟨B,b,C⟩:=(vf m).1 P;exact .inr ⟨B,b,C,.inl (dp.2 (c5 Q b))⟩
 ·have I:=b5 i _ (H hi) k q c0;refine ⟨IN λz T=> ?_,λz T=> ?_,λc9=> ?_⟩
  ·obtain ⟨B,b,C⟩:=(vf m).1 (I z T).1;have M:=b0 z.toNat _ (d b);rw [show ((z.toNat:Nat):Int)=z by omega] at M;have S:q.countP (λy=>decide (y=z))<=gJ z ((cq t).part i):=Aq (f:=λq:List Int=>q.countP (λy=>decide (y=z))) (List.mem_of_getElem? c0);have N:gJ z ((cq t).part i)<=(t.parts.map (gJ z)).sum:=Aq (List.mem_of_getElem? (H hi));split at M<;>omega
  ·obtain ⟨B,b,C⟩:=(vf m).1 (I z T).1;obtain ⟨n,A,G,R⟩:=Z (I z T).2.1 b;obtain ⟨y,f1,f2,f3⟩:=vc m b;have N:=(hQ z.toNat _ y (d b) f1).2.2.2.2.2.2.2.2.2.2.2.1 G;obtain ⟨n',Y,g2⟩:=N;rw [xa f3,A] at Y;cases Y;exact ⟨B,b,C,λh=>h,.inr ⟨G,n,A,g2,R⟩⟩
  ·cases q with
   | nil=>grind
   | cons a r=>obtain ⟨o,A,G,R⟩:=(I a (List.mem_cons_self ..)).2.2;refine ⟨o,A,by omega,λL=> ?_⟩;grind
 ·obtain ⟨y,f1,f2,f3⟩:=vc m b7;have I:=b6 r _ y (d b7) f1 i l K;refine ⟨IN λz T=> ?_,λc9=> ?_,λw F=> ?_⟩
  ·obtain ⟨w,F,rfl⟩:=List.mem_map.1 T;obtain ⟨B,b,C⟩:=(vf m).1 (I w F).2.1;have M:=b0 w.proc.toNat _ (d b);rw [show ((w.proc.toNat:Nat):Int)=w.proc by omega] at M;have S:jo w.proc l<=j9 w.proc ((cq t).proc r):=Aq (List.mem_of_getElem? K);have N:j9 w.proc ((cq t).proc r)<=(t.procs.map (j9 w.proc)).sum:=Aq (List.mem_of_getElem? (d b7));rw [xb] at S;split at M<;>omega
  ·cases d2:l.waiters with
   | nil=>grind
   | cons a ws=>obtain ⟨A,_,R,e4,_⟩:=I a (by grind);exact ⟨by omega,.inl (dp.2 R),e4⟩
  ·obtain ⟨A,G,_,_,e5⟩:=I w F;obtain ⟨B,b,C⟩:=(vf m).1 G;obtain ⟨n,Y,g2,g3,g4,g5⟩:=Z e5 b;exact ⟨B,b,C,λh=>h,.inr ⟨g2,n,Y,g3,by simp [fy,List.getD,g4],by simp [fy,List.getD,g5]⟩⟩
 ·have S:=b0 p _ (d E);rw [if_pos (.inl M)] at S;have N:(t.procs.map (j9 (p:Int))).sum=0:=by
   rw [List.sum_eq_zero_iff_forall_eq_nat];intro y hy;obtain ⟨x,O,rfl⟩:=List.mem_map.1 hy;obtain ⟨j,g,J⟩:=List.getElem_of_mem O;have u:j<nQ c:=by have:t.procs.length=nQ c:=hq;omega
   have e:x=(cq t).proc j:=by have v:=d u;rw [List.getElem?_eq_getElem g,J] at v;exact Option.some.inj v
   subst e;refine DN λl K w F ew=> ?_;obtain ⟨i,hi,U⟩:=List.getElem_of_mem K;have:=c7 p E j u i l (by rw [List.getElem?_eq_getElem hi,U]) w F ew;omega
  have D:(t.parts.map (gJ (p:Int))).sum≠0:=by omega
  obtain ⟨x,O,b8⟩:=zg D;obtain ⟨j,g,J⟩:=List.getElem_of_mem O;have u:j<nP c:=by have:t.parts.length=nP c:=hp;omega
  have e:x=(cq t).part j:=by have v:=H u;rw [List.getElem?_eq_getElem g,J] at v;exact Option.some.inj v
  subst e;obtain ⟨q,W,d0⟩:=zg b8;obtain ⟨k,hk,U⟩:=List.getElem_of_mem W;have V:((cq t).part j).ah[k]? =some q:=by rw [List.getElem?_eq_getElem hk,U]
  have L:(p:Int)∈q:=Classical.byContradiction λhn=>d0 (FJ hn);have h7:=((vf m).1 (b5 j _ (H u) k q V _ L).1).2.2;rw [Int.toNat_natCast] at h7;grind
 ·have S:=b0 p _ (d E);rw [if_pos (.inr h2)] at S;have N:(t.parts.map (gJ (p:Int))).sum=0:=by
   rw [List.sum_eq_zero_iff_forall_eq_nat];intro y hy;obtain ⟨x,O,rfl⟩:=List.mem_map.1 hy;obtain ⟨j,g,J⟩:=List.getElem_of_mem O;have u:j<nP c:=by have:t.parts.length=nP c:=hp;omega
   have e:x=(cq t).part j:=by have v:=H u;rw [List.getElem?_eq_getElem g,J] at v;exact Option.some.inj v
   subst e;refine DM λq W L=> ?_;have:=c6 p E j u q W L;omega
  have D:(t.procs.map (j9 (p:Int))).sum≠0:=by omega
  obtain ⟨x,O,b8⟩:=zg D;obtain ⟨j,g,J⟩:=List.getElem_of_mem O;have u:j<nQ c:=by have:t.procs.length=nQ c:=hq;omega
  have e:x=(cq t).proc j:=by have v:=d u;rw [List.getElem?_eq_getElem g,J] at v;exact Option.some.inj v
  subst e;obtain ⟨l,c8,b9⟩:=zg b8;obtain ⟨i,hi,U⟩:=List.getElem_of_mem c8;have V:((cq t).proc j).ae[i]? =some l:=by rw [List.getElem?_eq_getElem hi,U]
  rw [xb] at b9;have L:(p:Int)∈l.waiters.map (·.proc):=Classical.byContradiction λhn=>b9 (FJ hn);obtain ⟨w,F,e⟩:=List.mem_map.1 L;obtain ⟨y,f1,f2,f3⟩:=vc m u;have h7:=((vf m).1 (b6 j _ y (d u) f1 i l V w F).2.1).2.2;rw [e,Int.toNat_natCast] at h7;grind
end
def fa (a:List (Int×Int)) (l:List (Int×Int)):List (Int×Int):=l.foldl (λm z=>gC z.1 z.2 m) a
theorem DO {a l:List (Int×Int)} {z:Int×Int}:fa a (l++ [z])=gC z.1 z.2 (fa a l):=by simp [fa]
def Bl (l:List (Int×Int)):Prop:=∀z∈l,∀a∈l,z.1=a.1->z.2=a.2
theorem NI {b:Type} {P:List b->Prop} (c:P []) (d:∀l a,P l->P (l++ [a])) (l:List b):P l:=by
 rw [<-List.reverse_reverse l]
 induction l.reverse with
 | nil=>exact c
 | cons a l e=>grind
theorem wP {l:List (Int×Int)}:Bl l->∀ {a v:Int},cN a (fa [] l)=some v↔(a,v)∈l:=by
 induction l using NI
 ·intro _ a v;exact ⟨λh=>(by cases h),λh=>(by cases h)⟩
 ·rename_i l z f;intro u a v;have g:Bl l:=λx c y d=>u x (List.mem_append_left _ c) y (List.mem_append_left _ d);rw [DO,xh];by_cases h:a=z.1
  ·rw [if_pos h];constructor
   ·intro e;have e:=Option.some.inj e;refine List.mem_append_right _ ?_;rw [List.mem_singleton,h,<-e]
   ·intro b;rw [u z (List.mem_append_right _ (List.mem_singleton.2 rfl)) (a,v) b h.symm]
  grind
theorem CV {l:List (Int×Int)}:((fa [] l).map (·.1)).Nodup:=by
 induction l using NI
 ·exact List.nodup_nil
 ·rename_i l z a;rw [DO];exact M5 _ _ a
section
variable {c:bd} {t:fe} {room:Bool}
def qK (x:cR) (k:Nat):List (Int×Int):=(x.ah.getD k []).map λp=>(p,x.av.getD k 0)
def qI (x:cR):List (Int×Int):=(List.range x.ah.length).flatMap (qK x)
def wE (room:Bool) (q:Nat) (a:List ly):List (Int×Int):=if room then a.map λw=>(w.proc,(q:Int)) else []
def lI (room:Bool) (q:Nat) (x:ai):List (Int×Int):=x.ae.flatMap λl=>wE room q l.waiters
def lP (t:fe) (room:Bool):List (Int×Int):=t.parts.flatMap qI++(List.range t.procs.length).flatMap λq=>lI room q (t.procs.getD q jB)
theorem vV {x:cR} {p v:Int}:(p,v)∈qI x↔∃(k:Nat) (q:List Int),x.ah[k]? =some q/\p∈q/\v=x.av.getD k 0:=by
 unfold qI;rw [List.mem_flatMap];constructor
 ·rintro ⟨k,a,b⟩;have a:=List.mem_range.1 a;obtain ⟨d,hp,e⟩:=List.mem_map.1 b;grind
 ·rintro ⟨k,q,a,hp,rfl⟩;refine ⟨k,List.mem_range.2 (List.getElem?_eq_some_iff.1 a).1,List.mem_map.2 ⟨p,?_,rfl⟩⟩;grind
theorem vU {x:ai} {q:Nat} {p v:Int}:(p,v)∈lI room q x↔room=true/\v=(q:Int)/\∃l∈x.ae,∃w∈l.waiters,w.proc=p:=by unfold lI wE;grind
theorem iS {p v:Int}:(p,v)∈lP t room↔(∃(i:Nat) (x:cR) (k:Nat) (q:List Int),t.parts[i]? =some x/\x.ah[k]? =some q/\p∈q/\v=x.av.getD k 0)\/(room=true/\∃(r:Nat) (x:ai),t.procs[r]? =some x/\v=(r:Int)/\∃l∈x.ae,∃w∈l.waiters,w.proc=p):=by
 unfold lP;rw [List.mem_append,List.mem_flatMap,List.mem_flatMap];refine or_congr ⟨?_,?_⟩ ⟨?_,?_⟩
 ·rintro ⟨x,g,b⟩;obtain ⟨i,hi⟩:=List.mem_iff_getElem?.1 g;obtain ⟨k,q,h⟩:=vV.1 b;grind
 ·rintro ⟨i,x,k,q,hi,h⟩;exact ⟨x,List.mem_of_getElem? hi,vV.2 ⟨k,q,h⟩⟩
 ·rintro ⟨r,a,b⟩;have a:=List.mem_range.1 a;obtain ⟨d,e,f⟩:=vU.1 b;grind
 ·rintro ⟨d,r,x,a,e,f⟩;refine ⟨r,List.mem_range.2 (List.getElem?_eq_some_iff.1 a).1,vU.2 ⟨d,e,?_⟩⟩;grind
theorem xo (a:sc c t) {i:Nat} {x:cR} {k:Nat} {q:List Int} {p:Int} (hi:t.parts[i]? =some x) (b:x.ah[k]? =some q) (hp:p∈q):jR c p i/\(xX c t p λz n=>z.state=3/\n.kf=(k:Int)):=⟨(a.1 i x hi k q b p hp).1,(a.1 i x hi k q b p hp).2.1⟩
theorem Ar (b:sc c t) (j:t.procs.length=c.procs.length) {r:Nat} {x:ai} {l:br} {w:ly} (a:t.procs[r]? =some x) (d:l∈x.ae) (e:w∈l.waiters):(∃i,jR c w.proc i)/\rP c t w.proc w.value r:=by have h:=(List.getElem?_eq_some_iff.1 a).1;obtain ⟨i,hi⟩:=List.mem_iff_getElem?.1 d;obtain ⟨_,f,_,_,g⟩:=b.2.1 r x _ a (List.getElem?_eq_getElem (by omega)) i l hi w e;grind
theorem E7 {p:Int} {f g:ai->dF->Prop} (a:xX c t p f) (b:xX c t p g):∃x n,f x n/\g x n:=by obtain ⟨x,y,n,a1,a2,a3,a4⟩:=a;obtain ⟨k,l,j,d,e,h,i⟩:=b;grind
theorem Wy {p:Int} {i j:Nat} (a:jR c p i) (b:jR c p j):i=j:=by obtain ⟨_,y,a1,a2⟩:=a;obtain ⟨_,f,d,e⟩:=b;grind
theorem El (d:sc c t) (h:t.procs.length=c.procs.length) {i:Nat} {x:cR} {k:Nat} {q:List Int} {p:Int} (hi:t.parts[i]? =some x) (f:x.ah[k]? =some q) (hp:p∈q) {r:Nat} {y:ai} {l:br} {w:ly} (j:t.procs[r]? =some y) (g:l∈y.ae) (m:w∈l.waiters):w.proc≠p:=λe=>by subst e;obtain ⟨z,n,⟨a,_⟩,b,_⟩:=E7 (xo d hi f hp).2 (Ar d h j g m).2;omega
theorem GC (f:sc c t) {i j:Nat} {x y:cR} {k l:Nat} {q r:List Int} {p:Int} (hi:t.parts[i]? =some x) (h:x.ah[k]? =some q) (hp:p∈q) (g:t.parts[j]? =some y) (m:y.ah[l]? =some r) (o:p∈r):i=j/\k=l:=by have d:=xo f hi h hp;have e:=xo f g m o;obtain ⟨z,n,⟨_,a⟩,_,b⟩:=E7 d.2 e.2;exact ⟨Wy d.1 e.1,by omega⟩
theorem Gs (f:sc c t) (g:t.procs.length=c.procs.length) {r i:Nat} {x k:ai} {l h:br} {w j:ly} (q:t.procs[r]? =some x) (o:l∈x.ae) (u:w∈l.waiters) (s:t.procs[i]? =some k) (p:h∈k.ae) (v:j∈h.waiters) (e:w.proc=j.proc):r=i:=by have m:=(Ar f g q o u).2;have d:=(Ar f g s p v).2;rw [<-e] at d;obtain ⟨z,n,⟨_,_,a,_⟩,_,_,b,_⟩:=E7 m d;grind
theorem As (o:sc c t) (u:t.procs.length=c.procs.length):Bl (lP t room):=by
 rintro ⟨p,v⟩ h ⟨C,D⟩ B e;have e:p=C:=e;subst e;show v=D;rcases iS.1 h with ⟨i,x,k,q,f,g,n,rfl⟩ | ⟨_,r,x,f,rfl,l,g,w,n,A⟩<;>rcases iS.1 B with ⟨j,y,m,s,a,b,d,rfl⟩ | ⟨_,F,H,a,rfl,E,b,G,d,z⟩
 ·obtain ⟨rfl,rfl⟩:=GC o f g n a b d;grind
 ·exact absurd z (El o u f g n a b d)
 ·exact absurd A (El o u a b d f g n)
 ·rw [Gs o u f g n a b d (A.trans z.symm)]
theorem wh (e:sc c t) (f:t.procs.length=c.procs.length) {p v:Int} (h:(p,v)∈lP t room):0<=p/\p<(t.procs.length:Int):=by
 have key:∀ {i:Nat},jR c p i->0<=p/\p<(t.procs.length:Int):=λ{i} ⟨g,y,a,_⟩=>by grind
 rcases iS.1 h with ⟨i,x,k,q,a,b,d,rfl⟩ | ⟨_,r,x,a,rfl,l,b,w,d,rfl⟩
 ·exact key (xo e a b d).1
 ·obtain ⟨⟨i,hi⟩,_⟩:=Ar e f a b d;exact key hi
def jr (t:fe) (room:Bool) (n:Nat):List (Int×Int):=(List.range n).filterMap λp:Nat=>(cN (p:Int) (fa [] (lP t room))).map λv=>((p:Int),v)
theorem Lv {n:Nat}:jr t room (n+1)=jr t room n++((cN (n:Int) (fa [] (lP t room))).map λv=>((n:Int),v)).toList:=by unfold jr;rw [List.range_succ,List.filterMap_append];congr 1
theorem Mm {n:Nat} {z:Int×Int} (h:z∈jr t room n):cN z.1 (fa [] (lP t room))=some z.2:=by
 obtain ⟨p,_,e⟩:=List.mem_filterMap.1 h;cases a:cN (p:Int) (fa [] (lP t room)) with
 | none=>grind
 | some v=>grind
theorem Mn {n:Nat}:(jr t room n).map (·.1)=((List.range n).filter λp:Nat=>(cN (p:Int) (fa [] (lP t room))).isSome).map λp:Nat=>(p:Int):=by
 induction n with
 | zero=>rfl
 | succ n a=>rw [Lv,List.map_append,a,List.range_succ,List.filter_append,List.map_append];congr 1;cases h:cN (n:Int) (fa [] (lP t room))<;>simp [h]
theorem Sd (d:sc c t) (f:t.procs.length=c.procs.length) {a:List Int} (g:a.Pairwise (· < ·)) (j:∀x,x∈a↔x∈(fa [] (lP t room)).map (·.1)):
  a.map (λk=>(k,(cN k (fa [] (lP t room))).getD 0))=jr t room t.procs.length:=by
 have one:=As (room:=room) d f;have e:a=(jr t room t.procs.length).map (·.1):=by
  refine KD g ?_ λx=> ?_
  ·rw [Mn,List.pairwise_map];refine List.Pairwise.imp ?_ (List.Pairwise.filter _ List.pairwise_lt_range);omega
  ·rw [j x,Mn];constructor
   ·intro h;obtain ⟨z,b,rfl⟩:=List.mem_map.1 h;have i:=PD CV (show (z.1,z.2)∈fa [] (lP t room) from b);obtain ⟨n,o⟩:=wh d f ((wP one).1 i);have m:((z.1.toNat:Nat):Int)=z.1:=by omega
    grind
   ·intro h;obtain ⟨p,hp,rfl⟩:=List.mem_map.1 h;obtain ⟨_,l⟩:=List.mem_filter.1 hp;obtain ⟨v,hv⟩:=Option.isSome_iff_exists.1 l;exact List.mem_map.2 ⟨_,Eh hv,rfl⟩
 rw [e,List.map_map];refine (List.map_congr_left λz b=> ?_).trans (List.map_id _);show (z.1,(cN z.1 (fa [] (lP t room))).getD 0)=z;rw [Mm b];rfl
end
end Lf
namespace Lf
open Go Go.MapKept
section
variable {V:Type} {h:Hp} {m:Nat} {k:IntKind} {ev:V->Value} {c:List (Int×V)}
def dC (h:Hp) (m:Nat) (k:IntKind) (ev:V->Value) (c:List (Int×V)):Prop:=
 ∃(a:List MapEntry) (ck:Nat),h m=some (.map a.toArray ck)/\a.map (λe=>(e.key,e.val))=c.map (λp=>(Value.int k p.1,ev p.2))/\
  (∀x∈a,x.born<ck)/\(a.map (·.born)).Nodup/\(c.map (·.1)).Nodup
theorem dC.kv (s:dC h m k ev c):gz h m k ev c:=by obtain ⟨d,ck,a,b,_⟩:=s;exact ⟨d,ck,a,b⟩
theorem dC.nodup (s:dC h m k ev c):(c.map (·.1)).Nodup:=by obtain ⟨e,ck,b,d,_,_,a⟩:=s;exact a
theorem dC.same {a:Hp} (s:dC h m k ev c) (e:a m=h m):dC a m k ev c:=by obtain ⟨f,ck,b,d⟩:=s;exact ⟨f,ck,by rw [e];exact b,d⟩
theorem dC.mono {a:Hp} (s:dC h m k ev c) (e:h<=a):dC a m k ev c:=by obtain ⟨f,ck,b,d⟩:=s;exact ⟨f,ck,e _ _ b,d⟩
theorem dC.mv {b:Hp} {F d:List Nat} (s:dC h m k ev c) (a:Mv F h d b) (g:m∉F):dC b m k ev c:=by obtain ⟨i,ck,e,f⟩:=s;exact ⟨i,ck,a.cT _ _ e g,f⟩
theorem dC.known (s:dC h m k ev c):h m≠none:=by obtain ⟨d,ck,a,b⟩:=s;rw [a];simp
theorem dC.new {b:Nat}:dC (h.set b (.map #[] 0)) b k ev []:=⟨[],0,kK,rfl,λ_ h=>(by cases h),List.nodup_nil,List.nodup_nil⟩
theorem Km {b:List MapEntry} {i:Nat} {a:Int} {v:Value}:(b.modify i λe=>{e with key:=.int k a,val:=v}).map (·.born)=b.map (·.born):=by
 induction b generalizing i with
 | nil=>simp
 | cons x r d=>grind
theorem Em {a:Int} {v:V} {K:Hp->Prop} (r:dC h m k ev c) (j:∀o,isCells o=false->dC (h.set m o) m k ev (gC a v c)->K (h.set m o)):tZ (.int k) (some m) (.int k a) (ev v) K h:=by
 obtain ⟨b,ck,l,g,n,q,i⟩:=r;have d:=w9 (ev:=ev) a b c 0 g;refine ⟨m,b.toArray,ck,rfl,l,?_⟩;cases hi:jw a c with
 | none=>
  rw [hi] at d;refine .inl ⟨d,j _ rfl ⟨b++ [{key:=.int k a,val:=ev v,born:=ck}],ck+1,?_,?_,λx hx=> ?_,?_,M5 a v i⟩⟩
  ·rw [kK];simp
  ·rw [DI hi];simp [g]
  ·rcases List.mem_append.1 hx with hx | hx
   ·exact Nat.lt_succ_of_lt (n x hx)
   ·rw [List.mem_singleton.1 hx];exact Nat.lt_succ_self _
  grind
 | some p=>
  rw [hi] at d;refine .inr ⟨p.1,ev p.2,d,j _ rfl ⟨b.modify p.1 λe=>{e with key:=.int k a,val:=ev v},ck,?_,Ej (u:=p.2) g hi,λx hx=> ?_,?_,M5 a v i⟩⟩
  ·rw [kK];simp
  ·have:x.born∈(b.modify p.1 λe=>{e with key:=.int k a,val:=ev v}).map (·.born):=List.mem_map_of_mem (f:=(·.born)) hx;rw [Km] at this;grind
  ·rw [Km];exact q
def qi (h:Hp) (r m:Nat) (k:IntKind) (ev:V->Value) (c:List (Int×V)) (b:List Int):Prop:=
 ∃(a done:List MapEntry) (ck:Nat),h m=some (.map a.toArray ck)/\a.map (λe=>(e.key,e.val))=c.map (λp=>(Value.int k p.1,ev p.2))/\
  (∀x∈a,x.born<ck)/\(a.map (·.born)).Nodup/\(c.map (·.1)).Nodup/\
  h r=some (.mapIter (some m) ck (done.map (·.born)).toArray ck)/\(∀x∈done,x∈a)/\done.map (·.key)=b.map (Value.int k)
theorem qi.map {r:Nat} {g:List Int} (w:qi h r m k ev c g):dC h m k ev c:=by obtain ⟨i,done,ck,a,b,d,e,f,_⟩:=w;exact ⟨i,ck,a,b,d,e,f⟩
theorem qi.mv {r:Nat} {d:List Int} {b:Hp} {F e:List Nat} (w:qi h r m k ev c d) (a:Mv F h e b) (p:m∉F) (q:r∉F):qi b r m k ev c d:=by obtain ⟨s,done,ck,f,g,i,j,l,n,o⟩:=w;exact ⟨s,done,ck,a.cT _ _ f p,g,i,j,l,a.cT _ _ n q,o⟩
theorem qi.known {r:Nat} {b:List Int} (w:qi h r m k ev c b):h r≠none:=by obtain ⟨l,done,ck,d,e,f,g,i,a,j⟩:=w;rw [a];simp
theorem Kn {P:Program} {n:Nat} {d:Type} {f:Nat->Sem d} {K:d->Hp->Prop} (b:0<n) (a:∀i,i<n->dg P (f i) K h):dg P (choose (.mapNext n)>>=f) K h:=by
 show dg P (.choose (.mapNext n) f) K h;simp only [dg];split
 ·exact a 0 b
 ·exact λt=>a _ (Nat.mod_lt _ b)
theorem WB {a:List MapEntry} (nd:(a.map (·.key)).Nodup) {x y:MapEntry} (d:x∈a) (f:y∈a) (e:x.key=y.key):x=y:=by
 obtain ⟨i,hi,rfl⟩:=List.mem_iff_getElem.1 d;obtain ⟨j,b,rfl⟩:=List.mem_iff_getElem.1 f;have:i=j:=by refine (List.getElem_inj (xs:=a.map (·.key)) (h₀:=by simpa using hi) (h₁:=by simpa using b) nd).1 ?_;simpa using e
 subst this;rfl
theorem Lw {a:List Int} (nd:a.Nodup):(a.map (Value.int k)).Nodup:=by grind
theorem Jm {a:List MapEntry} (e:a.map (λe=>(e.key,e.val))=c.map (λp=>(Value.int k p.1,ev p.2))):a.map (·.key)=(c.map (·.1)).map (Value.int k):=by have:=congrArg (List.map Prod.fst) e;simpa [List.map_map,Function.comp_def] using this
theorem Ux {a:List MapEntry} (nd:(a.map (·.born)).Nodup) {x y:MapEntry} (d:x∈a) (f:y∈a) (e:x.born=y.born):x=y:=by
 obtain ⟨i,hi,rfl⟩:=List.mem_iff_getElem.1 d;obtain ⟨j,b,rfl⟩:=List.mem_iff_getElem.1 f;have:i=j:=by refine (List.getElem_inj (xs:=a.map (·.born)) (h₀:=by simpa using hi) (h₁:=by simpa using b) nd).1 ?_;simpa using e
 subst this;rfl
theorem tJ {P:Program} {t r:Nat} {s:List Int} {K:AA->Hp->Prop} (w:qi h r m k ev c s)
  (M:∀rest,(∀p∈c,p.1∈s)->K ⟨false,rest⟩ h)
  (N:∀a v rest D,(a,v)∈c->a∉s->Mv [r] h [r] D->qi D r m k ev c (s++ [a])->K ⟨true,rest⟩ D):ji P (Instr.next (.pointer (some ⟨r,0,none⟩)) false t) Ks K h:=by
 obtain ⟨g,done,ck,u,y,L,E,F,A,B,G⟩:=w;have a9:=Jm y;unfold ji;refine ⟨_,A,rfl,?_⟩;show dg P (α:=Value) (.getObj m λo=>_) _ h;refine ⟨_,u,rfl,?_⟩;have b4:¬((!(done.map (·.born)).toArray.isEmpty&& !g.toArray.isEmpty&&g.toArray.all λx=>decide (x.born>=ck))=true):=by
  intro H;simp only [Bool.and_eq_true] at H;obtain ⟨⟨_,b2⟩,b6⟩:=H;cases g with
  | nil=>simp at b2
  | cons x r=>grind
 show dg P (α:=Value) (if _ then _ else _) _ h;rw [if_neg b4];dsimp only;have hold:((g.toArray.filter λe=> !((done.map (·.born)).toArray.contains e.born)).filter λx=>decide (x.born<ck))=(g.filter λe=> !((done.map (·.born)).contains e.born)).toArray:=by
  have C:(g.toArray.filter λe=> !((done.map (·.born)).toArray.contains e.born))=(g.filter λe=> !((done.map (·.born)).contains e.born)).toArray:=by simp
  rw [C,List.filter_toArray];congr 1;refine List.filter_eq_self.2 λx hx=> ?_;grind
 have b3:((g.toArray.filter λe=> !((done.map (·.born)).toArray.contains e.born)).filter λx=>decide (x.born>=ck))= #[]:=by
  have C:(g.toArray.filter λe=> !((done.map (·.born)).toArray.contains e.born))=(g.filter λe=> !((done.map (·.born)).contains e.born)).toArray:=by simp
  rw [C,List.filter_toArray];have:(g.filter λe=> !((done.map (·.born)).contains e.born)).filter (λx=>decide (x.born>=ck))=[]:=by refine List.filter_eq_nil_iff.2 λx hx=> ?_;grind
  rw [this]
 rw [hold,b3];generalize c0:(g.filter λe=> !((done.map (·.born)).contains e.born))=left;have I:∀x,x∈left↔x∈g/\x.born∉done.map (·.born):=λx=>by grind
 cases left with
 | nil=>
  refine Kn (n:=_) (by simp) λi hi=> ?_;have Y:i=0:=by simp at hi;omega
  subst Y;have Q:((if (([]:List MapEntry).toArray.isEmpty)=true then #[(none:Option MapEntry)] else #[])++Array.map some (([]:List MapEntry).toArray++ #[]))[0]? =some none:=by simp
  rw [Q];refine ⟨⟨false,[]⟩,rfl,M [] λp hp=> ?_⟩;have:(Value.int k p.1,ev p.2)∈g.map (λe=>(e.key,e.val)):=by rw [y];exact List.mem_map_of_mem (f:=λp=>(Value.int k p.1,ev p.2)) hp
  obtain ⟨e,q,b7⟩:=List.mem_map.1 this;have Z:e.born∈done.map (·.born):=Classical.byContradiction λhn=>by have:=(I e).2 ⟨q,hn⟩;cases this
  obtain ⟨d,z,S⟩:=List.mem_map.1 Z;have T:d=e:=Ux E (B d z) q S;subst T;have b9:d.key∈s.map (Value.int k):=by rw [<-G];exact List.mem_map_of_mem (f:=(·.key)) z
  grind
 | cons j l=>
  have R:((if ((j::l).toArray.isEmpty)=true then #[(none:Option MapEntry)] else #[])++Array.map some ((j::l).toArray++ #[]))=((j::l).map some).toArray:=by simp
  rw [R];refine Kn (n:=_) (by simp) λi hi=> ?_;have b8:i<(j::l).length:=by simpa using hi
  have X:((j::l).map some).toArray[i]? =some (some ((j::l)[i])):=by grind
  rw [X];generalize hx:(j::l)[i]=e;have W:e∈j::l:=by grind
  obtain ⟨q,c1⟩:=(I e).1 W;have:(e.key,e.val)∈c.map (λp=>(Value.int k p.1,ev p.2)):=by rw [<-y];exact List.mem_map_of_mem (f:=λe=>(e.key,e.val)) q
  obtain ⟨p,hp,b5⟩:=List.mem_map.1 this;have a8:e.key=.int k p.1:=(congrArg Prod.fst b5).symm;have b1:(g.map (·.key)).Nodup:=by rw [a9];exact Lw F
  refine ⟨⟨_,A,rfl⟩,⟨true,[e.key,e.val]⟩,rfl,?_⟩;refine N p.1 p.2 _ _ hp (λO=> ?_) (Mv.jA λb hb=>by simp [Hp.set,hb]) ?_
  ·have:Value.int k p.1∈done.map (·.key):=by rw [G];exact List.mem_map_of_mem (f:=Value.int k) O
   obtain ⟨d,z,U⟩:=List.mem_map.1 this;have:=WB b1 (B d z) q (U.trans a8.symm);grind
  ·have b0:m≠r:=λJ=>by rw [J,A] at u;cases u
   refine ⟨g,done++ [e],ck,?_,y,L,E,F,?_,λx hx=> ?_,?_⟩
   ·simp [Hp.set,b0,u]
   ·rw [kK];simp
   ·rcases List.mem_append.1 hx with hx | hx
    ·exact B x hx
    ·rw [List.mem_singleton.1 hx];exact q
   grind
end
end Lf
namespace Lf
section
variable {N:Int->Option Int}
def mn (N:Int->Option Int):Nat->Int->Option Int
 | 0,p=>some p
 | n+1,p=>(N p).bind (mn N n)
theorem xc :∀(m n:Nat) (p:Int),mn N (m+n) p=(mn N m p).bind (mn N n)
 | 0,n,p=>by simp [mn]
 | m+1,n,p=>by
  rw [show m+1+n=(m+n)+1 by omega];simp only [mn];cases N p with
  | none=>rfl
  | some q=>exact xc m n q
theorem NJ (n:Nat) (p:Int):mn N (n+1) p=(mn N n p).bind N:=by rw [xc n 1 p];congr 1;funext x;simp only [mn];cases N x<;>rfl
def qC (N:Int->Option Int) (p:Int):Prop:=∀n,mn N n p≠none
theorem Uz {p q:Int} (h:N p=some q):qC N p↔qC N q:=by
 constructor
 ·intro hp n;have:=hp (n+1);simp only [mn,h] at this;exact this
 ·intro a n;cases n with
  | zero=>simp [mn]
  | succ n=>simp only [mn,h];exact a n
theorem Jo {p:Int} (h:N p=none):¬qC N p:=λhp=>hp 1 (by simp [mn,h])
theorem DS {p x:Int} {n:Nat} (h:mn N n p=some x):qC N p↔qC N x:=by
 induction n generalizing p with
 | zero=>cases h;exact Iff.rfl
 | succ n a=>
  simp only [mn] at h;cases hp:N p with
  | none=>grind
  | some q=>rw [hp] at h;exact (Uz hp).trans (a h)
structure te (N:Int->Option Int) (c:List Int):Prop where
 ne:0<c.length
 nd:c.Nodup
 nx:∀i,i<c.length->N (c.getD i 0)=some (c.getD ((i+1)%c.length) 0)
theorem zT {c:List Int} {i:Nat} (h:i<c.length):c.getD i 0=c[i]:=by simp [h]
theorem En {c:List Int} {i:Nat} (h:i<c.length):c.getD i 0∈c:=by grind
theorem wQ {c:List Int} {x:Int} (h:x∈c):∃i,i<c.length/\c.getD i 0=x:=by obtain ⟨i,hi,e⟩:=List.mem_iff_getElem.1 h;exact ⟨i,hi,by grind⟩
theorem NK {c:List Int} (nd:c.Nodup) {i j:Nat} (hi:i<c.length) (a:j<c.length) (h:c.getD i 0=c.getD j 0):i=j:=by rw [zT hi,zT a] at h;exact (List.getElem_inj nd).1 h
theorem te.it {c:List Int} (h:te N c):∀(j:Nat) {i:Nat},i<c.length->mn N j (c.getD i 0)=some (c.getD ((i+j)%c.length) 0)
 | 0,i,hi=>by simp only [mn,Nat.add_zero,Nat.mod_eq_of_lt hi]
 | j+1,i,hi=>by simp only [mn,h.nx i hi,Option.bind_some];rw [h.it j (Nat.mod_lt _ h.ne)];congr 2;rw [Nat.mod_add_mod];congr 1;omega
theorem te.inf {c:List Int} (h:te N c) {x:Int} (a:x∈c):qC N x:=by obtain ⟨i,hi,rfl⟩:=wQ a;intro n;rw [h.it n hi];simp
theorem te.stay {c:List Int} (h:te N c) {x y:Int} (a:x∈c) {n:Nat} (e:mn N n x=some y):y∈c:=by obtain ⟨i,hi,rfl⟩:=wQ a;rw [h.it n hi] at e;cases e;exact En (Nat.mod_lt _ h.ne)
theorem te.all {c:List Int} (h:te N c) {x y:Int} (b:x∈c) (d:y∈c):∃n,mn N n x=some y:=by
 obtain ⟨i,hi,rfl⟩:=wQ b;obtain ⟨j,a,rfl⟩:=wQ d;refine ⟨c.length-i+j,?_⟩;rw [h.it _ hi];have:i+(c.length-i+j)=c.length+j:=by omega
 rw [this,Nat.add_mod_left,Nat.mod_eq_of_lt a]
theorem NL {c:List Int} {a i:Nat} (f:a<=c.length) (hi:i<c.length):(c.drop a++c.take a).getD i 0=c.getD ((a+i)%c.length) 0:=by
 have d:(c.drop a).length=c.length-a:=List.length_drop;have g:(c.take a).length=a:=by grind
 by_cases h:i<c.length-a
 ·have b:(c.drop a++c.take a)[i]? =c[a+i]?:=by grind
  rw [List.getD_eq_getElem?_getD,List.getD_eq_getElem?_getD,b,Nat.mod_eq_of_lt (by omega)]
 ·have b:(c.drop a++c.take a)[i]? =c[i-(c.length-a)]?:=by rw [List.getElem?_append_right (by omega),d,List.getElem?_take,if_pos (by omega)]
  have e:(a+i)%c.length=i-(c.length-a):=by
   have:a+i=(i-(c.length-a))+c.length:=by omega
   rw [this,Nat.add_mod_right,Nat.mod_eq_of_lt (by omega)]
  grind
theorem Eo (c:List Int) (a:Nat):(c.drop a++c.take a).Perm c:=by have:= @List.perm_append_comm _ (c.drop a) (c.take a);rw [List.take_append_drop] at this;exact this
theorem te.rot {c:List Int} (h:te N c) {a:Nat} (d:a<=c.length):te N (c.drop a++c.take a):=by have f:(c.drop a++c.take a).length=c.length:=(Eo c a).length_eq;have b:=h.ne;refine ⟨by omega,(Eo c a).nodup_iff.2 h.nd,λi hi=> ?_⟩;rw [f] at hi ⊢;have e:(i+1)%c.length<c.length:=Nat.mod_lt _ b;rw [NL d hi,NL d e,h.nx _ (Nat.mod_lt _ b),Nat.mod_add_mod,Nat.add_mod_mod];rfl
structure Ring (N:Int->Option Int) (c:List Int):Prop extends te N c where
 low:∀x∈c,c.getD 0 0<=x
theorem NM {c d:List Int} (e:Ring N c) (f:Ring N d) {x:Int} (l:x∈c) (m:x∈d):c=d:=by
 have p:∀y,y∈c->y∈d:=λy k=>by obtain ⟨n,j⟩:=e.all l k;exact f.stay m j
 have s:∀y,y∈d->y∈c:=λy k=>by obtain ⟨n,j⟩:=f.all m k;exact e.stay l j
 have g:c.getD 0 0=d.getD 0 0:=by have a:=e.low _ (s _ (En f.ne));have b:=f.low _ (p _ (En e.ne));omega
 have r:=e.ne;have u:=f.ne;have q:∀i,mn N i (c.getD 0 0)=some (c.getD (i%c.length) 0):=λi=>by have:=e.it i e.ne;grind
 have t:∀i,mn N i (c.getD 0 0)=some (d.getD (i%d.length) 0):=λi=>by rw [g];have:=f.it i f.ne;grind
 have key:∀i,c.getD (i%c.length) 0=d.getD (i%d.length) 0:=λi=>Option.some.inj ((q i).symm.trans (t i));have v:c.length=d.length:=by
  rcases Nat.lt_trichotomy c.length d.length with h | h | h
  ·have:=key c.length;rw [Nat.mod_self,Nat.mod_eq_of_lt h,g] at this;have:=NK f.nd u h this;omega
  ·exact h
  ·have:=key d.length;rw [Nat.mod_self,Nat.mod_eq_of_lt h,<-g] at this;have:=NK e.nd h r this;omega
 refine List.ext_getElem v λi hi o=> ?_;have:=key i;rw [Nat.mod_eq_of_lt hi,Nat.mod_eq_of_lt o,zT hi,zT o] at this;exact this
def Told (N:Int->Option Int) (a:List Int) (out:List Int):Prop:=
 (out=[]/\∀p∈a,¬qC N p)\/(Ring N out/\∃p∈a,qC N p/\(∀q∈a,q<p->¬qC N q)/\∃n x,mn N n p=some x/\x∈out)
theorem NN {h a b:List Int} (k:Told N h a) (hb:Told N h b):a=b:=by
 rcases k with ⟨rfl,j⟩ | ⟨c,p,hp,t,lp,n,x,ex,f⟩
 ·rcases hb with ⟨rfl,_⟩ | ⟨_,q,l,o,_⟩
  ·rfl
  grind
 ·rcases hb with ⟨_,j⟩ | ⟨d,q,l,o,u,m,y,r,g⟩
  ·grind
  ·have i:p=q:=by grind
   subst i;by_cases s:n<=m
   ·have e:mn N (m-n) x=some y:=by have:=xc (N:=N) n (m-n) p;grind
    exact NM c d (c.stay f e) g
   ·have e:mn N (n-m) y=some x:=by have:=xc (N:=N) m (n-m) p;grind
    exact NM c d f (d.stay g e)
end
end Lf
namespace Lf
open Go
theorem WE {F e E:List Nat} {k d:Hp} (m:Mv F k e d) (f:∀c∈E,k c≠none) (g:∀c∈E,c∉F):∀c∈E,d c=k c:=λc a=>by
 cases b:k c with
 | none=>exact absurd b (f c a)
 | some o=>exact m.cT c o b (g c a)
theorem Mv.less {F d E:List Nat} {h e:Hp} (a:Mv F h d e) (f:∀c∈E,c∈d):Mv F h E e:=⟨a.cT,λb hb=>a.from_ b (f b hb)⟩
def me (k:Hp) (R:List Nat):Hp:=λb=>if b∈R then none else k b
theorem YD {k:Hp} {R:List Nat}:me k R<=k:=λb o e=>by unfold me at e;grind
theorem UB {k:Hp} {R:List Nat} {b:Nat} (h:b∈R):me k R b=none:=by unfold me;rw [if_pos h]
theorem CH {k:Hp} {R:List Nat} {b:Nat} (h:b∉R):me k R b=k b:=by unfold me;rw [if_neg h]
theorem YE {d k:Hp} {R:List Nat} (a:d<=k) (c:∀b∈R,d b=none):d<=me k R:=λb o e=>by rw [CH λhb=>by grind];exact a b o e
theorem Lx {h h':Hp} {a:Addr} (e:h' a.block=h a.block):dh h' a=dh h a:=by unfold dh;rw [e]
theorem CW (a:Addr) (n:Nat):(a.add n).block=a.block:=by unfold Addr.add;split<;>rfl
theorem Sj {h b:Hp} {a:Addr} {c:List Value} (l:aR h a c) (e:b a.block=h a.block):aR b a c:=λi v hv=>by have:dh b (a.add i)=dh h (a.add i):=Lx (a:=a.add i) (by rw [CW];exact e);rw [this];exact l i v hv
section
variable {α:Type} {h h':Hp} {sz:Nat} {enc:α->List Value} {l:Sl} {xs:List α} {F:List Nat}
theorem Rw.same (r:Rw h sz enc l xs) (e:∀a,l.base=some a->h' a.block=h a.block):Rw h' sz enc l xs:=by obtain ⟨c,d,f⟩:=r;refine ⟨c,d,f.imp id ?_⟩;rintro ⟨a,b,g⟩;exact ⟨a,b,Sj g (e a b)⟩
theorem Rw.nil {l:Sl} (a:l.len=0):Rw h sz enc l ([]:List α):=⟨a,(by simp),.inl (by simp)⟩
theorem db.grow (o:db h sz enc l xs F) (i:h<=h'):db h' sz enc l xs F:=by obtain ⟨h1,f,g⟩:=o;refine ⟨h1,f,g.imp id ?_⟩;rintro ⟨b,a,c,rfl,d,e⟩;exact ⟨b,a,c,rfl,d.le i,e⟩
theorem db.cut {R:List Nat} (o:db h sz enc l xs F) (a:∀b∈F,b∉R):db (me h R) sz enc l xs F:=o.same λb hb=>CH (a b hb)
theorem db.head (o:db h sz enc l xs F) (k:∀x,(enc x).length=sz) {n:Nat} (m:n<=xs.length):db h sz enc ⟨l.base,n,l.cap⟩ (xs.take n) F:=by obtain ⟨i,p,j⟩:=o;refine ⟨by simp;omega,by grind,j.imp id ?_⟩;rintro ⟨b,a,c,d,e,f,g⟩;refine ⟨b,a,c,d,e,f,?_⟩;show a.take (n*sz)=_;rw [zJ k,<-g,List.take_take,i,Nat.min_eq_left (Nat.mul_le_mul_right sz m)]
theorem db.base (o:db h sz enc l xs F) {a:Addr} (c:l.base=some a):F=[a.block]:=by obtain ⟨_,_,b⟩:=o;grind
end
theorem Kr {h:Hp} {a:Addr} {v:Value} (e:dh h a=some v):∃o,h a.block=some o:=by unfold dh at e;grind
theorem WI {F e:List Nat} {h h':Hp} {a:Addr} {b:List Value} (l:aR h a b) (m:Mv F h e h') (f:a.block∉F):aR h' a b:=λi v hv=>by have c:=l i v hv;obtain ⟨o,d⟩:=Kr c;have hb:(a.add i).block=a.block:=CW a i;rw [Lx (h:=h) (h':=h') (a:=a.add i) (by rw [d];exact m.cT _ _ d (by rw [hb];exact f))];exact c
section
variable {α:Type} {h h':Hp} {sz:Nat} {enc:α->List Value} {l:Sl} {xs:List α} {F b:List Nat}
theorem Rw.mvk (r:Rw h sz enc l xs) (m:Mv F h b h') (j:∀a,l.base=some a->xs.length*sz≠0->a.block∉F):Rw h' sz enc l xs:=by
 obtain ⟨d,e,g⟩:=r;by_cases c:xs.length*sz=0
 ·exact ⟨d,e,.inl c⟩
 ·obtain ⟨a,f,i⟩:=g.resolve_left c;exact ⟨d,e,.inr ⟨a,f,WI i m (j a f c)⟩⟩
theorem Rw.known (r:Rw h sz enc l xs) {a:Addr} (i:l.base=some a) (c:xs.length*sz≠0):h a.block≠none:=by
 obtain ⟨m,f,g⟩:=r;obtain ⟨k,d,j⟩:=g.resolve_left c;rw [i] at d;cases d;have n:(xs.flatMap enc).length≠0:=by rw [f];exact c
 obtain ⟨v,hv⟩:∃v,(xs.flatMap enc)[0]? =some v:=⟨(xs.flatMap enc)[0]'(by omega),List.getElem?_eq_getElem (by omega)⟩;obtain ⟨o,e⟩:=Kr (j 0 v hv);rw [CW] at e;rw [e];simp
theorem Rw.re {a:Sl} (r:Rw h sz enc l xs) (hb:a.base=l.base) (e:a.len=l.len):Rw h sz enc a xs:=by obtain ⟨c,d⟩:=r;exact ⟨e.trans c,by rw [hb];exact d⟩
end
structure aw where
 bg:Sl
 Table:Sl
 Fuel:Int
 gy:Int
 bR:Int
 Log:Int
 aC:Sl
abbrev aw.v (x:aw):Value:=.agg #[.slice x.bg.base x.bg.len x.bg.cap,.slice x.Table.base x.Table.len x.Table.cap,.int .i64 x.Fuel,.int .i64 x.gy,.int .i64 x.bR,.int .i64 x.Log,.slice x.aC.base x.aC.len x.aC.cap]
@[reducible] def aK : Shape where
 T:=aw
 enc:=aw.v
 dec:=λv=>match v with
  | .agg ⟨[.slice a0 a d,.slice a1 b e,.int .i64 a2,.int .i64 a3,.int .i64 a4,.int .i64 a5,.slice a6 c f]⟩=>some ⟨⟨a0,a,d⟩,⟨a1,b,e⟩,a2,a3,a4,a5,⟨a6,c,f⟩⟩
  | _=>none
 ok:=by intro v x h;split at h<;>cases h;rfl
structure bU where
 fG:Sl
 gY:Sl
 mI:Int
 mJ:Int
 kL:Int
 pH:Int
 gX:Sl
 Steps:Sl
abbrev bU.v (x:bU):Value:=.agg #[.slice x.fG.base x.fG.len x.fG.cap,.slice x.gY.base x.gY.len x.gY.cap,.int .i64 x.mI,.int .i64 x.mJ,.int .i64 x.kL,.int .i64 x.pH,.slice x.gX.base x.gX.len x.gX.cap,.slice x.Steps.base x.Steps.len x.Steps.cap]
@[reducible] def bf : Shape where
 T:=bU
 enc:=bU.v
 dec:=λv=>match v with
  | .agg ⟨[.slice a0 a e,.slice a1 b f,.int .i64 a2,.int .i64 a3,.int .i64 a4,.int .i64 a5,.slice a6 c g,.slice a7 d i]⟩=>some ⟨⟨a0,a,e⟩,⟨a1,b,f⟩,a2,a3,a4,a5,⟨a6,c,g⟩,⟨a7,d,i⟩⟩
  | _=>none
 ok:=by intro v x h;split at h<;>cases h;rfl
structure aB where
 di:Int
 bt:Sl
 aC:Sl
abbrev aB.v (x:aB):Value:=.agg #[.int .i64 x.di,.slice x.bt.base x.bt.len x.bt.cap,.slice x.aC.base x.aC.len x.aC.cap]
@[reducible] def be : Shape where
 T:=aB
 enc:=aB.v
 dec:=λv=>match v with
  | .agg ⟨[.int .i64 a0,.slice a1 a c,.slice a2 b d]⟩=>some ⟨a0,⟨a1,a,c⟩,⟨a2,b,d⟩⟩
  | _=>none
 ok:=by intro v x h;split at h<;>cases h;rfl
structure bO where
 Part:Int
 Code:Sl
abbrev bO.v (x:bO):Value:=.agg #[.int .i64 x.Part,.slice x.Code.base x.Code.len x.Code.cap]
@[reducible] def bV : Shape where
 T:=bO
 enc:=bO.v
 dec:=λv=>match v with
  | .agg ⟨[.int .i64 a0,.slice a1 a b]⟩=>some ⟨a0,⟨a1,a,b⟩⟩
  | _=>none
 ok:=by intro v x h;split at h<;>cases h;rfl
structure bx where
 a0:Int
 a1:Int
abbrev bx.v (x:bx):Value:=.agg #[.int .i64 x.a0,.int .i64 x.a1]
@[reducible] def fk : Shape where
 T:=bx
 enc:=bx.v
 dec:=λv=>match v with
  | .agg ⟨[.int .i64 a0,.int .i64 a1]⟩=>some ⟨a0,a1⟩
  | _=>none
 ok:=by intro v x h;split at h<;>cases h;rfl
structure gS where
 a0:Int
 a1:Int
 a2:Int
 a3:Int
 a4:Int
 a5:Int
 a6:Int
 a7:Int
abbrev gS.v (x:gS):Value:=.agg #[.int .i64 x.a0,.int .i64 x.a1,.int .i64 x.a2,.int .i64 x.a3,.int .i64 x.a4,.int .i64 x.a5,.int .i64 x.a6,.int .i64 x.a7]
@[reducible] def xK : Shape where
 T:=gS
 enc:=gS.v
 dec:=λv=>match v with
  | .agg ⟨[.int .i64 a0,.int .i64 a1,.int .i64 a2,.int .i64 a3,.int .i64 a4,.int .i64 a5,.int .i64 a6,.int .i64 a7]⟩=>some ⟨a0,a1,a2,a3,a4,a5,a6,a7⟩
  | _=>none
 ok:=by intro v x h;split at h<;>cases h;rfl
structure bh where
 State:Int
 PC:Int
 cD:Int
 cE:Int
 cF:Int
 cG:Int
 cH:Int
 cI:Int
 cJ:Int
 cK:Int
 Cursor:Int
 Timer:Int
 gx:Bool
 jl:Int
 cC:Sl
abbrev bh.v (x:bh):Value:=.agg #[.int .i64 x.State,.int .i64 x.PC,.int .i64 x.cD,.int .i64 x.cE,.int .i64 x.cF,.int .i64 x.cG,.int .i64 x.cH,.int .i64 x.cI,.int .i64 x.cJ,.int .i64 x.cK,.int .i64 x.Cursor,.int .i64 x.Timer,.bool x.gx,.int .i64 x.jl,.slice x.cC.base x.cC.len x.cC.cap]
@[reducible] def aN : Shape where
 T:=bh
 enc:=bh.v
 dec:=λv=>match v with
  | .agg ⟨[.int .i64 a0,.int .i64 a1,.int .i64 a2,.int .i64 a3,.int .i64 a4,.int .i64 a5,.int .i64 a6,.int .i64 a7,.int .i64 f,.int .i64 g,.int .i64 a,.int .i64 b,.bool c,.int .i64 d,.slice e i j]⟩=>some ⟨a0,a1,a2,a3,a4,a5,a6,a7,f,g,a,b,c,d,⟨e,i,j⟩⟩
  | _=>none
 ok:=by intro v x h;split at h<;>cases h;rfl
structure dZ where
 Kind:Int
 N:Int
 V:Int
abbrev dZ.v (x:dZ):Value:=.agg #[.int .i64 x.Kind,.int .i64 x.N,.int .i64 x.V]
@[reducible] def fz : Shape where
 T:=dZ
 enc:=dZ.v
 dec:=λv=>match v with
  | .agg ⟨[.int .i64 a0,.int .i64 a1,.int .i64 a2]⟩=>some ⟨a0,a1,a2⟩
  | _=>none
 ok:=by intro v x h;split at h<;>cases h;rfl
structure dq where
 fG:Sl
 gY:Sl
 mI:Int
 mJ:Int
 kL:Int
 pH:Int
 gX:Sl
 Bn:Int
 qg:Sl
 qh:Sl
abbrev dq.v (x:dq):Value:=.agg #[.slice x.fG.base x.fG.len x.fG.cap,.slice x.gY.base x.gY.len x.gY.cap,.int .i64 x.mI,.int .i64 x.mJ,.int .i64 x.kL,.int .i64 x.pH,.slice x.gX.base x.gX.len x.gX.cap,.int .i64 x.Bn,.slice x.qg.base x.qg.len x.qg.cap,.slice x.qh.base x.qh.len x.qh.cap]
@[reducible] def zvb : Shape where
 T:=dq
 enc:=dq.v
 dec:=λv=>match v with
  | .agg ⟨[.slice a0 c i,.slice a1 d j,.int .i64 a2,.int .i64 a3,.int .i64 a4,.int .i64 a5,.slice a6 e k,.int .i64 a7,.slice a f l,.slice b g m]⟩=>some ⟨⟨a0,c,i⟩,⟨a1,d,j⟩,a2,a3,a4,a5,⟨a6,e,k⟩,a7,⟨a,f,l⟩,⟨b,g,m⟩⟩
  | _=>none
 ok:=by intro v x h;split at h<;>cases h;rfl
structure kM where
 a0:Bool
 a1:Bool
 a2:Bool
 a3:Bool
abbrev kM.v (x:kM):Value:=.agg #[.bool x.a0,.bool x.a1,.bool x.a2,.bool x.a3]
@[reducible] def Qw : Shape where
 T:=kM
 enc:=kM.v
 dec:=λv=>match v with
  | .agg ⟨[.bool a0,.bool a1,.bool a2,.bool a3]⟩=>some ⟨a0,a1,a2,a3⟩
  | _=>none
 ok:=by intro v x h;split at h<;>cases h;rfl
structure bS where
 Cursor:Int
 Log:Sl
 lJ:Int
 eD:Int
 bN:Sl
 bI:Sl
abbrev bS.v (x:bS):Value:=.agg #[.int .i64 x.Cursor,.slice x.Log.base x.Log.len x.Log.cap,.int .i64 x.lJ,.int .i64 x.eD,.slice x.bN.base x.bN.len x.bN.cap,.slice x.bI.base x.bI.len x.bI.cap]
@[reducible] def bQ : Shape where
 T:=bS
 enc:=bS.v
 dec:=λv=>match v with
  | .agg ⟨[.int .i64 a0,.slice a1 a d,.int .i64 a2,.int .i64 a3,.slice a4 b e,.slice a5 c f]⟩=>some ⟨a0,⟨a1,a,d⟩,a2,a3,⟨a4,b,e⟩,⟨a5,c,f⟩⟩
  | _=>none
 ok:=by intro v x h;split at h<;>cases h;rfl
structure cd where
 dm:Sl
 bB:Sl
 jk:Int
 fM:Int
abbrev cd.v (x:cd):Value:=.agg #[.slice x.dm.base x.dm.len x.dm.cap,.slice x.bB.base x.bB.len x.bB.cap,.int .i64 x.jk,.int .i64 x.fM]
@[reducible] def bD : Shape where
 T:=cd
 enc:=cd.v
 dec:=λv=>match v with
  | .agg ⟨[.slice a0 a c,.slice a1 b d,.int .i64 a2,.int .i64 a3]⟩=>some ⟨⟨a0,a,c⟩,⟨a1,b,d⟩,a2,a3⟩
  | _=>none
 ok:=by intro v x h;split at h<;>cases h;rfl
structure bp where
 bT:Int
 cS:Int
abbrev bp.v (x:bp):Value:=.agg #[.int .i64 x.bT,.int .i64 x.cS]
@[reducible] def aF : Shape where
 T:=bp
 enc:=bp.v
 dec:=λv=>match v with
  | .agg ⟨[.int .i64 a0,.int .i64 a1]⟩=>some ⟨a0,a1⟩
  | _=>none
 ok:=by intro v x h;split at h<;>cases h;rfl
structure aT where
 dG:Sl
 fO:Sl
 ja:Int
 gV:Int
 fN:Int
 iI:Int
 bZ:Sl
 table:Option Addr
 tO:Option Addr
 tick:Int
 parts:Sl
 procs:Sl
abbrev aT.v (x:aT):Value:=.agg #[.slice x.dG.base x.dG.len x.dG.cap,.slice x.fO.base x.fO.len x.fO.cap,.int .i64 x.ja,.int .i64 x.gV,.int .i64 x.fN,.int .i64 x.iI,.slice x.bZ.base x.bZ.len x.bZ.cap,.pointer x.table,.pointer x.tO,.int .i64 x.tick,.slice x.parts.base x.parts.len x.parts.cap,.slice x.procs.base x.procs.len x.procs.cap]
@[reducible] def JQ : Shape where
 T:=aT
 enc:=aT.v
 dec:=λv=>match v with
  | .agg ⟨[.slice a0 e k,.slice a1 f l,.int .i64 a2,.int .i64 a3,.int .i64 a4,.int .i64 a5,.slice a6 j o,.pointer a7,.pointer c,.int .i64 d,.slice a g m,.slice b i n]⟩=>some ⟨⟨a0,e,k⟩,⟨a1,f,l⟩,a2,a3,a4,a5,⟨a6,j,o⟩,a7,c,d,⟨a,g,m⟩,⟨b,i,n⟩⟩
  | _=>none
 ok:=by intro v x h;split at h<;>cases h;rfl
structure bm where
 procs:Sl
 ag:Int
 log:Sl
 lost:Int
 forbidden:Int
 ak:Option Addr
 dU:Option Addr
abbrev bm.v (x:bm):Value:=.agg #[.slice x.procs.base x.procs.len x.procs.cap,.int .i64 x.ag,.slice x.log.base x.log.len x.log.cap,.int .i64 x.lost,.int .i64 x.forbidden,.pointer x.ak,.pointer x.dU]
@[reducible] def xI : Shape where
 T:=bm
 enc:=bm.v
 dec:=λv=>match v with
  | .agg ⟨[.slice a0 a c,.int .i64 a1,.slice a2 b d,.int .i64 a3,.int .i64 a4,.pointer a5,.pointer a6]⟩=>some ⟨⟨a0,a,c⟩,a1,⟨a2,b,d⟩,a3,a4,a5,a6⟩
  | _=>none
 ok:=by intro v x h;split at h<;>cases h;rfl
structure dw where
 di:Int
 bT:Int
 cS:Int
abbrev dw.v (x:dw):Value:=.agg #[.int .i64 x.di,.int .i64 x.bT,.int .i64 x.cS]
@[reducible] def du : Shape where
 T:=dw
 enc:=dw.v
 dec:=λv=>match v with
  | .agg ⟨[.int .i64 a0,.int .i64 a1,.int .i64 a2]⟩=>some ⟨a0,a1,a2⟩
  | _=>none
 ok:=by intro v x h;split at h<;>cases h;rfl
structure bc where
 PC:Int
 cD:Int
 cE:Int
 cF:Int
 cG:Int
 cH:Int
 cI:Int
 cJ:Int
 cK:Int
abbrev bc.v (x:bc):Value:=.agg #[.int .i64 x.PC,.int .i64 x.cD,.int .i64 x.cE,.int .i64 x.cF,.int .i64 x.cG,.int .i64 x.cH,.int .i64 x.cI,.int .i64 x.cJ,.int .i64 x.cK]
@[reducible] def fh : Shape where
 T:=bc
 enc:=bc.v
 dec:=λv=>match v with
  | .agg ⟨[.int .i64 a0,.int .i64 a1,.int .i64 a2,.int .i64 a3,.int .i64 a4,.int .i64 a5,.int .i64 a6,.int .i64 a7,.int .i64 a]⟩=>some ⟨a0,a1,a2,a3,a4,a5,a6,a7,a⟩
  | _=>none
 ok:=by intro v x h;split at h<;>cases h;rfl
structure aM where
 dI:Int
 part:Int
 code:Sl
 state:Int
 jL:Int
 fX:Int
 fY:Int
 fZ:Int
 gg:Int
 gh:Int
 gi:Int
 gk:Int
 gl:Int
 bK:Bool
 post:Option Addr
abbrev aM.v (x:aM):Value:=.agg #[.int .i64 x.dI,.int .i64 x.part,.slice x.code.base x.code.len x.code.cap,.int .i64 x.state,.int .i64 x.jL,.int .i64 x.fX,.int .i64 x.fY,.int .i64 x.fZ,.int .i64 x.gg,.int .i64 x.gh,.int .i64 x.gi,.int .i64 x.gk,.int .i64 x.gl,.bool x.bK,.pointer x.post]
@[reducible] def bz : Shape where
 T:=aM
 enc:=aM.v
 dec:=λv=>match v with
  | .agg ⟨[.int .i64 a0,.int .i64 a1,.slice a2 i j,.int .i64 a3,.int .i64 a4,.int .i64 a5,.int .i64 a6,.int .i64 a7,.int .i64 f,.int .i64 g,.int .i64 a,.int .i64 b,.int .i64 c,.bool d,.pointer e]⟩=>some ⟨a0,a1,⟨a2,i,j⟩,a3,a4,a5,a6,a7,f,g,a,b,c,d,e⟩
  | _=>none
 ok:=by intro v x h;split at h<;>cases h;rfl
structure aZ where
 Op:Int
 A:Int
 B:Int
 C:Int
 iZ:Int
abbrev aZ.v (x:aZ):Value:=.agg #[.int .i64 x.Op,.int .i64 x.A,.int .i64 x.B,.int .i64 x.C,.int .i64 x.iZ]
@[reducible] def aU : Shape where
 T:=aZ
 enc:=aZ.v
 dec:=λv=>match v with
  | .agg ⟨[.int .i64 a0,.int .i64 a1,.int .i64 a2,.int .i64 a3,.int .i64 a4]⟩=>some ⟨a0,a1,a2,a3,a4⟩
  | _=>none
 ok:=by intro v x h;split at h<;>cases h;rfl
structure cQ where
 PC:Int
 cD:Int
 cE:Int
 cF:Int
 cG:Int
 cH:Int
 cI:Int
 cJ:Int
 cK:Int
abbrev cQ.v (x:cQ):Value:=.agg #[.int .i64 x.PC,.int .i64 x.cD,.int .i64 x.cE,.int .i64 x.cF,.int .i64 x.cG,.int .i64 x.cH,.int .i64 x.cI,.int .i64 x.cJ,.int .i64 x.cK]
@[reducible] def Jb : Shape where
 T:=cQ
 enc:=cQ.v
 dec:=λv=>match v with
  | .agg ⟨[.int .i64 a0,.int .i64 a1,.int .i64 a2,.int .i64 a3,.int .i64 a4,.int .i64 a5,.int .i64 a6,.int .i64 a7,.int .i64 a]⟩=>some ⟨a0,a1,a2,a3,a4,a5,a6,a7,a⟩
  | _=>none
 ok:=by intro v x h;split at h<;>cases h;rfl
structure aS where
 dG:Sl
 fO:Sl
 ja:Int
 gV:Int
 fN:Int
 iI:Int
 bZ:Sl
 jg:Int
 fP:Sl
 cM:Sl
 t:Option Addr
abbrev aS.v (x:aS):Value:=.agg #[.slice x.dG.base x.dG.len x.dG.cap,.slice x.fO.base x.fO.len x.fO.cap,.int .i64 x.ja,.int .i64 x.gV,.int .i64 x.fN,.int .i64 x.iI,.slice x.bZ.base x.bZ.len x.bZ.cap,.int .i64 x.jg,.slice x.fP.base x.fP.len x.fP.cap,.slice x.cM.base x.cM.len x.cM.cap,.pointer x.t]
@[reducible] def bn : Shape where
 T:=aS
 enc:=aS.v
 dec:=λv=>match v with
  | .agg ⟨[.slice a0 d j,.slice a1 e k,.int .i64 a2,.int .i64 a3,.int .i64 a4,.int .i64 a5,.slice a6 f l,.int .i64 a7,.slice b g m,.slice c i n,.pointer a]⟩=>some ⟨⟨a0,d,j⟩,⟨a1,e,k⟩,a2,a3,a4,a5,⟨a6,f,l⟩,a7,⟨b,g,m⟩,⟨c,i,n⟩,a⟩
  | _=>none
 ok:=by intro v x h;split at h<;>cases h;rfl
structure fI where
 l:Sl
abbrev fI.v (x:fI):Value:=.agg #[.slice x.l.base x.l.len x.l.cap]
@[reducible] def FC : Shape where
 T:=fI
 enc:=fI.v
 dec:=λv=>match v with
  | .agg ⟨[.slice a0 a b]⟩=>some ⟨⟨a0,a,b⟩⟩
  | _=>none
 ok:=by intro v x h;split at h<;>cases h;rfl
structure aL where
 owner:Int
 queue:Sl
abbrev aL.v (x:aL):Value:=.agg #[.int .i64 x.owner,.slice x.queue.base x.queue.len x.queue.cap]
@[reducible] def fj : Shape where
 T:=aL
 enc:=aL.v
 dec:=λv=>match v with
  | .agg ⟨[.int .i64 a0,.slice a1 a b]⟩=>some ⟨a0,⟨a1,a,b⟩⟩
  | _=>none
 ok:=by intro v x h;split at h<;>cases h;rfl
structure dk where
 ae:Sl
 ag:Int
abbrev dk.v (x:dk):Value:=.agg #[.slice x.ae.base x.ae.len x.ae.cap,.int .i64 x.ag]
@[reducible] def Px : Shape where
 T:=dk
 enc:=dk.v
 dec:=λv=>match v with
  | .agg ⟨[.slice a0 a b,.int .i64 a1]⟩=>some ⟨⟨a0,a,b⟩,a1⟩
  | _=>none
 ok:=by intro v x h;split at h<;>cases h;rfl
structure az where
 due:Int
 dI:Int
abbrev az.v (x:az):Value:=.agg #[.int .i64 x.due,.int .i64 x.dI]
@[reducible] def aX : Shape where
 T:=az
 enc:=az.v
 dec:=λv=>match v with
  | .agg ⟨[.int .i64 a0,.int .i64 a1]⟩=>some ⟨a0,a1⟩
  | _=>none
 ok:=by intro v x h;split at h<;>cases h;rfl
structure ib where
 l:Sl
 of_:Option Nat
abbrev ib.v (x:ib):Value:=.agg #[.slice x.l.base x.l.len x.l.cap,.map x.of_]
@[reducible] def WH : Shape where
 T:=ib
 enc:=ib.v
 dec:=λv=>match v with
  | .agg ⟨[.slice a0 a b,.map a1]⟩=>some ⟨⟨a0,a,b⟩,a1⟩
  | _=>none
 ok:=by intro v x h;split at h<;>cases h;rfl
structure gZ where
 table:Sl
 parts:Int
abbrev gZ.v (x:gZ):Value:=.agg #[.slice x.table.base x.table.len x.table.cap,.int .i64 x.parts]
@[reducible] def WK : Shape where
 T:=gZ
 enc:=gZ.v
 dec:=λv=>match v with
  | .agg ⟨[.slice a0 a b,.int .i64 a1]⟩=>some ⟨⟨a0,a,b⟩,a1⟩
  | _=>none
 ok:=by intro v x h;split at h<;>cases h;rfl
structure ed where
 Kind:Int
 To:Int
 cS:Int
abbrev ed.v (x:ed):Value:=.agg #[.int .i64 x.Kind,.int .i64 x.To,.int .i64 x.cS]
@[reducible] def D7 : Shape where
 T:=ed
 enc:=ed.v
 dec:=λv=>match v with
  | .agg ⟨[.int .i64 a0,.int .i64 a1,.int .i64 a2]⟩=>some ⟨a0,a1,a2⟩
  | _=>none
 ok:=by intro v x h;split at h<;>cases h;rfl
structure cO where
 FV:Int
 bT:Int
abbrev cO.v (x:cO):Value:=.agg #[.int .i64 x.FV,.int .i64 x.bT]
@[reducible] def Ph : Shape where
 T:=cO
 enc:=cO.v
 dec:=λv=>match v with
  | .agg ⟨[.int .i64 a0,.int .i64 a1]⟩=>some ⟨a0,a1⟩
  | _=>none
 ok:=by intro v x h;split at h<;>cases h;rfl
structure ia where
 place:Int
 held:Int
abbrev ia.v (x:ia):Value:=.agg #[.int .i64 x.place,.int .u64 x.held]
@[reducible] def WN : Shape where
 T:=ia
 enc:=ia.v
 dec:=λv=>match v with
  | .agg ⟨[.int .i64 a0,.int .u64 a1]⟩=>some ⟨a0,a1⟩
  | _=>none
 ok:=by intro v x h;split at h<;>cases h;rfl
structure iB where
 l:Sl
 Ip:Option Nat
abbrev iB.v (x:iB):Value:=.agg #[.slice x.l.base x.l.len x.l.cap,.map x.Ip]
@[reducible] def YB : Shape where
 T:=iB
 enc:=iB.v
 dec:=λv=>match v with
  | .agg ⟨[.slice a0 a b,.map a1]⟩=>some ⟨⟨a0,a,b⟩,a1⟩
  | _=>none
 ok:=by intro v x h;split at h<;>cases h;rfl
structure hH where
 labels:Sl
 by_:Option Nat
abbrev hH.v (x:hH):Value:=.agg #[.slice x.labels.base x.labels.len x.labels.cap,.map x.by_]
@[reducible] def WR : Shape where
 T:=hH
 enc:=hH.v
 dec:=λv=>match v with
  | .agg ⟨[.slice a0 a b,.map a1]⟩=>some ⟨⟨a0,a,b⟩,a1⟩
  | _=>none
 ok:=by intro v x h;split at h<;>cases h;rfl
structure dx where
 room:Int
 values:Sl
 waiters:Sl
 taken:Int
 dropped:Int
abbrev dx.v (x:dx):Value:=.agg #[.int .i64 x.room,.slice x.values.base x.values.len x.values.cap,.slice x.waiters.base x.waiters.len x.waiters.cap,.int .i64 x.taken,.int .i64 x.dropped]
@[reducible] def DR : Shape where
 T:=dx
 enc:=dx.v
 dec:=λv=>match v with
  | .agg ⟨[.int .i64 a0,.slice a1 a c,.slice a2 b d,.int .i64 a3,.int .i64 a4]⟩=>some ⟨a0,⟨a1,a,c⟩,⟨a2,b,d⟩,a3,a4⟩
  | _=>none
 ok:=by intro v x h;split at h<;>cases h;rfl
end Lf
namespace Lf
open Go Go.Proofs Tryz
def dj (d i:TypeInfo) (sh:Shape):Ty:={cm:=d.desc,size:=i.size,bytes:=i.bytes,zero:=i.zero.getD (.tuple #[]),sh:=sh}
noncomputable section
def ty0 :Ty:=dj t0 t0 uf
def yr :Ty:=dj t2 t2 (ab .i64)
def Ou :Ty:=dj t3 t3 (ab .i64)
def ty4 :Ty:=dj t4 t4 aW
def ty5 :Ty:=dj t5 t5 (ab .u8)
def ty9 :Ty:=dj t9 t9 pX
def P9 :Ty:=dj t20 t20 Yu
def yu :Ty:=dj t22 t22 af
def rH :Ty:=dj t23 t23 af
def BV :Ty:=dj t24 t24 af
def HU :Ty:=dj t25 t26 aK
def HX :Ty:=dj t27 t27 af
def H3 :Ty:=dj t28 t29 bf
def H6 :Ty:=dj t30 t30 af
def Ib :Ty:=dj t31 t31 af
def Ie :Ty:=dj t32 t33 be
def Qa :Ty:=dj t37 t37 af
def Qb :Ty:=dj t40 t40 jV
def Qc :Ty:=dj t3 t42 (ab .i64)
def Qd :Ty:=dj t43 t43 (oj (ab .i64) (ab .i64))
def BW :Ty:=dj t45 t45 af
def If :Ty:=dj t46 t47 bV
def Qe :Ty:=dj t48 t48 fk
def Ig :Ty:=dj t49 t49 xK
def Ih :Ty:=dj t50 t50 af
def Ii :Ty:=dj t51 t52 aN
def Qf :Ty:=dj t60 t60 an
def Qg :Ty:=dj t61 t61 (oj an (ab .i64))
def Ij :Ty:=dj t64 t65 fz
def Qh :Ty:=dj t69 t69 gE
def Qi :Ty:=dj t70 t70 (sV gE (ab .i64) (ab .i64))
def Qj :Ty:=dj t72 t72 (oj (ab .i64) aW)
def Qk :Ty:=dj t74 t74 jV
def Ql :Ty:=dj t74 t75 jV
def Qm :Ty:=dj t79 t79 an
def Qn :Ty:=dj t80 t81 zvb
def Qo :Ty:=dj t82 t82 jV
def Qp :Ty:=dj t86 t86 Qw
def yv :Ty:=dj t88 t88 af
def Ik :Ty:=dj t89 t89 af
def Il :Ty:=dj t90 t91 bQ
def yx :Ty:=dj t92 t92 af
def wF :Ty:=dj t93 t93 af
def Im :Ty:=dj t94 t95 bD
def BX :Ty:=dj t96 t97 aF
def GS :Ty:=dj t100 t100 an
def GU :Ty:=dj t101 t101 an
def GV :Ty:=dj t102 t102 af
def GX :Ty:=dj t103 t103 af
def GY :Ty:=dj t104 t105 JQ
def GZ :Ty:=dj t106 t106 an
def G0 :Ty:=dj t107 t107 (oj af af)
def G3 :Ty:=dj t108 t108 an
def G4 :Ty:=dj t109 t109 an
def G5 :Ty:=dj t110 t111 xI
def A3 :Ty:=dj t114 t115 du
def G6 :Ty:=dj t116 t116 an
def G7 :Ty:=dj t117 t117 (oj af (ab .i64))
def G8 :Ty:=dj t118 t119 fh
def G9 :Ty:=dj t120 t120 an
def Ha :Ty:=dj t121 t122 bz
def Hb :Ty:=dj t124 t124 (oj (ab .i64) aW)
def Hc :Ty:=dj t132 t132 gE
def Hd :Ty:=dj t133 t133 (sV gE (ab .i64) (ab .i64))
def A4 :Ty:=dj t141 t142 aU
def He :Ty:=dj t143 t143 (oj aU aW)
def Hf :Ty:=dj t118 t145 Jb
def A5 :Ty:=dj t149 t149 (ab .u64)
def Hg :Ty:=dj t151 t151 (sV an (ab .i64) (ab .i64))
def Hh :Ty:=dj t153 t154 bn
def Hi :Ty:=dj t156 t156 (sV an (ab .i64) (ab .i64))
def Hj :Ty:=dj t159 t159 (oj an (ab .i64))
def Hk :Ty:=dj t162 t162 (oj an (ab .i64))
def Hl :Ty:=dj t165 t165 af
def Hm :Ty:=dj t166 t167 FC
def Hn :Ty:=dj t168 t169 fj
def Ho :Ty:=dj t170 t170 af
def Hq :Ty:=dj t171 t172 Px
def Hr :Ty:=dj t173 t173 an
def tT :Ty:=dj t175 t176 aX
def Hs :Ty:=dj t177 t177 (oj aX aW)
def wC :Ty:=dj t178 t178 af
def Ht :Ty:=dj t179 t179 gE
def Hu :Ty:=dj t180 t181 WH
def Hv :Ty:=dj t182 t183 WK
def Hw :Ty:=dj t187 t188 D7
def Hx :Ty:=dj t189 t189 (oj fh D7)
def Hy :Ty:=dj t193 t193 (oj aW (ab .i64))
def Hz :Ty:=dj t196 t196 (oj (ab .i64) (ab .i64))
def HA :Ty:=dj t199 t199 af
def HB :Ty:=dj t201 t202 Ph
def HC :Ty:=dj t205 t205 (ab .u64)
def HD :Ty:=dj t206 t207 WN
def HE :Ty:=dj t208 t208 af
def HF :Ty:=dj t211 t212 YB
def HH :Ty:=dj t220 t220 gE
def HI :Ty:=dj t221 t222 WR
def HJ :Ty:=dj t230 t230 (oj an (ab .i64))
def HK :Ty:=dj t233 t233 jV
def HL :Ty:=dj t235 t235 (oj (ab .u64) (ab .u64))
def HM :Ty:=dj t238 t239 DR
def HN :Ty:=dj t242 t242 (sV D7 aW aW)
def HO :Ty:=dj t245 t245 (oj (ab .i64) (ab .i64))
def HQ :Ty:=dj t248 t248 (Ad (ab .i64) (ab .i64) aF aW (ab .i64))
def HR :Ty:=dj t252 t252 an
def HS :Ty:=dj t3 t256 (ab .i64)
def HT :Ty:=dj t257 t257 (oj (ab .i64) (ab .i64))
def HV :Ty:=dj t263 t263 (ab .u32)
def HW :Ty:=dj t266 t266 (Ac aW aW aW aW)
def HY :Ty:=dj t276 t276 (oj (ab .u32) (ab .u32))
def HZ :Ty:=dj t278 t278 (oj (ab .u64) (ab .u64))
def H0 :Ty:=dj t280 t280 an
def wD :Ty:=dj t283 t283 (jD .f64)
def H2 :Ty:=dj t288 t288 (Ac (ab .i64) aF aW (ab .i64))
def H4 :Ty:=dj t149 t293 (ab .u64)
def H5 :Ty:=dj t297 t297 an
def H7 :Ty:=dj t303 t303 jV
def H8 :Ty:=dj t306 t306 jV
def H9 :Ty:=dj t307 t307 an
def Ia :Ty:=dj t308 t308 (oj (ab .i64) (ab .i64))
def Ic :Ty:=dj t311 t311 (We 34)
def qA :List (List (Option Ty)):=[[some ty0,none,some yr,some Ou,some ty4,some ty5,none,none,none,some ty9,none,none,none,none,none,none],
 [none,none,none,none,some P9,none,some yu,some rH,some BV,none,some HU,some HX,none,some H3,some H6,some Ib],
 [none,some Ie,none,none,none,some Qa,none,none,some Qb,none,some Qc,some Qd,none,some BW,none,some If],
 [some Qe,some Ig,some Ih,none,some Ii,none,none,none,none,none,none,none,some Qf,some Qg,none,none],
 [none,some Ij,none,none,none,some Qh,some Qi,none,some Qj,none,some Qk,some Ql,none,none,none,some Qm],
 [none,some Qn,some Qo,none,none,none,some Qp,none,some yv,some Ik,none,some Il,some yx,some wF,none,some Im],
 [none,some BX,none,none,some GS,some GU,some GV,some GX,none,some GY,some GZ,some G0,some G3,some G4,none,some G5],
 [none,none,none,some A3,some G6,some G7,none,some G8,some G9,none,some Ha,none,some Hb,none,none,none],
 [none,none,none,none,some Hc,some Hd,none,none,none,none,none,none,none,none,some A4,some He],
 [none,some Hf,none,none,none,some A5,none,some Hg,none,none,some Hh,none,some Hi,none,none,some Hj],
 [none,none,some Hk,none,none,some Hl,none,some Hm,none,some Hn,some Ho,none,some Hq,some Hr,none,none],
 [some tT,some Hs,some wC,some Ht,none,some Hu,none,some Hv,none,none,none,none,some Hw,some Hx,none,none],
 [none,some Hy,none,none,some Hz,none,none,some HA,none,none,some HB,none,none,some HC,none,some HD],
 [some HE,none,none,none,some HF,none,none,none,none,none,none,none,some HH,none,some HI,none],
 [none,none,none,none,none,none,some HJ,none,none,some HK,none,some HL,none,none,none,some HM],
 [none,none,some HN,none,none,some HO,none,none,some HQ,none,none,none,some HR,none,none,none],
 [some HS,some HT,none,none,none,none,none,some HV,none,none,some HW,none,none,none,none,none],
 [none,none,none,none,some HY,none,some HZ,none,some H0,none,none,some wD,none,none,none,none],
 [some H2,none,none,none,none,some H4,none,none,none,some H5,none,none,none,none,none,some H7],
 [none,none,some H8,some H9,some Ia,none,none,some Ic]]
def BY (t:Nat):Option Ty:=match nth qA (t / 16) with
 | some r=>match nth r (t%16) with
  | some e=>e
  | none=>none
 | none=>none
def CK :List (List Bool):=[[false,false,true,true,true,true,true,true,true,true,true,true,true,true,true,true],
 [true,true,true,true,true,true,true,true,true,true,true,true,true,true,true,true],
 [true,true,true,true,true,true,true,true,true,true,true,true,true,true,true,true],
 [true,true,true,true,true,true,true,true,true,true,true,true,true,true,true,true],
 [true,true,true,true,true,true,true,true,true,true,true,true,true,true,true,true],
 [true,true,true,true,true,true,true,true,true,true,true,true,true,true,true,true],
 [true,true,true,true,true,true,true,true,true,true,true,true,true,true,true,true],
 [true,true,true,true,true,true,true,true,true,true,true,true,true,true,true,true],
 [true,true,true,true,true,true,true,true,true,true,true,true,true,true,true,true],
 [true,true,true,true,true,true,true,true,true,true,true,true,true,true,true,true],
 [true,true,true,true,true,true,true,true,true,true,true,true,true,true,true,true],
 [true,true,true,true,true,true,true,true,true,false,true,true,true,true,true,true],
 [true,true,true,true,true,true,true,true,true,true,true,true,true,true,true,true],
 [true,true,true,true,true,false,false,true,true,true,true,true,true,true,true,true],
 [true,true,true,true,false,true,true,false,true]]
def Bw (g:Nat):Bool:=match nth CK (g / 16) with
 | some r=>match nth r (g%16) with
  | some e=>e
  | none=>false
 | none=>false
def vK (g:Nat):Option (Array Value->Sem Value):=cond (Nat.beq g 185) (some (Extern.SlicesOverlaps.overlaps #[178,178] #[4])) (cond (Nat.beq g 213) (some Extern.MathFloatBits.float64frombits) (cond (Nat.beq g 214) (some Extern.MathFloatBits.float64bits) (cond (Nat.beq g 231) (some Extern.BytealgIndexByte.indexByte) (none))))
def tb :Tb:={ty:=BY,call:=Bw,ext:=vK}
abbrev ztf :Nat:=3
abbrev VZ :Nat:=5
abbrev zpk :Nat:=6
abbrev zsd :Nat:=7
abbrev LM :Nat:=8
abbrev Pj :Nat:=9
abbrev zra :Nat:=10
abbrev zrl :Nat:=11
abbrev zzx :Nat:=14
abbrev zse :Nat:=15
abbrev Jc :Nat:=16
abbrev OL :Nat:=17
abbrev T9 :Nat:=18
abbrev OR :Nat:=19
abbrev OS :Nat:=20
abbrev zxu :Nat:=21
abbrev zxv :Nat:=22
abbrev I3 :Nat:=23
abbrev zpl :Nat:=24
abbrev zni :Nat:=25
abbrev zpm :Nat:=26
abbrev OT :Nat:=28
abbrev Sg :Nat:=29
abbrev IQ :Nat:=30
abbrev Jd :Nat:=31
abbrev zpn :Nat:=32
abbrev zip :Nat:=33
abbrev zgs :Nat:=34
abbrev zhh :Nat:=35
abbrev Ve :Nat:=36
abbrev Wn :Nat:=37
abbrev zob :Nat:=38
abbrev Cg :Nat:=39
abbrev Wp :Nat:=40
abbrev Jz :Nat:=41
abbrev yE :Nat:=42
abbrev IT :Nat:=43
abbrev zzy :Nat:=44
abbrev OU :Nat:=45
abbrev IB :Nat:=46
abbrev O2 :Nat:=47
abbrev FA :Nat:=48
abbrev xJ :Nat:=49
abbrev yO :Nat:=50
abbrev ztg :Nat:=51
abbrev V0 :Nat:=52
abbrev Vg :Nat:=53
abbrev Ug :Nat:=54
abbrev O9 :Nat:=55
abbrev J9 :Nat:=56
abbrev Jf :Nat:=57
abbrev OM :Nat:=58
abbrev CX :Nat:=59
abbrev zsf :Nat:=62
abbrev V1 :Nat:=63
abbrev zsg :Nat:=65
abbrev Jg :Nat:=66
abbrev I4 :Nat:=67
abbrev zkl :Nat:=68
abbrev IL :Nat:=69
abbrev OC :Nat:=70
abbrev zhi :Nat:=71
abbrev Xm :Nat:=72
abbrev zir :Nat:=73
abbrev zrb :Nat:=74
abbrev zrc :Nat:=75
abbrev Vi :Nat:=76
abbrev PE :Nat:=77
abbrev zsh :Nat:=78
abbrev zsi :Nat:=79
abbrev zrd :Nat:=80
abbrev PF :Nat:=81
abbrev Cu :Nat:=82
abbrev PG :Nat:=83
abbrev JB :Nat:=84
abbrev FD :Nat:=85
abbrev zze :Nat:=86
abbrev PH :Nat:=87
abbrev Cw :Nat:=88
abbrev yF :Nat:=89
abbrev xH :Nat:=90
abbrev tV :Nat:=91
abbrev Zk :Nat:=92
abbrev zwl :Nat:=93
abbrev Ji :Nat:=94
abbrev xL :Nat:=95
abbrev CY :Nat:=96
abbrev Uj :Nat:=97
abbrev Um :Nat:=98
abbrev Co :Nat:=99
abbrev O0 :Nat:=100
abbrev OH :Nat:=101
abbrev OV :Nat:=102
abbrev JR :Nat:=103
abbrev Ch :Nat:=104
abbrev Pk :Nat:=105
abbrev CS :Nat:=106
abbrev O3 :Nat:=107
abbrev zzz :Nat:=108
abbrev ZJ :Nat:=109
abbrev Zm :Nat:=110
abbrev zwm :Nat:=111
abbrev Iu :Nat:=112
abbrev xG :Nat:=113
abbrev BZ :Nat:=114
abbrev Cc :Nat:=119
abbrev Z6 :Nat:=120
abbrev zhj :Nat:=121
abbrev zpo :Nat:=122
abbrev Vk :Nat:=123
abbrev SS :Nat:=124
abbrev zsj :Nat:=125
abbrev JS :Nat:=126
abbrev Ky :Nat:=127
abbrev zis :Nat:=128
abbrev ON :Nat:=129
abbrev Xo :Nat:=130
abbrev JT :Nat:=131
abbrev OW :Nat:=132
abbrev zre :Nat:=133
abbrev Te :Nat:=134
abbrev LN :Nat:=135
abbrev zgt :Nat:=136
abbrev zhk :Nat:=137
abbrev OX :Nat:=138
abbrev C0 :Nat:=139
abbrev Ow :Nat:=140
abbrev LO :Nat:=141
abbrev Rd :Nat:=142
abbrev Z7 :Nat:=143
abbrev Tg :Nat:=144
abbrev Ro :Nat:=145
abbrev wR :Nat:=146
abbrev Cx :Nat:=147
abbrev wL :Nat:=148
abbrev Ep :Nat:=149
abbrev Er :Nat:=150
abbrev TT :Nat:=151
abbrev ZK :Nat:=152
abbrev yG :Nat:=153
abbrev zeh :Nat:=154
abbrev Xq :Nat:=155
abbrev ZL :Nat:=156
abbrev Cy :Nat:=157
abbrev zwn :Nat:=158
abbrev zof :Nat:=159
abbrev Iv :Nat:=160
abbrev Ly :Nat:=161
abbrev B0 :Nat:=162
abbrev RU :Nat:=163
abbrev SW :Nat:=164
abbrev RW :Nat:=165
abbrev Si :Nat:=166
abbrev R2 :Nat:=167
abbrev zeb :Nat:=168
abbrev ot :Nat:=169
abbrev RG :Nat:=170
abbrev Oz :Nat:=171
abbrev zwo :Nat:=173
abbrev Wr :Nat:=174
abbrev Ut :Nat:=175
abbrev OI :Nat:=176
abbrev ZM :Nat:=177
abbrev JD :Nat:=178
abbrev C2 :Nat:=179
abbrev Pn :Nat:=180
abbrev J2 :Nat:=181
abbrev J3 :Nat:=182
abbrev ztj :Nat:=183
abbrev zwp :Nat:=184
abbrev zgu :Nat:=186
abbrev Zo :Nat:=188
abbrev zvc :Nat:=189
abbrev Lz :Nat:=190
abbrev Kt :Nat:=191
abbrev DT :Nat:=192
abbrev Cz :Nat:=193
abbrev FK :Nat:=194
abbrev Kw :Nat:=195
abbrev zzf :Nat:=196
abbrev zwq :Nat:=197
abbrev V2 :Nat:=198
abbrev ZO :Nat:=199
abbrev Zq :Nat:=200
abbrev zez :Nat:=201
abbrev zya :Nat:=202
abbrev Pa :Nat:=203
abbrev JF :Nat:=204
abbrev OA :Nat:=205
abbrev zoh :Nat:=206
abbrev zpp :Nat:=207
abbrev Ox :Nat:=208
abbrev Ti :Nat:=209
abbrev KA :Nat:=210
abbrev Zr :Nat:=211
abbrev zwr :Nat:=215
abbrev zzg :Nat:=216
abbrev zec :Nat:=218
abbrev OY :Nat:=219
abbrev JG :Nat:=220
abbrev Iw :Nat:=221
abbrev zuy :Nat:=222
abbrev ID :Nat:=223
end
end Lf
set_option linter.unusedVariables false
namespace Lf
open Go
abbrev yI(x:Int):Value:=.int .i64 x
abbrev yP(x:Option Addr):Value:=.pointer x
abbrev yN:Value:=.slice none 0 0
abbrev yH:Shape:=ab .i64
abbrev fU(h:Hp)(p:Addr)(n:Nat)(K:Int->Prop):Prop:=aD none (ab .i64) h (Addr.add p n) K
abbrev dO(h:Hp)(p:Addr)(n:Nat)(K:Sl->Prop):Prop:=aD none af h (Addr.add p n) K
abbrev na(h:Hp)(p:Addr)(n:Nat)(K:Option Addr->Prop):Prop:=aD none an h (Addr.add p n) K
def S6 (P:Program) (x:bU) (c:aw) (s:aB) (Q:(Bool->(Hp->Prop))) (h:Hp):Prop:=
 bG [x.fG.v,x.gY.v,(yI x.mI),(yI x.mJ),(yI x.kL),(yI x.pH),x.gX.v,x.Steps.v] (λa i=>aa P VZ [c.v,s.v] aW (λr j=>bX (some (!(!r))) (aa P zpk [] aW) (λl f=>aA ((!r) || (!l)) λy=>(if y then
 Q false f
 else
 aD none aK f (Addr.add a 0) λn=>aa P zsd [n.v] aW (λr2 d=>(if (!r2)=true then
 aD none aK d (Addr.add a 0) λg=>aa P LM [g.v,s.v] af (λb e=>aD (some ((b.len:Int)==0)) aK e (Addr.add a 0) λo=>bX (some ((b.len:Int)==0)) (aa P Pj [o.v,s.v] af) (λm k=>aA (((b.len:Int)==0)&&((m.len:Int)==0)) λp=>Q p k) e) d
 else
 aD none bf d a λg=>aa P zra [g.v,(.func (.func 11) #[] #[(yP (some a))])] aW (λb e=>Q b e) d)) f)) j) i) h
def V3 (P:Program) (c:aw) (s:aB) (Q:(Bool->(Hp->Prop))) (h:Hp):Prop:=
 au (α1:=Int) (λf wB b=>(if decide (wB<2) then
 aa P LM [c.v,s.v] af (λr j=>((True/\(True/\True))/\aa P Pj [c.v,s.v] af (λe k=>aa P OL [c.v,s.v] af (λr2 l=>aa P Jc [r.v,r2.v] aW (λa m=>bX (some a) (aa P T9 [c.v,s.v] af) (λt n=>bX (some a) (aa P Jc [e.v,t.v] aW) (λu o=>aA (a&&u) λy=>bA P OR [r.v] (λp=>bA P OR [e.v] (λq=>bX (some (!(!y))) (aa P LM [c.v,s.v] af) (λw g=>((True/\(True/\True))/\bX (some (!(!y))) (aa P OL [c.v,s.v] af) (λx i=>bX (some (!(!y))) (aa P Jc [w.v,x.v] aW) (λz d=>aA ((!y) || (!z)) λA=>(if A then
 Q false d
 else
 f (yw (wB+1)) d)) i) g)) q) p) o) n) m) l) k) j)) b
 else
 Q true b)) 0 h
def Vm (P:Program)  (Q:(Bool->(Hp->Prop))) (h:Hp):Prop:=
 bG [(yI 3),(yI 1),(yI 1),(yI 2),(yI 2),(yI 3)] (λa e=>aa P zzx [(.slice (some a) 3 3)] af (λr b=>((((r.len:Int)==3)=true->(aG r.base r.len 0))/\aD (some ((r.len:Int)==3)) yH b (sat r.base 1 0) λx=>aA (((r.len:Int)==3)&&(x==1)) λy=>((y=true->(aG r.base r.len 1))/\aD (some y) yH b (sat r.base 1 1) λj=>aA (y&&(j==2)) λc=>((c=true->(aG r.base r.len 2))/\aD (some c) yH b (sat r.base 1 2) λk=>aA (c&&(k==3)) λd=>bX (some d) (bG [(yI 1),(yI 2),(yI 2),(yI 3)]) (λi f=>bX (some d) (aa P zzx [(.slice (some i) 2 2)] af) (λr2 g=>aA (d&&((r2.len:Int)==0)) λl=>Q l g) f) b)))) e) h
def zsk (P:Program) (c:aw) (Q:(Bool->(Hp->Prop))) (h:Hp):Prop:=
 bu P OS [c.v] yH yH (λr b a=>Q (r==0) a) h
def zyb (P:Program) (c:aw) (s:aB) (Q:(Sl->(Hp->Prop))) (h:Hp):Prop:=
 aa P zxu [c.v,s.v,(.bool true)] af (λr a=>Q r a) h
def zvd (P:Program) (c:aw) (s:aB) (Q:(Sl->(Hp->Prop))) (h:Hp):Prop:=
 aa P zxu [c.v,s.v,(.bool false)] af (λr a=>Q r a) h
def V4 (P:Program) (x:bU) (a:xB) (Q:(Bool->(Hp->Prop))) (h:Hp):Prop:=
 bu P zxv [(.agg #[x.fG.v,x.gY.v,(yI x.mI),(yI x.mJ),(yI x.kL),(yI x.pH),x.gX.v])] an yH (λr z o=>aA ((z !=0) || (Option.isNone r)) λy=>(if y then
 Q false o
 else
 aa P I3 [(yP r)] be (λr2 w=>ig P tb (.func (.func a.g) a.first a.captured) [r2.v] aW (λA p=>(if (!A)=true then
 Q false p
 else
 bq (α1:=Int) (α2:=Int) (λt l i d=>aA ((decide (i<(x.Steps.len:Int)))&&(decide (i<2000))) λC=>(if C then
 ((aG x.Steps.base x.Steps.len i)/\aD none fz d (sat x.Steps.base 3 i) λc=>bH (α1:=Int) (λk=>(if (c.Kind==1)=true then
 bq (α1:=Int) (α2:=Int) (λu e s b=>aA ((decide (s<c.N))&&(decide (e<1000))) λD=>(if D then
 aa P zpl [(yP r)] yH (λj m=>aa P I3 [(yP r)] be (λn f=>ig P tb (.func (.func a.g) a.first a.captured) [n.v] aW (λB q=>(if (!B)=true then
 Q false q
 else
 u (yw (e+1)) (yw (s+1)) q)) f) m) b
 else
 k e b)) l 0 d
 else
 (if (c.Kind==2)=true then
 aa P zni [(yP r),(yI c.N),(yI c.V)] yH (λj b=>k l b) d
 else
 (if (c.Kind==3)=true then
 aa P zpm [(yP r),(yI c.N)] yH (λj b=>k l b) d
 else
 k l d))))
 (λe b=>aa P I3 [(yP r)] be (λj m=>ig P tb (.func (.func a.g) a.first a.captured) [j.v] aW (λn f=>(if (!n)=true then
 Q false f
 else
 t e (yw (i+1)) f)) m) b))
 else
 Q true d)) 0 0 p)) w) o)) h
def zit (P:Program) (s:aB) (a1:Addr) (Q:(Bool->(Hp->Prop))) (h:Hp):Prop:=
 aD none aK h (Addr.add a1 0) λx=>aa P VZ [x.v,s.v] aW (λr a=>Q r a) h
def B4 (P:Program) (e:Sl) (Q:(Sl->(Hp->Prop))) (h:Hp):Prop:=
 Be  (λr B=>au (α1:=Int) (λw m i=>(if decide (m<(e.len:Int)) then
 bM (λk=>((aG e.base e.len m)/\aD none fk i (sat e.base 2 m) λx=>(((0:Int)<=(0:Int)/\(0:Int)<(2:Int))/\jZ none (.int .i64) yH (yI (0:Int)) r (yI x.a0) i λt ok=>(((!(!ok))=true->((0:Int)<=(1:Int)/\(1:Int)<(2:Int)))/\aA ((!ok) || (decide (x.a1<t))) λy=>(if y then
 (((0:Int)<=(0:Int)/\(0:Int)<(2:Int))/\(((0:Int)<=(1:Int)/\(1:Int)<(2:Int))/\tZ (.int .i64) r (yI x.a0) (yI x.a1) (λj=>k j) i))
 else
 k i)))))
 (λj=>w (yw (m+(1:Int))) j)
 else
 Be  (λu j=>aa P Sg [(.map r)] jV (λr2 C=>aa P OT [(.func (.func r2.g) r2.first r2.captured)] af (λl D=>au (α1:=Int) (λz f o=>(if decide (f<(l.len:Int)) then
 bM (λk=>((aG l.base l.len f)/\aD none yH o (sat l.base 1 f) λx=>bq (α1:=Int) (α2:=Sl) (λA p b d=>jZ none (.int .i64) yH (yI (0:Int)) u (yI p) d λt ok=>(if ok then
 (if (t !=f)=true then
 k d
 else
 aa P Jd [b.v,(yI p)] yH (λc q=>(((0:Int)<=c/\c<=(b.len:Int))/\aA (α:=Sl) ⟨(aV b.base 1 (Int.toNat c) b.cap),(b.len-(Int.toNat c)),(b.cap-(Int.toNat c))⟩ λy=>aa P IQ [y.v] af (λF s=>Q F s) q)) d)
 else
 tZ (.int .i64) u (yI p) (yI f) (λq=>bG [(yI p)] (λa s=>gv 1 8 [(yI (0:Int))] ⟨b.base,b.len,b.cap⟩ ⟨(some a),1,1⟩ (λc n=>jZ none (.int .i64) yH (yI (0:Int)) r (yI p) n λG E=>(if (!E)=true then
 k n
 else
 A G c n)) s) q) d)) x ⟨none,0,0⟩ o))
 (λd=>z (yw (f+(1:Int))) d)
 else
 Q ⟨none,0,0⟩ o)) (0:Int) D) C) j) i)) (0:Int) B) h
def Wt (P:Program) (c:aw) (s:aB) (Q:(Int->(Hp->Prop))) (h:Hp):Prop:=
 bu P OS [c.v] yH yH (λr z l=>(if (r !=0)=true then
 Q r l
 else
 aa P zpn [c.v,s.v] aW (λr2 m=>(if (!r2)=true then
 Q 4 m
 else
 bG [c.bg.v,c.Table.v,(yI c.Fuel),(yI c.gy),(yI c.bR),(yI c.Log),c.aC.v,(yI s.di),s.bt.v,s.aC.v] (λa u=>bq (α1:=Bool) (α2:=Int) (λo g i n=>(if decide (i<(s.bt.len:Int)) then
 bX (some g) (aa P zip [(yP (some a)),(yI i)] aW) (λd e=>aA (g&&d) λy=>o y (yw (i+1)) e) n
 else
 bq (α1:=Bool) (α2:=Int) (λq j p e=>(if decide (p<(s.aC.len:Int)) then
 bX (some j) (aa P zgs [(yP (some a)),(yI p)] aW) (λd b=>aA (j&&d) λy=>q y (yw (p+1)) b) e
 else
 bq (α1:=Bool) (α2:=Int) (λt f k b=>aA ((decide (k<(s.aC.len:Int)))&&f) λy=>(if y then
 bX (some f) (aa P zhh [(yP (some a)),(yI k)] aW) (λd w=>aA (f&&d) λx=>t x (yw (k+1)) w) b
 else
 (if (!f)=true then
 Q 4 b
 else
 Q 0 b))) j 0 e)) g 0 n)) r2 0 u) m)) l)) h
def Vo (P:Program) (a:Sl) (b:Sl) (Q:(Bool->(Hp->Prop))) (h:Hp):Prop:=
 (if ((a.len:Int) !=(b.len:Int))=true then
 Q false h
 else
 au (α1:=Int) (λd i c=>(if decide (i<(a.len:Int)) then
 ((aG a.base a.len i)/\aD none fk c (sat a.base 2 i) λx=>((aG b.base b.len i)/\aD none fk c (sat b.base 2 i) λe=>jj none P (dt .neq 48 (.tmp 20) (.tmp 24) x.v e.v) aW c λf=>(if f then
 Q false c
 else
 d (yw (i+1)) c)))
 else
 Q true c)) 0 h)
def zpq (P:Program) (c:aw) (s:aB) (Q:(Sl->(Hp->Prop))) (h:Hp):Prop:=
 aa P Ve [c.v,s.v,(.bool true)] af (λr a=>Q r a) h
def zoi (P:Program) (c:aw) (s:aB) (Q:(Sl->(Hp->Prop))) (h:Hp):Prop:=
 aa P Ve [c.v,s.v,(.bool false)] af (λr a=>Q r a) h
def Wv (P:Program) (l:Sl) (Q:(Hp->Prop)) (h:Hp):Prop:=
 au (α1:=Int) (λf i d=>(if decide (i<(l.len:Int)) then
 ((aG l.base l.len i)/\cl d (sat l.base 2 i) [(yI (-7)),(yI (-7))] (λb=>f (yw (i+1)) b))
 else
 bq (α1:=Sl) (α2:=Int) (λg c e b=>(if decide (e<20) then
 bG [(yI (-8)),(yI (-8))] (λa j=>gv 2 16 [(yI 0),(yI 0)] ⟨c.base,c.len,c.cap⟩ ⟨(some a),1,1⟩ (λr k=>g r (yw (e+1)) k) j) b
 else
 Q b)) l 0 d)) 0 h
def Wx (P:Program) (c:aw) (Q:(Int->(Int->(Hp->Prop)))) (h:Hp):Prop:=
 bu P Wn [c.bg.v] yH yH (λr A f=>(if (r !=0)=true then
 Q r 0 f
 else
 aa P zob [c.Table.v,(yI (c.bg.len:Int))] yH (λr2 j=>(if (r2 !=0)=true then
 Q r2 1 j
 else
 aa P Cg [(yI c.Fuel),(yI 1),(yI 256)] aW (λs n=>((True/\(True/\(True/\True)))/\aa P Cg [(yI c.gy),(yI 1),(yI 64)] aW (λt o=>((True/\(True/\True))/\aa P Cg [(yI c.bR),(yI 0),(yI 8)] aW (λu p=>((True/\True)/\aa P Cg [(yI c.Log),(yI 0),(yI 4096)] aW (λw q=>au (α1:=Int) (λl i b=>(if decide (i<4) then
 ((0<=i/\i<4)/\∃x:Bool,((List.get?Internal (α:=Value) [(.bool s),(.bool t),(.bool u),(.bool w)] (0+((Int.toNat i)*1)))=(some (.bool x))/\(if (!x)=true then
 Q 2 (yw (2+i)) b
 else
 l (yw (i+1)) b)))
 else
 (if ((c.aC.len:Int)==0)=true then
 Q 1 6 b
 else
 (if decide ((c.aC.len:Int)>32) then
 Q 3 6 b
 else
 au (α1:=Int) (λm a d=>(if decide (a<(c.aC.len:Int)) then
 ((aG c.aC.base c.aC.len a)/\aD none yH d (Addr.add (sat c.aC.base 2 a) 0) λx=>aa P Cg [(yI x),(yI 0),(yI (yw ((c.bg.len:Int)-1)))] aW (λy e=>(if (!y)=true then
 Q 2 (yw (7+a)) e
 else
 ((aG c.aC.base c.aC.len a)/\aD none af e (Addr.add (sat c.aC.base 2 a) 1) λz=>bu P Wp [z.v,(yI c.bR)] yH yH (λk B g=>(if (k !=0)=true then
 Q k (yw (7+a)) g
 else
 m (yw (a+1)) g)) e))) d)
 else
 Q 0 0 d)) 0 b)))) 0 q) p)) o)) n)) j)) f)) h
def zyc (P:Program) (c:aw) (s:aB) (room:Bool) (Q:(Sl->(Hp->Prop))) (h:Hp):Prop:=
 aa P Jz [c.v,s.v] yH (λr B=>(if (r !=0)=true then
 Q ⟨none,0,0⟩ B
 else
 Be  (λn E=>au (α1:=Int) (λC p z=>(if decide (p<(s.bt.len:Int)) then
 ((aG s.bt.base s.bt.len p)/\aD none bQ z (sat s.bt.base 6 p) λx=>au (α1:=Int) (λy j i=>(if decide (j<(x.bI.len:Int)) then
 ((aG x.bI.base x.bI.len j)/\aD none af i (sat x.bI.base 1 j) λb=>au (α1:=Int) (λl q d=>(if decide (q<(b.len:Int)) then
 ((aG b.base b.len q)/\aD none yH d (sat b.base 1 q) λA=>((aG x.bN.base x.bN.len j)/\aD none yH d (sat x.bN.base 1 j) λI=>tZ (.int .i64) n (yI A) (yI I) (λe=>l (yw (q+1)) e) d))
 else
 y (yw (j+1)) d)) 0 i)
 else
 C (yw (p+1)) i)) 0 z)
 else
 au (α1:=Int) (λy m i=>(if decide (m<(s.aC.len:Int)) then
 ((aG s.aC.base s.aC.len m)/\aD none aN i (sat s.aC.base 15 m) λx=>au (α1:=Int) (λl t d=>(if decide (t<(x.cC.len:Int)) then
 ((aG x.cC.base x.cC.len t)/\aD none bD d (sat x.cC.base 4 t) λb=>au (α1:=Int) (λD u e=>(if decide (u<(b.bB.len:Int)) then
 bM (λk=>((aG b.bB.base b.bB.len u)/\aD none aF e (sat b.bB.base 2 u) λA=>(if room then
 tZ (.int .i64) n (yI A.bT) (yI m) (λf=>k f) e
 else
 k e)))
 (λf=>D (yw (u+1)) f)
 else
 l (yw (t+1)) e)) 0 d)
 else
 y (yw (m+1)) d)) 0 i)
 else
 aa P Sg [(.map n)] jV (λr2 d=>aa P OT [(.func (.func r2.g) r2.first r2.captured)] af (λo e=>bq (α1:=Sl) (α2:=Int) (λl out w f=>(if decide (w<(o.len:Int)) then
 ((aG o.base o.len w)/\aD none yH f (sat o.base 1 w) λx=>jZ none (.int .i64) yH (yI 0) n (yI x) f λb ok=>bG [(yI x),(yI b)] (λa F=>gv 2 16 [(yI 0),(yI 0)] ⟨out.base,out.len,out.cap⟩ ⟨(some a),1,1⟩ (λH G=>l H (yw (w+1)) G) F) f)
 else
 Q ⟨out.base,out.len,out.cap⟩ f)) ⟨none,0,0⟩ 0 e) d) i)) 0 z)) 0 E) B)) h
def zyd (P:Program) (c:aw) (Q:(Option Addr->(Int->(Hp->Prop)))) (h:Hp):Prop:=
 bu P yE [c.v] yH yH (λr f a=>(if (r !=0)=true then
 Q none r a
 else
 aa P zzy [c.v] be (λr2 b=>((True/\True)/\aa P IT [c.v,r2.v] an (λe d=>Q e 0 d) b)) a)) h
def Fy (P:Program) (m:Option Addr) (Q:(aB->(Hp->Prop))) (h:Hp):Prop:=
 aj none m λp=>fU h p 9 λx=>aj none m λU=>dO h U 10 λC=>bq (α1:=Int) (α2:=aB) (λO B s n=>(if decide (B<(C.len:Int)) then
 ((aG C.base C.len B)/\aD none an n (sat C.base 1 B) λd=>aj none d λF=>na n F 5 λe=>bu P OU [(yP e)] af af (λr G b=>aj none d λz=>fU b z 1 λE=>aj none d λA=>dO b A 2 λj=>aj none d λt=>fU b t 3 λk=>aj none d λu=>fU b u 4 λw=>aa P IB [j.v] af (λr2 c=>((True/\((aR c (Addr.add z 1) [(yI E)])/\((aR c (Addr.add t 3) [(yI k)])/\((aR c (Addr.add u 4) [(yI w)])/\True))))/\bG [(yI E),r2.v,(yI k),(yI w),r.v,G.v] (λa g=>((True/\True)/\gv 6 96 [(yI 0),yN,(yI 0),(yI 0),yN,yN] ⟨s.bt.base,s.bt.len,s.bt.cap⟩ ⟨(some a),1,1⟩ (λH i=>O (yw (B+1)) ⟨s.di,H,s.aC⟩ i) g)) c)) b) n)
 else
 aj none m λF=>dO n F 11 λd=>bq (α1:=Int) (α2:=aB) (λR l s1 b=>(if decide (l<(d.len:Int)) then
 ((aG d.base d.len l)/\aD none an b (sat d.base 1 l) λe=>aj none e λz=>na b z 14 λE=>bu P O2 [(yP E)] af yH (λr G c=>aj none m λA=>dO c A 10 λj=>aj none e λt=>fU c t 1 λk=>((aG j.base j.len k)/\aD none an c (sat j.base 1 k) λw=>aj none w λu=>na c u 6 λN=>aa P xJ [(yI l)] yH (λr2 g=>(((aR g (Addr.add A 10) [j.v])/\((aR g (Addr.add t 1) [(yI k)])/\((aR g (sat j.base 1 k) [(yP w)])/\((aR g (Addr.add u 6) [(yP N)])/\True))))/\bu P FA [(yP N),(yI r2)] yH aW (λH r4 i=>aj none m λI=>dO i I 10 λy=>aj none e λJ=>fU i J 1 λD=>((aG y.base y.len D)/\aD none an i (sat y.base 1 D) λL=>aj none L λK=>na i K 6 λM=>aa P yO [(yI l)] yH (λZ o=>(((aR o (Addr.add I 10) [y.v])/\((aR o (Addr.add J 1) [(yI D)])/\((aR o (sat y.base 1 D) [(yP L)])/\((aR o (Addr.add K 6) [(yP M)])/\True))))/\bu P FA [(yP M),(yI Z)] yH aW (λr6 r7 q=>aj none e λV=>fU q V 3 λa8=>aj none e λW=>aD none yH q (Addr.add (Addr.add W 4) 0) λa9=>aj none e λX=>aD none xK q (Addr.add (Addr.add X 4) 1) λf=>aj none e λY=>aD none aW q (Addr.add Y 13) λb0=>bG [(yI a8),(yI a9),(yI f.a0),(yI f.a1),(yI f.a2),(yI f.a3),(yI f.a4),(yI f.a5),(yI f.a6),(yI f.a7),(yI G),(yI H),(.bool b0),(yI r6),r.v] (λa S=>((True/\True)/\gv 15 136 [(yI 0),(yI 0),(yI 0),(yI 0),(yI 0),(yI 0),(yI 0),(yI 0),(yI 0),(yI 0),(yI 0),(yI 0),(.bool false),(yI 0),yN] ⟨s1.aC.base,s1.aC.len,s1.aC.cap⟩ ⟨(some a),1,1⟩ (λr8 T=>R (yw (l+1)) ⟨s1.di,s1.bt,r8⟩ T) S)) q) o)) i)) g)) c)) b)
 else
 Q s1 b)) 0 s n)) 0 ⟨x,⟨none,0,0⟩,⟨none,0,0⟩⟩ h
def Jk (P:Program) (m:Option Addr) (Q:(Int->(Hp->Prop))) (h:Hp):Prop:=
 aj none m λp=>na h p 8 λx=>aj none m λC=>fU h C 9 λL=>aa P ztg [(yP x),(yI L)] yH (λr f=>aj none m λF=>dO f F 10 λj=>((aG j.base j.len r)/\aD none an f (sat j.base 1 r) λb=>bA P V0 [(yP m),(yP b)] (λs=>aj none m λG=>aD none yH s (Addr.add (Addr.add G 0) 2) λN=>bM (λk=>au (α1:=Int) (λy t c=>(if decide (t<N) then
 aj none b λg=>dO c g 0 λl=>au (α1:=Int) (λz d a=>(if decide (d<(l.len:Int)) then
 aj none b λi=>fU a i 1 λn=>aj none b λH=>dO a H 0 λe=>((e.len:Int)≠0/\aj none m λI=>dO a I 11 λo=>aj none b λJ=>dO a J 0 λq=>((aG q.base q.len (Int.tmod (yw (n+d)) (e.len:Int)))/\aD none yH a (sat q.base 1 (Int.tmod (yw (n+d)) (e.len:Int))) λu=>((aG o.base o.len u)/\aD none an a (sat o.base 1 u) λv=>aj none v λK=>fU a K 3 λM=>(if (M==0)=true then
 aj none b λD=>dO a D 0 λw=>((w.len:Int)≠0/\aj none b λE=>cl a (Addr.add E 1) [(yI (Int.tmod (yw ((Int.tmod (yw (n+d)) (e.len:Int))+1)) (w.len:Int)))] (λA=>bA P Vg [(yP m),(yP v)] (λB=>y (yw (t+1)) B) A))
 else
 z (yw (d+1)) a))))
 else
 k a)) 0 c
 else
 k c)) 0 s)
 (λc=>aj none m λg=>fU c g 9 λl=>aj none m λi=>cl c (Addr.add i 9) [(yI (yw (l+1)))] (λa=>Q r a))) f)) h
def OK (P:Program) (m:Option Addr) (p:Int) (v:Int) (Q:(Int->(Hp->Prop))) (h:Hp):Prop:=
 aa P Ug [(yP m),(yI p)] yH (λr a=>(if (r !=0)=true then
 Q r a
 else
 aj none m λg=>dO a g 11 λx=>((aG x.base x.len p)/\aD none an a (sat x.base 1 p) λd=>aj none m λi=>dO a i 10 λf=>aj none d λj=>na a j 14 λl=>aa P O9 [(yP l),(yI (f.len:Int)),(yI v)] yH (λe b=>(if (e !=0)=true then
 aj none d λk=>na b k 14 λn=>bA P J9 [(yP n),(yI (f.len:Int))] (λc=>Q e c) b
 else
 bA P Jf [(yP m),(yP d)] (λc=>Q 0 c) b)) a))) h
def OO (P:Program) (m:Option Addr) (p:Int) (Q:(Int->(Hp->Prop))) (h:Hp):Prop:=
 aa P Ug [(yP m),(yI p)] yH (λr a=>(if (r !=0)=true then
 Q r a
 else
 aj none m λc=>dO a c 11 λx=>((aG x.base x.len p)/\aD none an a (sat x.base 1 p) λd=>bA P OM [(yP m),(yP d),(yI 6)] (λb=>Q 0 b) a))) h
def ztk (P:Program) (seq:xB) (Q:(Sl->(Hp->Prop))) (h:Hp):Prop:=
 aa P zsf [(.func (.func seq.g) seq.first seq.captured)] af (λr a=>bA P V1 [r.v] (λb=>Q r b) a) h
def Sk (P:Program) (m:Option Nat) (Q:(xB->(Hp->Prop))) (h:Hp):Prop:=
 bG [(.map m)] (λa b=>Q ⟨64, #[], #[(yP (some a))]⟩ b) h
def zve (P:Program) (ring:Sl) (Q:(Sl->(Hp->Prop))) (h:Hp):Prop:=
 aa P zsg [ring.v] yH (λr b=>aa P Jd [ring.v,(yI r)] yH (λa c=>((0<=a/\a<=(ring.len:Int))/\aA (α:=Sl) ⟨(aV ring.base 1 (Int.toNat a) ring.cap),(ring.len-(Int.toNat a)),(ring.cap-(Int.toNat a))⟩ λy=>((0<=a/\a<=(ring.cap:Int))/\aA (α:=Sl) ⟨(aV ring.base 1 0 ring.cap),((Int.toNat a)-0),(ring.cap-0)⟩ λg=>aa P Jg [y.v] af (λr2 d=>gv 1 8 [(yI 0)] r2 g (λf e=>Q f e) d) c))) b) h
def Jl (P:Program) (s:Sl) (v:Int) (Q:(Int->(Hp->Prop))) (h:Hp):Prop:=
 au (α1:=Int) (λc a b=>(if decide (a<(s.len:Int)) then
 ((aG s.base s.len a)/\aD none yH b (sat s.base 1 a) λx=>(if (v==x)=true then
 Q a b
 else
 c (yw (a+1)) b))
 else
 Q (-1) b)) 0 h
def Vq (P:Program) (c:aw) (s:aB) (Q:(Bool->(Hp->Prop))) (h:Hp):Prop:=
 aA (((s.bt.len:Int) !=(c.bg.len:Int)) || ((s.aC.len:Int) !=(c.aC.len:Int))) λy=>bX (some (!y)) (aa P I4 [(yI s.di),(yI 0),(yI 4611686018427387904)] aW) (λr j=>aA (y || (!r)) λq=>(if q then
 Q false j
 else
 au (α1:=Int) (λl i a=>(if decide (i<(s.bt.len:Int)) then
 ((aG s.bt.base s.bt.len i)/\aD none af a (Addr.add (sat s.bt.base 6 i) 4) λx=>(((!((x.len:Int) !=c.bR))=true->(aG s.bt.base s.bt.len i))/\aD (some (!((x.len:Int) !=c.bR))) af a (Addr.add (sat s.bt.base 6 i) 5) λf=>aA (((x.len:Int) !=c.bR) || ((f.len:Int) !=c.bR)) λg=>(((!g)=true->(aG s.bt.base s.bt.len i))/\aD (some (!g)) af a (Addr.add (sat s.bt.base 6 i) 1) λd=>aA (g || (decide ((d.len:Int)>c.Log))) λt=>(if t then
 Q false a
 else
 l (yw (i+1)) a))))
 else
 au (α1:=Int) (λm p e=>(if decide (p<(s.aC.len:Int)) then
 ((aG s.aC.base s.aC.len p)/\aD none af e (Addr.add (sat s.aC.base 15 p) 14) λx=>(if ((x.len:Int) !=(yw ((c.bg.len:Int)+1)))=true then
 Q false e
 else
 au (α1:=Int) (λn k b=>((aG s.aC.base s.aC.len p)/\aD none af b (Addr.add (sat s.aC.base 15 p) 14) λf=>(if decide (k<(f.len:Int)) then
 ((aG s.aC.base s.aC.len p)/\aD none af b (Addr.add (sat s.aC.base 15 p) 14) λd=>((aG d.base d.len k)/\aD none af b (Addr.add (sat d.base 4 k) 0) λo=>(if decide ((o.len:Int)>c.gy) then
 Q false b
 else
 n (yw (k+1)) b)))
 else
 m (yw (p+1)) b))) 0 e))
 else
 Q true e)) 0 a)) 0 j)) h
def SE (P:Program) (m:Option Addr) (i:Int) (Q:(Bool->(Hp->Prop))) (h:Hp):Prop:=
 aj none m λp=>aD none af h (Addr.add (Addr.add p 7) 1) λx=>((aG x.base x.len i)/\aD none bQ h (sat x.base 6 i) λa=>aa P zkl [(yP m),(yI i)] af (λr K=>aA ((decide (a.Cursor>0))&&(decide (a.Cursor>=(r.len:Int)))) λy=>aA ((decide (a.Cursor<0)) || y) λF=>bX (some (!F)) (aa P IL [(yI a.lJ)] aW) (λR L=>aA (F || (!R)) λG=>bX (some (!G)) (aa P IL [(yI a.eD)] aW) (λr2 w=>aA (G || (!r2)) λE=>aj (some ((!E)&&(decide (a.lJ>0)))) m λM=>aD (some ((!E)&&(decide (a.lJ>0)))) yH w (Addr.add (Addr.add M 0) 5) λU=>aA ((decide (a.lJ>0))&&(decide ((a.Log.len:Int)<U))) λy4=>aA (E || y4) λV=>(if V then
 Q false w
 else
 au (α1:=Int) (λH k t=>(if decide (k<(a.Log.len:Int)) then
 ((aG a.Log.base a.Log.len k)/\aD none du t (sat a.Log.base 3 k) λd=>aj none m λz=>aD none yH t (Addr.add (Addr.add z 7) 0) λB=>aa P I4 [(yI d.di),(yI 0),(yI (yw (B-1)))] aW (λr3 c=>((((!(!r3))&&(decide (k>0)))=true->(aG a.Log.base a.Log.len (yw (k-1))))/\aD (some ((!(!r3))&&(decide (k>0)))) yH c (Addr.add (sat a.Log.base 3 (yw (k-1))) 0) λl=>aA ((decide (k>0))&&(decide (d.di<l))) λy6=>aA ((!r3) || y6) λy7=>aA (y7 || (decide (d.bT<0))) λs=>aj (some (!s)) m λN=>aD (some (!s)) af c (Addr.add (Addr.add N 0) 6) λC=>aA (s || (decide (d.bT>=(C.len:Int)))) λe=>aj (some (!e)) m λO=>aD (some (!e)) af c (Addr.add (Addr.add O 0) 6) λo=>(((!e)=true->(aG o.base o.len d.bT))/\aD (some (!e)) yH c (Addr.add (sat o.base 2 d.bT) 0) λq=>aA (e || (q !=i)) λD=>(if D then
 Q false c
 else
 H (yw (k+1)) c)))) t)
 else
 au (α1:=Int) (λI b c=>(if decide (b<(a.bN.len:Int)) then
 ((aG a.bN.base a.bN.len b)/\aD none yH c (sat a.bN.base 1 b) λd=>(((!(d==(-1)))=true->(aG a.bN.base a.bN.len b))/\aD (some (!(d==(-1)))) yH c (sat a.bN.base 1 b) λB=>bX (some (!(d==(-1)))) (aa P OC [(yP m),(yI B),(yI i)] aW) (λr3 u=>aA ((d==(-1)) || r3) λy6=>(((!(!y6))=true->(aG a.bN.base a.bN.len b))/\aD (some (!(!y6))) yH u (sat a.bN.base 1 b) λl=>((((!(!y6))&&(l==(-1)))=true->(aG a.bI.base a.bI.len b))/\aD (some ((!(!y6))&&(l==(-1)))) af u (sat a.bI.base 1 b) λC=>aA ((l==(-1))&&(decide ((C.len:Int)>0))) λy7=>aA ((!y6) || y7) λs=>(if s then
 Q false u
 else
 au (α1:=Int) (λJ n f=>((aG a.bI.base a.bI.len b)/\aD none af f (sat a.bI.base 1 b) λo=>(if decide (n<(o.len:Int)) then
 ((aG a.bI.base a.bI.len b)/\aD none af f (sat a.bI.base 1 b) λq=>((aG q.base q.len n)/\aD none yH f (sat q.base 1 n) λv=>aa P OC [(yP m),(yI v),(yI i)] aW (λj g=>aj (some (!(!j))) m λz=>aD (some (!(!j))) af g (Addr.add (Addr.add z 7) 2) λA=>(((!(!j))=true->(aG A.base A.len v))/\aD (some (!(!j))) yH g (Addr.add (sat A.base 15 v) 0) λS=>aA ((!j) || (S !=3)) λe=>(((!e)=true->(aG a.bN.base a.bN.len b))/\aD (some (!e)) yH g (sat a.bN.base 1 b) λT=>aA (e || (T==v)) λD=>(if D then
 Q false g
 else
 J (yw (n+1)) g)))) f))
 else
 I (yw (b+1)) f))) 0 u)))) c))
 else
 Q true c)) 0 t)) 0 w)) L) K) h)
def R3 (P:Program) (m:Option Addr) (p:Int) (Q:(Bool->(Hp->Prop))) (h:Hp):Prop:=
 aj none m λD=>aD none af h (Addr.add (Addr.add D 7) 2) λx=>((aG x.base x.len p)/\aD none aN h (sat x.base 15 p) λx1=>aj none m λE=>aD none af h (Addr.add (Addr.add E 0) 6) λq=>((aG q.base q.len p)/\aD none yH h (Addr.add (sat q.base 2 p) 0) λs=>aA ((decide (x1.State<0)) || (decide (x1.State>6))) λy=>aA (y || (decide (x1.PC<0))) λc=>aj (some (!c)) m λF=>aD (some (!c)) af h (Addr.add (Addr.add F 0) 6) λt=>(((!c)=true->(aG t.base t.len p))/\aD (some (!c)) af h (Addr.add (sat t.base 2 p) 1) λO=>aA (c || (decide (x1.PC>(O.len:Int)))) λZ=>aA (Z || (decide (x1.Cursor<0))) λy3=>aA (y3 || (decide (x1.Cursor>=(x1.cC.len:Int)))) λy4=>(if y4 then
 Q false h
 else
 aj none m λG=>aD none yH h (Addr.add (Addr.add G 7) 0) λv=>aa P I4 [(yI x1.Timer),(yI 0),(yI (yw (v+1099511627776)))] aW (λr B=>bX (some (!(!r))) (aa P I4 [(yI x1.jl),(yI 0),(yI (yw (v+1099511627776)))] aW) (λK f=>aA ((!r) || (!K)) λy5=>aA (y5 || (!((decide (x1.jl>0))==(x1.State==4)))) λy6=>(if y6 then
 Q false f
 else
 aA ((x1.Timer !=0) || x1.gx) λy7=>aA ((decide (x1.State>=5))&&y7) λy8=>(if y8 then
 Q false f
 else
 au (α1:=Int) (λz k g=>(if decide (k<(x1.cC.len:Int)) then
 ((aG x1.cC.base x1.cC.len k)/\aD none bD g (sat x1.cC.base 4 k) λa=>aa P IL [(yI a.jk)] aW (λr2 C=>bX (some (!(!r2))) (aa P IL [(yI a.fM)] aW) (λL i=>aA ((!r2) || (!L)) λy9=>(if y9 then
 Q false i
 else
 aj none m λH=>aD none af i (Addr.add (Addr.add H 0) 0) λw=>bX (some (decide (k<(w.len:Int)))) (aa P zhi [(yP m),(yI k),(yI s)] aW) (λM d=>aA ((decide (k<(w.len:Int)))&&(!M)) λS=>aA ((decide ((a.dm.len:Int)>0)) || (decide (a.jk>0))) λT=>aA (T || (decide (a.fM>0))) λU=>aA (S&&U) λV=>(if V then
 Q false d
 else
 aA ((k !=s) || (decide (x1.State>=5))) λu=>aj (some ((decide ((a.bB.len:Int)>0))&&(!u))) m λI=>aD (some ((decide ((a.bB.len:Int)>0))&&(!u))) yH d (Addr.add (Addr.add I 0) 3) λR=>aA (u || (decide ((a.dm.len:Int)<R))) λW=>aA ((decide ((a.bB.len:Int)>0))&&W) λX=>(if X then
 Q false d
 else
 au (α1:=Int) (λA n j=>(if decide (n<(a.bB.len:Int)) then
 ((aG a.bB.base a.bB.len n)/\aD none aF j (sat a.bB.base 2 n) λl=>aa P OC [(yP m),(yI l.bT),(yI s)] aW (λb e=>aj (some (!(!b))) m λJ=>aD (some (!(!b))) af e (Addr.add (Addr.add J 7) 2) λo=>(((!(!b))=true->(aG o.base o.len l.bT))/\aD (some (!(!b))) yH e (Addr.add (sat o.base 15 l.bT) 0) λN=>aA ((!b) || (N !=2)) λY=>(if Y then
 Q false e
 else
 A (yw (n+1)) e))) j)
 else
 z (yw (k+1)) j)) 0 d))) i)) C) g)
 else
 Q true g)) 0 f))) B) h))))
def Sr (P:Program) (m:Option Addr) (p:Int) (Q:(Bool->(Hp->Prop))) (h:Hp):Prop:=
 aj none m λU=>aD none af h (Addr.add (Addr.add U 7) 2) λx=>((aG x.base x.len p)/\aD none aN h (sat x.base 15 p) λa=>aj none m λV=>aD none af h (Addr.add (Addr.add V 0) 6) λK=>((aG K.base K.len p)/\aD none yH h (Addr.add (sat K.base 2 p) 0) λj=>aj none m λM=>aD none af h (Addr.add (Addr.add M 0) 6) λt=>((aG t.base t.len p)/\aD none af h (Addr.add (sat t.base 2 p) 1) λN=>aa P zir [(yP m),(yI p)] Jb (λr F=>(((aR F (Addr.add (Addr.add M 0) 6) [t.v])/\((aR F (Addr.add (sat t.base 2 p) 1) [N.v])/\True))/\bu P Xm [r.v,N.v] aU aW (λd r2 R=>bq (α1:=Int) (α2:=Int) (λO ah k z=>aj none m λW=>aD none af z (Addr.add (Addr.add W 7) 1) λL=>((aG L.base L.len j)/\aD none af z (Addr.add (sat L.base 6 j) 5) λZ=>(if decide (k<(Z.len:Int)) then
 bq (α1:=Int) (α2:=Int) (λD J n b=>aj none m λH=>aD none af b (Addr.add (Addr.add H 7) 1) λu=>((aG u.base u.len j)/\aD none af b (Addr.add (sat u.base 6 j) 5) λi=>((aG i.base i.len k)/\aD none af b (sat i.base 1 k) λo=>(if decide (n<(o.len:Int)) then
 bH (α1:=Int) (λg=>aj none m λI=>aD none af b (Addr.add (Addr.add I 7) 1) λe=>((aG e.base e.len j)/\aD none af b (Addr.add (sat e.base 6 j) 5) λs=>((aG s.base s.len k)/\aD none af b (sat s.base 1 k) λl=>((aG l.base l.len n)/\aD none yH b (sat l.base 1 n) λA=>(if (A !=p)=true then
 g J b
 else
 aA ((!r2) || (d.Op !=29)) λy=>aA (y || (d.iZ !=k)) λf=>(if f then
 Q false b
 else
 g (yw (J+1)) b))))))
 (λX c=>D X (yw (n+1)) c)
 else
 O J (yw (k+1)) b)))) ah 0 z
 else
 bq (α1:=Int) (α2:=Int) (λD ae q b=>aj none m λH=>aD none af b (Addr.add (Addr.add H 7) 2) λu=>(if decide (q<(u.len:Int)) then
 aj none m λI=>aD none af b (Addr.add (Addr.add I 7) 2) λi=>((aG i.base i.len q)/\aD none af b (Addr.add (sat i.base 15 q) 14) λo=>((aG o.base o.len j)/\aD none af b (Addr.add (sat o.base 4 j) 1) λe=>bq (α1:=Int) (α2:=Int) (λE G n c=>(if decide (n<(e.len:Int)) then
 bH (α1:=Int) (λg=>((aG e.base e.len n)/\aD none yH c (Addr.add (sat e.base 2 n) 0) λs=>(if (s !=p)=true then
 g G c
 else
 aA ((!r2) || (d.Op !=24)) λy=>(((!y)=true->(0<=d.B/\d.B<8))/\∃l:Int,(((!y)=true->(List.get?Internal (α:=Value) [(yI a.State),(yI a.PC),(yI a.cD),(yI a.cE),(yI a.cF),(yI a.cG),(yI a.cH),(yI a.cI),(yI a.cJ),(yI a.cK),(yI a.Cursor),(yI a.Timer),(.bool a.gx),(yI a.jl),a.cC.v] (2+((Int.toNat d.B)*1)))=(some (yI l)))/\aA (y || (l !=q)) λf=>(((!f)=true->(0<=d.C/\d.C<8))/\∃A:Int,(((!f)=true->(List.get?Internal (α:=Value) [(yI a.State),(yI a.PC),(yI a.cD),(yI a.cE),(yI a.cF),(yI a.cG),(yI a.cH),(yI a.cI),(yI a.cJ),(yI a.cK),(yI a.Cursor),(yI a.Timer),(.bool a.gx),(yI a.jl),a.cC.v] (2+((Int.toNat d.C)*1)))=(some (yI A)))/\(((!f)=true->(aG e.base e.len n))/\aD (some (!f)) yH c (Addr.add (sat e.base 2 n) 1) λY=>aA (f || (A !=Y)) λw=>(if w then
 Q false c
 else
 g (yw (G+1)) c)))))))))
 (λT S=>E T (yw (n+1)) S)
 else
 D G (yw (q+1)) c)) ae 0 b))
 else
 bq (α1:=Bool) (α2:=Int) (λE some_ g c=>(if decide (g<(a.cC.len:Int)) then
 (((!some_)=true->(aG a.cC.base a.cC.len g))/\aD (some (!some_)) af c (Addr.add (sat a.cC.base 4 g) 0) λi=>aA (some_ || (decide ((i.len:Int)>0))) λy=>E y (yw (g+1)) c)
 else
 (if (a.State==3)=true then
 aA ((ah==1)&&(ae==0)) λy=>Q y c
 else
 (if (a.State==2)=true then
 aA ((ah==0)&&(ae==1)) λy=>Q y c
 else
 (if (a.State==1)=true then
 aA ((ah==0)&&(ae==0)) λy=>aA (y&&r2) λf=>aA (f&&(d.Op==25)) λw=>aA (w&&(!some_)) λy3=>aA (y3&&(!a.gx)) λy4=>Q y4 c
 else
 (if (a.State==4)=true then
 aA ((ah==0)&&(ae==0)) λy=>aA (y&&r2) λf=>aA (f&&(d.Op==28)) λw=>Q w c
 else
 aA ((ah==0)&&(ae==0)) λy=>Q y c)))))) false 0 b)) 0 0 z))) 0 0 R) F)) h)))
def Vs (P:Program) (c:aw) (s:aB) (all:Bool) (Q:(Sl->(Hp->Prop))) (h:Hp):Prop:=
 bG [] (λa q=>aa P zse [c.v,s.v] yH (λr l=>(if (r !=0)=true then
 Q ⟨(some a),0,0⟩ l
 else
 bq (α1:=Sl) (α2:=Int) (λo out p f=>(if decide (p<(s.aC.len:Int)) then
 bH (α1:=Sl) (λk=>((aG c.aC.base c.aC.len p)/\aD none yH f (Addr.add (sat c.aC.base 2 p) 0) λx=>aa P zrb [s.v,(yI x),(yI p)] yH (λi b=>bH (α1:=Sl) (λm=>(if decide (i>=0) then
 ((aG c.aC.base c.aC.len p)/\aD none yH b (Addr.add (sat c.aC.base 2 p) 0) λn=>((aG s.bt.base s.bt.len n)/\aD none af b (Addr.add (sat s.bt.base 6 n) 4) λj=>((aG j.base j.len i)/\aD none yH b (sat j.base 1 i) λz=>bG [(yI p),(yI z)] (λa1 g=>gv 2 16 [(yI 0),(yI 0)] ⟨out.base,out.len,out.cap⟩ ⟨(some a1),1,1⟩ (λr2 d=>m r2 d) g) b)))
 else
 m ⟨out.base,out.len,out.cap⟩ b))
 (λe g=>aa P zrc [s.v,(yI p)] yH (λr2 d=>aA ((decide (r2>=0))&&all) λy=>(if y then
 bG [(yI p),(yI r2)] (λa1 t=>gv 2 16 [(yI 0),(yI 0)] e ⟨(some a1),1,1⟩ (λw u=>k w u) t) d
 else
 k e d)) g)) f))
 (λe b=>o e (yw (p+1)) b)
 else
 Q ⟨out.base,out.len,out.cap⟩ f)) ⟨(some a),0,0⟩ 0 l)) q) h
def zsl (P:Program) (l:Sl) (Q:(Int->(Int->(Hp->Prop)))) (h:Hp):Prop:=
 (if ((l.len:Int)==0)=true then
 Q 1 0 h
 else
 (if decide ((l.len:Int)>8) then
 Q 3 8 h
 else
 au (α1:=Int) (λb i a=>(if decide (i<(l.len:Int)) then
 ((aG l.base l.len i)/\aD none (ab .u64) a (sat l.base 1 i) λx=>((aG l.base l.len (yw (i-1)))/\aD none (ab .u64) a (sat l.base 1 (yw (i-1))) λc=>(if (x==c)=true then
 Q 8 i a
 else
 ((aG l.base l.len i)/\aD none (ab .u64) a (sat l.base 1 i) λd=>((aG l.base l.len (yw (i-1)))/\aD none (ab .u64) a (sat l.base 1 (yw (i-1))) λe=>(if decide (d<e) then
 Q 7 i a
 else
 b (yw (i+1)) a))))))
 else
 Q 0 0 a)) 1 h))
def Uw (P:Program) (l:Sl) (parts:Int) (Q:(Int->(Hp->Prop))) (h:Hp):Prop:=
 (if ((l.len:Int)==0)=true then
 Q 1 h
 else
 (if decide ((l.len:Int)>64) then
 Q 3 h
 else
 au (α1:=Int) (λc i a=>(if decide (i<(l.len:Int)) then
 ((aG l.base l.len i)/\aD none yH a (sat l.base 1 i) λx=>aa P Cg [(yI x),(yI 0),(yI (yw (parts-1)))] aW (λr b=>(if (!r)=true then
 Q 2 b
 else
 c (yw (i+1)) b)) a)
 else
 Q 0 a)) 0 h))
def Uy (P:Program) (n:Int) (least:Int) (lN:Int) (Q:(Bool->(Hp->Prop))) (h:Hp):Prop:=
 aA ((decide (n>=least))&&(decide (n<=lN))) λy=>Q y h
def Wz (P:Program) (l:Sl) (ak:Int) (Q:(Int->(Int->(Hp->Prop)))) (h:Hp):Prop:=
 aA ((decide (ak<0)) || (decide (ak>8))) λy=>(if y then
 Q 1 0 h
 else
 (if decide ((l.len:Int)>256) then
 Q 3 256 h
 else
 au (α1:=Int) (λc i a=>(if decide (i<(l.len:Int)) then
 ((aG l.base l.len i)/\aD none aU a (sat l.base 5 i) λx=>aa P Vi [x.v,(yI (l.len:Int)),(yI ak)] yH (λr b=>(if (r !=0)=true then
 Q r i b
 else
 c (yw (i+1)) b)) a)
 else
 Q 0 0 a)) 0 h))
def Po (P:Program) (c:aw) (s:aB) (Q:(Int->(Hp->Prop))) (h:Hp):Prop:=
 bu P yE [c.v] yH yH (λr o g=>(if (r !=0)=true then
 Q r g
 else
 kT P PE [c.bg.v] an yH yH (λr2 p q i=>aA ((decide (s.di<0)) || (decide (s.di>4611686018427387904))) λy=>aA (y || ((s.bt.len:Int) !=(c.bg.len:Int))) λm=>aA (m || ((s.aC.len:Int) !=(c.aC.len:Int))) λn=>(if n then
 Q 4 i
 else
 au (α1:=Int) (λk e j=>(if decide (e<(s.bt.len:Int)) then
 aa P zsh [(.agg #[c.bg.v,c.Table.v,(yI c.Fuel),(yI c.gy),(yI c.bR),(yI c.Log),c.aC.v,(yI s.di),s.bt.v,s.aC.v,(yP r2)]),(yI e)] aW (λd a=>(if (!d)=true then
 Q 4 a
 else
 k (yw (e+1)) a)) j
 else
 au (α1:=Int) (λl f a=>(if decide (f<(s.aC.len:Int)) then
 aa P zsi [(.agg #[c.bg.v,c.Table.v,(yI c.Fuel),(yI c.gy),(yI c.bR),(yI c.Log),c.aC.v,(yI s.di),s.bt.v,s.aC.v,(yP r2)]),(yI f)] aW (λd b=>(if (!d)=true then
 Q 4 b
 else
 l (yw (f+1)) b)) a
 else
 aa P zrd [(.agg #[c.bg.v,c.Table.v,(yI c.Fuel),(yI c.gy),(yI c.bR),(yI c.Log),c.aC.v,(yI s.di),s.bt.v,s.aC.v,(yP r2)])] aW (λd b=>(if (!d)=true then
 Q 4 b
 else
 Q 0 b)) a)) 0 j)) 0 i)) g)) h
def C3 (P:Program) (c:aw) (Q:(Int->(Int->(Hp->Prop)))) (h:Hp):Prop:=
 bu P PF [c.bg.v] yH yH (λr w j=>(if (r !=0)=true then
 Q r 0 j
 else
 aa P Cu [(yI (c.Table.len:Int)),(yI 64)] yH (λr2 k=>(if (r2 !=0)=true then
 Q r2 1 k
 else
 kT P PG [c.Table.v,(yI (c.bg.len:Int))] an yH yH (λy o z l=>(if (o !=0)=true then
 Q o 1 l
 else
 bG [(yI 0),(yI 0),(yI c.Fuel),(yI c.gy),(yI c.bR),(yI c.Log)] (λa t=>au (α1:=Int) (λq b g=>(if decide (b<6) then
 ((aG (some a) 6 b)/\aD none yH g (sat (some a) 1 b) λx=>aa P JB [(yI b),(yI x)] yH (λf e=>(if (f !=0)=true then
 Q f b e
 else
 q (yw (b+1)) e)) g)
 else
 aa P Cu [(yI (c.aC.len:Int)),(yI 32)] yH (λf e=>(if (f !=0)=true then
 Q f 6 e
 else
 au (α1:=Int) (λs d i=>(if decide (d<(c.aC.len:Int)) then
 ((aG c.aC.base c.aC.len d)/\aD none bV i (sat c.aC.base 2 d) λx=>aa P FD [(yI x.Part),(yI 0),(yI (yw ((c.bg.len:Int)-1)))] aW (λu m=>(if (!u)=true then
 Q 2 (yw (7+d)) m
 else
 bu P CX [x.Code.v,(yI c.bR)] yH yH (λp A n=>(if (p !=0)=true then
 Q p (yw (7+d)) n
 else
 s (yw (d+1)) n)) m)) i)
 else
 Q 0 0 i)) 0 e)) g)) 0 t) l)) k)) j)) h
def zvf (P:Program) (c:aw) (s:aB) (Q:(Option Addr->(Hp->Prop))) (h:Hp):Prop:=
 aa P zze [c.v] aK (λr M=>((True/\True)/\bG [r.bg.v,r.Table.v,(yI r.Fuel),(yI r.gy),(yI r.bR),(yI r.Log),r.aC.v,(yP none),(yP none),(yI s.di),yN,yN] (λa R=>kT P PE [c.bg.v] an yH yH (λr1 r2 r3 S=>aj none (some a) λp=>cl S (Addr.add p 7) [(yP r1)] (λT=>kT P PG [c.Table.v,(yI (c.bg.len:Int))] an yH yH (λr4 r5 r6 U=>aj none (some a) λW=>cl U (Addr.add W 8) [(yP r4)] (λV=>au (α1:=Int) (λK y D=>(if decide (y<(s.bt.len:Int)) then
 ((aG s.bt.base s.bt.len y)/\aD none bQ D (sat s.bt.base 6 y) λx=>bu P PH [x.bN.v,x.bI.v] an yH (λF r8 e=>aj none (some a) λg=>dO e g 10 λd=>aa P IB [x.Log.v] af (λG f=>(((aR f (Addr.add g 10) [d.v])/\(True/\(True/\(True/\True))))/\aa P Cw [] an (λE l=>(((aR l (Addr.add g 10) [d.v])/\(True/\(True/\(True/\True))))/\bG [yN,(yI x.Cursor),G.v,(yI x.lJ),(yI x.eD),(yP F),(yP E)] (λa1 m=>(((aR m (Addr.add g 10) [d.v])/\True)/\bG [(yP (some a1))] (λa2 u=>(((aR u (Addr.add g 10) [d.v])/\True)/\gv 1 8 [(yP none)] d ⟨(some a2),1,1⟩ (λq i=>aj none (some a) λn=>cl i (Addr.add n 10) [q.v] (λB=>K (yw (y+1)) B)) u)) m)) l)) f)) e) D)
 else
 au (α1:=Int) (λL b e=>(if decide (b<(s.aC.len:Int)) then
 bM (λk=>((aG s.aC.base s.aC.len b)/\aD none aN e (sat s.aC.base 15 b) λx=>aj none (some a) λg=>aD none af e (Addr.add (Addr.add g 0) 6) λd=>((aG d.base d.len b)/\aD none bV e (sat d.base 2 b) λz=>bu P yF [(yI c.gy),x.cC.v,(yI x.Cursor)] an yH (λF r8 f=>aj none (some a) λn=>dO f n 11 λH=>bG [(yI b),(yI z.Part),z.Code.v,(yI x.State),(yI x.PC),(yI x.cD),(yI x.cE),(yI x.cF),(yI x.cG),(yI x.cH),(yI x.cI),(yI x.cJ),(yI x.cK),(.bool x.gx),(yP F)] (λa1 l=>(((aR l (Addr.add n 11) [H.v])/\True)/\bG [(yP (some a1))] (λa2 m=>(((aR m (Addr.add n 11) [H.v])/\True)/\gv 1 8 [(yP none)] H ⟨(some a2),1,1⟩ (λG u=>aj none (some a) λX=>cl u (Addr.add X 11) [G.v] (λi=>aj none (some a) λY=>dO i Y 10 λI=>((aG I.base I.len z.Part)/\aD none an i (sat I.base 1 z.Part) λA=>aj none A λZ=>dO i Z 0 λx6=>bG [(yI b)] (λa3 B=>gv 1 8 [(yI 0)] x6 ⟨(some a3),1,1⟩ (λE N=>aj none A λp7=>cl N (Addr.add p7 0) [E.v] (λC=>bM (λJ=>(if decide (x.Timer>0) then
 aj none A λo=>na C o 6 λt=>aa P xJ [(yI b)] yH (λq j=>(((aR j (Addr.add o 6) [(yP t)])/\(True/\True))/\aa P xH [(yP t),(yI q),(yI x.Timer)] yH (λa8 w=>J w) j)) C
 else
 J C))
 (λj=>(if decide (x.jl>0) then
 aj none A λo=>na j o 6 λt=>aa P yO [(yI b)] yH (λq w=>(((aR w (Addr.add o 6) [(yP t)])/\(True/\True))/\aa P xH [(yP t),(yI q),(yI x.jl)] yH (λa8 O=>k O) w)) j
 else
 k j)))) B) i))) m)) l)) f) e)))
 (λf=>L (yw (b+1)) f)
 else
 Q (some a) e)) 0 D)) 0 V)) T)) R) M)) h
def Z9 (P:Program) (c:aw) (Q:(aB->(Hp->Prop))) (h:Hp):Prop:=
 (dL 96 [(yI 0),yN,(yI 0),(yI 0),yN,yN] (c.bg.len:Int) (c.bg.len:Int) (λr q=>((True/\True)/\dL 136 [(yI 0),(yI 0),(yI 0),(yI 0),(yI 0),(yI 0),(yI 0),(yI 0),(yI 0),(yI 0),(yI 0),(yI 0),(.bool false),(yI 0),yN] (c.aC.len:Int) (c.aC.len:Int) (λd s=>au (α1:=Int) (λo b n=>(if decide (b<(r.len:Int)) then
 bM (λk=>(bG [(yI (-1))] (λa e=>((True/\(True/\(True/\(True/\True))))/\(aa P tV [(.slice (some a) 1 1),(yI c.bR)] af (λr2 g=>((True/\(True/\(True/\True)))/\((aG r.base r.len b)/\(dL 24 [yN] c.bR c.bR (λl f=>((True/\(True/\True))/\cl f (Addr.add (sat r.base 6 b) 4) [r2.v] (λi=>((True/\True)/\((aG r.base r.len b)/\cl i (Addr.add (sat r.base 6 b) 5) [l.v] (λj=>k j)))))) g/\cl g (Addr.add (sat r.base 6 b) 4) [r2.v] (λf=>((True/\(True/\True))/\dL 24 [yN] c.bR c.bR (λl i=>((True/\(True/\True))/\((aG r.base r.len b)/\cl i (Addr.add (sat r.base 6 b) 5) [l.v] (λj=>k j)))) f)))))) e/\dL 24 [yN] c.bR c.bR (λr2 g=>((True/\(True/\(True/\True)))/\aa P tV [(.slice (some a) 1 1),(yI c.bR)] af (λl f=>((True/\(True/\(True/\True)))/\((aG r.base r.len b)/\cl f (Addr.add (sat r.base 6 b) 4) [l.v] (λi=>((True/\(True/\True))/\((aG r.base r.len b)/\cl i (Addr.add (sat r.base 6 b) 5) [r2.v] (λj=>k j))))))) g)) e))) n/\dL 24 [yN] c.bR c.bR (λr2 e=>((True/\(True/\(True/\True)))/\bG [(yI (-1))] (λa g=>((True/\(True/\(True/\(True/\True))))/\aa P tV [(.slice (some a) 1 1),(yI c.bR)] af (λl f=>((True/\(True/\(True/\True)))/\((aG r.base r.len b)/\cl f (Addr.add (sat r.base 6 b) 4) [l.v] (λi=>((True/\(True/\True))/\((aG r.base r.len b)/\cl i (Addr.add (sat r.base 6 b) 5) [r2.v] (λj=>k j))))))) g)) e)) n))
 (λe=>o (yw (b+1)) e)
 else
 au (α1:=Int) (λp m e=>(if decide (m<(d.len:Int)) then
 dL 64 [yN,yN,(yI 0),(yI 0)] (yw ((c.bg.len:Int)+1)) (yw ((c.bg.len:Int)+1)) (λr2 g=>((True/\True)/\((aG d.base d.len m)/\cl g (Addr.add (sat d.base 15 m) 14) [r2.v] (λf=>p (yw (m+1)) f)))) e
 else
 Q ⟨0,r,d⟩ e)) 0 n)) 0 s) q)) h/\dL 136 [(yI 0),(yI 0),(yI 0),(yI 0),(yI 0),(yI 0),(yI 0),(yI 0),(yI 0),(yI 0),(yI 0),(yI 0),(.bool false),(yI 0),yN] (c.aC.len:Int) (c.aC.len:Int) (λr q=>((True/\True)/\dL 96 [(yI 0),yN,(yI 0),(yI 0),yN,yN] (c.bg.len:Int) (c.bg.len:Int) (λd s=>((True/\True)/\au (α1:=Int) (λo b n=>(if decide (b<(d.len:Int)) then
 bM (λk=>(bG [(yI (-1))] (λa e=>((True/\(True/\(True/\(True/\True))))/\(aa P tV [(.slice (some a) 1 1),(yI c.bR)] af (λr2 g=>((True/\(True/\(True/\True)))/\((aG d.base d.len b)/\(dL 24 [yN] c.bR c.bR (λl f=>((True/\(True/\True))/\cl f (Addr.add (sat d.base 6 b) 4) [r2.v] (λi=>((True/\True)/\((aG d.base d.len b)/\cl i (Addr.add (sat d.base 6 b) 5) [l.v] (λj=>k j)))))) g/\cl g (Addr.add (sat d.base 6 b) 4) [r2.v] (λf=>((True/\(True/\True))/\dL 24 [yN] c.bR c.bR (λl i=>((True/\(True/\True))/\((aG d.base d.len b)/\cl i (Addr.add (sat d.base 6 b) 5) [l.v] (λj=>k j)))) f)))))) e/\dL 24 [yN] c.bR c.bR (λr2 g=>((True/\(True/\(True/\True)))/\aa P tV [(.slice (some a) 1 1),(yI c.bR)] af (λl f=>((True/\(True/\(True/\True)))/\((aG d.base d.len b)/\cl f (Addr.add (sat d.base 6 b) 4) [l.v] (λi=>((True/\(True/\True))/\((aG d.base d.len b)/\cl i (Addr.add (sat d.base 6 b) 5) [r2.v] (λj=>k j))))))) g)) e))) n/\dL 24 [yN] c.bR c.bR (λr2 e=>((True/\(True/\(True/\True)))/\bG [(yI (-1))] (λa g=>((True/\(True/\(True/\(True/\True))))/\aa P tV [(.slice (some a) 1 1),(yI c.bR)] af (λl f=>((True/\(True/\(True/\True)))/\((aG d.base d.len b)/\cl f (Addr.add (sat d.base 6 b) 4) [l.v] (λi=>((True/\(True/\True))/\((aG d.base d.len b)/\cl i (Addr.add (sat d.base 6 b) 5) [r2.v] (λj=>k j))))))) g)) e)) n))
 (λe=>o (yw (b+1)) e)
 else
 au (α1:=Int) (λp m e=>(if decide (m<(r.len:Int)) then
 dL 64 [yN,yN,(yI 0),(yI 0)] (yw ((c.bg.len:Int)+1)) (yw ((c.bg.len:Int)+1)) (λr2 g=>((True/\True)/\((aG r.base r.len m)/\cl g (Addr.add (sat r.base 15 m) 14) [r2.v] (λf=>p (yw (m+1)) f)))) e
 else
 Q ⟨0,d,r⟩ e)) 0 n)) 0 s)) q)) h)
def Xs (P:Program) (l:Option Addr) (Q:(Sl->(Sl->(Hp->Prop)))) (h:Hp):Prop:=
 aj none l λp=>dO h p 0 λx=>qd (α1:=Sl) (α2:=Sl) (α3:=Int) (λe av ah b c=>(if decide (b<(x.len:Int)) then
 ((aG x.base x.len b)/\aD none fj c (sat x.base 2 b) λd=>bG [(yI d.owner)] (λa f=>gv 1 8 [(yI 0)] ⟨av.base,av.len,av.cap⟩ ⟨(some a),1,1⟩ (λr g=>aa P Jg [d.queue.v] af (λm i=>bG [m.v] (λa1 j=>gv 1 24 [yN] ⟨ah.base,ah.len,ah.cap⟩ ⟨(some a1),1,1⟩ (λr2 k=>e r r2 (yw (b+1)) k) j) i) g) f) c)
 else
 Q ⟨av.base,av.len,av.cap⟩ ⟨ah.base,ah.len,ah.cap⟩ c)) ⟨none,0,0⟩ ⟨none,0,0⟩ 0 h
def RH (P:Program) (s:Sl) (Q:(Sl->(Hp->Prop))) (h:Hp):Prop:=
 jj none P (dt .eql 88 (.tmp 3) (.const yN) s.v yN) aW h λx=>(if x then
 Q ⟨none,0,0⟩ h
 else
 bG [] (λa b=>gv 3 24 [(yI 0),(yI 0),(yI 0)] ⟨(some a),0,0⟩ s (λr c=>Q r c) b) h)
def Zs (P:Program) (p:Option Addr) (Q:(Sl->(Int->(Hp->Prop)))) (h:Hp):Prop:=
 aj none p λj=>dO h j 0 λx=>bq (α1:=Sl) (α2:=Int) (λe out c b=>(if decide (c<(x.len:Int)) then
 ((aG x.base x.len c)/\aD none an b (sat x.base 1 c) λd=>aa P Zk [(yP d)] bD (λr f=>bG [r.dm.v,r.bB.v,(yI r.jk),(yI r.fM)] (λa g=>gv 4 64 [yN,yN,(yI 0),(yI 0)] ⟨out.base,out.len,out.cap⟩ ⟨(some a),1,1⟩ (λl i=>e l (yw (c+1)) i) g) f) b)
 else
 aj none p λk=>fU b k 1 λd=>Q ⟨out.base,out.len,out.cap⟩ d b)) ⟨none,0,0⟩ 0 h
def O4 (P:Program) (w:Option Addr) (dI:Int) (Q:(Int->(Bool->(Hp->Prop)))) (h:Hp):Prop:=
 aj none w λp=>aD none gE h (Addr.add p 1) λx=>jZ none (.int .i64) aX (.agg #[(yI 0),(yI 0)]) x (yI dI) h λa ok=>Q a.due ok h
def Pb (P:Program) (p:Int) (Q:(Int->(Hp->Prop))) (h:Hp):Prop:=
 Q (yw (2*p)) h
def Pc (P:Program) (p:Int) (Q:(Int->(Hp->Prop))) (h:Hp):Prop:=
 Q (yw ((yw (2*p))+1)) h
def Xu (P:Program) (s:Option Addr) (t:Int) (Q:(Int->(Hp->Prop))) (h:Hp):Prop:=
 (if decide (t<0) then
 Q (-1) h
 else
 aj none s λp=>dO h p 0 λx=>aj none s λb=>dO h b 0 λa=>((a.len:Int)≠0/\((aG x.base x.len (Int.tmod t (a.len:Int)))/\aD none yH h (sat x.base 1 (Int.tmod t (a.len:Int))) λc=>Q c h)))
def V6 (P:Program) (m:Option Addr) (x:Option Addr) (Q:(Hp->Prop)) (h:Hp):Prop:=
 aj none x λp=>na h p 6 λz=>aj none m λq=>fU h q 9 λA=>aa P zwl [(yP z),(yI A)] af (λr o=>au (α1:=Int) (λn e a=>(if decide (e<(r.len:Int)) then
 bM (λk=>((aG r.base r.len e)/\aD none yH a (sat r.base 1 e) λi=>aj none m λs=>dO a s 11 λj=>((2:Int)≠(0:Int)/\((aG j.base j.len (yw (Int.tdiv i (2:Int))))/\aD none an a (sat j.base 1 (yw (Int.tdiv i (2:Int)))) λb=>aj none b λt=>fU a t 0 λB=>aa P yO [(yI B)] yH (λy c=>(if (i==y)=true then
 aj none b λg=>aD none fh c (Addr.add g 4) λl=>aa P xL [l.v] fh (λr2 d=>bA P Ji [(yP m),(yP b),r2.v] (λf=>k f) d) c
 else
 aj none b λg=>cl c (Addr.add g 13) [(.bool true)] (λd=>aj none b λu=>fU d u 3 λl=>(if (l==(1:Int))=true then
 aj none b λw=>cl d (Addr.add w 3) [(yI (0:Int))] (λf=>k f)
 else
 k d)))) a))))
 (λc=>n (yw (e+(1:Int))) c)
 else
 Q a)) (0:Int) o) h
def Vu (P:Program) (m:Option Addr) (p:Option Addr) (Q:(Hp->Prop)) (h:Hp):Prop:=
 aj none p λH=>aD none fh h (Addr.add H 4) λx=>aj none p λI=>dO h I 2 λS=>aj none m λJ=>fU h J 9 λT=>aj none p λK=>fU h K 0 λU=>bu P CY [x.v,S.v,(yI T),(yI U)] fh D7 (λr d F=>aj none p λL=>cl F (Addr.add L 4) [(yI r.PC),(yI r.cD),(yI r.cE),(yI r.cF),(yI r.cG),(yI r.cH),(yI r.cI),(yI r.cJ),(yI r.cK)] (λu=>aj none m λM=>dO u M 10 λD=>aj none p λN=>fU u N 1 λE=>((aG D.base D.len E)/\aD none an u (sat D.base 1 E) λn=>(if (d.Kind==1)=true then
 bA P OM [(yP m),(yP p),(yI 5)] (λb=>Q b) u
 else
 (if (d.Kind==2)=true then
 bA P Uj [(yP m),(yP p),(yI d.To),(yI d.cS)] (λb=>Q b) u
 else
 bH (α1:=Bool) (λk=>(if (d.Kind==3)=true then
 k (d.Kind==3) u
 else
 k (d.Kind==4) u))
 (λR b=>(if R then
 bA P Um [(yP m),(yP p),(.bool (d.Kind==4))] (λc=>Q c) b
 else
 (if (d.Kind==5)=true then
 aj none p λq=>cl b (Addr.add q 13) [(.bool false)] (λc=>aj none n λs=>na c s 6 λo=>aj none p λf=>fU c f 0 λt=>aa P xJ [(yI t)] yH (λr2 e=>(((aR e (Addr.add s 6) [(yP o)])/\True)/\aa P Co [(yP o),(yI r2)] aW (λA i=>(if decide (d.cS>0) then
 aj none n λl=>na i l 6 λg=>aj none p λC=>fU i C 0 λy=>aj none m λz=>fU i z 9 λB=>aa P xJ [(yI y)] yH (λj w=>(((aR w (Addr.add l 6) [(yP g)])/\((aR w (Addr.add z 9) [(yI B)])/\(True/\True)))/\aa P xH [(yP g),(yI j),(yI (yw (B+(fK d.cS 1099511627776))))] yH (λO G=>Q G) w)) i
 else
 Q i)) e)) c)
 else
 (if (d.Kind==6)=true then
 aj none n λq=>na b q 6 λo=>aj none p λs=>fU b s 0 λt=>aj none m λf=>fU b f 9 λg=>aa P yO [(yI t)] yH (λr2 c=>(((aR c (Addr.add q 6) [(yP o)])/\((aR c (Addr.add f 9) [(yI g)])/\(True/\True)))/\aa P xH [(yP o),(yI r2),(yI (yw (g+(fK (pV d.cS 1) 1099511627776))))] yH (λA e=>aj none p λl=>cl e (Addr.add l 3) [(yI 4)] (λi=>Q i)) c)) b
 else
 (if (d.Kind==7)=true then
 aj none n λq=>na b q 5 λo=>aj none p λs=>fU b s 0 λt=>bu P O0 [(yP o),(yI d.To),(yI t)] aW yH (λr2 A c=>(if r2 then
 aj none p λf=>aD none fh c (Addr.add f 4) λg=>aa P xL [g.v] fh (λj e=>aj none p λl=>cl e (Addr.add l 4) [(yI j.PC),(yI j.cD),(yI j.cE),(yI j.cF),(yI j.cG),(yI j.cH),(yI j.cI),(yI j.cJ),(yI j.cK)] (λi=>Q i)) c
 else
 aj none p λf=>cl c (Addr.add f 3) [(yI 3)] (λe=>Q e))) b
 else
 (if (d.Kind==8)=true then
 aj none n λq=>na b q 5 λo=>aj none p λs=>fU b s 0 λt=>aa P OV [(yP o),(yI t)] af (λr2 c=>((True/\True)/\aa P OH [r2.v,(yI d.To)] aW (λA e=>(if A then
 aj none n λf=>na e f 5 λg=>aj none p λl=>fU e l 0 λy=>bu P JR [(yP g),(yI d.To),(yI y)] yH yH (λj O i=>bA P Ch [(yP m),(yI j)] (λw=>Q w) i) e
 else
 Q e)) c)) b
 else
 (if (d.Kind==9)=true then
 aj none n λq=>dO b q 2 λo=>aj none m λs=>aD none yH b (Addr.add (Addr.add s 0) 5) λt=>(if decide ((o.len:Int)<t) then
 aj none n λf=>dO b f 2 λg=>aj none m λl=>fU b l 9 λy=>aj none p λC=>fU b C 0 λB=>bG [(yI y),(yI B),(yI d.cS)] (λa c=>(((aR c (Addr.add f 2) [g.v])/\True)/\gv 3 24 [(yI 0),(yI 0),(yI 0)] g ⟨(some a),1,1⟩ (λr2 e=>aj none n λz=>cl e (Addr.add z 2) [r2.v] (λi=>Q i)) c)) b
 else
 aj none n λf=>fU b f 3 λg=>aa P Pk [(yI g)] yH (λr2 c=>aj none n λl=>cl c (Addr.add l 3) [(yI r2)] (λe=>Q e)) b)
 else
 Q b)))))))))))) h
def UA (P:Program) (m:Option Addr) (p:Int) (Q:(Int->(Hp->Prop))) (h:Hp):Prop:=
 aj (some (!(decide (p<0)))) m λc=>aD (some (!(decide (p<0)))) af h (Addr.add c 11) λx=>aA ((decide (p<0)) || (decide (p>=(x.len:Int)))) λy=>(if y then
 Q 17 h
 else
 aj none m λd=>dO h d 11 λa=>((aG a.base a.len p)/\aD none an h (sat a.base 1 p) λf=>aj none f λe=>fU h e 3 λg=>aa P CS [(yI g)] aW (λr b=>(if (!r)=true then
 Q 18 b
 else
 Q 0 b)) h))
def Pd (P:Program) (p:Option Addr) (lane:Int) (v:Int) (Q:(Int->(Hp->Prop))) (h:Hp):Prop:=
 aa P O3 [(yP p),(yI lane)] aW (λr a=>(if (!r)=true then
 Q 2 a
 else
 aj none p λc=>dO a c 0 λx=>((aG x.base x.len lane)/\aD none an a (sat x.base 1 lane) λe=>aa P zzz [(yP e),(yI v)] yH (λd b=>Q d b) a))) h
def O7 (P:Program) (p:Option Addr) (lane:Int) (Q:(Hp->Prop)) (h:Hp):Prop:=
 aa P O3 [(yP p),(yI lane)] aW (λr a=>(if r then
 aj none p λc=>dO a c 0 λx=>((aG x.base x.len lane)/\aD none an a (sat x.base 1 lane) λd=>bA P ZJ [(yP d)] (λb=>Q b) a)
 else
 Q a)) h
def Vw (P:Program) (m:Option Addr) (q:Option Addr) (Q:(Hp->Prop)) (h:Hp):Prop:=
 aj none q λp=>fU h p 3 λx=>(if (x==1)=true then
 aj none q λb=>cl h (Addr.add b 3) [(yI 0)] (λa=>Q a)
 else
 Q h)
def Vy (P:Program) (m:Option Addr) (p:Option Addr) (state:Int) (Q:(Hp->Prop)) (h:Hp):Prop:=
 aj none m λM=>dO h M 10 λx=>aj none p λS=>fU h S 1 λE=>((aG x.base x.len E)/\aD none an h (sat x.base 1 E) λn=>aj none p λT=>cl h (Addr.add T 3) [(yI state)] (λJ=>aj none p λU=>cl J (Addr.add U 13) [(.bool false)] (λA=>aj none n λV=>dO A V 0 λo=>au (α1:=Int) (λG k a=>(if decide (k<(o.len:Int)) then
 ((aG o.base o.len k)/\aD none yH a (sat o.base 1 k) λq=>aj none m λv=>dO a v 11 λe=>((aG e.base e.len q)/\aD none an a (sat e.base 1 q) λb=>aj none b λw=>na a w 14 λz=>aj none p λg=>fU a g 0 λs=>aa P Zm [(yP z),(yI s)] aW (λr t=>G (yw (k+1)) t) a))
 else
 aj none n λv=>na a v 5 λq=>aj none p λw=>fU a w 0 λe=>aa P zwm [(yP q),(yI e)] af (λr t=>au (α1:=Int) (λH l d=>(if decide (l<(r.len:Int)) then
 ((aG r.base r.len l)/\aD none Ph d (sat r.base 2 l) λb=>bA P Ch [(yP m),(yI b.bT)] (λf=>H (yw (l+1)) f) d)
 else
 aj none n λg=>na d g 6 λb=>aj none p λW=>fU d W 0 λz=>aa P xJ [(yI z)] yH (λX f=>(((aR f (Addr.add g 6) [(yP b)])/\True)/\aa P Co [(yP b),(yI X)] aW (λr2 u=>aj none n λD=>na u D 6 λs=>aj none p λN=>fU u N 0 λx9=>aa P yO [(yI x9)] yH (λY B=>(((aR B (Addr.add D 6) [(yP s)])/\True)/\aa P Co [(yP s),(yI Y)] aW (λr4 C=>aj none p λO=>na C O 14 λZ=>aa P Iu [(yP Z)] af (λi K=>au (α1:=Int) (λI j c=>(if decide (j<(i.len:Int)) then
 ((aG i.base i.len j)/\aD none aF c (sat i.base 2 j) λF=>aj none m λR=>dO c R 11 λy=>((aG y.base y.len F.bT)/\aD none an c (sat y.base 1 F.bT) λa8=>bA P xG [(yP m),(yP a8),(yI 2)] (λL=>I (yw (j+1)) L) c))
 else
 Q c)) 0 K) C) B)) u) f)) d)) 0 t) a)) 0 A)))
def C4 (P:Program) (l:Sl) (ak:Int) (Q:(Int->(Int->(Hp->Prop)))) (h:Hp):Prop:=
 aA ((decide (ak<0)) || (decide (ak>8))) λy=>(if y then
 Q 1 0 h
 else
 (if decide ((l.len:Int)>256) then
 Q 3 256 h
 else
 au (α1:=Int) (λd a b=>(if decide (a<(l.len:Int)) then
 ((aG l.base l.len a)/\aD none aU b (sat l.base 5 a) λx=>aa P BZ [x.v,(yI (l.len:Int)),(yI ak)] yH (λr c=>(if (r !=0)=true then
 Q r a c
 else
 d (yw (a+1)) c)) b)
 else
 Q 0 0 b)) 0 h))
def V8 (P:Program) (x:Sl) (Q:(Hp->Prop)) (h:Hp):Prop:=
 aa P Z6 [(.int .u64 (IntKind.wrap .u64 (x.len:Int)))] yH (λr a=>bA P Cc [x.v,(yI 0),(yI (x.len:Int)),(yI r)] (λb=>Q b) a) h
def WC (P:Program) (x:Sl) (Q:(Int->(Hp->Prop))) (h:Hp):Prop:=
 bM (λk=>(if decide ((x.len:Int)<1) then
 False
 else
 k h))
 (λb=>((aG x.base x.len 0)/\aD none yH b (sat x.base 1 0) λd=>bq (α1:=Int) (α2:=Int) (λc m i a=>(if decide (i<(x.len:Int)) then
 ((aG x.base x.len i)/\aD none yH a (sat x.base 1 i) λe=>c (fK m e) (yw (i+1)) a)
 else
 Q m a)) d 1 b))
def A6 (P:Program) (s:Sl) (Q:(Sl->(Hp->Prop))) (h:Hp):Prop:=
 jj none P (dt .eql 23 (.tmp 3) (.const yN) s.v yN) aW h λx=>(if x then
 Q ⟨none,0,0⟩ h
 else
 bG [] (λa b=>gv 1 8 [(yI 0)] ⟨(some a),0,0⟩ s (λr c=>Q r c) b) h)
def UC (P:Program) (n:Int) (low:Int) (high:Int) (Q:(Bool->(Hp->Prop))) (h:Hp):Prop:=
 aA ((decide (n>=low))&&(decide (n<=high))) λy=>Q y h
def S8 (P:Program) (m:Option Addr) (i:Int) (Q:(Sl->(Hp->Prop))) (h:Hp):Prop:=
 bG [] (λa f=>bq (α1:=Sl) (α2:=Int) (λe l p b=>aj none m λn=>aD none af b (Addr.add (Addr.add n 0) 6) λx=>(if decide (p<(x.len:Int)) then
 bH (α1:=Sl) (λk=>aj none m λo=>aD none af b (Addr.add (Addr.add o 0) 6) λd=>((aG d.base d.len p)/\aD none yH b (Addr.add (sat d.base 2 p) 0) λq=>(if (q==i)=true then
 bG [(yI p)] (λa1 c=>gv 1 8 [(yI 0)] ⟨l.base,l.len,l.cap⟩ ⟨(some a1),1,1⟩ (λr g=>k r g) c) b
 else
 k ⟨l.base,l.len,l.cap⟩ b)))
 (λj c=>e j (yw (p+1)) c)
 else
 Q ⟨l.base,l.len,l.cap⟩ b)) ⟨(some a),0,0⟩ 0 f) h
def TU (P:Program) (n:Int) (Q:(Bool->(Hp->Prop))) (h:Hp):Prop:=
 aA ((decide (n>=0))&&(decide (n<=65535))) λy=>Q y h
def OD (P:Program) (m:Option Addr) (p:Int) (i:Int) (Q:(Bool->(Hp->Prop))) (h:Hp):Prop:=
 aj (some (decide (p>=0))) m λd=>aD (some (decide (p>=0))) af h (Addr.add (Addr.add d 0) 6) λx=>aA ((decide (p>=0))&&(decide (p<(x.len:Int)))) λy=>aj (some y) m λe=>aD (some y) af h (Addr.add (Addr.add e 0) 6) λa=>((y=true->(aG a.base a.len p))/\aD (some y) yH h (Addr.add (sat a.base 2 p) 0) λf=>aA (y&&(f==i)) λb=>bX (some b) (aa P zhj [(yP m),(yI p)] aW) (λr c=>aA (b&&r) λg=>Q g c) h)
def Oy (P:Program) (m:Option Addr) (i:Int) (j:Int) (Q:(Bool->(Hp->Prop))) (h:Hp):Prop:=
 aj none m λp=>aD none af h (Addr.add (Addr.add p 0) 0) λx=>((aG x.base x.len i)/\aD none (ab .u64) h (sat x.base 1 i) λd=>aj none m λc=>aD none af h (Addr.add (Addr.add c 0) 0) λa=>((aG a.base a.len j)/\aD none (ab .u64) h (sat a.base 1 j) λe=>aa P zpo [(.int .u64 d),(.int .u64 e)] aW (λr b=>Q r b) h))
def Xw (P:Program) (c:cQ) (code:Sl) (Q:(aZ->(Bool->(Hp->Prop)))) (h:Hp):Prop:=
 aA ((decide (c.PC<0)) || (decide (c.PC>=(code.len:Int)))) λy=>(if y then
 Q ⟨0,0,0,0,0⟩ false h
 else
 ((aG code.base code.len c.PC)/\aD none aU h (sat code.base 5 c.PC) λx=>aa P Vi [x.v,(yI (code.len:Int)),(yI 8)] yH (λr a=>((True/\True)/\Q x (r==0) a)) h))
def ziu (P:Program) (m:Option Addr) (p:Int) (Q:(cQ->(Hp->Prop))) (h:Hp):Prop:=
 aj none m λb=>aD none af h (Addr.add (Addr.add b 7) 2) λx=>((aG x.base x.len p)/\aD none aN h (sat x.base 15 p) λa=>Q ⟨a.PC,a.cD,a.cE,a.cF,a.cG,a.cH,a.cI,a.cJ,a.cK⟩ h)
def Wa (P:Program) (s:aB) (part:Int) (p:Int) (Q:(Int->(Hp->Prop))) (h:Hp):Prop:=
 au (α1:=Int) (λf k b=>((aG s.bt.base s.bt.len part)/\aD none af b (Addr.add (sat s.bt.base 6 part) 5) λx=>(if decide (k<(x.len:Int)) then
 au (α1:=Int) (λg i a=>((aG s.bt.base s.bt.len part)/\aD none af a (Addr.add (sat s.bt.base 6 part) 5) λc=>((aG c.base c.len k)/\aD none af a (sat c.base 1 k) λj=>(if decide (i<(j.len:Int)) then
 ((aG s.bt.base s.bt.len part)/\aD none af a (Addr.add (sat s.bt.base 6 part) 5) λd=>((aG d.base d.len k)/\aD none af a (sat d.base 1 k) λe=>((aG e.base e.len i)/\aD none yH a (sat e.base 1 i) λl=>(if (l==p)=true then
 Q k a
 else
 g (yw (i+1)) a))))
 else
 f (yw (k+1)) a)))) 0 b
 else
 Q (-1) b))) 0 h
def Wb (P:Program) (s:aB) (p:Int) (Q:(Int->(Hp->Prop))) (h:Hp):Prop:=
 au (α1:=Int) (λf q e=>(if decide (q<(s.aC.len:Int)) then
 au (α1:=Int) (λg k a=>((aG s.aC.base s.aC.len q)/\aD none af a (Addr.add (sat s.aC.base 15 q) 14) λx=>(if decide (k<(x.len:Int)) then
 ((aG s.aC.base s.aC.len q)/\aD none af a (Addr.add (sat s.aC.base 15 q) 14) λd=>((aG d.base d.len k)/\aD none af a (Addr.add (sat d.base 4 k) 1) λc=>au (α1:=Int) (λj i b=>(if decide (i<(c.len:Int)) then
 ((aG c.base c.len i)/\aD none yH b (Addr.add (sat c.base 2 i) 0) λl=>(if (l==p)=true then
 Q q b
 else
 j (yw (i+1)) b))
 else
 g (yw (k+1)) b)) 0 a))
 else
 f (yw (q+1)) a))) 0 e
 else
 Q (-1) e)) 0 h
def VA (P:Program) (x:aZ) (n:Int) (ak:Int) (Q:(Int->(Hp->Prop))) (h:Hp):Prop:=
 bu P Vk [x.v,(yI n),(yI ak)] yH yH (λr b a=>Q r a) h
def MT (P:Program) (l:Sl) (Q:(Option Addr->(Int->(Int->(Hp->Prop))))) (h:Hp):Prop:=
 bu P PF [l.v] yH yH (λr m d=>(if (r !=0)=true then
 Q none r m d
 else
 aa P SS [l.v] af (λr2 g=>Be  (λn i=>bG [r2.v,(.map n)] (λa e=>aj none (some a) λp=>dO e p 0 λx=>au (α1:=Int) (λf b c=>(if decide (b<(x.len:Int)) then
 ((aG x.base x.len b)/\aD none (ab .u64) c (sat x.base 1 b) λo=>aj none (some a) λk=>aD none gE c (Addr.add k 1) λq=>tZ (.int .u64) q (.int .u64 o) (yI b) (λj=>f (yw (b+1)) j) c)
 else
 Q (some a) 0 0 c)) 0 e) i) g) d)) h
def WG (P:Program) (a:aS) (i:Int) (Q:(Bool->(Hp->Prop))) (h:Hp):Prop:=
 bG [a.dG.v,a.fO.v,(yI a.ja),(yI a.gV),(yI a.fN),(yI a.iI),a.bZ.v,(yI a.jg),a.fP.v,a.cM.v,(yP a.t)] (λa1 z=>bG [(yI i)] (λa2 e=>aD none af e (Addr.add (Addr.add a1 7) 1) λx=>aD none yH e a2 λp=>((aG x.base x.len p)/\aD none bQ e (sat x.base 6 p) λb=>aD (some ((!(decide (b.Cursor<0)))&&(decide (b.Cursor>0)))) bn e a1 λC=>aD (some ((!(decide (b.Cursor<0)))&&(decide (b.Cursor>0)))) yH e a2 λD=>bX (some ((!(decide (b.Cursor<0)))&&(decide (b.Cursor>0)))) (aa P zsj [C.v,(yI D)] yH) (λr m=>((True/\True)/\aA ((decide (b.Cursor>0))&&(decide (b.Cursor>=r))) λy=>aA ((decide (b.Cursor<0)) || y) λq=>aD (some (!q)) yH m (Addr.add (Addr.add a1 0) 5) λE=>aA (q || (decide ((b.Log.len:Int)>E))) λG=>(if G then
 Q false m
 else
 bq (α1:=Int) (α2:=Int) (λw last l f=>(if decide (l<(b.Log.len:Int)) then
 ((aG b.Log.base b.Log.len l)/\aD none du f (sat b.Log.base 3 l) λc=>aD (some (!(decide (c.di<last)))) yH f (Addr.add (Addr.add a1 7) 0) λn=>aA ((decide (c.di<last)) || (decide (c.di>=n))) λd=>aD (some (!d)) bn f a1 λo=>aD (some (!d)) yH f a2 λF=>bX (some (!d)) (aa P JS [o.v,(yI c.bT),(yI F)] aW) (λk j=>aA (d || (!k)) λy4=>(if y4 then
 Q false j
 else
 w c.di (yw (l+1)) j)) f)
 else
 aa P Ky [(yI b.lJ)] aW (λk j=>bX (some (!(!k))) (aa P Ky [(yI b.eD)] aW) (λr2 g=>aA ((!k) || (!r2)) λd=>aD (some ((!d)&&(decide (b.lJ>0)))) yH g (Addr.add (Addr.add a1 0) 5) λc=>aA ((decide (b.lJ>0))&&(decide ((b.Log.len:Int)<c))) λy4=>aA (d || y4) λs=>aD (some (!s)) yH g (Addr.add (Addr.add a1 0) 4) λn=>aA (s || ((b.bN.len:Int) !=n)) λu=>aD (some (!u)) yH g (Addr.add (Addr.add a1 0) 4) λo=>aA (u || ((b.bI.len:Int) !=o)) λH=>(if H then
 Q false g
 else
 aa P zis [b.bN.v,(.func (.func 129) #[] #[(yP (some a1)),(yP (some a2))])] aW (λB A=>Q (!B) A) g)) j) f)) 0 0 m))) e)) z) h
def WJ (P:Program) (a:aS) (p:Int) (Q:(Bool->(Hp->Prop))) (h:Hp):Prop:=
 ((aG a.cM.base a.cM.len p)/\aD none aN h (sat a.cM.base 15 p) λx=>((aG a.bZ.base a.bZ.len p)/\aD none bV h (sat a.bZ.base 2 p) λl=>((True/\((aR h (sat a.bZ.base 2 p) [(yI l.Part),l.Code.v])/\True))/\bH (α1:=Bool) (λk=>aA ((decide (x.State<0)) || (decide (x.State>6))) λy=>(if y then
 k y h
 else
 aA ((decide (x.PC<0)) || (decide (x.PC>(l.Code.len:Int)))) λf=>(if f then
 k f h
 else
 (if ((x.cC.len:Int) !=(yw ((a.dG.len:Int)+1)))=true then
 k ((x.cC.len:Int) !=(yw ((a.dG.len:Int)+1))) h
 else
 aA ((decide (x.Cursor<0)) || (decide (x.Cursor>=(x.cC.len:Int)))) λi=>k i h))))
 (λC j=>(if C then
 Q false j
 else
 bH (α1:=Bool) (λk=>aA ((decide (x.Timer<0)) || (decide (x.Timer>(yw (a.jg+1099511627776))))) λy=>(if y then
 k y j
 else
 aA ((decide (x.jl<0)) || (decide (x.jl>(yw (a.jg+1099511627776))))) λf=>(if f then
 k f j
 else
 k (!((decide (x.jl>0))==(x.State==4))) j)))
 (λD n=>(if D then
 Q false n
 else
 aa P CS [(yI x.State)] aW (λr o=>aA ((x.Timer !=0) || x.gx) λy=>aA ((!r)&&y) λf=>(if f then
 Q false o
 else
 bq (α1:=Bool) (α2:=Int) (λz some_ g e=>(if decide (g<(x.cC.len:Int)) then
 ((aG x.cC.base x.cC.len g)/\aD none bD e (sat x.cC.base 4 g) λd=>aA ((decide ((d.dm.len:Int)>0)) || (decide (d.jk>0))) λi=>aA (i || (decide (d.fM>0))) λm=>bX (some (!(decide ((d.dm.len:Int)>a.gV)))) (aa P Ky [(yI d.jk)] aW) (λc b=>aA ((decide ((d.dm.len:Int)>a.gV)) || (!c)) λs=>bX (some (!s)) (aa P Ky [(yI d.fM)] aW) (λr2 A=>aA (s || (!r2)) λu=>aA (m&&(decide (g<(a.dG.len:Int)))) λw=>bX (some ((!u)&&w)) (aa P Xo [(yP a.t),(yI g),(yI l.Part)] aW) (λB q=>aA (w&&(!B)) λy7=>aA (u || y7) λE=>(if E then
 Q false q
 else
 aA (some_ || (decide ((d.dm.len:Int)>0))) λF=>z F (yw (g+1)) q)) A) b) e)
 else
 (if (x.State==1)=true then
 aa P JT [a.v,(yI p)] yH (λc b=>aA ((c==25)&&(!some_)) λi=>aA (i&&(!x.gx)) λm=>Q m b) e
 else
 (if (x.State==2)=true then
 aa P JT [a.v,(yI p)] yH (λc b=>Q (c==24) b) e
 else
 (if (x.State==3)=true then
 aa P JT [a.v,(yI p)] yH (λc b=>Q (c==29) b) e
 else
 (if (x.State==4)=true then
 aa P JT [a.v,(yI p)] yH (λc b=>Q (c==28) b) e
 else
 Q true e)))))) false 0 o)) n)))))))
def Wc (P:Program) (a:aS) (Q:(Bool->(Hp->Prop))) (h:Hp):Prop:=
 dL 8 [(yI 0)] (a.cM.len:Int) (a.cM.len:Int) (λr H=>au (α1:=Int) (λF q A=>(if decide (q<(a.fP.len:Int)) then
 ((aG a.fP.base a.fP.len q)/\aD none bQ A (sat a.fP.base 6 q) λx=>au (α1:=Int) (λz f g=>(if decide (f<(x.bI.len:Int)) then
 ((aG x.bI.base x.bI.len f)/\aD none af g (sat x.bI.base 1 f) λd=>au (α1:=Int) (λo u c=>(if decide (u<(d.len:Int)) then
 ((aG d.base d.len u)/\aD none yH c (sat d.base 1 u) λb=>aa P JS [a.v,(yI b),(yI q)] aW (λp e=>(((!(!p))=true->(aG a.cM.base a.cM.len b))/\aD (some (!(!p))) yH e (Addr.add (sat a.cM.base 15 b) 0) λw=>aA ((!p) || (w !=3)) λy=>bX (some (!y)) (aa P OW [a.v,(yI b)] aU) (λr2 i=>aA (y || (r2.iZ !=f)) λs=>(((!s)=true->(aG x.bN.base x.bN.len f))/\aD (some (!s)) yH i (sat x.bN.base 1 f) λD=>aA (s || (decide (D<0))) λn=>(((!n)=true->(aG x.bN.base x.bN.len f))/\aD (some (!n)) yH i (sat x.bN.base 1 f) λK=>aA (n || (K==b)) λE=>(if E then
 Q false i
 else
 ((aG r.base r.len b)/\aD none yH i (sat r.base 1 b) λL=>((aG r.base r.len b)/\cl i (sat r.base 1 b) [(yI (yw (L+1)))] (λB=>o (yw (u+1)) B))))))) e)) c)
 else
 z (yw (f+1)) c)) 0 g)
 else
 F (yw (q+1)) g)) 0 A)
 else
 au (α1:=Int) (λz j g=>(if decide (j<(a.cM.len:Int)) then
 ((aG a.cM.base a.cM.len j)/\aD none aN g (sat a.cM.base 15 j) λx=>au (α1:=Int) (λo l c=>(if decide (l<(x.cC.len:Int)) then
 ((aG x.cC.base x.cC.len l)/\aD none bD c (sat x.cC.base 4 l) λd=>au (α1:=Int) (λG t e=>(if decide (t<(d.bB.len:Int)) then
 ((aG d.bB.base d.bB.len t)/\aD none aF e (sat d.bB.base 2 t) λb=>((aG a.bZ.base a.bZ.len j)/\aD none yH e (Addr.add (sat a.bZ.base 2 j) 0) λw=>bX (some (!(l !=w))) (aa P JS [a.v,(yI b.bT),(yI l)] aW) (λp i=>aA ((l !=w) || (!p)) λy=>bX (some (!y)) (aa P CS [(yI x.State)] aW) (λr2 B=>aA (y || (!r2)) λs=>aA (s || ((d.dm.len:Int) !=a.gV)) λn=>bX (some (!n)) (aa P zre [a.v,b.v,(yI j)] aW) (λJ C=>aA (n || (!J)) λE=>(if E then
 Q false C
 else
 ((aG r.base r.len b.bT)/\aD none yH C (sat r.base 1 b.bT) λD=>((aG r.base r.len b.bT)/\cl C (sat r.base 1 b.bT) [(yI (yw (D+1)))] (λI=>G (yw (t+1)) I))))) B) i) e))
 else
 o (yw (l+1)) e)) 0 c)
 else
 z (yw (j+1)) c)) 0 g)
 else
 au (α1:=Int) (λo m c=>(if decide (m<(a.cM.len:Int)) then
 ((aG a.cM.base a.cM.len m)/\aD none aN c (sat a.cM.base 15 m) λx=>bH (α1:=Int) (λk=>aA ((x.State==3) || (x.State==2)) λy=>(if y then
 k 1 c
 else
 k 0 c))
 (λvW e=>((aG r.base r.len m)/\aD none yH e (sat r.base 1 m) λd=>(if (d !=vW)=true then
 Q false e
 else
 o (yw (m+1)) e))))
 else
 Q true c)) 0 g)) 0 A)) 0 H) h
def MU (P:Program) (l:Sl) (Q:(Int->(Int->(Hp->Prop)))) (h:Hp):Prop:=
 (if ((l.len:Int)==0)=true then
 Q 1 0 h
 else
 (if decide ((l.len:Int)>8) then
 Q 3 8 h
 else
 au (α1:=Int) (λb i a=>(if decide (i<(l.len:Int)) then
 ((aG l.base l.len i)/\aD none (ab .u64) a (sat l.base 1 i) λx=>((aG l.base l.len (yw (i-1)))/\aD none (ab .u64) a (sat l.base 1 (yw (i-1))) λc=>(if (x==c)=true then
 Q 8 i a
 else
 ((aG l.base l.len i)/\aD none (ab .u64) a (sat l.base 1 i) λd=>((aG l.base l.len (yw (i-1)))/\aD none (ab .u64) a (sat l.base 1 (yw (i-1))) λe=>(if decide (d<e) then
 Q 7 i a
 else
 b (yw (i+1)) a))))))
 else
 Q 0 0 a)) 1 h))
def CA (P:Program) (n:Int) (lN:Int) (Q:(Int->(Hp->Prop))) (h:Hp):Prop:=
 (if (n==0)=true then
 Q 1 h
 else
 (if decide (n>lN) then
 Q 3 h
 else
 Q 0 h))
def MW (P:Program) (table:Sl) (parts:Int) (Q:(Option Addr->(Int->(Int->(Hp->Prop))))) (h:Hp):Prop:=
 bG [(yI parts)] (λa b=>aD none yH b a λx=>aD (some (!(decide (x<1)))) yH b a λi=>aA ((decide (x<1)) || (decide (i>8))) λy=>aA (y || ((table.len:Int)==0)) λj=>(if j then
 Q none 1 0 b
 else
 (if decide ((table.len:Int)>64) then
 Q none 3 64 b
 else
 aa P Te [table.v,(.func (.func 135) #[] #[(yP (some a))])] yH (λr c=>(if decide (r>=0) then
 Q none 2 r c
 else
 aD none yH c a λe=>aa P Jg [table.v] af (λg d=>(((aR d a [(yI e)])/\True)/\bG [g.v,(yI e)] (λa1 f=>Q (some a1) 0 0 f) d)) c)) b))) h
def zye (P:Program) (part:Int) (n:Int) (Q:(Int->(Hp->Prop))) (h:Hp):Prop:=
 (if (part==2)=true then
 aa P FD [(yI n),(yI 1),(yI 256)] aW (λr a=>(if (!r)=true then
 Q 2 a
 else
 Q 0 a)) h
 else
 (if (part==3)=true then
 aa P FD [(yI n),(yI 1),(yI 64)] aW (λr a=>(if (!r)=true then
 Q 2 a
 else
 Q 0 a)) h
 else
 (if (part==4)=true then
 aa P FD [(yI n),(yI 0),(yI 8)] aW (λr a=>(if (!r)=true then
 Q 2 a
 else
 Q 0 a)) h
 else
 (if (part==5)=true then
 aa P FD [(yI n),(yI 0),(yI 4096)] aW (λr a=>(if (!r)=true then
 Q 2 a
 else
 Q 0 a)) h
 else
 Q 0 h))))
def zyf (P:Program) (n:Int) (from_:Int) (to:Int) (Q:(Bool->(Hp->Prop))) (h:Hp):Prop:=
 aA ((decide (n>=from_))&&(decide (n<=to))) λy=>Q y h
def ZP (P:Program) (c:aw) (Q:(aw->(Hp->Prop))) (h:Hp):Prop:=
 aa P SS [c.bg.v] af (λr e=>((True/\(True/\True))/\aa P Jg [c.Table.v] af (λk f=>((True/\True)/\aa P zgt [c.aC.v] af (λr2 g=>au (α1:=Int) (λd a b=>(if decide (a<(r2.len:Int)) then
 ((aG r2.base r2.len a)/\aD none bV b (sat r2.base 2 a) λx=>aa P zhk [x.Code.v] af (λl i=>((True/\True)/\((aG r2.base r2.len a)/\cl i (Addr.add (sat r2.base 2 a) 1) [l.v] (λj=>d (yw (a+1)) j)))) b)
 else
 Q ⟨r,k,c.Fuel,c.gy,c.bR,c.Log,r2⟩ b)) 0 g) f)) e)) h
def CB (P:Program) (av:Sl) (ah:Sl) (Q:(Option Addr->(Int->(Hp->Prop)))) (h:Hp):Prop:=
 aA ((decide ((av.len:Int)>8)) || (decide ((ah.len:Int)>8))) λy=>(if y then
 Q none 3 h
 else
 (if ((av.len:Int) !=(ah.len:Int))=true then
 Q none 4 h
 else
 bG [yN] (λa w=>au (α1:=Int) (λt b c=>(if decide (b<(av.len:Int)) then
 ((aG av.base av.len b)/\aD none yH c (sat av.base 1 b) λx=>((((!(decide (x<(-1))))&&(x==(-1)))=true->(aG ah.base ah.len b))/\aD (some ((!(decide (x<(-1))))&&(x==(-1)))) af c (sat ah.base 1 b) λE=>aA ((x==(-1))&&(decide ((E.len:Int)>0))) λy1=>aA ((decide (x<(-1))) || y1) λG=>(if G then
 Q none 4 c
 else
 aj none (some a) λp=>dO c p 0 λF=>bG [(yI x),yN] (λa1 A=>gv 2 32 [(yI 0),yN] F ⟨(some a1),1,1⟩ (λr B=>aj none (some a) λC=>cl B (Addr.add C 0) [r.v] (λn=>((aG ah.base ah.len b)/\aD none af n (sat ah.base 1 b) λj=>au (α1:=Int) (λu i l=>(if decide (i<(j.len:Int)) then
 ((aG j.base j.len i)/\aD none yH l (sat j.base 1 i) λk=>bu P OX [(yP (some a)),(yI k)] yH aW (λJ r2 d=>aA (r2 || (decide (k<0))) λH=>aA (H || (k==x)) λI=>(if I then
 Q none 4 d
 else
 aj none (some a) λm=>dO d m 0 λe=>aj none (some a) λq=>dO d q 0 λf=>((aG f.base f.len b)/\aD none af d (Addr.add (sat f.base 2 b) 1) λs=>bG [(yI k)] (λa2 g=>(((aR g (Addr.add m 0) [e.v])/\((aR g (Addr.add q 0) [f.v])/\((aR g (Addr.add (sat f.base 2 b) 1) [s.v])/\True)))/\gv 1 8 [(yI 0)] s ⟨(some a2),1,1⟩ (λD o=>(((aR o (Addr.add m 0) [e.v])/\True)/\((aG e.base e.len b)/\cl o (Addr.add (sat e.base 2 b) 1) [D.v] (λz=>u (yw (i+1)) z)))) g)) d))) l)
 else
 t (yw (b+1)) l)) 0 n))) A) c)))
 else
 Q (some a) 0 c)) 0 w) h))
def PI (P:Program)  (Q:(Option Addr->(Hp->Prop))) (h:Hp):Prop:=
 Be  (λr b=>bG [yN,(.map r)] (λa c=>Q (some a) c) b) h
def C6 (P:Program) (room:Int) (l:Sl) (ag:Int) (Q:(Option Addr->(Int->(Hp->Prop)))) (h:Hp):Prop:=
 aA ((decide ((l.len:Int)<1)) || (decide ((l.len:Int)>9))) λy=>aA (y || (decide (room<1))) λo=>aA (o || (decide (room>64))) λq=>(if q then
 Q none 1 h
 else
 aA ((decide (ag<0)) || (decide (ag>=(l.len:Int)))) λs=>(if s then
 Q none 2 h
 else
 bG [yN,(yI ag)] (λa f=>au (α1:=Int) (λe b c=>(if decide (b<(l.len:Int)) then
 ((aG l.base l.len b)/\aD none bD c (sat l.base 4 b) λx=>bu P C0 [(yI room),x.v] an yH (λr m d=>(if (m !=0)=true then
 Q none 4 d
 else
 aj none (some a) λp=>dO d p 0 λn=>bG [(yP r)] (λa1 g=>gv 1 8 [(yP none)] n ⟨(some a1),1,1⟩ (λr2 i=>aj none (some a) λk=>cl i (Addr.add k 0) [r2.v] (λj=>e (yw (b+1)) j)) g) d)) c)
 else
 Q (some a) 0 c)) 0 f) h))
def O5 (P:Program) (w:Option Addr) (dI:Int) (due:Int) (Q:(Int->(Hp->Prop))) (h:Hp):Prop:=
 aA ((decide (dI<0)) || (decide (due<0))) λy=>(if y then
 Q 1 h
 else
 aa P Co [(yP w),(yI dI)] aW (λr b=>aj none w λp=>dO b p 0 λx=>bu P Ow [x.v,(.agg #[(yI due),(yI dI)]),(.func (.func 141) #[] #[])] yH aW (λm r2 c=>aj none w λf=>dO c f 0 λg=>bG [(yI due),(yI dI)] (λa d=>(((aR d (Addr.add f 0) [g.v])/\True)/\aa P Rd [g.v,(yI m),(.slice (some a) 1 1)] af (λn i=>aj none w λk=>cl i (Addr.add k 0) [n.v] (λe=>aj none w λl=>aD none gE e (Addr.add l 1) λo=>tZ (.int .i64) o (yI dI) (.agg #[(yI due),(yI dI)]) (λj=>Q 0 j) e)) d)) c) b) h)
def UE (P:Program) (x:Sl) (count:Int) (Q:(Sl->(Hp->Prop))) (h:Hp):Prop:=
 bM (λk=>(if decide (count<0) then
 False
 else
 k h))
 (λd=>bu P Z7 [(.int .u64 (IntKind.wrap .u64 (x.len:Int))),(.int .u64 (IntKind.wrap .u64 count))] (ab .u64) (ab .u64) (λr a e=>bM (λk=>aA ((decide (r>0)) || (decide (a>9223372036854775807))) λy=>(if y then
 False
 else
 k e))
 (λf=>dL 8 [(yI 0)] (yw a) (yw a) (λr2 g=>fW 1 r2 x (λl i=>au (α1:=Int) (λc n b=>(if decide (n<(r2.len:Int)) then
 ((0<=n/\n<=(r2.len:Int))/\aA (α:=Sl) ⟨(aV r2.base 1 (Int.toNat n) r2.cap),(r2.len-(Int.toNat n)),(r2.cap-(Int.toNat n))⟩ λy=>((0<=n/\n<=(r2.cap:Int))/\aA (α:=Sl) ⟨(aV r2.base 1 0 r2.cap),((Int.toNat n)-0),(r2.cap-0)⟩ λo=>fW 1 y o (λm j=>c (yw (n+m)) j) b))
 else
 Q r2 b)) l i) g) f)) d)
def Zt (P:Program) (l:Option Addr) (Q:(cd->(Hp->Prop))) (h:Hp):Prop:=
 aj none l λp=>dO h p 1 λx=>aj none l λg=>dO h g 2 λi=>aj none l λc=>fU h c 3 λe=>aj none l λd=>fU h d 4 λf=>aa P Tg [x.v] af (λr a=>(((aR a (Addr.add g 2) [i.v])/\((aR a (Addr.add c 3) [(yI e)])/\((aR a (Addr.add d 4) [(yI f)])/\True)))/\aa P Ro [i.v] af (λj b=>(((aR b (Addr.add c 3) [(yI e)])/\((aR b (Addr.add d 4) [(yI f)])/\True))/\Q ⟨r,j,e,f⟩ b)) a)) h
def O6 (P:Program) (w:Option Addr) (now:Int) (Q:(Sl->(Hp->Prop))) (h:Hp):Prop:=
 au (α1:=Sl) (λf out b=>aj none w λp=>dO b p 0 λx=>aj (some (decide ((x.len:Int)>0))) w λk=>aD (some (decide ((x.len:Int)>0))) af b (Addr.add k 0) λc=>(((decide ((x.len:Int)>0))=true->(aG c.base c.len 0))/\aD (some (decide ((x.len:Int)>0))) yH b (Addr.add (sat c.base 2 0) 0) λm=>aA ((decide ((x.len:Int)>0))&&(decide (m<=now))) λy=>(if y then
 aj none w λl=>dO b l 0 λd=>((aG d.base d.len 0)/\aD none yH b (Addr.add (sat d.base 2 0) 1) λe=>bG [(yI e)] (λa g=>gv 1 8 [(yI 0)] out ⟨(some a),1,1⟩ (λr i=>aa P Co [(yP w),(yI e)] aW (λn j=>f r j) i) g) b)
 else
 Q out b))) ⟨none,0,0⟩ h
def VC (P:Program) (m:Option Addr) (p:Option Addr) (c:bc) (Q:(Hp->Prop)) (h:Hp):Prop:=
 aj none p λd=>cl h (Addr.add d 3) [(yI 0)] (λa=>((True/\True)/\aj none p λe=>cl a (Addr.add e 4) [(yI c.PC),(yI c.cD),(yI c.cE),(yI c.cF),(yI c.cG),(yI c.cH),(yI c.cI),(yI c.cJ),(yI c.cK)] (λb=>Q b)))
def C7 (P:Program) (c:bc) (Q:(bc->(Hp->Prop))) (h:Hp):Prop:=
 Q ⟨(yw (c.PC+1)),c.cD,c.cE,c.cF,c.cG,c.cH,c.cI,c.cJ,c.cK⟩ h
def C8 (P:Program) (c:bc) (l:Sl) (tick:Int) (H:Int) (Q:(bc->(ed->(Hp->Prop)))) (h:Hp):Prop:=
 bG [(yI c.PC),(yI c.cD),(yI c.cE),(yI c.cF),(yI c.cG),(yI c.cH),(yI c.cI),(yI c.cJ),(yI c.cK)] (λa o=>aD none fh o a λx=>bu P wR [x.v,l.v] aU aW (λr q w=>bX (some (!(!q))) (aa P BZ [r.v,(yI (l.len:Int)),(yI 8)] yH) (λr2 j=>aA ((!q) || (r2 !=0)) λy=>(if y then
 aD none fh j a λn=>Q n ⟨1,0,0⟩ j
 else
 aD none xK j (Addr.add a 1) λn=>kT P Cx [r.v,n.v] D7 aW aW (λs D E e=>(if E then
 (if D then
 aD none fh e a λb=>((True/\True)/\Q b s e)
 else
 aD none fh e a λb=>aa P xL [b.v] fh (λi d=>((True/\True)/\((True/\True)/\Q i s d))) e)
 else
 aD none xK e (Addr.add a 1) λb=>fQ (α1:=bc) (α2:=ed) (λk=>(if (r.Op==1)=true then
 bA P wL [(yP (some a)),(yI r.A),(yI r.iZ)] (λd=>k ⟨0,0,0,0,0,0,0,0,0⟩ ⟨0,0,0⟩ d) e
 else
 (if (r.Op==2)=true then
 ((0<=r.B/\r.B<8)/\∃f:Int,((List.get?Internal (α:=Value) [(yI b.a0),(yI b.a1),(yI b.a2),(yI b.a3),(yI b.a4),(yI b.a5),(yI b.a6),(yI b.a7)] (0+((Int.toNat r.B)*1)))=(some (yI f))/\bA P wL [(yP (some a)),(yI r.A),(yI f)] (λd=>k ⟨0,0,0,0,0,0,0,0,0⟩ ⟨0,0,0⟩ d) e))
 else
 (if (r.Op==32)=true then
 bA P wL [(yP (some a)),(yI r.A),(yI tick)] (λd=>k ⟨0,0,0,0,0,0,0,0,0⟩ ⟨0,0,0⟩ d) e
 else
 (if (r.Op==33)=true then
 bA P wL [(yP (some a)),(yI r.A),(yI H)] (λd=>k ⟨0,0,0,0,0,0,0,0,0⟩ ⟨0,0,0⟩ d) e
 else
 (if (r.Op==22)=true then
 cl e (Addr.add a 0) [(yI r.iZ)] (λd=>aD none fh d a λf=>Q f ⟨0,0,0⟩ d)
 else
 (if (r.Op==23)=true then
 ((0<=r.A/\r.A<8)/\∃f:Int,((List.get?Internal (α:=Value) [(yI b.a0),(yI b.a1),(yI b.a2),(yI b.a3),(yI b.a4),(yI b.a5),(yI b.a6),(yI b.a7)] (0+((Int.toNat r.A)*1)))=(some (yI f))/\(if (f==0)=true then
 k ⟨0,0,0,0,0,0,0,0,0⟩ ⟨0,0,0⟩ e
 else
 cl e (Addr.add a 0) [(yI r.iZ)] (λd=>aD none fh d a λm=>Q m ⟨0,0,0⟩ d))))
 else
 ((0<=r.B/\r.B<8)/\∃f:Int,((List.get?Internal (α:=Value) [(yI b.a0),(yI b.a1),(yI b.a2),(yI b.a3),(yI b.a4),(yI b.a5),(yI b.a6),(yI b.a7)] (0+((Int.toNat r.B)*1)))=(some (yI f))/\((0<=r.C/\r.C<8)/\∃m:Int,((List.get?Internal (α:=Value) [(yI b.a0),(yI b.a1),(yI b.a2),(yI b.a3),(yI b.a4),(yI b.a5),(yI b.a6),(yI b.a7)] (0+((Int.toNat r.C)*1)))=(some (yI m))/\bu P Ep [(yI r.Op),(yI f),(yI m)] yH yH (λi F d=>bH (α1:=Int) (λp=>(if (F !=0)=true then
 ((0<=r.B/\r.B<8)/\∃t:Int,((List.get?Internal (α:=Value) [(yI b.a0),(yI b.a1),(yI b.a2),(yI b.a3),(yI b.a4),(yI b.a5),(yI b.a6),(yI b.a7)] (0+((Int.toNat r.B)*1)))=(some (yI t))/\((0<=r.C/\r.C<8)/\∃u:Int,((List.get?Internal (α:=Value) [(yI b.a0),(yI b.a1),(yI b.a2),(yI b.a3),(yI b.a4),(yI b.a5),(yI b.a6),(yI b.a7)] (0+((Int.toNat r.C)*1)))=(some (yI u))/\bu P Er [(yI r.Op),(yI t),(yI u)] yH yH (λG I g=>p G g) d))))
 else
 p i d))
 (λv g=>bA P wL [(yP (some a)),(yI r.A),(yI v)] (λz=>k ⟨0,0,0,0,0,0,0,0,0⟩ ⟨0,0,0⟩ z) g)) e)))))))))))
 (λJ K d=>aD none fh d a λf=>aa P xL [f.v] fh (λi g=>Q i ⟨0,0,0⟩ g) d))) j)) w) o) h
def UG (P:Program) (m:Option Addr) (p:Option Addr) (to:Int) (v:Int) (Q:(Hp->Prop)) (h:Hp):Prop:=
 aj (some (!(decide (to<0)))) m λC=>aD (some (!(decide (to<0)))) af h (Addr.add C 11) λx=>aA ((decide (to<0)) || (decide (to>=(x.len:Int)))) λy=>(if y then
 bA P xG [(yP m),(yP p),(yI 1)] (λa=>Q a) h
 else
 aj none m λE=>dO h E 11 λz=>((aG z.base z.len to)/\aD none an h (sat z.base 1 to) λe=>aj none m λF=>na h F 7 λI=>aj none p λG=>fU h G 1 λJ=>aj none e λH=>fU h H 1 λK=>aa P Xo [(yP I),(yI J),(yI K)] aW (λr a=>(if (!r)=true then
 aj none m λl=>dO a l 10 λf=>aj none p λn=>fU a n 1 λg=>((aG f.base f.len g)/\aD none an a (sat f.base 1 g) λq=>aj none m λu=>dO a u 10 λj=>aj none p λw=>fU a w 1 λo=>((aG j.base j.len o)/\aD none an a (sat j.base 1 o) λA=>aj none A λs=>fU a s 4 λB=>aa P Pk [(yI B)] yH (λd b=>(((aR b (Addr.add l 10) [f.v])/\((aR b (Addr.add n 1) [(yI g)])/\((aR b (sat f.base 1 g) [(yP q)])/\True)))/\aj none q λt=>cl b (Addr.add t 4) [(yI d)] (λc=>bA P xG [(yP m),(yP p),(yI 0)] (λi=>Q i) c))) a))
 else
 aj none p λl=>fU a l 1 λf=>aj none e λn=>fU a n 1 λg=>(if (f==g)=true then
 bA P TT [(yP m),(yP p),(yP e),(yI v)] (λb=>Q b) a
 else
 bM (λk=>aj none e λu=>fU a u 3 λq=>aa P CS [(yI q)] aW (λd b=>aj (some (!(!d))) e λw=>aD (some (!(!d))) an b (Addr.add w 14) λj=>aj (some (!(!d))) p λs=>aD (some (!(!d))) yH b (Addr.add s 1) λo=>bX (some (!(!d))) (aa P O9 [(yP j),(yI o),(yI v)] yH) (λr2 c=>aA ((!d) || (r2 !=0)) λL=>(if L then
 aj none e λt=>na c t 14 λA=>aj none p λD=>fU c D 1 λB=>bA P J9 [(yP A),(yI B)] (λi=>k i) c
 else
 bA P Jf [(yP m),(yP e)] (λi=>k i) c)) b) a)
 (λb=>bA P xG [(yP m),(yP p),(yI 0)] (λc=>Q c) b)))) h))
def UI (P:Program) (m:Option Addr) (p:Option Addr) (w:Bool) (Q:(Hp->Prop)) (h:Hp):Prop:=
 aj none p λo=>na h o 14 λx=>Ax P ZK [(yP x)] yH yH aF aW yH (λr s r2 t u b=>(if (u==0)=true then
 aj none p λl=>aD none fh b (Addr.add l 4) λn=>aj none p λe=>dO b e 2 λj=>aa P yG [n.v,j.v,(yI r),(yI s)] fh (λa c=>aj none p λg=>cl c (Addr.add g 4) [(yI a.PC),(yI a.cD),(yI a.cE),(yI a.cF),(yI a.cG),(yI a.cH),(yI a.cI),(yI a.cJ),(yI a.cK)] (λd=>(if t then
 aj none m λi=>dO d i 11 λf=>((aG f.base f.len r2.bT)/\aD none an d (sat f.base 1 r2.bT) λy=>bA P xG [(yP m),(yP y),(yI 0)] (λk=>Q k) d)
 else
 Q d))) b
 else
 aj none p λl=>aD none aW b (Addr.add l 13) λn=>(if n then
 aj none p λe=>cl b (Addr.add e 13) [(.bool false)] (λc=>aj none p λg=>aD none fh c (Addr.add g 4) λj=>aj none p λi=>dO c i 2 λf=>aa P yG [j.v,f.v,(yI 0),(yI (-2))] fh (λa d=>aj none p λq=>cl d (Addr.add q 4) [(yI a.PC),(yI a.cD),(yI a.cE),(yI a.cF),(yI a.cG),(yI a.cH),(yI a.cI),(yI a.cJ),(yI a.cK)] (λk=>Q k)) c)
 else
 (if w then
 aj none p λe=>aD none fh b (Addr.add e 4) λj=>aj none p λg=>dO b g 2 λf=>aa P yG [j.v,f.v,(yI 0),(yI (-1))] fh (λa c=>aj none p λi=>cl c (Addr.add i 4) [(yI a.PC),(yI a.cD),(yI a.cE),(yI a.cF),(yI a.cG),(yI a.cH),(yI a.cI),(yI a.cJ),(yI a.cK)] (λd=>Q d)) b
 else
 aj none p λe=>cl b (Addr.add e 3) [(yI 1)] (λc=>Q c))))) h
def OZ (P:Program) (w:Option Addr) (dI:Int) (Q:(Bool->(Hp->Prop))) (h:Hp):Prop:=
 aj none w λp=>aD none gE h (Addr.add p 1) λx=>jZ none (.int .i64) aX (.agg #[(yI 0),(yI 0)]) x (yI dI) h λn ok=>(if (!ok)=true then
 Q false h
 else
 aj none w λk=>dO h k 0 λc=>au (α1:=Int) (λi b a=>(if decide (b<(c.len:Int)) then
 ((aG c.base c.len b)/\aD none aX a (sat c.base 2 b) λf=>jj none P (dt .eql 176 (.tmp 30) (.tmp 31) f.v n.v) aW a λo=>(if o then
 aj none w λe=>dO a e 0 λq=>aa P zeh [q.v,(yI b),(yI (yw (b+1)))] af (λr d=>aj none w λl=>cl d (Addr.add l 0) [r.v] (λg=>aj none w λm=>aD none gE g (Addr.add m 1) λs=>wY (.int .i64) s (yI dI) (λj=>Q true j) g)) a
 else
 i (yw (b+1)) a))
 else
 aj none w λe=>aD none gE a (Addr.add e 1) λf=>wY (.int .i64) f (yI dI) (λd=>Q true d) a)) 0 h)
def Yn (P:Program) (l:Option Addr) (n:Int) (p:Int) (Q:(Bool->(Int->(Hp->Prop)))) (h:Hp):Prop:=
 aa P Xq [(yP l),(yI n),(yI p)] yH (λr i=>(if (r !=0)=true then
 Q false r i
 else
 bu P OX [(yP l),(yI p)] yH aW (λy r2 c=>(if r2 then
 Q false 20 c
 else
 aj none l λq=>dO c q 0 λx=>((aG x.base x.len n)/\bM (λk=>aj none (some (sat x.base 2 n)) λe=>fU c e 0 λf=>(if (f==(-1))=true then
 aj none (some (sat x.base 2 n)) λd=>cl c (Addr.add d 0) [(yI p)] (λb=>k b)
 else
 k c))
 (λb=>aj none (some (sat x.base 2 n)) λe=>fU b e 0 λf=>(if (f !=p)=true then
 aj none (some (sat x.base 2 n)) λd=>dO b d 1 λg=>bG [(yI p)] (λa m=>gv 1 8 [(yI 0)] g ⟨(some a),1,1⟩ (λu o=>aj none (some (sat x.base 2 n)) λs=>cl o (Addr.add s 1) [u.v] (λj=>aj none (some (sat x.base 2 n)) λt=>fU j t 0 λw=>Q (w==p) 0 j)) m) b
 else
 aj none (some (sat x.base 2 n)) λd=>fU b d 0 λg=>Q (g==p) 0 b))))) i)) h
def TC (P:Program) (s:Sl) (v:Int) (Q:(Bool->(Hp->Prop))) (h:Hp):Prop:=
 aa P Jd [s.v,(yI v)] yH (λr a=>Q (decide (r>=0)) a) h
def Xy (P:Program) (l:Option Addr) (p:Int) (Q:(Sl->(Hp->Prop))) (h:Hp):Prop:=
 aj none l λi=>dO h i 0 λx=>bq (α1:=Sl) (α2:=Int) (λe out b c=>(if decide (b<(x.len:Int)) then
 bH (α1:=Sl) (λk=>((aG x.base x.len b)/\aD none fj c (sat x.base 2 b) λj=>aA ((j.owner==p)&&(p !=(-1))) λy=>(if y then
 bG [(yI b)] (λa d=>gv 1 8 [(yI 0)] ⟨out.base,out.len,out.cap⟩ ⟨(some a),1,1⟩ (λr f=>k r f) d) c
 else
 k ⟨out.base,out.len,out.cap⟩ c)))
 (λg d=>e g (yw (b+1)) d)
 else
 Q ⟨out.base,out.len,out.cap⟩ c)) ⟨none,0,0⟩ 0 h
def Yp (P:Program) (l:Option Addr) (n:Int) (p:Int) (Q:(Int->(Int->(Hp->Prop)))) (h:Hp):Prop:=
 aa P Xq [(yP l),(yI n),(yI p)] yH (λr a=>(if (r !=(0:Int))=true then
 Q (0:Int) r a
 else
 aj none l λo=>dO a o 0 λx=>((aG x.base x.len n)/\aj none (some (sat x.base 2 n)) λs=>fU a s 0 λA=>(if (A !=p)=true then
 aj none (some (sat x.base 2 n)) λe=>fU a e 0 λi=>Q i (0:Int) a
 else
 aj none (some (sat x.base 2 n)) λe=>dO a e 1 λi=>(if ((i.len:Int)==(0:Int))=true then
 aj none (some (sat x.base 2 n)) λf=>cl a (Addr.add f 0) [(yI (-1:Int))] (λb=>aj none (some (sat x.base 2 n)) λg=>fU b g 0 λc=>Q c (0:Int) b)
 else
 aj none (some (sat x.base 2 n)) λf=>dO a f 1 λc=>((aG c.base c.len (0:Int))/\aD none yH a (sat c.base 1 (0:Int)) λB=>aj none (some (sat x.base 2 n)) λg=>cl a (Addr.add g 0) [(yI B)] (λb=>aj none (some (sat x.base 2 n)) λt=>dO b t 1 λm=>aj none (some (sat x.base 2 n)) λu=>dO b u 1 λj=>aj none (some (sat x.base 2 n)) λw=>dO b w 1 λd=>(((0:Int)<=(1:Int)/\((1:Int)<=(j.len:Int)/\((j.len:Int)<=(d.len:Int)/\(d.len:Int)<=(m.cap:Int))))/\aA (α:=Sl) ⟨(aV m.base 1 1 (Int.toNat (d.len:Int))),((Int.toNat (j.len:Int))-1),((Int.toNat (d.len:Int))-1)⟩ λy=>aj none (some (sat x.base 2 n)) λz=>cl b (Addr.add z 1) [y.v] (λk=>aj none (some (sat x.base 2 n)) λq=>fU k q 0 λC=>Q C (0:Int) k))))))))) h
def UL (P:Program) (m:Option Addr) (kS:Int) (Q:(Hp->Prop)) (h:Hp):Prop:=
 (if decide (kS>=0) then
 aj none m λp=>dO h p 11 λx=>((aG x.base x.len kS)/\aD none an h (sat x.base 1 kS) λc=>aj none m λe=>dO h e 11 λb=>((aG b.base b.len kS)/\aD none an h (sat b.base 1 kS) λg=>aj none g λf=>aD none fh h (Addr.add f 4) λi=>aa P xL [i.v] fh (λr a=>(((aR a (Addr.add p 11) [x.v])/\((aR a (sat x.base 1 kS) [(yP c)])/\True))/\bA P Ji [(yP m),(yP c),r.v] (λd=>Q d) a)) h))
 else
 Q h)
def zvg (P:Program) (n:Int) (Q:(Int->(Hp->Prop))) (h:Hp):Prop:=
 Q (fK (yw (n+1)) 65535) h
def KN (P:Program) (state:Int) (Q:(Bool->(Hp->Prop))) (h:Hp):Prop:=
 aA ((state !=5)&&(state !=6)) λy=>Q y h
def Zu (P:Program) (p:Option Addr) (n:Int) (Q:(Bool->(Hp->Prop))) (h:Hp):Prop:=
 aj (some (decide (n>=0))) p λa=>aD (some (decide (n>=0))) af h (Addr.add a 0) λx=>aA ((decide (n>=0))&&(decide (n<(x.len:Int)))) λy=>Q y h
def ztp (P:Program) (l:Option Addr) (v:Int) (Q:(Int->(Hp->Prop))) (h:Hp):Prop:=
 aa P ZL [(yP l)] aW (λr b=>(if r then
 Q 19 b
 else
 aj none l λp=>dO b p 1 λx=>bG [(yI v)] (λa c=>gv 1 8 [(yI 0)] x ⟨(some a),1,1⟩ (λg d=>aj none l λf=>cl d (Addr.add f 1) [g.v] (λe=>Q 0 e)) c) b)) h
def ZQ (P:Program) (l:Option Addr) (Q:(Hp->Prop)) (h:Hp):Prop:=
 aj none l λp=>fU h p 4 λx=>aa P Cy [(yI x)] yH (λr a=>aj none l λc=>cl a (Addr.add c 4) [(yI r)] (λb=>Q b)) h
def Zv (P:Program) (p:Option Addr) (proc:Int) (Q:(Bool->(Hp->Prop))) (h:Hp):Prop:=
 aj none p λc=>dO h c 0 λx=>bq (α1:=Bool) (α2:=Int) (λagain left t13 h1=>(if decide (t13<(x.len:Int)) then
 bH (α1:=Bool) (λk=>((aG x.base x.len t13)/\aD none an h1 (sat x.base 1 t13) λd=>aa P zwn [(yP d),(yI proc)] aW (λr a=>(if r then
 k true a
 else
 k left a)) h1))
 (λb a=>again b (yw (t13+1)) a)
 else
 Q left h1)) false 0 h
def Zw (P:Program) (l:Option Addr) (p:Int) (Q:(Sl->(Hp->Prop))) (h:Hp):Prop:=
 aj none l λw=>dO h w 0 λx=>au (α1:=Int) (λq c f=>(if decide (c<(x.len:Int)) then
 bM (λk=>aj none l λy=>dO f y 0 λe=>((aG e.base e.len c)/\aD none af f (Addr.add (sat e.base 2 c) 1) λB=>aa P Jd [B.v,(yI p)] yH (λr b=>(if decide (r>=0) then
 aj none l λo=>dO b o 0 λi=>aj none l λz=>dO b z 0 λn=>((aG n.base n.len c)/\aD none af b (Addr.add (sat n.base 2 c) 1) λC=>aa P zof [C.v,(yI r),(yI (yw (r+1)))] af (λm d=>(((aR d (Addr.add o 0) [i.v])/\True)/\((aG i.base i.len c)/\cl d (Addr.add (sat i.base 2 c) 1) [m.v] (λj=>k j)))) b)
 else
 k b)) f))
 (λb=>q (yw (c+1)) b)
 else
 aa P OV [(yP l),(yI p)] af (λr b=>bq (α1:=Sl) (α2:=Int) (λs out g d=>(if decide (g<(r.len:Int)) then
 ((aG r.base r.len g)/\aD none yH d (sat r.base 1 g) λe=>bu P JR [(yP l),(yI e),(yI p)] yH yH (λm r2 j=>bG [(yI e),(yI m)] (λa t=>gv 2 16 [(yI 0),(yI 0)] ⟨out.base,out.len,out.cap⟩ ⟨(some a),1,1⟩ (λA u=>s A (yw (g+1)) u) t) j) d)
 else
 Q ⟨out.base,out.len,out.cap⟩ d)) ⟨none,0,0⟩ 0 b) f)) 0 h
def ztq (P:Program) (p:Option Addr) (Q:(Sl->(Hp->Prop))) (h:Hp):Prop:=
 aj none p λf=>dO h f 0 λx=>bq (α1:=Sl) (α2:=Int) (λc out a b=>(if decide (a<(x.len:Int)) then
 ((aG x.base x.len a)/\aD none an b (sat x.base 1 a) λi=>aa P Iv [(yP i)] af (λr d=>gv 2 16 [(yI 0),(yI 0)] ⟨out.base,out.len,out.cap⟩ r (λg e=>c g (yw (a+1)) e) d) b)
 else
 Q ⟨out.base,out.len,out.cap⟩ b)) ⟨none,0,0⟩ 0 h
def TF (P:Program) (m:Option Addr) (p:Option Addr) (e:Int) (Q:(Hp->Prop)) (h:Hp):Prop:=
 aj none p λc=>aD none fh h (Addr.add c 4) λx=>aj none p λd=>dO h d 2 λf=>aa P Ly [x.v,f.v,(yI e)] fh (λr a=>bA P Ji [(yP m),(yP p),r.v] (λb=>Q b) a) h
def B5 (P:Program) (x:aZ) (n:Int) (ak:Int) (Q:(Int->(Hp->Prop))) (h:Hp):Prop:=
 bu P B0 [x.v,(yI n),(yI ak)] yH yH (λr b a=>Q r a) h
def OE (P:Program) (data:Sl) (a:Int) (b:Int) (C:Int) (Q:(Hp->Prop)) (h:Hp):Prop:=
 nw (α1:=Int) (α2:=Int) (α3:=Int) (α4:=Bool) (α5:=Bool) (λA a1 c p q z j=>kq (α1:=Int) (α2:=Int) (α3:=Int) (α4:=Bool) (α5:=Bool) (λk=>(if (decide ((yw (c-a1))<=(12:Int)))=true then
 bA P RU [data.v,(yI a1),(yI c)] (λe=>Q e) j
 else
 (if (p==(0:Int))=true then
 bA P SW [data.v,(yI a1),(yI c)] (λe=>Q e) j
 else
 bH (α1:=Int) (λf=>(if (!q)=true then
 bA P RW [data.v,(yI a1),(yI c)] (λe=>f (yw (p-(1:Int))) e) j
 else
 f p j))
 (λg e=>bu P Si [data.v,(yI a1),(yI c)] yH yH (λr u s=>fQ (α1:=Int) (α2:=Int) (λf=>(if (u==(2:Int))=true then
 bA P R2 [data.v,(yI a1),(yI c)] (λl=>f (yw ((yw (c-(1:Int)))-(yw (r-a1)))) (1:Int) l) s
 else
 f r u s))
 (λn hint l=>bM (λf=>aA (q&&z) λy=>aA (y&&(hint==(1:Int))) λG=>(if G then
 aa P zeb [data.v,(yI a1),(yI c)] aW (λr2 i=>(if r2 then
 Q i
 else
 f i)) l
 else
 f l))
 (λi=>(((decide (a1>(0:Int)))=true->(aG data.base data.len (yw (a1-(1:Int)))))/\aD (some (decide (a1>(0:Int)))) yH i (sat data.base 1 (yw (a1-(1:Int)))) λx=>(((decide (a1>(0:Int)))=true->(aG data.base data.len n))/\aD (some (decide (a1>(0:Int)))) yH i (sat data.base 1 n) λF=>bX (some (decide (a1>(0:Int)))) (aa P ot [(yI x),(yI F)] aW) (λr2 t=>aA ((decide (a1>(0:Int)))&&(!r2)) λy=>(if y then
 aa P RG [data.v,(yI a1),(yI c),(yI n)] yH (λd m=>k d c g q z m) t
 else
 bu P Oz [data.v,(yI a1),(yI c),(yI n)] yH aW (λd w m=>((8:Int)≠(0:Int)/\(if (decide ((yw (d-a1))<(yw (c-d))))=true then
 bA P Cc [data.v,(yI a1),(yI d),(yI g)] (λo=>k (yw (d+(1:Int))) c g (decide ((yw (d-a1))>=(yw (Int.tdiv (yw (c-a1)) (8:Int))))) w o) m
 else
 bA P Cc [data.v,(yI (yw (d+(1:Int)))),(yI c),(yI g)] (λo=>k a1 d g (decide ((yw (c-d))>=(yw (Int.tdiv (yw (c-a1)) (8:Int))))) w o) m))) t)) i))))) e))))
 (λa2 B g D E e=>A a2 B g D E e)) a b C true true h
def ztr (P:Program) (x:Int) (Q:(Int->(Hp->Prop))) (h:Hp):Prop:=
 aa P zwo [(.int .u64 x)] yH (λr a=>Q r a) h
def Ss (P:Program) (m:Option Addr) (p:Int) (Q:(Bool->(Hp->Prop))) (h:Hp):Prop:=
 aj none m λa=>aD none af h (Addr.add (Addr.add a 7) 2) λx=>((aG x.base x.len p)/\aD none yH h (Addr.add (sat x.base 15 p) 0) λb=>Q (decide (b<5)) h)
def VE (P:Program) (a:Int) (b:Int) (Q:(Bool->(Hp->Prop))) (h:Hp):Prop:=
 au (α1:=Int) (λe n c=>(if decide (n<64) then
 aa P Wr [(.int .u64 a),(yI n)] aW (λr f=>bX (some r) (aa P Wr [(.int .u64 b),(yI n)] aW) (λg d=>aA (r&&(!g)) λy=>(if y then
 Q false d
 else
 e (yw (n+1)) d)) f) c
 else
 Q true c)) 0 h
def VG (P:Program) (x:aZ) (n:Int) (ak:Int) (Q:(Int->(Int->(Hp->Prop)))) (h:Hp):Prop:=
 aA ((decide (x.Op<0)) || (decide (x.Op>=34))) λy=>(if y then
 Q 9 0 h
 else
 pI P Ut [(yI x.Op)] aW aW aW aW (λr i r2 j g=>aa P OI [(yI x.A),(.bool r)] yH (λd b=>(if (d !=0)=true then
 Q d 1 b
 else
 aa P OI [(yI x.B),(.bool i)] yH (λe c=>(if (e !=0)=true then
 Q e 2 c
 else
 aa P OI [(yI x.C),(.bool r2)] yH (λf a=>(if (f !=0)=true then
 Q f 3 a
 else
 aA ((!j)&&(x.iZ !=0)) λk=>(if k then
 Q 11 4 a
 else
 aA ((x.Op==22) || (x.Op==23)) λl=>aA ((decide (x.iZ<0)) || (decide (x.iZ>n))) λm=>aA (l&&m) λo=>(if o then
 Q 12 4 a
 else
 aA ((x.Op==29) || (x.Op==30)) λp=>aA ((decide (x.iZ<0)) || (decide (x.iZ>=ak))) λq=>aA (p&&q) λs=>(if s then
 Q 13 4 a
 else
 Q 0 0 a))))) c)) b)) g) h)
def OB (P:Program) (s:Sl) (Q:(Sl->(Hp->Prop))) (h:Hp):Prop:=
 jj none P (dt .eql 22 (.tmp 3) (.const yN) s.v yN) aW h λx=>(if x then
 Q ⟨none,0,0⟩ h
 else
 bG [] (λa b=>gv 1 8 [(.int .u64 0)] ⟨(some a),0,0⟩ s (λr c=>Q r c) b) h)
def WM (P:Program) (a:aS) (i:Int) (Q:(Int->(Hp->Prop))) (h:Hp):Prop:=
 bq (α1:=Int) (α2:=Int) (λd n c b=>(if decide (c<(a.bZ.len:Int)) then
 bH (α1:=Int) (λk=>((aG a.bZ.base a.bZ.len c)/\aD none bV b (sat a.bZ.base 2 c) λx=>(if (x.Part==i)=true then
 k (yw (n+1)) b
 else
 k n b)))
 (λf e=>d f (yw (c+1)) e)
 else
 Q n b)) 0 0 h
def Yr (P:Program) (a:aS) (p:Int) (i:Int) (Q:(Bool->(Hp->Prop))) (h:Hp):Prop:=
 aA ((decide (p>=0))&&(decide (p<(a.bZ.len:Int)))) λy=>((y=true->(aG a.bZ.base a.bZ.len p))/\aD (some y) yH h (Addr.add (sat a.bZ.base 2 p) 0) λx=>aA (y&&(x==i)) λb=>Q b h)
def zts (P:Program) (n:Int) (Q:(Bool->(Hp->Prop))) (h:Hp):Prop:=
 aA ((decide (n>=0))&&(decide (n<=65535))) λy=>Q y h
def ziv (P:Program) (s:Sl) (f:xB) (Q:(Bool->(Hp->Prop))) (h:Hp):Prop:=
 aa P Te [s.v,(.func (.func f.g) f.first f.captured)] yH (λr a=>Q (decide (r>=0)) a) h
def VI (P:Program) (p:Int) (a1:Addr) (a2:Addr) (Q:(Bool->(Hp->Prop))) (h:Hp):Prop:=
 aD (some (p !=(-1))) bn h a1 λx=>aD (some (p !=(-1))) yH h a2 λe=>bX (some (p !=(-1))) (aa P JS [x.v,(yI p),(yI e)] aW) (λr a=>aD (some ((p !=(-1))&&(!(!r)))) af a (Addr.add (Addr.add a1 7) 2) λb=>((((p !=(-1))&&(!(!r)))=true->(aG b.base b.len p))/\aD (some ((p !=(-1))&&(!(!r)))) yH a (Addr.add (sat b.base 15 p) 0) λf=>bX (some ((p !=(-1))&&(!(!r)))) (aa P CS [(yI f)] aW) (λd c=>aA ((!r) || (!d)) λy=>aA ((p !=(-1))&&y) λg=>Q g c) a)) h
def XA (P:Program) (t:Option Addr) (i:Int) (j:Int) (Q:(Bool->(Hp->Prop))) (h:Hp):Prop:=
 aa P ZM [(yP t),(yI i)] aW (λr c=>bX (some r) (aa P ZM [(yP t),(yI j)] aW) (λf a=>aA (r&&f) λy=>aj (some y) t λp=>aD (some y) af a (Addr.add p 0) λx=>((y=true->(aG x.base x.len i))/\aD (some y) (ab .u64) a (sat x.base 1 i) λg=>aj (some y) t λe=>aD (some y) af a (Addr.add e 0) λb=>((y=true->(aG b.base b.len j))/\aD (some y) (ab .u64) a (sat b.base 1 j) λk=>bX (some y) (aa P JD [(.int .u64 g),(.int .u64 k)] aW) (λr2 d=>aA (y&&r2) λl=>Q l d) a))) c) h
def Yt (P:Program) (a:aS) (p:Int) (Q:(Int->(Hp->Prop))) (h:Hp):Prop:=
 aa P OW [a.v,(yI p)] aU (λr b=>Q r.Op b) h
def XC (P:Program) (a:aS) (p:Int) (Q:(aZ->(Hp->Prop))) (h:Hp):Prop:=
 ((aG a.bZ.base a.bZ.len p)/\aD none af h (Addr.add (sat a.bZ.base 2 p) 1) λx=>((aG a.cM.base a.cM.len p)/\aD none yH h (Addr.add (sat a.cM.base 15 p) 1) λb=>aA ((decide (b<0)) || (decide (b>=(x.len:Int)))) λy=>(if y then
 Q ⟨(-1),0,0,0,0⟩ h
 else
 ((aG x.base x.len b)/\aD none aU h (sat x.base 5 b) λc=>Q c h))))
def Wd (P:Program) (a:aS) (w:bp) (r:Int) (Q:(Bool->(Hp->Prop))) (h:Hp):Prop:=
 ((aG a.cM.base a.cM.len w.bT)/\aD none aN h (sat a.cM.base 15 w.bT) λx=>aa P OW [a.v,(yI w.bT)] aU (λb d=>((True/\(True/\((aR d (sat a.cM.base 15 w.bT) [(yI x.State),(yI x.PC),(yI x.cD),(yI x.cE),(yI x.cF),(yI x.cG),(yI x.cH),(yI x.cI),(yI x.cJ),(yI x.cK),(yI x.Cursor),(yI x.Timer),(.bool x.gx),(yI x.jl),x.cC.v])/\True)))/\aA ((x.State==2)&&(b.Op==24)) λy=>((y=true->(0<=b.B/\b.B<8))/\∃e:Int,((y=true->(List.get?Internal (α:=Value) [(yI x.State),(yI x.PC),(yI x.cD),(yI x.cE),(yI x.cF),(yI x.cG),(yI x.cH),(yI x.cI),(yI x.cJ),(yI x.cK),(yI x.Cursor),(yI x.Timer),(.bool x.gx),(yI x.jl),x.cC.v] (2+((Int.toNat b.B)*1)))=(some (yI e)))/\aA (y&&(e==r)) λc=>((c=true->(0<=b.C/\b.C<8))/\∃f:Int,((c=true->(List.get?Internal (α:=Value) [(yI x.State),(yI x.PC),(yI x.cD),(yI x.cE),(yI x.cF),(yI x.cG),(yI x.cH),(yI x.cI),(yI x.cJ),(yI x.cK),(yI x.Cursor),(yI x.Timer),(.bool x.gx),(yI x.jl),x.cC.v] (2+((Int.toNat b.C)*1)))=(some (yI f)))/\aA (c&&(f==w.cS)) λg=>Q g d)))))) h)
def Tj (P:Program) (s:Sl) (f:xB) (Q:(Int->(Hp->Prop))) (h:Hp):Prop:=
 au (α1:=Int) (λd a b=>(if decide (a<(s.len:Int)) then
 ((aG s.base s.len a)/\aD none yH b (sat s.base 1 a) λx=>ig P tb (.func (.func f.g) f.first f.captured) [(yI x)] aW (λr c=>(if r then
 Q a c
 else
 d (yw (a+1)) c)) b)
 else
 Q (-1) b)) 0 h
def zyh (P:Program) (p:Int) (a1:Addr) (Q:(Bool->(Hp->Prop))) (h:Hp):Prop:=
 aD (some (!(decide (p<0)))) yH h a1 λx=>aA ((decide (p<0)) || (decide (p>=x))) λy=>Q y h
def zgv (P:Program) (s:Sl) (Q:(Sl->(Hp->Prop))) (h:Hp):Prop:=
 jj none P (dt .eql 24 (.tmp 3) (.const yN) s.v yN) aW h λx=>(if x then
 Q ⟨none,0,0⟩ h
 else
 bG [] (λa b=>gv 2 32 [(yI 0),yN] ⟨(some a),0,0⟩ s (λr c=>Q r c) b) h)
def zhl (P:Program) (s:Sl) (Q:(Sl->(Hp->Prop))) (h:Hp):Prop:=
 jj none P (dt .eql 45 (.tmp 3) (.const yN) s.v yN) aW h λx=>(if x then
 Q ⟨none,0,0⟩ h
 else
 bG [] (λa b=>gv 5 40 [(yI 0),(yI 0),(yI 0),(yI 0),(yI 0)] ⟨(some a),0,0⟩ s (λr c=>Q r c) b) h)
def XE (P:Program) (l:Option Addr) (p:Int) (Q:(Int->(Bool->(Hp->Prop)))) (h:Hp):Prop:=
 aj none l λe=>dO h e 0 λx=>au (α1:=Int) (λd a b=>(if decide (a<(x.len:Int)) then
 ((aG x.base x.len a)/\aD none fj b (sat x.base 2 a) λf=>aa P OH [f.queue.v,(yI p)] aW (λr c=>(if r then
 Q a true c
 else
 d (yw (a+1)) c)) b)
 else
 Q 0 false b)) 0 h
def C9 (P:Program) (room:Int) (s:cd) (Q:(Option Addr->(Int->(Hp->Prop)))) (h:Hp):Prop:=
 bu P C2 [(yI room)] an yH (λr c a=>(if (c !=0)=true then
 Q none c a
 else
 aA ((decide ((s.bB.len:Int)>0))&&(decide ((s.dm.len:Int)<room))) λy=>aA ((decide ((s.dm.len:Int)>room)) || y) λd=>bX (some (!d)) (aa P Pn [(yI s.jk),(yI 0),(yI 65535)] aW) (λr2 i=>aA (d || (!r2)) λe=>bX (some (!e)) (aa P Pn [(yI s.fM),(yI 0),(yI 65535)] aW) (λw j=>aA (e || (!w)) λf=>bX (some (!f)) (aa P J2 [s.bB.v] aW) (λr4 b=>aA (f || r4) λA=>(if A then
 Q none 4 b
 else
 aa P Tg [s.dm.v] af (λx k=>((True/\True)/\aa P Ro [s.bB.v] af (λz l=>aj none r λp=>cl l (Addr.add p 1) [x.v] (λm=>aj none r λq=>cl m (Addr.add q 2) [z.v] (λn=>aj none r λt=>cl n (Addr.add t 3) [(yI s.jk)] (λo=>((True/\True)/\aj none r λu=>cl o (Addr.add u 4) [(yI s.fM)] (λg=>Q r 0 g)))))) k)) b)) j) i) a)) h
def QJ (P:Program) (x:Sl) (target:az) (cmp:xB) (Q:(Int->(Bool->(Hp->Prop)))) (h:Hp):Prop:=
 bq (α1:=Int) (α2:=Int) (λd i j b=>(if decide (i<j) then
 fQ (α1:=Int) (α2:=Int) (λk=>((0:Int)<=(1:Int)/\((aG x.base x.len (yw (fA .u64 (IntKind.wrap .u64 (yw (i+j))) (1:Int))))/\aD none aX b (sat x.base 2 (yw (fA .u64 (IntKind.wrap .u64 (yw (i+j))) (1:Int)))) λc=>ig P tb (.func (.func cmp.g) cmp.first cmp.captured) [c.v,target.v] yH (λr a=>(if decide (r<(0:Int)) then
 k (yw ((yw (fA .u64 (IntKind.wrap .u64 (yw (i+j))) (1:Int)))+(1:Int))) j a
 else
 k i (yw (fA .u64 (IntKind.wrap .u64 (yw (i+j))) (1:Int))) a)) b)))
 (λe f a=>d e f a)
 else
 (((decide (i<(x.len:Int)))=true->(aG x.base x.len i))/\aD (some (decide (i<(x.len:Int)))) aX b (sat x.base 2 i) λc=>bX (some (decide (i<(x.len:Int)))) (ig P tb (.func (.func cmp.g) cmp.first cmp.captured) [c.v,target.v] yH) (λr a=>aA ((decide (i<(x.len:Int)))&&(r==(0:Int))) λy=>Q i y a) b))) (0:Int) (x.len:Int) h
def zyi (P:Program) (a:az) (b:az) (Q:(Int->(Hp->Prop))) (h:Hp):Prop:=
 aa P ztj [(yI a.due),(yI b.due)] yH (λr c=>((True/\(True/\True))/\aa P zwp [(yI a.dI),(yI b.dI)] yH (λg d=>bG [(yI r),(yI g)] (λa1 e=>aa P J3 [(.slice (some a1) 2 2)] yH (λr2 f=>Q r2 f) e) d) c)) h
def zek (P:Program) (s:Sl) (i:Int) (v:Sl) (Q:(Sl->(Hp->Prop))) (h:Hp):Prop:=
 ((0<=i/\i<=(s.len:Int))/\aA (α:=Sl) ⟨(aV s.base 2 (Int.toNat i) s.cap),(s.len-(Int.toNat i)),(s.cap-(Int.toNat i))⟩ λy=>(if ((v.len:Int)==0)=true then
 Q s h
 else
 (if (i==(s.len:Int))=true then
 gv 2 16 [(yI 0),(yI 0)] s v (λr b=>Q r b) h
 else
 (if (decide ((yw ((s.len:Int)+(v.len:Int)))>(s.cap:Int)))=true then
 ((0<=i/\i<=(s.cap:Int))/\aA (α:=Sl) ⟨(aV s.base 2 0 s.cap),((Int.toNat i)-0),(s.cap-0)⟩ λa=>zb 2 16 [(yI 0),(yI 0)] a (yw ((yw ((s.len:Int)+(v.len:Int)))-i)) (λr b=>((0<=i/\i<=(r.len:Int))/\aA (α:=Sl) ⟨(aV r.base 2 (Int.toNat i) r.cap),(r.len-(Int.toNat i)),(r.cap-(Int.toNat i))⟩ λg=>fW 2 g v (λj c=>((0<=(yw (i+(v.len:Int)))/\(yw (i+(v.len:Int)))<=(r.len:Int))/\aA (α:=Sl) ⟨(aV r.base 2 (Int.toNat (yw (i+(v.len:Int)))) r.cap),(r.len-(Int.toNat (yw (i+(v.len:Int))))),(r.cap-(Int.toNat (yw (i+(v.len:Int)))))⟩ λe=>((0<=i/\i<=(s.len:Int))/\aA (α:=Sl) ⟨(aV s.base 2 (Int.toNat i) s.cap),(s.len-(Int.toNat i)),(s.cap-(Int.toNat i))⟩ λf=>fW 2 e f (λr2 d=>Q r d) c))) b)) h)
 else
 ((0<=(yw ((s.len:Int)+(v.len:Int)))/\(yw ((s.len:Int)+(v.len:Int)))<=(s.cap:Int))/\aA (α:=Sl) ⟨(aV s.base 2 0 s.cap),((Int.toNat (yw ((s.len:Int)+(v.len:Int))))-0),(s.cap-0)⟩ λa=>((0<=(yw (i+(v.len:Int)))/\(yw (i+(v.len:Int)))<=(a.len:Int))/\aA (α:=Sl) ⟨(aV a.base 2 (Int.toNat (yw (i+(v.len:Int)))) a.cap),(a.len-(Int.toNat (yw (i+(v.len:Int))))),(a.cap-(Int.toNat (yw (i+(v.len:Int)))))⟩ λg=>ji P (Extern.SlicesOverlaps.overlaps #[178,178] #[4] #[v.v,g.v]) aW (λr b=>(if (!r)=true then
 ((0<=(yw (i+(v.len:Int)))/\(yw (i+(v.len:Int)))<=(a.len:Int))/\aA (α:=Sl) ⟨(aV a.base 2 (Int.toNat (yw (i+(v.len:Int)))) a.cap),(a.len-(Int.toNat (yw (i+(v.len:Int))))),(a.cap-(Int.toNat (yw (i+(v.len:Int)))))⟩ λe=>((0<=i/\i<=(a.len:Int))/\aA (α:=Sl) ⟨(aV a.base 2 (Int.toNat i) a.cap),(a.len-(Int.toNat i)),(a.cap-(Int.toNat i))⟩ λf=>fW 2 e f (λj c=>((0<=i/\i<=(a.len:Int))/\aA (α:=Sl) ⟨(aV a.base 2 (Int.toNat i) a.cap),(a.len-(Int.toNat i)),(a.cap-(Int.toNat i))⟩ λk=>fW 2 k v (λr2 d=>Q a d) c)) b))
 else
 ((0<=(s.len:Int)/\(s.len:Int)<=(a.len:Int))/\aA (α:=Sl) ⟨(aV a.base 2 (Int.toNat (s.len:Int)) a.cap),(a.len-(Int.toNat (s.len:Int))),(a.cap-(Int.toNat (s.len:Int)))⟩ λe=>fW 2 e v (λj c=>((0<=i/\i<=(a.len:Int))/\aA (α:=Sl) ⟨(aV a.base 2 (Int.toNat i) a.cap),(a.len-(Int.toNat i)),(a.cap-(Int.toNat i))⟩ λf=>bA P zgu [f.v,(yI (v.len:Int))] (λd=>Q a d) c)) b))) h))))))
def Ix (P:Program) (x:Int) (y:Int) (Q:(Int->(Int->(Hp->Prop)))) (h:Hp):Prop:=
 bu P Zo [(.int .u64 x),(.int .u64 y)] (ab .u64) (ab .u64) (λr b a=>Q r b a) h
def Tl (P:Program) (s:Sl) (Q:(Sl->(Hp->Prop))) (h:Hp):Prop:=
 jj none P (dt .eql 92 (.tmp 3) (.const yN) s.v yN) aW h λx=>(if x then
 Q ⟨none,0,0⟩ h
 else
 bG [] (λa b=>gv 1 8 [(yI 0)] ⟨(some a),0,0⟩ s (λr c=>Q r c) b) h)
def Ru (P:Program) (s:Sl) (Q:(Sl->(Hp->Prop))) (h:Hp):Prop:=
 jj none P (dt .eql 93 (.tmp 3) (.const yN) s.v yN) aW h λx=>(if x then
 Q ⟨none,0,0⟩ h
 else
 bG [] (λa b=>gv 2 16 [(yI 0),(yI 0)] ⟨(some a),0,0⟩ s (λr c=>Q r c) b) h)
def Et (P:Program) (c:bc) (l:Sl) (Q:(aZ->(Bool->(Hp->Prop)))) (h:Hp):Prop:=
 aA ((decide (c.PC<0)) || (decide (c.PC>=(l.len:Int)))) λy=>(if y then
 Q ⟨0,0,0,0,0⟩ false h
 else
 ((aG l.base l.len c.PC)/\aD none aU h (sat l.base 5 c.PC) λx=>Q x true h))
def CC (P:Program) (x:aZ) (r:gS) (Q:(ed->(Bool->(Bool->(Hp->Prop))))) (h:Hp):Prop:=
 (if (x.Op==0)=true then
 Q ⟨1,0,0⟩ true true h
 else
 (if (x.Op==24)=true then
 ((0<=x.B/\x.B<8)/\∃a:Int,((List.get?Internal (α:=Value) [(yI r.a0),(yI r.a1),(yI r.a2),(yI r.a3),(yI r.a4),(yI r.a5),(yI r.a6),(yI r.a7)] (0+((Int.toNat x.B)*1)))=(some (yI a))/\((0<=x.C/\x.C<8)/\∃b:Int,((List.get?Internal (α:=Value) [(yI r.a0),(yI r.a1),(yI r.a2),(yI r.a3),(yI r.a4),(yI r.a5),(yI r.a6),(yI r.a7)] (0+((Int.toNat x.C)*1)))=(some (yI b))/\Q ⟨2,a,b⟩ true true h))))
 else
 (if (x.Op==25)=true then
 Q ⟨3,0,0⟩ true true h
 else
 (if (x.Op==26)=true then
 Q ⟨4,0,0⟩ true true h
 else
 (if (x.Op==27)=true then
 ((0<=x.A/\x.A<8)/\∃a:Int,((List.get?Internal (α:=Value) [(yI r.a0),(yI r.a1),(yI r.a2),(yI r.a3),(yI r.a4),(yI r.a5),(yI r.a6),(yI r.a7)] (0+((Int.toNat x.A)*1)))=(some (yI a))/\Q ⟨5,0,a⟩ false true h))
 else
 (if (x.Op==28)=true then
 ((0<=x.A/\x.A<8)/\∃a:Int,((List.get?Internal (α:=Value) [(yI r.a0),(yI r.a1),(yI r.a2),(yI r.a3),(yI r.a4),(yI r.a5),(yI r.a6),(yI r.a7)] (0+((Int.toNat x.A)*1)))=(some (yI a))/\Q ⟨6,0,a⟩ true true h))
 else
 (if (x.Op==29)=true then
 Q ⟨7,x.iZ,0⟩ true true h
 else
 (if (x.Op==30)=true then
 Q ⟨8,x.iZ,0⟩ false true h
 else
 (if (x.Op==31)=true then
 ((0<=x.A/\x.A<8)/\∃a:Int,((List.get?Internal (α:=Value) [(yI r.a0),(yI r.a1),(yI r.a2),(yI r.a3),(yI r.a4),(yI r.a5),(yI r.a6),(yI r.a7)] (0+((Int.toNat x.A)*1)))=(some (yI a))/\Q ⟨9,0,a⟩ false true h))
 else
 Q ⟨0,0,0⟩ false false h)))))))))
def zvh (P:Program) (c:Option Addr) (a:Int) (v:Int) (Q:(Hp->Prop)) (h:Hp):Prop:=
 aA ((decide (a>=0))&&(decide (a<8))) λy=>(if y then
 aj none c λp=>((0<=a/\a<8)/\cl h (Addr.add (Addr.add p 1) ((Int.toNat a)*1)) [(yI v)] (λb=>Q b))
 else
 Q h)
def Eu (P:Program) (op:Int) (b:Int) (c:Int) (Q:(Int->(Int->(Hp->Prop)))) (h:Hp):Prop:=
 (if (op==3)=true then
 Q (yw (b+c)) 0 h
 else
 (if (op==4)=true then
 Q (yw (b-c)) 0 h
 else
 (if (op==5)=true then
 Q (yw (b*c)) 0 h
 else
 (if (op==6)=true then
 aa P zvc [(yI b),(yI c)] yH (λr a=>Q r 0 a) h
 else
 (if (op==7)=true then
 aa P zvc [(yI b),(yI c)] yH (λr a=>Q (yw (b-(yw (r*c)))) 0 a) h
 else
 (if (op==8)=true then
 Q (df .and .i64 b c) 0 h
 else
 (if (op==9)=true then
 Q (df .or .i64 b c) 0 h
 else
 (if (op==10)=true then
 Q (df .xor .i64 b c) 0 h
 else
 (if (op==11)=true then
 aa P Lz [(yI b),(yI c)] yH (λr a=>Q r 0 a) h
 else
 (if (op==12)=true then
 aa P Kt [(yI b),(yI c)] yH (λr a=>Q r 0 a) h
 else
 (if (op==13)=true then
 aa P DT [(.bool (decide (b<c)))] yH (λr a=>Q r 0 a) h
 else
 (if (op==14)=true then
 aa P DT [(.bool (b==c))] yH (λr a=>Q r 0 a) h
 else
 Q 0 9 h))))))))))))
def Ev (P:Program) (op:Int) (b:Int) (c:Int) (Q:(Int->(Int->(Hp->Prop)))) (h:Hp):Prop:=
 aa P Cz [(yI b)] (jD .f64) (λr i=>aa P Cz [(yI c)] (jD .f64) (λg a=>(if (op==15)=true then
 ji P (dt .add 283 (.tmp 17) (.tmp 18) (.float .f64 r) (.float .f64 g)) (jD .f64) (λr2 d=>aa P FK [(.float .f64 r2)] yH (λf e=>Q f 0 e) d) a
 else
 (if (op==16)=true then
 ji P (dt .sub 283 (.tmp 23) (.tmp 24) (.float .f64 r) (.float .f64 g)) (jD .f64) (λr2 d=>aa P FK [(.float .f64 r2)] yH (λf e=>Q f 0 e) d) a
 else
 (if (op==17)=true then
 ji P (dt .mul 283 (.tmp 29) (.tmp 30) (.float .f64 r) (.float .f64 g)) (jD .f64) (λr2 d=>aa P FK [(.float .f64 r2)] yH (λf e=>Q f 0 e) d) a
 else
 (if (op==18)=true then
 ji P (dt .quo 283 (.tmp 35) (.tmp 36) (.float .f64 r) (.float .f64 g)) (jD .f64) (λr2 d=>aa P FK [(.float .f64 r2)] yH (λf e=>Q f 0 e) d) a
 else
 (if (op==19)=true then
 jj none P (dt .lss 283 (.tmp 41) (.tmp 42) (.float .f64 r) (.float .f64 g)) aW a λx=>(if x then
 Q 1 0 a
 else
 Q 0 0 a)
 else
 (if (op==20)=true then
 jj none P (convert 2 283 (yI b)) (jD .f64) a λx=>aa P FK [(.float .f64 x)] yH (λr2 d=>Q r2 0 d) a
 else
 (if (op==21)=true then
 aa P Kw [(.float .f64 r)] yH (λr2 d=>Q r2 0 d) a
 else
 Q 0 9 a)))))))) i) h
def TX (P:Program) (m:Option Addr) (p:Option Addr) (q:Option Addr) (v:Int) (Q:(Hp->Prop)) (h:Hp):Prop:=
 aj none q λe=>fU h e 3 λx=>aa P CS [(yI x)] aW (λr b=>(if (!r)=true then
 bA P xG [(yP m),(yP p),(yI 2)] (λa=>Q a) b
 else
 aj none q λf=>na b f 14 λo=>aj none p λg=>fU b g 1 λs=>aa P O9 [(yP o),(yI s),(yI v)] yH (λn a=>(if (n !=0)=true then
 aj none q λi=>na a i 14 λt=>aj none p λj=>fU a j 1 λu=>aj none p λk=>fU a k 0 λw=>aa P zzf [(yP t),(yI u),(yI w),(yI v)] yH (λr2 c=>aj none p λl=>cl c (Addr.add l 3) [(yI 2)] (λd=>Q d)) a
 else
 bA P Jf [(yP m),(yP q)] (λc=>bA P xG [(yP m),(yP p),(yI 0)] (λd=>Q d) c) a)) b)) h
def Da (P:Program) (c:bc) (code:Sl) (v:Int) (from_:Int) (Q:(bc->(Hp->Prop))) (h:Hp):Prop:=
 bG [(yI c.PC),(yI c.cD),(yI c.cE),(yI c.cF),(yI c.cG),(yI c.cH),(yI c.cI),(yI c.cJ),(yI c.cK)] (λa e=>bM (λk=>aD none fh e a λx=>bu P wR [x.v,code.v] aU aW (λr g b=>(if g then
 bA P wL [(yP (some a)),(yI r.A),(yI v)] (λd=>bA P wL [(yP (some a)),(yI r.B),(yI from_)] (λf=>k f) d) b
 else
 k b)) e)
 (λb=>aD none fh b a λx=>aa P xL [x.v] fh (λr d=>Q r d) b)) h
def zel (P:Program) (s:Sl) (i:Int) (j:Int) (Q:(Sl->(Hp->Prop))) (h:Hp):Prop:=
 ((0<=i/\(i<=j/\(j<=(s.len:Int)/\(s.len:Int)<=(s.cap:Int))))/\aA (α:=Sl) ⟨(aV s.base 2 (Int.toNat i) (Int.toNat (s.len:Int))),((Int.toNat j)-(Int.toNat i)),((Int.toNat (s.len:Int))-(Int.toNat i))⟩ λy=>(if (i==j)=true then
 Q s h
 else
 ((0<=i/\i<=(s.cap:Int))/\aA (α:=Sl) ⟨(aV s.base 2 0 s.cap),((Int.toNat i)-0),(s.cap-0)⟩ λc=>((0<=j/\j<=(s.len:Int))/\aA (α:=Sl) ⟨(aV s.base 2 (Int.toNat j) s.cap),(s.len-(Int.toNat j)),(s.cap-(Int.toNat j))⟩ λd=>gv 2 16 [(yI 0),(yI 0)] c d (λr a=>((0<=(r.len:Int)/\((r.len:Int)<=(s.len:Int)/\(s.len:Int)<=(r.cap:Int)))/\aA (α:=Sl) ⟨(aV r.base 2 (Int.toNat (r.len:Int)) r.cap),((Int.toNat (s.len:Int))-(Int.toNat (r.len:Int))),(r.cap-(Int.toNat (r.len:Int)))⟩ λe=>mU P (Builtin.clear_ #[178] 0 #[e.v]) uf (λb=>Q r b) a)) h))))
def XG (P:Program) (l:Option Addr) (n:Int) (p:Int) (Q:(Int->(Hp->Prop))) (h:Hp):Prop:=
 aj (some (!(decide (n<0)))) l λa=>aD (some (!(decide (n<0)))) af h (Addr.add a 0) λx=>aA ((decide (n<0)) || (decide (n>=(x.len:Int)))) λy=>(if y then
 Q 2 h
 else
 (if decide (p<0) then
 Q 1 h
 else
 Q 0 h))
def ZR (P:Program) (l:Option Addr) (Q:(Bool->(Hp->Prop))) (h:Hp):Prop:=
 aj none l λp=>dO h p 1 λx=>aj none l λa=>fU h a 0 λb=>Q (decide ((x.len:Int)>=b)) h
def CD (P:Program) (n:Int) (Q:(Int->(Hp->Prop))) (h:Hp):Prop:=
 Q (fK (yw (n+1)) 65535) h
def Zy (P:Program) (l:Option Addr) (p:Int) (Q:(Bool->(Hp->Prop))) (h:Hp):Prop:=
 aa P Zq [(yP l),(yI p)] yH (λr a=>(if decide (r<0) then
 Q false a
 else
 aj none l λd=>dO a d 2 λx=>aa P zez [x.v,(yI r),(yI (yw (r+1)))] af (λf b=>aj none l λe=>cl b (Addr.add e 2) [f.v] (λc=>Q true c)) a)) h
def UN (P:Program) (s:Sl) (i:Int) (j:Int) (Q:(Sl->(Hp->Prop))) (h:Hp):Prop:=
 ((0<=i/\(i<=j/\(j<=(s.len:Int)/\(s.len:Int)<=(s.cap:Int))))/\aA (α:=Sl) ⟨(aV s.base 1 (Int.toNat i) (Int.toNat (s.len:Int))),((Int.toNat j)-(Int.toNat i)),((Int.toNat (s.len:Int))-(Int.toNat i))⟩ λy=>(if (i==j)=true then
 Q s h
 else
 ((0<=i/\i<=(s.cap:Int))/\aA (α:=Sl) ⟨(aV s.base 1 0 s.cap),((Int.toNat i)-0),(s.cap-0)⟩ λc=>((0<=j/\j<=(s.len:Int))/\aA (α:=Sl) ⟨(aV s.base 1 (Int.toNat j) s.cap),(s.len-(Int.toNat j)),(s.cap-(Int.toNat j))⟩ λd=>gv 1 8 [(yI 0)] c d (λr a=>((0<=(r.len:Int)/\((r.len:Int)<=(s.len:Int)/\(s.len:Int)<=(r.cap:Int)))/\aA (α:=Sl) ⟨(aV r.base 1 (Int.toNat (r.len:Int)) r.cap),((Int.toNat (s.len:Int))-(Int.toNat (r.len:Int))),(r.cap-(Int.toNat (r.len:Int)))⟩ λe=>mU P (Builtin.clear_ #[23] 0 #[e.v]) uf (λb=>Q r b) a)) h))))
def ztt (P:Program) (l:Option Addr) (Q:(Sl->(Hp->Prop))) (h:Hp):Prop:=
 aj none l λp=>dO h p 2 λx=>aj none l λd=>dO h d 2 λb=>aj none l λe=>dO h e 2 λa=>((0<=(b.len:Int)/\((b.len:Int)<=(a.len:Int)/\(a.len:Int)<=(x.cap:Int)))/\aA (α:=Sl) ⟨(aV x.base 2 0 (Int.toNat (a.len:Int))),((Int.toNat (b.len:Int))-0),((Int.toNat (a.len:Int))-0)⟩ λy=>aj none l λf=>cl h (Addr.add f 2) [yN] (λc=>Q y c))
def Db (P:Program) (c:bc) (code:Sl) (g:Int) (Q:(bc->(Hp->Prop))) (h:Hp):Prop:=
 bG [(yI c.PC),(yI c.cD),(yI c.cE),(yI c.cF),(yI c.cG),(yI c.cH),(yI c.cI),(yI c.cJ),(yI c.cK)] (λa e=>bM (λk=>aD none fh e a λx=>bu P wR [x.v,code.v] aU aW (λr f b=>(if f then
 bA P wL [(yP (some a)),(yI r.A),(yI g)] (λd=>k d) b
 else
 k b)) e)
 (λb=>aD none fh b a λx=>aa P xL [x.v] fh (λr d=>Q r d) b)) h
def B6 (P:Program) (x:aZ) (n:Int) (ak:Int) (Q:(Int->(Int->(Hp->Prop)))) (h:Hp):Prop:=
 aA ((decide (x.Op<0)) || (decide (x.Op>=34))) λy=>(if y then
 Q 9 0 h
 else
 pI P zya [(yI x.Op)] aW aW aW aW (λr j r2 k g=>aa P Pa [(.bool r),(yI x.A)] yH (λd a=>(if (d !=0)=true then
 Q d 1 a
 else
 aa P Pa [(.bool j),(yI x.B)] yH (λe b=>(if (e !=0)=true then
 Q e 2 b
 else
 aa P Pa [(.bool r2),(yI x.C)] yH (λf c=>(if (f !=0)=true then
 Q f 3 c
 else
 aa P JF [x.v,(.bool k),(yI n),(yI ak)] yH (λl i=>Q l 4 i) c)) b)) a)) g) h)
def RY (P:Program) (data:Sl) (a:Int) (b:Int) (Q:(Hp->Prop)) (h:Hp):Prop:=
 au (α1:=Int) (λf i e=>(if decide (i<b) then
 au (α1:=Int) (λg j d=>(((decide (j>a))=true->(aG data.base data.len j))/\aD (some (decide (j>a))) yH d (sat data.base 1 j) λx=>(((decide (j>a))=true->(aG data.base data.len (yw (j-1))))/\aD (some (decide (j>a))) yH d (sat data.base 1 (yw (j-1))) λm=>bX (some (decide (j>a))) (aa P ot [(yI x),(yI m)] aW) (λr c=>aA ((decide (j>a))&&r) λy=>(if y then
 ((aG data.base data.len (yw (j-1)))/\aD none yH c (sat data.base 1 (yw (j-1))) λn=>((aG data.base data.len j)/\aD none yH c (sat data.base 1 j) λo=>((aG data.base data.len j)/\cl c (sat data.base 1 j) [(yI n)] (λk=>((aG data.base data.len (yw (j-1)))/\cl k (sat data.base 1 (yw (j-1))) [(yI o)] (λl=>g (yw (j-1)) l))))))
 else
 f (yw (i+1)) c)) d))) i e
 else
 Q e)) (yw (a+1)) h
def SY (P:Program) (data:Sl) (a:Int) (b:Int) (Q:(Hp->Prop)) (h:Hp):Prop:=
 ((2:Int)≠(0:Int)/\au (α1:=Int) (λf i e=>(if decide (i>=(0:Int)) then
 bA P OA [data.v,(yI i),(yI (yw (b-a))),(yI a)] (λd=>f (yw (i-(1:Int))) d) e
 else
 au (α1:=Int) (λg c d=>(if decide (c>=(0:Int)) then
 ((aG data.base data.len (yw (a+c)))/\aD none yH d (sat data.base 1 (yw (a+c))) λx=>((aG data.base data.len a)/\aD none yH d (sat data.base 1 a) λm=>((aG data.base data.len a)/\cl d (sat data.base 1 a) [(yI x)] (λj=>((aG data.base data.len (yw (a+c)))/\cl j (sat data.base 1 (yw (a+c))) [(yI m)] (λk=>bA P OA [data.v,(yI (0:Int)),(yI c),(yI a)] (λl=>g (yw (c-(1:Int))) l) k))))))
 else
 Q d)) (yw ((yw (b-a))-(1:Int))) e)) (yw (Int.tdiv (yw ((yw (b-a))-(1:Int))) (2:Int))) h)
def R0 (P:Program) (data:Sl) (a:Int) (b:Int) (Q:(Hp->Prop)) (h:Hp):Prop:=
 (if (decide ((yw (b-a))>=(8:Int)))=true then
 bG [(.int .u64 (0:Int))] (λa1 j=>cl j a1 [(.int .u64 (IntKind.wrap .u64 (yw (b-a))))] (λl=>aa P zoh [(yI (yw (b-a)))] (ab .u64) (λr m=>((4:Int)≠(0:Int)/\au (α1:=Int) (λi c f=>((4:Int)≠(0:Int)/\(if (decide (c<=(yw ((yw (a+(yw ((yw (Int.tdiv (yw (b-a)) (4:Int)))*(2:Int)))))+(1:Int)))))=true then
 aa P zpp [(yP (some a1))] (ab .u64) (λe g=>bH (α1:=Int) (λk=>(if (decide ((yw (df .and .u64 e (IntKind.wrap .u64 (r-(1:Int)))))>=(yw (b-a))))=true then
 k (yw ((yw (df .and .u64 e (IntKind.wrap .u64 (r-(1:Int)))))-(yw (b-a)))) g
 else
 k (yw (df .and .u64 e (IntKind.wrap .u64 (r-(1:Int))))) g))
 (λother d=>((aG data.base data.len (yw (a+other)))/\aD none yH d (sat data.base 1 (yw (a+other))) λx=>((aG data.base data.len c)/\aD none yH d (sat data.base 1 c) λp=>((aG data.base data.len c)/\cl d (sat data.base 1 c) [(yI x)] (λn=>((aG data.base data.len (yw (a+other)))/\cl n (sat data.base 1 (yw (a+other))) [(yI p)] (λo=>i (yw (c+(1:Int))) o)))))))) f
 else
 Q f))) (yw ((yw (a+(yw ((yw (Int.tdiv (yw (b-a)) (4:Int)))*(2:Int)))))-(1:Int))) m)) l)) h
 else
 Q h)
def Sm (P:Program) (data:Sl) (a:Int) (b:Int) (Q:(Int->(Int->(Hp->Prop)))) (h:Hp):Prop:=
 bG [(yI (0:Int))] (λa1 c=>((4:Int)≠(0:Int)/\((4:Int)≠(0:Int)/\((4:Int)≠(0:Int)/\(if (decide ((yw (b-a))>=(8:Int)))=true then
 lH (α1:=Int) (α2:=Int) (α3:=Int) (λk=>(if (decide ((yw (b-a))>=(50:Int)))=true then
 aa P Ox [data.v,(yI (yw (a+(yw ((yw (Int.tdiv (yw (b-a)) (4:Int)))*(1:Int)))))),(yP (some a1))] yH (λr e=>aa P Ox [data.v,(yI (yw (a+(yw ((yw (Int.tdiv (yw (b-a)) (4:Int)))*(2:Int)))))),(yP (some a1))] yH (λg d=>aa P Ox [data.v,(yI (yw (a+(yw ((yw (Int.tdiv (yw (b-a)) (4:Int)))*(3:Int)))))),(yP (some a1))] yH (λr2 f=>k r g r2 f) d) e) c
 else
 k (yw (a+(yw ((yw (Int.tdiv (yw (b-a)) (4:Int)))*(1:Int))))) (yw (a+(yw ((yw (Int.tdiv (yw (b-a)) (4:Int)))*(2:Int))))) (yw (a+(yw ((yw (Int.tdiv (yw (b-a)) (4:Int)))*(3:Int))))) c))
 (λi j k e=>aa P Ti [data.v,(yI i),(yI j),(yI k),(yP (some a1))] yH (λr d=>aD none yH d a1 λx=>(if (x==(0:Int))=true then
 Q r (1:Int) d
 else
 (if (x==(12:Int))=true then
 Q r (2:Int) d
 else
 Q r (0:Int) d))) e)
 else
 aD none yH c a1 λx=>(if (x==(0:Int))=true then
 Q (yw (a+(yw ((yw (Int.tdiv (yw (b-a)) (4:Int)))*(2:Int))))) (1:Int) c
 else
 (if (x==(12:Int))=true then
 Q (yw (a+(yw ((yw (Int.tdiv (yw (b-a)) (4:Int)))*(2:Int))))) (2:Int) c
 else
 Q (yw (a+(yw ((yw (Int.tdiv (yw (b-a)) (4:Int)))*(2:Int))))) (0:Int) c))))))) h
def R5 (P:Program) (data:Sl) (a:Int) (b:Int) (Q:(Hp->Prop)) (h:Hp):Prop:=
 bq (α1:=Int) (α2:=Int) (λd i j c=>(if decide (i<j) then
 ((aG data.base data.len j)/\aD none yH c (sat data.base 1 j) λx=>((aG data.base data.len i)/\aD none yH c (sat data.base 1 i) λg=>((aG data.base data.len i)/\cl c (sat data.base 1 i) [(yI x)] (λe=>((aG data.base data.len j)/\cl e (sat data.base 1 j) [(yI g)] (λf=>d (yw (i+1)) (yw (j-1)) f))))))
 else
 Q c)) a (yw (b-1)) h
def Q9 (P:Program) (data:Sl) (a:Int) (b:Int) (Q:(Bool->(Hp->Prop))) (h:Hp):Prop:=
 bq (α1:=Int) (α2:=Int) (λB i j w=>(if decide (j<5) then
 bH (α1:=Int) (λk=>au (α1:=Int) (λC d m=>(((decide (d<b))=true->(aG data.base data.len d))/\aD (some (decide (d<b))) yH m (sat data.base 1 d) λx=>(((decide (d<b))=true->(aG data.base data.len (yw (d-1))))/\aD (some (decide (d<b))) yH m (sat data.base 1 (yw (d-1))) λF=>bX (some (decide (d<b))) (aa P ot [(yI x),(yI F)] aW) (λr g=>aA ((decide (d<b))&&(!r)) λy=>(if y then
 C (yw (d+1)) g
 else
 (if (d==b)=true then
 Q true g
 else
 (if (decide ((yw (b-a))<50))=true then
 Q false g
 else
 ((aG data.base data.len (yw (d-1)))/\aD none yH g (sat data.base 1 (yw (d-1))) λG=>((aG data.base data.len d)/\aD none yH g (sat data.base 1 d) λH=>((aG data.base data.len d)/\cl g (sat data.base 1 d) [(yI G)] (λE=>((aG data.base data.len (yw (d-1)))/\cl E (sat data.base 1 (yw (d-1))) [(yI H)] (λz=>bM (λn=>(if (decide ((yw (d-a))>=2))=true then
 bM (λA=>au (α1:=Int) (λo c f=>(if decide (c>=1) then
 ((aG data.base data.len c)/\aD none yH f (sat data.base 1 c) λs=>((aG data.base data.len (yw (c-1)))/\aD none yH f (sat data.base 1 (yw (c-1))) λt=>aa P ot [(yI s),(yI t)] aW (λq e=>(if (!q)=true then
 A e
 else
 ((aG data.base data.len (yw (c-1)))/\aD none yH e (sat data.base 1 (yw (c-1))) λu=>((aG data.base data.len c)/\aD none yH e (sat data.base 1 c) λv=>((aG data.base data.len c)/\cl e (sat data.base 1 c) [(yI u)] (λl=>((aG data.base data.len (yw (c-1)))/\cl l (sat data.base 1 (yw (c-1))) [(yI v)] (λp=>o (yw (c-1)) p)))))))) f))
 else
 A f)) (yw (d-1)) z)
 (λf=>n f)
 else
 n z))
 (λf=>(if (decide ((yw (b-d))>=2))=true then
 bM (λn=>au (α1:=Int) (λo c e=>(if decide (c<b) then
 ((aG data.base data.len c)/\aD none yH e (sat data.base 1 c) λs=>((aG data.base data.len (yw (c-1)))/\aD none yH e (sat data.base 1 (yw (c-1))) λt=>aa P ot [(yI s),(yI t)] aW (λq l=>(if (!q)=true then
 n l
 else
 ((aG data.base data.len (yw (c-1)))/\aD none yH l (sat data.base 1 (yw (c-1))) λu=>((aG data.base data.len c)/\aD none yH l (sat data.base 1 c) λv=>((aG data.base data.len c)/\cl l (sat data.base 1 c) [(yI u)] (λp=>((aG data.base data.len (yw (c-1)))/\cl p (sat data.base 1 (yw (c-1))) [(yI v)] (λD=>o (yw (c+1)) D)))))))) e))
 else
 n e)) (yw (d+1)) f)
 (λe=>k d e)
 else
 k d f)))))))))))) m))) i w)
 (λd m=>B d (yw (j+1)) m)
 else
 Q false w)) (yw (a+1)) 0 h
def zvi (P:Program) (x:Int) (y:Int) (Q:(Bool->(Hp->Prop))) (h:Hp):Prop:=
 aa P KA [(yI x)] aW (λr a=>bX (some r) (aa P KA [(yI y)] aW) (λc b=>aA (r&&(!c)) λd=>aA (d || (decide (x<y))) λe=>Q e b) a) h
def RI (P:Program) (data:Sl) (a:Int) (b:Int) (f:Int) (Q:(Int->(Hp->Prop))) (h:Hp):Prop:=
 ((aG data.base data.len f)/\aD none yH h (sat data.base 1 f) λx=>((aG data.base data.len a)/\aD none yH h (sat data.base 1 a) λw=>((aG data.base data.len a)/\cl h (sat data.base 1 a) [(yI x)] (λp=>((aG data.base data.len f)/\cl p (sat data.base 1 f) [(yI w)] (λq=>bq (α1:=Int) (α2:=Int) (λm i j s=>au (α1:=Int) (λn c g=>(((decide (c<=j))=true->(aG data.base data.len a))/\aD (some (decide (c<=j))) yH g (sat data.base 1 a) λz=>(((decide (c<=j))=true->(aG data.base data.len c))/\aD (some (decide (c<=j))) yH g (sat data.base 1 c) λA=>bX (some (decide (c<=j))) (aa P ot [(yI z),(yI A)] aW) (λr l=>aA ((decide (c<=j))&&(!r)) λy=>(if y then
 n (yw (c+1)) l
 else
 au (α1:=Int) (λo d k=>(((decide (c<=d))=true->(aG data.base data.len a))/\aD (some (decide (c<=d))) yH k (sat data.base 1 a) λB=>(((decide (c<=d))=true->(aG data.base data.len d))/\aD (some (decide (c<=d))) yH k (sat data.base 1 d) λC=>bX (some (decide (c<=d))) (aa P ot [(yI B),(yI C)] aW) (λv e=>aA ((decide (c<=d))&&v) λF=>(if F then
 o (yw (d-1)) e
 else
 (if decide (c>d) then
 Q c e
 else
 ((aG data.base data.len d)/\aD none yH e (sat data.base 1 d) λD=>((aG data.base data.len c)/\aD none yH e (sat data.base 1 c) λE=>((aG data.base data.len c)/\cl e (sat data.base 1 c) [(yI D)] (λt=>((aG data.base data.len d)/\cl t (sat data.base 1 d) [(yI E)] (λu=>m (yw (c+1)) (yw (d-1)) u))))))))) k))) j l)) g))) i s) (yw (a+1)) (yw (b-1)) q))))))
def SG (P:Program) (data:Sl) (a:Int) (b:Int) (k:Int) (Q:(Int->(Bool->(Hp->Prop)))) (h:Hp):Prop:=
 ((aG data.base data.len k)/\aD none yH h (sat data.base 1 k) λx=>((aG data.base data.len a)/\aD none yH h (sat data.base 1 a) λN=>((aG data.base data.len a)/\cl h (sat data.base 1 a) [(yI x)] (λH=>((aG data.base data.len k)/\cl H (sat data.base 1 k) [(yI N)] (λI=>au (α1:=Int) (λC i p=>(((decide (i<=(yw (b-1))))=true->(aG data.base data.len i))/\aD (some (decide (i<=(yw (b-1))))) yH p (sat data.base 1 i) λS=>(((decide (i<=(yw (b-1))))=true->(aG data.base data.len a))/\aD (some (decide (i<=(yw (b-1))))) yH p (sat data.base 1 a) λT=>bX (some (decide (i<=(yw (b-1))))) (aa P ot [(yI S),(yI T)] aW) (λr B=>aA ((decide (i<=(yw (b-1))))&&r) λy=>(if y then
 C (yw (i+1)) B
 else
 au (α1:=Int) (λD j q=>(((decide (i<=j))=true->(aG data.base data.len j))/\aD (some (decide (i<=j))) yH q (sat data.base 1 j) λU=>(((decide (i<=j))=true->(aG data.base data.len a))/\aD (some (decide (i<=j))) yH q (sat data.base 1 a) λV=>bX (some (decide (i<=j))) (aa P ot [(yI U),(yI V)] aW) (λL f=>aA ((decide (i<=j))&&(!L)) λY=>(if Y then
 D (yw (j-1)) f
 else
 (if decide (i>j) then
 ((aG data.base data.len a)/\aD none yH f (sat data.base 1 a) λw=>((aG data.base data.len j)/\aD none yH f (sat data.base 1 j) λz=>((aG data.base data.len j)/\cl f (sat data.base 1 j) [(yI w)] (λs=>((aG data.base data.len a)/\cl s (sat data.base 1 a) [(yI z)] (λt=>Q j true t))))))
 else
 ((aG data.base data.len j)/\aD none yH f (sat data.base 1 j) λw=>((aG data.base data.len i)/\aD none yH f (sat data.base 1 i) λz=>((aG data.base data.len i)/\cl f (sat data.base 1 i) [(yI w)] (λs=>((aG data.base data.len j)/\cl s (sat data.base 1 j) [(yI z)] (λt=>bq (α1:=Int) (α2:=Int) (λE K g J=>au (α1:=Int) (λF c l=>(((decide (c<=g))=true->(aG data.base data.len c))/\aD (some (decide (c<=g))) yH l (sat data.base 1 c) λW=>(((decide (c<=g))=true->(aG data.base data.len a))/\aD (some (decide (c<=g))) yH l (sat data.base 1 a) λX=>bX (some (decide (c<=g))) (aa P ot [(yI W),(yI X)] aW) (λr2 A=>aA ((decide (c<=g))&&r2) λZ=>(if Z then
 F (yw (c+1)) A
 else
 au (α1:=Int) (λG d m=>(((decide (c<=d))=true->(aG data.base data.len d))/\aD (some (decide (c<=d))) yH m (sat data.base 1 d) λO=>(((decide (c<=d))=true->(aG data.base data.len a))/\aD (some (decide (c<=d))) yH m (sat data.base 1 a) λR=>bX (some (decide (c<=d))) (aa P ot [(yI O),(yI R)] aW) (λM e=>aA ((decide (c<=d))&&(!M)) λy3=>(if y3 then
 G (yw (d-1)) e
 else
 (if decide (c>d) then
 ((aG data.base data.len a)/\aD none yH e (sat data.base 1 a) λu=>((aG data.base data.len d)/\aD none yH e (sat data.base 1 d) λv=>((aG data.base data.len d)/\cl e (sat data.base 1 d) [(yI u)] (λn=>((aG data.base data.len a)/\cl n (sat data.base 1 a) [(yI v)] (λo=>Q d false o))))))
 else
 ((aG data.base data.len d)/\aD none yH e (sat data.base 1 d) λu=>((aG data.base data.len c)/\aD none yH e (sat data.base 1 c) λv=>((aG data.base data.len c)/\cl e (sat data.base 1 c) [(yI u)] (λn=>((aG data.base data.len d)/\cl n (sat data.base 1 d) [(yI v)] (λo=>E (yw (c+1)) (yw (d-1)) o))))))))) m))) g A)) l))) K J) (yw (i+1)) (yw (j-1)) t))))))))) q))) (yw (b-1)) B)) p))) (yw (a+1)) I))))))
def AD :List UInt8:=[0,1,2,2,3,3,3,3,4,4,4,4,4,4,4,4,5,5,5,5,5,5,5,5,5,5,5,5,5,5,5,5,6,6,6,6,6,6,6,6,6,6,6,6,6,6,6,6,6,6,6,6,6,6,6,6,6,6,6,6,6,6,6,6,7,7,7,7,7,7,7,7,7,7,7,7,7,7,7,7,7,7,7,7,7,7,7,7,7,7,7,7,7,7,7,7,7,7,7,7,7,7,7,7,7,7,7,7,7,7,7,7,7,7,7,7,7,7,7,7,7,7,7,7,7,7,7,7,8,8,8,8,8,8,8,8,8,8,8,8,8,8,8,8,8,8,8,8,8,8,8,8,8,8,8,8,8,8,8,8,8,8,8,8,8,8,8,8,8,8,8,8,8,8,8,8,8,8,8,8,8,8,8,8,8,8,8,8,8,8,8,8,8,8,8,8,8,8,8,8,8,8,8,8,8,8,8,8,8,8,8,8,8,8,8,8,8,8,8,8,8,8,8,8,8,8,8,8,8,8,8,8,8,8,8,8,8,8,8,8,8,8,8,8,8,8,8,8,8,8,8,8,8,8,8,8]
def Zz (P:Program) (x:Int) (Q:(Int->(Hp->Prop))) (h:Hp):Prop:=
 fQ (α1:=Int) (α2:=Int) (λk=>(if decide (x>=(4294967296:Int)) then
 ((0:Int)<=(32:Int)/\k (fA .u64 x (32:Int)) (32:Int) h)
 else
 k x (0:Int) h))
 (λb n c=>fQ (α1:=Int) (α2:=Int) (λk=>(if decide (b>=(65536:Int)) then
 ((0:Int)<=(16:Int)/\k (fA .u64 b (16:Int)) (yw (n+(16:Int))) c)
 else
 k b n c))
 (λa e d=>(if decide (a>=(256:Int)) then
 ((0:Int)<=(8:Int)/\(((0:Int)<=(IntKind.wrap .u8 (fA .u64 a (8:Int)))/\(IntKind.wrap .u8 (fA .u64 a (8:Int)))<(256:Int))/\Q (yw ((yw (e+(8:Int)))+(yw (((UInt8.toNat (List.getD AD (Int.toNat (IntKind.wrap .u8 (fA .u64 a (8:Int)))) 0)):Nat):Int)))) d))
 else
 (((0:Int)<=(IntKind.wrap .u8 a)/\(IntKind.wrap .u8 a)<(256:Int))/\Q (yw (e+(yw (((UInt8.toNat (List.getD AD (Int.toNat (IntKind.wrap .u8 a)) 0)):Nat):Int)))) d))))
def WQ (P:Program) (a:Int) (n:Int) (Q:(Bool->(Hp->Prop))) (h:Hp):Prop:=
 aA ((decide (n>=0))&&(decide (n<=63))) λy=>((y=true->0<=n)/\aA (y&&((df .and .u64 (fA .u64 a n) 1)==1)) λb=>Q b h)
def UP (P:Program) (op:Int) (Q:(Bool->(Bool->(Bool->(Bool->(Hp->Prop)))))) (h:Hp):Prop:=
 (if (op==1)=true then
 Q true false false true h
 else
 bH (α1:=Bool) (λk=>(if (op==2)=true then
 k (op==2) h
 else
 (if (op==20)=true then
 k (op==20) h
 else
 (if (op==21)=true then
 k (op==21) h
 else
 (if (op==25)=true then
 k (op==25) h
 else
 k (op==26) h)))))
 (λl a=>(if l then
 Q true true false false a
 else
 bH (α1:=Bool) (λk=>(if (op==3)=true then
 k (op==3) a
 else
 (if (op==4)=true then
 k (op==4) a
 else
 (if (op==5)=true then
 k (op==5) a
 else
 (if (op==6)=true then
 k (op==6) a
 else
 (if (op==7)=true then
 k (op==7) a
 else
 (if (op==8)=true then
 k (op==8) a
 else
 (if (op==9)=true then
 k (op==9) a
 else
 (if (op==10)=true then
 k (op==10) a
 else
 (if (op==11)=true then
 k (op==11) a
 else
 (if (op==12)=true then
 k (op==12) a
 else
 (if (op==13)=true then
 k (op==13) a
 else
 k (op==14) a))))))))))))
 (λf b=>(if f then
 Q true true true false b
 else
 bH (α1:=Bool) (λk=>(if (op==15)=true then
 k (op==15) b
 else
 (if (op==16)=true then
 k (op==16) b
 else
 (if (op==17)=true then
 k (op==17) b
 else
 (if (op==18)=true then
 k (op==18) b
 else
 (if (op==19)=true then
 k (op==19) b
 else
 k (op==24) b))))))
 (λg d=>(if g then
 Q true true true false d
 else
 bH (α1:=Bool) (λk=>(if (op==22)=true then
 k (op==22) d
 else
 (if (op==29)=true then
 k (op==29) d
 else
 k (op==30) d)))
 (λi c=>(if i then
 Q false false false true c
 else
 (if (op==23)=true then
 Q true false false true c
 else
 bH (α1:=Bool) (λk=>(if (op==27)=true then
 k (op==27) c
 else
 (if (op==28)=true then
 k (op==28) c
 else
 (if (op==31)=true then
 k (op==31) c
 else
 (if (op==32)=true then
 k (op==32) c
 else
 k (op==33) c)))))
 (λj e=>(if j then
 Q true false false false e
 else
 Q false false false false e))))))))))))
def TH (P:Program) (n:Int) (has:Bool) (Q:(Int->(Hp->Prop))) (h:Hp):Prop:=
 aA ((!has)&&(n !=0)) λy=>(if y then
 Q 11 h
 else
 aA ((decide (n<0)) || (decide (n>=8))) λa=>aA (has&&a) λb=>(if b then
 Q 10 h
 else
 Q 0 h))
def ZS (P:Program) (t:Option Addr) (i:Int) (Q:(Bool->(Hp->Prop))) (h:Hp):Prop:=
 aj (some (decide (i>=0))) t λp=>aD (some (decide (i>=0))) af h (Addr.add p 0) λx=>aA ((decide (i>=0))&&(decide (i<(x.len:Int)))) λy=>Q y h
def zyj (P:Program) (a:Int) (b:Int) (Q:(Bool->(Hp->Prop))) (h:Hp):Prop:=
 Q ((df .andNot .u64 a b)==0) h
def Dc (P:Program) (room:Int) (Q:(Option Addr->(Int->(Hp->Prop)))) (h:Hp):Prop:=
 aa P Pn [(yI room),(yI 1),(yI 64)] aW (λr b=>(if (!r)=true then
 Q none 1 b
 else
 bG [(yI room),yN,yN,(yI 0),(yI 0)] (λa c=>Q (some a) 0 c) b)) h
def Pp (P:Program) (n:Int) (from_:Int) (to:Int) (Q:(Bool->(Hp->Prop))) (h:Hp):Prop:=
 aA ((decide (n>=from_))&&(decide (n<=to))) λy=>Q y h
def B7 (P:Program) (l:Sl) (Q:(Bool->(Hp->Prop))) (h:Hp):Prop:=
 Be  (λr e=>au (α1:=Int) (λd b a=>(if decide (b<(l.len:Int)) then
 ((aG l.base l.len b)/\aD none aF a (sat l.base 2 b) λx=>jZ none (.int .i64) yH (yI 0) r (yI x.bT) a λf ok=>tZ (.int .i64) r (yI x.bT) (yI (yw (f+1))) (λc=>jZ none (.int .i64) yH (yI 0) r (yI x.bT) c λg i=>(if decide (g>1) then
 Q true c
 else
 d (yw (b+1)) c)) a)
 else
 Q false a)) 0 e) h
def B8 (P:Program) (eh:Sl) (Q:(Int->(Hp->Prop))) (h:Hp):Prop:=
 au (α1:=Int) (λc b a=>(if decide (b<(eh.len:Int)) then
 ((aG eh.base eh.len b)/\aD none yH a (sat eh.base 1 b) λx=>(if (x !=0)=true then
 Q x a
 else
 c (yw (b+1)) a))
 else
 Q 0 a)) 0 h
def XI (P:Program) (x:Int) (y:Int) (Q:(Int->(Hp->Prop))) (h:Hp):Prop:=
 aa P Zr [(yI x)] aW (λr c=>aa P Zr [(yI y)] aW (λb a=>(if r then
 (if b then
 Q 0 a
 else
 Q (-1) a)
 else
 (if b then
 Q 1 a
 else
 (if decide (x<y) then
 Q (-1) a
 else
 (if decide (x>y) then
 Q 1 a
 else
 Q 0 a))))) c) h
def ZA (P:Program) (x:Int) (y:Int) (Q:(Int->(Hp->Prop))) (h:Hp):Prop:=
 aa P KA [(yI x)] aW (λr c=>aa P KA [(yI y)] aW (λb a=>(if r then
 (if b then
 Q 0 a
 else
 Q (-1) a)
 else
 (if b then
 Q 1 a
 else
 (if decide (x<y) then
 Q (-1) a
 else
 (if decide (x>y) then
 Q 1 a
 else
 Q 0 a))))) c) h
def ZB (P:Program) (x:Int) (y:Int) (Q:(Int->(Int->(Hp->Prop)))) (h:Hp):Prop:=
 ((0:Int)<=(32:Int)/\((0:Int)<=(32:Int)/\((0:Int)<=(32:Int)/\((0:Int)<=(32:Int)/\((0:Int)<=(32:Int)/\Q (IntKind.wrap .u64 ((IntKind.wrap .u64 ((IntKind.wrap .u64 ((fA .u64 x (32:Int))*(fA .u64 y (32:Int))))+(fA .u64 (IntKind.wrap .u64 ((IntKind.wrap .u64 ((fA .u64 x (32:Int))*(df .and .u64 y (4294967295:Int))))+(fA .u64 (IntKind.wrap .u64 ((df .and .u64 x (4294967295:Int))*(df .and .u64 y (4294967295:Int)))) (32:Int)))) (32:Int))))+(fA .u64 (IntKind.wrap .u64 ((df .and .u64 (IntKind.wrap .u64 ((IntKind.wrap .u64 ((fA .u64 x (32:Int))*(df .and .u64 y (4294967295:Int))))+(fA .u64 (IntKind.wrap .u64 ((df .and .u64 x (4294967295:Int))*(df .and .u64 y (4294967295:Int)))) (32:Int)))) (4294967295:Int))+(IntKind.wrap .u64 ((df .and .u64 x (4294967295:Int))*(fA .u64 y (32:Int)))))) (32:Int)))) (IntKind.wrap .u64 (x*y)) h)))))
def zvj (P:Program) (b:Int) (c:Int) (Q:(Int->(Hp->Prop))) (h:Hp):Prop:=
 (if (c==0)=true then
 Q 0 h
 else
 (if (c==(-1))=true then
 Q (yw (0-b)) h
 else
 (c≠0/\Q (yw (Int.tdiv b c)) h)))
def LA (P:Program) (b:Int) (c:Int) (Q:(Int->(Hp->Prop))) (h:Hp):Prop:=
 (if decide (c<0) then
 Q b h
 else
 (0<=(IntKind.wrap .u64 c)/\Q (mQ .i64 b (IntKind.wrap .u64 c)) h))
def KB (P:Program) (b:Int) (c:Int) (Q:(Int->(Hp->Prop))) (h:Hp):Prop:=
 (if decide (c<0) then
 Q b h
 else
 (0<=(IntKind.wrap .u64 c)/\Q (fA .i64 b (IntKind.wrap .u64 c)) h))
def DU (P:Program) (a:Bool) (Q:(Int->(Hp->Prop))) (h:Hp):Prop:=
 (if a then
 Q 1 h
 else
 Q 0 h)
def CE (P:Program) (bits:Int) (Q:(Nat->(Hp->Prop))) (h:Hp):Prop:=
 ji P (Extern.MathFloatBits.float64frombits #[(.int .u64 (IntKind.wrap .u64 bits))]) (jD .f64) (λr a=>Q r a) h
def Dd (P:Program) (f:Nat) (Q:(Int->(Hp->Prop))) (h:Hp):Prop:=
 jj none P (dt .neq 283 (.tmp 3) (.tmp 4) (.float .f64 f) (.float .f64 f)) aW h λx=>(if x then
 Q 9221120237041090560 h
 else
 ji P (Extern.MathFloatBits.float64bits #[(.float .f64 f)]) (ab .u64) (λr a=>Q (yw r) a) h)
def CF (P:Program) (f:Nat) (Q:(Int->(Hp->Prop))) (h:Hp):Prop:=
 jj none P (dt .neq 283 (.tmp 4) (.tmp 5) (.float .f64 f) (.float .f64 f)) aW h λx=>(if x then
 Q 0 h
 else
 jj none P (dt .geq 283 (.tmp 8) (.const (.float .f64 4890909195324358656)) (.float .f64 f) (.float .f64 4890909195324358656)) aW h λa=>(if a then
 Q 9223372036854775807 h
 else
 jj none P (dt .lss 283 (.tmp 11) (.const (.float .f64 14114281232179134464)) (.float .f64 f) (.float .f64 14114281232179134464)) aW h λb=>(if b then
 Q (-9223372036854775808) h
 else
 jj none P (convert 283 2 (.float .f64 f)) yH h λc=>Q c h)))
def ZT (P:Program) (p:Option Addr) (lane:Int) (proc:Int) (v:Int) (Q:(Int->(Hp->Prop))) (h:Hp):Prop:=
 aa P O3 [(yP p),(yI lane)] aW (λr b=>(if (!r)=true then
 Q 2 b
 else
 aa P zwr [(yP p),(yI proc)] yH (λe a=>(if decide (e>=0) then
 Q 8 a
 else
 aj none p λd=>dO a d 0 λx=>((aG x.base x.len lane)/\aD none an a (sat x.base 1 lane) λf=>aa P zzg [(yP f),(yI proc),(yI v)] yH (λr2 c=>Q r2 c) a))) b)) h
def zws (P:Program) (p:Option Addr) (Q:(xB->(Hp->Prop))) (h:Hp):Prop:=
 aj none p λf=>fU h f 1 λx=>aj none p λc=>dO h c 0 λd=>bG [(yI 0)] (λa b=>(((aR b (Addr.add f 1) [(yI x)])/\((aR b (Addr.add c 0) [d.v])/\True))/\cl b a [(yI x)] (λe=>(((aR e (Addr.add c 0) [d.v])/\True)/\bG [(yI (d.len:Int))] (λa1 g=>Q ⟨217, #[], #[(yP (some a1)),(yP (some a))]⟩ g) e)))) h
def ztu (P:Program) (l:Option Addr) (Q:(Int->(Hp->Prop))) (h:Hp):Prop:=
 aj none l λp=>dO h p 1 λx=>Q (x.len:Int) h
def ZU (P:Program) (l:Option Addr) (Q:(Int->(bp->(Bool->(Int->(Hp->Prop)))))) (h:Hp):Prop:=
 aj none l λp=>dO h p 1 λx=>(if ((x.len:Int)==(0:Int))=true then
 Q (0:Int) ⟨(0:Int),(0:Int)⟩ false (21:Int) h
 else
 aj none l λB=>dO h B 1 λf=>((aG f.base f.len (0:Int))/\aD none yH h (sat f.base 1 (0:Int)) λt=>aj none l λH=>dO h H 1 λS=>aj none l λI=>dO h I 1 λc=>(((0:Int)<=(1:Int)/\(1:Int)<=(c.len:Int))/\aA (α:=Sl) ⟨(aV c.base 1 1 c.cap),(c.len-1),(c.cap-1)⟩ λy=>fW 1 S y (λr j=>aj none l λJ=>dO j J 1 λe=>(((0:Int)<=r/\r<=(e.cap:Int))/\aA (α:=Sl) ⟨(aV e.base 1 0 e.cap),((Int.toNat r)-0),(e.cap-0)⟩ λV=>aj none l λK=>cl j (Addr.add K 1) [V.v] (λk=>aj none l λL=>fU k L 3 λT=>aa P Cy [(yI T)] yH (λR w=>aj none l λM=>cl w (Addr.add M 3) [(yI R)] (λb=>aj none l λN=>dO b N 2 λU=>(if decide ((U.len:Int)>(0:Int)) then
 aj none l λO=>dO b O 2 λi=>((aG i.base i.len (0:Int))/\aD none aF b (sat i.base 2 (0:Int)) λu=>aj none l λC=>dO b C 2 λq=>aj none l λD=>dO b D 2 λg=>aj none l λE=>dO b E 2 λd=>(((0:Int)<=(1:Int)/\((1:Int)<=(g.len:Int)/\((g.len:Int)<=(d.len:Int)/\(d.len:Int)<=(q.cap:Int))))/\aA (α:=Sl) ⟨(aV q.base 2 1 (Int.toNat (d.len:Int))),((Int.toNat (g.len:Int))-1),((Int.toNat (d.len:Int))-1)⟩ λW=>aj none l λF=>cl b (Addr.add F 2) [W.v] (λm=>aj none l λo=>dO m o 1 λs=>bG [(yI u.cS)] (λa n=>(((aR n (Addr.add o 1) [s.v])/\True)/\gv 1 8 [(yI (0:Int))] s ⟨(some a),1,1⟩ (λr2 z=>aj none l λG=>cl z (Addr.add G 1) [r2.v] (λA=>Q t u true (0:Int) A)) n)) m)))
 else
 Q t ⟨(0:Int),(0:Int)⟩ false (0:Int) b))) k))) h)))
def ZC (P:Program) (l:Option Addr) (p:Int) (Q:(Int->(Hp->Prop))) (h:Hp):Prop:=
 bG [(yI p)] (λa b=>aj none l λd=>dO b d 2 λx=>aa P zec [x.v,(.func (.func 219) #[] #[(yP (some a))])] yH (λr c=>Q r c) b) h
def Rf (P:Program) (s:Sl) (i:Int) (j:Int) (Q:(Sl->(Hp->Prop))) (h:Hp):Prop:=
 ((0<=i/\(i<=j/\(j<=(s.len:Int)/\(s.len:Int)<=(s.cap:Int))))/\aA (α:=Sl) ⟨(aV s.base 2 (Int.toNat i) (Int.toNat (s.len:Int))),((Int.toNat j)-(Int.toNat i)),((Int.toNat (s.len:Int))-(Int.toNat i))⟩ λy=>(if (i==j)=true then
 Q s h
 else
 ((0<=i/\i<=(s.cap:Int))/\aA (α:=Sl) ⟨(aV s.base 2 0 s.cap),((Int.toNat i)-0),(s.cap-0)⟩ λc=>((0<=j/\j<=(s.len:Int))/\aA (α:=Sl) ⟨(aV s.base 2 (Int.toNat j) s.cap),(s.len-(Int.toNat j)),(s.cap-(Int.toNat j))⟩ λd=>gv 2 16 [(yI 0),(yI 0)] c d (λr a=>((0<=(r.len:Int)/\((r.len:Int)<=(s.len:Int)/\(s.len:Int)<=(r.cap:Int)))/\aA (α:=Sl) ⟨(aV r.base 2 (Int.toNat (r.len:Int)) r.cap),((Int.toNat (s.len:Int))-(Int.toNat (r.len:Int))),(r.cap-(Int.toNat (r.len:Int)))⟩ λe=>mU P (Builtin.clear_ #[93] 0 #[e.v]) uf (λb=>Q r b) a)) h))))
def zyk (P:Program) (op:Int) (Q:(Bool->(Bool->(Bool->(Bool->(Hp->Prop)))))) (h:Hp):Prop:=
 aa P JG [(yI op)] pX (λr b=>bG [(.string ⟨#[]⟩)] (λa c=>cl c a [(.string r)] (λd=>ig P tb (.func (.func 221) #[] #[(yP (some a))]) [(.string ⟨#[97]⟩)] aW (λj e=>ig P tb (.func (.func 221) #[] #[(yP (some a))]) [(.string ⟨#[98]⟩)] aW (λr2 f=>ig P tb (.func (.func 221) #[] #[(yP (some a))]) [(.string ⟨#[99]⟩)] aW (λk g=>ig P tb (.func (.func 221) #[] #[(yP (some a))]) [(.string ⟨#[105]⟩)] aW (λl i=>Q j r2 k l i) g) f) e) d)) b) h
def ztv (P:Program) (has:Bool) (n:Int) (Q:(Int->(Hp->Prop))) (h:Hp):Prop:=
 aA ((!has)&&(n !=0)) λy=>(if y then
 Q 11 h
 else
 aA ((decide (n<0)) || (decide (n>=8))) λa=>(if a then
 Q 10 h
 else
 Q 0 h))
def zyl (P:Program) (x:aZ) (has:Bool) (n:Int) (ak:Int) (Q:(Int->(Hp->Prop))) (h:Hp):Prop:=
 aA ((!has)&&(x.iZ !=0)) λy=>(if y then
 Q 11 h
 else
 aA ((x.Op==22) || (x.Op==23)) λb=>(if b then
 aA ((decide (x.iZ<0)) || (decide (x.iZ>n))) λa=>(if a then
 Q 12 h
 else
 Q 0 h)
 else
 aA ((x.Op==29) || (x.Op==30)) λa=>(if a then
 aA ((decide (x.iZ<0)) || (decide (x.iZ>=ak))) λc=>(if c then
 Q 13 h
 else
 Q 0 h)
 else
 Q 0 h)))
def SZ (P:Program) (data:Sl) (lo:Int) (hi:Int) (first:Int) (Q:(Hp->Prop)) (h:Hp):Prop:=
 au (α1:=Int) (λf root c=>(if (decide ((yw ((yw (2*root))+1))>=hi))=true then
 Q c
 else
 bH (α1:=Int) (λk=>(((decide ((yw ((yw ((yw (2*root))+1))+1))<hi))=true->(aG data.base data.len (yw (first+(yw ((yw (2*root))+1))))))/\aD (some (decide ((yw ((yw ((yw (2*root))+1))+1))<hi))) yH c (sat data.base 1 (yw (first+(yw ((yw (2*root))+1))))) λx=>(((decide ((yw ((yw ((yw (2*root))+1))+1))<hi))=true->(aG data.base data.len (yw ((yw (first+(yw ((yw (2*root))+1))))+1))))/\aD (some (decide ((yw ((yw ((yw (2*root))+1))+1))<hi))) yH c (sat data.base 1 (yw ((yw (first+(yw ((yw (2*root))+1))))+1))) λe=>bX (some (decide ((yw ((yw ((yw (2*root))+1))+1))<hi))) (aa P ot [(yI x),(yI e)] aW) (λr b=>aA ((decide ((yw ((yw ((yw (2*root))+1))+1))<hi))&&r) λy=>(if y then
 k (yw ((yw ((yw (2*root))+1))+1)) b
 else
 k (yw ((yw (2*root))+1)) b)) c)))
 (λa b=>((aG data.base data.len (yw (first+root)))/\aD none yH b (sat data.base 1 (yw (first+root))) λx=>((aG data.base data.len (yw (first+a)))/\aD none yH b (sat data.base 1 (yw (first+a))) λe=>aa P ot [(yI x),(yI e)] aW (λr d=>(if (!r)=true then
 Q d
 else
 ((aG data.base data.len (yw (first+a)))/\aD none yH d (sat data.base 1 (yw (first+a))) λj=>((aG data.base data.len (yw (first+root)))/\aD none yH d (sat data.base 1 (yw (first+root))) λl=>((aG data.base data.len (yw (first+root)))/\cl d (sat data.base 1 (yw (first+root))) [(yI j)] (λg=>((aG data.base data.len (yw (first+a)))/\cl g (sat data.base 1 (yw (first+a))) [(yI l)] (λi=>f a i)))))))) b))))) lo h
def UR (P:Program) (b:Int) (Q:(Int->(Hp->Prop))) (h:Hp):Prop:=
 aa P Z6 [(.int .u64 (IntKind.wrap .u64 b))] yH (λr a=>(0<=r/\Q (mQ .u64 1 r) a)) h
def VK (P:Program) (r:Option Addr) (Q:(Int->(Hp->Prop))) (h:Hp):Prop:=
 aj none r λp=>aD none (ab .u64) h p λx=>aj none r λd=>aD none (ab .u64) h d λn=>((0:Int)<=(13:Int)/\aj none r λe=>cl h e [(.int .u64 (df .xor .u64 x (mQ .u64 n (13:Int))))] (λa=>aj none r λf=>aD none (ab .u64) a f λo=>aj none r λg=>aD none (ab .u64) a g λq=>((0:Int)<=(7:Int)/\aj none r λi=>cl a i [(.int .u64 (df .xor .u64 o (fA .u64 q (7:Int))))] (λb=>aj none r λj=>aD none (ab .u64) b j λs=>aj none r λk=>aD none (ab .u64) b k λt=>((0:Int)<=(17:Int)/\aj none r λl=>cl b l [(.int .u64 (df .xor .u64 s (mQ .u64 t (17:Int))))] (λc=>aj none r λm=>aD none (ab .u64) c m λu=>Q u c))))))
def RJ (P:Program) (data:Sl) (a:Int) (c:Option Addr) (Q:(Int->(Hp->Prop))) (h:Hp):Prop:=
 aa P Ti [data.v,(yI (yw (a-1))),(yI a),(yI (yw (a+1))),(yP c)] yH (λr b=>Q r b) h
def Tn (P:Program) (data:Sl) (a:Int) (b:Int) (c:Int) (d:Option Addr) (Q:(Int->(Hp->Prop))) (h:Hp):Prop:=
 bu P ID [data.v,(yI a),(yI b),(yP d)] yH yH (λr i e=>bu P ID [data.v,(yI i),(yI c),(yP d)] yH yH (λr2 k f=>bu P ID [data.v,(yI r),(yI r2),(yP d)] yH yH (λl j g=>Q j g) f) e) h
def Pf (P:Program) (x:Int) (Q:(Bool->(Hp->Prop))) (h:Hp):Prop:=
 Q (x !=x) h
def ZD (P:Program) (x:Int) (Q:(Bool->(Hp->Prop))) (h:Hp):Prop:=
 Q (x !=x) h
def ZE (P:Program) (p:Option Addr) (proc:Int) (Q:(Int->(Hp->Prop))) (h:Hp):Prop:=
 aj none p λi=>dO h i 0 λx=>au (α1:=Int) (λe a d=>(if decide (a<(x.len:Int)) then
 ((aG x.base x.len a)/\aD none an d (sat x.base 1 a) λj=>aa P Zk [(yP j)] bD (λr g=>au (α1:=Int) (λf c b=>(if decide (c<(r.bB.len:Int)) then
 ((aG r.bB.base r.bB.len c)/\aD none aF b (sat r.bB.base 2 c) λk=>(if (k.bT==proc)=true then
 Q a b
 else
 f (yw (c+1)) b))
 else
 e (yw (a+1)) b)) 0 g) d)
 else
 Q (-1) d)) 0 h
def ZV (P:Program) (l:Option Addr) (p:Int) (v:Int) (Q:(Int->(Hp->Prop))) (h:Hp):Prop:=
 aa P ZL [(yP l)] aW (λr c=>(if (!r)=true then
 Q 20 c
 else
 aa P Zq [(yP l),(yI p)] yH (λj b=>(if decide (j>=0) then
 Q 8 b
 else
 aj none l λg=>dO b g 2 λx=>bG [(yI p),(yI v)] (λa d=>gv 2 16 [(yI 0),(yI 0)] x ⟨(some a),1,1⟩ (λr2 e=>aj none l λi=>cl e (Addr.add i 2) [r2.v] (λf=>Q 0 f)) d) b)) c)) h
def Rb (P:Program) (s:Sl) (f:xB) (Q:(Int->(Hp->Prop))) (h:Hp):Prop:=
 au (α1:=Int) (λd a b=>(if decide (a<(s.len:Int)) then
 ((aG s.base s.len a)/\aD none aF b (sat s.base 2 a) λx=>ig P tb (.func (.func f.g) f.first f.captured) [x.v] aW (λr c=>(if r then
 Q a c
 else
 d (yw (a+1)) c)) b)
 else
 Q (-1) b)) 0 h
def ztw (P:Program) (w:bp) (a1:Addr) (Q:(Bool->(Hp->Prop))) (h:Hp):Prop:=
 aD none yH h a1 λx=>Q (w.bT==x) h
def zym (P:Program) (op:Int) (Q:(ByteArray->(Hp->Prop))) (h:Hp):Prop:=
 aA ((decide (op<0)) || (decide (op>=34))) λy=>(if y then
 Q ⟨#[]⟩ h
 else
 ((0<=op/\op<34)/\∃x:ByteArray,((List.get?Internal (α:=Value) [(.string ⟨#[]⟩),(.string ⟨#[97,105]⟩),(.string ⟨#[97,98]⟩),(.string ⟨#[97,98,99]⟩),(.string ⟨#[97,98,99]⟩),(.string ⟨#[97,98,99]⟩),(.string ⟨#[97,98,99]⟩),(.string ⟨#[97,98,99]⟩),(.string ⟨#[97,98,99]⟩),(.string ⟨#[97,98,99]⟩),(.string ⟨#[97,98,99]⟩),(.string ⟨#[97,98,99]⟩),(.string ⟨#[97,98,99]⟩),(.string ⟨#[97,98,99]⟩),(.string ⟨#[97,98,99]⟩),(.string ⟨#[97,98,99]⟩),(.string ⟨#[97,98,99]⟩),(.string ⟨#[97,98,99]⟩),(.string ⟨#[97,98,99]⟩),(.string ⟨#[97,98,99]⟩),(.string ⟨#[97,98]⟩),(.string ⟨#[97,98]⟩),(.string ⟨#[105]⟩),(.string ⟨#[97,105]⟩),(.string ⟨#[97,98,99]⟩),(.string ⟨#[97,98]⟩),(.string ⟨#[97,98]⟩),(.string ⟨#[97]⟩),(.string ⟨#[97]⟩),(.string ⟨#[105]⟩),(.string ⟨#[105]⟩),(.string ⟨#[97]⟩),(.string ⟨#[97]⟩),(.string ⟨#[97]⟩)] ((Int.toNat op)*1))=(some (.string x))/\Q x h)))
def Iy (P:Program) (field:ByteArray) (a1:Addr) (Q:(Bool->(Hp->Prop))) (h:Hp):Prop:=
 aD none pX h a1 λx=>aa P zuy [(.string x),(.string field)] aW (λr a=>Q r a) h
def Tp (P:Program) (data:Sl) (a:Int) (b:Int) (d:Option Addr) (Q:(Int->(Int->(Hp->Prop)))) (h:Hp):Prop:=
 ((aG data.base data.len b)/\aD none yH h (sat data.base 1 b) λx=>((aG data.base data.len a)/\aD none yH h (sat data.base 1 a) λg=>aa P ot [(yI x),(yI g)] aW (λr c=>(if r then
 aj none d λp=>aD none yH c p λi=>aj none d λf=>cl c f [(yI (yw (i+1)))] (λe=>Q b a e)
 else
 Q a b c)) h))
end Lf
namespace Lf
open Go
def iY.s (a:iY):iY:=.sq .tt a
def cg (a n:Nat):List (Nat×List Nat):=(List.range' a n).map λi=>(i,[])
section
variable {α β:Type _} {p q:Nat->α->Prop}
def rowAll (p:Nat->α->Prop):Nat->List (Option α)->Prop
 | _,[]=>True
 | n,none::l=>rowAll p (n+1) l
 | n,some a::l=>p n a/\rowAll p (n+1) l
def lR (p:Nat->α->Prop):Nat->List (List (Option α))->Prop
 | _,[]=>True
 | n,r::l=>rowAll p n r/\lR p (n+16) l
def jU (f:Nat->α->β):Nat->List (Option α)->List β
 | _,[]=> []
 | n,none::l=>jU f (n+1) l
 | n,some a::l=>f n a::jU f (n+1) l
def iL (f:Nat->α->β):Nat->List (List (Option α))->List (List β)
 | _,[]=> []
 | n,r::l=>jU f n r::iL f (n+16) l
theorem rowAll.at :∀ {l:List (Option α)} {n j:Nat} {a:α},rowAll p n l->nth l j=some (some a)->p (n+j) a
 | [],_,_,_,_,h=>by cases h
 | none::l,n,0,_,_,h=>by cases h
 | some b::l,n,0,a,h,e=>by cases e;exact h.1
 | none::l,n,j+1,a,h,e=>by have:=rowAll.at (l:=l) (n:=n+1) h e;rwa [Nat.add_right_comm] at this
 | some b::l,n,j+1,a,h,e=>by have:=rowAll.at (l:=l) (n:=n+1) h.2 e;rwa [Nat.add_right_comm] at this
theorem lR.at :∀ {l:List (List (Option α))} {n i j:Nat} {r:List (Option α)} {a:α},lR p n l->nth l i=some r->nth r j=some (some a)->p (n+16*i+j) a
 | [],_,_,_,_,_,_,h,_=>by cases h
 | r::l,n,0,j,_,a,h,e,b=>by cases e;exact h.1.at b
 | r::l,n,i+1,j,_,a,h,e,b=>by
  have:=lR.at (l:=l) (n:=n+16) h.2 e b
  rwa [show n+16+16*i+j=n+16*(i+1)+j by omega] at this
theorem jU.all {f g:Nat->α->β}:∀ {l:List (Option α)} {n:Nat},jU f n l=jU g n l->rowAll (λt e=>f t e=g t e) n l
 | [],_,_=>trivial
 | none::l,n,h=>jU.all (l:=l) (n:=n+1) h
 | some a::l,n,h=>by obtain ⟨b,c⟩:=List.cons.inj h;exact ⟨b,jU.all c⟩
theorem iL.all {f g:Nat->α->β}:∀ {l:List (List (Option α))} {n:Nat},iL f n l=iL g n l->lR (λt e=>f t e=g t e) n l
 | [],_,_=>trivial
 | r::l,n,h=>by obtain ⟨a,b⟩:=List.cons.inj h;exact ⟨jU.all a,iL.all b⟩
def rD (c:Nat->Bool):Nat->List Bool->Bool
 | _,[]=>true
 | n,b::l=>(!b || c n)&&rD c (n+1) l
def rE (c:Nat->Bool):Nat->List (List Bool)->Bool
 | _,[]=>true
 | n,r::l=>rD c n r&&rE c (n+16) l
theorem rD.at {c:Nat->Bool}:∀ {l:List Bool} {n j:Nat},rD c n l=true->nth l j=some true->c (n+j)=true
 | [],_,_,_,h=>by cases h
 | b::l,n,0,h,e=>by cases e;simp [rD] at h;exact h.1
 | b::l,n,j+1,h,e=>by
  simp only [rD,Bool.and_eq_true] at h;have:=rD.at (l:=l) (n:=n+1) h.2 e
  rwa [Nat.add_right_comm] at this
theorem rE.at {c:Nat->Bool}:∀ {l:List (List Bool)} {n i j:Nat} {r:List Bool},rE c n l=true->nth l i=some r->nth r j=some true->c (n+16*i+j)=true
 | [],_,_,_,_,_,h,_=>by cases h
 | r::l,n,0,j,_,h,e,a=>by cases e;simp only [rE,Bool.and_eq_true] at h;exact rD.at h.1 a
 | r::l,n,i+1,j,_,h,e,a=>by
  simp only [rE,Bool.and_eq_true] at h;have:=rE.at (l:=l) (n:=n+16) h.2 e a
  rwa [show n+16+16*i+j=n+16*(i+1)+j by omega] at this
end
def tv (P:Program) (g:Nat):Bool:=match P.funcs[g]? with
 | some fn=>fn.body.isSome&& !(fn.name== "runtime.NumGoroutine")
 | none=>false
theorem tv.call {P:Program} {g:Nat} (h:tv P g=true) (args:Array Value) (w:World):(callFunc g args).run P w=.ok (.enter g args) w:=by
 unfold tv at h;cases a:P.funcs[g]? with
 | none=>rw [a] at h;cases h
 | some fn=>
  rw [a] at h;simp only [Bool.and_eq_true,Bool.not_eq_true'] at h;obtain ⟨c,d⟩:=h;have e:fn.body.isNone=false:=by cases hb:fn.body with
   | none=>rw [hb] at c;cases c
   | some b=>rfl
  simp only [callFunc,Sem.run_bind,run_program,Result.andThen_ok,a,d,e,Bool.false_eq_true,if_false,Sem.run_pure]
theorem WL {P:Program} {t:Nat} {e:Ty} (h:(P.info? t).map (λi=>(i.size,i.bytes,i.zero))=some (e.size,e.bytes,some e.zero)):∃i,P.info? t=some i/\i.size=e.size/\i.bytes=e.bytes/\i.zero=some e.zero:=by
 cases hi:P.info? t with
 | none=>rw [hi] at h;cases h
 | some i=>rw [hi] at h;simp only [Option.map_some,Option.some.injEq,Prod.mk.injEq] at h;exact ⟨i,rfl,h⟩
theorem WO (x:FU):(ba x.v).length=1/\∀a,x.v≠ .agg a:=by obtain ⟨v,h⟩:=x;cases v<;>first | exact ⟨rfl,λa h=>by cases h⟩ | cases h
end Lf
namespace Lf
open Go Go.Proofs Tryz
theorem tyN {e:Ty} {q:Prop} (h:(none:Option Ty)=some e):q:=by cases h
theorem nZ {p:Nat->Ty->Prop} (h:lR p 0 qA):∀t e,BY t=some e->p t e:=λt e a=>by
 unfold BY at a;cases b:nth qA (t / 16) with
 | none=>rw [b] at a;cases a
 | some r=>
  rw [b] at a;dsimp only at a;cases c:nth r (t%16) with
  | none=>rw [c] at a;cases a
  | some x=>
   rw [c] at a;dsimp only at a;subst a;have:=h.at b c
   rwa [show 0+16*(t / 16)+t%16=t by omega] at this
theorem Gj {c:Nat->Bool} (h:rE c 0 CK=true):∀g,Bw g=true->c g=true:=λg a=>by
 unfold Bw at a;cases b:nth CK (g / 16) with
 | none=>rw [b] at a;cases a
 | some r=>
  rw [b] at a;dsimp only at a;cases d:nth r (g%16) with
  | none=>rw [d] at a;cases a
  | some x=>
   rw [d] at a;dsimp only at a;subst a;have:=rE.at h b d
   rwa [show 0+16*(g / 16)+g%16=g by omega] at this
theorem Io :iL (λt _=>prog.underlying t) 0 qA=iL (λ_ e=>some e.cm) 0 qA:=by kernel_rfl
theorem YF :iL (λt _=>(prog.info? t).map (λi=>(i.size,i.bytes,i.zero))) 0 qA=iL (λ_ e=>some (e.size,e.bytes,some e.zero)) 0 qA:=by kernel_rfl
theorem xp :lR (λ_ e=>(pE e.cm=true->(∀x,∃a,e.sh.enc x=.agg a/\a.size=e.size)/\∃a,e.zero=.agg a)/\(pE e.cm=false->e.size=1/\∀x,(ba (e.sh.enc x)).length=1/\∀a,e.sh.enc x≠ .agg a)/\(ba e.zero).length=e.size/\(e.cm=.int .u8->ba e.zero=[.int .u8 0])) 0 qA:=by
 unfold qA
 repeat' refine And.intro ?_ ?_
 all_goals first | exact trivial | exact rfl | (intro h;cases h;done) | exact (λ_=>rfl) | exact (λ_=>⟨λx=>⟨_,rfl,rfl⟩,_,rfl⟩) | exact (λ_=>⟨λx=>⟨_,rfl,x.size⟩,_,rfl⟩) | exact (λ_=>⟨rfl,WO⟩) | (refine λ_=>⟨rfl,λx=>⟨rfl,λa h=> ?_⟩⟩;cases h;done)
theorem bW :tb.Ok prog where
 cm:=nZ (iL.all Io)
 info:=λt e h=>WL (nZ (iL.all YF) t e h)
 agg:=λt e h b=>((nZ xp t e h).1 b).1
 leaf:=λt e h=>(nZ xp t e h).2.1
 zD:=λt e h=>(nZ xp t e h).2.2.1
 A8:=λt e h=>(nZ xp t e h).2.2.2
 Qy:=λt e h b=>((nZ xp t e h).1 b).2
 call:=λg h=>tv.call (Gj (by kernel_rfl) g h)
 ext:=by
  intro g f h args w;have h:vK g=some f:=h;unfold vK at h;cases c:Nat.beq g 185 with
  | true=>have a:g=185:=Nat.eq_of_beq_eq_true c;subst a;exact run_callFunc_extern func185 (by kernel_rfl) (by kernel_rfl) (by kernel_rfl) (show _=_ from (show _=some _ by kernel_rfl:_=some _).trans h) args w
  | false=>
  simp only [c,cond_false] at h;cases d:Nat.beq g 213 with
  | true=>have a:g=213:=Nat.eq_of_beq_eq_true d;subst a;exact run_callFunc_extern func213 (by kernel_rfl) (by kernel_rfl) (by kernel_rfl) (show _=_ from (show _=some _ by kernel_rfl:_=some _).trans h) args w
  | false=>
  simp only [d,cond_false] at h;cases i:Nat.beq g 214 with
  | true=>have a:g=214:=Nat.eq_of_beq_eq_true i;subst a;exact run_callFunc_extern func214 (by kernel_rfl) (by kernel_rfl) (by kernel_rfl) (show _=_ from (show _=some _ by kernel_rfl:_=some _).trans h) args w
  | false=>
  simp only [i,cond_false] at h;cases j:Nat.beq g 231 with
  | true=>have a:g=231:=Nat.eq_of_beq_eq_true j;subst a;exact run_callFunc_extern func231 (by kernel_rfl) (by kernel_rfl) (by kernel_rfl) (show _=_ from (show _=some _ by kernel_rfl:_=some _).trans h) args w
  | false=>
  simp only [j,cond_false] at h;cases h
 mixed:=by kernel_rfl
theorem bP (p:List Nat) (A:iY) {g:FuncId} {f:Func} {args:List Value} {K:(bC tb f.resultTypes.toList).T->Hp->Prop} {h:Hp} {X:Prop} (a:prog.funcs[g]? =some f) (hv:X) {c:Code} (hb:f.body=some c:=by exact rfl) (k:Bx ⟨prog,tb,p⟩ f A args K h=X:=by kernel_rfl):aa prog g args (bC tb f.resultTypes.toList) K h:=
 R1 (C:=⟨prog,tb,p⟩) (A:=A) bW a hb (k.mpr hv)
theorem gW {x c s Q h} (hv:S6 prog x c s Q h):aa prog ztf [(bf).enc x,(aK).enc c,(be).enc s] (aW) Q h:=
 bP [4,5] .tt func3 hv
theorem znj {c s Q h} (hv:V3 prog c s Q h):aa prog VZ [(aK).enc c,(be).enc s] (aW) Q h:=
 bP [2,3] (.s (.sq (.s (.bk (.lp [⟨false,5,3⟩] [] (.s (.sq (.bk (.sq (.rg ([(0,[]),(1,[]),(3,[]),(4,[]),(2,[3,4])]++cg 5 3)) (.s (.s (.s (.sq (.rg (cg 0 5++ [(6,[]),(7,[]),(5,[6,7])]++cg 8 4)) .tt)))))) .tt))))) .tt)) func5 hv
theorem zvk {Q h} (hv:Vm prog  Q h):aa prog zpk [] (aW) Q h:=
 bP [] .tt func6 hv
theorem zyn {c Q h} (hv:zsk prog c Q h):aa prog zsd [(aK).enc c] (aW) Q h:=
 bP [1] .tt func7 hv
theorem zzh {c s Q h} (hv:zyb prog c s Q h):aa prog LM [(aK).enc c,(be).enc s] (af) Q h:=
 bP [2,3] .tt func8 hv
theorem zwt {c s Q h} (hv:zvd prog c s Q h):aa prog Pj [(aK).enc c,(be).enc s] (af) Q h:=
 bP [2,3] .tt func9 hv
theorem zwu {x asked Q h} (hv:V4 prog x asked Q h):aa prog zra [(bf).enc x,(jV).enc asked] (aW) Q h:=
 bP [2,9] (.s (.s (.s (.s (.s (.sq (.s (.bk (.lp [⟨false,7,3⟩,⟨false,8,3⟩] [9] (.s (.sq (.bk (.s (.sq (.s (.bj [⟨false,7,3⟩] [] (.s (.sq (.s (.bk (.lp [⟨false,7,3⟩,⟨false,10,3⟩] [] .tt))) .tt)))) .tt))) .tt))))) .tt)))))) func10 hv
theorem zpe {s a1 Q h} (hv:zit prog s a1 Q h):aa prog zrl [(be).enc s,.pointer (some a1)] (aW) Q h:=
 bP [2] .tt func11 hv
theorem Iz {e Q h} (hv:B4 prog e Q h):aa prog zzx [(af).enc e] (af) Q h:=
 bP [5] (.s (.s (.sq (.s (.bk (.lp [⟨false,19,3⟩] [5] (.s (.s (.sq (.bj [] [5] .tt) .tt)))))) (.s (.s (.sq (.s (.bk (.lp [⟨false,49,3⟩] [] (.s (.s (.sq (.bj [] [] (.s (.s (.bk (.lp [⟨false,10,3⟩,⟨false,11,23⟩] [] .tt))))) .tt)))))) .tt)))))) func14 hv
theorem zyo {c s Q h} (hv:Wt prog c s Q h):aa prog zse [(aK).enc c,(be).enc s] yH Q h:=
 bP [2,3] (.s (.s (.s (.s (.s (.s (.sq (.s (.bk (.lp [⟨false,7,4⟩,⟨false,9,3⟩] [] .tt))) (.sq (.s (.bk (.lp [⟨false,7,4⟩,⟨false,10,3⟩] [] .tt))) (.sq (.s (.bk (.lp [⟨false,7,4⟩,⟨false,11,3⟩] [] .tt))) .tt))))))))) func15 hv
theorem zvl {a b Q h} (hv:Vo prog a b Q h):aa prog Jc [(af).enc a,(af).enc b] (aW) Q h:=
 bP [] (.s (.s (.sq (.s (.bk (.lp [⟨false,5,3⟩] [] (.s (.sq (.bk (.sq (.rg (cg 0 9)) .tt)) .tt))))) .tt))) func16 hv
theorem zvm {c s Q h} (hv:zpq prog c s Q h):aa prog OL [(aK).enc c,(be).enc s] (af) Q h:=
 bP [2,3] .tt func17 hv
theorem zuf {c s Q h} (hv:zoi prog c s Q h):aa prog T9 [(aK).enc c,(be).enc s] (af) Q h:=
 bP [2,3] .tt func18 hv
theorem zor {l Q h} (hv:Wv prog l Q h):bA prog OR [(af).enc l] (Q) h:=
 show aa prog OR [(af).enc l] (bC tb []) (λ_=>Q) h from bP [] (.sq (.s (.bk (.lp [⟨false,2,3⟩] [] .tt))) (.s (.bk (.lp [⟨false,0,37⟩,⟨false,3,3⟩] [] .tt)))) func19 hv
theorem zos {c Q h} (hv:Wx prog c Q h):bu prog OS [(aK).enc c] yH yH Q h:=
 show aa prog OS [(aK).enc c] (bC tb [42,3]) (λr=>Q r.1 r.2) h from bP [1,7] (.s (.s (.s (.sq (.rg ([(0,[]),(1,[]),(3,[]),(4,[]),(6,[]),(7,[]),(9,[]),(10,[]),(13,[]),(2,[4,7,10]),(5,[7,10]),(8,[10]),(11,[]),(12,[]),(14,[])])) (.sq (.s (.bk (.lp [⟨false,8,3⟩] [] .tt))) (.s (.s (.sq (.s (.bk (.lp [⟨false,9,3⟩] [] (.s (.sq (.bk (.sq (.sq (.rg (cg 0 12)) .tt) (.sq (.rg (cg 0 14)) .tt))) .tt))))) .tt)))))))) func20 hv
theorem O8 {c s room Q h} (hv:zyc prog c s room Q h):aa prog zxu [(aK).enc c,(be).enc s,(aW).enc room] (af) Q h:=
 bP [3,4,9,15,17,19] (.s (.s (.s (.sq (.s (.bk (.lp [⟨false,31,3⟩] [9] (.s (.s (.sq (.bk (.s (.s (.bk (.lp [⟨false,38,3⟩] [] (.s (.s (.sq (.bk (.s (.s (.bk (.lp [⟨false,45,3⟩] [] .tt))))) .tt)))))))) .tt)))))) (.sq (.s (.bk (.lp [⟨false,62,3⟩] [15,17,19] (.s (.s (.sq (.bk (.s (.s (.bk (.lp [⟨false,70,3⟩] [17,19] (.s (.s (.sq (.bk (.s (.s (.bk (.lp [⟨false,77,3⟩] [19] (.s (.s (.sq (.bj [] [19] .tt) .tt)))))))) .tt)))))))) .tt)))))) (.s (.sq (.s (.bk (.lp [⟨false,20,37⟩,⟨false,93,3⟩] [] .tt))) .tt))))))) func21 hv
theorem T5 {c Q h} (hv:zyd prog c Q h):bu prog zxv [(aK).enc c] (an) yH Q h:=
 show aa prog zxv [(aK).enc c] (bC tb [60,42]) (λr=>Q r.1 r.2) h from bP [1] (.s (.s (.sq (.rg ([(0,[]),(1,[]),(2,[0])]++cg 3 3)) .tt))) func22 hv
theorem zug {m Q h} (hv:Fy prog m Q h):aa prog I3 [(an).enc m] (be) Q h:=
 bP [2,3] (.s (.s (.sq (.s (.bk (.lp [⟨false,26,3⟩,⟨true,3,33⟩] [3] (.s (.s (.sq (.bk (.s (.s (.rg (cg 0 10++cg 11 10++ [(10,[1,5,14,18]),(21,[]),(22,[1])]++cg 23 3))))) .tt)))))) (.sq (.s (.bk (.lp [⟨false,69,3⟩,⟨true,3,33⟩] [3] (.s (.s (.sq (.bk (.s (.s (.sq (.rg (cg 0 14++ [(14,[3,7,9,12])]++cg 15 6)) (.sq (.rg (cg 0 14++ [(14,[3,7,9,12])]++cg 15 6)) (.rg (cg 0 25++ [(25,[1])]++cg 26 3))))))) .tt)))))) .tt)))) func23 hv
theorem zvn {m Q h} (hv:Jk prog m Q h):aa prog zpl [(an).enc m] yH Q h:=
 bP [] (.s (.sq (.rg (cg 0 10)) (.s (.s (.s (.sq (.s (.bj [] [] (.lp [⟨false,32,3⟩] [] (.s (.s (.sq (.bk (.sq (.s (.bk (.lp [⟨false,39,3⟩] [] (.s (.s (.sq (.bk (.s (.sq (.rg (cg 0 13)) (.sq (.rg (cg 0 14)) .tt)))) .tt)))))) .tt)) .tt)))))) .tt)))))) func24 hv
theorem ztx {m p v Q h} (hv:OK prog m p v Q h):aa prog zni [(an).enc m,yH.enc p,yH.enc v] yH Q h:=
 bP [] (.s (.s (.sq (.rg (cg 0 14)) .tt))) func25 hv
theorem zvo {m p Q h} (hv:OO prog m p Q h):aa prog zpm [(an).enc m,yH.enc p] yH Q h:=
 bP [] .tt func26 hv
theorem zzm {seq Q h} (hv:ztk prog seq Q h):aa prog OT [(jV).enc seq] (af) Q h:=
 bP [] .tt func28 hv
theorem zfr {m Q h} (hv:Sk prog m Q h):aa prog Sg [(gE).enc m] (jV) Q h:=
 bP [] .tt func29 hv
theorem TB {ring Q h} (hv:zve prog ring Q h):aa prog IQ [(af).enc ring] (af) Q h:=
 bP [] (.s (.s (.sq (.rg (cg 0 3++cg 4 3++ [(3,[]),(7,[]),(8,[])])) .tt))) func30 hv
theorem OJ {s v Q h} (hv:Jl prog s v Q h):aa prog Jd [(af).enc s,yH.enc v] yH Q h:=
 bP [] (.s (.sq (.s (.bk (.lp [⟨false,8,3⟩] [] .tt))) .tt)) func31 hv
theorem zvp {c s Q h} (hv:Vq prog c s Q h):aa prog zpn [(aK).enc c,(be).enc s] (aW) Q h:=
 bP [2,3] (.s (.s (.sq (.s (.bk (.lp [⟨false,5,3⟩] [] (.s (.sq (.bk (.sq (.rg (cg 0 34)) .tt)) .tt))))) (.sq (.s (.bk (.lp [⟨false,6,3⟩] [] (.s (.sq (.bk (.sq (.sq (.rg (cg 0 12)) .tt) (.s (.bk (.lp [⟨false,7,3⟩] [] (.s (.sq (.bk (.sq (.rg (cg 0 14)) .tt)) .tt))))))) .tt))))) .tt)))) func32 hv
theorem zpf {m i Q h} (hv:SE prog m i Q h):aa prog zip [(an).enc m,yH.enc i] (aW) Q h:=
 bP [5,8] (.s (.s (.s (.sq (.sq (.rg (cg 0 42)) .tt) (.sq (.s (.bk (.lp [⟨false,7,3⟩] [8] (.s (.sq (.bk (.s (.sq (.rg (cg 0 56)) .tt))) .tt))))) (.sq (.s (.bk (.lp [⟨false,9,3⟩] [] (.s (.sq (.bk (.s (.s (.s (.bk (.lp [⟨false,11,3⟩] [] .tt)))))) .tt))))) .tt)))))) func33 hv
theorem znc {m p Q h} (hv:R3 prog m p Q h):aa prog zgs [(an).enc m,yH.enc p] (aW) Q h:=
 bP [5,9,11] (.s (.s (.s (.sq (.sq (.rg (cg 0 41)) .tt) (.s (.s (.s (.sq (.s (.bk (.lp [⟨false,8,3⟩] [9,11] (.s (.sq (.bk (.s (.s (.s (.sq (.sq (.rg (cg 0 25)) .tt) (.s (.bk (.lp [⟨false,10,3⟩] [11] (.s (.sq (.bk (.s (.s (.sq (.rg (cg 0 15)) .tt)))) .tt)))))))))) .tt))))) .tt)))))))) func34 hv
theorem zot {m p Q h} (hv:Sr prog m p Q h):aa prog zhh [(an).enc m,yH.enc p] (aW) Q h:=
 bP [5,7] (.s (.s (.s (.sq (.rg ([(0,[]),(1,[])]++cg 3 9++ [(16,[]),(2,[7,11])]++cg 12 4++ [(17,[]),(18,[])])) (.s (.sq (.s (.bk (.lp [⟨false,9,3⟩,⟨false,11,3⟩] [] (.s (.sq (.bk (.s (.bk (.lp [⟨false,9,3⟩,⟨false,12,3⟩] [] (.s (.sq (.bj [⟨false,9,3⟩] [] .tt) .tt)))))) .tt))))) (.sq (.s (.bk (.lp [⟨false,10,3⟩,⟨false,13,3⟩] [] (.s (.sq (.bk (.s (.s (.bk (.lp [⟨false,10,3⟩,⟨false,15,3⟩] [] (.s (.sq (.bj [⟨false,10,3⟩] [] (.s (.s (.sq (.rg (cg 0 29)) .tt)))) .tt))))))) .tt))))) (.s (.sq (.s (.bk (.lp [⟨false,16,4⟩,⟨false,17,3⟩] [] .tt))) .tt))))))))) func35 hv
theorem zmg {c s all Q h} (hv:Vs prog c s all Q h):aa prog Ve [(aK).enc c,(be).enc s,(aW).enc all] (af) Q h:=
 bP [3,4] (.s (.s (.s (.sq (.s (.bk (.lp [⟨false,7,37⟩,⟨false,8,3⟩] [] (.s (.sq (.bj [⟨false,7,37⟩] [] (.sq (.rg (cg 0 10)) (.jn [⟨false,7,37⟩] [] (.s (.sq (.rg (cg 0 20)) .tt)) .tt))) .tt))))) .tt)))) func36 hv
theorem zyp {l Q h} (hv:zsl prog l Q h):bu prog Wn [(af).enc l] yH yH Q h:=
 show aa prog Wn [(af).enc l] (bC tb [42,3]) (λr=>Q r.1 r.2) h from bP [] (.s (.s (.s (.sq (.s (.bk (.lp [⟨false,4,3⟩] [] (.s (.sq (.bk (.sq (.sq (.rg (cg 0 10)) .tt) (.sq (.rg (cg 0 10)) .tt))) .tt))))) .tt)))) func37 hv
theorem zuh {l parts Q h} (hv:Uw prog l parts Q h):aa prog zob [(af).enc l,yH.enc parts] yH Q h:=
 bP [] (.s (.s (.s (.sq (.s (.bk (.lp [⟨false,5,3⟩] [] .tt))) .tt)))) func38 hv
theorem Fx {n least lN Q h} (hv:Uy prog n least lN Q h):aa prog Cg [yH.enc n,yH.enc least,yH.enc lN] (aW) Q h:=
 bP [] .tt func39 hv
theorem zyq {l ak Q h} (hv:Wz prog l ak Q h):bu prog Wp [(af).enc l,yH.enc ak] yH yH Q h:=
 show aa prog Wp [(af).enc l,yH.enc ak] (bC tb [42,3]) (λr=>Q r.1 r.2) h from bP [] (.s (.s (.s (.sq (.s (.bk (.lp [⟨false,6,3⟩] [] .tt))) .tt)))) func40 hv
theorem T7 {c s Q h} (hv:Po prog c s Q h):aa prog Jz [(aK).enc c,(be).enc s] yH Q h:=
 bP [2,3,10] (.s (.s (.s (.s (.s (.sq (.s (.bk (.lp [⟨false,61,3⟩] [] .tt))) (.sq (.s (.bk (.lp [⟨false,72,3⟩] [] .tt))) .tt))))))) func41 hv
theorem JH {c Q h} (hv:C3 prog c Q h):bu prog yE [(aK).enc c] yH yH Q h:=
 show aa prog yE [(aK).enc c] (bC tb [42,3]) (λr=>Q r.1 r.2) h from bP [1,15] (.s (.s (.s (.s (.sq (.s (.bk (.lp [⟨false,57,3⟩] [] .tt))) (.s (.sq (.s (.bk (.lp [⟨false,80,3⟩] [15] .tt))) .tt))))))) func42 hv
theorem TD {c s Q h} (hv:zvf prog c s Q h):aa prog IT [(aK).enc c,(be).enc s] (an) Q h:=
 bP [2,3,7,11,12] (.s (.sq (.rg ([(0,[]),(2,[]),(3,[]),(1,[3])]++cg 4 3)) (.s (.s (.sq (.s (.bk (.lp [⟨false,48,3⟩] [7] (.s (.s (.sq (.bk (.s (.s (.rg (cg 0 9++cg 10 5++ [(9,[4,6,11,13]),(15,[4,6,11,13]),(16,[]),(17,[4]),(18,[4])]++cg 19 4))))) .tt)))))) (.sq (.s (.bk (.lp [⟨false,86,3⟩] [11,12] (.s (.s (.sq (.bj [] [11,12] (.s (.s (.s (.sq (.rg (cg 0 21++ [(21,[4]),(22,[4])]++cg 23 4)) (.sq (.rg (cg 0 9)) (.s (.jn [] [] (.s (.sq (.rg (cg 0 5++ [(6,[]),(7,[]),(5,[3,7]),(8,[])])) .tt)) (.s (.sq (.rg (cg 0 5++ [(6,[]),(7,[]),(5,[3,7]),(8,[])])) .tt)))))))))) .tt)))))) .tt)))))) func43 hv
theorem SJ {c Q h} (hv:Z9 prog c Q h):aa prog zzy [(aK).enc c] (be) Q h:=
 bP [1,2,3] (.s (.sq (.r2 [(0,[]),(1,[]),(2,[]),(4,[]),(5,[]),(6,[]),(9,[])] 3 7 (.rg ([(3,[5]),(7,[]),(8,[]),(10,[])])) (.rg ([(7,[1]),(3,[5]),(8,[]),(10,[])]))) (.sq (.s (.bk (.lp [⟨false,18,3⟩] [] (.s (.s (.sq (.bj [] [] (.s (.r2 [(0,[]),(1,[]),(2,[]),(3,[]),(4,[]),(5,[]),(7,[]),(8,[]),(10,[]),(11,[])] 6 12 (.r2 [(6,[1,4,8,11])] 9 12 (.r2 [(9,[1,4,11]),(13,[]),(14,[])] 12 15 (.rg ([(12,[1,4]),(15,[4])]++cg 16 3)) (.rg ([(15,[4,11]),(12,[1,4])]++cg 16 3))) (.rg ([(12,[1,4,8]),(9,[1,4,11]),(13,[]),(14,[]),(15,[4,11])]++cg 16 3))) (.rg ([(12,[1,4,8]),(6,[1,4,8,11]),(9,[1,4,11]),(13,[]),(14,[]),(15,[4,11])]++cg 16 3))))) .tt)))))) (.sq (.s (.bk (.lp [⟨false,42,3⟩] [] (.s (.s (.sq (.bk (.s (.rg (cg 0 7++ [(7,[1])]++cg 8 3)))) .tt)))))) .tt)))) func44 hv
theorem zzn {l Q h} (hv:Xs prog l Q h):bu prog OU [(an).enc l] (af) (af) Q h:=
 show aa prog OU [(an).enc l] (bC tb [23,89]) (λr=>Q r.1 r.2) h from bP [7] (.s (.s (.s (.sq (.s (.bk (.lp [⟨false,4,23⟩,⟨false,5,89⟩,⟨false,13,3⟩] [7] .tt))) .tt)))) func45 hv
theorem zfa {s Q h} (hv:RH prog s Q h):aa prog IB [(af).enc s] (af) Q h:=
 bP [] .tt func46 hv
theorem Rh {p Q h} (hv:Zs prog p Q h):bu prog O2 [(an).enc p] (af) yH Q h:=
 show aa prog O2 [(an).enc p] (bC tb [50,3]) (λr=>Q r.1 r.2) h from bP [] (.s (.s (.sq (.s (.bk (.lp [⟨false,4,50⟩,⟨false,12,3⟩] [] .tt))) (.sq (.rg (cg 0 7)) .tt)))) func47 hv
theorem zsm {w dI Q h} (hv:O4 prog w dI Q h):bu prog FA [(an).enc w,yH.enc dI] yH (aW) Q h:=
 show aa prog FA [(an).enc w,yH.enc dI] (bC tb [2,4]) (λr=>Q r.1 r.2) h from bP [6] .tt func48 hv
theorem JU {p Q h} (hv:Pb prog p Q h):aa prog xJ [yH.enc p] yH Q h:=
 bP [] .tt func49 hv
theorem JV {p Q h} (hv:Pc prog p Q h):aa prog yO [yH.enc p] yH Q h:=
 bP [] .tt func50 hv
theorem zzo {s t Q h} (hv:Xu prog s t Q h):aa prog ztg [(an).enc s,yH.enc t] yH Q h:=
 bP [] (.s (.s (.sq (.rg (cg 0 14)) .tt))) func51 hv
theorem zwv {m x Q h} (hv:V6 prog m x Q h):bA prog V0 [(an).enc m,(an).enc x] (Q) h:=
 show aa prog V0 [(an).enc m,(an).enc x] (bC tb []) (λ_=>Q) h from bP [] (.sq (.rg (cg 0 8++ [(10,[]),(8,[]),(9,[])])) (.bk (.lp [⟨false,17,3⟩] [] (.s (.s (.sq (.bj [] [] .tt) .tt)))))) func52 hv
theorem zvq {m p Q h} (hv:Vu prog m p Q h):bA prog Vg [(an).enc m,(an).enc p] (Q) h:=
 show aa prog Vg [(an).enc m,(an).enc p] (bC tb []) (λ_=>Q) h from bP [4,5] (.sq (.rg (cg 0 16++ [(20,[]),(21,[])]++cg 16 4++ [(22,[]),(23,[])])) (.s (.sq (.rg (cg 0 11)) (.s (.bk (.s (.s (.s (.s (.jn [⟨false,61,4⟩] [] .tt (.s (.s (.sq (.s (.sq (.rg (cg 0 8++ [(8,[3]),(9,[])])) (.s (.sq (.rg (cg 0 8++cg 9 8++ [(8,[3,12,14]),(17,[])])) .tt)))) (.s (.sq (.sq (.rg (cg 0 8++cg 9 9++ [(8,[3,12,14]),(18,[])])) .tt) (.s (.sq (.sq (.rg (cg 0 16)) .tt) (.s (.sq (.sq (.rg (cg 0 8++ [(9,[]),(10,[]),(8,[10]),(11,[])])) (.sq (.sq (.rg (cg 0 16)) .tt) .tt)) (.s (.sq (.sq (.rg (cg 0 11)) (.sq (.rg (cg 0 16++ [(16,[4])]++cg 17 4)) .tt)) .tt))))))))))))))))))))) func53 hv
theorem zlk {m p Q h} (hv:UA prog m p Q h):aa prog Ug [(an).enc m,yH.enc p] yH Q h:=
 bP [] .tt func54 hv
theorem Yz {p lane v Q h} (hv:Pd prog p lane v Q h):aa prog O9 [(an).enc p,yH.enc lane,yH.enc v] yH Q h:=
 bP [] .tt func55 hv
theorem zty {p lane Q h} (hv:O7 prog p lane Q h):bA prog J9 [(an).enc p,yH.enc lane] (Q) h:=
 show aa prog J9 [(an).enc p,yH.enc lane] (bC tb []) (λ_=>Q) h from bP [] .tt func56 hv
theorem TJ {m q Q h} (hv:Vw prog m q Q h):bA prog Jf [(an).enc m,(an).enc q] (Q) h:=
 show aa prog Jf [(an).enc m,(an).enc q] (bC tb []) (λ_=>Q) h from bP [] .tt func57 hv
theorem zmh {m p state Q h} (hv:Vy prog m p state Q h):bA prog OM [(an).enc m,(an).enc p,yH.enc state] (Q) h:=
 show aa prog OM [(an).enc m,(an).enc p,yH.enc state] (bC tb []) (λ_=>Q) h from bP [10,12] (.sq (.rg (cg 0 11)) (.s (.sq (.s (.bk (.lp [⟨false,35,3⟩] [] (.s (.s (.sq (.bk (.s (.rg (cg 0 15)))) .tt)))))) (.sq (.sq (.rg (cg 0 8++ [(10,[]),(8,[]),(9,[])])) (.bk (.lp [⟨false,65,3⟩] [10] .tt))) (.sq (.rg (cg 0 8++ [(8,[3]),(9,[])])) (.sq (.rg (cg 0 8++ [(8,[3]),(9,[])])) (.s (.bk (.lp [⟨false,100,3⟩] [12] (.s (.s (.sq (.bk (.s (.rg (cg 0 10)))) .tt)))))))))))) func58 hv
theorem YK {l ak Q h} (hv:C4 prog l ak Q h):bu prog CX [(af).enc l,yH.enc ak] yH yH Q h:=
 show aa prog CX [(af).enc l,yH.enc ak] (bC tb [42,3]) (λr=>Q r.1 r.2) h from bP [7] (.s (.s (.sq (.s (.bk (.lp [⟨false,22,3⟩] [7] .tt))) .tt))) func59 hv
theorem zww {x Q h} (hv:V8 prog x Q h):bA prog V1 [(af).enc x] (Q) h:=
 show aa prog V1 [(af).enc x] (bC tb []) (λ_=>Q) h from bP [] .tt func63 hv
theorem zyr {x Q h} (hv:WC prog x Q h):aa prog zsg [(af).enc x] yH Q h:=
 bP [] (.s (.jn [] [] .tt (.s (.sq (.s (.bk (.lp [⟨false,3,3⟩,⟨false,4,3⟩] [] .tt))) .tt)))) func65 hv
theorem IF {s Q h} (hv:A6 prog s Q h):aa prog Jg [(af).enc s] (af) Q h:=
 bP [] .tt func66 hv
theorem OG {n low high Q h} (hv:UC prog n low high Q h):aa prog I4 [yH.enc n,yH.enc low,yH.enc high] (aW) Q h:=
 bP [] .tt func67 hv
theorem zrf {m i Q h} (hv:S8 prog m i Q h):aa prog zkl [(an).enc m,yH.enc i] (af) Q h:=
 bP [] (.s (.s (.sq (.s (.bk (.lp [⟨false,5,23⟩,⟨false,6,3⟩] [] (.s (.sq (.bj [⟨false,5,23⟩] [] .tt) .tt))))) .tt))) func68 hv
theorem OF {n Q h} (hv:TU prog n Q h):aa prog IL [yH.enc n] (aW) Q h:=
 bP [] .tt func69 hv
theorem Sx {m p i Q h} (hv:OD prog m p i Q h):aa prog OC [(an).enc m,yH.enc p,yH.enc i] (aW) Q h:=
 bP [] .tt func70 hv
theorem zov {m i j Q h} (hv:Oy prog m i j Q h):aa prog zhi [(an).enc m,yH.enc i,yH.enc j] (aW) Q h:=
 bP [] (.s (.sq (.rg (cg 0 18)) .tt)) func71 hv
theorem zzp {c code Q h} (hv:Xw prog c code Q h):bu prog Xm [(Jb).enc c,(af).enc code] (aU) (aW) Q h:=
 show aa prog Xm [(Jb).enc c,(af).enc code] (bC tb [142,4]) (λr=>Q r.1 r.2) h from bP [2,4,6] (.s (.s (.s (.sq (.rg (cg 0 4++ [(4,[0])]++cg 5 3)) .tt)))) func72 hv
theorem zpg {m p Q h} (hv:ziu prog m p Q h):aa prog zir [(an).enc m,yH.enc p] (Jb) Q h:=
 bP [4,5] .tt func73 hv
theorem zwx {s part p Q h} (hv:Wa prog s part p Q h):aa prog zrb [(be).enc s,yH.enc part,yH.enc p] yH Q h:=
 bP [3] (.s (.sq (.s (.bk (.lp [⟨false,7,3⟩] [] (.s (.sq (.bk (.s (.bk (.lp [⟨false,8,3⟩] [] .tt)))) .tt))))) .tt)) func74 hv
theorem znk {s p Q h} (hv:Wb prog s p Q h):aa prog zrc [(be).enc s,yH.enc p] yH Q h:=
 bP [2] (.s (.sq (.s (.bk (.lp [⟨false,5,3⟩] [] (.s (.sq (.bk (.s (.bk (.lp [⟨false,6,3⟩] [] (.s (.sq (.bk (.s (.s (.bk (.lp [⟨false,8,3⟩] [] .tt))))) .tt)))))) .tt))))) .tt)) func75 hv
theorem zmi {x n ak Q h} (hv:VA prog x n ak Q h):aa prog Vi [(aU).enc x,yH.enc n,yH.enc ak] yH Q h:=
 bP [3] .tt func76 hv
theorem IV {l Q h} (hv:MT prog l Q h):kT prog PE [(af).enc l] (an) yH yH Q h:=
 show aa prog PE [(af).enc l] (bC tb [100,42,3]) (λr=>Q r.1 r.2.1 r.2.2) h from bP [] (.s (.s (.s (.sq (.s (.bk (.lp [⟨false,29,3⟩] [] .tt))) .tt)))) func77 hv
theorem zys {a i Q h} (hv:WG prog a i Q h):aa prog zsh [(bn).enc a,yH.enc i] (aW) Q h:=
 bP [5,8] (.s (.s (.sq (.sq (.rg (cg 0 12++ [(12,[9])]++cg 13 12)) .tt) (.s (.sq (.s (.bk (.lp [⟨false,6,2⟩,⟨false,43,3⟩] [8] .tt))) .tt))))) func78 hv
theorem zyt {a p Q h} (hv:WJ prog a p Q h):aa prog zsi [(bn).enc a,yH.enc p] (aW) Q h:=
 bP [2,5,6,10] (.s (.sq (.rg (cg 0 14++ [(14,[8,11]),(15,[])])) (.s (.sq (.bk (.jn [⟨false,28,4⟩] [] .tt (.s (.jn [⟨false,68,4⟩] [] .tt .tt)))) (.s (.sq (.s (.bk (.lp [⟨false,8,4⟩,⟨false,111,3⟩] [10] .tt))) .tt)))))) func79 hv
theorem zwy {a Q h} (hv:Wc prog a Q h):aa prog zrd [(bn).enc a] (aW) Q h:=
 bP [1,5,11,13,15,17] (.s (.s (.sq (.s (.bk (.lp [⟨false,28,3⟩] [5] (.s (.s (.sq (.bk (.s (.s (.bk (.lp [⟨false,36,3⟩] [] (.s (.s (.sq (.bk (.s (.s (.bk (.lp [⟨false,43,3⟩] [] .tt))))) .tt)))))))) .tt)))))) (.sq (.s (.bk (.lp [⟨false,100,3⟩] [11,13,15] (.s (.s (.sq (.bk (.s (.s (.bk (.lp [⟨false,108,3⟩] [13,15] (.s (.s (.sq (.bk (.s (.s (.bk (.lp [⟨false,116,3⟩] [15] .tt))))) .tt)))))))) .tt)))))) (.sq (.s (.bk (.lp [⟨false,173,3⟩] [17] (.s (.s (.sq (.bk (.s (.s (.jn [⟨false,18,3⟩] [] .tt .tt)))) .tt)))))) .tt))))) func80 hv
theorem zvr {l Q h} (hv:MU prog l Q h):bu prog PF [(af).enc l] yH yH Q h:=
 show aa prog PF [(af).enc l] (bC tb [42,3]) (λr=>Q r.1 r.2) h from bP [] (.s (.s (.sq (.s (.bk (.lp [⟨false,4,3⟩] [] (.s (.sq (.bk (.bk (.sq (.rg (cg 0 11)) (.s (.sq (.rg (cg 0 11)) .tt))))) .tt))))) .tt))) func81 hv
theorem IX {n lN Q h} (hv:CA prog n lN Q h):aa prog Cu [yH.enc n,yH.enc lN] yH Q h:=
 bP [] .tt func82 hv
theorem IZ {table parts Q h} (hv:MW prog table parts Q h):kT prog PG [(af).enc table,yH.enc parts] (an) yH yH Q h:=
 show aa prog PG [(af).enc table,yH.enc parts] (bC tb [101,42,3]) (λr=>Q r.1 r.2.1 r.2.2) h from bP [] (.s (.s (.s (.sq (.rg ([(0,[]),(2,[]),(1,[2])]++cg 3 5)) .tt)))) func83 hv
theorem Ua {part n Q h} (hv:zye prog part n Q h):aa prog JB [yH.enc part,yH.enc n] yH Q h:=
 bP [] .tt func84 hv
theorem Ka {n from_ to Q h} (hv:zyf prog n from_ to Q h):aa prog FD [yH.enc n,yH.enc from_,yH.enc to] (aW) Q h:=
 bP [] .tt func85 hv
theorem Sb {c Q h} (hv:ZP prog c Q h):aa prog zze [(aK).enc c] (aK) Q h:=
 bP [1,2,4] (.s (.sq (.rg ([(0,[]),(1,[]),(3,[]),(4,[]),(6,[]),(7,[]),(2,[4,7]),(9,[]),(5,[7]),(8,[])]++cg 10 5)) (.sq (.s (.bk (.lp [⟨false,20,3⟩] [4] (.s (.s (.sq (.bk (.s (.rg (cg 0 5++ [(5,[1])]++cg 6 3)))) .tt)))))) .tt))) func86 hv
theorem WV {av ah Q h} (hv:CB prog av ah Q h):bu prog PH [(af).enc av,(af).enc ah] (an) yH Q h:=
 show aa prog PH [(af).enc av,(af).enc ah] (bC tb [108,42]) (λr=>Q r.1 r.2) h from bP [] (.s (.s (.s (.s (.sq (.s (.bk (.lp [⟨false,30,3⟩] [] (.s (.s (.sq (.bk (.s (.s (.s (.s (.bk (.lp [⟨false,65,3⟩] [] (.s (.s (.sq (.bk (.s (.s (.rg (cg 0 14++ [(14,[3,8,12]),(15,[3])]++cg 16 3))))) .tt)))))))))) .tt)))))) .tt))))) func87 hv
theorem WY {Q h} (hv:PI prog  Q h):aa prog Cw [] (an) Q h:=
 bP [] .tt func88 hv
theorem YM {room l ag Q h} (hv:C6 prog room l ag Q h):bu prog yF [yH.enc room,(af).enc l,yH.enc ag] (an) yH Q h:=
 show aa prog yF [yH.enc room,(af).enc l,yH.enc ag] (bC tb [120,42]) (λr=>Q r.1 r.2) h from bP [10] (.s (.s (.s (.sq (.s (.bk (.lp [⟨false,44,3⟩] [10] .tt))) .tt)))) func89 hv
theorem WU {w dI due Q h} (hv:O5 prog w dI due Q h):aa prog xH [(an).enc w,yH.enc dI,yH.enc due] yH Q h:=
 bP [7] (.s (.s (.s (.s (.sq (.rg (cg 0 11)) (.sq (.rg (cg 0 7++ [(7,[4])]++cg 8 4)) (.sq (.rg (cg 0 7)) .tt))))))) func90 hv
theorem zui {x count Q h} (hv:UE prog x count Q h):aa prog tV [(af).enc x,yH.enc count] (af) Q h:=
 bP [] (.s (.jn [] [] .tt (.s (.jn [] [] .tt (.s (.s (.sq (.bk (.lp [⟨false,8,3⟩] [] (.s (.bk (.rg (cg 0 10)))))) .tt))))))) func91 hv
theorem zsn {l Q h} (hv:Zt prog l Q h):aa prog Zk [(an).enc l] (bD) Q h:=
 bP [2] (.s (.sq (.rg (cg 0 4++cg 5 4++cg 10 8++ [(4,[8,13,17]),(9,[13,17]),(18,[]),(19,[])])) .tt)) func92 hv
theorem Ri {w now Q h} (hv:O6 prog w now Q h):aa prog zwl [(an).enc w,yH.enc now] (af) Q h:=
 bP [] (.s (.s (.sq (.bk (.lp [⟨false,5,23⟩] [] .tt)) .tt))) func93 hv
theorem TL {m p c Q h} (hv:VC prog m p c Q h):bA prog Ji [(an).enc m,(an).enc p,(fh).enc c] (Q) h:=
 show aa prog Ji [(an).enc m,(an).enc p,(fh).enc c] (bC tb []) (λ_=>Q) h from bP [5] (.s (.rg (cg 0 5++ [(5,[2])]++cg 6 3))) func94 hv
theorem Dq {c Q h} (hv:C7 prog c Q h):aa prog xL [(fh).enc c] (fh) Q h:=
 bP [1,2] .tt func95 hv
theorem YO {c l tick self Q h} (hv:C8 prog c l tick self Q h):bu prog CY [(fh).enc c,(af).enc l,yH.enc tick,yH.enc self] (fh) (D7) Q h:=
 show aa prog CY [(fh).enc c,(af).enc l,yH.enc tick,yH.enc self] (bC tb [119,188]) (λr=>Q r.1 r.2) h from bP [8,9,10,12,15] (.s (.s (.s (.sq (.s (.s (.sq (.sq (.s (.sq (.sq (.rg ([(0,[]),(1,[]),(2,[1]),(3,[])])) .tt) .tt)) (.sq (.rg ([(0,[]),(2,[]),(1,[2]),(3,[2]),(4,[])])) .tt)) .tt))) (.s (.s (.sq (.s (.bj [⟨true,8,119⟩,⟨true,9,188⟩] [8,9] (.s (.s (.s (.sq (.rg (cg 0 7)) (.s (.s (.s (.s (.s (.s (.s (.s (.sq (.rg (cg 0 16)) (.jn [⟨false,16,2⟩] [] (.s (.sq (.rg (cg 0 15)) .tt)) .tt)))))))))))))))) .tt))))))) func96 hv
theorem zuj {m p to v Q h} (hv:UG prog m p to v Q h):bA prog Uj [(an).enc m,(an).enc p,yH.enc to,yH.enc v] (Q) h:=
 show aa prog Uj [(an).enc m,(an).enc p,yH.enc to,yH.enc v] (bC tb []) (λ_=>Q) h from bP [] (.s (.s (.bk (.sq (.rg (cg 0 15)) (.sq (.sq (.rg (cg 0 23++ [(23,[3,7,9])]++cg 24 3)) .tt) (.sq (.rg (cg 0 10)) (.s (.jn [] [] (.sq (.rg (cg 0 19)) (.sq (.rg (cg 0 9)) .tt)) .tt)))))))) func97 hv
theorem zll {m p try_ Q h} (hv:UI prog m p try_ Q h):bA prog Um [(an).enc m,(an).enc p,(aW).enc try_] (Q) h:=
 show aa prog Um [(an).enc m,(an).enc p,(aW).enc try_] (bC tb []) (λ_=>Q) h from bP [8] (.s (.bk (.s (.sq (.sq (.rg (cg 0 15)) (.s (.sq (.rg (cg 0 10)) .tt))) (.s (.sq (.s (.rg (cg 0 13))) (.s (.sq (.rg (cg 0 13)) .tt)))))))) func98 hv
theorem Jn {w dI Q h} (hv:OZ prog w dI Q h):aa prog Co [(an).enc w,yH.enc dI] (aW) Q h:=
 bP [5,8] (.s (.s (.s (.sq (.s (.bk (.lp [⟨false,25,3⟩] [8] .tt))) .tt)))) func99 hv
theorem QF {l n p Q h} (hv:Yn prog l n p Q h):bu prog O0 [(an).enc l,yH.enc n,yH.enc p] (aW) yH Q h:=
 show aa prog O0 [(an).enc l,yH.enc n,yH.enc p] (bC tb [4,42]) (λr=>Q r.1 r.2) h from bP [] (.s (.s (.s (.s (.jn [] [] .tt .tt))))) func100 hv
theorem zjy {s v Q h} (hv:TC prog s v Q h):aa prog OH [(af).enc s,yH.enc v] (aW) Q h:=
 bP [] .tt func101 hv
theorem zpr {l p Q h} (hv:Xy prog l p Q h):aa prog OV [(an).enc l,yH.enc p] (af) Q h:=
 bP [7] (.s (.s (.sq (.s (.bk (.lp [⟨false,5,23⟩,⟨false,13,3⟩] [7] (.s (.s (.sq (.bj [⟨false,5,23⟩] [7] .tt) .tt)))))) .tt))) func102 hv
theorem zrg {l n p Q h} (hv:Yp prog l n p Q h):bu prog JR [(an).enc l,yH.enc n,yH.enc p] yH yH Q h:=
 show aa prog JR [(an).enc l,yH.enc n,yH.enc p] (bC tb [3,42]) (λr=>Q r.1 r.2) h from bP [] (.s (.s (.s (.sq (.bk (.s (.s (.s (.s (.s (.rg (cg 0 19)))))))) .tt)))) func103 hv
theorem Tq {m kS Q h} (hv:UL prog m kS Q h):bA prog Ch [(an).enc m,yH.enc kS] (Q) h:=
 show aa prog Ch [(an).enc m,yH.enc kS] (bC tb []) (λ_=>Q) h from bP [] (.s (.sq (.rg (cg 0 18++ [(18,[4,7]),(19,[])])) .tt)) func104 hv
theorem zwz {n Q h} (hv:zvg prog n Q h):aa prog Pk [yH.enc n] yH Q h:=
 bP [] .tt func105 hv
theorem Fz {state Q h} (hv:KN prog state Q h):aa prog CS [yH.enc state] (aW) Q h:=
 bP [] .tt func106 hv
theorem WX {p n Q h} (hv:Zu prog p n Q h):aa prog O3 [(an).enc p,yH.enc n] (aW) Q h:=
 bP [] .tt func107 hv
theorem SL {l v Q h} (hv:ztp prog l v Q h):aa prog zzz [(an).enc l,yH.enc v] yH Q h:=
 bP [] .tt func108 hv
theorem Sc {l Q h} (hv:ZQ prog l Q h):bA prog ZJ [(an).enc l] (Q) h:=
 show aa prog ZJ [(an).enc l] (bC tb []) (λ_=>Q) h from bP [] .tt func109 hv
theorem Rj {p proc Q h} (hv:Zv prog p proc Q h):aa prog Zm [(an).enc p,yH.enc proc] (aW) Q h:=
 bP [] (.s (.s (.sq (.s (.bk (.lp [⟨false,5,4⟩,⟨false,13,3⟩] [] (.s (.s (.sq (.bj [⟨false,5,4⟩] [] .tt) .tt)))))) .tt))) func110 hv
theorem Rk {l p Q h} (hv:Zw prog l p Q h):aa prog zwm [(an).enc l,yH.enc p] (af) Q h:=
 bP [] (.s (.sq (.s (.bk (.lp [⟨false,17,3⟩] [] (.s (.s (.sq (.bj [] [] (.s (.s (.s (.sq (.rg (cg 0 16++ [(16,[3])]++cg 17 3)) .tt))))) .tt)))))) (.s (.sq (.s (.bk (.lp [⟨false,7,199⟩,⟨false,56,3⟩] [] .tt))) .tt)))) func111 hv
theorem SN {p Q h} (hv:ztq prog p Q h):aa prog Iu [(an).enc p] (af) Q h:=
 bP [] (.s (.s (.sq (.s (.bk (.lp [⟨false,3,93⟩,⟨false,11,3⟩] [] .tt))) .tt))) func112 hv
theorem Cb {m p reply Q h} (hv:TF prog m p reply Q h):bA prog xG [(an).enc m,(an).enc p,yH.enc reply] (Q) h:=
 show aa prog xG [(an).enc m,(an).enc p,yH.enc reply] (bC tb []) (λ_=>Q) h from bP [] (.rg (cg 0 13)) func113 hv
theorem IA {x n ak Q h} (hv:B5 prog x n ak Q h):aa prog BZ [(aU).enc x,yH.enc n,yH.enc ak] yH Q h:=
 bP [3] .tt func114 hv
theorem Sz {data a b limit Q h} (hv:OE prog data a b limit Q h):bA prog Cc [(af).enc data,yH.enc a,yH.enc b,yH.enc limit] (Q) h:=
 show aa prog Cc [(af).enc data,yH.enc a,yH.enc b,yH.enc limit] (bC tb []) (λ_=>Q) h from bP [] (.s (.s (.bk (.lp [⟨false,1,3⟩,⟨false,2,3⟩,⟨false,3,3⟩,⟨false,8,4⟩,⟨false,9,4⟩] [] (.bj [⟨false,1,3⟩,⟨false,2,3⟩,⟨false,3,3⟩,⟨false,8,4⟩,⟨false,9,4⟩] [] (.s (.s (.s (.jn [⟨false,3,3⟩] [] .tt (.s (.jn [⟨false,11,3⟩,⟨false,12,256⟩] [] .tt (.jn [] [] .tt (.sq (.sq (.rg (cg 0 15)) .tt) .tt))))))))))))) func119 hv
theorem zuz {x Q h} (hv:ztr prog x Q h):aa prog Z6 [(ab .u64).enc x] yH Q h:=
 bP [] .tt func120 hv
theorem zow {m p Q h} (hv:Ss prog m p Q h):aa prog zhj [(an).enc m,yH.enc p] (aW) Q h:=
 bP [] .tt func121 hv
theorem zvs {a b Q h} (hv:VE prog a b Q h):aa prog zpo [(ab .u64).enc a,(ab .u64).enc b] (aW) Q h:=
 bP [] (.s (.sq (.s (.bk (.lp [⟨false,5,3⟩] [] .tt))) .tt)) func122 hv
theorem zvt {x n ak Q h} (hv:VG prog x n ak Q h):bu prog Vk [(aU).enc x,yH.enc n,yH.enc ak] yH yH Q h:=
 show aa prog Vk [(aU).enc x,yH.enc n,yH.enc ak] (bC tb [42,3]) (λr=>Q r.1 r.2) h from bP [3] .tt func123 hv
theorem zhf {s Q h} (hv:OB prog s Q h):aa prog SS [(af).enc s] (af) Q h:=
 bP [] .tt func124 hv
theorem zyu {a i Q h} (hv:WM prog a i Q h):aa prog zsj [(bn).enc a,yH.enc i] yH Q h:=
 bP [2,7] (.s (.s (.sq (.s (.bk (.lp [⟨false,5,3⟩,⟨false,12,3⟩] [7] (.s (.s (.sq (.bj [⟨false,5,3⟩] [7] .tt) .tt)))))) .tt))) func125 hv
theorem OP {a p i Q h} (hv:Yr prog a p i Q h):aa prog JS [(bn).enc a,yH.enc p,yH.enc i] (aW) Q h:=
 bP [3] .tt func126 hv
theorem O1 {n Q h} (hv:zts prog n Q h):aa prog Ky [yH.enc n] (aW) Q h:=
 bP [] .tt func127 hv
theorem zph {s f Q h} (hv:ziv prog s f Q h):aa prog zis [(af).enc s,(jV).enc f] (aW) Q h:=
 bP [] .tt func128 hv
theorem zvu {p a1 a2 Q h} (hv:VI prog p a1 a2 Q h):aa prog ON [yH.enc p,.pointer (some a1),.pointer (some a2)] (aW) Q h:=
 bP [] .tt func129 hv
theorem zps {t i j Q h} (hv:XA prog t i j Q h):aa prog Xo [(an).enc t,yH.enc i,yH.enc j] (aW) Q h:=
 bP [] (.s (.sq (.rg (cg 0 26)) .tt)) func130 hv
theorem OQ {a p Q h} (hv:Yt prog a p Q h):aa prog JT [(bn).enc a,yH.enc p] yH Q h:=
 bP [2] .tt func131 hv
theorem VM {a p Q h} (hv:XC prog a p Q h):aa prog OW [(bn).enc a,yH.enc p] (aU) Q h:=
 bP [2,4] (.s (.sq (.rg (cg 0 16)) .tt)) func132 hv
theorem zxa {a w r Q h} (hv:Wd prog a w r Q h):aa prog zre [(bn).enc a,(aF).enc w,yH.enc r] (aW) Q h:=
 bP [3,4,7,8] (.s (.sq (.rg (cg 0 10++ [(11,[]),(12,[]),(10,[2,4,6]),(13,[]),(14,[])])) (.sq (.rg (cg 0 28)) .tt))) func133 hv
theorem SI {s f Q h} (hv:Tj prog s f Q h):aa prog Te [(af).enc s,(jV).enc f] yH Q h:=
 bP [] (.s (.sq (.s (.bk (.lp [⟨false,8,3⟩] [] .tt))) .tt)) func134 hv
theorem zzi {p a1 Q h} (hv:zyh prog p a1 Q h):aa prog LN [yH.enc p,.pointer (some a1)] (aW) Q h:=
 bP [] .tt func135 hv
theorem znd {s Q h} (hv:zgv prog s Q h):aa prog zgt [(af).enc s] (af) Q h:=
 bP [] .tt func136 hv
theorem zox {s Q h} (hv:zhl prog s Q h):aa prog zhk [(af).enc s] (af) Q h:=
 bP [] .tt func137 hv
theorem zpt {l p Q h} (hv:XE prog l p Q h):bu prog OX [(an).enc l,yH.enc p] yH (aW) Q h:=
 show aa prog OX [(an).enc l,yH.enc p] (bC tb [3,4]) (λr=>Q r.1 r.2) h from bP [7] (.s (.sq (.s (.bk (.lp [⟨false,13,3⟩] [7] .tt))) .tt)) func138 hv
theorem YQ {room s Q h} (hv:C9 prog room s Q h):bu prog C0 [yH.enc room,(bD).enc s] (an) yH Q h:=
 show aa prog C0 [yH.enc room,(bD).enc s] (bC tb [173,42]) (λr=>Q r.1 r.2) h from bP [3] (.s (.s (.s (.s (.sq (.rg (cg 0 4++ [(5,[]),(6,[]),(4,[6])]++cg 7 7)) (.sq (.rg (cg 0 8++ [(8,[5])]++cg 9 3)) .tt)))))) func139 hv
theorem zcu {x target cmp Q h} (hv:QJ prog x target cmp Q h):bu prog Ow [(af).enc x,(aX).enc target,(jV).enc cmp] yH (aW) Q h:=
 show aa prog Ow [(af).enc x,(aX).enc target,(jV).enc cmp] (bC tb [3,4]) (λr=>Q r.1 r.2) h from bP [4] (.s (.s (.s (.sq (.bk (.lp [⟨false,9,3⟩,⟨false,10,3⟩] [] (.s (.bj [⟨false,9,3⟩,⟨false,10,3⟩] [] (.s (.sq (.rg (cg 0 8)) .tt)))))) (.sq (.rg (cg 0 16)) .tt))))) func140 hv
theorem zzj {a b Q h} (hv:zyi prog a b Q h):aa prog LO [(aX).enc a,(aX).enc b] yH Q h:=
 bP [2,3] (.s (.sq (.rg (cg 0 4++cg 5 4++ [(4,[6,8])]++cg 9 4)) .tt)) func141 hv
theorem zix {s i v Q h} (hv:zek prog s i v Q h):aa prog Rd [(af).enc s,yH.enc i,(af).enc v] (af) Q h:=
 bP [] (.s (.s (.s (.s (.s (.s (.sq (.s (.sq (.s (.s (.sq (.rg (cg 0 9)) .tt))) .tt)) (.s (.sq (.s (.sq (.sq (.rg (cg 0 9)) .tt) .tt)) .tt))))))))) func142 hv
theorem SO {x y Q h} (hv:Ix prog x y Q h):bu prog Z7 [(ab .u64).enc x,(ab .u64).enc y] (ab .u64) (ab .u64) Q h:=
 show aa prog Z7 [(ab .u64).enc x,(ab .u64).enc y] (bC tb [205,205]) (λr=>Q r.1 r.2) h from bP [] .tt func143 hv
theorem ziy {s Q h} (hv:Tl prog s Q h):aa prog Tg [(af).enc s] (af) Q h:=
 bP [] .tt func144 hv
theorem zeo {s Q h} (hv:Ru prog s Q h):aa prog Ro [(af).enc s] (af) Q h:=
 bP [] .tt func145 hv
theorem CG {c l Q h} (hv:Et prog c l Q h):bu prog wR [(fh).enc c,(af).enc l] (aU) (aW) Q h:=
 show aa prog wR [(fh).enc c,(af).enc l] (bC tb [142,4]) (λr=>Q r.1 r.2) h from bP [2,4] .tt func146 hv
theorem W1 {x r Q h} (hv:CC prog x r Q h):kT prog Cx [(aU).enc x,(xK).enc r] (D7) (aW) (aW) Q h:=
 show aa prog Cx [(aU).enc x,(xK).enc r] (bC tb [188,4,4]) (λr=>Q r.1 r.2.1 r.2.2) h from bP [2,3,4] (.s (.sq (.s (.bk (.s (.s (.s (.sq (.sq (.rg (cg 0 12)) .tt) .tt)))))) .tt)) func147 hv
theorem A7 {c reg v Q h} (hv:zvh prog c reg v Q h):bA prog wL [(an).enc c,yH.enc reg,yH.enc v] (Q) h:=
 show aa prog wL [(an).enc c,yH.enc reg,yH.enc v] (bC tb []) (λ_=>Q) h from bP [] .tt func148 hv
theorem aay {op b c Q h} (hv:Eu prog op b c Q h):bu prog Ep [yH.enc op,yH.enc b,yH.enc c] yH yH Q h:=
 show aa prog Ep [yH.enc op,yH.enc b,yH.enc c] (bC tb [2,42]) (λr=>Q r.1 r.2) h from bP [] .tt func149 hv
theorem aaz {op b c Q h} (hv:Ev prog op b c Q h):bu prog Er [yH.enc op,yH.enc b,yH.enc c] yH yH Q h:=
 show aa prog Er [yH.enc op,yH.enc b,yH.enc c] (bC tb [2,42]) (λr=>Q r.1 r.2) h from bP [] .tt func150 hv
theorem ztz {m p q v Q h} (hv:TX prog m p q v Q h):bA prog TT [(an).enc m,(an).enc p,(an).enc q,yH.enc v] (Q) h:=
 show aa prog TT [(an).enc m,(an).enc p,(an).enc q,yH.enc v] (bC tb []) (λ_=>Q) h from bP [] (.bk (.s (.s (.sq (.rg (cg 0 12)) (.sq (.sq (.rg (cg 0 14)) .tt) .tt))))) func151 hv
theorem zyv {c code v from_ Q h} (hv:Da prog c code v from_ Q h):aa prog yG [(fh).enc c,(af).enc code,yH.enc v,yH.enc from_] (fh) Q h:=
 bP [8,9] (.s (.jn [] [9] .tt .tt)) func153 hv
theorem ziz {s i j Q h} (hv:zel prog s i j Q h):aa prog zeh [(af).enc s,yH.enc i,yH.enc j] (af) Q h:=
 bP [] (.s (.s (.s (.s (.sq (.rg (cg 0 8)) .tt))))) func154 hv
theorem zpu {l n p Q h} (hv:XG prog l n p Q h):aa prog Xq [(an).enc l,yH.enc n,yH.enc p] yH Q h:=
 bP [] .tt func155 hv
theorem zua {l Q h} (hv:ZR prog l Q h):aa prog ZL [(an).enc l] (aW) Q h:=
 bP [] (.s (.sq (.rg (cg 0 11)) .tt)) func156 hv
theorem I0 {n Q h} (hv:CD prog n Q h):aa prog Cy [yH.enc n] yH Q h:=
 bP [] .tt func157 hv
theorem Rm {l p Q h} (hv:Zy prog l p Q h):aa prog zwn [(an).enc l,yH.enc p] (aW) Q h:=
 bP [] .tt func158 hv
theorem zuk {s i j Q h} (hv:UN prog s i j Q h):aa prog zof [(af).enc s,yH.enc i,yH.enc j] (af) Q h:=
 bP [] (.s (.s (.s (.s (.sq (.rg (cg 0 8)) .tt))))) func159 hv
theorem SQ {l Q h} (hv:ztt prog l Q h):aa prog Iv [(an).enc l] (af) Q h:=
 bP [] (.s (.sq (.rg (cg 0 16)) .tt)) func160 hv
theorem YS {c code reply Q h} (hv:Db prog c code reply Q h):aa prog Ly [(fh).enc c,(af).enc code,yH.enc reply] (fh) Q h:=
 bP [6,7] (.s (.jn [] [7] .tt .tt)) func161 hv
theorem V5 {x n ak Q h} (hv:B6 prog x n ak Q h):bu prog B0 [(aU).enc x,yH.enc n,yH.enc ak] yH yH Q h:=
 show aa prog B0 [(aU).enc x,yH.enc n,yH.enc ak] (bC tb [42,3]) (λr=>Q r.1 r.2) h from bP [3] .tt func162 hv
theorem zfh {data a b Q h} (hv:RY prog data a b Q h):bA prog RU [(af).enc data,yH.enc a,yH.enc b] (Q) h:=
 show aa prog RU [(af).enc data,yH.enc a,yH.enc b] (bC tb []) (λ_=>Q) h from bP [] (.s (.bk (.lp [⟨false,6,3⟩] [] (.s (.sq (.bk (.s (.bk (.lp [⟨false,7,3⟩] [] (.sq (.sq (.rg (cg 0 15)) .tt) (.sq (.bk (.rg (cg 0 18))) .tt)))))) .tt))))) func163 hv
theorem zqp {data a b Q h} (hv:SY prog data a b Q h):bA prog SW [(af).enc data,yH.enc a,yH.enc b] (Q) h:=
 show aa prog SW [(af).enc data,yH.enc a,yH.enc b] (bC tb []) (λ_=>Q) h from bP [] (.s (.s (.s (.sq (.s (.bk (.lp [⟨false,9,3⟩] [] .tt))) (.s (.bk (.lp [⟨false,10,3⟩] [] (.s (.sq (.bk (.sq (.rg (cg 0 20)) .tt)) .tt))))))))) func164 hv
theorem zmj {data a b Q h} (hv:R0 prog data a b Q h):bA prog RW [(af).enc data,yH.enc a,yH.enc b] (Q) h:=
 show aa prog RW [(af).enc data,yH.enc a,yH.enc b] (bC tb []) (λ_=>Q) h from bP [] (.s (.s (.sq (.s (.s (.s (.bk (.lp [⟨false,9,3⟩] [] (.s (.sq (.bk (.s (.jn [⟨false,10,3⟩] [] .tt (.rg (cg 0 20))))) .tt))))))) .tt))) func165 hv
theorem znn {data a b Q h} (hv:Sm prog data a b Q h):bu prog Si [(af).enc data,yH.enc a,yH.enc b] yH yH Q h:=
 show aa prog Si [(af).enc data,yH.enc a,yH.enc b] (bC tb [3,256]) (λr=>Q r.1 r.2) h from bP [] (.s (.s (.s (.s (.s (.s (.sq (.s (.sq (.jn [⟨false,10,3⟩,⟨false,11,3⟩,⟨false,12,3⟩] [] .tt .tt) .tt)) .tt))))))) func166 hv
theorem zne {data a b Q h} (hv:R5 prog data a b Q h):bA prog R2 [(af).enc data,yH.enc a,yH.enc b] (Q) h:=
 show aa prog R2 [(af).enc data,yH.enc a,yH.enc b] (bC tb []) (λ_=>Q) h from bP [] (.s (.s (.bk (.lp [⟨false,6,3⟩,⟨false,7,3⟩] [] (.s (.bk (.sq (.rg (cg 0 16)) .tt))))))) func167 hv
theorem zil {data a b Q h} (hv:Q9 prog data a b Q h):aa prog zeb [(af).enc data,yH.enc a,yH.enc b] (aW) Q h:=
 bP [] (.s (.s (.sq (.s (.bk (.lp [⟨false,7,3⟩,⟨false,8,3⟩] [] (.s (.sq (.bj [⟨false,7,3⟩] [] (.sq (.bk (.lp [⟨false,7,3⟩] [] (.sq (.sq (.rg (cg 0 16)) .tt) .tt))) (.s (.s (.sq (.rg (cg 0 18)) (.jn [] [] (.s (.sq (.s (.bj [] [] (.lp [⟨false,9,3⟩] [] (.s (.sq (.bk (.sq (.sq (.rg (cg 0 11)) .tt) (.rg (cg 0 18)))) .tt))))) .tt)) (.s (.sq (.s (.bj [] [] (.lp [⟨false,10,3⟩] [] (.s (.sq (.bk (.sq (.sq (.rg (cg 0 11)) .tt) (.rg (cg 0 18)))) .tt))))) .tt)))))))) .tt))))) .tt))) func168 hv
theorem u9 {x y Q h} (hv:zvi prog x y Q h):aa prog ot [yH.enc x,yH.enc y] (aW) Q h:=
 bP [] .tt func169 hv
theorem zmb {data a b pivot Q h} (hv:RI prog data a b pivot Q h):aa prog RG [(af).enc data,yH.enc a,yH.enc b,yH.enc pivot] yH Q h:=
 bP [] (.s (.sq (.rg (cg 0 16)) (.s (.sq (.bk (.lp [⟨false,9,3⟩,⟨false,10,3⟩] [] (.bk (.sq (.bk (.lp [⟨false,9,3⟩] [] (.sq (.sq (.rg (cg 0 15)) .tt) .tt))) (.sq (.bk (.lp [⟨false,10,3⟩] [] (.sq (.sq (.rg (cg 0 14)) .tt) .tt))) (.s (.sq (.rg (cg 0 16)) .tt))))))) .tt)))) func170 hv
theorem zpi {data a b pivot Q h} (hv:SG prog data a b pivot Q h):bu prog Oz [(af).enc data,yH.enc a,yH.enc b,yH.enc pivot] yH (aW) Q h:=
 show aa prog Oz [(af).enc data,yH.enc a,yH.enc b,yH.enc pivot] (bC tb [3,4]) (λr=>Q r.1 r.2) h from bP [] (.s (.sq (.rg (cg 0 16)) (.s (.sq (.bk (.lp [⟨false,10,3⟩] [] (.sq (.sq (.rg (cg 0 14)) .tt) .tt))) (.sq (.bk (.lp [⟨false,11,3⟩] [] (.sq (.sq (.rg (cg 0 15)) .tt) .tt))) (.sq (.s (.sq (.sq (.rg (cg 0 16)) .tt) .tt)) (.sq (.rg (cg 0 16)) (.s (.s (.sq (.bk (.lp [⟨false,10,3⟩,⟨false,11,3⟩] [] (.bk (.sq (.bk (.lp [⟨false,10,3⟩] [] (.sq (.sq (.rg (cg 0 14)) .tt) .tt))) (.sq (.bk (.lp [⟨false,11,3⟩] [] (.sq (.sq (.rg (cg 0 15)) .tt) .tt))) (.s (.sq (.rg (cg 0 16)) .tt))))))) (.sq (.rg (cg 0 16)) .tt))))))))))) func171 hv
theorem Rp {x Q h} (hv:Zz prog x Q h):aa prog zwo [(ab .u64).enc x] yH Q h:=
 bP [] (.s (.jn [⟨false,0,149⟩,⟨false,2,3⟩] [] .tt (.jn [⟨false,0,149⟩,⟨false,2,3⟩] [] .tt .tt))) func173 hv
theorem zoy {a n Q h} (hv:WQ prog a n Q h):aa prog Wr [(ab .u64).enc a,yH.enc n] (aW) Q h:=
 bP [] .tt func174 hv
theorem zul {op Q h} (hv:UP prog op Q h):pI prog Ut [yH.enc op] (aW) (aW) (aW) (aW) Q h:=
 show aa prog Ut [yH.enc op] (bC tb [4,4,4,4]) (λr=>Q r.1 r.2.1 r.2.2.1 r.2.2.2) h from bP [] (.s (.sq (.s (.bk (.s (.s (.jn [⟨false,9,4⟩] [] .tt (.s (.jn [⟨false,15,4⟩] [] .tt (.s (.jn [⟨false,28,4⟩] [] .tt (.s (.jn [⟨false,35,4⟩] [] .tt (.s (.s (.s (.jn [⟨false,41,4⟩] [] .tt .tt))))))))))))))) .tt)) func175 hv
theorem S1 {n has Q h} (hv:TH prog n has Q h):aa prog OI [yH.enc n,(aW).enc has] yH Q h:=
 bP [] .tt func176 hv
theorem zub {t i Q h} (hv:ZS prog t i Q h):aa prog ZM [(an).enc t,yH.enc i] (aW) Q h:=
 bP [] .tt func177 hv
theorem Uc {a b Q h} (hv:zyj prog a b Q h):aa prog JD [(ab .u64).enc a,(ab .u64).enc b] (aW) Q h:=
 bP [] .tt func178 hv
theorem YU {room Q h} (hv:Dc prog room Q h):bu prog C2 [yH.enc room] (an) yH Q h:=
 show aa prog C2 [yH.enc room] (bC tb [173,42]) (λr=>Q r.1 r.2) h from bP [] .tt func179 hv
theorem ZW {n from_ to Q h} (hv:Pp prog n from_ to Q h):aa prog Pn [yH.enc n,yH.enc from_,yH.enc to] (aW) Q h:=
 bP [] .tt func180 hv
end Lf
