/-
  Part 6 of the texts that the claim leans on.
-/
import Derived.Test.YtfbhggigncmcfaaGreatMgTpTop4
set_option maxRecDepth 100000
namespace Lf
open Go Go.Proofs Tryz
section
variable {c:aE} {s:MS} {t:fT}
theorem Vm {i:Nat} (a:i<nP c):(bN (s.list c)).part i=s.part i:=by show ((List.range (nP c)).map s.part).getD i lP=_;grind
theorem IU {i:Nat} (a:i<nQ c):(bN (s.list c)).proc i=s.proc i:=by show ((List.range (nQ c)).map s.proc).getD i oX=_;grind
theorem ZI :(s.list c).parts.length=nP c:=by show ((List.range (nP c)).map _).length=_;simp
theorem ZJ :(s.list c).procs.length=nQ c:=by show ((List.range (nQ c)).map _).length=_;simp
theorem CL {K:MK} {pm:Addr} {a:Nat->Nat->Int} (e:K.c=c):aF K pm (bN (s.list c)) a=aF K pm s a:=by
 subst e;unfold aF;have d:dI.first (λi=>qg K i ((bN (s.list K.c)).part i) (a i)) (nP K.c)=dI.first (λi=>qg K i (s.part i) (a i)) (nP K.c):=uq λi b=>by rw [Vm b]
 have f:dI.first (λp=>qi K p ((bN (s.list K.c)).proc p)) (nQ K.c)=dI.first (λp=>qi K p (s.proc p)) (nQ K.c):=uq λi b=>by rw [IU b]
 rw [d,f];rfl
theorem Dn {a:Nat->Nat->Int} (d:eR c a s):eR c a (bN (s.list c)):=λi id b=>by
 rw [d i id b];unfold nU;by_cases h:id / 2<nQ c/\az c (id / 2)=i
 ·rw [if_pos h,if_pos h,IU h.1]
 omega
theorem Vo (g:jZ c (bN t)) (m:cf c) (hp:t.parts.length=nP c) (f:t.procs.length=nQ c):xL t:=by
 have j:=m.parts;have k:=m.procs;refine ⟨by omega,by omega,λx b=> ?_,λx b=> ?_⟩
 ·obtain ⟨i,a⟩:=List.mem_iff_getElem?.1 b;have h:=(List.getElem?_eq_some_iff.1 a).1;have e:(bN t).part i=x:=nT a;have sp:=g.part i (by omega);rw [e] at sp;have:=sp.kG;have:=sp.ij;have:=sp.mR.1;exact ⟨by omega,by omega,by omega,λq f=>by have:=sp.mR.2 q f;omega⟩
 ·obtain ⟨i,a⟩:=List.mem_iff_getElem?.1 b;have h:=(List.getElem?_eq_some_iff.1 a).1;have e:(bN t).proc i=x:=nT a;have sp:=g.proc i (by omega);rw [e] at sp;have:=sp.len;exact ⟨by omega,λl d=>⟨by have:=(sp.dS l d).values;omega,by have:=(sp.dS l d).waiters;omega⟩⟩
end
def FQ (a:MK) (n:Option Addr) (t2:fT) (b:Nat->Nat->Int):dI:=match n with
 | none=>.fact True
 | some p=>aF a p (bN t2) b
structure jX (h k:Hp) (c:aE) (t1 t2:fT) (pm:Addr) (n:Option Addr):Prop where
 ex:∃K tm K2 tm2,K.c=c/\dF h K/\eR c tm (bN t1)/\(n≠none->K2.c=c/\dF h K2/\eR c tm2 (bN t2))/\Has h ((aF K pm (bN t1) tm).star (FQ K2 n t2 tm2)) k
section
variable {h k:Hp} {c:aE} {t1 t2 t:fT} {pm a:Addr} {n:Option Addr}
theorem jX.le (q:jX h k c t1 t2 pm n):h<=k:=by obtain ⟨_,_,_,_,_,_,_,_,o⟩:=q.ex;exact o.le
theorem sA.pair (q:sA k c t pm h):∃b,k<=b/\jX b h c t t pm none:=by obtain ⟨K,d,b,e,mk,l,o,g⟩:=q.ex;exact ⟨b,l,⟨K,d,K,d,e,mk,g,λf=>absurd rfl f,o.beside (Has.fact trivial (Hp.le_refl _))⟩⟩
theorem jX.one (q:jX h k c t1 t2 pm n):∃K f b,K.c=c/\dF b K/\eR c f (bN t1)/\h<=b/\Has b (aF K pm (bN t1) f) k/\∀d g i,Has b (aF K pm d g) i->eR c g d->jX h i c (d.list c) t2 pm n:=by obtain ⟨K,f,l,v,e,mk,s,m,o⟩:=q.ex;obtain ⟨b,j,r,_,put⟩:=o.fst;refine ⟨K,f,b,e,mk.mono j,s,j,r,λd g i p u=>⟨K,g,l,v,e,mk,Dn u,m,?_⟩⟩;rw [CL e];exact put _ _ p
theorem jX.two (q:jX h k c t1 t2 pm (some a)):∃K f b,K.c=c/\dF b K/\eR c f (bN t2)/\h<=b/\Has b (aF K a (bN t2) f) k/\∀d g j,Has b (aF K a d g) j->eR c g d->jX h j c t1 (d.list c) pm (some a):=by obtain ⟨K,f,l,y,e,mk,v,r,o⟩:=q.ex;obtain ⟨i,p,x⟩:=r (by simp);obtain ⟨b,m,u,_,put⟩:=o.snd;refine ⟨l,y,b,i,p.mono m,x,m,u,λd g j s w=>⟨K,f,l,g,e,mk,v,λ_=>⟨i,p,Dn w⟩,?_⟩⟩;unfold FQ;dsimp only;rw [CL i];exact put _ _ s
theorem jX.base {P:Program} {g:FuncId} {args:List Value} {sh:Shape} {K0 K:sh.T->Hp->Prop} (q:jX h k c t1 t2 pm n) (p:aa P g args sh (λx b=>h<=b/\K0 x b) h) (r:∀x b d,h<=b->K0 x b->jX b d c t1 t2 pm n->K x d):aa P g args sh K k:=by obtain ⟨j,v,m,w,e,mk,u,f,o⟩:=q.ex;refine OF o p ?_;rintro x b d ⟨l,h0⟩ s;exact r x b d l h0 ⟨j,v,m,w,e,mk.mono l,u,λi=>⟨(f i).1,(f i).2.1.mono l,(f i).2.2⟩,s⟩
theorem jX.grow {b:Hp} (q:jX h k c t1 t2 pm n) (l:k<=b):jX h b c t1 t2 pm n:=by obtain ⟨d,j,f,m,e,mk,i,g,o⟩:=q.ex;exact ⟨d,j,f,m,e,mk,i,g,o.grow l⟩
theorem jX.alone (q:jX h k c t1 t2 pm n):jX h k c t1 t1 pm none:=by obtain ⟨b,d,i,l,e,mk,g,j,o⟩:=q.ex;exact ⟨b,d,b,d,e,mk,g,λf=>absurd rfl f,(Has.left o).beside (Has.fact trivial (Hp.le_refl _))⟩
theorem QW {s:MS} {p v:Int}:TW (zip c s p v).1=TW s:=by
 unfold zip;split
 ·rfl
 ·split
  ·exact sr rfl
  ·exact Ei rfl
end
section
variable {h k:Hp} {c:aE} {t1 t2 t:fT} {pm a:Addr} {n:Option Addr}
def lR (c:aE) (t:fT):fT:=(jy c fW (iO c) (bN t)).list c
def qM (c:aE) (t:fT) (p v:Int):fT:=(zip c (bN t) p v).1.list c
def mG (c:aE) (t:fT) (p:Int):fT:=(iD c (bN t) p).1.list c
end
section
variable {P:Program} {h:Hp}
theorem rJ {a:Type} {v:a} {A:(a->Hp->Prop)->Prop} {B:a->Hp->Prop} (c:∀k:a->Hp->Prop,k v h->A k) (d:B v h):cQ A B:=cQ.intro (λx b=>x=v/\b=h) (c _ ⟨rfl,rfl⟩) (by grind)
def Cg (op:Int) (k:Bool->Hp->Prop) (h:Hp):List Int->Prop
 | []=>True
 | [a]=>k (op==a) h
 | a::b::r=>if (op==a)=true then k (op==a) h else Cg op k h (b::r)
theorem Fc {op:Int} {k:Bool->Hp->Prop}:∀l:List Int,l≠ []->k (decide (op∈l)) h->Cg op k h l
 | [],d,_=>absurd rfl d
 | [a],_,c=>by
  have:(op==a)=decide (op∈ [a]):=by grind
  show k (op==a) h;grind
 | a::b::r,_,c=>by
  show if (op==a)=true then k (op==a) h else Cg op k h (b::r)
  by_cases e:op=a
  ·grind
  ·rw [if_neg (by simpa using e)];refine Fc (b::r) (by simp) ?_;grind
theorem XE {op:Int} {Q:Bool->Bool->Bool->Bool->Hp->Prop} (a:Q (iM op).1 (iM op).2.1 (iM op).2.2.1 (iM op).2.2.2 h):Tf P op Q h:=by
 unfold Tf;unfold iM at a;by_cases f:op=1
 ·grind
 rw [if_neg f] at a;rw [if_neg (by simpa using f)];refine rJ (h:=h) (v:=decide (op∈ [2,20,21,25,26])) (λk b=>Fc [2,20,21,25,26] (by simp) b) ?_;by_cases g:op∈ [2,20,21,25,26]
 ·grind
 rw [if_neg (λe=>g (of_decide_eq_true e))];rw [if_neg (by simpa using g)] at a;refine rJ (h:=h) (v:=decide (op∈ [3,4,5,6,7,8,9,10,11,12,13,14])) (λk b=>Fc [3,4,5,6,7,8,9,10,11,12,13,14] (by simp) b) ?_;by_cases c:op∈ [3,4,5,6,7,8,9,10,11,12,13,14]
 ·rw [if_pos (decide_eq_true c)];rw [if_pos (Or.inl (by simp at c;omega))] at a;exact a
 rw [if_neg (λe=>c (of_decide_eq_true e))];refine rJ (h:=h) (v:=decide (op∈ [15,16,17,18,19,24])) (λk b=>Fc [15,16,17,18,19,24] (by simp) b) ?_;by_cases d:op∈ [15,16,17,18,19,24]
 ·rw [if_pos (decide_eq_true d)];rw [if_pos (Or.inr (by simp at d;omega))] at a;exact a
 rw [if_neg (λe=>d (of_decide_eq_true e))];rw [if_neg (by simp at c d;omega)] at a;refine rJ (h:=h) (v:=decide (op∈ [22,29,30])) (λk b=>Fc [22,29,30] (by simp) b) ?_;by_cases i:op∈ [22,29,30]
 ·grind
 rw [if_neg (λe=>i (of_decide_eq_true e))];rw [if_neg (by simpa using i)] at a;by_cases j:op=23
 ·grind
 rw [if_neg j] at a;rw [if_neg (by simpa using j)];refine rJ (h:=h) (v:=decide (op∈ [27,28,31,32,33])) (λk b=>Fc [27,28,31,32,33] (by simp) b) ?_;grind
theorem YA {has:Bool} {n:Int} {Q:Int->Hp->Prop} (a:Q (di has n) h):RU P n has Q h:=by
 unfold RU;unfold di at a;refine aJ ?_;by_cases b:has=false/\n≠0
 ·grind
 rw [if_neg b] at a;rw [if_neg (by grind)];refine aJ (aJ ?_);grind
theorem Yy {x:aK} {n ae:Int} {Q:Int->Int->Hp->Prop} (a:Q (jj (bd x) n ae).1 (jj (bd x) n ae).2 h):TP prog x n ae Q h:=by
 obtain ⟨o,A,B,C,I⟩:=x;have a:Q (jj ⟨o,A,B,C,I⟩ n ae).1 (jj ⟨o,A,B,C,I⟩ n ae).2 h:=a;unfold TP;unfold jj at a;refine aJ ?_;by_cases e:o<0\/34<=o
 ·grind
 rw [if_neg e] at a;rw [if_neg (by simp;omega)];refine zso (XE ?_);dsimp only;refine Q0 (YA ?_);by_cases b:di (iM o).1 A≠0
 ·grind
 rw [if_neg b] at a;rw [if_neg (by simpa using b)];refine Q0 (YA ?_);by_cases c:di (iM o).2.1 B≠0
 ·grind
 rw [if_neg c] at a;rw [if_neg (by simpa using c)];refine Q0 (YA ?_);by_cases d:di (iM o).2.2.1 C≠0
 ·grind
 rw [if_neg d] at a;rw [if_neg (by simpa using d)];refine aJ ?_;by_cases f:(iM o).2.2.2=false/\I≠0
 ·grind
 rw [if_neg f] at a;rw [if_neg (by grind)];refine aJ (aJ (aJ ?_));by_cases g:(o=22\/o=23)/\(I<0\/n<I)
 ·grind
 rw [if_neg g] at a;rw [if_neg (by grind)];refine aJ (aJ (aJ ?_));grind
theorem Yz {x:aK} {n ae:Int} {Q:Int->Hp->Prop} (a:Q (jj (bd x) n ae).1 h):TC prog x n ae Q h:=by unfold TC;exact ztw (Yy a)
theorem WL {l:Sl} {a:List aK} {ae:Int} {Q:Int->Int->Hp->Prop} (r:mV h l a) (b:∀at_,Q (jJ (a.map bd) ae).1 at_ h):Vv prog l ae Q h:=by
 unfold Vv;have p:l.len=a.length:=r.1;unfold jJ at b;rw [List.length_map] at b;refine aJ ?_;by_cases f:ae<0\/8<ae
 ·grind
 rw [if_neg f] at b;rw [if_neg (by simp;omega)];by_cases g:256<a.length
 ·grind
 rw [if_neg g] at b;rw [if_neg (by simp;omega)];refine kF (n:=a.length) (by omega) (by omega) (λi e=>e=h/\(ko (a.length:Int) ae ((a.map bd).drop i) i).1=(ko (a.length:Int) ae (a.map bd) 0).1) ⟨rfl,rfl⟩ ?_ ?_
 ·rintro i o k ⟨rfl,c⟩ K m;refine pF (sh:=aV) r λx d=> ?_;have d:a[i]? =some x:=d;have j:(a.map bd).drop i=bd x::(a.map bd).drop (i+1):=Dm (by grind);rw [j,ko] at c;refine ztp (Yz ?_);grind
 ·rintro k ⟨rfl,c⟩;rw [List.drop_of_length_le (by simp),ko] at c;grind
theorem EU {n a b:Int} {Q:Bool->Hp->Prop} (c:Q (within n a b) h):SZ P n a b Q h:=by unfold SZ;exact aJ c
end
section
variable {h:Hp}
theorem XF {l:Sl} {a:List Int} {n:Nat} {Q:Int->Hp->Prop} (r:Is h l a) (t:n<=8) (f:Q (if a=[] then 1 else if 64<a.length then 3 else if (a.all λp=>within p 0 ((n:Int)-1))=false then 2 else 0) h):SX prog l (n:Int) Q h:=by
 unfold SX;have s:l.len=a.length:=r.1;by_cases c:a=[]
 ·grind
 rw [if_neg c] at f;have hp:=List.length_pos_iff.2 c;rw [if_neg (by grind)];by_cases d:64<a.length
 ·grind
 rw [if_neg d] at f;rw [if_neg (λe=>d (by grind))];rw [wrap64 (n:=(n:Int)-1) (by omega) (by omega)];refine kF (n:=a.length) (by omega) (by omega) (λi j=>j=h/\∀x∈a.take i,within x 0 ((n:Int)-1)=true) ⟨rfl,λx b=>by simp at b⟩ ?_ ?_
 ·rintro i q k ⟨rfl,o⟩ K m;refine pF (sh:=af .i64) r λ(x:Int) b=> ?_;have b:a[i]? =some x:=b;refine EJ (EU ?_);by_cases g:within x 0 ((n:Int)-1)=true
  ·rw [if_neg (by rw [g];simp)];refine m k ⟨rfl,λy hy=> ?_⟩;rw [List.take_add_one,b] at hy;rcases List.mem_append.1 hy with hy | hy
   ·exact o y hy
   ·have:y=x:=by simpa using hy
    rw [this];exact g
  grind
 grind
theorem QY {P:Program} {l:Sl} {a:List Int} {Q:Int->Int->Hp->Prop} (r:Us h l a) (b:Q (jF a).1 (jF a).2 h):zqh P l Q h:=Ec (P:=P) r b
theorem Tm (a b c d:Bool) {i:Nat} (e:i<4):List.get?Internal (α:=Value) [.bool a,.bool b,.bool c,.bool d] (0+(i*1))=some (.bool (([a,b,c,d]:List Bool).getD i false)):=by
 match i,e with
 | 0,_=>rfl
 | 1,_=>rfl
 | 2,_=>rfl
 | 3,_=>rfl
theorem ZN {x:an} {c:aE} {Q:Int->Int->Hp->Prop} (a:fo h x c) (b:∀at_,Q (fV c).1 at_ h):Vr prog x Q h:=by
 unfold Vr;have D:x.aN.len=c.labels.length:=a.labels.1;unfold fV sE at b;refine zwl (QY a.labels ?_);dsimp only;by_cases l:(jF c.labels).1≠0
 ·grind
 rw [if_neg l] at b;rw [if_neg (by simpa using l)];obtain ⟨R,C,_⟩:=gU.1 (Classical.not_not.1 l);rw [D];refine zsj (XF a.table C ?_);by_cases v:c.table=[]
 ·grind
 rw [if_neg v] at b ⊢;by_cases w:64<c.table.length
 ·grind
 rw [if_neg w] at b ⊢;by_cases y:(c.table.all λp=>within p 0 (c.labels.length-1))=false
 ·grind
 rw [if_neg y] at b ⊢;rw [lz];refine EJ (EU ⟨⟨trivial,trivial,trivial,trivial⟩,EJ (EU ⟨⟨trivial,trivial,trivial⟩,EJ (EU ⟨⟨trivial,trivial⟩,EJ (EU ?_)⟩)⟩)⟩);rw [a.fuel,a.lane,a.ae,a.log];refine kF (n:=4) rfl (by omega) (λi u=>u=h/\(1<=i->within c.fuel 1 256=true)/\(2<=i->within c.lane 1 64=true)/\(3<=i->within c.ae 0 8=true)/\(4<=i->within c.log 0 4096=true)) ⟨rfl,λe=>by omega,λe=>by omega,λe=>by omega,λe=>by omega⟩ ?_ ?_
 ·rintro i t k ⟨rfl,L,M,N,O⟩ K A;refine ⟨⟨by omega,by omega⟩,_,Tm _ _ _ _ t,?_⟩;grind
 ·rintro k ⟨rfl,L,M,N,O⟩;rw [if_neg (by grind),if_neg (by grind),if_neg (by grind),if_neg (by grind)] at b;obtain ⟨j,m,s⟩:=a.procs;have S:x.aG.len=j.length:=m.1;have T:=s.len;by_cases o:c.procs=[]
  ·grind
  rw [if_neg o] at b;have V:0<c.procs.length:=List.length_pos_iff.2 o;rw [if_neg (by grind)];by_cases r:32<c.procs.length
  ·grind
  rw [if_neg r] at b;rw [if_neg (λe=>r (by grind))];refine kF (n:=j.length) (by omega) (by omega) (λi G=>G=k/\(uz c.labels.length c.ae (c.procs.drop i) i).1=(uz c.labels.length c.ae c.procs 0).1) ⟨rfl,rfl⟩ ?_ ?_
  ·rintro i t H ⟨rfl,d⟩ K A;refine Rw.vJ m (λ_=>rfl) (by omega) (sh:=af .i64) (λq=>q.Part) (λ_=>rfl) (by omega) (by omega) λq g=> ?_;have g:j[i]? =some q:=g;obtain ⟨I,E,F,W,B,U⟩:=s.get g;rw [Dm E,uz] at d;rw [wrap64 (n:=(c.labels.length:Int)-1) (by omega) (by omega)];refine EJ (EU ?_);rw [F];by_cases z:within I.part 0 ((c.labels.length:Int)-1)=false
   ·grind
   rw [if_neg z] at d;rw [if_neg (by grind)];refine Rw.vJ m (λ_=>rfl) (by omega) (sh:=au) (λq=>q.Code) (λ_=>rfl) (by omega) (by omega) λJ f=> ?_;have f:j[i]? =some J:=f;rw [g] at f;cases f;refine zwm (WL B λP=> ?_);grind
  ·rintro H ⟨rfl,d⟩;rw [List.drop_of_length_le (by omega),uz] at d;grind
theorem Ly {a n:Int} {Q:Bool->Hp->Prop} (d:kQ a) (b:0<=n) (c:n<=63) (f:Q (bit a n.toNat) h):VD prog a n Q h:=by
 unfold VD;refine aJ ⟨λ_=>b,aJ ?_⟩;have e:(decide (n>=0)&&decide (n<=63))=true:=by simp;omega
 rw [e,T7 d b c,Bool.true_and];exact f
theorem YB {a b:Int} {Q:Bool->Hp->Prop} (i:kQ a) (hb:kQ b) (r:Q (jr a b) h):TA prog a b Q h:=by
 unfold TA;refine kF (n:=64) rfl (by omega) (λn k=>k=h/\∀m:Nat,m<n->bit a m=true->bit b m=true) ⟨rfl,λm c=>by omega⟩ ?_ ?_
 ·rintro n l k ⟨rfl,d⟩ K g;refine znq (Ly i (by omega) (by omega) ?_);have o:(bit a n=true->bit b n=true)->K (yw ((n:Int)+1)) k:=λq=>g k ⟨rfl,λm c=>by
   grind⟩
  rw [show ((n:Int)).toNat=n from rfl];cases f:bit a n with
  | false=>refine ⟨λe=>(by cases e),λ_=>⟨false,aJ ?_⟩⟩;grind
  | true=>
   refine ⟨λ_=>znq (Ly hb (by omega) (by omega) (aJ ?_)),λe=>(by cases e)⟩;rw [show ((n:Int)).toNat=n from rfl];cases p:bit b n with
   | false=>
    rw [if_pos (by simp)];have:jr a b=false:=by refine Bool.eq_false_iff.2 λj=> ?_;have:=iP.1 j n l f;grind
    grind
   | true=>grind
 ·rintro k ⟨rfl,d⟩;have:jr a b=true:=iP.2 λm c=>d m c;grind
end
section
variable {c:aE} {s:MS} {t:fT}
structure GT (c:aE) (t:fT):Prop where
 iz:Good c (iO c) (bN t) No No t.tick
 parts:t.parts.length=nP c
 procs:t.procs.length=nQ c
theorem GT.of (m:cf c) (g:Good c (iO c) s No No s.tick) (a:s.tick<=4611686018427387904):GT c (s.list c):=
 ⟨IJ m (Good.may m g a) λx b=>by
  obtain ⟨p,hp,rfl⟩:=List.mem_map.1 b;exact (g.proc p (List.mem_range.1 hp)).bw,ZI,ZJ⟩
theorem QZ {D:Int->Int->Int->Int} (m:cf c) {fl:Nat->Nat->Bool} (g:Good c fl s No No s.tick):(jy c D fl s).tick=s.tick+1:=by have b:=(g.rZ (T':=s.tick+1) (by omega)).due (i:=iT c s.tick);obtain ⟨_,a⟩:=Good.turns (D:=D) m (m.jN (t:=s.tick)) c.fuel.toNat b rfl;have a:(mo c D fl (iT c s.tick) c.fuel.toNat (iv c s (iT c s.tick))).tick=s.tick:=a;show (mo c D fl (iT c s.tick) c.fuel.toNat (iv c s (iT c s.tick))).tick+1=_;rw [a]
theorem GT.tick (m:cf c) (g:GT c t) (a:t.tick<4611686018427387904):GT c (lR c t)/\(lR c t).tick=t.tick+1:=by have e:(jy c fW (iO c) (bN t)).tick=t.tick+1:=QZ m g.iz;exact ⟨GT.of m (g.iz.wi m) (by omega),e⟩
theorem GT.inj (m:cf c) (g:GT c t) (a:t.tick<=4611686018427387904) {p v:Int}:GT c (qM c t p v)/\(qM c t p v).tick=t.tick:=by have e:(zip c (bN t) p v).1.tick=t.tick:=XS;exact ⟨GT.of m (by rw [e];exact g.iz.A7) (by omega),e⟩
theorem GT.kill (m:cf c) (g:GT c t) (a:t.tick<=4611686018427387904) {p:Int}:GT c (mG c t p)/\(mG c t p).tick=t.tick:=by have e:(iD c (bN t) p).1.tick=t.tick:=ZU;exact ⟨GT.of m (by rw [e];exact g.iz.kill m) (by omega),e⟩
theorem GT.le (m:cf c) (g:GT c t):xL t:=Vo (g.iz.qU m) m g.parts g.procs
theorem GT.may (m:cf c) (g:GT c t) (a:t.tick<=4611686018427387904):AW c t:=by have:=Good.may m g.iz a;rw [M7 g.parts g.procs] at this;exact (Tl m).2 this
theorem DT (m:cf c):GT c ((qF c).list c)/\((qF c).list c).tick=0:=⟨GT.of m (Good.first m) (by show (0:Int)<=_;decide),rfl⟩
end
section
variable {h k:Hp}
theorem zv {a:Type} {b:Bool} {A:(a->Hp->Prop)->Hp->Prop} {K:a->Hp->Prop} (hb:b=false) (x:a) (c:K x h):cY (some b) A K h:=⟨λe=>(by grind),λ_=>⟨x,c⟩⟩
theorem yT {a:Type} {b:Bool} {A:(a->Hp->Prop)->Hp->Prop} {K:a->Hp->Prop} (hb:b=true) (c:A K h):cY (some b) A K h:=⟨λ_=>c,λe=>(by grind)⟩
end
def jH (c:aE) (a i:Int):Bool:=decide (0<=i)&&decide (i<(nP c:Int))&&jr (c.labels.getD i.toNat 0) a
def gJ (c:aE) (a p:Int):Bool:=decide (0<=p)&&decide (p<(nQ c:Int))&&jH c a (((c.procs[p.toNat]?).map (·.part)).getD 0)
def zT :dv:=⟨0,[],0,0,[],[]⟩
def zU :ak:=⟨0,0,List.replicate 8 0,0,0,false,0,[]⟩
def lS (c:aE) (t:fT) (a:Int):fT:=
 ⟨t.tick,t.parts.mapIdx λi x=>if jH c a (i:Int)=true then x else zT,t.procs.mapIdx λp x=>if gJ c a (p:Int)=true then x else zU⟩
structure n7 (s:fT):Prop where
 parts:s.parts.length<=1000
 procs:s.procs.length<=1000
 log:∀x∈s.parts,x.log.length<=10000/\x.aB.length<=1000/\x.av.length<=1000/\∀q∈x.av,q.length<=1000
 aj:∀x∈s.procs,x.aj.length<=1000/\∀l∈x.aj,l.values.length<=1000/\l.waiters.length<=1000
theorem n7.le {s:fT} (f:n7 s):xL s:=by
 refine ⟨by have:=f.parts;omega,by have:=f.procs;omega,λx b=> ?_,λx b=> ?_⟩
 ·obtain ⟨d,a,h,e⟩:=f.log x b;exact ⟨by omega,by omega,by omega,λq g=>by have:=e q g;omega⟩
 ·obtain ⟨d,a⟩:=f.aj x b;exact ⟨by omega,λl c=>⟨by have:=(a l c).1;omega,by have:=(a l c).2;omega⟩⟩
theorem GT.mR {c:aE} {t:fT} (m:cf c) (g:GT c t):n7 t:=by
 have h:=g.iz.qU m;have hp:=g.parts;have f:=g.procs;have k:=m.parts;have n:=m.procs;refine ⟨by omega,by omega,λx b=> ?_,λx b=> ?_⟩
 ·obtain ⟨i,a⟩:=List.mem_iff_getElem?.1 b;have j:=(List.getElem?_eq_some_iff.1 a).1;have e:(bN t).part i=x:=nT a;have sp:=h.part i (by omega);rw [e] at sp;have:=sp.kG;have:=sp.ij;have:=sp.mR.1;have:=m.log;exact ⟨by omega,by omega,by omega,λq f=>by have:=sp.mR.2 q f;omega⟩
 ·obtain ⟨i,a⟩:=List.mem_iff_getElem?.1 b;have j:=(List.getElem?_eq_some_iff.1 a).1;have e:(bN t).proc i=x:=nT a;have sp:=h.proc i (by omega);rw [e] at sp;have:=sp.len;exact ⟨by omega,λl d=>⟨by have:=(sp.dS l d).values;omega,by have:=(sp.dS l d).waiters;omega⟩⟩
section
variable {h k:Hp} {x:an} {c:aE} {a:Int} {Q:Bool->Hp->Prop}
theorem Tn {g:FuncId} (n:∀ {u v:Int} {Q:Bool->Hp->Prop},kQ u->kQ v->Q (jr u v) h->aa prog g [(.int .u64 u),(.int .u64 v)] bn Q h) {i:Int} (kc:fo h x c) (q:∀l∈c.labels,kQ l) (m:kQ a) (b:Q (jH c a i) h):
 aI ((decide (i>=(0:Int)))&&(decide (i<((x.aN.len:Nat):Int)))) λy=>
 ((y=true->(bF x.aN.base x.aN.len i))/\aR (some y) (af .u64) h (sat x.aN.base 1 i) λz=>
 cY (some y) (aa prog g [(.int .u64 z),(.int .u64 a)] bn) (λr d=>
 aI (y&&r) λt=>
 Q t d) h):=by
  have o:x.aN.len=c.labels.length:=kc.labels.1;have e:(decide (i>=0)&&decide (i<((x.aN.len:Nat):Int)))=(decide (0<=i)&&decide (i<(nP c:Int))):=by rw [o];rfl
  refine aJ ?_;rw [e];unfold jH at b;generalize f:(decide (0<=i)&&decide (i<(nP c:Int)))=y at b;refine Rs.pL (sh:=af .u64) kc.labels (0:Int) (λ_=>rfl) (by decide) (λs=> ?_) λ(l:Int) p=> ?_
  ·rw [s] at f;simp only [Bool.and_eq_true,decide_eq_true_eq] at f;exact ⟨f.1,f.2⟩
  ·cases y with
   | false=>exact zv rfl false (aJ b)
   | true=>
    have d:=p rfl;have j:c.labels.getD i.toNat 0=l:=by rw [List.getD_eq_getElem?_getD,d];rfl
    rw [j] at b;exact yT rfl (n (q l (List.mem_of_getElem? d)) m (aJ b))
theorem Tp {g:FuncId} (B:∀ {i:Int} {Q:Bool->Hp->Prop},Q (jH c a i) h->aa prog g [x.v,(.int .i64 i),(.int .u64 a)] bn Q h) {p:Int} (kc:fo h x c) (b:Q (gJ c a p) h):
 aI ((decide (p>=(0:Int)))&&(decide (p<((x.aG.len:Nat):Int)))) λy=>
 ((y=true->(bF x.aG.base x.aG.len p))/\aR (some y) (af .i64) h (Addr.add (sat x.aG.base 2 p) 0) λz=>
 cY (some y) (aa prog g [x.v,(.int .i64 z),(.int .u64 a)] bn) (λr A=>
 aI (y&&r) λF=>
 Q F A) h):=by
  obtain ⟨m,s,f⟩:=kc.procs;have n:x.aG.len=c.procs.length:=by rw [s.1,f.len]
  have e:(decide (p>=0)&&decide (p<((x.aG.len:Nat):Int)))=(decide (0<=p)&&decide (p<(nQ c:Int))):=by rw [n];rfl
  refine aJ ?_;rw [e];unfold gJ at b;generalize d:(decide (0<=p)&&decide (p<(nQ c:Int)))=y at b;cases y with
  | false=>exact ⟨λe=>(by cases e),(0:Int),λe=>(by cases e),zv rfl false (aJ b)⟩
  | true=>
   simp only [Bool.and_eq_true,decide_eq_true_eq] at d;have o:p.toNat<m.length:=by have:=f.len;unfold nQ at d;omega
   obtain ⟨q,D,E⟩:=f.get (i:=p.toNat) (List.getElem?_eq_getElem o);obtain ⟨u,z,t,C⟩:=Rw.read s (λ_=>rfl) (by decide) d.1 (by rw [n];exact d.2);rw [List.getElem?_eq_getElem o] at t;cases t;have w:m[p.toNat].Part=q.part:=E.1;rw [D] at b;refine ⟨λ_=>u,m[p.toNat].Part,λ_=>λj v l=> ?_,?_⟩
   ·match j,l with
    | 0,l=>exact C 0 v l
   ·rw [w];exact yT rfl (B (aJ b))
end
section
end
section
variable {h0 k:Hp} {r r1:Sl} {x:an} {y:aD} {c:aE} {t:fT} {a:Int}
theorem zxg {b d:Type} {f:Nat->b->d} {l:List b} {i:Nat} {z:b} (h:l[i]? =some z):(l.take (i+1)).mapIdx f=(l.take i).mapIdx f++ [f i z]:=by rw [List.take_add_one,h,List.mapIdx_append,List.length_take,Nat.min_eq_left (by have:=(List.getElem?_eq_some_iff.1 h).1;omega)];simp
theorem Q1 :gA k zX zT:=⟨rfl,⟨[],Rw.nil rfl,rfl⟩,rfl,rfl,Rw.nil rfl,[],Rw.nil rfl,trivial⟩
theorem Q2 :dj k zY zU:=⟨rfl,rfl,rfl,rfl,rfl,rfl,rfl,[],Rw.nil rfl,trivial⟩
end
end Lf
namespace Lf
open Go Go.Proofs Go.ChangeShapes Go.WideShapes Go.ChangeAt Go.RowKit
section
variable {H:Type} {enc:TypeId×Value->H} {W:World}
abbrev qu :aC->List Value:=λx=>bp (bS.enc x)
theorem V8 :lu enc Tryz.prog W 40 λa=>∃x,a=qu x/\(pB x.Kind/\pB x.N/\pB x.V):=λf a y h c=>by have b:=bG.bO 40 Bv rfl;have d:=wZ b h;rw [show Tryz.prog.cellsOf 40=3 by kernel_rfl] at d;obtain ⟨a0,g,l⟩:=pA b h c (i:=0) (off:=0) rfl rfl kn li;obtain ⟨a1,j,n⟩:=pA b h c (i:=1) (off:=1) rfl rfl kn li;obtain ⟨a2,k,o⟩:=pA b h c (i:=2) (off:=2) rfl rfl IS FK;refine ⟨⟨a0,a1,a2⟩,?_,zS l,zS n,zS o⟩;have e:a=a.drop 0:=rfl;rw [e,pw (m:=1) g rfl,pw (m:=2) j rfl,pw (m:=3) k rfl,List.drop_of_length_le (Nat.le_of_eq d)];rfl
end
end Lf
namespace Lf
open Go Go.Proofs Tryz
section
variable {h:Hp}
theorem Kw {P:Program} {t:Nat} {x y:Operand} {xs ys:Array Value} (L:List (Field×IntKind×Int×Int)) (c:P.underlying t=some (.struct (L.map (·.1)).toArray)) (f:P.eqGuardType P.depth t=false) (hp:P.stoodInHeld t=false)
  (e:∀q∈L,q.1.name≠ "_" ∧P.underlying q.1.type=some (.int q.2.1)∧xs[q.1.offset]? =some (.int q.2.1 q.2.2.1)∧ys[q.1.offset]? =some (.int q.2.1 q.2.2.2)):
  iC P (cS .neq t x y (.agg xs) (.agg ys)) h (.bool (!(L.all λq=>q.2.2.1==q.2.2.2))):=by
 refine ES λw=> ?_;have b:P.fieldsOf t=(L.map (·.1)).toArray:=by unfold Program.fieldsOf;rw [c]
 have g:P.underlying t=some (.struct (P.fieldsOf t)):=by rw [b];exact c
 have a:=run_equalIn_struct (P:=P) w 9999 t xs ys g hp;rw [b] at a;have d:=Ng (P:=P) 9998 xs ys L w e;unfold cS;simp only [Sem.run_bind,run_eqGuard_agg w .neq t x y xs ys f,Result.andThen_ok,run_neq_struct];rw [show (10000:Nat)=9999+1 from rfl,a];simp only [d,Result.andThen_ok]
def rU (x y:aK):Bool:=x.Op==y.Op&&(x.A==y.A&&(x.B==y.B&&(x.C==y.C&&x.iU==y.iU)))
theorem qy {x y:aK}:rU x y=true↔bd x=bd y:=by unfold rU bd;simp
theorem XH {x y:aK} {p q:Operand}:iC prog (cS .neq 70 p q x.v y.v) h (.bool (!(rU x y))):=by
 have:=Kw (h:=h) (P:=prog) (t:=70) (x:=p) (y:=q) (xs:= #[.int .i64 x.Op,.int .i64 x.A,.int .i64 x.B,.int .i64 x.C,.int .i64 x.iU]) (ys:= #[.int .i64 y.Op,.int .i64 y.A,.int .i64 y.B,.int .i64 y.C,.int .i64 y.iU])
  [(⟨ "Op",3,0,false, "", "",0⟩,.i64,x.Op,y.Op),(⟨ "A",3,1,false, "", "",8⟩,.i64,x.A,y.A),(⟨ "B",3,2,false, "", "",16⟩,.i64,x.B,y.B),(⟨ "C",3,3,false, "", "",24⟩,.i64,x.C,y.C),(⟨ "Imm",2,4,false, "", "",32⟩,.i64,x.iU,y.iU)]
  (bG.bO 70 Bx rfl) (by kernel_rfl) (by kernel_rfl) (λq a=>by
   simp only [List.mem_cons,List.not_mem_nil,or_false] at a;rcases a with rfl | rfl | rfl | rfl | rfl
   ·exact ⟨by simp,bG.bO 3 uO rfl,rfl,rfl⟩
   ·exact ⟨by simp,bG.bO 3 uO rfl,rfl,rfl⟩
   ·exact ⟨by simp,bG.bO 3 uO rfl,rfl,rfl⟩
   ·exact ⟨by simp,bG.bO 3 uO rfl,rfl,rfl⟩
   ·exact ⟨by simp,bG.bO 2 te rfl,rfl,rfl⟩)
 have e:rU x y=[(⟨ "Op",3,0,false, "", "",0⟩,IntKind.i64,x.Op,y.Op),(⟨ "A",3,1,false, "", "",8⟩,.i64,x.A,y.A),(⟨ "B",3,2,false, "", "",16⟩,.i64,x.B,y.B),(⟨ "C",3,3,false, "", "",24⟩,.i64,x.C,y.C),((⟨ "Imm",2,4,false, "", "",32⟩:Field),.i64,x.iU,y.iU)].all (λq=>q.2.2.1==q.2.2.2):=by unfold rU;simp
 rw [e];exact this
end
abbrev tN (h:Hp) (l:Sl) (xs:List aC):Prop:=Rs h bS 3 l xs
theorem OX {len:Int} {n:Nat} (p:len=(n:Int)) (hb:n<=4611686018427387904) (I:Nat->Sl->Hp->Prop) {B:(Sl->Int->Hp->Prop)->Sl->Int->Hp->Prop} {X:Sl->Int->Hp->Prop} {e:Sl} {c:Hp} (g:I 0 e c)
  (l:∀i:Nat,i<n->∀s h,I i s h->∀K:Sl->Int->Hp->Prop,(∀b a,I (i+1) b a->K b (yw ((i:Int)+1)) a)->B K s (i:Int) h) (m:∀s h,I n s h->X s (n:Int) h):
  bT (λf s t h=>if decide (t<len)=true then B f s t h else X s t h) e (0:Int) c:=by
 refine bT.intro (λs t h=>∃i:Nat,t=(i:Int)/\i<=n/\I i s h) (λ_ t _=>(len-t).toNat) ⟨0,rfl,by omega,g⟩ ?_;rintro s t h ⟨i,rfl,o,d⟩;by_cases k:i<n
 ·rw [if_pos (iV)];refine l i k s h d _ λb a j=> ?_;rw [aT];exact ⟨⟨i+1,by omega,by omega,j⟩,by omega⟩
 ·have:i=n:=by omega
  subst this;rw [if_neg (by simp;omega)];exact m s h d
section
variable {h:Hp} {Q:Bool->Hp->Prop}
theorem yz {sh:Shape} {sz:Nat} {s1 s2:Sl} {a b:List sh.T} {v:Type} (f:sh.T->v) {B:(Int->Hp->Prop)->Int->Hp->sh.T->sh.T->Prop} (u:Rs h sh sz s1 a) (r2:Rs h sh sz s2 b) (r:∀x,(bp (sh.enc x)).length=sz) (s:0<sz)
  (F:a.length<=140737488355328) (hb:∀(i:Nat) x y,a[i]? =some x->b[i]? =some y->∀K:Int->Hp->Prop,(f x=f y->K (yw ((i:Int)+1)) h)->(f x≠f y->Q false h)->B K (i:Int) h x y)
  (c:a.map f=b.map f->Q true h) (q:a.map f≠b.map f->Q false h):
  (if (((s1.len:Nat):Int) !=((s2.len:Nat):Int))=true then Q false h else
   aA (α1:=Int) (λw t c=>(if (decide (t<((s1.len:Nat):Int)))=true then
    ((bF s1.base s1.len t)/\aR none sh c (sat s1.base sz t) λx=>((bF s2.base s2.len t)/\aR none sh c (sat s2.base sz t) λD=>B w t c x D))
    else Q true c)) (0:Int) h):=by
 have o:s1.len=a.length:=u.1;have p:s2.len=b.length:=r2.1;by_cases g:a.length=b.length
 ·rw [if_neg (by rw [o,p,g];simp)];refine kF (n:=a.length) (by omega) (by omega) (λi A=>A=h/\(a.take i).map f=(b.take i).map f) ⟨rfl,rfl⟩ ?_ ?_
  ·rintro i E k ⟨rfl,d⟩ K C;refine Rs.get (sh:=sh) u r s (i:=(i:Int)) (by omega) (by omega) λx j=> ?_;refine Rs.get (sh:=sh) r2 r s (i:=(i:Int)) (by omega) (by omega) λy m=> ?_;rw [Int.toNat_natCast] at j m;refine hb i x y j m _ (λe=>C k ⟨rfl,?_⟩) λe=>q λz=>e ?_
   ·rw [List.take_add_one,List.take_add_one,j,m,List.map_append,List.map_append,d];show _++ [f x]=_++ [f y];rw [e]
   ·have:=congrArg (λl:List v=>l[i]?) z;simp only [List.getElem?_map,j,m] at this;exact Option.some.inj this
  ·rintro k ⟨rfl,d⟩;rw [List.take_length,g,List.take_length] at d;exact c d
 ·rw [if_pos (by rw [o,p];simpa using λe=>g (by omega))];exact q λe=>g (by have:=congrArg List.length e;simpa using this)
structure lX (a b:aE):Prop where
 labels:a.labels=b.labels
 table:a.table=b.table
 fuel:a.fuel=b.fuel
 lane:a.lane=b.lane
 ae:a.ae=b.ae
 log:a.log=b.log
 procs:a.procs.map (·.part)=b.procs.map (·.part)
theorem MY {c:List aU} {a:List fG} (b:cZ (jY h) c a):c.map (·.Part)=a.map (·.part):=by
 induction c generalizing a with
 | nil=>cases a with
  | nil=>rfl
  | cons _ _=>exact b.elim
 | cons x c d=>cases a with
  | nil=>exact b.elim
  | cons y a=>rw [List.map_cons,List.map_cons,b.1.1,d b.2]
def vH (x y:aC):Bool:=x.Kind==y.Kind&&(x.N==y.N&&x.V==y.V)
theorem rC {x y:aC}:vH x y=true↔x=y:=by cases x;cases y;unfold vH;simp
theorem WM {x y:aC} {p q:Operand}:iC prog (cS .neq 40 p q x.v y.v) h (.bool (!(vH x y))):=by
 have:=Kw (h:=h) (P:=prog) (t:=40) (x:=p) (y:=q) (xs:= #[.int .i64 x.Kind,.int .i64 x.N,.int .i64 x.V]) (ys:= #[.int .i64 y.Kind,.int .i64 y.N,.int .i64 y.V])
  [(⟨ "Kind",3,0,false, "", "",0⟩,.i64,x.Kind,y.Kind),(⟨ "N",3,1,false, "", "",8⟩,.i64,x.N,y.N),(⟨ "V",2,2,false, "", "",16⟩,.i64,x.V,y.V)]
  (bG.bO 40 Bv rfl) (by kernel_rfl) (by kernel_rfl) (λq a=>by
   simp only [List.mem_cons,List.not_mem_nil,or_false] at a;rcases a with rfl | rfl | rfl
   ·exact ⟨by simp,bG.bO 3 uO rfl,rfl,rfl⟩
   ·exact ⟨by simp,bG.bO 3 uO rfl,rfl,rfl⟩
   ·exact ⟨by simp,bG.bO 2 te rfl,rfl,rfl⟩)
 have e:vH x y=[(⟨ "Kind",3,0,false, "", "",0⟩,IntKind.i64,x.Kind,y.Kind),(⟨ "N",3,1,false, "", "",8⟩,.i64,x.N,y.N),((⟨ "V",2,2,false, "", "",16⟩:Field),.i64,x.V,y.V)].all (λq=>q.2.2.1==q.2.2.2):=by unfold vH;simp
 rw [e];exact this
end
def dx (c:aE) (a:Int) (x:aC):Bool:= !(x.Kind==2 || x.Kind==3) || gJ c a x.N
section
variable {h:Hp} {x:an} {c:aE} {a:Int} {l:Sl} {xs:List aC} {Q:Sl->Hp->Prop}
theorem SE {b:Type} {p:b->Bool} {l:List b} {i:Nat} {z:b} (h:l[i]? =some z):(l.take (i+1)).filter p=(l.take i).filter p++if p z=true then [z] else []:=by rw [List.take_add_one,h,List.filter_append];congr 1;simp [List.filter_cons]
theorem Kx {p:aC->Bool} {i:Nat} (d:xs.length<=1048576):((xs.take i).filter p).length<=1048576:=by have b:=List.length_filter_le p (xs.take i);rw [List.length_take] at b;omega
theorem IW {i:Int} {Q:Bool->Hp->Prop} (kc:fo h x c) (g:∀l∈c.labels,kQ l) (f:kQ a) (b:Q (jH c a i) h):Ur prog x i a Q h:=by unfold Ur;exact Tn (λd e b=>ztm (YB d e b)) kc g f b
theorem CM {p:Int} {Q:Bool->Hp->Prop} (kc:fo h x c) (e:∀l∈c.labels,kQ l) (d:kQ a) (b:Q (gJ c a p) h):Up prog x p a Q h:=by unfold Up;exact Tp (λb=>zmi (IW kc e d b)) kc b
theorem JO (kc:fo h x c) (A:∀l∈c.labels,kQ l) (v:kQ a) (q:tN h l xs) (w:xs.length<=1048576) (y:∀r d,Has h (dU 3 qu r (xs.filter (dx c a))) d->Q r d):Tx prog x l a Q h:=by
 unfold Tx;have G:l.len=xs.length:=q.1;refine mL (xs:=([]:List aC)) (sz:=3) (enc:=qu) rfl (λ_=>rfl) λb H I D=> ?_;refine OX (n:=xs.length) (by omega) (by omega) (λi s d=>Has h (dU 3 qu s ((xs.take i).filter (dx c a))) d) D ?_ ?_
 ·intro i F s k o K m;refine cQ.direct ?_;have t:=Rw.mono o.le q;refine pF (sh:=bS) t λ(z:aC) j=> ?_;rw [Int.toNat_natCast] at j;have f:=SE (p:=dx c a) j;refine zsk ?_;unfold znh;refine Sf (CM (kc.mono o.le) A v (aJ (aJ ?_)));have e:(!((z.Kind==2 || z.Kind==3)&& !(gJ c a z.N)))=dx c a z:=by unfold dx;simp
  dsimp only;rw [e];by_cases g:dx c a z=true
  ·rw [if_pos g] at f;rw [if_pos g];have E:=Kx (p:=dx c a) (i:=i) w;refine pF (sh:=bS) t λ(J:aC) u=> ?_;rw [Int.toNat_natCast,j] at u;cases u;refine o.push (e:=z) rfl (λ_=>rfl) (λ_=>rfl) rfl ⟨by omega,by omega⟩ λB d C=>m B d ?_;rw [f];exact C
  ·rw [if_neg g,List.append_nil] at f;rw [if_neg g];refine m s k ?_;rw [f];exact o
 ·intro s k o;rw [List.take_length] at o;exact y s k o
end
structure jo (A B:aE) (S T:List aC) (a:Int):Prop where
 s:S.length<=1024
 r:T.length<=1024
 ea:(fV A).1=0
 eb:(fV B).1=0
 gV:lX A B
 code:∀p:Nat,p<nQ A->gJ A a (p:Int)=true->gF A p=gF B p
 same:S.filter (dx A a)=T.filter (dx B a)
section
variable {h:Hp} {A B:aE} {S T:List aC} {Q:Bool->Hp->Prop}
theorem Lz {c:aE} {b:List aU} (f:cZ (jY h) b c.procs) {i:Nat} {x:aU} (j:b[i]? =some x):∃a,mV h x.Code a/\a.map bd=gF c i:=by obtain ⟨q,g,hp⟩:=f.get j;obtain ⟨a,d,e⟩:=hp.2;refine ⟨a,d,?_⟩;unfold gF;rw [g,e];rfl
end
def ik (c:aE) (a:Int):Nat->Bool:=λi=>jH c a (i:Int)
theorem JQ {a b c:Int} (e:jr a b=true) (f:jr b c=true):jr a c=true:=iP.2 λn d h=>iP.1 f n d (iP.1 e n d h)
section
variable {A B:aE} {a:Int} {S T:List aC} {t t':fT}
theorem E3 (m:cf A) {p:Int} (d:0<=p) (b:p<(nQ A:Int)):gJ A a p=ik A a (az A p.toNat):=by
 unfold gJ ik az;rw [decide_eq_true d,decide_eq_true b];have c:p.toNat<A.procs.length:=by unfold nQ at b;omega
 rw [List.getElem?_eq_getElem c];have:=(m.part _ (List.getElem_mem c)).1;show (true&&true&&jH A a A.procs[p.toNat].part)=jH A a ((A.procs[p.toNat].part.toNat:Nat):Int);rw [show ((A.procs[p.toNat].part.toNat:Nat):Int)=A.procs[p.toNat].part by omega];rfl
theorem lX.len (s:lX A B):A.procs.length=B.procs.length:=by have:=congrArg List.length s.procs;simpa using this
theorem lX.part (s:lX A B) (p:Nat):(A.procs[p]?).map (·.part)=(B.procs[p]?).map (·.part):=by have:=congrArg (λl:List Int=>l[p]?) s.procs;simpa using this
theorem lX.jH (s:lX A B):jH B a=jH A a:=by funext i;unfold Lf.jH nP;rw [s.labels]
theorem lX.gJ (s:lX A B):gJ B a=gJ A a:=by funext p;unfold Lf.gJ nQ;rw [s.len,s.part,s.jH]
theorem lX.bK (s:lX A B):dx B a=dx A a:=by funext x;unfold dx;rw [s.gJ]
theorem lX.iO (s:lX A B):iO B=iO A:=by funext i j;unfold Lf.iO;rw [s.labels]
theorem jo.pS (m:jo A B S T a):Twin (ik A a) (iO A) A B where
 nP:=by unfold nP;rw [m.gV.labels]
 nQ:=by unfold nQ;rw [m.gV.len]
 xo:=by
  funext p;unfold az;have:=m.gV.part p;cases d:A.procs[p]? with
  | none=>
   rw [d] at this;cases b:B.procs[p]? with
   | none=>rfl
   | some y=>rw [b] at this;cases this
  | some x=>
   rw [d] at this;cases b:B.procs[p]? with
   | none=>rw [b] at this;cases this
   | some y=>rw [b] at this;simp at this;simp [this]
 code:=λp hp=>by
  by_cases h:p<nQ A
  ·refine m.code p h ?_;rw [E3 (pn m.ea) (by omega) (by omega)];exact hp
  ·have e:=m.gV.len;unfold gF;rw [List.getElem?_eq_none (by unfold nQ at h;omega),List.getElem?_eq_none (by unfold nQ at h;omega)]
 table:=m.gV.table.symm
 fuel:=m.gV.fuel.symm
 lane:=m.gV.lane.symm
 ae:=m.gV.ae.symm
 log:=m.gV.log.symm
 up:=λi j h c=>by
  unfold ik Lf.jH at c ⊢;unfold Lf.iO fl at h;split at h
  ·rename_i f;simp only [Bool.and_eq_true,decide_eq_true_eq] at c ⊢;unfold nP;exact ⟨⟨f.1,f.2.1⟩,JQ h c.2⟩
  ·cases h
structure lJ (A B:aE) (a:Int) (t t':fT):Prop where
 vU:cn A (ik A a) (bN t) (bN t')
 ga:GT A t
 gb:GT B t'
theorem wN (c:Twin (ik A a) (iO A) A B) {s b:MS} (o:cn A (ik A a) s b):cn A (ik A a) (bN (s.list A)) (bN (b.list B)):=by
 refine ⟨o.tick,λi d=> ?_,λp hp=> ?_⟩
 ·show ((List.range (nP A)).map s.part).getD i lP=((List.range (nP B)).map b.part).getD i lP;rw [c.nP,List.getD_eq_getElem?_getD,List.getD_eq_getElem?_getD,List.getElem?_map,List.getElem?_map];cases h:(List.range (nP A))[i]? with
  | none=>rfl
  | some j=>
   have:j=i:=by have:=(List.getElem?_eq_some_iff.1 h).2;simpa using this.symm
   subst this;show s.part j=b.part j;exact o.part j d
 ·show ((List.range (nQ A)).map s.proc).getD p oX=((List.range (nQ B)).map b.proc).getD p oX;rw [c.nQ,List.getD_eq_getElem?_getD,List.getD_eq_getElem?_getD,List.getElem?_map,List.getElem?_map];cases h:(List.range (nQ A))[p]? with
  | none=>rfl
  | some j=>
   have:j=p:=by have:=(List.getElem?_eq_some_iff.1 h).2;simpa using this.symm
   subst this;show s.proc j=b.proc j;exact o.proc j hp
theorem LA {s d:MS} (o:cn A (ik A a) s d):cn A (ik A a) (bN (s.list A)) (bN (d.list A)):=
 wN ⟨rfl,rfl,rfl,λ_ _=>rfl,rfl,rfl,rfl,rfl,rfl,λi j h b=>by
  unfold ik Lf.jH at b ⊢;unfold Lf.iO fl at h;split at h
  ·rename_i c;simp only [Bool.and_eq_true,decide_eq_true_eq] at b ⊢;unfold nP;exact ⟨⟨c.1,c.2.1⟩,JQ h b.2⟩
  ·cases h⟩ o
theorem lJ.kh (s:lJ A B a t t'):t.tick=t'.tick:=s.vU.tick
theorem lJ.tick (m:jo A B S T a) (s:lJ A B a t t') (b:t.tick<4611686018427387904):lJ A B a (lR A t) (lR B t')/\iT A t.tick=iT B t'.tick/\(lR A t).tick=t.tick+1:=by
 have c:=pn m.ea;have d:=pn m.eb;have f:Good B (iO A) (bN t') No No t'.tick:=by rw [<-m.gV.iO];exact s.gb.iz
 obtain ⟨g,h⟩:=s.vU.wi (D:=fW) m.pS c d s.ga.iz f;obtain ⟨i,e⟩:=s.ga.tick c b;refine ⟨⟨?_,i,(s.gb.tick d (by rw [<-s.kh];exact b)).1⟩,h,e⟩;have:=wN m.pS g;show cn A (ik A a) (bN ((jy A fW (iO A) (bN t)).list A)) (bN ((jy B fW (iO B) (bN t')).list B));rw [m.gV.iO];exact this
section
variable (m:jo A B S T a) (s:lJ A B a t t') (b:t.tick<=4611686018427387904) {p v:Int}
include m s b
theorem lJ.inj (hp:gJ A a p=true):lJ A B a (qM A t p v) (qM B t' p v):=by have c:=pn m.ea;have f:=pn m.eb;exact ⟨wN m.pS (s.vU.inj m.pS λd e=>by rw [<-E3 c d e];exact hp),(s.ga.inj c b).1,(s.gb.inj f (by rw [<-s.kh];exact b)).1⟩
theorem lJ.kill (hp:gJ A a p=true):lJ A B a (mG A t p) (mG B t' p):=by have c:=pn m.ea;have f:=pn m.eb;exact ⟨wN m.pS (s.vU.kill m.pS λd e=>by rw [<-E3 c d e];exact hp),(s.ga.kill c b).1,(s.gb.kill f (by rw [<-s.kh];exact b)).1⟩
theorem lJ.Al (hp:gJ A a p=false):lJ A B a (qM A t p v) t':=by
 have c:=pn m.ea;have o:=cn.OZ (V:=ik A a) (A:=A) (s:=bN t) (p:=p) (v:=v) λe f=>by rw [<-E3 c e f];exact hp
 have d:=LA o;rw [M7 s.ga.parts s.ga.procs] at d;exact ⟨d.symm.trans s.vU,(s.ga.inj c b).1,s.gb⟩
theorem lJ.vN (hp:gJ A a p=false):lJ A B a (mG A t p) t':=by
 have c:=pn m.ea;have o:=cn.FD (V:=ik A a) c s.ga.iz (p:=p) λe f=>by rw [<-E3 c e f];exact hp
 have d:=LA o;rw [M7 s.ga.parts s.ga.procs] at d;exact ⟨d.symm.trans s.vU,(s.ga.kill c b).1,s.gb⟩
end
theorem jo.flip (m:jo A B S T a):jo B A T S a where
 s:=m.r
 r:=m.s
 ea:=m.eb
 eb:=m.ea
 gV:=⟨m.gV.labels.symm,m.gV.table.symm,m.gV.fuel.symm,m.gV.lane.symm,m.gV.ae.symm,m.gV.log.symm,m.gV.procs.symm⟩
 code:=λp hp b=>by rw [m.gV.gJ] at b;exact (m.code p (by unfold nQ at hp ⊢;rw [m.gV.len];exact hp) b).symm
 same:=m.same.symm
theorem lJ.flip (m:jo A B S T a) (s:lJ A B a t t'):lJ B A a t' t:=by
 have e:ik B a=ik A a:=by unfold ik;rw [m.gV.jH]
 have b:=m.pS.xo;refine ⟨?_,s.gb,s.ga⟩;rw [e];exact ⟨s.vU.tick.symm,λi h=>(s.vU.part i h).symm,λp h=>(s.vU.proc p (by rw [<-b];exact h)).symm⟩
theorem lJ.view (m:jo A B S T a) (s:lJ A B a t t'):lS A t a=lS B t' a:=by
 have e:=m.pS;have f:=pn m.ea;have g:t.parts.length=t'.parts.length:=by rw [s.ga.parts,s.gb.parts,e.nP]
 have j:t.procs.length=t'.procs.length:=by rw [s.ga.procs,s.gb.procs,e.nQ]
 unfold lS;rw [s.kh,m.gV.jH,m.gV.gJ];congr 1
 ·refine List.ext_getElem? λi=> ?_;rw [List.getElem?_mapIdx,List.getElem?_mapIdx];by_cases h:i<t.parts.length
  ·rw [List.getElem?_eq_getElem h,List.getElem?_eq_getElem (by omega)];simp only [Option.map_some,Option.some.injEq];by_cases b:jH A a (i:Int)=true
   ·rw [if_pos b,if_pos b];have:=s.vU.part i b;have c:(bN t).part i=t.parts[i]:=nT (List.getElem?_eq_getElem h);have d:(bN t').part i=t'.parts[i]:=nT (List.getElem?_eq_getElem (by omega));rw [<-c,<-d,this]
   ·rw [if_neg b,if_neg b]
  ·rw [List.getElem?_eq_none (by omega),List.getElem?_eq_none (by omega)]
 ·refine List.ext_getElem? λi=> ?_;rw [List.getElem?_mapIdx,List.getElem?_mapIdx];by_cases h:i<t.procs.length
  ·rw [List.getElem?_eq_getElem h,List.getElem?_eq_getElem (by omega)];simp only [Option.map_some,Option.some.injEq];by_cases b:gJ A a (i:Int)=true
   ·rw [if_pos b,if_pos b];have hv:=b;rw [E3 f (by omega) (by have:=s.ga.procs;omega)] at hv;have:=s.vU.proc i hv;have c:(bN t).proc i=t.procs[i]:=nT (List.getElem?_eq_getElem h);have d:(bN t').proc i=t'.procs[i]:=nT (List.getElem?_eq_getElem (by omega));rw [<-c,<-d,this]
   ·rw [if_neg b,if_neg b]
  ·rw [List.getElem?_eq_none (by omega),List.getElem?_eq_none (by omega)]
theorem lJ.first (m:jo A B S T a):lJ A B a ((qF A).list A) ((qF B).list B):=
 ⟨wN m.pS (cn.first m.pS),(DT (pn m.ea)).1,(DT (pn m.eb)).1⟩
end
end Lf
namespace Lf
open Go
theorem least {p:Nat->Prop} (h:∃n,p n):∃n,p n/\∀m,p m->n<=m:=by
 obtain ⟨n,e⟩:=h
 induction n using Nat.strongRecOn with
 | _ n f=>
  by_cases a:∃m,m<n/\p m
  ·obtain ⟨m,b,c⟩:=a;exact f m b c
  ·exact ⟨n,e,λm hp=>Nat.le_of_not_lt λd=>a ⟨m,d,hp⟩⟩
open Classical in
noncomputable def zV (p:Nat->Prop):Nat:=if h:∃n,p n then (least h).choose else 0
theorem LC {p:Nat->Prop} {n:Nat} (h:p n):p (zV p)/\zV p<=n:=by unfold zV;rw [dif_pos ⟨n,h⟩];have:=(least ⟨n,h⟩).choose_spec;exact ⟨this.1,this.2 n h⟩
theorem aA.byN {a:Type} {c:(a->Hp->Prop)->a->Hp->Prop} {e:a} {h:Hp} (I:Nat->a->Hp->Prop) {n0:Nat} (f:I n0 e h) (j:∀n x k (K:a->Hp->Prop),I n x k->(∀m y b,m<n->I m y b->K y b)->c K x k):aA c e h:=by refine aA.intro (λx k=>∃n,I n x k) (λx k=>zV λn=>I n x k) ⟨n0,f⟩ λx k ⟨n,i⟩=> ?_;exact j _ x k _ (LC (p:=λn=>I n x k) i).1 λm y b g d=>⟨⟨m,d⟩,Nat.lt_of_le_of_lt (LC (p:=λn=>I n y b) d).2 g⟩
end Lf
namespace Lf
open Go Go.Proofs Tryz
section
variable {h0 k:Hp} {K:MK} {pm p:Addr} {t:fT} {a:Nat->Nat->Int} {L:List aC}
theorem LI {c:aE} {bY:Int} {i:Nat} {z:aC} (e:L[i]? =some z):L.drop i=z::L.drop (i+1):=by obtain ⟨b,d⟩:=List.getElem?_eq_some_iff.1 e;rw [List.drop_eq_getElem_cons b,d]
end
theorem n7.view {c:aE} {t:fT} {a:Int} (f:n7 t):n7 (lS c t a):=by
 refine ⟨by show (List.mapIdx _ _).length<=1000;rw [List.length_mapIdx];exact f.parts,by show (List.mapIdx _ _).length<=1000;rw [List.length_mapIdx];exact f.procs,λx e=> ?_,λx e=> ?_⟩
 ·obtain ⟨i,b,rfl⟩:=List.mem_mapIdx.1 e;split
  ·exact f.log _ (List.getElem_mem b)
  ·exact ⟨by decide,by decide,by decide,λq d=>by cases d⟩
 ·obtain ⟨i,b,rfl⟩:=List.mem_mapIdx.1 e;split
  ·exact f.aj _ (List.getElem_mem b)
  ·exact ⟨by decide,λq d=>by cases d⟩
section
end
section
variable {h k:Hp}
theorem Rw.pre {d:Type} {sz:Nat} {enc:d->List Value} {l:Sl} {b n:List d} {c:Nat} (r:Rw h sz enc l (b++n)) (j:∀x,(enc x).length=sz):Rw h sz enc ⟨l.base,b.length,c⟩ b:=by
 obtain ⟨o,p,f⟩:=r;refine ⟨rfl,jz j b,?_⟩;rcases f with e | ⟨a,g,m⟩
 ·left;rw [List.length_append,Nat.add_mul] at e;omega
 ·right;refine ⟨a,g,λi v hv=>m i v ?_⟩;rw [List.flatMap_append,List.getElem?_append_left (List.getElem?_eq_some_iff.1 hv).1];exact hv
end
def dy (c:aE):List aC->fT->List aC×fT
 | [],t=>([],t)
 | x::l,t=>if x.Kind=1 then (x::l,t) else if x.Kind=2 then dy c l (qM c t x.N x.V) else if x.Kind=3 then dy c l (mG c t x.N) else dy c l t
theorem AK {c:aE} {x:aC} {l:List aC} {t:fT}:dy c (x::l) t=if x.Kind=1 then (x::l,t) else if x.Kind=2 then dy c l (qM c t x.N x.V) else if x.Kind=3 then dy c l (mG c t x.N) else dy c l t:=rfl
section
variable {A B:aE} {a:Int} {S T:List aC} {t t':fT}
theorem LF {c:aE} {x:aC} {l:List aC} {t:fT} (h:dx c a x=false):
  gJ c a x.N=false/\((x.Kind=2/\dy c (x::l) t=dy c l (qM c t x.N x.V))\/(x.Kind=3/\dy c (x::l) t=dy c l (mG c t x.N))):=by
 unfold dx at h;simp only [Bool.or_eq_false_iff,Bool.not_eq_false',Bool.or_eq_true,beq_iff_eq] at h;obtain ⟨h1,b⟩:=h;refine ⟨b,?_⟩;rw [AK];rcases h1 with h1 | h1
 ·rw [pN,if_pos h1];exact .inl ⟨h1,rfl⟩
 ·rw [pN,if_neg (by omega),if_pos h1];exact .inr ⟨h1,rfl⟩
theorem Q3 (m:jo A B S T a):∀(n:Nat) {L M:List aC} {t t':fT},L.length+M.length<=n->L.filter (dx A a)=M.filter (dx A a)->lJ A B a t t'->t.tick<=4611686018427387904->
  ((dy A L t).1.filter (dx A a)=(dy B M t').1.filter (dx A a)/\lJ A B a (dy A L t).2 (dy B M t').2)/\(dy A L t).2.tick=t.tick:=by
 intro n
 induction n with
 | zero=>intro L M t t' i d s b;have H:L=[]:=List.length_eq_zero_iff.1 (by omega);have f:M=[]:=List.length_eq_zero_iff.1 (by omega);subst H f;exact ⟨⟨rfl,s⟩,rfl⟩
 | succ n k=>
  have J:=m.gV.bK (a:=a);have C:∀ {y:aC} {L M:List aC} {t t':fT},dx A a y=false->L.length+(y::M).length<=n+1->L.filter (dx A a)=(y::M).filter (dx A a)->lJ A B a t t'->t.tick<=4611686018427387904->
    ((dy A L t).1.filter (dx A a)=(dy B (y::M) t').1.filter (dx A a)/\lJ A B a (dy A L t).2 (dy B (y::M) t').2)/\(dy A L t).2.tick=t.tick:=by
   intro y L M t t' q i d s b;rw [List.filter_cons_of_neg (by rw [q];simp)] at d;have g:L.length+M.length<=n:=by rw [List.length_cons] at i;omega
   have D:t'.tick<=4611686018427387904:=by rw [<-s.kh];exact b
   have F:=s.flip m;obtain ⟨o,⟨_,e⟩ | ⟨_,e⟩⟩:=LF (c:=B) (a:=a) (l:=M) (t:=t') (by rw [J];exact q)
   ·rw [e];exact k g d ((F.Al m.flip D (v:=y.V) o).flip m.flip) b
   ·rw [e];exact k g d ((F.vN m.flip D o).flip m.flip) b
  intro L M t t' i d s b;cases L with
  | nil=>
   cases M with
   | nil=>exact ⟨⟨rfl,s⟩,rfl⟩
   | cons y M=>
    cases q:dx A a y with
    | false=>exact C q i d s b
    | true=>rw [List.filter_cons_of_pos q] at d;cases d
  | cons x L=>
   cases j:dx A a x with
   | false=>
    rw [List.filter_cons_of_neg (by rw [j];simp)] at d;have g:L.length+M.length<=n:=by rw [List.length_cons] at i;omega
    obtain ⟨o,⟨_,e⟩ | ⟨_,e⟩⟩:=LF (l:=L) (t:=t) j
    ·rw [e];have f:=(s.ga.inj (pn m.ea) b (p:=x.N) (v:=x.V)).2;have:=k g d (s.Al m b (v:=x.V) o) (by rw [f];exact b);rw [f] at this;exact this
    ·rw [e];have f:=(s.ga.kill (pn m.ea) b (p:=x.N)).2;have:=k g d (s.vN m b o) (by rw [f];exact b);rw [f] at this;exact this
   | true=>
    cases M with
    | nil=>rw [List.filter_cons_of_pos j] at d;cases d
    | cons y M=>
     cases E:dx A a y with
     | false=>exact C E i d s b
     | true=>
      have I:=d;rw [List.filter_cons_of_pos j,List.filter_cons_of_pos E] at d;obtain ⟨rfl,z⟩:=List.cons.inj d;have g:L.length+M.length<=n:=by rw [List.length_cons,List.length_cons] at i;omega
      have G:x.Kind=2\/x.Kind=3->gJ A a x.N=true:=λh=>by unfold dx at j;rw [show (x.Kind==2 || x.Kind==3)=true by simpa using h] at j;simpa using j
      rw [AK,AK];by_cases w:x.Kind=1
      ·rw [if_pos w,if_pos w];exact ⟨⟨I,s⟩,rfl⟩
      rw [if_neg w,if_neg w];by_cases r:x.Kind=2
      ·rw [if_pos r,if_pos r];have f:=(s.ga.inj (pn m.ea) b (p:=x.N) (v:=x.V)).2;have:=k g z (s.inj m b (v:=x.V) (G (.inl r))) (by rw [f];exact b);rw [f] at this;exact this
      rw [if_neg r,if_neg r];by_cases u:x.Kind=3
      ·rw [if_pos u,if_pos u];have f:=(s.ga.kill (pn m.ea) b (p:=x.N)).2;have:=k g z (s.kill m b (G (.inr u))) (by rw [f];exact b);rw [f] at this;exact this
      rw [if_neg u,if_neg u];exact k g z s b
theorem zw {c:aE}:∀ {L:List aC} {t:fT},(∀x l,(dy c L t).1=x::l->x.Kind=1)/\∃i,i<=L.length/\(dy c L t).1=L.drop i
 | [],_=>⟨λ_ _ h=>(by cases h),0,Nat.le_refl _,rfl⟩
 | x::l,t=>by
  rw [AK];have more:∀t',(∀x b,(dy c l t').1=x::b->x.Kind=1)/\∃i,i<=(x::l).length/\(dy c l t').1=(x::l).drop i:=λt'=>by obtain ⟨d,i,g,f⟩:=zw (c:=c) (L:=l) (t:=t');exact ⟨d,i+1,by rw [List.length_cons];omega,f⟩
  split
  ·rename_i h;exact ⟨λy b e=>by obtain ⟨rfl,_⟩:=List.cons.inj e;exact h,0,Nat.zero_le _,rfl⟩
  ·split
   ·exact more _
   ·split
    ·exact more _
    ·exact more _
end
section
variable {h:Hp} {Q:Bool->Hp->Prop}
theorem ZK {s1 s2:Sl} {a b:List Int} (k:Is h s1 a) (r2:Is h s2 b) (j:a.length<=140737488355328) (d:a=b->Q true h) (c:a≠b->Q false h):RJ prog s1 s2 Q h:=by
 unfold RJ;refine yz (sh:=af .i64) (λx:Int=>x) k r2 (λ_=>rfl) (by decide) j (λi (x:Int) (y:Int) _ _ K f g=> ?_) (by simpa using d) (by simpa using c);by_cases e:x=y
 ·rw [if_neg (by simpa using e)];exact f e
 ·rw [if_pos (by simpa using e)];exact g e
theorem ZL {s1 s2:Sl} {a b:List Int} (k:Us h s1 a) (r2:Us h s2 b) (j:a.length<=140737488355328) (d:a=b->Q true h) (c:a≠b->Q false h):Q4 prog s1 s2 Q h:=by
 unfold Q4;refine yz (sh:=af .u64) (λx:Int=>x) k r2 (λ_=>rfl) (by decide) j (λi (x:Int) (y:Int) _ _ K f g=> ?_) (by simpa using d) (by simpa using c);by_cases e:x=y
 ·rw [if_neg (by simpa using e)];exact f e
 ·rw [if_pos (by simpa using e)];exact g e
theorem ZM {a b:Sl} {c d:List aK} (n:mV h a c) (r2:mV h b d) (m:c.length<=140737488355328) (g:c.map bd=d.map bd->Q true h) (f:c.map bd≠d.map bd->Q false h):RF prog a b Q h:=by
 unfold RF;refine yz (sh:=aV) bd n r2 (λ_=>rfl) (by decide) m (λi (x:aK) (y:aK) _ _ K j k=>⟨_,XH,?_⟩) g f;by_cases e:bd x=bd y
 ·rw [qy.2 e];exact j e
 ·rw [Bool.eq_false_iff.2 λl=>e (qy.1 l)];exact k e
theorem Rs.vJ {sh shf:Shape} {sz:Nat} {s:Sl} {xs:List sh.T} (r:Rs h sh sz s xs) (f:∀x,(bp (sh.enc x)).length=sz) (n:0<sz) {i:Nat} {off:Nat} (o:i<xs.length) (g:sh.T->shf.T) (k:∀x,((bp (sh.enc x)).drop off).take (bp (shf.enc (g x))).length=bp (shf.enc (g x)))
  {K:shf.T->Prop} (l:∀x,xs[i]? =some x->K (g x)):bF s.base s.len (i:Int)/\aR none shf h ((sat s.base sz (i:Int)).add off) K:=by
 obtain ⟨c,x,b,m⟩:=Rw.read r f n (i:=(i:Int)) (by omega) (by have:=r.1;omega);rw [Int.toNat_natCast] at b;refine ⟨c,g x,λj v a=> ?_,l x b⟩;have d:=k x;rw [<-d] at a;rw [List.getElem?_take] at a;split at a
 ·rw [List.getElem?_drop] at a;have:=m (off+j) v a;have e:=tF (sat s.base sz (i:Int)) off j;rw [e];exact this
 ·cases a
theorem ZO {x y:an} {a b:aE} (c:fo h x a) (d:fo h y b) (T:a.labels.length<=1000/\a.table.length<=1000/\a.procs.length<=1000) (N:lX a b->Q true h) (g:¬lX a b->Q false h):RD prog x y Q h:=by
 unfold RD;obtain ⟨m,C,A⟩:=c.procs;obtain ⟨r,D,B⟩:=d.procs;have t:=MY A;have u:=MY B;have R:=A.len;have S:=B.len;have G:x.aG.len=m.length:=C.1;have H:y.aG.len=r.length:=D.1;refine zpm (ZL c.labels d.labels (by omega) (λo=> ?_) λo=> ?_)
 ·refine yT rfl (zqu (ZK c.table d.table (by omega) (λp=> ?_) λp=> ?_))
  ·refine aJ (aJ (aJ (aJ (aJ (aJ ?_)))));rw [c.fuel,d.fuel,c.lane,d.lane,c.ae,d.ae,c.log,d.log,G,H];by_cases q:(a.fuel=b.fuel/\a.lane=b.lane/\a.ae=b.ae/\a.log=b.log)/\m.length=r.length
   ·obtain ⟨⟨t2,I,J,L⟩,M⟩:=q;rw [if_neg (by simp [t2,I,J,L,M])];refine kF (n:=m.length) rfl (by omega) (λi k=>k=h/\(m.take i).map (·.Part)=(r.take i).map (·.Part)) ⟨rfl,rfl⟩ ?_ ?_
    ·rintro i P k ⟨rfl,j⟩ K O;rw [<-G,<-H];refine Rs.vJ (sh:=bA) (shf:=af .i64) (off:=0) C (λ_=>rfl) (by decide) P (λz:aU=>z.Part) (λ_=>rfl) λ(z:aU) F=> ?_;refine Rs.vJ (sh:=bA) (shf:=af .i64) (off:=0) D (λ_=>rfl) (by decide) (by omega) (λz:aU=>z.Part) (λ_=>rfl) λ(w:aU) E=> ?_;by_cases e:z.Part=w.Part
     ·rw [if_neg (by simpa using e)];refine O _ ⟨rfl,?_⟩;rw [List.take_add_one,List.take_add_one,F,E,List.map_append,List.map_append,j];show _++ [z.Part]=_++ [w.Part];rw [e]
     ·rw [if_pos (by simpa using e)];refine g λs=>e ?_;have v:=congrArg (λl:List Int=>l[i]?) (t.trans (s.procs.trans u.symm));simp only [List.getElem?_map,F,E] at v;exact Option.some.inj v
    ·rintro k ⟨rfl,j⟩;rw [List.take_length,M,List.take_length] at j;exact N ⟨o,p,t2,I,J,L,by rw [<-t,<-u];exact j⟩
   ·rw [if_pos]
    ·exact g λs=>q ⟨⟨s.fuel,s.lane,s.ae,s.log⟩,by rw [R,S];exact s.len⟩
    ·simp only [Bool.or_eq_true,bne_iff_ne,Bool.not_eq_true',Bool.not_true,Bool.false_or,ne_eq,Int.natCast_inj];refine Classical.byContradiction λf=>q ?_;simp only [not_or,Classical.not_not] at f;exact ⟨⟨f.1.1.1.1,f.1.1.1.2,f.1.1.2,f.1.2⟩,f.2⟩
  ·refine aJ (aJ (aJ (aJ (aJ (aJ ?_)))));rw [if_pos (by simp)];exact g λs=>p s.table
 ·refine zv rfl false (aJ (aJ (aJ (aJ (aJ (aJ ?_))))));rw [if_pos (by simp)];exact g λs=>o s.labels
end
section
variable {h0:Hp} {x:an} {y:aD} {c:aE} {t:fT} {a:Int}
theorem Oe {Q:aD->Hp->Prop} (kc:fo h0 x c) (M:dq h0 y t) (Z:∀l∈c.labels,kQ l) (S:kQ a) (mR:n7 t) (hq:∀y' b,h0<=b->dq b y' (lS c t a)->Q y' b):Wa prog x y a Q h0:=by
 unfold Wa;obtain ⟨n,X,T⟩:=M.parts;obtain ⟨p,Y,U⟩:=M.procs;have b2:=T.len;have b3:=U.len;have b0:y.bZ.len=n.length:=X.1;have b1:y.aG.len=p.length:=Y.1;have f1:=mR.parts;have f2:=mR.procs;generalize H:(λ(i:Nat) (x:dv)=>if jH c a (i:Int)=true then x else zT)=g;generalize I:(λ(i:Nat) (x:ak)=>if gJ c a (i:Int)=true then x else zU)=w;refine bT.intro (λ(i:Int) (out:aD) k=>0<=i/\i<=(n.length:Int)/\out.fg=y.fg/\out.aG=⟨none,0,0⟩/\∃d,cZ (gA h0) d ((t.parts.take i.toNat).mapIdx g)/\Has h0 (dU 6 eX out.bZ d) k) (λi _ _=>(n.length-i).toNat)
  ⟨by omega,by omega,rfl,rfl,[],trivial,Has.ku (Hp.le_refl _)⟩ ?_
 rintro i out k ⟨L,i1,P,N,d,D,o⟩;have a8:d.length=i.toNat:=by rw [D.len,List.length_mapIdx,List.length_take];omega
 by_cases V:i<(n.length:Int)
 ·rw [if_pos (iV)];have B:i.toNat<n.length:=by omega
  have A:((i.toNat:Nat):Int)=i:=by omega
  obtain ⟨q,J,K⟩:=T.get (i:=i.toNat) (List.getElem?_eq_getElem B);have u:(i+1).toNat=i.toNat+1:=by omega
  have push:∀z:cc,gA h0 z (g i.toNat q)->bh [(.int .i64 z.Cursor),z.Log.v,(.int .i64 z.nX),(.int .i64 z.eN),z.eO.v,z.dO.v] (λa1 h3=>
    fu 6 96 [(.int .i64 (0:Int)),(.slice none 0 0),(.int .i64 (0:Int)),(.int .i64 (0:Int)),(.slice none 0 0),(.slice none 0 0)] ⟨out.bZ.base,out.bZ.len,out.bZ.cap⟩ ⟨(some a1),1,1⟩ (λr G=>
    (0<=yw (i+(1:Int))/\yw (i+(1:Int))<=(n.length:Int)/\(⟨out.fg,r,out.aG⟩:aD).fg=y.fg/\(⟨out.fg,r,out.aG⟩:aD).aG=⟨none,0,0⟩/\∃d,cZ (gA h0) d ((t.parts.take (yw (i+(1:Int))).toNat).mapIdx g)/\Has h0 (dU 6 eX (⟨out.fg,r,out.aG⟩:aD).bZ d) G)/\(n.length-yw (i+(1:Int))).toNat<(n.length-i).toNat) h3) k:=λz j=>by
   rw [aT,u];refine o.push (e:=z) rfl (λ_=>rfl) (λ_=>rfl) rfl ⟨by omega,by omega⟩ λl' b m=>⟨⟨by omega,by omega,P,N,d++ [z],?_,m⟩,by omega⟩;rw [zxg J];exact M8 j D
  refine cQ.direct ?_;refine zmi (IW (kc.mono o.le) Z S ?_);by_cases h:jH c a i=true
  ·rw [if_pos h];refine Rs.get (sh:=cg) (Rw.mono o.le X) (λ_=>rfl) (by decide) L V λ(z:cc) j=> ?_;rw [List.getElem?_eq_getElem B] at j;cases j;refine push _ ?_;rw [show g i.toNat q=q by rw [<-H];exact if_pos (by rw [A];exact h)];exact K
  ·rw [if_neg h];refine push zX ?_;rw [show g i.toNat q=zT by rw [<-H];exact if_neg (by rw [A];exact h)];exact Q1
 ·rw [if_neg (λe=>V (by have:=of_decide_eq_true e;omega))];have u:i.toNat=t.parts.length:=by omega
  rw [u,List.take_length] at D;have rp:=o.kM λ_=>rfl;have C:=o.le;refine bT.intro (λ(i:Int) (s:aD) b=>0<=i/\i<=(p.length:Int)/\s.fg=y.fg/\s.bZ=out.bZ/\∃f,cZ (dj h0) f ((t.procs.take i.toNat).mapIdx w)/\Has k (dU 15 eY s.aG f) b) (λi _ _=>(p.length-i).toNat)
   ⟨by omega,by omega,P,rfl,[],trivial,by rw [N];exact Has.ku (Hp.le_refl _)⟩ ?_
  rintro i s b ⟨L,i1,R,O,f,E,m⟩;have a9:f.length=i.toNat:=by rw [E.len,List.length_mapIdx,List.length_take];omega
  by_cases W:i<(p.length:Int)
  ·rw [if_pos (iV)];have B:i.toNat<p.length:=by omega
   have A:((i.toNat:Nat):Int)=i:=by omega
   obtain ⟨q,J,K⟩:=U.get (i:=i.toNat) (List.getElem?_eq_getElem B);have u:(i+1).toNat=i.toNat+1:=by omega
   have push:∀z:br,dj h0 z (w i.toNat q)->bh [(.int .i64 z.State),(.int .i64 z.PC),(.int .i64 z.cw),(.int .i64 z.cx),(.int .i64 z.cC),(.int .i64 z.cD),(.int .i64 z.cE),(.int .i64 z.cF),(.int .i64 z.cG),(.int .i64 z.cH),(.int .i64 z.Cursor),(.int .i64 z.Timer),(.bool z.km),(.int .i64 z.n8),z.fL.v] (λa1 G=>
     fu 15 136 [(.int .i64 (0:Int)),(.int .i64 (0:Int)),(.int .i64 (0:Int)),(.int .i64 (0:Int)),(.int .i64 (0:Int)),(.int .i64 (0:Int)),(.int .i64 (0:Int)),(.int .i64 (0:Int)),(.int .i64 (0:Int)),(.int .i64 (0:Int)),(.int .i64 (0:Int)),(.int .i64 (0:Int)),(.bool false),(.int .i64 (0:Int)),(.slice none 0 0)] ⟨s.aG.base,s.aG.len,s.aG.cap⟩ ⟨(some a1),1,1⟩ (λr h5=>
     (0<=yw (i+(1:Int))/\yw (i+(1:Int))<=(p.length:Int)/\(⟨s.fg,s.bZ,r⟩:aD).fg=y.fg/\(⟨s.fg,s.bZ,r⟩:aD).bZ=out.bZ/\∃f,cZ (dj h0) f ((t.procs.take (yw (i+(1:Int))).toNat).mapIdx w)/\Has k (dU 15 eY (⟨s.fg,s.bZ,r⟩:aD).aG f) h5)/\(p.length-yw (i+(1:Int))).toNat<(p.length-i).toNat) G) b:=λz j=>by
    rw [aT,u];refine m.push (e:=z) rfl (λ_=>rfl) (λ_=>rfl) rfl ⟨by omega,by omega⟩ λl' b m=>⟨⟨by omega,by omega,R,O,f++ [z],?_,m⟩,by omega⟩;rw [zxg J];exact M8 j E
   refine cQ.direct ?_;refine Sf (CM (kc.mono (Hp.le_trans C m.le)) Z S ?_);by_cases h:gJ c a i=true
   ·rw [if_pos h];refine Rs.get (sh:=bB) (Rw.mono (Hp.le_trans C m.le) Y) (λ_=>rfl) (by decide) L W λ(z:br) j=> ?_;rw [List.getElem?_eq_getElem B] at j;cases j;refine push _ ?_;rw [show w i.toNat q=q by rw [<-I];exact if_pos (by rw [A];exact h)];exact K
   ·rw [if_neg h];refine push zY ?_;rw [show w i.toNat q=zU by rw [<-I];exact if_neg (by rw [A];exact h)];exact Q2
  ·rw [if_neg (λe=>W (by have:=of_decide_eq_true e;omega))];have u:i.toNat=t.procs.length:=by omega
   rw [u,List.take_length] at E;have F:=m.le;have hv:lS c t a=⟨t.tick,t.parts.mapIdx g,t.procs.mapIdx w⟩:=by rw [<-H,<-I];rfl
   refine hq s b (Hp.le_trans C F) ?_;rw [hv];exact ⟨R.trans M.tick,⟨d,by rw [O];exact Rw.mono F rp,D.imp λ_ _ r=>r.mono (Hp.le_trans C F)⟩,f,m.kM λ_=>rfl,E.imp λ_ _ r=>r.mono (Hp.le_trans C F)⟩
end
def Ax (t:aX):an:=⟨t.fm,t.fQ,t.jA,t.jB,t.gX,t.lH,t.eg⟩
def Bm (t:aX):an:=⟨t.fK,t.gY,t.kO,t.kP,t.jl,t.nk,t.fD⟩
structure uE (h:Hp) (t:aX) (A B:aE) (S T:List aC):Prop where
 a:fo h (Ax t) A
 b:fo h (Bm t) B
 s:tN h t.S S
 r:tN h t.T T
 ua:∀l∈A.labels,kQ l
 ub:∀l∈B.labels,kQ l
 u:kQ t.Label
section
variable {h:Hp} {Q:Bool->Hp->Prop}
theorem uE.mono {c:Hp} {t:aX} {A B:aE} {S T:List aC} (k:uE h t A B S T) (l:h<=c):uE c t A B S T:=⟨k.a.mono l,k.b.mono l,Rw.mono l k.s,Rw.mono l k.r,k.ua,k.ub,k.u⟩
theorem Va {t:aX} {A B:aE} {S T:List aC} (k:uE h t A B S T) (h1:∀d,h<=d->jo A B S T t.Label->Q true d) (f:∀d,h<=d->¬jo A B S T t.Label->Q false d):Vp prog t Q h:=by
 unfold Vp;have hs:t.S.len=S.length:=k.s.1;have ht:t.T.len=T.length:=k.r.1;refine aJ ?_;by_cases I:S.length<=1024/\T.length<=1024
 ·rw [if_neg (by simp;omega)];refine Tj (c:=Ax t) (ZN k.a λa9=> ?_);refine Tj (c:=Bm t) (ZN k.b λb0=>aJ ?_);by_cases G:(fV A).1=0/\(fV B).1=0
  ·obtain ⟨F,hb⟩:=G;rw [show (((fV A).1 !=0) || ((fV B).1 !=0))=false by simp [F,hb]];have D:=pn F;have m1:=D.parts;have m2:=D.table;have m3:=D.procs;unfold nP at m1;unfold nQ at m3;refine yT rfl (zqr (a:=Ax t) (b:=Bm t) (ZO k.a k.b ⟨by omega,by omega,by omega⟩ (λE=>aJ ?_) λE=>aJ ?_))
   ·rw [lz];obtain ⟨N,V,P⟩:=k.a.procs;obtain ⟨qs,a8,R⟩:=k.b.procs;have b2:N.length=A.procs.length:=P.len;have eql:qs.length=B.procs.length:=R.len;have b1:A.procs.length=B.procs.length:=E.len;have b4:t.eg.len=N.length:=V.1;refine kF (n:=N.length) (by omega) (by omega) (λi C=>C=h/\∀p:Nat,p<i->gJ A t.Label (p:Int)=true->gF A p=gF B p) ⟨rfl,λp hp=>by omega⟩ ?_ ?_
    ·rintro i hi C ⟨rfl,j⟩ K g;refine Rs.vJ (sh:=bA) (shf:=au) (off:=1) V (λ_=>rfl) (by decide) hi (λz:aU=>z.Code) (λ_=>rfl) λ(z:aU) hz=> ?_;refine Rs.vJ (sh:=bA) (shf:=au) (off:=1) a8 (λ_=>rfl) (by decide) (by omega) (λz:aU=>z.Code) (λ_=>rfl) λ(w:aU) hw=> ?_;obtain ⟨is,i1,J⟩:=Lz P hz;obtain ⟨js,j1,W⟩:=Lz R hw;have b3:is.length<=256:=by have:=D.og (p:=i);rw [<-J,List.length_map] at this;exact this
     have next:∀b:Bool,(b=true↔gF A i=gF B i)->aa prog IK [(.agg #[t.fm.v,t.fQ.v,(.int .i64 t.jA),(.int .i64 t.jB),(.int .i64 t.gX),(.int .i64 t.lH),t.eg.v]),(.int .i64 (i:Int)),(.int .u64 t.Label)] bn (λr6 O=>aI (r6&&(!b)) λy3=>(if y3=true then Q false O else K (yw ((i:Int)+1)) O)) C:=λb hb=>by
      refine Sf (c:=Ax t) (CM k.a k.ua k.u (aJ ?_));by_cases q:gJ A t.Label (i:Int)=true
      ·rw [q];by_cases l:gF A i=gF B i
       ·rw [if_neg (by rw [hb.2 l];simp)];refine g _ ⟨rfl,λp hp o=> ?_⟩;by_cases H:p=i
        ·subst H;exact l
        ·exact j p (by omega) o
       ·rw [if_pos (by rw [Bool.eq_false_iff.2 λe=>l (hb.1 e)];rfl)];exact f _ (Hp.le_refl _) λm=>l (m.code i (by unfold nQ;omega) q)
      ·rw [show gJ A t.Label (i:Int)=false from Bool.eq_false_iff.2 q,if_neg (by simp)];refine g _ ⟨rfl,λp hp o=> ?_⟩;by_cases H:p=i
       ·subst H;exact absurd o q
       ·exact j p (by omega) o
     refine zqs (a:=z.Code) (b:=w.Code) (ZM i1 j1 (by omega) (λe=> ?_) λe=> ?_)
     ·exact next true ⟨λ_=>by rw [<-J,<-W];exact e,λ_=>rfl⟩
     ·exact next false ⟨λh=>(by cases h),λZ=>absurd (by rw [J,W];exact Z) e⟩
    ·rintro C ⟨rfl,j⟩;refine zld (c:=Ax t) (JO k.a k.ua k.u k.s (by omega) λr3 k3 Y=> ?_);have L:=Y.le;refine zld (c:=Bm t) (JO (k.b.mono L) k.ub k.u (Rw.mono L k.r) (by omega) λr4 k4 M=> ?_);have X:=Hp.le_trans L M.le;have f1:=Kx (xs:=S) (p:=dx A t.Label) (i:=S.length) (by omega);rw [List.take_length] at f1;refine yz (sh:=bS) (λx:aC=>x) (Rw.mono M.le (Y.kM (λ_=>rfl))) (M.kM (λ_=>rfl)) (λ_=>rfl) (by decide) (by show (List.filter (dx A t.Label) S).length<=_;omega) (λi (x:aC) (y:aC) _ _ K g hN=>⟨_,WM,?_⟩) (λe=> ?_) λe=> ?_
     ·by_cases e:x=y
      ·rw [rC.2 e];exact g e
      ·rw [Bool.eq_false_iff.2 λhh=>e (rC.1 hh)];exact hN e
     ·exact h1 _ X ⟨I.1,I.2,F,hb,E,λp hp=>j p (by unfold nQ at hp;omega),by simpa using e⟩
     ·exact f _ X λm=>e (by simpa using m.same)
   ·rw [if_pos (by simp)];exact f _ (Hp.le_refl _) λm=>E m.gV
  ·rw [show (((fV A).1 !=0) || ((fV B).1 !=0))=true by
    simp only [Bool.or_eq_true,bne_iff_ne];refine Classical.byContradiction λU=>G ?_;simp only [not_or,Classical.not_not] at U;exact U]
   refine zv rfl false (aJ ?_);rw [if_pos (by simp)];exact f _ (Hp.le_refl _) λm=>G ⟨m.ea,m.eb⟩
 ·rw [if_pos (by simp;omega)];exact f _ (Hp.le_refl _) λm=>I ⟨m.s,m.r⟩
end
def KvA {V:Type} (m:Nat) (k:IntKind) (ev:V->Value) (j:List (Int×V)):dI:=
 ⟨λh F=>fF h m k ev j/\∀c,F c↔c=m,λ{i l F} h g=>⟨by obtain ⟨⟨e,ck,a,d⟩,b⟩:=h;exact ⟨e,ck,by rw [g m ((b m).2 rfl)];exact a,d⟩,h.2⟩,
  λ{i F} h c f=>by obtain ⟨⟨e,ck,a,d⟩,b⟩:=h;rw [(b c).1 f,a];simp⟩
section
variable {h0 k:Hp} {V:Type} {m:Nat} {b:IntKind} {ev:V->Value} {c:List (Int×V)}
theorem Has.kv (o:Has h0 (KvA m b ev c) k):fF k m b ev c/\h0 m=none:=by obtain ⟨_,F,⟨a,e⟩,d⟩:=o;exact ⟨a,d m ((e m).2 rfl)⟩
end
structure iG (h k:Hp) (c:aE) (t:fT) (pm pr:Addr) (x:ed) (R:dI):Prop where
 ex:∃K tm,K.c=c/\dF h K/\eR c tm (bN t)/\Has h ((aF K pm (bN t) tm).star ((dk AJ pr x).star R)) k
section
variable {h k:Hp} {c:aE} {t:fT} {pm pr:Addr} {x:ed} {R:dI}
theorem iG.le (q:iG h k c t pm pr x R):h<=k:=by obtain ⟨_,_,_,_,_,o⟩:=q.ex;exact o.le
theorem iG.Bb (q:iG h k c t pm pr x R):∃K d a,K.c=c/\dF a K/\eR c d (bN t)/\h<=a/\Has a (aF K pm (bN t) d) k/\∀b f g,Has a (aF K pm b f) g->eR c f b->iG h g c (b.list c) pm pr x R:=by obtain ⟨K,d,e,mk,m,o⟩:=q.ex;obtain ⟨a,i,l,_,put⟩:=o.fst;refine ⟨K,d,a,e,mk.mono i,m,i,l,λb f g j n=>⟨K,f,e,mk,Dn n,?_⟩⟩;rw [CL e];exact put _ _ j
theorem iG.run (q:iG h k c t pm pr x R):∃a,h<=a/\Has a (dk AJ pr x) k/\∀x' b,Has a (dk AJ pr x') b->iG h b c t pm pr x' R:=by obtain ⟨K,p,e,mk,n,o⟩:=q.ex;obtain ⟨a,f,j,_,put⟩:=o.snd;obtain ⟨d,g,l,_,m⟩:=j.fst;exact ⟨d,Hp.le_trans f g,l,λx' b i=>⟨K,p,e,mk,n,put _ _ (m _ _ i)⟩⟩
theorem iG.rest (q:iG h k c t pm pr x R):∃a,h<=a/\Has a R k/\∀b d,Has a b d->iG h d c t pm pr x b:=by obtain ⟨K,r,e,mk,p,o⟩:=q.ex;obtain ⟨a,g,l,_,put⟩:=o.snd;obtain ⟨f,i,m,_,n⟩:=l.snd;exact ⟨f,Hp.le_trans g i,m,λb d j=>⟨K,r,e,mk,p,put _ _ (n _ _ j)⟩⟩
theorem iG.grow {a:Hp} (q:iG h k c t pm pr x R) (l:k<=a):iG h a c t pm pr x R:=by obtain ⟨K,d,e,mk,b,o⟩:=q.ex;exact ⟨K,d,e,mk,b,o.grow l⟩
theorem iG.beside {b:Hp} {B:dI} (q:iG h k c t pm pr x R) (d:Has k B b):iG h b c t pm pr x (R.star B):=by obtain ⟨K,g,e,mk,f,o⟩:=q.ex;refine ⟨K,g,e,mk,f,?_⟩;have:=o.beside d;exact (this.assoc).map λ_ _=>zm (λ_ a=>a) λ_=>LU
theorem iG.Bf {a:Hp} (q:jX h k c t t pm none) (b:Has k (dk AJ pr x) a):iG h a c t pm pr x (.fact True):=by obtain ⟨K,f,g,j,e,mk,d,i,o⟩:=q.ex;exact ⟨K,f,e,mk,d,(Has.left o).beside (b.beside (Has.fact trivial (Hp.le_refl _)))⟩
theorem iG.tick {Q:Int->Hp->Prop} (q:iG h k c t pm pr x R) (e:cf c) (g:GT c t) (d:t.tick<4611686018427387904) (b:∀a,iG h a c (lR c t) pm pr x R->Q (iT c t.tick:Int) a):NB prog (some pm) Q k:=by obtain ⟨K,o,m,rfl,mk,j,n,i,put⟩:=q.Bb;exact SW S2 mk e i g.iz d j λp a f l=>b a (put _ _ _ f l)
theorem iG.inj {p v:Int} {Q:Int->Hp->Prop} (q:iG h k c t pm pr x R) (b:cf c) (g:GT c t) (d:∀a,iG h a c (qM c t p v) pm pr x R->Q (zip c (bN t) p v).2 a):Nv prog (some pm) p v Q k:=by obtain ⟨K,j,l,rfl,mk,i,m,f,put⟩:=q.Bb;exact Zx mk b f (g.iz.qU b) λa e=>d a (put _ j _ e (i.bK QW))
theorem iG.kill {p:Int} {Q:Int->Hp->Prop} (q:iG h k c t pm pr x R) (b:cf c) (g:GT c t) (d:∀a,iG h a c (mG c t p) pm pr x R->Q (iD c (bN t) p).2 a):NC prog (some pm) p Q k:=by obtain ⟨K,n,l,rfl,mk,i,m,f,put⟩:=q.Bb;exact SU mk b f (g.iz.qU b) i λo a e j=>d a (put _ _ _ e j)
theorem iG.state {Q:aD->Hp->Prop} (q:iG h k c t pm pr x R) (e:cf c) (g:GT c t) (m:∀r b a,h<=b->dq b r t->iG b a c t pm pr x R->Q r a):Nx prog (some pm) Q k:=by obtain ⟨K,v,rfl,mk,i,o⟩:=q.ex;obtain ⟨w,n,p,_,put⟩:=o.fst;refine QD (mk.mono n) e p (g.iz.qU e) i λr a f=> ?_;rw [M7 g.parts g.procs] at f;have s:=Has.carry (put _) f;obtain ⟨j,d,u,⟨F,⟨B,l,_⟩,_⟩,_⟩:=s.fst;exact m r j a d l.rd ⟨K,v,rfl,mk.mono d,i,u⟩
end
def Ck :List (Int×pD):=[(1,⟨.func (.func 61) #[] #[],rfl⟩),(2,⟨.func (.func 62) #[] #[],rfl⟩),(3,⟨.func (.func 63) #[] #[],rfl⟩)]
theorem CN {P:Program} {k:Hp} {Q:Option Nat->Hp->Prop} (d:∀m a,k<=a->fF a m .i64 kg.enc Ck->Q (some m) a):Cs P Q k:=by unfold Cs;intro b hb;have e:fF (k.set b (.map #[] 0)) b .i64 kg.enc ([]:List (Int×pD)):=⟨[],0,nI,rfl⟩;have c:k<=k.set b (.map #[] 0):=ni hb;refine M3 (ev:=kg.enc) (v:=(⟨.func (.func 61) #[] #[],rfl⟩:pD)) e λi _ f=> ?_;refine M3 (ev:=kg.enc) (v:=(⟨.func (.func 62) #[] #[],rfl⟩:pD)) f λj _ g=> ?_;refine M3 (ev:=kg.enc) (v:=(⟨.func (.func 63) #[] #[],rfl⟩:pD)) g λl _ h=> ?_;exact d b _ (wG (wG (wG c hb) hb) hb) h
def kY (c:aE) (t:fT):Nat->fT
 | 0=>t
 | n+1=>lR c (kY c t n)
section
variable {h k:Hp} {c:aE} {t:fT} {pm pr:Addr} {x:ed} {R:dI}
theorem MZ (a:cf c) (g:GT c t) (i:t.tick<4611686018427000000):∀n:Nat,n<=100000->GT c (kY c t n)/\(kY c t n).tick=t.tick+n
 | 0,_=>⟨g,by simp [kY]⟩
 | n+1,j=>by obtain ⟨e,b⟩:=MZ a g i n (by omega);obtain ⟨f,d⟩:=e.tick a (by omega);exact ⟨f,by show (lR c (kY c t n)).tick=_;rw [d,b];omega⟩
theorem ZP {s:aC} {Q:Int->Hp->Prop} (q:iG h k c t pm pr x R) (n:cf c) (g:GT c t) (w:x.m=some pm) (I:t.tick=x.bY) (hb:0<=x.bY/\x.bY<=65536) (D:1<=s.N) (E:s.N<=65536-x.bY)
  (v:∀i,iG h i c (kY c t s.N.toNat) pm pr ⟨some pm,x.bY+s.N,(iT c (t.tick+(s.N-1)):Int)⟩ R->Q 0 i):N4 prog (some pr) s Q k:=by
 unfold N4;rw [if_neg (by simp;omega)];obtain ⟨F,O,y,_⟩:=q.run;refine aP (y.ld (shf:=af .i64) x.bY rfl ?_);rw [aT,if_neg (by simp;omega)];refine aA.intro (λ(j:Int) k=>0<=j/\j<=s.N/\∃a,iG h k c (kY c t j.toNat) pm pr ⟨some pm,x.bY,a⟩ R/\(0<j->a=(iT c (t.tick+(j-1)):Int))) (λj _=>(s.N-j).toNat) ⟨by omega,by omega,x.owner,?_,λr=>absurd r (by omega)⟩ ?_
 ·have e:x=⟨some pm,x.bY,x.owner⟩:=by rw [<-w]
  rw [<-e];exact q
 rintro j L ⟨J,K,a,o,u⟩;obtain ⟨gj,p⟩:=MZ n g (by omega) j.toNat (by omega);obtain ⟨G,P,b,A⟩:=o.run;by_cases f:j<s.N
 ·rw [if_pos (decide_eq_true f)];refine aP (b.ld (shf:=ag) (some pm) rfl ?_);refine ztn (o.tick n gj (by omega) λM C=> ?_);obtain ⟨H,S,z,B⟩:=C.run;refine aP (z.st (x':=⟨some pm,x.bY,(iT c (kY c t j.toNat).tick:Int)⟩) (show 3<=3 by omega) rfl λl d=> ?_);rw [aT];refine ⟨⟨by omega,by omega,(iT c (kY c t j.toNat).tick:Int),?_,λ_=> ?_⟩,by omega⟩
  ·have e:(j+1).toNat=j.toNat+1:=by omega
   rw [e];exact B _ _ d
  ·rw [p];congr 2;omega
 ·rw [if_neg (λe=>f (of_decide_eq_true e))];obtain rfl:j=s.N:=by omega
  refine aP (b.ld (shf:=af .i64) x.bY rfl (aP ?_));rw [aT];refine b.st (x':=⟨some pm,x.bY+s.N,a⟩) (show 2<=3 by omega) rfl λl d=>v l ?_;rw [<-u (by omega)];exact A _ _ d
theorem Em {Q:cU->Hp->Prop} {e:Int} (q:iG h k c t pm pr x R) (b:Q ⟨e,x.bY,x.owner⟩ k):
  ai none (some pr) λp=>aR none (af .i64) k (Addr.add p 1) λx=>ai none (some pr) λd=>aR none (af .i64) k (Addr.add d 2) λf=>Q ⟨e,x,f⟩ k:=by
 obtain ⟨g,i,a,_⟩:=q.run;exact aP (a.ld (shf:=af .i64) x.bY rfl (aP (a.ld (shf:=af .i64) x.owner rfl b)))
theorem Ky {s:aC} {Q:cU->Hp->Prop} (q:iG h k c t pm pr x R) (w:cf c) (g:GT c t) (r:x.m=some pm) (p:t.tick=x.bY) (hb:0<=x.bY/\x.bY<=65536) (o:s.Kind=1) (i:1<=s.N) (j:s.N<=65536-x.bY)
  (n:∀a b,a=⟨0,x.bY+s.N,(iT c (t.tick+(s.N-1)):Int)⟩->iG h b c (kY c t s.N.toNat) pm pr ⟨some pm,x.bY+s.N,(iT c (t.tick+(s.N-1)):Int)⟩ R->Q a b):Dk prog (some pr) s Q k:=by
 unfold Dk;refine cQ.intro (λe b=>e=0/\iG h b c (kY c t s.N.toNat) pm pr ⟨some pm,x.bY+s.N,(iT c (t.tick+(s.N-1)):Int)⟩ R) ?_ ?_
 ·refine YT (CN λm y u mk=>⟨⟨trivial,trivial⟩,?_⟩);rw [o];refine Eu (z:=(⟨.nilFunc,rfl⟩:pD)) mk rfl (λl=>by cases l) λv hv=> ?_;cases hv;rw [if_pos rfl];exact tv rfl (zur (ZP (q.grow u) w g r p hb i j λf d=>⟨rfl,d⟩))
 ·rintro e f ⟨rfl,d⟩;exact Em d (n _ f rfl d)
end
theorem ZQ {c:aE} (ok:(fV c).1=0):(1<=c.labels.length/\c.labels.length<=8)/\(0<=c.ae/\c.ae<=8)/\(0<=c.log/\c.log<=4096)/\(1<=c.lane/\c.lane<=64)/\(1<=c.procs.length/\c.procs.length<=32)/\
  ∀p∈c.procs,(0<=p.part/\p.part<=c.labels.length-1)/\p.code.length<=256/\∀x∈p.code,(jj x p.code.length c.ae).1=0:=by
 obtain ⟨d,j,k,l,m,f,b,g,h,e,a⟩:=jI.1 ok;obtain ⟨i,n,o⟩:=gU.1 d;have:=List.length_pos_iff.2 i;have:=List.length_pos_iff.2 h;refine ⟨⟨by omega,by omega⟩,b,g,f,⟨by omega,e⟩,λp hp=>⟨(a p hp).1,(L8 b).1 (a p hp).2⟩⟩
section
end
theorem zW {b h:Hp} {m:Sl} {bs:List UInt8} {n:Nat} {len:Int} {es:List (List UInt8)} {B:(Sl->Int->Hp->Prop)->Sl->Int->Hp->Prop} {X:Sl->Int->Hp->Prop} (u:len=(n:Int)) (r:b<=h) (o:lW b h m bs) (A:es.length=n) (v:n<=4611686018427387904) (hb:bs.length+es.flatten.length<=2000000)
  (w:∀(i:Nat) e,es[i]? =some e->∀l g a,b<=a->lW b a l g->g.length+e.length<=2000000->∀K:Sl->Int->Hp->Prop,(∀d c,b<=c->lW b c d (g++e)->K d (yw ((i:Int)+1)) c)->B K l (i:Int) a)
  (y:∀l a,b<=a->lW b a l (bs++es.flatten)->X l (n:Int) a):
  bT (λp x t h=>if decide (t<len)=true then B p x t h else X x t h) m (0:Int) h:=by
 refine forA u v (λi l a=>b<=a/\lW b a l (bs++(es.take i).flatten)) ⟨r,by simpa using o⟩ ?_ ?_
 ·rintro i C l a ⟨j,f⟩ K q;have k:=List.getElem?_eq_getElem (show i<es.length by omega);obtain ⟨s1,s2⟩:=Vb (bs:=bs) k;refine w i _ k l _ a j f (by omega) K λd c s z=>q d c ⟨s,?_⟩;rw [<-s1];exact z
 ·rintro l a ⟨j,f⟩;rw [List.take_of_length_le (by omega)] at f;exact y l a j f
theorem yA {n:Int}: [Value.int .u8 (IntKind.wrap .u8 n)]=(cW n 1).map λb=>Value.int .u8 (b.toNat:Int):=by simp [cW,qC]
section
variable {h0 h:Hp} {l:Sl} {bs:List UInt8} {Q:Sl->Hp->Prop}
theorem Of {P:Program} {n m:Int} {k:Nat} (f:m=(k:Int)) (d:k<=8) (e:h0<=h) (o:lW h0 h l bs) (hb:bs.length<=2000000) (c:∀b a,h0<=a->lW h0 a b (bs++cW n k)->Q b a):SV P l n m Q h:=by unfold SV;exact Im f d e o (by omega) c
theorem Q5 {P:Program} {x:aK} (f:h0<=h) (o:lW h0 h l bs) (hb:bs.length<=2000000) (e:∀b a,h0<=a->lW h0 a b (bs++mF (bd x))->Q b a):Vt P l x Q h:=by unfold Vt;refine D5 f o (cW x.Op 1++(cW x.A 1++(cW x.B 1++cW x.C 1))) (by simp [cW,qC]) rfl (by simp only [List.length_append,mh];omega) λp n i m _=> ?_;refine Im (k:=8) rfl (by omega) i m (by simp only [List.length_append,mh];omega) λg d j c=>e g d j ?_;rw [yJ (by omega)] at c;simpa [mF,bd,List.append_assoc] using c
theorem Jc {c:an} {p:aE} {Q:Sl->Int->Hp->Prop} (a:fo h c p) (N:(fV p).1=0->(mz p).length<=1048576) (Z:(fV p).1≠0->Q ⟨none,0,0⟩ (fV p).1 h)
  (h1:(fV p).1=0->∀out m,h<=m->lW h m out (mz p)->Q out 0 m):SS prog c Q h:=by
 unfold SS;refine Tj (ZN a λ_=> ?_);by_cases g:(fV p).1≠0
 ·rw [if_pos (by simpa using g)];exact Z g
 rw [if_neg (by simpa using g)];have g:=Classical.not_not.1 g;have N:=N g;obtain ⟨H,S,J⟩:=a.procs;have b2:c.aN.len=p.labels.length:=a.labels.1;have c1:c.Table.len=p.table.length:=a.table.1;have c0:c.aG.len=H.length:=S.1;have O:=J.len;have g1:(p.labels.map λv=>cW v 8).flatten.length=8*p.labels.length:=zu _ λ_=>mh _ _;have g2:(p.table.map λv=>cW v 1).flatten.length=1*p.table.length:=zu _ λ_=>mh _ _;have hL:(mz p).length=14+(p.labels.map λv=>cW v 8).flatten.length+(p.table.map λv=>cW v 1).flatten.length+(p.procs.map gu).flatten.length:=by simp only [mz,List.length_append,mh,List.flatMap_def,List.length_cons,List.length_nil];omega
 obtain ⟨-, -, -, -,⟨d2,d3⟩, -⟩:=ZQ g;refine uP (h0:=h) (xs:=[70,66,67,70,1]++cW (c.aN.len:Int) 1) (enc:=eB) (sz:=1) (Hp.le_refl h) (by simp [cW,qC,eB]) zK λa1 k1 c3 o1=> ?_;refine zW (n:=p.labels.length) (es:=p.labels.map λv=>cW v 8) (by omega) c3 o1 (by simp) (by omega) (by simp only [List.length_append,mh,List.length_cons,List.length_nil];omega) ?_ λb1 k2 c4 z=> ?_
 ·intro i e d F D m f s A K o;rw [List.getElem?_map] at d;cases hv:p.labels[i]? with
  | none=>rw [hv] at d;cases d
  | some v=>rw [hv] at d;cases d;have L:=(List.getElem?_eq_some_iff.1 hv).1;refine pF (sh:=af .u64) (Rw.mono f a.labels) λ(x:Int) b=> ?_;have b:p.labels[i]? =some x:=b;rw [hv] at b;cases b;exact Nr (Of (k:=8) rfl (by omega) f s (by omega) o)
 refine D5 c4 z (cW (c.Table.len:Int) 1) yA rfl (by simp only [List.length_append,mh,List.length_cons,List.length_nil];omega) λb3 k3 c5 C _=> ?_;refine zW (n:=p.table.length) (es:=p.table.map λv=>cW v 1) (by omega) c5 C (by simp) (by omega) (by simp only [List.length_append,mh,List.length_cons,List.length_nil];omega) ?_ λb4 k4 c6 G=> ?_
 ·intro i e d F D m f s A K o;rw [List.getElem?_map] at d;cases hv:p.table[i]? with
  | none=>rw [hv] at d;cases d
  | some v=>rw [hv] at d;cases d;have L:=(List.getElem?_eq_some_iff.1 hv).1;refine pF (sh:=af .i64) (Rw.mono f a.table) λ(x:Int) b=> ?_;have b:p.table[i]? =some x:=b;rw [hv] at b;cases b;exact D5 f s (cW v 1) yA rfl (by simp only [mh] at A ⊢;omega) λU I E z _=>o U I E z
 refine Nr (Of (k:=2) rfl (by omega) c6 G (by simp only [List.length_append,mh,List.length_cons,List.length_nil];omega) λb5 k5 c7 V=> ?_);rw [yJ (by omega)] at V;refine D5 c7 V (cW c.gH 1++cW c.bQ 1) (by simp [cW,qC]) rfl (by simp only [List.length_append,mh,List.length_cons,List.length_nil];omega) λb6 k6 c8 o6 _=> ?_;refine Nr (Of (k:=2) rfl (by omega) c8 o6 (by simp only [List.length_append,mh,List.length_cons,List.length_nil];omega) λb7 k7 c9 W=> ?_);rw [yJ (by omega)] at W;refine D5 c9 W (cW (c.aG.len:Int) 1) yA rfl (by simp only [List.length_append,mh,List.length_cons,List.length_nil];omega) λb8 k8 d0 o8 _=> ?_;refine zW (n:=H.length) (es:=p.procs.map gu) (by omega) d0 o8 (by rw [List.length_map,O]) (by omega) (by simp only [List.length_append,mh,List.length_cons,List.length_nil];omega) ?_ λY k9 d1 X=> ?_
 ·intro i e d F D m f s A K o;rw [List.getElem?_map] at d;cases hv:p.procs[i]? with
  | none=>rw [hv] at d;cases d
  | some v=>
   rw [hv] at d;cases d;obtain ⟨q,T,c2,y,M,P⟩:=J.get' hv;have L:=(List.getElem?_eq_some_iff.1 T).1;have a8:q.Code.len=y.length:=M.1;have R:y.length=v.code.length:=by rw [<-P,List.length_map]
   have d4:(v.code.map mF).flatten.length=12*v.code.length:=zu _ λ_=>by simp [mF,mh]
   have d6:(gu v).length=3+(v.code.map mF).flatten.length:=by simp only [gu,ru,List.length_append,mh,List.flatMap_def];omega
   refine pF (sh:=bA) (Rw.mono f S) λx b=> ?_;have b:H[i]? =some x:=b;rw [T] at b;cases b;refine D5 f s (cW q.Part 1) yA rfl (by rw [mh];omega) λU I E z _=> ?_;refine Nr (Of (k:=2) rfl (by omega) E z (by simp only [List.length_append,mh];omega) λl3 h3 a9 C=> ?_);rw [yJ (by omega)] at C;refine zW (n:=y.length) (es:=v.code.map mF) (by omega) a9 C (by rw [List.length_map,R]) (by omega) (by simp only [List.length_append,mh];omega) ?_ λl4 h4 b0 G=> ?_
   ·intro j e t F D m f s A K o;rw [List.getElem?_map] at t;cases r:v.code[j]? with
    | none=>rw [r] at t;cases t
    | some u=>
     rw [r] at t;cases t;rw [<-P,List.getElem?_map] at r;cases B:y[j]? with
     | none=>rw [B] at r;cases r
     | some w=>rw [B] at r;cases r;have d5:=(List.getElem?_eq_some_iff.1 B).1;refine pF (sh:=aV) (Rw.mono f M) λx b=> ?_;have b:y[j]? =some x:=b;rw [B] at b;cases b;exact zwj (Q5 f s (by omega) o)
   ·refine o l4 h4 b0 ?_;have e:gu v=cW q.Part 1++(cW (q.Code.len:Int) 2++(v.code.map mF).flatten):=by rw [c2,a8,R];simp [gu,ru,List.flatMap_def]
    rw [e];simpa [List.append_assoc] using G
 ·refine h1 g Y k9 d1 ?_;rw [b2,c1,a.fuel,a.lane,a.ae,a.log,c0,O] at X;simpa [mz,List.append_assoc,List.flatMap_def] using X
end
section
variable {h k:Hp}
theorem Kz {raw:Sl} {a:List UInt8} {Q:Option Addr->Int->Int->Hp->Prop} (j:Bs k raw a) (q:raw.len<=raw.cap) (r:∀c,tr a=.ok c->(fV c).1=0/\∀l∈c.labels,kQ l)
  (n:∀e p b,k<=b->tr a=.error (e,p)->e≠0->Q none e (p:Int) b)
  (s:∀c pm pr hb g,tr a=.ok c->k<=hb->iG hb g c ((qF c).list c) pm pr ⟨some pm,0, -1⟩ (.fact True)->Q (some pr) 0 0 g):Cr prog raw Q k:=by
 unfold Cr;refine So (WJ j q (λe p b l f d=> ?_) λx c B A v i o nd fr=> ?_)
 ·rw [if_pos (by simpa using d)];exact n e p b l f d
 rw [if_neg (by decide)];obtain ⟨f,t⟩:=r c i;refine Sr (Vk o.rd t (λg _ d=>absurd f d) λpm C _ D st=> ?_);rw [if_neg (by decide)];obtain ⟨m,w,z⟩:=st.pair;refine se (sh:=AJ) (⟨some pm,0, -1⟩:ed) rfl λp u E y=> ?_;exact s c pm p m u i (Hp.le_trans v w) (iG.Bf z y)
end
theorem LH {A:dI} {k:Hp} {F:Nat->Prop} (h:(A.star (.fact True)).R k F):A.R k F:=by obtain ⟨c,f,a,_,a1,_,d⟩:=h;have:F=c:=funext λb=>propext ⟨λhb=>((a b).1 hb).elim id λe=>absurd e (d b),λhb=>(a b).2 (.inl hb)⟩;rw [this];exact a1
section
variable {h k:Hp} {c:aE} {t:fT} {pm pr:Addr} {x:ed} {R:dI}
theorem YC {s:aC} {Q:cU->Hp->Prop} (q:iG h k c t pm pr x R) (w:cf c) (g:GT c t) (C:x.m=some pm) (B:t.tick<=4611686018427387904) (r:s.Kind≠1)
  (E:∀a b u,iG h u c b pm pr x R->GT c b->b.tick=t.tick->(∀l,dy c (s::l) t=dy c l b)->Q a u):Dk prog (some pr) s Q k:=by
 unfold Dk;refine cQ.intro (λ_ u=>∃b,iG h u c b pm pr x R/\GT c b/\b.tick=t.tick/\∀l,dy c (s::l) t=dy c l b) ?_ ?_
 ·refine YT (CN λm H F mk=>⟨⟨trivial,trivial⟩,?_⟩);have y:=q.grow F;obtain ⟨G,I,D,_⟩:=y.run;refine Eu (z:=(⟨.nilFunc,rfl⟩:pD)) mk rfl (λo=> ?_) λv hv=> ?_
  ·rw [if_neg (by decide)];have f:s.Kind≠2:=λe=>by rw [e] at o;cases o
   have d:s.Kind≠3:=λe=>by rw [e] at o;cases o
   exact ⟨t,y,g,rfl,λl=>by rw [AK,if_neg r,if_neg f,if_neg d]⟩
  ·rw [if_pos rfl];by_cases f:s.Kind=2
   ·rw [f] at hv;cases hv;refine tv rfl (P4 ?_);unfold zxa;refine aP (D.ld (shf:=ag) (some pm) (by rw [<-C];rfl) ?_);refine zrz (y.inj w g λA i=> ?_);obtain ⟨n,j⟩:=g.inj w B (p:=s.N) (v:=s.V);exact ⟨_,i,n,j,λl=>by rw [AK,if_neg r,if_pos f]⟩
   ·by_cases d:s.Kind=3
    ·rw [d] at hv;cases hv;refine tv rfl (Ru ?_);unfold H4;refine aP (D.ld (shf:=ag) (some pm) (by rw [<-C];rfl) ?_);refine zto (y.kill w g λA i=> ?_);obtain ⟨n,j⟩:=g.kill w B (p:=s.N);exact ⟨_,i,n,j,λl=>by rw [AK,if_neg r,if_neg f,if_pos d]⟩
    ·exfalso;rw [show gT s.Kind Ck=none by simp only [Ck,gT];rw [if_neg r,if_neg f,if_neg d]] at hv;cases hv
 ·rintro e A ⟨b,i,n,j,d⟩;exact Em i (E _ b A i n j d)
theorem KA {s:aC} {Q:cU->Hp->Prop} (q:iG h k c t pm pr x R) (i:s.Kind=1) (b:s.N=1) (hb:x.bY=65536) (g:∀a,iG h a c t pm pr x R->Q ⟨3,x.bY,x.owner⟩ a):Dk prog (some pr) s Q k:=by
 unfold Dk;refine cQ.intro (λe a=>e=3/\iG h a c t pm pr x R) ?_ ?_
 ·refine YT (CN λm o d mk=>⟨⟨trivial,trivial⟩,?_⟩);rw [i];refine Eu (z:=(⟨.nilFunc,rfl⟩:pD)) mk rfl (λb=>by cases b) λv hv=> ?_;cases hv;rw [if_pos rfl];refine tv rfl (zur ?_);unfold N4;rw [if_neg (by simp;omega)];obtain ⟨n,p,l,_⟩:=(q.grow d).run;refine aP (l.ld (shf:=af .i64) x.bY rfl ?_);rw [aT,if_pos (by simp;omega)];exact ⟨rfl,q.grow d⟩
 ·rintro e j ⟨rfl,f⟩;exact Em f (g j f)
end
structure ir (hb k:Hp) (A B:aE) (t1 t2:fT) (pm pr qm qr:Addr) (x y:ed):Prop where
 ex:∃K1 tm1 K2 tm2,K1.c=A/\dF hb K1/\eR A tm1 (bN t1)/\K2.c=B/\dF hb K2/\eR B tm2 (bN t2)/\Has hb (((aF K1 pm (bN t1) tm1).star (dk AJ pr x)).star ((aF K2 qm (bN t2) tm2).star (dk AJ qr y))) k
section
variable {hb k:Hp} {A B:aE} {t1 t2:fT} {pm pr a b:Addr} {x y:ed}
theorem ir.flip (d:ir hb k A B t1 t2 pm pr a b x y):ir hb k B A t2 t1 a b pm pr y x:=by obtain ⟨c,m,e,n,h,j,f,i,l,g,o⟩:=d.ex;exact ⟨e,n,c,m,i,l,g,h,j,f,o.comm⟩
theorem ir.le (d:ir hb k A B t1 t2 pm pr a b x y):hb<=k:=by obtain ⟨_,_,_,_,_,_,_,_,_,_,o⟩:=d.ex;exact o.le
theorem ir.Fv (d:ir hb k A B t1 t2 pm pr a b x y):∃R,iG hb k A t1 pm pr x R/\∀c f g h,hb<=c->iG c f A g pm pr h R->ir c f A B g t2 pm pr a b h y:=by obtain ⟨i,z,j,C,p,s,m,r,t,n,o⟩:=d.ex;refine ⟨_,⟨i,z,p,s,m,o.assoc⟩,λc f g h l q=> ?_⟩;obtain ⟨K,w,e,mk,v,u⟩:=q.ex;exact ⟨K,w,j,C,e,mk,v,r,t.mono l,n,u.vy⟩
theorem ir.base {P:Program} {g:FuncId} {args:List Value} {sh:Shape} {K0 K:sh.T->Hp->Prop} (d:ir hb k A B t1 t2 pm pr a b x y) (p:aa P g args sh (λz c=>hb<=c/\K0 z c) hb) (q:∀z c e,hb<=c->K0 z c->ir c e A B t1 t2 pm pr a b x y->K z e):aa P g args sh K k:=by obtain ⟨f,u,h,v,m,r,i,n,s,j,o⟩:=d.ex;refine OF o p ?_;rintro z c e ⟨l,h0⟩ t;exact q z c e l h0 ⟨f,u,h,v,m,r.mono l,i,n,s.mono l,j,t⟩
theorem ir.state {Q:aD->Hp->Prop} (d:ir hb k A B t1 t2 pm pr a b x y) (i:x.m=some pm) (j:cf A) (g:GT A t1) (h:∀r c e,hb<=c->dq c r t1->ir c e A B t1 t2 pm pr a b x y->Q r e):XI prog (some pr) Q k:=by obtain ⟨R,q,put⟩:=d.Fv;unfold XI;obtain ⟨f,p,n,_⟩:=q.run;refine aP (n.ld (shf:=ag) (some pm) (by rw [<-i];rfl) ?_);exact zsi (q.state j g λr c e l f o=>h r c e l f (put c e t1 x l o))
end
section
variable {hb k:Hp} {A B:aE} {t1 t2:fT} {pm pr b f:Addr} {x y:ed}
theorem KB {s:Sl} {L:List aC} {K:Int->Hp->Prop} (F:tN hb s L) (hn:L.length<=1024) (mc:cf A) (g:GT A t1) (ht:t1.tick<=4611686018427387904) (hx:x.m=some pm) (d:ir hb k A B t1 t2 pm pr b f x y) {l:Nat} (Z:l<=L.length)
  (E:∀(i:Nat) r,i<=L.length->(dy A (L.drop l) t1).1=L.drop i->ir hb r A B (dy A (L.drop l) t1).2 t2 pm pr b f x y->K (i:Int) r):
 aA (α1:=Int) (λT a p=>
 (((decide (a<((s.len:Nat):Int)))=true->(bF s.base s.len a))/\aR (some (decide (a<((s.len:Nat):Int)))) (af .i64) p (Addr.add (sat s.base 3 a) 0) λx=>
 aI ((decide (a<((s.len:Nat):Int)))&&(x !=(1:Int))) λy3=>
 (if y3=true then
 ((bF s.base s.len a)/\aR none bS p (sat s.base 3 a) λx1=>
 aa prog AG [(.pointer (some pr)),x1.v] yu (λ_ X=>
 T (yw (a+(1:Int))) X) p)
 else K a p))) (l:Int) k:=by
 obtain ⟨R,I⟩:∃R,R=dy A (L.drop l) t1:=⟨_,rfl⟩;rw [<-I] at E;have b2:s.len=L.length:=F.1;refine aA.byN (λn S r=>∃i:Nat,∃t,n=L.length-i/\S=(i:Int)/\i<=L.length/\GT A t/\t.tick<=4611686018427387904/\dy A (L.drop i) t=R/\ir hb r A B t t2 pm pr b f x y) (n0:=L.length-l) ⟨l,t1,rfl,rfl,Z,g,ht,I.symm,d⟩ ?_;rintro n S O K1 ⟨i,t,rfl,rfl,J,V,M,h,o⟩ Y;by_cases b3:i<L.length
 ·obtain ⟨U,z,G,a8⟩:=Rw.read (Rw.mono o.le F) (λ_=>rfl) (by decide) (i:=(i:Int)) (by omega) (by omega);rw [Int.toNat_natCast] at G;have C:decide ((i:Int)<((s.len:Nat):Int))=true:=iV;rw [C];have rF:=LI (c:=A) (bY:=0) G;refine ⟨λ_=>U,z.Kind,λ_=> ?_,aJ ?_⟩
  ·intro j v D
   match j,D with
   | 0,D=>exact a8 0 v D
  rw [Bool.true_and];by_cases u:z.Kind=1
  ·rw [if_neg (by simp [u])];rw [rF,AK,if_pos u,<-rF] at h;subst h;exact E i O J rfl o
  ·rw [if_pos (by simpa using u)];refine pF (sh:=bS) (Rw.mono o.le F) λ(w:aC) N=> ?_;rw [Int.toNat_natCast,G] at N;cases N;obtain ⟨R',q,put⟩:=o.Fv;refine JP (s:=z) (YC q mc V hx M u λ_ Q P q2 W b0 a9=> ?_);rw [aT];refine Y (L.length-(i+1)) _ P (by omega) ⟨i+1,Q,rfl,by omega,by omega,W,by rw [b0];exact M,?_,put hb P Q x (Hp.le_refl _) q2⟩;rw [<-a9,<-rF];exact h
 ·have C:decide ((i:Int)<((s.len:Nat):Int))=false:=decide_eq_false (by omega);rw [C];refine ⟨λe=>(by cases e),0,λe=>(by cases e),aJ ?_⟩;rw [lz];have e:i=L.length:=by omega
  subst e;have H:L.drop L.length=[]:=List.drop_length;rw [H] at h;have h:(([],t):List aC×fT)=R:=h;subst h;exact E L.length O J H.symm o
theorem Q6 {x:cU} {p q:Operand} {h:Hp}:iC prog (cS .neq 42 p q x.v x.v) h (.bool false):=
 YV [(⟨ "E",33,0,false, "", "",0⟩,.i64,x.E),(⟨ "Tick",2,1,false, "", "",8⟩,.i64,x.fg),(⟨ "Owner",3,2,false, "", "",16⟩,.i64,x.Ae)]
  (bG.bO 42 HK rfl) (by kernel_rfl) (by kernel_rfl) λq a=>by
   simp only [List.mem_cons,List.not_mem_nil,or_false] at a;rcases a with rfl | rfl | rfl
   ·exact ⟨by simp,bG.bO 33 HH rfl,rfl⟩
   ·exact ⟨by simp,bG.bO 2 te rfl,rfl⟩
   ·exact ⟨by simp,bG.bO 3 uO rfl,rfl⟩
variable {S T:List aC} {a:Int}
theorem ir.both {Q:cU->cU->Hp->Prop} {n c:Int} (m:jo A B S T a) (h:lJ A B a t1 t2) (i:t1.tick=n) (p:0<=n) (r:n<=65536) (d:ir hb k A B t1 t2 pm pr b f ⟨some pm,n,c⟩ ⟨some b,n,c⟩)
  (F:∀z I C K g J,lJ A B a C K->C.tick=g->0<=g->g<=65536->ir hb I A B C K pm pr b f ⟨some pm,g,J⟩ ⟨some b,g,J⟩->Q z z I):
  aa prog AG [(.pointer (some pr)),(.agg #[(.int .i64 (1:Int)),(.int .i64 (1:Int)),(.int .i64 (0:Int))])] yu (λx U=>
   aa prog AG [(.pointer (some f)),(.agg #[(.int .i64 (1:Int)),(.int .i64 (1:Int)),(.int .i64 (0:Int))])] yu (λy V=>Q x y V) U) k:=by
 have W:=pn m.ea;have X:=pn m.eb;have P:=h.kh;obtain ⟨R,q,put⟩:=d.Fv;by_cases D:n=65536
 ·refine JP (s:=⟨1,1,0⟩) (KA (x:=⟨some pm,n,c⟩) q rfl rfl D λo u=> ?_);have j:=put hb o t1 _ (Hp.le_refl _) u;obtain ⟨L,v,t⟩:=j.flip.Fv;refine JP (s:=⟨1,1,0⟩) (KA (x:=⟨some b,n,c⟩) v rfl rfl D λe w=> ?_);exact F _ e t1 t2 n c h i p r (t hb e t2 _ (Hp.le_refl _) w).flip
 ·have E:(1:Int)<=65536-n:=by omega
  obtain ⟨w,Z,q5⟩:=h.tick m (by omega);refine JP (s:=⟨1,1,0⟩) (Ky (x:=⟨some pm,n,c⟩) q W h.ga rfl i ⟨p,r⟩ rfl (show (1:Int)<=1 by omega) E λx o G u=> ?_);have j:=put hb o _ _ (Hp.le_refl _) u;obtain ⟨L,v,t⟩:=j.flip.Fv;refine JP (s:=⟨1,1,0⟩) (Ky (x:=⟨some b,n,c⟩) v X h.gb rfl (show t2.tick=n by rw [<-P,i]) ⟨p,r⟩ rfl (show (1:Int)<=1 by omega) E λy e H Y=> ?_);have l:=(t hb e _ _ (Hp.le_refl _) Y).flip;have M:t1.tick+((⟨1,1,0⟩:aC).N-1)=t1.tick:=by show t1.tick+((1:Int)-1)=_;omega
  have O:t2.tick+((⟨1,1,0⟩:aC).N-1)=t2.tick:=by show t2.tick+((1:Int)-1)=_;omega
  rw [M] at G l;rw [O,<-Z] at H l;subst G;subst H;exact F _ e (lR A t1) (lR B t2) (n+1) _ w (by rw [q5,i]) (by omega) (by omega) l
end
section
variable {h:Hp} {t:aX} {A B:aE} {S T:List aC}
theorem pR {Q:Bool->Hp->Prop} (f:uE h t A B S T) (tA:Typed A) (tB:Typed B) (hq:∀o,h<=o->Q true o):RB prog t Q h:=by
 unfold RB;refine zwi (t:=t) (Va f (λk1 l1 m=> ?_) λk1 l1 _=> ?_)
 ·rw [lz];have Z:=pn m.ea;have mb:=pn m.eb;refine zjy (c:=Ax t) (Jc (f.a.mono l1) (λ_=>yy tA m.ea) (λhn=>absurd m.ea hn) λ_ oa k2 X o2=> ?_);refine zjy (c:=Bm t) (Jc (f.b.mono (Hp.le_trans l1 X)) (λ_=>yy tB m.eb) (λhn=>absurd m.eb hn) λ_ ob k3 Y o3=> ?_);refine aJ ?_;rw [lz];have ca:tr (mz A)=.ok A:=K9 Kl (El tA m.ea) (yy tA m.ea);have cb:tr (mz B)=.ok B:=K9 Kl (El tB m.eb) (yy tB m.eb);have ba:Bs k3 oa (mz A):=Rw.mono Y (o2.rw λ_=>rfl);have bb:Bs k3 ob (mz B):=o3.rw λ_=>rfl;refine IG (raw:=oa) (Kz ba o2.2.1 (λc w=> ?_) (λe p o _ w _=> ?_) λc pm pr g3 k4 w M q=> ?_)
  ·rw [ca] at w;cases w;exact ⟨m.ea,f.ua⟩
  ·rw [ca] at w;cases w
  rw [ca] at w;cases w;obtain ⟨K1,i5,e1,h8,i3,o1⟩:=q.ex;refine CJ o1 (IG (raw:=ob) (Q:=λr g _ o=>∃y H J,r=some H/\g=0/\g3<=J/\iG J o B ((qF B).list B) y H ⟨some y,0, -1⟩ (.fact True)) (Kz (Rw.mono M bb) o3.2.1 (λc w=> ?_) (λe p o _ w _=> ?_) λc y H J k5 w G q2=> ?_)) ?_
  ·rw [cb] at w;cases w;exact ⟨m.eb,f.ub⟩
  ·rw [cb] at w;cases w
  ·rw [cb] at w;cases w;exact ⟨y,H,J,rfl,rfl,G,q2⟩
  rintro r g z k5 k6 ⟨y,H,J,rfl,rfl,G,q2⟩ i0;obtain ⟨K2,i6,e2,h9,i4,i1⟩:=q2.ex;have d0:ir J k6 A B ((qF A).list A) ((qF B).list B) pm pr y H ⟨some pm,0, -1⟩ ⟨some y,0, -1⟩:=
   ⟨K1,i5,K2,i6,e1,h8.mono G,i3,e2,h9,i4,((i1.map λ_ _=>zm (λ_ a=>a) λ_=>LH).beside (i0.map λ_ _=>zm (λ_ a=>a) λ_=>LH)).comm⟩
  have V:h<=J:=Hp.le_trans l1 (Hp.le_trans X (Hp.le_trans Y (Hp.le_trans M G)));refine aJ (aJ (aJ ?_));rw [lz];refine cL.intro (λP=>∃hb t1 t2,∃bY x:Int,h<=hb/\lJ A B t.Label t1 t2/\ir hb P A B t1 t2 pm pr y H ⟨some pm,bY,x⟩ ⟨some y,bY,x⟩) ?_ ?_
  ·refine bT.intro (λi k P=>∃hb t1 t2,∃E K:Nat,∃bY x:Int,i=(E:Int)/\k=(K:Int)/\h<=hb/\E<=S.length/\K<=T.length/\(S.drop E).filter (dx A t.Label)=(T.drop K).filter (dx A t.Label)/\lJ A B t.Label t1 t2/\t1.tick=bY/\0<=bY/\bY<=65536/\ir hb P A B t1 t2 pm pr y H ⟨some pm,bY,x⟩ ⟨some y,bY,x⟩)
    (λi _ _=>(S.length-i).toNat) ⟨J,_,_,0,0,0, -1,rfl,rfl,V,Nat.zero_le _,Nat.zero_le _,by rw [List.drop_zero,List.drop_zero,m.same,m.gV.bK],lJ.first m,(DT Z).2,by omega,by omega,d0⟩ ?_
   rintro i k k7 ⟨hb,t1,t2,E,K,bY,x,rfl,rfl,U,hi,hj,hf,b6,et,g1,g2,d⟩;have hs:=Rw.mono U f.s;have hr:=Rw.mono U f.r;have h6:t.S.len=S.length:=f.s.1;have h1:t.T.len=T.length:=f.r.1;refine aJ ?_;by_cases l6:E<S.length\/K<T.length
   ·rw [if_pos (by simp;omega)];obtain ⟨R1,c3⟩:∃R,dy A (S.drop E) t1=R:=⟨_,rfl⟩;obtain ⟨R2,c4⟩:∃R,dy B (T.drop K) t2=R:=⟨_,rfl⟩;have e0:=Q3 m ((S.drop E).length+(T.drop K).length) (Nat.le_refl _) hf b6 (by omega);have a8:=(zw (c:=A) (L:=S.drop E) (t:=t1)).1;have a9:=(zw (c:=B) (L:=T.drop K) (t:=t2)).1;have f7:=(zw (c:=A) (L:=S.drop E) (t:=t1)).2;rw [c3] at e0 a8 f7;rw [c4] at e0 a9;obtain ⟨⟨C,O⟩,g0⟩:=e0;refine KB hs m.s Z b6.ga (by omega) rfl d hi λF k8 i9 b2 d1=> ?_;refine KB hr m.r mb b6.gb (by rw [<-b6.kh];omega) rfl d1.flip hj λj2 k9 j1 c0 d2=> ?_;rw [c3] at b2;rw [c4] at c0;have D:=d2.flip;rw [c3] at D;rw [c4] at D;obtain ⟨n1,i7,f4⟩:=f7;have j0:E<=F\/F=S.length:=by rw [b2] at f4;have:=congrArg List.length f4;rw [List.length_drop,List.length_drop,List.length_drop] at this;omega
    have e9:F=S.length↔j2=T.length:=by
     constructor
     ·intro e;rw [b2,e,List.drop_length] at C;refine Classical.byContradiction λf5=> ?_;have c8:j2<T.length:=by omega
      have hd:=LI (c:=A) (bY:=0) (List.getElem?_eq_getElem c8);rw [c0,hd] at C a9;have c7:=a9 _ _ rfl;rw [List.filter_cons_of_pos (by unfold dx;rw [c7];rfl)] at C;cases C
     ·intro e;rw [c0,e,List.drop_length] at C;refine Classical.byContradiction λf5=> ?_;have c8:F<S.length:=by omega
      have hd:=LI (c:=A) (bY:=0) (List.getElem?_eq_getElem c8);rw [b2,hd] at C a8;have c7:=a8 _ _ rfl;rw [List.filter_cons_of_pos (by unfold dx;rw [c7];rfl)] at C;cases C
    have cs:∀n:Nat,((n:Int)==((t.S.len:Nat):Int))=decide (n=S.length):=λn=>Bool.eq_iff_iff.2 (by rw [h6,beq_iff_eq,decide_eq_true_iff];omega);have ct:∀n:Nat,((n:Int)==((t.T.len:Nat):Int))=decide (n=T.length):=λn=>Bool.eq_iff_iff.2 (by rw [h1,beq_iff_eq,decide_eq_true_iff];omega);rw [cs,ct];have g6:decide (F=S.length)=decide (j2=T.length):=decide_eq_decide.2 e9;rw [if_neg (by rw [g6];simp)];by_cases c6:F=S.length
    ·rw [if_pos (decide_eq_true c6)];exact ⟨hb,_,_,bY,x,U,O,D⟩
    ·rw [if_neg (λe=>c6 (of_decide_eq_true e))];have f5:=λe=>c6 (e9.2 e);have g8:F<S.length:=by omega
     have g9:j2<T.length:=by omega
     have g4:=LI (c:=A) (bY:=0) (List.getElem?_eq_getElem g8);have g5:=LI (c:=A) (bY:=0) (List.getElem?_eq_getElem g9);rw [b2,g4] at C a8;rw [c0,g5] at C a9;have q1:=a8 _ _ rfl;have q2:=a9 _ _ rfl;rw [List.filter_cons_of_pos (by unfold dx;rw [q1];rfl),List.filter_cons_of_pos (by unfold dx;rw [q2];rfl)] at C;obtain ⟨-,g7⟩:=List.cons.inj C;refine cL.intro (λP=>∃hb t1 t2,∃bY x:Int,h<=hb/\lJ A B t.Label t1 t2/\t1.tick=bY/\0<=bY/\bY<=65536/\ir hb P A B t1 t2 pm pr y H ⟨some pm,bY,x⟩ ⟨some y,bY,x⟩) ?_ ?_
     ·refine aA.intro (λ(n:Int) P=>0<=n/\n<=300/\∃hb t1 t2,∃bY x:Int,h<=hb/\lJ A B t.Label t1 t2/\t1.tick=bY/\0<=bY/\bY<=65536/\ir hb P A B t1 t2 pm pr y H ⟨some pm,bY,x⟩ ⟨some y,bY,x⟩) (λn _=>(300-n).toNat) ⟨by omega,by omega,hb,_,_,bY,x,U,O,by rw [g0,et],g1,g2,D⟩ ?_;rintro n h7 ⟨n0,n3,c5,u1,u2,e5,e4,b4,c1,b7,b8,b9,d7⟩;obtain ⟨b1,z,hz,h0⟩:=Rw.read (Rw.mono (Hp.le_trans b4 d7.le) f.s) (λ_=>rfl) (by decide) (i:=(F:Int)) (by omega) (by show (F:Int)<(t.S.len:Int);omega);refine ⟨b1,z.N,λj v hj=> ?_,aJ ?_⟩
      ·match j,hj with
       | 0,hj=>exact h0 1 v hj
      by_cases f0:n<z.N/\n<300
      ·rw [if_pos (by simpa using f0)];refine d7.both m c1 b7 b8 b9 λz l7 v1 v2 f9 f8 W e6 e7 e8 d8=>⟨false,Q6,?_⟩;have b0:=GT.mR Z W.ga;have c2:=GT.mR mb W.gb;refine uJ (NO (d8.state rfl Z W.ga λs1 h2 k2 X c9 d2=>⟨⟨trivial,trivial,trivial,trivial,trivial⟩,?_⟩));have V:=Hp.le_trans b4 X;refine uJ (d2.base (K0:=λv o=>dq o v (lS A v1 t.Label)) (ND (c:=Ax t) (Oe (f.a.mono V) c9 f.ua f.u b0 λv o l hv=>⟨l,hv⟩)) λw1 h3 k3 Y e3 D=>⟨⟨trivial,trivial,trivial⟩,?_⟩);refine uJ (NO (D.flip.state rfl mb W.gb λs2 h4 k4 M d9 d4=>⟨⟨trivial,trivial,trivial⟩,?_⟩));have b5:=Hp.le_trans V (Hp.le_trans Y M);refine uJ (d4.base (K0:=λv o=>dq o v (lS B v2 t.Label)) (ND (c:=Bm t) (Oe (f.b.mono b5) d9 f.ub f.u c2 λv o l hv=>⟨l,hv⟩)) λw2 h5 k5 G b3 d5=> ?_);have I:=d5.flip;rw [<-W.view m] at b3;refine uJ (zmh (Lx ((e3.mono (Hp.le_trans M G)).mono I.le) (b3.mono I.le) b0.view.le (aJ ?_)));rw [lz];have f6:=Hp.le_trans b5 G;split
       ·exact ⟨h5,v1,v2,f9,f8,f6,W,e6,e7,e8,I⟩
       ·rw [aT];exact ⟨⟨by omega,by omega,h5,v1,v2,f9,f8,f6,W,e6,e7,e8,I⟩,by omega⟩
      ·rw [if_neg (by simpa using f0)];exact ⟨c5,u1,u2,e5,e4,b4,c1,b7,b8,b9,d7⟩
     ·rintro h7 ⟨c5,u1,u2,e5,e4,b4,c1,b7,b8,b9,d7⟩;have ms:=m.s;have mr:=m.r;rw [aT,aT];exact ⟨⟨c5,u1,u2,F+1,j2+1,e5,e4,by omega,by omega,b4,by omega,by omega,g7,c1,b7,b8,b9,d7⟩,by omega⟩
   ·rw [if_neg (by simp;omega)];exact ⟨hb,t1,t2,bY,x,U,b6,d⟩
  ·rintro k7 ⟨hb,t1,t2,bY,x,U,O,D⟩;have b0:=GT.mR Z O.ga;have c2:=GT.mR mb O.gb;refine NO (D.state rfl Z O.ga λs1 h2 k2 X c9 d2=>⟨⟨trivial,trivial,trivial,trivial,trivial⟩,?_⟩);have V:=Hp.le_trans U X;refine d2.base (K0:=λv o=>dq o v (lS A t1 t.Label)) (ND (c:=Ax t) (Oe (f.a.mono V) c9 f.ua f.u b0 λv o l hv=>⟨l,hv⟩)) λv1 h3 k3 Y e3 D=>⟨⟨trivial,trivial,trivial⟩,?_⟩;refine NO (D.flip.state rfl mb O.gb λs2 h4 k4 M d9 d4=>⟨⟨trivial,trivial,trivial⟩,?_⟩);have b5:=Hp.le_trans V (Hp.le_trans Y M);refine d4.base (K0:=λv o=>dq o v (lS B t2 t.Label)) (ND (c:=Bm t) (Oe (f.b.mono b5) d9 f.ub f.u c2 λv o l hv=>⟨l,hv⟩)) λv2 h5 k5 G b3 d5=> ?_;have I:=d5.flip;rw [<-O.view m] at b3;refine zmh (Lx ((e3.mono (Hp.le_trans M G)).mono I.le) (b3.mono I.le) b0.view.le ?_);exact hq _ (Hp.le_trans (Hp.le_trans b5 G) I.le)
 ·rw [if_pos (by simp)];exact hq k1 l1
end
end Lf
namespace Lf
open Go Go.Proofs Go.ChangeShapes Go.WideShapes Go.ChangeAt Go.RowKit
section
variable {H:Type} {enc:TypeId×Value->H} {W:World}
theorem M0 :lu enc Tryz.prog W 27 λa=>∃(l:Sl) (b:List aC),a=[l.v]/\pG W 3 qu (λx=>pB x.Kind/\pB x.N/\pB x.V) l b:=
 Mb (bG.bO 27 Hj rfl) qu _ (sz:=3) (by kernel_rfl) (by rw [show Tryz.prog.bytesOf 40=24 by kernel_rfl];omega) V8 λ_=>rfl
theorem sD {v:Value} {d:DataW H} {G:List MemPlace} (h:DataW.Trod enc Tryz.prog W 0 (λ_=>true) true 30 v d G) (b:(DataW.weights Tryz.prog 30 d).all (· <=reachBytes)=true):
  ∃(t:aX) (A B:aE) (S T:List aC),v=dD.enc t/\uE (whole W) t A B S T/\Typed A/\Typed B:=by
 obtain ⟨fuel,h⟩:=h;have a:=bG.bO 30 Hv rfl;have k:=wZ a h;rw [show Tryz.prog.cellsOf 30=17 by kernel_rfl] at k;have f:Tryz.prog.cellsOf 27=1:=by kernel_rfl
 obtain ⟨x,z,p⟩:=pA a h b (i:=0) (off:=0) rfl rfl vA Ap;obtain ⟨y,C,q⟩:=pA a h b (i:=1) (off:=7) rfl rfl vA Ap;obtain ⟨s,S,D,u⟩:=pA a h b (i:=2) (off:=14) rfl rfl f M0;obtain ⟨r,T,E,w⟩:=pA a h b (i:=3) (off:=15) rfl rfl f M0;obtain ⟨n,F,I⟩:=pA a h b (i:=4) (off:=16) rfl rfl MW FL;obtain ⟨A,l,at_,J⟩:=JF p;obtain ⟨B,o,c,K⟩:=JF q;generalize j:v.cells.toList=g at*;refine ⟨⟨x.aN,x.Table,x.Fuel,x.gH,x.bQ,x.Log,x.aG,y.aN,y.Table,y.Fuel,y.gH,y.bQ,y.Log,y.aG,s,r,n⟩,A,B,S,T,?_,⟨l,o,u.Ay,w.Ay,MX at_,MX c,JC I⟩,at_,c⟩;have e:g=g.drop 0:=rfl;rw [e,pw (m:=7) z rfl,pw (m:=14) C rfl,pw (m:=15) D rfl,pw (m:=16) E rfl,pw (m:=17) F rfl,List.drop_of_length_le (Nat.le_of_eq k)] at j;exact V4 j (by simp)
end
end Lf
