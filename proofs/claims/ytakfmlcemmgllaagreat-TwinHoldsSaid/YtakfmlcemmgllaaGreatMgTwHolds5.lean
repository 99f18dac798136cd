/-
  Part 6 of the texts that the claim leans on.
-/
import Derived.Test.YtakfmlcemmgllaaGreatMgTwHolds4
set_option maxRecDepth 100000
namespace Lf
open Go Go.Proofs Tryz
section
variable {P:Program} {h:Hp}
theorem rf {a:Type} {v:a} {A:(a->Hp->Prop)->Prop} {B:a->Hp->Prop} (c:∀k:a->Hp->Prop,k v h->A k) (d:B v h):dp A B:=dp.intro (λx b=>x=v/\b=h) (c _ ⟨rfl,rfl⟩) (by grind)
def Fx (op:Int) (k:Bool->Hp->Prop) (h:Hp):List Int->Prop
 | []=>True
 | [a]=>k (op==a) h
 | a::b::r=>if (op==a)=true then k (op==a) h else Fx op k h (b::r)
theorem uE {op:Int} {k:Bool->Hp->Prop}:∀l:List Int,l≠ []->k (decide (op∈l)) h->Fx op k h l
 | [],d,_=>absurd rfl d
 | [a],_,c=>by
  have:(op==a)=decide (op∈ [a]):=by rw [Bool.eq_iff_iff];simp
  show k (op==a) h;grind
 | a::b::r,_,c=>by
  show if (op==a)=true then k (op==a) h else Fx op k h (b::r)
  by_cases e:op=a
  ·grind
  ·rw [if_neg (by simpa using e)];refine uE (b::r) (by simp) ?_;grind
theorem RY {op:Int} {Q:Bool->Bool->Bool->Bool->Hp->Prop} (a:Q (kG op).1 (kG op).2.1 (kG op).2.2.1 (kG op).2.2.2 h):T4 P op Q h:=by
 unfold T4;unfold kG at a;by_cases c:op=1
 ·rw [if_pos c] at a;rw [if_pos (by simpa using c)];exact a
 rw [if_neg c] at a;rw [if_neg (by simpa using c)];refine rf (h:=h) (v:=decide (op∈ [2,20,21,25,26])) (λk b=>uE [2,20,21,25,26] (by simp) b) ?_;by_cases d:op∈ [2,20,21,25,26]
 ·rw [if_pos (decide_eq_true d)];rw [if_pos (by simpa using d)] at a;exact a
 rw [if_neg (λe=>d (of_decide_eq_true e))];rw [if_neg (by simpa using d)] at a;refine rf (h:=h) (v:=decide (op∈ [3,4,5,6,7,8,9,10,11,12,13,14])) (λk b=>uE [3,4,5,6,7,8,9,10,11,12,13,14] (by simp) b) ?_;by_cases f:op∈ [3,4,5,6,7,8,9,10,11,12,13,14]
 ·rw [if_pos (decide_eq_true f)];rw [if_pos (Or.inl (by simp at f;omega))] at a;exact a
 rw [if_neg (λe=>f (of_decide_eq_true e))];refine rf (h:=h) (v:=decide (op∈ [15,16,17,18,19,24])) (λk b=>uE [15,16,17,18,19,24] (by simp) b) ?_;by_cases g:op∈ [15,16,17,18,19,24]
 ·rw [if_pos (decide_eq_true g)];rw [if_pos (Or.inr (by simp at g;omega))] at a;exact a
 rw [if_neg (λe=>g (of_decide_eq_true e))];rw [if_neg (by simp at f g;omega)] at a;refine rf (h:=h) (v:=decide (op∈ [22,29,30])) (λk b=>uE [22,29,30] (by simp) b) ?_;by_cases i:op∈ [22,29,30]
 ·rw [if_pos (decide_eq_true i)];rw [if_pos (by simpa using i)] at a;exact a
 rw [if_neg (λe=>i (of_decide_eq_true e))];rw [if_neg (by simpa using i)] at a;by_cases j:op=23
 ·rw [if_pos j] at a;rw [if_pos (by simpa using j)];exact a
 rw [if_neg j] at a;rw [if_neg (by simpa using j)];refine rf (h:=h) (v:=decide (op∈ [27,28,31,32,33])) (λk b=>uE [27,28,31,32,33] (by simp) b) ?_;grind
theorem zxn {has:Bool} {n:Int} {Q:Int->Hp->Prop} (b:Q (gu has n) h):SB P n has Q h:=by
 unfold SB;unfold gu at b;refine aJ ?_;by_cases a:has=false/\n≠0
 ·rw [if_pos a] at b;rw [if_pos (by simp [a.1,a.2])];exact b
 rw [if_neg a] at b;rw [if_neg (by intro e;simp at e;exact a e)];refine aJ (aJ ?_);grind
theorem Uc {x:bc} {n ai:Int} {Q:Int->Int->Hp->Prop} (a:Q (mI (bD x) n ai).1 (mI (bD x) n ai).2 h):UY prog x n ai Q h:=by
 obtain ⟨o,A,B,C,I⟩:=x;have a:Q (mI ⟨o,A,B,C,I⟩ n ai).1 (mI ⟨o,A,B,C,I⟩ n ai).2 h:=a;unfold UY;unfold mI at a;refine aJ ?_;by_cases i:o<0\/34<=o
 ·rw [if_pos i] at a;rw [if_pos (by simp;omega)];exact a
 rw [if_neg i] at a;rw [if_neg (by simp;omega)];refine zvp (RY ?_);dsimp only;refine R4 (zxn ?_);by_cases c:gu (kG o).1 A≠0
 ·rw [if_pos c] at a;rw [if_pos (by simpa using c)];exact a
 rw [if_neg c] at a;rw [if_neg (by simpa using c)];refine R4 (zxn ?_);by_cases d:gu (kG o).2.1 B≠0
 ·rw [if_pos d] at a;rw [if_pos (by simpa using d)];exact a
 rw [if_neg d] at a;rw [if_neg (by simpa using d)];refine R4 (zxn ?_);by_cases f:gu (kG o).2.2.1 C≠0
 ·rw [if_pos f] at a;rw [if_pos (by simpa using f)];exact a
 rw [if_neg f] at a;rw [if_neg (by simpa using f)];refine aJ ?_;by_cases b:(kG o).2.2.2=false/\I≠0
 ·rw [if_pos b] at a;rw [if_pos (by simp [b.1,b.2])];exact a
 rw [if_neg b] at a;rw [if_neg (by intro e;simp at e;exact b e)];refine aJ (aJ (aJ ?_));by_cases g:(o=22\/o=23)/\(I<0\/n<I)
 ·rw [if_pos g] at a;rw [if_pos (by simp;exact g)];exact a
 rw [if_neg g] at a;rw [if_neg (by intro e;simp at e;exact g e)];refine aJ (aJ (aJ ?_));grind
theorem Ud {x:bc} {n ai:Int} {Q:Int->Hp->Prop} (a:Q (mI (bD x) n ai).1 h):UW prog x n ai Q h:=by unfold UW;exact zxl (Uc a)
theorem Qi {l:Sl} {a:List bc} {ai:Int} {Q:Int->Int->Hp->Prop} (r:lR h l a) (b:∀at_,Q (jJ (a.map bD) ai).1 at_ h):VL prog l ai Q h:=by
 unfold VL;have p:l.len=a.length:=r.1;unfold jJ at b;rw [List.length_map] at b;refine aJ ?_;by_cases f:ai<0\/8<ai
 ·grind
 rw [if_neg f] at b;rw [if_neg (by simp;omega)];by_cases g:256<a.length
 ·grind
 rw [if_neg g] at b;rw [if_neg (by simp;omega)];refine iX (n:=a.length) (by omega) (by omega) (λi e=>e=h/\(km (a.length:Int) ai ((a.map bD).drop i) i).1=(km (a.length:Int) ai (a.map bD) 0).1) ⟨rfl,rfl⟩ ?_ ?_
 ·rintro i o k ⟨rfl,c⟩ K m;refine Rs.get (sh:=bn) r (λ_=>rfl) (by omega) (by omega) (by omega) λx d=> ?_;have d:a[i]? =some x:=d;have j:(a.map bD).drop i=bD x::(a.map bD).drop (i+1):=Ja (by rw [List.getElem?_map,d];rfl);rw [j,km] at c;refine zxj (Ud ?_);grind
 ·rintro k ⟨rfl,c⟩;rw [List.drop_of_length_le (by simp),km] at c;grind
theorem Gs {n a b:Int} {Q:Bool->Hp->Prop} (c:Q (jF n a b) h):TR P n a b Q h:=by unfold TR;exact aJ c
end
section
variable {h:Hp}
theorem R0 {l:Sl} {a:List Int} {n:Nat} {Q:Int->Hp->Prop} (r:Is h l a) (t:n<=8) (b:Q (if a=[] then 1 else if 64<a.length then 3 else if (a.all λp=>jF p 0 ((n:Int)-1))=false then 2 else 0) h):TQ prog l (n:Int) Q h:=by
 unfold TQ;have q:l.len=a.length:=r.1;by_cases f:a=[]
 ·rw [if_pos f] at b;rw [if_pos (by rw [q,f];rfl)];exact b
 rw [if_neg f] at b;have hp:=List.length_pos_iff.2 f;rw [if_neg (by rw [beq_iff_eq];omega)];by_cases g:64<a.length
 ·rw [if_pos g] at b;rw [if_pos (decide_eq_true (by omega))];exact b
 rw [if_neg g] at b;rw [if_neg (λe=>g (by have:=of_decide_eq_true e;omega))];rw [wrap64 (n:=(n:Int)-1) (by omega) (by omega)];refine iX (n:=a.length) (by omega) (by omega) (λi j=>j=h/\∀x∈a.take i,jF x 0 ((n:Int)-1)=true) ⟨rfl,λx d=>by simp at d⟩ ?_ ?_
 ·rintro i s k ⟨rfl,o⟩ K m;refine Rs.get (sh:=ab .i64) r (λ_=>rfl) (by omega) (by omega) (by omega) λ(x:Int) d=> ?_;have d:a[i]? =some x:=d;refine Gf (Gs ?_);by_cases c:jF x 0 ((n:Int)-1)=true
  ·rw [if_neg (by rw [c];simp)];refine m k ⟨rfl,λy hy=> ?_⟩;rw [List.take_add_one,d] at hy;rcases List.mem_append.1 hy with hy | hy
   ·exact o y hy
   ·have:y=x:=by simpa using hy
    rw [this];exact c
  ·have c:jF x 0 ((n:Int)-1)=false:=by simpa using c
   rw [if_pos (by rw [c];rfl)];rw [if_pos (List.all_eq_false.2 ⟨x,List.mem_of_getElem? d,by rw [c];simp⟩)] at b;exact b
 grind
theorem aah {P:Program} {l:Sl} {a:List Int} {Q:Int->Int->Hp->Prop} (r:Us h l a) (b:Q (jM a).1 (jM a).2 h):zsk P l Q h:=DP (P:=P) r b
theorem acJ (a b c d:Bool) {i:Nat} (e:i<4):List.get?Internal (α:=Value) [.bool a,.bool b,.bool c,.bool d] (0+(i*1))=some (.bool (([a,b,c,d]:List Bool).getD i false)):=by
 match i,e with
 | 0,_=>rfl
 | 1,_=>rfl
 | 2,_=>rfl
 | 3,_=>rfl
theorem Lm {x:az} {c:aW} {Q:Int->Int->Hp->Prop} (a:dQ h x c) (b:∀at_,Q (gN c).1 at_ h):VK prog x Q h:=by
 unfold VK;have G:x.be.len=c.labels.length:=a.labels.1;unfold gN uq at b;refine Qc (aah a.labels ?_);dsimp only;by_cases l:(jM c.labels).1≠0
 ·grind
 rw [if_neg l] at b;rw [if_neg (by simpa using l)];obtain ⟨R,F,_⟩:=lf.1 (Classical.not_not.1 l);rw [G];refine zvi (R0 a.table F ?_);by_cases A:c.table=[]
 ·grind
 rw [if_neg A] at b ⊢;by_cases B:64<c.table.length
 ·grind
 rw [if_neg B] at b ⊢;by_cases C:(c.table.all λp=>jF p 0 (c.labels.length-1))=false
 ·grind
 rw [if_neg C] at b ⊢;rw [if_neg (by simp)];refine Gf (Gs ⟨⟨trivial,trivial,trivial,trivial⟩,Gf (Gs ⟨⟨trivial,trivial,trivial⟩,Gf (Gs ⟨⟨trivial,trivial⟩,Gf (Gs ?_)⟩)⟩)⟩);rw [a.fuel,a.lane,a.ai,a.log];refine iX (n:=4) rfl (by omega) (λi z=>z=h/\(1<=i->jF c.fuel 1 256=true)/\(2<=i->jF c.lane 1 64=true)/\(3<=i->jF c.ai 0 8=true)/\(4<=i->jF c.log 0 4096=true)) ⟨rfl,λe=>by omega,λe=>by omega,λe=>by omega,λe=>by omega⟩ ?_ ?_
 ·rintro i u k ⟨rfl,N,w,y,O⟩ K D;refine ⟨⟨by omega,by omega⟩,_,acJ _ _ _ _ u,?_⟩;grind
 ·rintro k ⟨rfl,N,w,y,O⟩;rw [if_neg (by grind),if_neg (by rw [w (by omega)];simp),if_neg (by rw [y (by omega)];simp),if_neg (by grind)] at b;obtain ⟨j,o,t⟩:=a.procs;have S:x.aE.len=j.length:=o.1;have T:=t.len;by_cases r:c.procs=[]
  ·grind
  rw [if_neg r] at b;have V:0<c.procs.length:=List.length_pos_iff.2 r;rw [if_neg (by grind)];by_cases s:32<c.procs.length
  ·grind
  rw [if_neg s] at b;rw [if_neg (λe=>s (by grind))];refine iX (n:=j.length) (by omega) (by omega) (λi J=>J=k/\(ud c.labels.length c.ai (c.procs.drop i) i).1=(ud c.labels.length c.ai c.procs 0).1) ⟨rfl,rfl⟩ ?_ ?_
  ·rintro i u L ⟨rfl,d⟩ K D;refine Rw.vv o (λ_=>rfl) (by omega) (sh:=ab .i64) (λq=>q.Part) (λ_=>rfl) (by omega) (by omega) λq g=> ?_;have g:j[i]? =some q:=g;obtain ⟨v,H,I,X,E,U⟩:=t.get g;rw [Ja H,ud] at d;rw [wrap64 (n:=(c.labels.length:Int)-1) (by omega) (by omega)];refine Gf (Gs ?_);rw [I];by_cases m:jF v.part 0 ((c.labels.length:Int)-1)=false
   ·rw [if_pos m] at d;rw [if_pos (by rw [m];rfl)];rw [<-d] at b;exact b _
   rw [if_neg m] at d;rw [if_neg (by cases W:jF v.part 0 ((c.labels.length:Int)-1)<;>simp_all)];refine Rw.vv o (λ_=>rfl) (by omega) (sh:=an) (λq=>q.Code) (λ_=>rfl) (by omega) (by omega) λM f=> ?_;have f:j[i]? =some M:=f;rw [g] at f;cases f;refine Qd (Qi E λP=> ?_);grind
  ·rintro L ⟨rfl,d⟩;rw [List.drop_of_length_le (by omega),ud] at d;grind
theorem Jg {a n:Int} {Q:Bool->Hp->Prop} (d:jq a) (b:0<=n) (c:n<=63) (f:Q (bit a n.toNat) h):VO prog a n Q h:=by
 unfold VO;refine aJ ⟨λ_=>b,aJ ?_⟩;have e:(decide (n>=0)&&decide (n<=63))=true:=by simp;omega
 rw [e,adr d b c,Bool.true_and];exact f
theorem Ue {a b:Int} {Q:Bool->Hp->Prop} (j:jq a) (hb:jq b) (r:Q (jg a b) h):UR prog a b Q h:=by
 unfold UR;refine iX (n:=64) rfl (by omega) (λn k=>k=h/\∀m:Nat,m<n->bit a m=true->bit b m=true) ⟨rfl,λm c=>by omega⟩ ?_ ?_
 ·rintro n o k ⟨rfl,d⟩ K i;refine zpk (Jg j (by omega) (by omega) ?_);have p:(bit a n=true->bit b n=true)->K (yw ((n:Int)+1)) k:=λq=>i k ⟨rfl,λm c=>by
   grind⟩
  rw [show ((n:Int)).toNat=n from rfl];cases f:bit a n with
  | false=>refine ⟨λe=>(by cases e),λ_=>⟨false,aJ ?_⟩⟩;grind
  | true=>
   refine ⟨λ_=>zpk (Jg hb (by omega) (by omega) (aJ ?_)),λe=>(by cases e)⟩;rw [show ((n:Int)).toNat=n from rfl];cases g:bit b n with
   | false=>
    rw [if_pos (by simp)];have:jg a b=false:=by refine Bool.eq_false_iff.2 λl=> ?_;have:=iF.1 l n o f;rw [g] at this;cases this
    grind
   | true=>grind
 ·rintro k ⟨rfl,d⟩;have:jg a b=true:=iF.2 λm c=>d m c;grind
end
section
variable {c:aW} {s:MS} {t:fA}
structure GT (c:aW) (t:fA):Prop where
 gO:Good c (iE c) (bp t) No No t.tick
 parts:t.parts.length=nP c
 procs:t.procs.length=nQ c
theorem GT.of (m:cH c) (g:Good c (iE c) s No No s.tick) (a:s.tick<=4611686018427387904):GT c (s.list c):=
 ⟨L3 m (Good.may m g a) λx b=>by
  obtain ⟨p,hp,rfl⟩:=List.mem_map.1 b;exact (g.proc p (List.mem_range.1 hp)).bJ,XD,XF⟩
theorem aaj {D:Int->Int->Int->Int} (m:cH c) {fl:Nat->Nat->Bool} (g:Good c fl s No No s.tick):(jm c D fl s).tick=s.tick+1:=by have b:=(g.rN (T':=s.tick+1) (by omega)).due (i:=iU c s.tick);obtain ⟨_,a⟩:=Good.turns (D:=D) m (m.jP (t:=s.tick)) c.fuel.toNat b rfl;have a:(me c D fl (iU c s.tick) c.fuel.toNat (iu c s (iU c s.tick))).tick=s.tick:=a;show (me c D fl (iU c s.tick) c.fuel.toNat (iu c s (iU c s.tick))).tick+1=_;rw [a]
theorem GT.tick (m:cH c) (g:GT c t) (a:t.tick<4611686018427387904):GT c (jl c t)/\(jl c t).tick=t.tick+1:=by have e:(jm c gx (iE c) (bp t)).tick=t.tick+1:=aaj m g.gO;exact ⟨GT.of m (g.gO.vU m) (by omega),e⟩
theorem GT.inj (m:cH c) (g:GT c t) (a:t.tick<=4611686018427387904) {p v:Int}:GT c (nW c t p v)/\(nW c t p v).tick=t.tick:=by have e:(rW c (bp t) p v).1.tick=t.tick:=Sc;exact ⟨GT.of m (by rw [e];exact g.gO.Cx) (by omega),e⟩
theorem GT.kill (m:cH c) (g:GT c t) (a:t.tick<=4611686018427387904) {p:Int}:GT c (kP c t p)/\(kP c t p).tick=t.tick:=by have e:(iN c (bp t) p).1.tick=t.tick:=X4;exact ⟨GT.of m (by rw [e];exact g.gO.kill m) (by omega),e⟩
theorem GT.le (m:cH c) (g:GT c t):vd t:=aea (g.gO.om m) m g.parts g.procs
theorem GT.may (m:cH c) (g:GT c t) (a:t.tick<=4611686018427387904):Cm c t:=by have:=Good.may m g.gO a;rw [wB g.parts g.procs] at this;exact (acG m).2 this
theorem zj (m:cH c):GT c ((pj c).list c)/\((pj c).list c).tick=0:=⟨GT.of m (Good.first m) (by show (0:Int)<=_;decide),rfl⟩
end
section
variable {h k:Hp}
theorem s7 {a:Type} {b:Bool} {A:(a->Hp->Prop)->Hp->Prop} {K:a->Hp->Prop} (hb:b=false) (x:a) (c:K x h):cP (some b) A K h:=⟨λe=>(by grind),λ_=>⟨x,c⟩⟩
theorem nt {a:Type} {b:Bool} {A:(a->Hp->Prop)->Hp->Prop} {K:a->Hp->Prop} (hb:b=true) (c:A K h):cP (some b) A K h:=⟨λ_=>c,λe=>(by grind)⟩
variable {c:aW} {t1 t2 t:fA} {pm:Addr} {n:Option Addr}
end
theorem KY {P:Program} {t:Nat} {x y:Operand} {h:Hp} {a:Array Value} (L:List (Field×IntKind×Int)) (l:P.underlying t=some (.struct (L.map (·.1)).toArray)) (i:P.eqGuardType P.depth t=false) (hp:P.stoodInHeld t=false)
  (g:∀q∈L,q.1.name≠ "_" ∧P.underlying q.1.type=some (.int q.2.1)∧a[q.1.offset]? =some (.int q.2.1 q.2.2)):
  ia P (cT .eql t x y (.agg a) (.agg a)) h (.bool true):=by
 have c:(L.map λq=>(q.1,q.2.1,q.2.2,q.2.2)).map (·.1)=L.map (·.1):=by rw [List.map_map];rfl
 have d:((L.map λq=>(q.1,q.2.1,q.2.2,q.2.2)).all λq=>q.2.2.1==q.2.2.2)=true:=by simp
 rw [<-d];refine IX (L.map λq=>(q.1,q.2.1,q.2.2,q.2.2)) (by rw [c];exact l) i hp λq j=> ?_;obtain ⟨m,k,rfl⟩:=List.mem_map.1 j;obtain ⟨e,f,b⟩:=g m k;exact ⟨e,f,b,b⟩
theorem R5 {P:Program} {t e n:Nat} {x y:Operand} {h:Hp} {a:Array Value} (l:P.underlying t=some (.array n e)) (b:(P.info? e).isSome=true) (f:P.underlying e=some (.int .i64)) (d:P.cellsOf e=1) (g:P.eqGuardType P.depth t=false)
  (m:∀j,j<n->∃v,a[j]? =some (.int .i64 v)):ia P (cT .eql t x y (.agg a) (.agg a)) h (.bool true):=by
 obtain ⟨i,b⟩:=Option.isSome_iff_exists.1 b;refine Eo λw=> ?_;have c:=run_equalIn_array (P:=P) (w:=w) 9999 a a l b;rw [d,OW 9998 f a _ w λj k=>m j (List.mem_range.1 k)] at c;unfold cT;simp only [Sem.run_bind,run_eqGuard_agg w .eql t x y a a g,Result.andThen_ok,run_eql_struct];rw [show (10000:Nat)=9999+1 from rfl,c];rfl
section
variable {h:Hp} {Q:Bool->Hp->Prop}
theorem Ch {sh:Shape} {sz:Nat} {s1 s2:Sl} {a c:List sh.T} {B:sh.T->sh.T->(Bool->Hp->Prop)->Hp->Prop} (g:Rs h sh sz s1 a) (r2:Rs h sh sz s2 c) (e:∀x,(bu (sh.enc x)).length=sz) (f:0<sz) (q:a.length=c.length)
  (A:a.length<=140737488355328) (hb:∀(i:Nat) x y,a[i]? =some x->c[i]? =some y->∀K:Bool->Hp->Prop,K true h->B x y K h) (s:Q true h):
  (if (((s1.len:Nat):Int) !=((s2.len:Nat):Int))=true then Q false h else
   aA (α1:=Int) (λj t b=>(if (decide (t<((s1.len:Nat):Int)))=true then
    ((br s1.base s1.len t)/\aQ none sh b (sat s1.base sz t) λx=>((br s2.base s2.len t)/\aQ none sh b (sat s2.base sz t) λw=>
     B x w (λr d=>(if (!r)=true then Q false d else j (yw (t+(1:Int))) d)) b))
    else Q true b)) (0:Int) h):=by
 have l:s1.len=a.length:=g.1;have m:s2.len=c.length:=r2.1;rw [if_neg (by rw [l,m,q];simp)];refine iX (n:=a.length) (by omega) (by omega) (λ_ o=>o=h) rfl ?_ ?_
 ·rintro i z k rfl K p;refine Rs.get (sh:=sh) g e f (i:=(i:Int)) (by omega) (by omega) λx u=> ?_;refine Rs.get (sh:=sh) r2 e f (i:=(i:Int)) (by omega) (by omega) λy v=> ?_;refine hb i x y u v _ ?_;rw [if_neg (by simp)];exact p k rfl
 ·rintro k rfl;exact s
theorem Jh {a b:Sl} {c:List Int} (k:Is h a c) (l:Is h b c) (f:c.length<=140737488355328) (g:Q true h):zuf prog a b ⟨182, #[], #[]⟩ Q h:=by unfold zuf;refine zme ?_;unfold zfs;refine Ch (sh:=ab .i64) (B:=λx y K h=>eN prog tb (.func (.func 182) #[] #[]) [(.int .i64 x),(.int .i64 y)] aR K h) k l (λ_=>rfl) (by decide) rfl f (λi (x:Int) (y:Int) j d K e=> ?_) g;rw [j] at d;cases d;refine uV rfl (U6 (x:=x) (y:=x) ?_);unfold HZ;simpa using e
theorem Uf {a b:Sl} {c:List Int} (k:Is h a c) (l:Is h b c) (f:c.length<=140737488355328) (g:Q true h):Y3 prog a b ⟨245, #[], #[]⟩ Q h:=by unfold Y3;refine zhj ?_;unfold zdn;refine Ch (sh:=ab .i64) (B:=λx y K h=>eN prog tb (.func (.func 245) #[] #[]) [(.int .i64 x),(.int .i64 y)] aR K h) k l (λ_=>rfl) (by decide) rfl f (λi (x:Int) (y:Int) j d K e=> ?_) g;rw [j] at d;cases d;refine uV rfl (RW (x:=x) (y:=x) ?_);unfold zwa;simpa using e
theorem aal {a b:Sl} {d:List dv} (k:Ck h a d) (l:Ck h b d) (g:d.length<=140737488355328) (c:Q true h):Vk prog a b ⟨184, #[], #[]⟩ Q h:=by
 unfold Vk;refine zdr ?_;unfold zbm;refine Ch (sh:=cK) (B:=λx y K h=>eN prog tb (.func (.func 184) #[] #[]) [x.v,y.v] aR K h) k l (λ_=>rfl) (by decide) rfl g (λi (x:dv) (y:dv) j e K f=> ?_) c;rw [j] at e;cases e;refine uV rfl (zxk (x:=x) (y:=x) ?_);unfold zqa;refine ⟨true,KY [(⟨ "Tick",2,0,false, "", "",0⟩,.i64,x.ee),(⟨ "Proc",3,1,false, "", "",8⟩,.i64,x.dB),(⟨ "Value",2,2,false, "", "",16⟩,.i64,x.dV)]
   (ae.aM 121 tN rfl) (by kernel_rfl) (by kernel_rfl) (λq c=> ?_),f⟩
 simp only [List.mem_cons,List.not_mem_nil,or_false] at c;rcases c with rfl | rfl | rfl
 ·exact ⟨by simp,ae.aM 2 qF rfl,rfl⟩
 ·exact ⟨by simp,ae.aM 3 sO rfl,rfl⟩
 ·exact ⟨by simp,ae.aM 2 qF rfl,rfl⟩
theorem XH {a b:Sl} {d:List bB} (k:tq h a d) (l:tq h b d) (g:d.length<=140737488355328) (c:Q true h):U0 prog a b ⟨247, #[], #[]⟩ Q h:=by
 unfold U0;refine zdc ?_;unfold zbc;refine Ch (sh:=aH) (B:=λx y K h=>eN prog tb (.func (.func 247) #[] #[]) [x.v,y.v] aR K h) k l (λ_=>rfl) (by decide) rfl g (λi (x:bB) (y:bB) j e K f=> ?_) c;rw [j] at e;cases e;refine uV rfl (zvn (x:=x) (y:=x) ?_);unfold zpf;refine ⟨true,KY [(⟨ "Proc",3,0,false, "", "",0⟩,.i64,x.dB),(⟨ "Value",2,1,false, "", "",8⟩,.i64,x.dV)]
   (ae.aM 254 rM rfl) (by kernel_rfl) (by kernel_rfl) (λq c=> ?_),f⟩
 simp only [List.mem_cons,List.not_mem_nil,or_false] at c;rcases c with rfl | rfl
 ·exact ⟨by simp,ae.aM 3 sO rfl,rfl⟩
 ·exact ⟨by simp,ae.aM 2 qF rfl,rfl⟩
theorem XJ {a b:bA} {p:bH} (c:gI h a p) (d:gI h b p) (g:tg p) (i:Q true h):zug prog a b Q h:=by unfold zug;obtain ⟨o,l,e⟩:=c.waiters;obtain ⟨n,k,j⟩:=d.waiters;have:o=n:=zh Lk (e.trans j.symm);subst this;obtain ⟨m,f⟩:=g;rw [<-e,List.length_map] at f;refine Tj (is:=⟨245, #[], #[]⟩) (Uf c.values d.values m ?_);refine nt rfl (zxm (is:=⟨247, #[], #[]⟩) (XH l k f (aJ (aJ (aJ ?_)))));rw [c.taken,d.taken,c.dropped,d.dropped];simpa using i
theorem Ug {a b:Sl} {e f:List bA} {c:List bH} (r:Rs h aX 4 a e) (s:Rs h aX 4 b f) (d:cZ (gI h) e c) (hb:cZ (gI h) f c) (w:c.length<=140737488355328) (m:∀p∈c,tg p) (n:Q true h):
  VN prog a b ⟨188, #[], #[]⟩ Q h:=by
 unfold VN;have t:=d.len;have u:=hb.len;refine zem ?_;unfold zcc;refine Ch (sh:=aX) (B:=λx y K h=>eN prog tb (.func (.func 188) #[] #[]) [x.v,y.v] aR K h) r s (λ_=>rfl) (by decide) (by omega) (by omega) (λi (x:bA) (y:bA) o q K l=> ?_) n;obtain ⟨z,g,j,k⟩:=sf d hb o q;exact uV rfl (Vz (x:=x) (y:=y) (XJ j k (m z (List.mem_of_getElem? g)) l))
theorem XL {a b:Sl} {e f:List Sl} {c:List (List Int)} (r:Rs h an 1 a e) (s:Rs h an 1 b f) (d:cZ (Is h) e c) (hb:cZ (Is h) f c) (w:c.length<=140737488355328) (m:∀p∈c,p.length<=140737488355328) (n:Q true h):
  YU prog a b ⟨180, #[], #[]⟩ Q h:=by
 unfold YU;have t:=d.len;have u:=hb.len;refine zkx ?_;unfold zfh;refine Ch (sh:=an) (B:=λx y K h=>eN prog tb (.func (.func 180) #[] #[]) [x.v,y.v] aR K h) r s (λ_=>rfl) (by decide) (by omega) (by omega) (λi (x:Sl) (y:Sl) o q K l=> ?_) n;obtain ⟨z,g,j,k⟩:=sf d hb o q;refine uV rfl (S7 (a:=x) (b:=y) ?_);unfold zyh;exact zwb (is:=⟨182, #[], #[]⟩) (Jh j k (m z (List.mem_of_getElem? g)) l)
theorem XN {a b:bf} {p:dt} (c:eV h a p) (d:eV h b p) (r:p.log.length<=140737488355328/\p.aC.length<=140737488355328/\p.au.length<=140737488355328/\∀q∈p.au,q.length<=140737488355328) (s:Q true h):zua prog a b Q h:=by
 unfold zua;obtain ⟨i,m,e⟩:=c.log;obtain ⟨j,o,n⟩:=d.log;have:i=j:=zh Mn (e.trans n.symm);subst this;obtain ⟨y,t,k⟩:=c.au;obtain ⟨z,u,l⟩:=d.au;obtain ⟨f,v,w,x⟩:=r;rw [<-e,List.length_map] at f;have g:(a.Cursor==b.Cursor)=true:=by rw [c.af,d.af];simp
 rw [g];refine nt rfl (zyr (is:=⟨184, #[], #[]⟩) (aal m o f (aJ (aJ (aJ ?_)))));rw [show ((((true&&true)&&(a.jG==b.jG))&&(a.cU==b.cU)))=true by rw [c.lost,d.lost,c.forbidden,d.forbidden];simp];refine nt rfl (zwb (is:=⟨182, #[], #[]⟩) (Jh c.aC d.aC v (aJ ?_)));exact nt rfl (S9 (is:=⟨180, #[], #[]⟩) (XL t u k l w x (aJ s)))
theorem XP {a b:aL} {p:ak} (c:cF h a p) (d:cF h b p) (f:p.ag.length<=140737488355328/\∀l∈p.ag,tg l) (r:Q true h):zub prog a b Q h:=by
 unfold zub;obtain ⟨z,o,i⟩:=c.ag;obtain ⟨A,q,k⟩:=d.ag;have g: [a.bW,a.bX,a.bY,a.bZ,a.cc,a.cd,a.cf,a.cg]=[b.bW,b.bX,b.bY,b.bZ,b.cc,b.cd,b.cf,b.cg]:=c.bJ.trans d.bJ.symm;simp only [List.cons.injEq,and_true] at g;obtain ⟨s,t,r2,u,v,w,x,y⟩:=g;refine aJ ⟨true,λ_=> ?_,?_⟩
 ·rw [s,t,r2,u,v,w,x,y];refine R5 (n:=8) (e:=2) (ae.aM 79 xL rfl) (by kernel_rfl) (ae.aM 2 qF rfl) (by kernel_rfl) (by kernel_rfl) λj m=> ?_
  match j,m with
  | 0,_=>exact ⟨_,rfl⟩
  | 1,_=>exact ⟨_,rfl⟩
  | 2,_=>exact ⟨_,rfl⟩
  | 3,_=>exact ⟨_,rfl⟩
  | 4,_=>exact ⟨_,rfl⟩
  | 5,_=>exact ⟨_,rfl⟩
  | 6,_=>exact ⟨_,rfl⟩
  | 7,_=>exact ⟨_,rfl⟩
  | n+8,h=>omega
 refine aJ (aJ (aJ (aJ (aJ ?_))));rw [show ((((((((a.State==b.State)&&(a.PC==b.PC))&&true)&&(a.Cursor==b.Cursor))&&(a.Timer==b.Timer))&&(a.gi==b.gi))&&(a.jI==b.jI)))=true by
  rw [c.state,d.state,c.pc,d.pc,c.af,d.af,c.timer,d.timer,c.bN,d.bN,c.cQ,d.cQ];simp]
 exact nt rfl (Qg (is:=⟨188, #[], #[]⟩) (Ug o q i k f.1 f.2 (aJ r)))
theorem Ui {a b:Sl} {e f:List bf} {c:List dt} (s:Rs h aP 6 a e) (t:Rs h aP 6 b f) (d:cZ (eV h) e c) (hb:cZ (eV h) f c) (A:c.length<=140737488355328)
  (m:∀p∈c,p.log.length<=140737488355328/\p.aC.length<=140737488355328/\p.au.length<=140737488355328/\∀q∈p.au,q.length<=140737488355328) (n:Q true h):VM prog a b ⟨107, #[], #[]⟩ Q h:=by
 unfold VM;have u:=d.len;have w:=hb.len;refine zel ?_;unfold zcb;refine Ch (sh:=aP) (B:=λx y K h=>eN prog tb (.func (.func 107) #[] #[]) [x.v,y.v] aR K h) s t (λ_=>rfl) (by decide) (by omega) (by omega) (λi (x:bf) (y:bf) o r K l=> ?_) n;obtain ⟨z,g,j,k⟩:=sf d hb o r;exact uV rfl (Vx (x:=x) (y:=y) (XN j k (m z (List.mem_of_getElem? g)) l))
theorem Uk {a b:Sl} {e f:List aL} {c:List ak} (s:Rs h aF 15 a e) (t:Rs h aF 15 b f) (d:cZ (cF h) e c) (hb:cZ (cF h) f c) (A:c.length<=140737488355328)
  (n:∀p∈c,p.ag.length<=140737488355328/\∀l∈p.ag,tg l) (o:Q true h):TT prog a b ⟨109, #[], #[]⟩ Q h:=by
 unfold TT;have u:=d.len;have w:=hb.len;refine zct ?_;unfold zay;refine Ch (sh:=aF) (B:=λx y K h=>eN prog tb (.func (.func 109) #[] #[]) [x.v,y.v] aR K h) s t (λ_=>rfl) (by decide) (by omega) (by omega) (λi (x:aL) (y:aL) q r K m=> ?_) o;obtain ⟨z,g,j,k⟩:=sf d hb q r;exact uV rfl (Vy (x:=x) (y:=y) (XP j k (n z (List.mem_of_getElem? g)) m))
theorem Um {a b:aD} {s:fA} (d:cO h a s) (e:cO h b s) (c:vd s) (m:Q true h):Ea prog a b Q h:=by
 unfold Ea;obtain ⟨q,l,g⟩:=d.parts;obtain ⟨t,o,j⟩:=e.parts;obtain ⟨r,n,i⟩:=d.procs;obtain ⟨u,p,k⟩:=e.procs;have f:(a.ee==b.ee)=true:=by rw [d.tick,e.tick];simp
 rw [f];refine nt rfl (Qf (is:=⟨107, #[], #[]⟩) (Ui l o g j c.parts c.log (aJ ?_)));exact nt rfl (zvk (is:=⟨109, #[], #[]⟩) (Uk n p i k c.procs c.ag (aJ m)))
end
def iy (c:aW) (a i:Int):Bool:=decide (0<=i)&&decide (i<(nP c:Int))&&jg (c.labels.getD i.toNat 0) a
def fF (c:aW) (a p:Int):Bool:=decide (0<=p)&&decide (p<(nQ c:Int))&&iy c a (((c.procs[p.toNat]?).map (·.part)).getD 0)
def uO :dt:=⟨0,[],0,0,[],[]⟩
def uP :ak:=⟨0,0,List.replicate 8 0,0,0,false,0,[]⟩
def iT (c:aW) (t:fA) (a:Int):fA:=
 ⟨t.tick,t.parts.mapIdx λi x=>if iy c a (i:Int)=true then x else uO,t.procs.mapIdx λp x=>if fF c a (p:Int)=true then x else uP⟩
structure mn (s:fA):Prop where
 parts:s.parts.length<=1000
 procs:s.procs.length<=1000
 log:∀x∈s.parts,x.log.length<=10000/\x.aC.length<=1000/\x.au.length<=1000/\∀q∈x.au,q.length<=1000
 ag:∀x∈s.procs,x.ag.length<=1000/\∀l∈x.ag,l.values.length<=1000/\l.waiters.length<=1000
theorem mn.le {s:fA} (f:mn s):vd s:=by
 refine ⟨by have:=f.parts;omega,by have:=f.procs;omega,λx b=> ?_,λx b=> ?_⟩
 ·obtain ⟨d,a,h,e⟩:=f.log x b;exact ⟨by omega,by omega,by omega,λq g=>by have:=e q g;omega⟩
 ·obtain ⟨d,a⟩:=f.ag x b;exact ⟨by omega,λl c=>⟨by have:=(a l c).1;omega,by have:=(a l c).2;omega⟩⟩
theorem GT.jW {c:aW} {t:fA} (m:cH c) (g:GT c t):mn t:=by
 have h:=g.gO.om m;have hp:=g.parts;have f:=g.procs;have k:=m.parts;have n:=m.procs;refine ⟨by omega,by omega,λx b=> ?_,λx b=> ?_⟩
 ·obtain ⟨i,a⟩:=List.mem_iff_getElem?.1 b;have j:=(List.getElem?_eq_some_iff.1 a).1;have e:(bp t).part i=x:=nD a;have sp:=h.part i (by omega);rw [e] at sp;have:=sp.kz;have:=sp.ij;have:=sp.jW.1;have:=m.log;exact ⟨by omega,by omega,by omega,λq f=>by have:=sp.jW.2 q f;omega⟩
 ·obtain ⟨i,a⟩:=List.mem_iff_getElem?.1 b;have j:=(List.getElem?_eq_some_iff.1 a).1;have e:(bp t).proc i=x:=nD a;have sp:=h.proc i (by omega);rw [e] at sp;have:=sp.len;exact ⟨by omega,λl d=>⟨by have:=(sp.eJ l d).values;omega,by have:=(sp.eJ l d).waiters;omega⟩⟩
section
variable {h k:Hp} {x:az} {c:aW} {a:Int} {Q:Bool->Hp->Prop}
theorem KQ {g:FuncId} (o:∀ {u v:Int} {Q:Bool->Hp->Prop},jq u->jq v->Q (jg u v) h->aa prog g [(.int .u64 u),(.int .u64 v)] aR Q h) {i:Int} (j:dQ h x c) (s:∀l∈c.labels,jq l) (n:jq a) (b:Q (iy c a i) h):
 aI ((decide (i>=(0:Int)))&&(decide (i<((x.be.len:Nat):Int)))) λy=>
 ((y=true->(br x.be.base x.be.len i))/\aQ (some y) (ab .u64) h (sat x.be.base 1 i) λz=>
 cP (some y) (aa prog g [(.int .u64 z),(.int .u64 a)] aR) (λr d=>
 aI (y&&r) λw=>
 Q w d) h):=by
  have p:x.be.len=c.labels.length:=j.labels.1;have e:(decide (i>=0)&&decide (i<((x.be.len:Nat):Int)))=(decide (0<=i)&&decide (i<(nP c:Int))):=by rw [p];rfl
  refine aJ ?_;rw [e];unfold iy at b;generalize f:(decide (0<=i)&&decide (i<(nP c:Int)))=y at b;refine Rs.qZ (sh:=ab .u64) j.labels (0:Int) (λ_=>rfl) (by decide) (λt=> ?_) λ(l:Int) q=> ?_
  ·rw [t] at f;simp only [Bool.and_eq_true,decide_eq_true_eq] at f;exact ⟨f.1,f.2⟩
  ·cases y with
   | false=>exact s7 rfl false (aJ b)
   | true=>
    have d:=q rfl;have m:c.labels.getD i.toNat 0=l:=by rw [List.getD_eq_getElem?_getD,d];rfl
    rw [m] at b;exact nt rfl (o (s l (List.mem_of_getElem? d)) n (aJ b))
theorem KS {i:Int} (j:dQ h x c) (g:∀l∈c.labels,jq l) (f:jq a) (b:Q (iy c a i) h):Eb prog x i a Q h:=by unfold Eb;exact KQ (λd e b=>H0 (KN d e b)) j g f b
theorem KT {g:FuncId} (B:∀ {i:Int} {Q:Bool->Hp->Prop},Q (iy c a i) h->aa prog g [x.v,(.int .i64 i),(.int .u64 a)] aR Q h) {p:Int} (F:dQ h x c) (b:Q (fF c a p) h):
 aI ((decide (p>=(0:Int)))&&(decide (p<((x.aE.len:Nat):Int)))) λy=>
 ((y=true->(br x.aE.base x.aE.len p))/\aQ (some y) (ab .i64) h (Addr.add (sat x.aE.base 2 p) 0) λz=>
 cP (some y) (aa prog g [x.v,(.int .i64 z),(.int .u64 a)] aR) (λr A=>
 aI (y&&r) λG=>
 Q G A) h):=by
  obtain ⟨m,s,f⟩:=F.procs;have n:x.aE.len=c.procs.length:=by rw [s.1,f.len]
  have e:(decide (p>=0)&&decide (p<((x.aE.len:Nat):Int)))=(decide (0<=p)&&decide (p<(nQ c:Int))):=by rw [n];rfl
  refine aJ ?_;rw [e];unfold fF at b;generalize d:(decide (0<=p)&&decide (p<(nQ c:Int)))=y at b;cases y with
  | false=>exact ⟨λe=>(by cases e),(0:Int),λe=>(by cases e),s7 rfl false (aJ b)⟩
  | true=>
   simp only [Bool.and_eq_true,decide_eq_true_eq] at d;have o:p.toNat<m.length:=by have:=f.len;unfold nQ at d;omega
   obtain ⟨q,D,E⟩:=f.get (i:=p.toNat) (List.getElem?_eq_getElem o);obtain ⟨u,z,t,C⟩:=Rw.read s (λ_=>rfl) (by decide) d.1 (by rw [n];exact d.2);rw [List.getElem?_eq_getElem o] at t;cases t;have w:m[p.toNat].Part=q.part:=E.1;rw [D] at b;refine ⟨λ_=>u,m[p.toNat].Part,λ_=>λj v l=> ?_,?_⟩
   ·match j,l with
    | 0,l=>exact C 0 v l
   ·rw [w];exact nt rfl (B (aJ b))
theorem Em {p:Int} (d:dQ h x c) (f:∀l∈c.labels,jq l) (e:jq a) (b:Q (fF c a p) h):D9 prog x p a Q h:=by unfold D9;exact KT (λb=>JA (KS d f e b)) d b
end
section
variable {h k:Hp}
abbrev eS :Sl->List Value:=λx=>bu (an.enc x)
theorem Uo {x:bf} {p:dt} {Q:bf->Hp->Prop} (a:eV h x p) (P:p.log.length<=10000/\p.aC.length<=1000/\p.au.length<=1000/\∀q∈p.au,q.length<=1000)
  (R:∀r c,h<=c->eV c r p->Q r c):zty prog x Q h:=by
 unfold zty;obtain ⟨Y,n2,n3,Z⟩:=P;obtain ⟨J,N,t⟩:=a.log;obtain ⟨d,U,s⟩:=a.au;have T:=s.len;rw [<-t,List.length_map] at Y;refine QL ?_;unfold NM;refine rQ (enc:=λx=>bu (cK.enc x)) (ae.aM 101 rJ rfl) N (by decide) (λ_=>rfl) (λ_=>rfl) rfl ⟨by omega,by omega⟩ λC k1 m o1=>⟨⟨trivial,trivial⟩,?_⟩;refine Gg ?_;unfold B0;refine rQ (enc:=λx:Int=>bu ((ab .i64).enc x)) (ae.aM 23 pG rfl) (Rw.mono m a.aC) (by decide) (λ_=>rfl) (λ_=>rfl) rfl ⟨by omega,by omega⟩ λl2 A E o2=> ?_;refine zuv ?_;unfold znu;have B:=Hp.le_trans m E;refine rQ (enc:=eS) (ae.aM 102 vX rfl) (Rw.mono B U) (by decide) (λ_=>rfl) (λ_=>rfl) rfl ⟨by omega,by omega⟩ λX k3 b1 H=> ?_;have a8:=(H.gA (λ_=>rfl)).1;refine iX (n:=d.length) (by omega) (by omega) (λi g=>∃hb b,A<=hb/\cZ (Is hb) b (p.au.take i)/\Has hb (fB 1 eS X (b++d.drop i)) g) ⟨A,[],Hp.le_refl _,trivial,by simpa using H⟩ ?_ ?_
 ·rintro i u g ⟨hb,b,f,e,o⟩ K L;have M:b.length=i:=by rw [e.len,List.length_take];omega
  have j:(b++d.drop i)[i]? =some d[i]:=by grind
  have V:i<(b++d.drop i).length:=(List.getElem?_eq_some_iff.1 j).1;obtain ⟨q,w,S⟩:=s.get (i:=i) (List.getElem?_eq_getElem u);have a9:=Z q (List.mem_of_getElem? w);refine Rs.get (sh:=an) (o.gA (λ_=>rfl)) (λ_=>rfl) (by omega) (by omega) (by omega) λ(y:Sl) z=> ?_;rw [show ((i:Int)).toNat=i from rfl,j] at z;cases z;refine tW (sh:=an) (K0:=λl c=>hb<=c/\Is c l q) o (Gg ?_) ?_
  ·unfold B0;exact rQ (enc:=λx:Int=>bu ((ab .i64).enc x)) (ae.aM 23 pG rfl) (Rw.mono (Hp.le_trans B f) S) (by decide) (λ_=>rfl) (λ_=>rfl) rfl ⟨by omega,by omega⟩ λl k C n=>⟨C,n.gA (λ_=>rfl)⟩
  ·rintro (l:Sl) c b0 ⟨F,O⟩ G;refine ⟨⟨trivial,trivial⟩,G.sE (sh:=an) (λ_=>rfl) (by decide) V,?_⟩;refine G.qB (i:=i) (x':=l) (off:=0) (new:=[l.v]) (λ_=>rfl) j (by simp) rfl λW I=>L W ⟨c,b++ [l],Hp.le_trans f F,?_,?_⟩
   ·rw [List.take_add_one,w];exact wL O (e.imp λ_ _ r=>Rw.mono F r)
   ·rw [show (b++d.drop i).set i l=(b++ [l])++d.drop (i+1) by
     rw [List.set_append_right _ _ (by omega),M,Nat.sub_self,List.drop_eq_getElem_cons u,List.set_cons_zero,List.append_assoc];rfl] at I
    exact I
 ·rintro g ⟨hb,b,f,e,o⟩;rw [List.drop_length,List.append_nil] at o;rw [T,List.take_length] at e;have D:=Hp.le_trans E f;exact R _ g (Hp.le_trans m (Hp.le_trans D o.le)) ⟨a.af,⟨J,Rw.mono (Hp.le_trans D o.le) (o1.gA (λ_=>rfl)),t⟩,a.lost,a.forbidden,Rw.mono (Hp.le_trans f o.le) (o2.gA (λ_=>rfl)),b,o.gA (λ_=>rfl),e.imp λ_ _ r=>Rw.mono o.le r⟩
theorem Ur {x:aL} {p:ak} {Q:aL->Hp->Prop} (a:cF h x p) (U:p.ag.length<=1000/\∀l∈p.ag,l.values.length<=1000/\l.waiters.length<=1000)
  (V:∀r d,h<=d->cF d r p->Q r d):ztz prog x Q h:=by
 unfold ztz;obtain ⟨n1,n2⟩:=U;obtain ⟨e,T,B⟩:=a.ag;have S:=B.len;refine znn ?_;unfold zgv;refine rQ (enc:=λx=>bu (aX.enc x)) (ae.aM 80 CW rfl) T (by decide) (λ_=>rfl) (λ_=>rfl) rfl ⟨by omega,by omega⟩ λZ k3 b0 H=> ?_;have a8:=(H.gA (λ_=>rfl)).1;refine iX (n:=e.length) (by omega) (by omega) (λi s=>∃hb c,h<=hb/\cZ (gI hb) c (p.ag.take i)/\Has hb (fB 4 (λx=>bu (aX.enc x)) Z (c++e.drop i)) s) ⟨h,[],Hp.le_refl _,trivial,by simpa using H⟩ ?_ ?_
 ·rintro i C s ⟨hb,c,j,f,o⟩ K M;have P:c.length=i:=by rw [f.len,List.length_take];omega
  have m:(c++e.drop i)[i]? =some e[i]:=by grind
  have t:i<(c++e.drop i).length:=(List.getElem?_eq_some_iff.1 m).1;obtain ⟨q,D,g⟩:=B.get (i:=i) (List.getElem?_eq_getElem C);have E:=n2 q (List.mem_of_getElem? D);generalize e[i]=b at m g;obtain ⟨A,X,F⟩:=g.waiters;have a9:A.length<=1000:=by rw [<-F,List.length_map] at E;exact E.2
  refine Rs.get (sh:=aX) (o.gA (λ_=>rfl)) (λ_=>rfl) (by omega) (by omega) (by omega) λ(y:bA) G=> ?_;rw [show ((i:Int)).toNat=i from rfl,m] at G;cases G;refine tW (sh:=an) (K0:=λl d=>hb<=d/\Is d l q.values) o (RI ?_) ?_
  ·unfold NP;exact rQ (enc:=λx:Int=>bu ((ab .i64).enc x)) (ae.aM 200 rK rfl) (Rw.mono (Hp.le_trans (Hp.le_refl _) j) g.values) (by decide) (λ_=>rfl) (λ_=>rfl) rfl ⟨by omega,by omega⟩ λl k u n=>⟨u,n.gA (λ_=>rfl)⟩
  ·rintro (l:Sl) N k5 ⟨z,R⟩ o5;refine ⟨⟨trivial,trivial,trivial,trivial⟩,?_⟩;refine tW (sh:=an) (K0:=λl d=>N<=d/\tq d l A) o5 (QF ?_) ?_
   ·unfold NL;exact rQ (enc:=λx=>bu (aH.enc x)) (ae.aM 201 qi rfl) (Rw.mono (Hp.le_trans j z) X) (by decide) (λ_=>rfl) (λ_=>rfl) rfl ⟨by omega,by omega⟩ λl k u n=>⟨u,n.gA (λ_=>rfl)⟩
   ·rintro (w:Sl) O k6 ⟨ld,W⟩ I;refine ⟨⟨trivial,trivial,trivial⟩,I.sE (sh:=aX) (λ_=>rfl) (by decide) t,?_⟩;refine I.qB (i:=i) (x':=(⟨l,b.cq,b.gJ,b.eH⟩:bA)) (off:=0) (new:=[l.v]) (λ_=>rfl) m (by simp) rfl λk7 J=> ?_;refine ⟨⟨trivial,trivial⟩,J.sE (sh:=aX) (λ_=>rfl) (by decide) (by simpa using t),?_⟩;refine J.qB (i:=i) (x:=(⟨l,b.cq,b.gJ,b.eH⟩:bA)) (x':=(⟨l,w,b.gJ,b.eH⟩:bA)) (off:=1) (new:=[w.v]) (λ_=>rfl) (List.getElem?_set_self t) (by simp) rfl λY L=>M Y ⟨O,c++ [⟨l,w,b.gJ,b.eH⟩],Hp.le_trans j (Hp.le_trans z ld),?_,?_⟩
    ·rw [List.take_add_one,D];exact wL ⟨Rw.mono ld R,⟨A,W,F⟩,g.taken,g.dropped⟩ (f.imp λ_ _ r=>r.mono (Hp.le_trans z ld))
    ·rw [List.set_set,show (c++e.drop i).set i (⟨l,w,b.gJ,b.eH⟩:bA)=(c++ [⟨l,w,b.gJ,b.eH⟩])++e.drop (i+1) by
      rw [List.set_append_right _ _ (by omega),P,Nat.sub_self,List.drop_eq_getElem_cons C,List.set_cons_zero,List.append_assoc];rfl] at L
     exact L
 ·rintro s ⟨hb,c,j,f,o⟩;rw [List.drop_length,List.append_nil] at o;rw [S,List.take_length] at f;exact V _ s (Hp.le_trans j o.le) ⟨a.state,a.pc,a.bJ,a.af,a.timer,a.bN,a.cQ,c,o.gA (λ_=>rfl),f.imp λ_ _ r=>r.mono o.le⟩
end
section
variable {h0 k:Hp} {r r1:Sl} {x:az} {y:aD} {c:aW} {t:fA} {a:Int}
theorem Gk {b d:Type} {f:Nat->b->d} {l:List b} {i:Nat} {z:b} (h:l[i]? =some z):(l.take (i+1)).mapIdx f=(l.take i).mapIdx f++ [f i z]:=by rw [List.take_add_one,h,List.mapIdx_append,List.length_take,Nat.min_eq_left (by have:=(List.getElem?_eq_some_iff.1 h).1;omega)];simp
theorem Ji :eV k zX uO:=⟨rfl,⟨[],Rw.nil rfl,rfl⟩,rfl,rfl,Rw.nil rfl,[],Rw.nil rfl,trivial⟩
theorem Jj :cF k zY uP:=⟨rfl,rfl,rfl,rfl,rfl,rfl,rfl,[],Rw.nil rfl,trivial⟩
theorem Nu {Q:aD->Hp->Prop} (kc:dQ h0 x c) (ks:cO h0 y t) (hu:∀l∈c.labels,jq l) (ha:jq a) (jW:mn t)
  (o:Has h0 ((fB 6 eX r (List.replicate t.parts.length zX)).star (fB 15 eY r1 (List.replicate t.procs.length zY))) k)
  (hq:∀y' m,h0<=m->cO m y' (iT c t a)->Q y' m):aA (α1:=Int) (λb8 H Y=>
 (if (decide (H<((y.bz.len:Nat):Int)))=true then
 cC (λk=>
 ((br y.bz.base y.bz.len H)/\aQ none aP Y (sat y.bz.base 6 H) λx1=>
 aa prog Mf [x.v,(.int .i64 H),(.int .u64 a)] aR (λr2 B=>
 (if r2=true then
 aa prog Oc [x1.v] aP (λd J=>
 ((True/\True)/\((br r.base r.len H)/\da J (sat r.base 6 H) [(.int .i64 d.Cursor),d.Log.v,(.int .i64 d.jG),(.int .i64 d.cU),d.dq.v,d.di.v] (λZ=>
 k Z)))) B
 else
 k B)) Y))
 (λB=>
 b8 (yw (H+(1:Int))) B)
 else
 aA (α1:=Int) (λb9 I B=>
 (if (decide (I<((y.aE.len:Nat):Int)))=true then
 cC (λk=>
 ((br y.aE.base y.aE.len I)/\aQ none aF B (sat y.aE.base 15 I) λx1=>
 aa prog Gv [x.v,(.int .i64 I),(.int .u64 a)] aR (λr2 J=>
 (if r2=true then
 aa prog Od [x1.v] aF (λd Z=>
 ((True/\True)/\((br r1.base r1.len I)/\da Z (sat r1.base 15 I) [(.int .i64 d.State),(.int .i64 d.PC),(.int .i64 d.bW),(.int .i64 d.bX),(.int .i64 d.bY),(.int .i64 d.bZ),(.int .i64 d.cc),(.int .i64 d.cd),(.int .i64 d.cf),(.int .i64 d.cg),(.int .i64 d.Cursor),(.int .i64 d.Timer),(.bool d.gi),(.int .i64 d.jI),d.eO.v] (λh7=>
 k h7)))) J
 else
 k J)) B))
 (λJ=>
 b9 (yw (I+(1:Int))) J)
 else
 Q ⟨y.ee,r,r1⟩ B)) (0:Int) Y)) (0:Int) k:=by
 obtain ⟨w,b5,b2⟩:=ks.parts;obtain ⟨A,b7,b3⟩:=ks.procs;have b4:=b2.len;have b6:=b3.len;have c0:y.bz.len=w.length:=b5.1;have c1:y.aE.len=A.length:=b7.1;have f1:=jW.parts;have f2:=jW.procs;generalize hg:(λ(i:Nat) (x:dt)=>if iy c a (i:Int)=true then x else uO)=g;generalize a8:(λ(i:Nat) (x:ak)=>if fF c a (i:Int)=true then x else uP)=X;refine iX (n:=w.length) (by omega) (by omega) (λi m=>∃hb f,h0<=hb/\cZ (eV hb) f ((t.parts.take i).mapIdx g)/\Has hb ((fB 6 eX r (f++List.replicate (w.length-i) zX)).star (fB 15 eY r1 (List.replicate t.procs.length zY))) m)
  ⟨h0,[],Hp.le_refl _,trivial,by rw [List.nil_append,Nat.sub_zero,b4];exact o⟩ ?_ ?_
 ·rintro i R m ⟨hb,f,D,L,o⟩ K O;have P:f.length=i:=by rw [L.len,List.length_mapIdx,List.length_take];omega
  have F:(f++List.replicate (w.length-i) zX)[i]? =some zX:=by rw [List.getElem?_append_right (by omega),P,Nat.sub_self,List.getElem?_replicate,if_pos (by omega)]
  have S:∀z:bf,(f++List.replicate (w.length-i) zX).set i z=(f++ [z])++List.replicate (w.length-(i+1)) zX:=λz=>by rw [List.set_append_right _ _ (by omega),P,Nat.sub_self,show w.length-i=(w.length-(i+1))+1 by omega,List.replicate_succ,List.set_cons_zero,List.append_assoc];rfl
  have b0:i<(f++List.replicate (w.length-i) zX).length:=(List.getElem?_eq_some_iff.1 F).1;obtain ⟨q,E,a9⟩:=b2.get (i:=i) (List.getElem?_eq_getElem R);refine cC.intro (λG=>K (yw ((i:Int)+1)) G) ?_ λ_ h=>h;refine Rs.get (sh:=aP) (Rw.mono (Hp.le_trans D o.le) b5) (λ_=>rfl) (by decide) (by omega) (by omega) λ(z:bf) u=> ?_;rw [show ((i:Int)).toNat=i from rfl,List.getElem?_eq_getElem R] at u;cases u;refine tW (sh:=aR) (K0:=λb e=>iy c a (i:Int)=b/\hb=e) o (JA (KS (kc.mono D) hu ha ⟨rfl,rfl⟩)) ?_;rintro b e G ⟨rfl,rfl⟩ U;by_cases s:iy c a (i:Int)=true
  ·rw [if_pos s];refine tW (sh:=aP) (K0:=λz e=>hb<=e/\eV e z q) U (Vv (Uo (a9.mono D) (jW.log q (List.mem_of_getElem? E)) λr e l p=>⟨l,p⟩)) ?_;rintro (z:bf) e k3 ⟨T,u⟩ V;refine ⟨⟨trivial,trivial⟩,(Has.left V).sE (sh:=aP) (λ_=>rfl) (by decide) b0,?_⟩;obtain ⟨h2,_,oO,_,put⟩:=V.fst;refine oO.qB (i:=i) (x':=z) (off:=0) (new:=bu (aP.enc z)) (λ_=>rfl) F (by exact Nat.le_refl 6) (by exact (List.append_nil _).symm) λk4 W=>O k4 ⟨e,f++ [z],Hp.le_trans D T,?_,?_⟩
   ·rw [Gk E];refine wL ?_ (L.imp λ_ _ r=>r.mono T);rw [show g i q=q by rw [<-hg];exact if_pos s];exact u
   ·rw [S z] at W;exact put _ _ W
  ·rw [if_neg s];refine O G ⟨hb,f++ [zX],D,?_,?_⟩
   ·rw [Gk E];refine wL ?_ L;rw [show g i q=uO by rw [<-hg];exact if_neg s];exact Ji
   ·rw [<-S zX,zm F];exact U
 ·rintro m ⟨hb,f,D,L,o⟩;rw [Nat.sub_self,List.replicate_zero,List.append_nil] at o;rw [b4,List.take_length] at L;refine iX (n:=A.length) (by omega) (by omega) (λi m=>∃C j,hb<=C/\cZ (cF C) j ((t.procs.take i).mapIdx X)/\Has C ((fB 6 eX r f).star (fB 15 eY r1 (j++List.replicate (A.length-i) zY))) m)
   ⟨hb,[],Hp.le_refl _,trivial,by rw [List.nil_append,Nat.sub_zero,b6];exact o⟩ ?_ ?_
  ·rintro i R m ⟨C,j,N,M,o⟩ K O;have P:j.length=i:=by rw [M.len,List.length_mapIdx,List.length_take];omega
   have F:(j++List.replicate (A.length-i) zY)[i]? =some zY:=by rw [List.getElem?_append_right (by omega),P,Nat.sub_self,List.getElem?_replicate,if_pos (by omega)]
   have S:∀z:aL,(j++List.replicate (A.length-i) zY).set i z=(j++ [z])++List.replicate (A.length-(i+1)) zY:=λz=>by rw [List.set_append_right _ _ (by omega),P,Nat.sub_self,show A.length-i=(A.length-(i+1))+1 by omega,List.replicate_succ,List.set_cons_zero,List.append_assoc];rfl
   have b0:i<(j++List.replicate (A.length-i) zY).length:=(List.getElem?_eq_some_iff.1 F).1;obtain ⟨q,E,a9⟩:=b3.get (i:=i) (List.getElem?_eq_getElem R);have b1:=Hp.le_trans D N;refine cC.intro (λG=>K (yw ((i:Int)+1)) G) ?_ λ_ h=>h;refine Rs.get (sh:=aF) (Rw.mono (Hp.le_trans b1 o.le) b7) (λ_=>rfl) (by decide) (by omega) (by omega) λ(z:aL) u=> ?_;rw [show ((i:Int)).toNat=i from rfl,List.getElem?_eq_getElem R] at u;cases u;refine tW (sh:=aR) (K0:=λb e=>fF c a (i:Int)=b/\C=e) o (zxe (Em (kc.mono b1) hu ha ⟨rfl,rfl⟩)) ?_;rintro b e G ⟨rfl,rfl⟩ U;by_cases s:fF c a (i:Int)=true
   ·rw [if_pos s];refine tW (sh:=aF) (K0:=λz e=>C<=e/\cF e z q) U (Vw (Ur (a9.mono b1) (jW.ag q (List.mem_of_getElem? E)) λr e l p=>⟨l,p⟩)) ?_;rintro (z:aL) e k3 ⟨T,u⟩ V;refine ⟨⟨trivial,trivial⟩,(Has.right V).sE (sh:=aF) (λ_=>rfl) (by decide) b0,?_⟩;obtain ⟨h2,_,oO,_,put⟩:=V.snd;refine oO.qB (i:=i) (x':=z) (off:=0) (new:=bu (aF.enc z)) (λ_=>rfl) F (by exact Nat.le_refl 15) (by exact (List.append_nil _).symm) λk4 W=>O k4 ⟨e,j++ [z],Hp.le_trans N T,?_,?_⟩
    ·rw [Gk E];refine wL ?_ (M.imp λ_ _ r=>r.mono T);rw [show X i q=q by rw [<-a8];exact if_pos s];exact u
    ·rw [S z] at W;exact put _ _ W
   ·rw [if_neg s];refine O G ⟨C,j++ [zY],N,?_,?_⟩
    ·rw [Gk E];refine wL ?_ M;rw [show X i q=uP by rw [<-a8];exact if_neg s];exact Jj
    ·rw [<-S zY,zm F];exact U
  ·rintro m ⟨C,j,N,M,o⟩;rw [Nat.sub_self,List.replicate_zero,List.append_nil] at o;rw [b6,List.take_length] at M;have hv:iT c t a=⟨t.tick,t.parts.mapIdx g,t.procs.mapIdx X⟩:=by rw [<-hg,<-a8];rfl
   refine hq _ m (Hp.le_trans D (Hp.le_trans N o.le)) ?_;rw [hv];exact ⟨ks.tick,⟨f,(Has.left o).gA (λ_=>rfl),L.imp λ_ _ r=>r.mono (Hp.le_trans N o.le)⟩,j,(Has.right o).gA (λ_=>rfl),M.imp λ_ _ r=>r.mono o.le⟩
theorem Jk {Q:aD->Hp->Prop} (n:dQ h0 x c) (e:cO h0 y t) (m:∀l∈c.labels,jq l) (i:jq a) (jW:mn t) (j:∀o f,h0<=f->cO f o (iT c t a)->Q o f):Fs prog x y a Q h0:=by
 unfold Fs;obtain ⟨D,s,p⟩:=e.parts;obtain ⟨E,u,q⟩:=e.procs;have H:=p.len;have I:=q.len;have F:y.bz.len=D.length:=s.1;have G:y.aE.len=E.length:=u.1;have f1:=jW.parts;have f2:=jW.procs;have g:((y.bz.len:Int)).toNat=t.parts.length:=by omega
 have h:((y.aE.len:Int)).toNat=t.procs.length:=by omega
 refine ⟨?_,?_⟩
 ·refine rV (sz:=6) (z:=zX) (enc:=eX) rfl (λ_=>rfl) (by omega) (by omega) λl v A b=>⟨⟨trivial,trivial,trivial⟩,?_⟩;refine rV (sz:=15) (z:=zY) (enc:=eY) rfl (λ_=>rfl) (by omega) (by omega) λB w C d=>⟨⟨trivial,trivial⟩,?_⟩;rw [g] at b;rw [h] at d;exact Nu n e m i jW (b.beside d) j
 ·refine rV (sz:=15) (z:=zY) (enc:=eY) rfl (λ_=>rfl) (by omega) (by omega) λB v A b=>⟨⟨trivial,trivial,trivial⟩,?_⟩;refine rV (sz:=6) (z:=zX) (enc:=eX) rfl (λ_=>rfl) (by omega) (by omega) λl w C d=>⟨⟨trivial,trivial,trivial⟩,?_⟩;rw [g] at d;rw [h] at b;exact Nu n e m i jW (b.beside d).comm j
end
end Lf
namespace Lf
open Go Go.Proofs Go.ChangeShapes Go.WideShapes Go.ChangeAt Go.RowKit
section
variable {H:Type} {enc:TypeId×Value->H} {W:World}
abbrev kO :av->List Value:=λx=>bu (bI.enc x)
theorem PK :lr enc Tryz.prog W 43 λa=>∃x,a=kO x/\(ug x.Kind/\ug x.N/\ug x.V):=λf a y h c=>by have b:=ae.aM 43 xJ rfl;have d:=wZ b h;rw [show Tryz.prog.cellsOf 43=3 by kernel_rfl] at d;obtain ⟨a0,g,l⟩:=ph b h c (i:=0) (off:=0) rfl rfl kj li;obtain ⟨a1,j,n⟩:=ph b h c (i:=1) (off:=1) rfl rfl kj li;obtain ⟨a2,k,o⟩:=ph b h c (i:=2) (off:=2) rfl rfl L7 Hb;refine ⟨⟨a0,a1,a2⟩,?_,yG l,yG n,yG o⟩;have e:a=a.drop 0:=rfl;rw [e,pf (m:=1) g rfl,pf (m:=2) j rfl,pf (m:=3) k rfl,List.drop_of_length_le (Nat.le_of_eq d)];rfl
end
end Lf
namespace Lf
open Go Go.Proofs Tryz
section
variable {h:Hp}
theorem Nv {P:Program} {t:Nat} {x y:Operand} {xs ys:Array Value} (L:List (Field×IntKind×Int×Int)) (c:P.underlying t=some (.struct (L.map (·.1)).toArray)) (f:P.eqGuardType P.depth t=false) (hp:P.stoodInHeld t=false)
  (e:∀q∈L,q.1.name≠ "_" ∧P.underlying q.1.type=some (.int q.2.1)∧xs[q.1.offset]? =some (.int q.2.1 q.2.2.1)∧ys[q.1.offset]? =some (.int q.2.1 q.2.2.2)):
  ia P (cT .neq t x y (.agg xs) (.agg ys)) h (.bool (!(L.all λq=>q.2.2.1==q.2.2.2))):=by
 refine Eo λw=> ?_;have b:P.fieldsOf t=(L.map (·.1)).toArray:=by unfold Program.fieldsOf;rw [c]
 have g:P.underlying t=some (.struct (P.fieldsOf t)):=by rw [b];exact c
 have a:=run_equalIn_struct (P:=P) w 9999 t xs ys g hp;rw [b] at a;have d:=NB (P:=P) 9998 xs ys L w e;unfold cT;simp only [Sem.run_bind,run_eqGuard_agg w .neq t x y xs ys f,Result.andThen_ok,run_neq_struct];rw [show (10000:Nat)=9999+1 from rfl,a];simp only [d,Result.andThen_ok]
def rC (x y:bc):Bool:=x.Op==y.Op&&(x.A==y.A&&(x.B==y.B&&(x.C==y.C&&x.iV==y.iV)))
theorem ln {x y:bc}:rC x y=true↔bD x=bD y:=by unfold rC bD;simp
theorem Lo {x y:bc} {p q:Operand}:ia prog (cT .neq 87 p q x.v y.v) h (.bool (!(rC x y))):=by
 have:=Nv (h:=h) (P:=prog) (t:=87) (x:=p) (y:=q) (xs:= #[.int .i64 x.Op,.int .i64 x.A,.int .i64 x.B,.int .i64 x.C,.int .i64 x.iV]) (ys:= #[.int .i64 y.Op,.int .i64 y.A,.int .i64 y.B,.int .i64 y.C,.int .i64 y.iV])
  [(⟨ "Op",3,0,false, "", "",0⟩,.i64,x.Op,y.Op),(⟨ "A",3,1,false, "", "",8⟩,.i64,x.A,y.A),(⟨ "B",3,2,false, "", "",16⟩,.i64,x.B,y.B),(⟨ "C",3,3,false, "", "",24⟩,.i64,x.C,y.C),(⟨ "Imm",2,4,false, "", "",32⟩,.i64,x.iV,y.iV)]
  (ae.aM 87 xM rfl) (by kernel_rfl) (by kernel_rfl) (λq a=>by
   simp only [List.mem_cons,List.not_mem_nil,or_false] at a;rcases a with rfl | rfl | rfl | rfl | rfl
   ·exact ⟨by simp,ae.aM 3 sO rfl,rfl,rfl⟩
   ·exact ⟨by simp,ae.aM 3 sO rfl,rfl,rfl⟩
   ·exact ⟨by simp,ae.aM 3 sO rfl,rfl,rfl⟩
   ·exact ⟨by simp,ae.aM 3 sO rfl,rfl,rfl⟩
   ·exact ⟨by simp,ae.aM 2 qF rfl,rfl,rfl⟩)
 have e:rC x y=[(⟨ "Op",3,0,false, "", "",0⟩,IntKind.i64,x.Op,y.Op),(⟨ "A",3,1,false, "", "",8⟩,.i64,x.A,y.A),(⟨ "B",3,2,false, "", "",16⟩,.i64,x.B,y.B),(⟨ "C",3,3,false, "", "",24⟩,.i64,x.C,y.C),((⟨ "Imm",2,4,false, "", "",32⟩:Field),.i64,x.iV,y.iV)].all (λq=>q.2.2.1==q.2.2.2):=by unfold rC;simp
 rw [e];exact this
end
abbrev lG (h:Hp) (l:Sl) (xs:List av):Prop:=Rs h bI 3 l xs
theorem G0 {len:Int} {n:Nat} (p:len=(n:Int)) (hb:n<=4611686018427387904) (I:Nat->Sl->Hp->Prop) {B:(Sl->Int->Hp->Prop)->Sl->Int->Hp->Prop} {X:Sl->Int->Hp->Prop} {e:Sl} {c:Hp} (g:I 0 e c)
  (l:∀i:Nat,i<n->∀s h,I i s h->∀K:Sl->Int->Hp->Prop,(∀b a,I (i+1) b a->K b (yw ((i:Int)+1)) a)->B K s (i:Int) h) (m:∀s h,I n s h->X s (n:Int) h):
  dx (λf s t h=>if decide (t<len)=true then B f s t h else X s t h) e (0:Int) c:=by
 refine dx.intro (λs t h=>∃i:Nat,t=(i:Int)/\i<=n/\I i s h) (λ_ t _=>(len-t).toNat) ⟨0,rfl,by omega,g⟩ ?_;rintro s t h ⟨i,rfl,o,d⟩;by_cases k:i<n
 ·rw [if_pos (decide_eq_true (by omega))];refine l i k s h d _ λb a j=> ?_;rw [wrap64 (by omega) (by omega)];exact ⟨⟨i+1,by omega,by omega,j⟩,by omega⟩
 ·have:i=n:=by omega
  subst this;rw [if_neg (by simp;omega)];exact m s h d
section
variable {h:Hp} {Q:Bool->Hp->Prop}
theorem yW {sh:Shape} {sz:Nat} {s1 s2:Sl} {a b:List sh.T} {v:Type} (f:sh.T->v) {B:(Int->Hp->Prop)->Int->Hp->sh.T->sh.T->Prop} (u:Rs h sh sz s1 a) (r2:Rs h sh sz s2 b) (r:∀x,(bu (sh.enc x)).length=sz) (s:0<sz)
  (F:a.length<=140737488355328) (hb:∀(i:Nat) x y,a[i]? =some x->b[i]? =some y->∀K:Int->Hp->Prop,(f x=f y->K (yw ((i:Int)+1)) h)->(f x≠f y->Q false h)->B K (i:Int) h x y)
  (c:a.map f=b.map f->Q true h) (q:a.map f≠b.map f->Q false h):
  (if (((s1.len:Nat):Int) !=((s2.len:Nat):Int))=true then Q false h else
   aA (α1:=Int) (λw t c=>(if (decide (t<((s1.len:Nat):Int)))=true then
    ((br s1.base s1.len t)/\aQ none sh c (sat s1.base sz t) λx=>((br s2.base s2.len t)/\aQ none sh c (sat s2.base sz t) λD=>B w t c x D))
    else Q true c)) (0:Int) h):=by
 have o:s1.len=a.length:=u.1;have p:s2.len=b.length:=r2.1;by_cases g:a.length=b.length
 ·rw [if_neg (by rw [o,p,g];simp)];refine iX (n:=a.length) (by omega) (by omega) (λi A=>A=h/\(a.take i).map f=(b.take i).map f) ⟨rfl,rfl⟩ ?_ ?_
  ·rintro i E k ⟨rfl,d⟩ K C;refine Rs.get (sh:=sh) u r s (i:=(i:Int)) (by omega) (by omega) λx j=> ?_;refine Rs.get (sh:=sh) r2 r s (i:=(i:Int)) (by omega) (by omega) λy m=> ?_;rw [Int.toNat_natCast] at j m;refine hb i x y j m _ (λe=>C k ⟨rfl,?_⟩) λe=>q λz=>e ?_
   ·rw [List.take_add_one,List.take_add_one,j,m,List.map_append,List.map_append,d];show _++ [f x]=_++ [f y];rw [e]
   ·have:=congrArg (λl:List v=>l[i]?) z;simp only [List.getElem?_map,j,m] at this;exact Option.some.inj this
  ·rintro k ⟨rfl,d⟩;rw [List.take_length,g,List.take_length] at d;exact c d
 ·rw [if_pos (by rw [o,p];simpa using λe=>g (by omega))];exact q λe=>g (by have:=congrArg List.length e;simpa using this)
theorem acM {sh:Shape} {s1 s2:Sl} {a b:List Int} (k:Is h s1 a) (r2:Is h s2 b) (j:a.length<=140737488355328) (d:a=b->Q true h) (c:a≠b->Q false h):UL prog s1 s2 Q h:=by
 unfold UL;refine yW (sh:=ab .i64) (λx:Int=>x) k r2 (λ_=>rfl) (by decide) j (λi (x:Int) (y:Int) _ _ K f g=> ?_) (by simpa using d) (by simpa using c);by_cases e:x=y
 ·rw [if_neg (by simpa using e)];exact f e
 ·rw [if_pos (by simpa using e)];exact g e
theorem acP {s1 s2:Sl} {a b:List Int} (k:Us h s1 a) (r2:Us h s2 b) (j:a.length<=140737488355328) (d:a=b->Q true h) (c:a≠b->Q false h):R3 prog s1 s2 Q h:=by
 unfold R3;refine yW (sh:=ab .u64) (λx:Int=>x) k r2 (λ_=>rfl) (by decide) j (λi (x:Int) (y:Int) _ _ K f g=> ?_) (by simpa using d) (by simpa using c);by_cases e:x=y
 ·rw [if_neg (by simpa using e)];exact f e
 ·rw [if_pos (by simpa using e)];exact g e
structure kM (a b:aW):Prop where
 labels:a.labels=b.labels
 table:a.table=b.table
 fuel:a.fuel=b.fuel
 lane:a.lane=b.lane
 ai:a.ai=b.ai
 log:a.log=b.log
 procs:a.procs.map (·.part)=b.procs.map (·.part)
theorem zk {c:List aS} {a:List jH} (b:cZ (j3 h) c a):c.map (·.Part)=a.map (·.part):=by
 induction c generalizing a with
 | nil=>cases a with
  | nil=>rfl
  | cons _ _=>exact b.elim
 | cons x c d=>cases a with
  | nil=>exact b.elim
  | cons y a=>rw [List.map_cons,List.map_cons,b.1.1,d b.2]
theorem acS {x y:az} {a b:aW} (c:dQ h x a) (d:dQ h y b) (M:a.labels.length<=1000/\a.table.length<=1000/\a.procs.length<=1000) (o:kM a b->Q true h) (j:¬kM a b->Q false h):ztv prog x y Q h:=by
 unfold ztv;obtain ⟨O,B,n⟩:=c.procs;obtain ⟨P,C,u⟩:=d.procs;have m:=zk n;have f:=zk u;have N:=n.len;have rest:∀r,a.labels=b.labels->(r=decide (a.table=b.table))->aI (true&&r) λL=>
   aI (L&&(x.Fuel==y.Fuel)) λH=>aI (H&&(x.hZ==y.hZ)) λI=>aI (I&&(x.cv==y.cv)) λJ=>aI (J&&(x.Log==y.Log)) λg=>
   cP (some g) (aa prog P3 [x.aE.v,y.aE.v,(.func (.func 99) #[] #[])] aR) (λr2 p=>aI (g&&r2) λl=>Q l p) h:=by
  intro r A D;refine aJ (aJ (aJ (aJ (aJ ?_))));rw [c.fuel,d.fuel,c.lane,d.lane,c.ai,d.ai,c.log,d.log,D];generalize k:((((true&&decide (a.table=b.table))&&(a.fuel==b.fuel))&&(a.lane==b.lane))&&(a.ai==b.ai)&&(a.log==b.log))=g;cases g with
  | false=>exact s7 rfl false (aJ (j λs=>by simp [s.table,s.fuel,s.lane,s.ai,s.log] at k))
  | true=>
   simp only [Bool.true_and,Bool.and_eq_true,decide_eq_true_eq,beq_iff_eq] at k;obtain ⟨⟨⟨⟨t1,t2⟩,E⟩,F⟩,G⟩:=k;refine nt rfl (zek (eq:=⟨99, #[], #[]⟩) ?_);unfold zca;refine yW (sh:=bq) (Q:=λb h=>aI (true&&b) λl=>Q l h) (λx:aS=>x.Part) B C (λ_=>rfl) (by decide) (by omega) (λi (z:aS) (w:aS) _ _ K q t=> ?_) (λe=>aJ (o ⟨A,t1,t2,E,F,G,by rw [<-m,<-f];exact e⟩)) λe=>aJ (j λs=>e (by rw [m,f];exact s.procs));refine uV rfl (S3 (x:=z) (y:=w) ?_);unfold zyg;dsimp only;by_cases e:z.Part=w.Part
   ·rw [if_neg (by simpa using e)];exact q e
   ·rw [if_pos (by simpa using e)];exact t e
 refine zrb (acP c.labels d.labels (by omega) (λe=> ?_) λe=> ?_)
 ·refine nt rfl (zxg (acM (sh:=aR) c.table d.table (by omega) (λf=> ?_) λf=> ?_))
  ·exact rest true e (by simp [f])
  ·exact rest false e (by simp [f])
 ·refine s7 rfl false (aJ (aJ (aJ (aJ (aJ (s7 (by simp) false (aJ ?_)))))));simpa using j λs=>e s.labels
def vt (x y:av):Bool:=x.Kind==y.Kind&&(x.N==y.N&&x.V==y.V)
theorem mz {x y:av}:vt x y=true↔x=y:=by cases x;cases y;unfold vt;simp
theorem KZ {x y:av} {p q:Operand}:ia prog (cT .neq 43 p q x.v y.v) h (.bool (!(vt x y))):=by
 have:=Nv (h:=h) (P:=prog) (t:=43) (x:=p) (y:=q) (xs:= #[.int .i64 x.Kind,.int .i64 x.N,.int .i64 x.V]) (ys:= #[.int .i64 y.Kind,.int .i64 y.N,.int .i64 y.V])
  [(⟨ "Kind",3,0,false, "", "",0⟩,.i64,x.Kind,y.Kind),(⟨ "N",3,1,false, "", "",8⟩,.i64,x.N,y.N),(⟨ "V",2,2,false, "", "",16⟩,.i64,x.V,y.V)]
  (ae.aM 43 xJ rfl) (by kernel_rfl) (by kernel_rfl) (λq a=>by
   simp only [List.mem_cons,List.not_mem_nil,or_false] at a;rcases a with rfl | rfl | rfl
   ·exact ⟨by simp,ae.aM 3 sO rfl,rfl,rfl⟩
   ·exact ⟨by simp,ae.aM 3 sO rfl,rfl,rfl⟩
   ·exact ⟨by simp,ae.aM 2 qF rfl,rfl,rfl⟩)
 have e:vt x y=[(⟨ "Kind",3,0,false, "", "",0⟩,IntKind.i64,x.Kind,y.Kind),(⟨ "N",3,1,false, "", "",8⟩,.i64,x.N,y.N),((⟨ "V",2,2,false, "", "",16⟩:Field),.i64,x.V,y.V)].all (λq=>q.2.2.1==q.2.2.2):=by unfold vt;simp
 rw [e];exact this
theorem R6 {a b:Sl} {c d:List av} (n:lG h a c) (r2:lG h b d) (m:c.length<=140737488355328) (g:c=d->Q true h) (f:c≠d->Q false h):Dt prog a b Q h:=by
 unfold Dt;refine yW (sh:=bI) (λx:av=>x) n r2 (λ_=>rfl) (by decide) m (λi (x:av) (y:av) _ _ K j k=>⟨_,KZ,?_⟩) (by simpa using g) (by simpa using f);by_cases e:x=y
 ·rw [mz.2 e];exact j e
 ·rw [Bool.eq_false_iff.2 λl=>e (mz.1 l)];exact k e
theorem ab9 {a b:Sl} {c d:List bc} (n:lR h a c) (r2:lR h b d) (m:c.length<=140737488355328) (g:c.map bD=d.map bD->Q true h) (f:c.map bD≠d.map bD->Q false h):ztw prog a b Q h:=by
 unfold ztw;refine yW (sh:=bn) bD n r2 (λ_=>rfl) (by decide) m (λi (x:bc) (y:bc) _ _ K j k=>⟨_,Lo,?_⟩) g f;by_cases e:bD x=bD y
 ·rw [ln.2 e];exact j e
 ·rw [Bool.eq_false_iff.2 λl=>e (ln.1 l)];exact k e
end
def bO (c:aW) (a:Int) (x:av):Bool:= !(x.Kind==2 || x.Kind==3) || fF c a x.N
section
variable {h:Hp} {x:az} {c:aW} {a:Int} {l:Sl} {xs:List av} {Q:Sl->Hp->Prop}
theorem H7 {b:Type} {p:b->Bool} {l:List b} {i:Nat} {z:b} (h:l[i]? =some z):(l.take (i+1)).filter p=(l.take i).filter p++if p z=true then [z] else []:=by rw [List.take_add_one,h,List.filter_append];congr 1;simp [List.filter_cons]
theorem yf {p:av->Bool} {i:Nat} (d:xs.length<=1048576):((xs.take i).filter p).length<=1048576:=by have b:=List.length_filter_le p (xs.take i);rw [List.length_take] at b;omega
theorem DA (D:dQ h x c) (C:∀l∈c.labels,jq l) (y:jq a) (m:lG h l xs) (A:xs.length<=1048576) (B:∀r b,Has h (eu 3 kO r (xs.filter (bO c a))) b->Q r b):Dr prog x l a Q h:=by
 unfold Dr;have J:l.len=xs.length:=m.1;refine G0 (n:=xs.length) (by omega) (by omega) (λi s b=>Has h (eu 3 kO s ((xs.take i).filter (bO c a))) b) (Has.jO (Hp.le_refl _)) ?_ ?_
 ·intro i I s k o K j;refine dp.direct ?_;refine Rs.get (sh:=bI) (Rw.mono o.le m) (λ_=>rfl) (by decide) (by omega) (by omega) λ(z:av) t=> ?_;rw [Int.toNat_natCast] at t;have f:=H7 (p:=bO c a) t;refine aJ ?_;have d:(if bO c a z=true then bP [(.int .i64 z.Kind),(.int .i64 z.N),(.int .i64 z.V)] (λa1 v=>gF 3 24 [(.int .i64 (0:Int)),(.int .i64 (0:Int)),(.int .i64 (0:Int))] ⟨s.base,s.len,s.cap⟩ ⟨(some a1),1,1⟩ (λG w=>K G (yw ((i:Int)+1)) w) v) k else K ⟨s.base,s.len,s.cap⟩ (yw ((i:Int)+1)) k):=by
   by_cases g:bO c a z=true
   ·rw [if_pos g] at f;rw [if_pos g];have H:=yf (p:=bO c a) (i:=i) A;refine o.push (e:=z) rfl (λ_=>rfl) (λ_=>rfl) rfl ⟨by omega,by omega⟩ λE b F=>j E b ?_;rw [f];exact F
   ·rw [if_neg g,List.append_nil] at f;rw [if_neg g];refine j s k ?_;rw [f];exact o
  have u:bO c a z=(!(z.Kind==2 || z.Kind==3) || fF c a z.N):=rfl;rw [u] at d;cases q:(z.Kind==2 || z.Kind==3) with
  | true=>rw [q] at d;refine nt rfl (zxe (Em (D.mono o.le) C y (aJ ?_)));exact d
  | false=>rw [q] at d;exact s7 rfl false (aJ d)
 ·intro s k o;rw [List.take_length] at o;exact B s k o
theorem Mc {i:Int} {Q:Bool->Hp->Prop} (j:dQ h x c) (g:∀l∈c.labels,jq l) (f:jq a) (b:Q (iy c a i) h):Vh prog x i a Q h:=by unfold Vh;exact KQ (λd e b=>zxi (Ue d e b)) j g f b
theorem ER {p:Int} {Q:Bool->Hp->Prop} (d:dQ h x c) (f:∀l∈c.labels,jq l) (e:jq a) (b:Q (fF c a p) h):Vg prog x p a Q h:=by unfold Vg;exact KT (λb=>znw (Mc d f e b)) d b
theorem Mo (B:dQ h x c) (A:∀l∈c.labels,jq l) (v:jq a) (q:lG h l xs) (w:xs.length<=1048576) (y:∀r d,Has h (eu 3 kO r (xs.filter (bO c a))) d->Q r d):UD prog x l a Q h:=by
 unfold UD;have H:l.len=xs.length:=q.1;refine iA (xs:=([]:List av)) (sz:=3) (enc:=kO) rfl (λ_=>rfl) λb I J E=> ?_;refine G0 (n:=xs.length) (by omega) (by omega) (λi s d=>Has h (eu 3 kO s ((xs.take i).filter (bO c a))) d) E ?_ ?_
 ·intro i G s k o K m;refine dp.direct ?_;have t:=Rw.mono o.le q;refine Rs.get (sh:=bI) t (λ_=>rfl) (by decide) (by omega) (by omega) λ(z:av) j=> ?_;rw [Int.toNat_natCast] at j;have f:=H7 (p:=bO c a) j;refine zvj ?_;unfold zpb;refine Tp (ER (B.mono o.le) A v (aJ (aJ ?_)));have e:(!((z.Kind==2 || z.Kind==3)&& !(fF c a z.N)))=bO c a z:=by unfold bO;simp
  dsimp only;rw [e];by_cases g:bO c a z=true
  ·rw [if_pos g] at f;rw [if_pos g];have F:=yf (p:=bO c a) (i:=i) w;refine Rs.get (sh:=bI) t (λ_=>rfl) (by decide) (by omega) (by omega) λ(L:av) u=> ?_;rw [Int.toNat_natCast,j] at u;cases u;refine o.push (e:=z) rfl (λ_=>rfl) (λ_=>rfl) rfl ⟨by omega,by omega⟩ λC d D=>m C d ?_;rw [f];exact D
  ·rw [if_neg g,List.append_nil] at f;rw [if_neg g];refine m s k ?_;rw [f];exact o
 ·intro s k o;rw [List.take_length] at o;exact y s k o
end
def tM (t:cS):az:=⟨t.bU,t.cI,t.dT,t.dU,t.dk,t.fJ,t.bM⟩
def uT (t:cS):az:=⟨t.cn,t.cR,t.fb,t.fc,t.dF,t.gh,t.cp⟩
structure nR (h:Hp) (t:cS) (A B:aW) (S T:List av):Prop where
 a:dQ h (tM t) A
 b:dQ h (uT t) B
 s:lG h t.S S
 r:lG h t.T T
 ua:∀l∈A.labels,jq l
 ub:∀l∈B.labels,jq l
 u:jq t.Label
structure gl (A B:aW) (S T:List av) (a:Int):Prop where
 s:S.length<=1024
 r:T.length<=1024
 ea:(gN A).1=0
 eb:(gN B).1=0
 gD:kM A B
 code:∀p:Nat,p<nQ A->fF A a (p:Int)=true->gG A p=gG B p
 same:S.filter (bO A a)=T.filter (bO B a)
section
variable {h:Hp} {t:cS} {A B:aW} {S T:List av} {Q:Bool->Hp->Prop}
theorem nR.mono {c:Hp} (k:nR h t A B S T) (l:h<=c):nR c t A B S T:=⟨k.a.mono l,k.b.mono l,Rw.mono l k.s,Rw.mono l k.r,k.ua,k.ub,k.u⟩
theorem KV {x:az} {c:aW} (d:dQ h x c) (b:∀a,h<=a->Q ((gN c).1==0) a):Ds prog x Q h:=by unfold Ds;exact KA (Nl d λa l=>b a l)
theorem yO {c:aW} {b:List aS} (f:cZ (j3 h) b c.procs) {i:Nat} {x:aS} (j:b[i]? =some x):∃a,lR h x.Code a/\a.map bD=gG c i:=by obtain ⟨q,g,hp⟩:=f.get j;obtain ⟨a,d,e⟩:=hp.2;refine ⟨a,d,?_⟩;unfold gG;rw [g,e];rfl
theorem ES (k:nR h t A B S T) (h1:∀g,h<=g->gl A B S T t.Label->Q true g) (f:∀g,h<=g->¬gl A B S T t.Label->Q false g):Ez prog t Q h:=by
 unfold Ez;have hs:t.S.len=S.length:=k.s.1;have ht:t.T.len=T.length:=k.r.1;refine aJ ?_;by_cases F:S.length<=1024/\T.length<=1024
 ·rw [show (decide (((t.S.len:Nat):Int)>(1024:Int)) || decide (((t.T.len:Nat):Int)>(1024:Int)))=false by simp;omega];refine nt rfl (Jb (c:=tM t) (KV k.a λk1 J=>aJ ?_));by_cases l:(gN A).1=0
  ·rw [show ((gN A).1==0)=true by simpa using l];refine nt rfl (Jb (c:=uT t) (KV (k.b.mono J) λk2 l2=>aJ ?_));have d:=Hp.le_trans J l2;by_cases hb:(gN B).1=0
   ·rw [show ((gN B).1==0)=true by simpa using hb];have z:=lZ l;have m1:=z.parts;have m2:=z.table;have m3:=z.procs;unfold nP at m1;unfold nQ at m3;refine nt rfl (Vs (a:=tM t) (b:=uT t) (acS (k.a.mono d) (k.b.mono d) ⟨by omega,by omega,by omega⟩ (λC=>aJ ?_) λC=>aJ ?_))
    ·rw [if_neg (by simp)];obtain ⟨M,R,O⟩:=(k.a.mono d).procs;obtain ⟨qs,U,P⟩:=(k.b.mono d).procs;have b0:M.length=A.procs.length:=O.len;have eql:qs.length=B.procs.length:=P.len;have a9:A.procs.length=B.procs.length:=by have:=congrArg List.length C.procs;simpa using this
     have b2:t.bM.len=M.length:=R.1;refine iX (n:=M.length) (by omega) (by omega) (λi H=>H=k2/\∀p:Nat,p<i->fF A t.Label (p:Int)=true->gG A p=gG B p) ⟨rfl,λp hp=>by omega⟩ ?_ ?_
     ·rintro i hi H ⟨rfl,o⟩ K N;refine Rs.get (sh:=bq) R (λ_=>rfl) (by decide) (by omega) (by omega) λ(x:aS) V=> ?_;rw [Int.toNat_natCast] at V;refine zxe (c:=tM t) (Em (k.a.mono d) k.ua k.u ?_);by_cases w:fF A t.Label (i:Int)=true
      ·rw [w];obtain ⟨e1,y,W,a8⟩:=Rw.read U (λ_=>rfl) (by decide) (i:=(i:Int)) (by omega) (by rw [U.1];omega);rw [Int.toNat_natCast] at W;refine ⟨λ_=>e1,y.Code,λ_=>λj v D=> ?_,?_⟩
       ·match j,D with
        | 0,D=>exact a8 1 v D
       ·obtain ⟨is,i1,G⟩:=yO O V;obtain ⟨js,j1,X⟩:=yO P W;have b1:is.length<=256:=by have:=z.mq (p:=i);rw [<-G,List.length_map] at this;exact this
        refine nt rfl (Vt (a:=x.Code) (b:=y.Code) (ab9 i1 j1 (by omega) (λe=>aJ ?_) λe=>aJ ?_))
        ·refine N _ ⟨rfl,λp hp q=> ?_⟩;by_cases E:p=i
         ·subst E;rw [<-G,<-X];exact e
         ·exact o p (by omega) q
        ·exact f _ d λm=>e (by rw [G,X];exact m.code i (by unfold nQ;omega) w)
      ·rw [Bool.eq_false_iff.2 w];refine ⟨λe=>(by cases e),(⟨none,0,0⟩:Sl),λe=>(by cases e),s7 rfl false (aJ ?_)⟩;refine N _ ⟨rfl,λp hp q=> ?_⟩;by_cases E:p=i
       ·subst E;exact absurd q w
       ·exact o p (by omega) q
     ·rintro H ⟨rfl,o⟩;refine zus (c:=tM t) (DA (k.a.mono d) k.ua k.u (Rw.mono d k.s) (by omega) λr3 k3 Z=>⟨⟨trivial,trivial,trivial,trivial⟩,?_⟩);have I:=Hp.le_trans d Z.le;refine zus (c:=uT t) (DA (k.b.mono I) k.ub k.u (Rw.mono I k.r) (by omega) λr4 k4 L=> ?_);have Y:=Hp.le_trans I L.le;have f1:=yf (xs:=S) (p:=bO A t.Label) (i:=S.length) (by omega);rw [List.take_length] at f1;refine abH (a:=r3) (b:=r4) (R6 (Rw.mono L.le (Z.jb (λ_=>rfl))) (L.jb (λ_=>rfl)) (by omega) (λe=> ?_) λe=> ?_)
      ·exact h1 _ Y ⟨F.1,F.2,l,hb,C,λp hp=>o p (by unfold nQ at hp;omega),e⟩
      ·exact f _ Y λm=>e m.same
    ·exact f _ d λm=>C m.gD
   ·rw [show ((gN B).1==0)=false by simpa using hb];exact s7 rfl false (aJ (f _ d λm=>hb m.eb))
  ·rw [show ((gN A).1==0)=false by simpa using l];exact s7 rfl false (aJ (s7 rfl false (aJ (f _ J λm=>l m.ea))))
 ·rw [show (decide (((t.S.len:Nat):Int)>(1024:Int)) || decide (((t.T.len:Nat):Int)>(1024:Int)))=true by simp;omega];exact s7 rfl false (aJ (s7 rfl false (aJ (s7 rfl false (aJ (f _ (Hp.le_refl _) λm=>F ⟨m.s,m.r⟩))))))
end
def ik (c:aW) (a:Int):Nat->Bool:=λi=>iy c a (i:Int)
theorem Mp {a b c:Int} (e:jg a b=true) (f:jg b c=true):jg a c=true:=iF.2 λn d h=>iF.1 f n d (iF.1 e n d h)
section
variable {A B:aW} {a:Int} {S T:List av} {t t':fA}
theorem GD (m:cH A) {p:Int} (d:0<=p) (b:p<(nQ A:Int)):fF A a p=ik A a (aB A p.toNat):=by
 unfold fF ik aB;rw [decide_eq_true d,decide_eq_true b];have c:p.toNat<A.procs.length:=by unfold nQ at b;omega
 rw [List.getElem?_eq_getElem c];have:=(m.part _ (List.getElem_mem c)).1;show (true&&true&&iy A a A.procs[p.toNat].part)=iy A a ((A.procs[p.toNat].part.toNat:Nat):Int);rw [show ((A.procs[p.toNat].part.toNat:Nat):Int)=A.procs[p.toNat].part by omega];rfl
theorem kM.len (s:kM A B):A.procs.length=B.procs.length:=by have:=congrArg List.length s.procs;simpa using this
theorem kM.part (s:kM A B) (p:Nat):(A.procs[p]?).map (·.part)=(B.procs[p]?).map (·.part):=by have:=congrArg (λl:List Int=>l[p]?) s.procs;simpa using this
theorem kM.iy (s:kM A B):iy B a=iy A a:=by funext i;unfold Lf.iy nP;rw [s.labels]
theorem kM.fF (s:kM A B):fF B a=fF A a:=by funext p;unfold Lf.fF nQ;rw [s.len,s.part,s.iy]
theorem kM.cW (s:kM A B):bO B a=bO A a:=by funext x;unfold bO;rw [s.fF]
theorem kM.iE (s:kM A B):iE B=iE A:=by funext i j;unfold Lf.iE;rw [s.labels]
theorem gl.pF (m:gl A B S T a):Twin (ik A a) (iE A) A B where
 nP:=by unfold nP;rw [m.gD.labels]
 nQ:=by unfold nQ;rw [m.gD.len]
 w9:=by
  funext p;unfold aB;have:=m.gD.part p;cases d:A.procs[p]? with
  | none=>
   rw [d] at this;cases b:B.procs[p]? with
   | none=>rfl
   | some y=>rw [b] at this;cases this
  | some x=>
   rw [d] at this;cases b:B.procs[p]? with
   | none=>rw [b] at this;cases this
   | some y=>rw [b] at this;simp at this;simp [this]
 code:=λp hp=>by
  by_cases h:p<nQ A
  ·refine m.code p h ?_;rw [GD (lZ m.ea) (by omega) (by omega)];exact hp
  ·have e:=m.gD.len;unfold gG;rw [List.getElem?_eq_none (by unfold nQ at h;omega),List.getElem?_eq_none (by unfold nQ at h;omega)]
 table:=m.gD.table.symm
 fuel:=m.gD.fuel.symm
 lane:=m.gD.lane.symm
 ai:=m.gD.ai.symm
 log:=m.gD.log.symm
 up:=λi j h c=>by
  unfold ik Lf.iy at c ⊢;unfold Lf.iE fl at h;split at h
  ·rename_i f;simp only [Bool.and_eq_true,decide_eq_true_eq] at c ⊢;unfold nP;exact ⟨⟨f.1,f.2.1⟩,Mp h c.2⟩
  ·cases h
structure kr (A B:aW) (a:Int) (t t':fA):Prop where
 vE:cL A (ik A a) (bp t) (bp t')
 ga:GT A t
 gb:GT B t'
theorem wP (c:Twin (ik A a) (iE A) A B) {s b:MS} (o:cL A (ik A a) s b):cL A (ik A a) (bp (s.list A)) (bp (b.list B)):=by
 refine ⟨o.tick,λi d=> ?_,λp hp=> ?_⟩
 ·show ((List.range (nP A)).map s.part).getD i lL=((List.range (nP B)).map b.part).getD i lL;rw [c.nP,List.getD_eq_getElem?_getD,List.getD_eq_getElem?_getD,List.getElem?_map,List.getElem?_map];cases h:(List.range (nP A))[i]? with
  | none=>rfl
  | some j=>
   have:j=i:=by have:=(List.getElem?_eq_some_iff.1 h).2;simpa using this.symm
   subst this;show s.part j=b.part j;exact o.part j d
 ·show ((List.range (nQ A)).map s.proc).getD p og=((List.range (nQ B)).map b.proc).getD p og;rw [c.nQ,List.getD_eq_getElem?_getD,List.getD_eq_getElem?_getD,List.getElem?_map,List.getElem?_map];cases h:(List.range (nQ A))[p]? with
  | none=>rfl
  | some j=>
   have:j=p:=by have:=(List.getElem?_eq_some_iff.1 h).2;simpa using this.symm
   subst this;show s.proc j=b.proc j;exact o.proc j hp
theorem Jm {s d:MS} (o:cL A (ik A a) s d):cL A (ik A a) (bp (s.list A)) (bp (d.list A)):=
 wP ⟨rfl,rfl,rfl,λ_ _=>rfl,rfl,rfl,rfl,rfl,rfl,λi j h b=>by
  unfold ik Lf.iy at b ⊢;unfold Lf.iE fl at h;split at h
  ·rename_i c;simp only [Bool.and_eq_true,decide_eq_true_eq] at b ⊢;unfold nP;exact ⟨⟨c.1,c.2.1⟩,Mp h b.2⟩
  ·cases h⟩ o
theorem kr.hU (s:kr A B a t t'):t.tick=t'.tick:=s.vE.tick
theorem kr.tick (m:gl A B S T a) (s:kr A B a t t') (b:t.tick<4611686018427387904):kr A B a (jl A t) (jl B t')/\iU A t.tick=iU B t'.tick/\(jl A t).tick=t.tick+1:=by
 have c:=lZ m.ea;have d:=lZ m.eb;have f:Good B (iE A) (bp t') No No t'.tick:=by rw [<-m.gD.iE];exact s.gb.gO
 obtain ⟨g,h⟩:=s.vE.vU (D:=gx) m.pF c d s.ga.gO f;obtain ⟨i,e⟩:=s.ga.tick c b;refine ⟨⟨?_,i,(s.gb.tick d (by rw [<-s.hU];exact b)).1⟩,h,e⟩;have:=wP m.pF g;show cL A (ik A a) (bp ((jm A gx (iE A) (bp t)).list A)) (bp ((jm B gx (iE B) (bp t')).list B));rw [m.gD.iE];exact this
section
variable (m:gl A B S T a) (s:kr A B a t t') (b:t.tick<=4611686018427387904) {p v:Int}
include m s b
theorem kr.inj (hp:fF A a p=true):kr A B a (nW A t p v) (nW B t' p v):=by have c:=lZ m.ea;have f:=lZ m.eb;exact ⟨wP m.pF (s.vE.inj m.pF λd e=>by rw [<-GD c d e];exact hp),(s.ga.inj c b).1,(s.gb.inj f (by rw [<-s.hU];exact b)).1⟩
theorem kr.kill (hp:fF A a p=true):kr A B a (kP A t p) (kP B t' p):=by have c:=lZ m.ea;have f:=lZ m.eb;exact ⟨wP m.pF (s.vE.kill m.pF λd e=>by rw [<-GD c d e];exact hp),(s.ga.kill c b).1,(s.gb.kill f (by rw [<-s.hU];exact b)).1⟩
theorem kr.tD (hp:fF A a p=false):kr A B a (nW A t p v) t':=by
 have c:=lZ m.ea;have o:=cL.O1 (V:=ik A a) (A:=A) (s:=bp t) (p:=p) (v:=v) λe f=>by rw [<-GD c e f];exact hp
 have d:=Jm o;rw [wB s.ga.parts s.ga.procs] at d;exact ⟨d.symm.trans s.vE,(s.ga.inj c b).1,s.gb⟩
theorem kr.qw (hp:fF A a p=false):kr A B a (kP A t p) t':=by
 have c:=lZ m.ea;have o:=cL.G4 (V:=ik A a) c s.ga.gO (p:=p) λe f=>by rw [<-GD c e f];exact hp
 have d:=Jm o;rw [wB s.ga.parts s.ga.procs] at d;exact ⟨d.symm.trans s.vE,(s.ga.kill c b).1,s.gb⟩
end
theorem gl.flip (m:gl A B S T a):gl B A T S a where
 s:=m.r
 r:=m.s
 ea:=m.eb
 eb:=m.ea
 gD:=⟨m.gD.labels.symm,m.gD.table.symm,m.gD.fuel.symm,m.gD.lane.symm,m.gD.ai.symm,m.gD.log.symm,m.gD.procs.symm⟩
 code:=λp hp b=>by rw [m.gD.fF] at b;exact (m.code p (by unfold nQ at hp ⊢;rw [m.gD.len];exact hp) b).symm
 same:=m.same.symm
theorem kr.flip (m:gl A B S T a) (s:kr A B a t t'):kr B A a t' t:=by
 have e:ik B a=ik A a:=by unfold ik;rw [m.gD.iy]
 have b:=m.pF.w9;refine ⟨?_,s.gb,s.ga⟩;rw [e];exact ⟨s.vE.tick.symm,λi h=>(s.vE.part i h).symm,λp h=>(s.vE.proc p (by rw [<-b];exact h)).symm⟩
theorem kr.view (m:gl A B S T a) (s:kr A B a t t'):iT A t a=iT B t' a:=by
 have e:=m.pF;have f:=lZ m.ea;have g:t.parts.length=t'.parts.length:=by rw [s.ga.parts,s.gb.parts,e.nP]
 have j:t.procs.length=t'.procs.length:=by rw [s.ga.procs,s.gb.procs,e.nQ]
 unfold iT;rw [s.hU,m.gD.iy,m.gD.fF];congr 1
 ·refine List.ext_getElem? λi=> ?_;rw [List.getElem?_mapIdx,List.getElem?_mapIdx];by_cases h:i<t.parts.length
  ·rw [List.getElem?_eq_getElem h,List.getElem?_eq_getElem (by omega)];simp only [Option.map_some,Option.some.injEq];by_cases b:iy A a (i:Int)=true
   ·rw [if_pos b,if_pos b];have:=s.vE.part i b;have c:(bp t).part i=t.parts[i]:=nD (List.getElem?_eq_getElem h);have d:(bp t').part i=t'.parts[i]:=nD (List.getElem?_eq_getElem (by omega));rw [<-c,<-d,this]
   ·rw [if_neg b,if_neg b]
  ·rw [List.getElem?_eq_none (by omega),List.getElem?_eq_none (by omega)]
 ·refine List.ext_getElem? λi=> ?_;rw [List.getElem?_mapIdx,List.getElem?_mapIdx];by_cases h:i<t.procs.length
  ·rw [List.getElem?_eq_getElem h,List.getElem?_eq_getElem (by omega)];simp only [Option.map_some,Option.some.injEq];by_cases b:fF A a (i:Int)=true
   ·rw [if_pos b,if_pos b];have hv:=b;rw [GD f (by omega) (by have:=s.ga.procs;omega)] at hv;have:=s.vE.proc i hv;have c:(bp t).proc i=t.procs[i]:=nD (List.getElem?_eq_getElem h);have d:(bp t').proc i=t'.procs[i]:=nD (List.getElem?_eq_getElem (by omega));rw [<-c,<-d,this]
   ·rw [if_neg b,if_neg b]
  ·rw [List.getElem?_eq_none (by omega),List.getElem?_eq_none (by omega)]
theorem kr.first (m:gl A B S T a):kr A B a ((pj A).list A) ((pj B).list B):=
 ⟨wP m.pF (cL.first m.pF),(zj (lZ m.ea)).1,(zj (lZ m.eb)).1⟩
def im (c:aW) (aG:Int):List av->fA->List av×Int×fA
 | [],t=>([],0,t)
 | x::l,t=>if x.Kind=1 then (if 1<=x.N/\x.N<=65536-aG then (l,x.N,t) else im c aG l t)
  else if x.Kind=2 then im c aG l (nW c t x.N x.V) else if x.Kind=3 then im c aG l (kP c t x.N) else im c aG l t
theorem Nw {c:aW} {aG:Int} {x:av} {l:List av} {t:fA} (h:bO c a x=false):
  (x.Kind=2/\fF c a x.N=false/\im c aG (x::l) t=im c aG l (nW c t x.N x.V))\/(x.Kind=3/\fF c a x.N=false/\im c aG (x::l) t=im c aG l (kP c t x.N)):=by
 unfold bO at h;simp only [Bool.or_eq_false_iff,Bool.not_eq_false',Bool.or_eq_true,beq_iff_eq] at h;obtain ⟨h1,b⟩:=h;rcases h1 with h1 | h1
 ·refine .inl ⟨h1,b,?_⟩
  conv=>lhs;unfold im
  rw [if_neg (by omega),if_pos h1]
 ·refine .inr ⟨h1,b,?_⟩
  conv=>lhs;unfold im
  rw [if_neg (by omega),if_neg (by omega),if_pos h1]
theorem XR (m:gl A B S T a) {aG:Int}:∀(n:Nat) {L M:List av} {t t':fA},L.length+M.length<=n->L.filter (bO A a)=M.filter (bO A a)->kr A B a t t'->t.tick<=4611686018427387904->
  ((im A aG L t).1.filter (bO A a)=(im B aG M t').1.filter (bO A a)/\(im A aG L t).2.1=(im B aG M t').2.1/\kr A B a (im A aG L t).2.2 (im B aG M t').2.2)/\(im A aG L t).2.2.tick=t.tick:=by
 intro n
 induction n with
 | zero=>intro L M t t' i d s b;have H:L=[]:=List.length_eq_zero_iff.1 (by omega);have f:M=[]:=List.length_eq_zero_iff.1 (by omega);subst H f;exact ⟨⟨rfl,rfl,s⟩,rfl⟩
 | succ n k=>
  have J:=m.gD.cW (a:=a);have I:∀ {x:av} {L M:List av} {t t':fA},bO A a x=false->(x::L).length+M.length<=n+1->(x::L).filter (bO A a)=M.filter (bO A a)->kr A B a t t'->t.tick<=4611686018427387904->
    ((im A aG (x::L) t).1.filter (bO A a)=(im B aG M t').1.filter (bO A a)/\(im A aG (x::L) t).2.1=(im B aG M t').2.1/\kr A B a (im A aG (x::L) t).2.2 (im B aG M t').2.2)/\(im A aG (x::L) t).2.2.tick=t.tick:=by
   intro x L M t t' j i d s b;rw [List.filter_cons_of_neg (by rw [j];simp)] at d;have g:L.length+M.length<=n:=by rw [List.length_cons] at i;omega
   rcases Nw (aG:=aG) (l:=L) (t:=t) j with ⟨_,o,e⟩ | ⟨_,o,e⟩
   ·rw [e];have f:=(s.ga.inj (lZ m.ea) b (p:=x.N) (v:=x.V)).2;have:=k g d (s.tD m b (v:=x.V) o) (by rw [f];exact b);rw [f] at this;exact this
   ·rw [e];have f:=(s.ga.kill (lZ m.ea) b (p:=x.N)).2;have:=k g d (s.qw m b o) (by rw [f];exact b);rw [f] at this;exact this
  have C:∀ {y:av} {L M:List av} {t t':fA},bO A a y=false->L.length+(y::M).length<=n+1->L.filter (bO A a)=(y::M).filter (bO A a)->kr A B a t t'->t.tick<=4611686018427387904->
    ((im A aG L t).1.filter (bO A a)=(im B aG (y::M) t').1.filter (bO A a)/\(im A aG L t).2.1=(im B aG (y::M) t').2.1/\kr A B a (im A aG L t).2.2 (im B aG (y::M) t').2.2)/\(im A aG L t).2.2.tick=t.tick:=by
   intro y L M t t' j i d s b;rw [List.filter_cons_of_neg (by rw [j];simp)] at d;have g:L.length+M.length<=n:=by rw [List.length_cons] at i;omega
   have D:t'.tick<=4611686018427387904:=by rw [<-s.hU];exact b
   have F:=s.flip m;rcases Nw (c:=B) (a:=a) (aG:=aG) (l:=M) (t:=t') (by rw [J];exact j) with ⟨_,o,e⟩ | ⟨_,o,e⟩
   ·rw [e];exact k g d ((F.tD m.flip D (v:=y.V) o).flip m.flip) b
   ·rw [e];exact k g d ((F.qw m.flip D o).flip m.flip) b
  intro L M t t' i d s b;cases L with
  | nil=>
   cases M with
   | nil=>exact ⟨⟨rfl,rfl,s⟩,rfl⟩
   | cons y M=>
    cases j:bO A a y with
    | false=>exact C j i d s b
    | true=>rw [List.filter_cons_of_pos j] at d;cases d
  | cons x L=>
   cases q:bO A a x with
   | false=>exact I q i d s b
   | true=>
    cases M with
    | nil=>rw [List.filter_cons_of_pos q] at d;cases d
    | cons y M=>
     cases E:bO A a y with
     | false=>exact C E i d s b
     | true=>
      rw [List.filter_cons_of_pos q,List.filter_cons_of_pos E] at d;obtain ⟨rfl,r⟩:=List.cons.inj d;have g:L.length+M.length<=n:=by rw [List.length_cons,List.length_cons] at i;omega
      have G:x.Kind=2\/x.Kind=3->fF A a x.N=true:=λh=>by unfold bO at q;rw [show (x.Kind==2 || x.Kind==3)=true by simpa using h] at q;simpa using q
      unfold im;by_cases z:x.Kind=1
      ·rw [if_pos z,if_pos z];by_cases hb:1<=x.N/\x.N<=65536-aG
       ·rw [if_pos hb,if_pos hb];exact ⟨⟨r,rfl,s⟩,rfl⟩
       ·rw [if_neg hb,if_neg hb];exact k g r s b
      rw [if_neg z,if_neg z];by_cases u:x.Kind=2
      ·rw [if_pos u,if_pos u];have f:=(s.ga.inj (lZ m.ea) b (p:=x.N) (v:=x.V)).2;have:=k g r (s.inj m b (v:=x.V) (G (.inl u))) (by rw [f];exact b);rw [f] at this;exact this
      rw [if_neg u,if_neg u];by_cases w:x.Kind=3
      ·rw [if_pos w,if_pos w];have f:=(s.ga.kill (lZ m.ea) b (p:=x.N)).2;have:=k g r (s.kill m b (G (.inr w))) (by rw [f];exact b);rw [f] at this;exact this
      rw [if_neg w,if_neg w];exact k g r s b
end
end Lf
namespace Lf
open Go
theorem least {p:Nat->Prop} (h:∃n,p n):∃n,p n/\∀m,p m->n<=m:=by
 obtain ⟨n,e⟩:=h
 induction n using Nat.strongRecOn with
 | _ n f=>
  by_cases a:∃m,m<n/\p m
  ·obtain ⟨m,b,c⟩:=a;exact f m b c
  ·exact ⟨n,e,λm hp=>Nat.le_of_not_lt λd=>a ⟨m,d,hp⟩⟩
open Classical in
noncomputable def wC (p:Nat->Prop):Nat:=if h:∃n,p n then (least h).choose else 0
theorem yQ {p:Nat->Prop} {n:Nat} (h:p n):p (wC p)/\wC p<=n:=by unfold wC;rw [dif_pos ⟨n,h⟩];have:=(least ⟨n,h⟩).choose_spec;exact ⟨this.1,this.2 n h⟩
theorem kK.GS {b:(Hp->Prop)->Hp->Prop} {h:Hp} (I:Nat->Hp->Prop) {n0:Nat} (d:I n0 h) (g:∀n k (K:Hp->Prop),I n k->(∀m a,m<n->I m a->K a)->b K k):kK b h:=by refine kK.intro (λk=>∃n,I n k) (λk=>wC λn=>I n k) ⟨n0,d⟩ λk ⟨n,f⟩=> ?_;exact g _ k _ (yQ (p:=λn=>I n k) f).1 λm a e c=>⟨⟨m,c⟩,Nat.lt_of_le_of_lt (yQ (p:=λn=>I n a) c).2 e⟩
theorem aA.GS {a:Type} {c:(a->Hp->Prop)->a->Hp->Prop} {e:a} {h:Hp} (I:Nat->a->Hp->Prop) {n0:Nat} (f:I n0 e h) (j:∀n x k (K:a->Hp->Prop),I n x k->(∀m y b,m<n->I m y b->K y b)->c K x k):aA c e h:=by refine aA.intro (λx k=>∃n,I n x k) (λx k=>wC λn=>I n x k) ⟨n0,f⟩ λx k ⟨n,i⟩=> ?_;exact j _ x k _ (yQ (p:=λn=>I n x k) i).1 λm y b g d=>⟨⟨m,d⟩,Nat.lt_of_le_of_lt (yQ (p:=λn=>I n y b) d).2 g⟩
end Lf
namespace Lf
open Go Go.Proofs Tryz
abbrev ib (K:MK) (pm:Addr) (s:MS) (a:Nat->Nat->Int) (p:Addr) (x:dY):eh:=(aK K pm s a).star (dR dH p x)
section
variable {h0 k:Hp} {K:MK} {pm p:Addr} {t:fA} {a:Nat->Nat->Int} {x:dY} {L:List av}
theorem Has.ov (o:Has h0 (ib K pm (bp t) a p x) k) (c:dY) {off:Nat} {new:List Value} (e:off+new.length<=6) (f:(bu (dH.enc x)).take off++new++(bu (dH.enc x)).drop (off+new.length)=bu (dH.enc c))
  {Q:Hp->Prop} (d:∀b,Has h0 (ib K pm (bp t) a p c) b->Q b):da k (p.add off) new Q:=by
 obtain ⟨i,j,h,_,put⟩:=o.snd;exact h.st c e f λb g=>d b (put _ _ g)
theorem De {c:aW} (e:K.c=c) {s:MS} {b:Nat->Nat->Int} (d:dG K.c b s):aK K pm (bp (s.list c)) b=aK K pm s b/\dG K.c b (bp (s.list c)):=by subst e;exact ⟨ye rfl,yM d⟩
theorem Gx {c:aW} {aG:Int} {i:Nat} {z:av} (e:L[i]? =some z):L.drop i=z::L.drop (i+1):=by obtain ⟨b,d⟩:=List.getElem?_eq_some_iff.1 e;rw [List.drop_eq_getElem_cons b,d]
theorem acV {Q:Bool->Hp->Prop} (mk:dC h0 K) (A:cH K.c) (g:GT K.c t) (td:dG K.c a (bp t)) (o:Has h0 (ib K pm (bp t) a p x) k) (hm:x.m=some pm) (hs:lG h0 x.l L) (hn:L.length<=1024) {q:Nat} (b2:q<=L.length) (b1:x.at_=(q:Int)) (b3:x.left=0)
  (b4:t.tick<=4611686018427387904) (b7:0<=x.aG/\x.aG<=65536)
  (O:∀(i:Nat) f r,i<=L.length->(im K.c x.aG (L.drop q) t).1=L.drop i->GT K.c (im K.c x.aG (L.drop q) t).2.2->dG K.c f (bp (im K.c x.aG (L.drop q) t).2.2)->
   Has h0 (ib K pm (bp (im K.c x.aG (L.drop q) t).2.2) f p ⟨x.m,x.l,(i:Int),(im K.c x.aG (L.drop q) t).2.1,x.aG,x.owner⟩) r->Q (decide ((im K.c x.aG (L.drop q) t).2.1≠0)) r):
  Dp prog (some p) Q k:=by
 unfold Dp;obtain ⟨R,Z⟩:∃R,R=im K.c x.aG (L.drop q) t:=⟨_,rfl⟩;rw [<-Z] at O;have a8:x.l.len=L.length:=hs.1;refine kK.GS (λn r=>(∃i:Nat,∃d f,n=L.length-i+1/\i<=L.length/\GT K.c d/\d.tick<=4611686018427387904/\dG K.c f (bp d)/\im K.c x.aG (L.drop i) d=R/\Has h0 (ib K pm (bp d) f p ⟨x.m,x.l,(i:Int),0,x.aG,x.owner⟩) r)\/
   (n=0/\R.2.1≠0/\∃i:Nat,∃f,i<=L.length/\R.1=L.drop i/\GT K.c R.2.2/\dG K.c f (bp R.2.2)/\Has h0 (ib K pm (bp R.2.2) f p ⟨x.m,x.l,(i:Int),R.2.1,x.aG,x.owner⟩) r))
  (.inl ⟨q,t,a,rfl,b2,g,b4,td,Z.symm,by rw [<-b1,<-b3];exact o⟩) ?_
 rintro n k1 I (⟨i,t1,H,rfl,hi,j,w,u,b,h⟩ | ⟨rfl,a9,i,H,hi,hr,j,u,h⟩) Y
 ·refine aY ((Has.right h).ld (shf:=ab .i64) 0 rfl ?_);rw [if_pos (show ((0:Int)==0)=true from rfl)];refine aY ((Has.right h).ld (shf:=ab .i64) ((i:Nat):Int) rfl (aY ((Has.right h).ld (shf:=an) x.l rfl ?_)));by_cases M:i=L.length
  ·rw [if_pos (by rw [a8,M];simp)];subst M;rw [List.drop_length] at b;have b:(([],0,t1):List av×Int×fA)=R:=b;subst b;exact O L.length H k1 (Nat.le_refl _) (by rw [List.drop_length]) j u h
  ·rw [if_neg (by rw [a8];simpa using λe:(i:Int)=(L.length:Int)=>M (by omega))];have b6:i<L.length:=by omega
   refine aY ((Has.right h).ld (shf:=an) x.l rfl (aY ((Has.right h).ld (shf:=ab .i64) ((i:Nat):Int) rfl ?_)));refine Rs.get (sh:=bI) (Rw.mono h.le hs) (λ_=>rfl) (by decide) (by omega) (by omega) λ(z:av) hz=> ?_;rw [Int.toNat_natCast] at hz;refine aY ((Has.right h).ld (shf:=ab .i64) ((i:Nat):Int) rfl (aY (h.ov ⟨x.m,x.l,((i+1:Nat):Int),0,x.aG,x.owner⟩ (by show 2+1<=6;omega) (by rw [wrap64 (by omega) (by omega)];rfl) λk2 s=>cC.direct ?_)));rw [Gx (c:=K.c) (aG:=0) hz] at b;unfold im at b;have D:∀ {d:fA} {f:Nat->Nat->Int} {r:Hp},GT K.c d->d.tick<=4611686018427387904->dG K.c f (bp d)->im K.c x.aG (L.drop (i+1)) d=R->Has h0 (ib K pm (bp d) f p ⟨x.m,x.l,((i+1:Nat):Int),0,x.aG,x.owner⟩) r->I r:=λ{d f r} a1 a2 a3 a4 a5=>
    Y (L.length-(i+1)+1) r (by omega) (.inl ⟨i+1,d,f,rfl,by omega,a1,a2,a3,a4,a5⟩)
   by_cases E:z.Kind=1
   ·rw [if_pos (by simpa using E)];rw [if_pos E] at b;have tail:(aI ((decide (z.N>=(1:Int)))&&(decide (z.N<=(yw ((65536:Int)-x.aG))))) λy=>(if y=true then ah none (some p) λp8=>da k2 (Addr.add p8 3) [(.int .i64 z.N)] (λh3=>I h3) else I k2)):=by
     refine aJ ?_;rw [wrap64 (by omega) (by omega)];by_cases hb:1<=z.N/\z.N<=65536-x.aG
     ·rw [if_pos (by simpa using hb)];rw [if_pos hb] at b;subst b;refine aY (s.ov ⟨x.m,x.l,((i+1:Nat):Int),z.N,x.aG,x.owner⟩ (by show 3+1<=6;omega) rfl λP B=>Y 0 P (by omega) (.inr ⟨rfl,by show z.N≠0;omega,i+1,H,by omega,rfl,j,u,B⟩))
     ·rw [if_neg (by simpa using hb)];rw [if_neg hb] at b;exact D j w u b s
    cases b0:decide (z.N>=(1:Int)) with
    | true=>rw [b0] at tail;exact ⟨p,λ_=>rfl,x.aG,λ_=>(Has.right s).fq (n:=1) rfl,tail⟩
    | false=>rw [b0] at tail;exact ⟨p,λe=>(by cases e),x.aG,λe=>(by cases e),tail⟩
   rw [if_neg (by simpa using E)];rw [if_neg E] at b;by_cases F:z.Kind=2
   ·rw [if_pos (by simpa using F)];rw [if_pos F] at b;refine aY ((Has.right s).ld (shf:=aj) x.m rfl ?_);rw [hm];obtain ⟨h2,S,B,_,put⟩:=s.fst;refine zkw (Nn (mk.mono S) A B (j.gO.om A) λP T=> ?_);obtain ⟨U,W⟩:=j.inj A w (p:=z.N) (v:=z.V);obtain ⟨J,X⟩:=De (pm:=pm) rfl (u.cW (s':=(rW K.c (bp t1) z.N z.V).1) Jf);refine D U (by rw [W];exact w) X b ?_;have C:=put _ _ T;rw [<-J] at C;exact C
   rw [if_neg (by simpa using F)];rw [if_neg F] at b;by_cases G:z.Kind=3
   ·rw [if_pos (by simpa using G)];rw [if_pos G] at b;refine aY ((Has.right s).ld (shf:=aj) x.m rfl ?_);rw [hm];obtain ⟨h2,S,B,_,put⟩:=s.fst;refine zmt (KG (mk.mono S) A B (j.gO.om A) u λb8 P T X=> ?_);obtain ⟨U,W⟩:=j.kill A w (p:=z.N);obtain ⟨J,b5⟩:=De (pm:=pm) rfl X;refine D U (by rw [W];exact w) b5 b ?_;have C:=put _ _ T;rw [<-J] at C;exact C
   rw [if_neg (by simpa using G)];rw [if_neg G] at b;exact D j w u b s
 ·refine aY ((Has.right h).ld (shf:=ab .i64) R.2.1 rfl ?_);rw [if_neg (by simpa using a9)];have:=O i H k1 hi hr j u h;rw [decide_eq_true a9] at this;exact this
theorem XT {Q:Bool->Hp->Prop} (o:Has h0 (ib K pm (bp t) a p x) k) (b:x.left≠0) (c:Q true k):Dp prog (some p) Q k:=by unfold Dp;refine kK.GS (λ_ d=>d=k) (n0:=0) rfl ?_;rintro n g e rfl f;refine aY ((Has.right o).ld (shf:=ab .i64) x.left rfl ?_);rw [if_neg (by simpa using b)];exact c
theorem Uv {Q:Hp->Prop} (mk:dC h0 K) (w:cH K.c) (g:GT K.c t) (B:dG K.c a (bp t)) (o:Has h0 (ib K pm (bp t) a p x) k) (n:x.m=some pm) (r:t.tick<4611686018427387904) (F:0<=x.left/\x.left<=65536) (G:0<=x.aG/\x.aG<=65536)
  (q:∀h d,dG K.c h (bp (jl K.c t))->Has h0 (ib K pm (bp (jl K.c t)) h p ⟨x.m,x.l,x.at_,x.left-1,x.aG+1,(iU K.c t.tick:Int)⟩) d->Q d):N9 prog (some p) Q k:=by
 unfold N9;refine aY ((Has.right o).ld (shf:=aj) x.m rfl ?_);rw [n];obtain ⟨E,v,y,_,put⟩:=o.fst;refine SE (KH KM (mk.mono v) w y g.gO r B λi s z C=> ?_);obtain ⟨j,D⟩:=De (pm:=pm) rfl C;have b:=put _ _ z;rw [<-j] at b;have b:Has h0 (ib K pm (bp (jl K.c t)) i p x) s:=b;refine aY (b.ov ⟨x.m,x.l,x.at_,x.left,x.aG,(iU K.c t.tick:Int)⟩ (by show 5+1<=6;omega) rfl λH e=> ?_);refine aY ((Has.right e).ld (shf:=ab .i64) x.left rfl (aY (e.ov ⟨x.m,x.l,x.at_,x.left-1,x.aG,(iU K.c t.tick:Int)⟩ (by show 3+1<=6;omega) (by rw [wrap64 (by omega) (by omega)];rfl) λI f=> ?_)));refine aY ((Has.right f).ld (shf:=ab .i64) x.aG rfl (aY (f.ov ⟨x.m,x.l,x.at_,x.left-1,x.aG+1,(iU K.c t.tick:Int)⟩ (by show 4+1<=6;omega) (by rw [wrap64 (by omega) (by omega)];rfl) λu A=>q i u D A)))
end
def kE (aG:Int):List av->Int
 | []=>aG
 | x::l=>if x.Kind=1/\(1<=x.N/\x.N<=65536-aG) then kE (aG+x.N) l else kE aG l
theorem aao {aG:Int} {x:av} {l:List av}:kE aG (x::l)=if x.Kind=1/\(1<=x.N/\x.N<=65536-aG) then kE (aG+x.N) l else kE aG l:=rfl
theorem Uy {c:aW} {aG:Int} {x:av} {l:List av} {t:fA}:im c aG (x::l) t=if x.Kind=1 then (if 1<=x.N/\x.N<=65536-aG then (l,x.N,t) else im c aG l t)
  else if x.Kind=2 then im c aG l (nW c t x.N x.V) else if x.Kind=3 then im c aG l (kP c t x.N) else im c aG l t:=rfl
theorem Jn {c:aW} {aG:Int}:∀ {L:List av} {t:fA} {R:List av×Int×fA},im c aG L t=R->kE (aG+R.2.1) R.1=kE aG L/\0<=R.2.1/\(R.2.1=0\/R.2.1<=65536-aG)/\(R.2.1=0->R.1=[])/\(R.2.1≠0->R.1.length<L.length)
 | [],t,R,e=>by subst e;refine ⟨?_,Int.le_refl 0,.inl rfl,λ_=>rfl,λh=>absurd rfl h⟩;show kE (aG+0) []=_;rw [Int.add_zero]
 | x::l,t,R,e=>by
  rw [Uy] at e;rw [aao];have key:∀b,im c aG l b=R->kE (aG+R.2.1) R.1=kE aG l/\0<=R.2.1/\(R.2.1=0\/R.2.1<=65536-aG)/\(R.2.1=0->R.1=[])/\(R.2.1≠0->R.1.length<(x::l).length):=λb e=>by obtain ⟨d,f,g,i,j⟩:=Jn e;exact ⟨d,f,g,i,λh=>by have:=j h;rw [List.length_cons];omega⟩
  by_cases a:x.Kind=1
  ·rw [if_pos a] at e;by_cases hb:1<=x.N/\x.N<=65536-aG
   ·rw [if_pos hb] at e;rw [if_pos ⟨a,hb⟩];subst e;exact ⟨rfl,by show 0<=x.N;omega,.inr hb.2,λh=>by have h:x.N=0:=h;omega,λ_=>by show l.length<(x::l).length;simp⟩
   ·rw [if_neg hb] at e;rw [if_neg λh=>hb h.2];exact key _ e
  rw [if_neg a] at e;rw [if_neg λh=>a h.1];split at e
  ·exact key _ e
  ·split at e
   ·exact key _ e
   ·exact key _ e
theorem mn.view {c:aW} {t:fA} {a:Int} (f:mn t):mn (iT c t a):=by
 refine ⟨by show (List.mapIdx _ _).length<=1000;rw [List.length_mapIdx];exact f.parts,by show (List.mapIdx _ _).length<=1000;rw [List.length_mapIdx];exact f.procs,λx e=> ?_,λx e=> ?_⟩
 ·obtain ⟨i,b,rfl⟩:=List.mem_mapIdx.1 e;split
  ·exact f.log _ (List.getElem_mem b)
  ·exact ⟨by decide,by decide,by decide,λq d=>by cases d⟩
 ·obtain ⟨i,b,rfl⟩:=List.mem_mapIdx.1 e;split
  ·exact f.ag _ (List.getElem_mem b)
  ·exact ⟨by decide,λq d=>by cases d⟩
section
variable {h0 k:Hp} {A B C D X:eh}
theorem rF {F:Nat->Prop} (h:(A.star (B.star C)).R k F):((A.star B).star C).R k F:=xj (B9 (xj (B9 (xj h))))
theorem Has.four (o:Has h0 (((A.star B).star C).star D) k):Has h0 ((A.star C).star (B.star D)) k:=
 o.map λ_ _ h=>B9 (Cd (λ_ h=>rF (Cd (λ_ h=>h) (λ_ h=>xj h) (B9 h))) (λ_ h=>h) h)
theorem Me {d:Hp} {K:MK} {pm:Addr} {t:fA} {e:Nat->Nat->Int} {Q:aD->Hp->Prop} (mk:dC d K) (f:cH K.c) (g:GT K.c t) (q:dG K.c e (bp t)) (o:Has d (aK K pm (bp t) e) k)
  (put:∀a,Has d (aK K pm (bp t) e) a->Has h0 X a) (l:∀r b a,h0<=b->cO b r t->Has b X a->Q r a):Gh prog (some pm) Q k:=by
 refine Z0 mk f o (g.gO.om f) q λr a h=> ?_;rw [wB g.parts g.procs] at h;have n:=Has.carry (X:=X) put h;obtain ⟨i,m,p,⟨F,⟨B,j,_⟩,_⟩,_⟩:=n.fst;exact l r i a m j.rd p
end
structure mW (hb k:Hp) (A B:aW) (t1 t2:fA) (pm p:Addr) (x:dY) (qm q:Addr) (y:dY):Prop where
 ex:∃K1 tm1 K2 tm2,K1.c=A/\dC hb K1/\dG A tm1 (bp t1)/\K2.c=B/\dC hb K2/\dG B tm2 (bp t2)/\Has hb ((ib K1 pm (bp t1) tm1 p x).star (ib K2 qm (bp t2) tm2 q y)) k
section
variable {hb k:Hp} {A B:aW} {t1 t2:fA} {pm p f q:Addr} {x y:dY} {S T:List av}
theorem mW.flip (d:mW hb k A B t1 t2 pm p x f q y):mW hb k B A t2 t1 f q y pm p x:=by obtain ⟨a,l,b,m,g,i,c,h,j,e,o⟩:=d.ex;exact ⟨b,m,a,l,h,j,e,g,i,c,o.comm⟩
theorem mW.le (d:mW hb k A B t1 t2 pm p x f q y):hb<=k:=by obtain ⟨_,_,_,_,_,_,_,_,_,_,o⟩:=d.ex;exact o.le
theorem mW.one (d:mW hb k A B t1 t2 pm p x f q y):∃K n a,K.c=A/\dC a K/\dG A n (bp t1)/\hb<=a/\Has a (ib K pm (bp t1) n p x) k/\∀b e h g,dG A e (bp b)->Has a (ib K pm (bp b) e p h) g->mW hb g A B b t2 pm p h f q y:=by obtain ⟨i,D,r,E,j,m,s,u,v,t,o⟩:=d.ex;obtain ⟨a,l,z,_,put⟩:=o.fst;exact ⟨i,D,a,j,m.mono l,s,l,z,λb e h g C w=>⟨i,e,r,E,j,m,C,u,v,t,put _ _ w⟩⟩
theorem mW.base {P:Program} {g:FuncId} {args:List Value} {sh:Shape} {K0 K:sh.T->Hp->Prop} (d:mW hb k A B t1 t2 pm p x f q y) (r:aa P g args sh (λz a=>hb<=a/\K0 z a) hb) (s:∀z a b,hb<=a->K0 z a->mW a b A B t1 t2 pm p x f q y->K z b):aa P g args sh K k:=by obtain ⟨c,w,e,C,j,t,h,m,u,i,o⟩:=d.ex;refine tW o r ?_;rintro z a b ⟨l,n⟩ v;exact s z a b l n ⟨c,w,e,C,j,t.mono l,h,m,u.mono l,i,v⟩
theorem mW.state {Q:aD->Hp->Prop} (d:mW hb k A B t1 t2 pm p x f q y) (z:cH A) (g:GT A t1) (s:∀r a b,hb<=a->cO a r t1->mW a b A B t1 t2 pm p x f q y->Q r b):Gh prog (some pm) Q k:=by obtain ⟨i,F,j,G,rfl,h,e,n,w,m,o⟩:=d.ex;obtain ⟨H,u,C,_,put⟩:=o.fst;obtain ⟨I,v,D,_,E⟩:=C.fst;exact Me (h.mono (Hp.le_trans u v)) z g e D (λb c=>put _ _ (E _ _ c)) λr a b l t c=>s r a b l t ⟨i,F,j,G,rfl,h.mono l,e,n,w.mono l,m,c⟩
theorem mW.comes {Q:Bool->Hp->Prop} (d:mW hb k A B t1 t2 pm p x f q y) (C:cH A) (g:GT A t1) (o:x.m=some pm) (u:lG hb x.l S) (r:S.length<=1024) {b:Nat} (j:b<=S.length) (e:x.at_=(b:Int)) (n:x.left=0)
  (v:t1.tick<=4611686018427387904) (w:0<=x.aG/\x.aG<=65536) {R:List av×Int×fA} (c:im A x.aG (S.drop b) t1=R)
  (s:∀(i:Nat) a,i<=S.length->R.1=S.drop i->mW hb a A B R.2.2 t2 pm p ⟨x.m,x.l,(i:Int),R.2.1,x.aG,x.owner⟩ f q y->Q (decide (R.2.1≠0)) a):Dp prog (some p) Q k:=by
 obtain ⟨K,I,H,rfl,mk,F,z,E,put⟩:=d.one;subst c;exact acV mk C g F E o (Rw.mono z u) r j e n v w λi J a h t _ G D=>s i a h t (put _ _ _ _ G D)
theorem mW.left {Q:Bool->Hp->Prop} (d:mW hb k A B t1 t2 pm p x f q y) (a:x.left≠0) (b:Q true k):Dp prog (some p) Q k:=by obtain ⟨K,e,h1,_,_,_,_,c,_⟩:=d.one;exact XT c a b
theorem mW.tick {Q:Hp->Prop} (d:mW hb k A B t1 t2 pm p x f q y) (j:cH A) (g:GT A t1) (c:x.m=some pm) (h:t1.tick<4611686018427387904) (b:0<=x.left/\x.left<=65536) (i:0<=x.aG/\x.aG<=65536)
  (e:∀a,mW hb a A B (jl A t1) t2 pm p ⟨x.m,x.l,x.at_,x.left-1,x.aG+1,(iU A t1.tick:Int)⟩ f q y->Q a):N9 prog (some p) Q k:=by
 obtain ⟨K,v,t,rfl,mk,r,u,o,put⟩:=d.one;exact Uv mk j g r o c h b i λw a s n=>e a (put _ _ _ _ s n)
theorem mW.ld {shf:Shape} (d:mW hb k A B t1 t2 pm p x f q y) (v:shf.T) {off:Nat} (hv:((bu (dH.enc x)).drop off).take (bu (shf.enc v)).length=bu (shf.enc v)) {K:shf.T->Prop} (a:K v):aQ none shf k (p.add off) K:=by obtain ⟨c,g,e,_,_,_,_,b,_⟩:=d.one;exact (Has.right b).ld v hv a
def lN (m:Addr) (l:Sl) (i left aG owner:Int):dY:=⟨some m,l,i,left,aG,owner⟩
structure GN (h0:Hp) (t:cS) (A B:aW) (S T:List av) (pm p f q:Addr) (n:Nat) (k:Hp):Prop where
 ex:∃hb t1 t2,∃i j:Nat,∃left aG owner:Int,h0<=hb/\i<=S.length/\j<=T.length/\(S.drop i).filter (bO A t.Label)=(T.drop j).filter (bO A t.Label)/\kr A B t.Label t1 t2/\t1.tick=aG/\0<=left/\0<=aG/\left<=65536-aG/\
  kE (aG+left) (S.drop i)=kE 0 S/\n=(S.length-i)*70000+left.toNat/\mW hb k A B t1 t2 pm p (lN pm t.S i left aG owner) f q (lN f t.T j left aG owner)
theorem acX {X:Hp} {t:cS} {n:Nat} {Q:Bool->Int->Hp->Prop} {K:Bool->Hp->Prop} (D:nR X t A B S T) (m:gl A B S T t.Label) (r:GN X t A B S T pm p f q n k)
  (hq:∀O,X<=O->Q true (kE 0 S) O) (hK:∀n' O,n'<n->GN X t A B S T pm p f q n' O->K true O):
 aa prog Jt [(.pointer (some p))] aR (λE h6=>
 aa prog Jt [(.pointer (some q))] aR (λM h7=>
 aa prog wa [(.pointer (some pm))] kW (λr7 h8=>
 ((True/\(True/\(True/\(True/\True))))/\aa prog FA [(.agg #[t.bU.v,t.cI.v,(.int .i64 t.dT),(.int .i64 t.dU),(.int .i64 t.dk),(.int .i64 t.fJ),t.bM.v]),r7.v,(.int .u64 t.Label)] kW (λr8 h9=>
 ((True/\(True/\True))/\aa prog wa [(.pointer (some f))] kW (λr9 a8=>
 ((True/\(True/\True))/\aa prog FA [(.agg #[t.cn.v,t.cR.v,(.int .i64 t.fb),(.int .i64 t.fc),(.int .i64 t.dF),(.int .i64 t.gh),t.cp.v]),r9.v,(.int .u64 t.Label)] kW (λb7 F=>
 ah none (some p) λb6=>
 aQ none (ab .i64) F (Addr.add b6 5) λx=>
 ah none (some q) λp1=>
 aQ none (ab .i64) F (Addr.add p1 5) λx1=>
 aI ((x !=x1) || (!(E==M))) λV=>
 cP (some (!V)) (aa prog OD [r8.v,b7.v] aR) (λb8 w=>
 aI (V || (!b8)) λy2=>
 (if y2=true then
 ah none (some p) λH=>
 aQ none (ab .i64) w (Addr.add H 4) λJ=>
 Q false J w
 else
 (if (!E)=true then
 ah none (some p) λH=>
 aQ none (ab .i64) w (Addr.add H 4) λJ=>
 Q true J w
 else
 bV prog B5 [(.pointer (some p))] (λa9=>
 bV prog B5 [(.pointer (some q))] (λb0=>
 K true b0) a9) w))) F) a8)) h9)) h8)) h7) h6) k:=by
  have ma:=lZ m.ea;have mb:=lZ m.eb;obtain ⟨hb,t1,t2,i,j,left,aG,owner,l0,hi,hj,hf,P,et,e3,Z,e4,b3,rfl,d⟩:=r.ex;have b9:∀(z G:Nat) (I U:fA) (g:Int) (k1:Hp),z<=S.length->G<=T.length->(S.drop z).filter (bO A t.Label)=(T.drop G).filter (bO A t.Label)->kr A B t.Label I U->I.tick=aG->0<=g->g<=65536-aG->
    kE (aG+g) (S.drop z)=kE 0 S->(g=0->S.drop z=[])->(g≠0->(S.length-z)*70000+(g - 1).toNat<(S.length-i)*70000+left.toNat)->
    mW hb k1 A B I U pm p (lN pm t.S z g aG owner) f q (lN f t.T G g aG owner)->∀E M,E=decide (g≠0)->M=decide (g≠0)->
    aa prog wa [(.pointer (some pm))] kW (λr7 h8=>
 ((True/\(True/\(True/\(True/\True))))/\aa prog FA [(.agg #[t.bU.v,t.cI.v,(.int .i64 t.dT),(.int .i64 t.dU),(.int .i64 t.dk),(.int .i64 t.fJ),t.bM.v]),r7.v,(.int .u64 t.Label)] kW (λr8 h9=>
 ((True/\(True/\True))/\aa prog wa [(.pointer (some f))] kW (λr9 a8=>
 ((True/\(True/\True))/\aa prog FA [(.agg #[t.cn.v,t.cR.v,(.int .i64 t.fb),(.int .i64 t.fc),(.int .i64 t.dF),(.int .i64 t.gh),t.cp.v]),r9.v,(.int .u64 t.Label)] kW (λb7 F=>
 ah none (some p) λb6=>
 aQ none (ab .i64) F (Addr.add b6 5) λx=>
 ah none (some q) λp1=>
 aQ none (ab .i64) F (Addr.add p1 5) λx1=>
 aI ((x !=x1) || (!(E==M))) λV=>
 cP (some (!V)) (aa prog OD [r8.v,b7.v] aR) (λb8 w=>
 aI (V || (!b8)) λy2=>
 (if y2=true then
 ah none (some p) λH=>
 aQ none (ab .i64) w (Addr.add H 4) λJ=>
 Q false J w
 else
 (if (!E)=true then
 ah none (some p) λH=>
 aQ none (ab .i64) w (Addr.add H 4) λJ=>
 Q true J w
 else
 bV prog B5 [(.pointer (some p))] (λa9=>
 bV prog B5 [(.pointer (some q))] (λb0=>
 K true b0) a9) w))) F) a8)) h9)) h8)) k1:=by
   intro z G I U g k1 b1 b2 e2 C c9 f4 f5 b4 e1 e0 d' E M e5 e6;have c0:=GT.jW ma C.ga;have d0:=GT.jW mb C.gb;refine Ge (d'.state ma C.ga λs1 h2 k2 l2 e8 d2=>⟨⟨trivial,trivial,trivial,trivial,trivial⟩,?_⟩);have c8:=Hp.le_trans l0 l2;refine d2.base (K0:=λv N=>cO N v (iT A I t.Label)) (Lb (c:=tM t) (Jk (D.a.mono c8) e8 D.ua D.u c0 λv N l hv=>⟨l,hv⟩)) λv1 h3 k3 l3 f0 W=>⟨⟨trivial,trivial,trivial⟩,?_⟩;refine Ge (W.flip.state mb C.gb λs2 h4 k4 l4 e9 d4=>⟨⟨trivial,trivial,trivial⟩,?_⟩);have b5:=Hp.le_trans c8 (Hp.le_trans l3 l4);refine d4.base (K0:=λv N=>cO N v (iT B U t.Label)) (Lb (c:=uT t) (Jk (D.b.mono b5) e9 D.ub D.u d0 λv N l hv=>⟨l,hv⟩)) λv2 h5 k5 l5 c7 d5=> ?_;have L:=d5.flip;refine aY (L.ld (shf:=ab .i64) owner rfl (aY (d5.ld (shf:=ab .i64) owner rfl (aJ ?_))));rw [show ((owner !=owner) || (!(E==M)))=false by rw [e5,e6];simp];rw [<-C.view m] at c7;refine nt rfl (acY (Um ((f0.mono (Hp.le_trans l4 l5)).mono L.le) (c7.mono L.le) c0.view.le (aJ ?_)));rw [if_neg (by simp)];by_cases o:g=0
   ·rw [if_pos (by rw [e5];simp [o])];refine aY (L.ld (shf:=ab .i64) aG rfl ?_);rw [e1 o,o,Int.add_zero] at b4;have e:aG=kE 0 S:=b4;rw [e];exact hq _ (Hp.le_trans b5 (Hp.le_trans l5 L.le))
   ·rw [if_neg (by rw [e5];simp [o])];refine zut (L.tick ma C.ga rfl (by omega) ⟨by show 0<=g;omega,by show g<=65536;omega⟩ ⟨Z,by show aG<=65536;omega⟩ λk7 d7=> ?_);refine zut (d7.flip.tick mb C.gb rfl (by rw [<-C.hU];omega) ⟨by show 0<=g;omega,by show g<=65536;omega⟩ ⟨Z,by show aG<=65536;omega⟩ λk8 d8=> ?_);obtain ⟨q1,q2,q3⟩:=C.tick m (by omega);refine hK _ k8 (e0 o) ⟨h5,jl A I,jl B U,z,G,g - 1,aG+1,(iU A I.tick:Int),Hp.le_trans b5 l5,b1,b2,e2,q1,by rw [q3,c9],by omega,by omega,by omega,?_,rfl,?_⟩
    ·rw [show aG+1+(g - 1)=aG+g by omega];exact b4
    ·have d9:=d8.flip;rw [<-q2] at d9;exact d9
  by_cases o:left=0
  ·subst o;obtain ⟨R,hR⟩:∃R,im A aG (S.drop i) t1=R:=⟨_,rfl⟩;obtain ⟨R',c5⟩:∃R,im B aG (T.drop j) t2=R:=⟨_,rfl⟩;have c6:=XR m (aG:=aG) ((S.drop i).length+(T.drop j).length) (Nat.le_refl _) hf P (by omega);rw [hR,c5] at c6;obtain ⟨⟨c1,c2,c3⟩,c4⟩:=c6;obtain ⟨u1,u2,u3,u4,u5⟩:=Jn hR;have hs:=Rw.mono l0 D.s;have hr:=Rw.mono l0 D.r;refine NX (d.comes ma P.ga rfl hs m.s hi rfl rfl (by omega) ⟨Z,by show aG<=65536;omega⟩ hR λz k1 b1 Y d1=> ?_);refine NX (d1.flip.comes mb P.gb rfl hr m.r hj rfl rfl (by rw [<-P.hU];omega) ⟨Z,by show aG<=65536;omega⟩ c5 λG k2 b2 e7 d2=> ?_);rw [Int.add_zero] at b3;refine b9 z G R.2.2 R'.2.2 R.2.1 k2 b1 b2 (by rw [<-Y,<-e7];exact c1) c3 (by rw [c4];exact et) u2 (by rcases u3 with h | h<;>omega) (by rw [<-Y,u1];exact b3) (λh=>by rw [<-Y];exact u4 h) (λh=> ?_) ?_ _ _ rfl (by rw [c2])
   ·have:=u5 h;rw [Y,List.length_drop,List.length_drop] at this;have h3:R.2.1<=65536:=by rcases u3 with h | h<;>omega
    have h4:(S.length-z)*70000+70000<=(S.length-i)*70000:=by omega
    omega
   ·have W:=d2.flip;rw [<-c2] at W;exact W
  ·refine NX (d.left o (NX (d.flip.left o ?_)));refine b9 i j t1 t2 left k hi hj hf P et e3 e4 b3 (λh=>absurd h o) (λ_=>by omega) d _ _ ?_ ?_
   ·rw [decide_eq_true o]
   ·rw [decide_eq_true o]
end
section
variable {h:Hp} {t:cS} {A B:aW} {S T:List av}
theorem Df {Q:Bool->Int->Hp->Prop} (i:nR h t A B S T) (O:∀g,h<=g->gl A B S T t.Label->Q true (kE 0 S) g) (N:∀g,h<=g->¬gl A B S T t.Label->Q false 0 g):Dq prog t Q h:=by
 unfold Dq;refine C9 (t:=t) (ES i (λz j m=> ?_) λz j U=> ?_)
 ·rw [if_neg (by simp)];have Z:=lZ m.ea;have mb:=lZ m.eb;refine Ob (c:=tM t) (xP (i.a.mono j) i.ua (λ_ _ h=>absurd m.ea h) λpm k2 _ l2 st=> ?_);obtain ⟨u,H,J,L,a8,E,o1,b0⟩:=st.ex;refine tW o1 (Ob (c:=uT t) (Q:=λr e g=>∃d,r=some d/\e=0/\nO J B ((pj B).list B) d g) (xP (i.b.mono (Hp.le_trans j E)) i.ub (λ_ _ h=>absurd m.eb h) λd V _ l3 s=>⟨d,rfl,rfl,s⟩)) ?_;rintro ⟨r,e⟩ V k4 ⟨d,f1,f2,s⟩ o2;dsimp only at f1 f2;subst f1 f2;obtain ⟨v,I,x,M,a9,F,o3,b3⟩:=s.ex;have G:=(o3.beside o2).comm;have W:=Hp.le_trans j (Hp.le_trans E F);dsimp only;refine aJ ?_;rw [if_neg (by simp)];refine iJ.intro (λa b f=>∃p q,a=some p/\b=some q/\∃n,GN h t A B S T pm p d q n f) ?_ ?_
  ·have y:∀ {p q:Addr} {f:Hp},Has x ((ib u pm (bp ((pj A).list A)) H p (lN pm t.S ((0:Nat):Int) 0 0 (-1))).star (ib v d (bp ((pj B).list B)) I q (lN d t.T ((0:Nat):Int) 0 0 (-1)))) f->∃n,GN h t A B S T pm p d q n f:=λ{p q f} o=>
    ⟨_,x,_,_,0,0,0,0, -1,W,Nat.zero_le _,Nat.zero_le _,by rw [List.drop_zero,List.drop_zero,m.same,m.gD.cW],kr.first m,(zj Z).2,by omega,by omega,by omega,by rw [List.drop_zero];rfl,rfl,
     ⟨u,H,v,I,L,a8.mono F,b0,M,a9,b3,o⟩⟩
   refine ⟨?_,?_⟩
   ·refine oY (sh:=dH) (lN pm t.S ((0:Nat):Int) 0 0 (-1)) rfl λp C X k=>⟨⟨trivial,trivial⟩,?_⟩;refine oY (sh:=dH) (lN d t.T ((0:Nat):Int) 0 0 (-1)) rfl λq D Y r2=> ?_;exact ⟨p,q,rfl,rfl,y ((G.beside k).beside r2).four⟩
   ·refine oY (sh:=dH) (lN d t.T ((0:Nat):Int) 0 0 (-1)) rfl λq C X r2=>⟨⟨trivial,trivial⟩,?_⟩;refine oY (sh:=dH) (lN pm t.S ((0:Nat):Int) 0 0 (-1)) rfl λp D Y k=>⟨⟨trivial,trivial⟩,?_⟩;exact ⟨p,q,rfl,rfl,y ((G.comm.beside r2).beside k).four.comm⟩
  ·rintro a b C ⟨p,q,rfl,rfl,n,r⟩;refine aA.GS (λn w f=>w=true/\GN h t A B S T pm p d q n f) (n0:=n) ⟨rfl,r⟩ ?_;rintro n' w D K ⟨rfl,r'⟩ P;exact acX i m r' (λf l=>O f l m) λn2 f R r2=>P n2 true f R ⟨rfl,r2⟩
 ·rw [if_pos (by simp)];exact N z j U
end
def mP :aW:=⟨[0,1],[0,1],1,1,0,1,[⟨0,[⟨22,0,0,0,0⟩]⟩,⟨1,[]⟩]⟩
def zE :List av:=[⟨1,2,0⟩,⟨2,1,5⟩,⟨1,1,0⟩]
def ON :List av:=[⟨1,2,0⟩,⟨3,1,0⟩,⟨1,1,0⟩]
def Ny :List av:=[⟨1,3,0⟩]
theorem w8 :∀l∈mP.labels,jq l:=λl a=>by simp [mP] at a;omega
theorem Hv :gl mP mP zE ON 0:=⟨by decide,by decide,by kernel_rfl,by kernel_rfl,⟨rfl,rfl,rfl,rfl,rfl,rfl,rfl⟩,λ_ _ _=>rfl,by kernel_rfl⟩
theorem O6 :¬gl mP mP zE Ny 0:=λm=>by
 have h:=congrArg List.length m.same;have a:(zE.filter (bO mP 0)).length=2:=by kernel_rfl
 have b:(Ny.filter (bO mP 0)).length=1:=by kernel_rfl
 omega
section
variable {h k:Hp}
theorem XV {Q:Bool->Hp->Prop} (y:∀o,h<=o->Q true o):Uw prog Q h:=by
 unfold Uw;refine iA (enc:=λx:Int=>bu ((ab .u64).enc x)) (sz:=1) (xs:=[0,1]) rfl (λ_=>rfl) λa1 S D J=> ?_;refine iA (enc:=λx:Int=>bu ((ab .i64).enc x)) (sz:=1) (xs:=[0,1]) rfl (λ_=>rfl) λa2 U q K=> ?_;refine iA (enc:=λx=>bu (bn.enc x)) (sz:=5) (xs:=[⟨22,0,0,0,0⟩]) rfl (λ_=>rfl) λa3 V E L=> ?_;refine iA (enc:=λx=>bu (bq.enc x)) (sz:=2) (xs:=[⟨0,⟨some a3,1,1⟩⟩,⟨1,⟨none,0,0⟩⟩]) rfl (λ_=>rfl) λa4 W F M=> ?_;refine iA (enc:=kO) (sz:=3) (xs:=zE) rfl (λ_=>rfl) λa5 X G N=> ?_;refine iA (enc:=kO) (sz:=3) (xs:=ON) rfl (λ_=>rfl) λa6 g u O=> ?_;have s:=Hp.le_trans G u;have r:=Hp.le_trans F s;have j:=Hp.le_trans E r;have b:dQ g ⟨⟨some a1,2,2⟩,⟨some a2,2,2⟩,1,1,0,1,⟨some a4,2,2⟩⟩ mP:=
  ⟨Rw.mono (Hp.le_trans q j) (J.jb λ_=>rfl),Rw.mono j (K.jb λ_=>rfl),rfl,rfl,rfl,rfl,_,Rw.mono s (M.jb λ_=>rfl),⟨rfl,_,Rw.mono r (L.jb λ_=>rfl),rfl⟩,⟨rfl,[],Rw.nil rfl,rfl⟩,trivial⟩
 have n:lG g ⟨some a5,3,3⟩ zE:=Rw.mono u (N.jb λ_=>rfl);have p:nR g ⟨⟨some a1,2,2⟩,⟨some a2,2,2⟩,1,1,0,1,⟨some a4,2,2⟩,⟨some a1,2,2⟩,⟨some a2,2,2⟩,1,1,0,1,⟨some a4,2,2⟩,⟨some a5,3,3⟩,⟨some a6,3,3⟩,0⟩ mP mP zE ON:=
  ⟨b,b,n,O.jb λ_=>rfl,w8,w8,by show (0:Int)<=0/\(0:Int)<18446744073709551616;omega⟩
 have C:=Hp.le_trans D (Hp.le_trans q j);refine zur (t:=⟨⟨some a1,2,2⟩,⟨some a2,2,2⟩,1,1,0,1,⟨some a4,2,2⟩,⟨some a1,2,2⟩,⟨some a2,2,2⟩,1,1,0,1,⟨some a4,2,2⟩,⟨some a5,3,3⟩,⟨some a6,3,3⟩,0⟩) (Df p (λY v m=> ?_) λ_ _ f=>absurd Hv f);refine C9 (t:=⟨⟨some a1,2,2⟩,⟨some a2,2,2⟩,1,1,0,1,⟨some a4,2,2⟩,⟨some a1,2,2⟩,⟨some a2,2,2⟩,1,1,0,1,⟨some a4,2,2⟩,⟨some a5,3,3⟩,⟨some a6,3,3⟩,0⟩) (ES (p.mono v) (λZ H _=> ?_) λ_ _ f=>absurd Hv f);refine iA (enc:=kO) (sz:=3) (xs:=Ny) rfl (λ_=>rfl) λa7 B I P=> ?_;have a:=Hp.le_trans v (Hp.le_trans H I);have d:=b.mono a;have z:nR B ⟨⟨some a1,2,2⟩,⟨some a2,2,2⟩,1,1,0,1,⟨some a4,2,2⟩,⟨some a1,2,2⟩,⟨some a2,2,2⟩,1,1,0,1,⟨some a4,2,2⟩,⟨some a5,3,3⟩,⟨some a7,1,1⟩,0⟩ mP mP zE Ny:=
  ⟨d,d,Rw.mono a n,P.jb λ_=>rfl,w8,w8,by show (0:Int)<=0/\(0:Int)<18446744073709551616;omega⟩
 refine zur (t:=⟨⟨some a1,2,2⟩,⟨some a2,2,2⟩,1,1,0,1,⟨some a4,2,2⟩,⟨some a1,2,2⟩,⟨some a2,2,2⟩,1,1,0,1,⟨some a4,2,2⟩,⟨some a5,3,3⟩,⟨some a7,1,1⟩,0⟩) (Df z (λ_ _ m=>absurd m O6) λT i _=> ?_);refine aJ (aJ (aJ (aJ ?_)));rw [show ((((true&&true)&&(kE 0 zE==(3:Int)))&&(!false))&&((0:Int)==(0:Int)))=true from rfl];refine nt rfl (zus (c:=⟨⟨some a1,2,2⟩,⟨some a2,2,2⟩,1,1,0,1,⟨some a4,2,2⟩⟩) (l:=⟨some a5,3,3⟩) (DA (d.mono i) w8 (by show (0:Int)<=0/\(0:Int)<18446744073709551616;omega) (Rw.mono (Hp.le_trans a i) n) (by decide) λR A w=>aJ ?_));have e:R.len=2:=by rw [w.iR];kernel_rfl
 rw [e];exact y A (Hp.le_trans C (Hp.le_trans a (Hp.le_trans i w.le)))
theorem Rw.pre {d:Type} {sz:Nat} {enc:d->List Value} {l:Sl} {b n:List d} {c:Nat} (r:Rw h sz enc l (b++n)) (j:∀x,(enc x).length=sz):Rw h sz enc ⟨l.base,b.length,c⟩ b:=by
 obtain ⟨o,p,f⟩:=r;refine ⟨rfl,jo j b,?_⟩;rcases f with e | ⟨a,g,m⟩
 ·left;rw [List.length_append,Nat.add_mul] at e;omega
 ·right;refine ⟨a,g,λi v hv=>m i v ?_⟩;rw [List.flatMap_append,List.getElem?_append_left (List.getElem?_eq_some_iff.1 hv).1];exact hv
end
def dS (c:aW):List av->fA->List av×fA
 | [],t=>([],t)
 | x::l,t=>if x.Kind=1 then (x::l,t) else if x.Kind=2 then dS c l (nW c t x.N x.V) else if x.Kind=3 then dS c l (kP c t x.N) else dS c l t
theorem Ca {c:aW} {x:av} {l:List av} {t:fA}:dS c (x::l) t=if x.Kind=1 then (x::l,t) else if x.Kind=2 then dS c l (nW c t x.N x.V) else if x.Kind=3 then dS c l (kP c t x.N) else dS c l t:=rfl
section
variable {A B:aW} {a:Int} {S T:List av} {t t':fA}
theorem Jo {c:aW} {x:av} {l:List av} {t:fA} (h:bO c a x=false):
  fF c a x.N=false/\((x.Kind=2/\dS c (x::l) t=dS c l (nW c t x.N x.V))\/(x.Kind=3/\dS c (x::l) t=dS c l (kP c t x.N))):=by
 unfold bO at h;simp only [Bool.or_eq_false_iff,Bool.not_eq_false',Bool.or_eq_true,beq_iff_eq] at h;obtain ⟨h1,b⟩:=h;refine ⟨b,?_⟩;rw [Ca];rcases h1 with h1 | h1
 ·rw [if_neg (by omega),if_pos h1];exact .inl ⟨h1,rfl⟩
 ·rw [if_neg (by omega),if_neg (by omega),if_pos h1];exact .inr ⟨h1,rfl⟩
theorem aar (m:gl A B S T a):∀(n:Nat) {L M:List av} {t t':fA},L.length+M.length<=n->L.filter (bO A a)=M.filter (bO A a)->kr A B a t t'->t.tick<=4611686018427387904->
  ((dS A L t).1.filter (bO A a)=(dS B M t').1.filter (bO A a)/\kr A B a (dS A L t).2 (dS B M t').2)/\(dS A L t).2.tick=t.tick:=by
 intro n
 induction n with
 | zero=>intro L M t t' i d s b;have H:L=[]:=List.length_eq_zero_iff.1 (by omega);have f:M=[]:=List.length_eq_zero_iff.1 (by omega);subst H f;exact ⟨⟨rfl,s⟩,rfl⟩
 | succ n k=>
  have J:=m.gD.cW (a:=a);have C:∀ {y:av} {L M:List av} {t t':fA},bO A a y=false->L.length+(y::M).length<=n+1->L.filter (bO A a)=(y::M).filter (bO A a)->kr A B a t t'->t.tick<=4611686018427387904->
    ((dS A L t).1.filter (bO A a)=(dS B (y::M) t').1.filter (bO A a)/\kr A B a (dS A L t).2 (dS B (y::M) t').2)/\(dS A L t).2.tick=t.tick:=by
   intro y L M t t' q i d s b;rw [List.filter_cons_of_neg (by rw [q];simp)] at d;have g:L.length+M.length<=n:=by rw [List.length_cons] at i;omega
   have D:t'.tick<=4611686018427387904:=by rw [<-s.hU];exact b
   have F:=s.flip m;obtain ⟨o,⟨_,e⟩ | ⟨_,e⟩⟩:=Jo (c:=B) (a:=a) (l:=M) (t:=t') (by rw [J];exact q)
   ·rw [e];exact k g d ((F.tD m.flip D (v:=y.V) o).flip m.flip) b
   ·rw [e];exact k g d ((F.qw m.flip D o).flip m.flip) b
  intro L M t t' i d s b;cases L with
  | nil=>
   cases M with
   | nil=>exact ⟨⟨rfl,s⟩,rfl⟩
   | cons y M=>
    cases q:bO A a y with
    | false=>exact C q i d s b
    | true=>rw [List.filter_cons_of_pos q] at d;cases d
  | cons x L=>
   cases j:bO A a x with
   | false=>
    rw [List.filter_cons_of_neg (by rw [j];simp)] at d;have g:L.length+M.length<=n:=by rw [List.length_cons] at i;omega
    obtain ⟨o,⟨_,e⟩ | ⟨_,e⟩⟩:=Jo (l:=L) (t:=t) j
    ·rw [e];have f:=(s.ga.inj (lZ m.ea) b (p:=x.N) (v:=x.V)).2;have:=k g d (s.tD m b (v:=x.V) o) (by rw [f];exact b);rw [f] at this;exact this
    ·rw [e];have f:=(s.ga.kill (lZ m.ea) b (p:=x.N)).2;have:=k g d (s.qw m b o) (by rw [f];exact b);rw [f] at this;exact this
   | true=>
    cases M with
    | nil=>rw [List.filter_cons_of_pos j] at d;cases d
    | cons y M=>
     cases E:bO A a y with
     | false=>exact C E i d s b
     | true=>
      have I:=d;rw [List.filter_cons_of_pos j,List.filter_cons_of_pos E] at d;obtain ⟨rfl,z⟩:=List.cons.inj d;have g:L.length+M.length<=n:=by rw [List.length_cons,List.length_cons] at i;omega
      have G:x.Kind=2\/x.Kind=3->fF A a x.N=true:=λh=>by unfold bO at j;rw [show (x.Kind==2 || x.Kind==3)=true by simpa using h] at j;simpa using j
      rw [Ca,Ca];by_cases w:x.Kind=1
      ·rw [if_pos w,if_pos w];exact ⟨⟨I,s⟩,rfl⟩
      rw [if_neg w,if_neg w];by_cases r:x.Kind=2
      ·rw [if_pos r,if_pos r];have f:=(s.ga.inj (lZ m.ea) b (p:=x.N) (v:=x.V)).2;have:=k g z (s.inj m b (v:=x.V) (G (.inl r))) (by rw [f];exact b);rw [f] at this;exact this
      rw [if_neg r,if_neg r];by_cases u:x.Kind=3
      ·rw [if_pos u,if_pos u];have f:=(s.ga.kill (lZ m.ea) b (p:=x.N)).2;have:=k g z (s.kill m b (G (.inr u))) (by rw [f];exact b);rw [f] at this;exact this
      rw [if_neg u,if_neg u];exact k g z s b
theorem xQ {c:aW}:∀ {L:List av} {t:fA},(∀x l,(dS c L t).1=x::l->x.Kind=1)/\∃i,i<=L.length/\(dS c L t).1=L.drop i
 | [],_=>⟨λ_ _ h=>(by cases h),0,Nat.le_refl _,rfl⟩
 | x::l,t=>by
  rw [Ca];have more:∀t',(∀x b,(dS c l t').1=x::b->x.Kind=1)/\∃i,i<=(x::l).length/\(dS c l t').1=(x::l).drop i:=λt'=>by obtain ⟨d,i,g,f⟩:=xQ (c:=c) (L:=l) (t:=t');exact ⟨d,i+1,by rw [List.length_cons];omega,f⟩
  split
  ·rename_i h;exact ⟨λy b e=>by obtain ⟨rfl,_⟩:=List.cons.inj e;exact h,0,Nat.zero_le _,rfl⟩
  ·split
   ·exact more _
   ·split
    ·exact more _
    ·exact more _
end
def kC (t:bK):cS:=⟨t.bU,t.cI,t.dT,t.dU,t.dk,t.fJ,t.bM,t.cn,t.cR,t.fb,t.fc,t.dF,t.gh,t.cp,t.S,t.T,t.Label⟩
section
variable {h:Hp} {Q:Bool->Hp->Prop}
theorem XW {s1 s2:Sl} {a b:List Int} (k:Is h s1 a) (r2:Is h s2 b) (j:a.length<=140737488355328) (d:a=b->Q true h) (c:a≠b->Q false h):Sr prog s1 s2 Q h:=by
 unfold Sr;refine yW (sh:=ab .i64) (λx:Int=>x) k r2 (λ_=>rfl) (by decide) j (λi (x:Int) (y:Int) _ _ K f g=> ?_) (by simpa using d) (by simpa using c);by_cases e:x=y
 ·rw [if_neg (by simpa using e)];exact f e
 ·rw [if_pos (by simpa using e)];exact g e
theorem XX {s1 s2:Sl} {a b:List Int} (k:Us h s1 a) (r2:Us h s2 b) (j:a.length<=140737488355328) (d:a=b->Q true h) (c:a≠b->Q false h):R7 prog s1 s2 Q h:=by
 unfold R7;refine yW (sh:=ab .u64) (λx:Int=>x) k r2 (λ_=>rfl) (by decide) j (λi (x:Int) (y:Int) _ _ K f g=> ?_) (by simpa using d) (by simpa using c);by_cases e:x=y
 ·rw [if_neg (by simpa using e)];exact f e
 ·rw [if_pos (by simpa using e)];exact g e
theorem XY {a b:Sl} {c d:List bc} (n:lR h a c) (r2:lR h b d) (m:c.length<=140737488355328) (g:c.map bD=d.map bD->Q true h) (f:c.map bD≠d.map bD->Q false h):Sn prog a b Q h:=by
 unfold Sn;refine yW (sh:=bn) bD n r2 (λ_=>rfl) (by decide) m (λi (x:bc) (y:bc) _ _ K j k=>⟨_,Lo,?_⟩) g f;by_cases e:bD x=bD y
 ·rw [ln.2 e];exact j e
 ·rw [Bool.eq_false_iff.2 λl=>e (ln.1 l)];exact k e
theorem Rs.vv {sh shf:Shape} {sz:Nat} {s:Sl} {xs:List sh.T} (r:Rs h sh sz s xs) (f:∀x,(bu (sh.enc x)).length=sz) (n:0<sz) {i:Nat} {off:Nat} (o:i<xs.length) (g:sh.T->shf.T) (k:∀x,((bu (sh.enc x)).drop off).take (bu (shf.enc (g x))).length=bu (shf.enc (g x)))
  {K:shf.T->Prop} (l:∀x,xs[i]? =some x->K (g x)):br s.base s.len (i:Int)/\aQ none shf h ((sat s.base sz (i:Int)).add off) K:=by
 obtain ⟨c,x,b,m⟩:=Rw.read r f n (i:=(i:Int)) (by omega) (by have:=r.1;omega);rw [Int.toNat_natCast] at b;refine ⟨c,g x,λj v a=> ?_,l x b⟩;have d:=k x;rw [<-d] at a;rw [List.getElem?_take] at a;split at a
 ·rw [List.getElem?_drop] at a;have:=m (off+j) v a;have e:=s6 (sat s.base sz (i:Int)) off j;rw [e];exact this
 ·cases a
theorem XZ {x y:az} {a b:aW} (c:dQ h x a) (d:dQ h y b) (T:a.labels.length<=1000/\a.table.length<=1000/\a.procs.length<=1000) (N:kM a b->Q true h) (g:¬kM a b->Q false h):Sm prog x y Q h:=by
 unfold Sm;obtain ⟨m,C,A⟩:=c.procs;obtain ⟨r,D,B⟩:=d.procs;have t:=zk A;have u:=zk B;have R:=A.len;have S:=B.len;have G:x.aE.len=m.length:=C.1;have H:y.aE.len=r.length:=D.1;refine zrp (XX c.labels d.labels (by omega) (λo=> ?_) λo=> ?_)
 ·refine nt rfl (ztc (XW c.table d.table (by omega) (λp=> ?_) λp=> ?_))
  ·refine aJ (aJ (aJ (aJ (aJ (aJ ?_)))));rw [c.fuel,d.fuel,c.lane,d.lane,c.ai,d.ai,c.log,d.log,G,H];by_cases q:(a.fuel=b.fuel/\a.lane=b.lane/\a.ai=b.ai/\a.log=b.log)/\m.length=r.length
   ·obtain ⟨⟨t2,I,J,L⟩,M⟩:=q;rw [if_neg (by simp [t2,I,J,L,M])];refine iX (n:=m.length) rfl (by omega) (λi k=>k=h/\(m.take i).map (·.Part)=(r.take i).map (·.Part)) ⟨rfl,rfl⟩ ?_ ?_
    ·rintro i P k ⟨rfl,j⟩ K O;rw [<-G,<-H];refine Rs.vv (sh:=bq) (shf:=ab .i64) (off:=0) C (λ_=>rfl) (by decide) P (λz:aS=>z.Part) (λ_=>rfl) λ(z:aS) F=> ?_;refine Rs.vv (sh:=bq) (shf:=ab .i64) (off:=0) D (λ_=>rfl) (by decide) (by omega) (λz:aS=>z.Part) (λ_=>rfl) λ(w:aS) E=> ?_;by_cases e:z.Part=w.Part
     ·rw [if_neg (by simpa using e)];refine O _ ⟨rfl,?_⟩;rw [List.take_add_one,List.take_add_one,F,E,List.map_append,List.map_append,j];show _++ [z.Part]=_++ [w.Part];rw [e]
     ·rw [if_pos (by simpa using e)];refine g λs=>e ?_;have v:=congrArg (λl:List Int=>l[i]?) (t.trans (s.procs.trans u.symm));simp only [List.getElem?_map,F,E] at v;exact Option.some.inj v
    ·rintro k ⟨rfl,j⟩;rw [List.take_length,M,List.take_length] at j;exact N ⟨o,p,t2,I,J,L,by rw [<-t,<-u];exact j⟩
   ·rw [if_pos]
    ·exact g λs=>q ⟨⟨s.fuel,s.lane,s.ai,s.log⟩,by rw [R,S];exact s.len⟩
    ·simp only [Bool.or_eq_true,bne_iff_ne,Bool.not_eq_true',Bool.not_true,Bool.false_or,ne_eq,Int.natCast_inj];refine Classical.byContradiction λf=>q ?_;simp only [not_or,Classical.not_not] at f;exact ⟨⟨f.1.1.1.1,f.1.1.1.2,f.1.1.2,f.1.2⟩,f.2⟩
  ·refine aJ (aJ (aJ (aJ (aJ (aJ ?_)))));rw [if_pos (by simp)];exact g λs=>p s.table
 ·refine s7 rfl false (aJ (aJ (aJ (aJ (aJ (aJ ?_))))));rw [if_pos (by simp)];exact g λs=>o s.labels
theorem Qj {t:bK} {A B:aW} {S T:List av} (k:nR h (kC t) A B S T) (h1:∀d,h<=d->gl A B S T t.Label->Q true d) (f:∀d,h<=d->¬gl A B S T t.Label->Q false d):VI prog t Q h:=by
 unfold VI;have hs:t.S.len=S.length:=k.s.1;have ht:t.T.len=T.length:=k.r.1;refine aJ ?_;by_cases I:S.length<=1024/\T.length<=1024
 ·rw [if_neg (by simp;omega)];refine zpg (c:=tM (kC t)) (Lm k.a λa9=> ?_);refine zpg (c:=uT (kC t)) (Lm k.b λb0=>aJ ?_);by_cases G:(gN A).1=0/\(gN B).1=0
  ·obtain ⟨F,hb⟩:=G;rw [show (((gN A).1 !=0) || ((gN B).1 !=0))=false by simp [F,hb]];have D:=lZ F;have m1:=D.parts;have m2:=D.table;have m3:=D.procs;unfold nP at m1;unfold nQ at m3;refine nt rfl (zsz (a:=tM (kC t)) (b:=uT (kC t)) (XZ k.a k.b ⟨by omega,by omega,by omega⟩ (λE=>aJ ?_) λE=>aJ ?_))
   ·rw [if_neg (by simp)];obtain ⟨N,V,P⟩:=k.a.procs;obtain ⟨qs,a8,R⟩:=k.b.procs;have b2:N.length=A.procs.length:=P.len;have eql:qs.length=B.procs.length:=R.len;have b1:A.procs.length=B.procs.length:=E.len;have b4:t.bM.len=N.length:=V.1;refine iX (n:=N.length) (by omega) (by omega) (λi C=>C=h/\∀p:Nat,p<i->fF A t.Label (p:Int)=true->gG A p=gG B p) ⟨rfl,λp hp=>by omega⟩ ?_ ?_
    ·rintro i hi C ⟨rfl,j⟩ K g;refine Rs.vv (sh:=bq) (shf:=an) (off:=1) V (λ_=>rfl) (by decide) hi (λz:aS=>z.Code) (λ_=>rfl) λ(z:aS) hz=> ?_;refine Rs.vv (sh:=bq) (shf:=an) (off:=1) a8 (λ_=>rfl) (by decide) (by omega) (λz:aS=>z.Code) (λ_=>rfl) λ(w:aS) hw=> ?_;obtain ⟨is,i1,J⟩:=yO P hz;obtain ⟨js,j1,W⟩:=yO R hw;have b3:is.length<=256:=by have:=D.mq (p:=i);rw [<-J,List.length_map] at this;exact this
     have next:∀b:Bool,(b=true↔gG A i=gG B i)->aa prog I1 [(.agg #[t.bU.v,t.cI.v,(.int .i64 t.dT),(.int .i64 t.dU),(.int .i64 t.dk),(.int .i64 t.fJ),t.bM.v]),(.int .i64 (i:Int)),(.int .u64 t.Label)] aR (λr6 O=>aI (r6&&(!b)) λy3=>(if y3=true then Q false O else K (yw ((i:Int)+1)) O)) C:=λb hb=>by
      refine Tp (c:=tM (kC t)) (ER k.a k.ua k.u (aJ ?_));by_cases q:fF A t.Label (i:Int)=true
      ·rw [q];by_cases l:gG A i=gG B i
       ·rw [if_neg (by rw [hb.2 l];simp)];refine g _ ⟨rfl,λp hp o=> ?_⟩;by_cases H:p=i
        ·subst H;exact l
        ·exact j p (by omega) o
       ·rw [if_pos (by rw [Bool.eq_false_iff.2 λe=>l (hb.1 e)];rfl)];exact f _ (Hp.le_refl _) λm=>l (m.code i (by unfold nQ;omega) q)
      ·rw [show fF A t.Label (i:Int)=false from Bool.eq_false_iff.2 q,if_neg (by simp)];refine g _ ⟨rfl,λp hp o=> ?_⟩;by_cases H:p=i
       ·subst H;exact absurd o q
       ·exact j p (by omega) o
     refine zta (a:=z.Code) (b:=w.Code) (XY i1 j1 (by omega) (λe=> ?_) λe=> ?_)
     ·exact next true ⟨λ_=>by rw [<-J,<-W];exact e,λ_=>rfl⟩
     ·exact next false ⟨λh=>(by cases h),λZ=>absurd (by rw [J,W];exact Z) e⟩
    ·rintro C ⟨rfl,j⟩;refine zms (c:=tM (kC t)) (Mo k.a k.ua k.u k.s (by omega) λr3 k3 Y=> ?_);have L:=Y.le;refine zms (c:=uT (kC t)) (Mo (k.b.mono L) k.ub k.u (Rw.mono L k.r) (by omega) λr4 k4 M=> ?_);have X:=Hp.le_trans L M.le;have f1:=yf (xs:=S) (p:=bO A t.Label) (i:=S.length) (by omega);rw [List.take_length] at f1;refine yW (sh:=bI) (λx:av=>x) (Rw.mono M.le (Y.jb (λ_=>rfl))) (M.jb (λ_=>rfl)) (λ_=>rfl) (by decide) (by show (List.filter (bO A t.Label) S).length<=_;omega) (λi (x:av) (y:av) _ _ K g hN=>⟨_,KZ,?_⟩) (λe=> ?_) λe=> ?_
     ·by_cases e:x=y
      ·rw [mz.2 e];exact g e
      ·rw [Bool.eq_false_iff.2 λhh=>e (mz.1 hh)];exact hN e
     ·exact h1 _ X ⟨I.1,I.2,F,hb,E,λp hp=>j p (by unfold nQ at hp;omega),by simpa using e⟩
     ·exact f _ X λm=>e (by simpa using m.same)
   ·rw [if_pos (by simp)];exact f _ (Hp.le_refl _) λm=>E m.gD
  ·rw [show (((gN A).1 !=0) || ((gN B).1 !=0))=true by
    simp only [Bool.or_eq_true,bne_iff_ne];refine Classical.byContradiction λU=>G ?_;simp only [not_or,Classical.not_not] at U;exact U]
   refine s7 rfl false (aJ ?_);rw [if_pos (by simp)];exact f _ (Hp.le_refl _) λm=>G ⟨m.ea,m.eb⟩
 ·rw [if_pos (by simp;omega)];exact f _ (Hp.le_refl _) λm=>I ⟨m.s,m.r⟩
end
section
variable {h0:Hp} {x:az} {y:aD} {c:aW} {t:fA} {a:Int}
theorem zl {Q:aD->Hp->Prop} (kc:dQ h0 x c) (M:cO h0 y t) (Z:∀l∈c.labels,jq l) (S:jq a) (jW:mn t) (hq:∀y' b,h0<=b->cO b y' (iT c t a)->Q y' b):Wm prog x y a Q h0:=by
 unfold Wm;obtain ⟨n,X,T⟩:=M.parts;obtain ⟨p,Y,U⟩:=M.procs;have b2:=T.len;have b3:=U.len;have b0:y.bz.len=n.length:=X.1;have b1:y.aE.len=p.length:=Y.1;have f1:=jW.parts;have f2:=jW.procs;generalize H:(λ(i:Nat) (x:dt)=>if iy c a (i:Int)=true then x else uO)=g;generalize I:(λ(i:Nat) (x:ak)=>if fF c a (i:Int)=true then x else uP)=w;refine dx.intro (λ(i:Int) (out:aD) k=>0<=i/\i<=(n.length:Int)/\out.ee=y.ee/\out.aE=⟨none,0,0⟩/\∃d,cZ (eV h0) d ((t.parts.take i.toNat).mapIdx g)/\Has h0 (eu 6 eX out.bz d) k) (λi _ _=>(n.length-i).toNat)
  ⟨by omega,by omega,rfl,rfl,[],trivial,Has.jO (Hp.le_refl _)⟩ ?_
 rintro i out k ⟨L,i1,P,N,d,D,o⟩;have a8:d.length=i.toNat:=by rw [D.len,List.length_mapIdx,List.length_take];omega
 by_cases V:i<(n.length:Int)
 ·rw [if_pos (decide_eq_true (by omega))];have B:i.toNat<n.length:=by omega
  have A:((i.toNat:Nat):Int)=i:=by omega
  obtain ⟨q,J,K⟩:=T.get (i:=i.toNat) (List.getElem?_eq_getElem B);have u:(i+1).toNat=i.toNat+1:=by omega
  have push:∀z:bf,eV h0 z (g i.toNat q)->bP [(.int .i64 z.Cursor),z.Log.v,(.int .i64 z.jG),(.int .i64 z.cU),z.dq.v,z.di.v] (λa1 h3=>
    gF 6 96 [(.int .i64 (0:Int)),(.slice none 0 0),(.int .i64 (0:Int)),(.int .i64 (0:Int)),(.slice none 0 0),(.slice none 0 0)] ⟨out.bz.base,out.bz.len,out.bz.cap⟩ ⟨(some a1),1,1⟩ (λr G=>
    (0<=yw (i+(1:Int))/\yw (i+(1:Int))<=(n.length:Int)/\(⟨out.ee,r,out.aE⟩:aD).ee=y.ee/\(⟨out.ee,r,out.aE⟩:aD).aE=⟨none,0,0⟩/\∃d,cZ (eV h0) d ((t.parts.take (yw (i+(1:Int))).toNat).mapIdx g)/\Has h0 (eu 6 eX (⟨out.ee,r,out.aE⟩:aD).bz d) G)/\(n.length-yw (i+(1:Int))).toNat<(n.length-i).toNat) h3) k:=λz j=>by
   rw [wrap64 (by omega) (by omega),u];refine o.push (e:=z) rfl (λ_=>rfl) (λ_=>rfl) rfl ⟨by omega,by omega⟩ λl' b m=>⟨⟨by omega,by omega,P,N,d++ [z],?_,m⟩,by omega⟩;rw [Gk J];exact wL j D
  refine dp.direct ?_;refine znw (Mc (kc.mono o.le) Z S ?_);by_cases h:iy c a i=true
  ·rw [if_pos h];refine Rs.get (sh:=aP) (Rw.mono o.le X) (λ_=>rfl) (by decide) L V λ(z:bf) j=> ?_;rw [List.getElem?_eq_getElem B] at j;cases j;refine push _ ?_;rw [show g i.toNat q=q by rw [<-H];exact if_pos (by rw [A];exact h)];exact K
  ·rw [if_neg h];refine push zX ?_;rw [show g i.toNat q=uO by rw [<-H];exact if_neg (by rw [A];exact h)];exact Ji
 ·rw [if_neg (λe=>V (by have:=of_decide_eq_true e;omega))];have u:i.toNat=t.parts.length:=by omega
  rw [u,List.take_length] at D;have rp:=o.jb λ_=>rfl;have C:=o.le;refine dx.intro (λ(i:Int) (s:aD) b=>0<=i/\i<=(p.length:Int)/\s.ee=y.ee/\s.bz=out.bz/\∃f,cZ (cF h0) f ((t.procs.take i.toNat).mapIdx w)/\Has k (eu 15 eY s.aE f) b) (λi _ _=>(p.length-i).toNat)
   ⟨by omega,by omega,P,rfl,[],trivial,by rw [N];exact Has.jO (Hp.le_refl _)⟩ ?_
  rintro i s b ⟨L,i1,R,O,f,E,m⟩;have a9:f.length=i.toNat:=by rw [E.len,List.length_mapIdx,List.length_take];omega
  by_cases W:i<(p.length:Int)
  ·rw [if_pos (decide_eq_true (by omega))];have B:i.toNat<p.length:=by omega
   have A:((i.toNat:Nat):Int)=i:=by omega
   obtain ⟨q,J,K⟩:=U.get (i:=i.toNat) (List.getElem?_eq_getElem B);have u:(i+1).toNat=i.toNat+1:=by omega
   have push:∀z:aL,cF h0 z (w i.toNat q)->bP [(.int .i64 z.State),(.int .i64 z.PC),(.int .i64 z.bW),(.int .i64 z.bX),(.int .i64 z.bY),(.int .i64 z.bZ),(.int .i64 z.cc),(.int .i64 z.cd),(.int .i64 z.cf),(.int .i64 z.cg),(.int .i64 z.Cursor),(.int .i64 z.Timer),(.bool z.gi),(.int .i64 z.jI),z.eO.v] (λa1 G=>
     gF 15 136 [(.int .i64 (0:Int)),(.int .i64 (0:Int)),(.int .i64 (0:Int)),(.int .i64 (0:Int)),(.int .i64 (0:Int)),(.int .i64 (0:Int)),(.int .i64 (0:Int)),(.int .i64 (0:Int)),(.int .i64 (0:Int)),(.int .i64 (0:Int)),(.int .i64 (0:Int)),(.int .i64 (0:Int)),(.bool false),(.int .i64 (0:Int)),(.slice none 0 0)] ⟨s.aE.base,s.aE.len,s.aE.cap⟩ ⟨(some a1),1,1⟩ (λr h5=>
     (0<=yw (i+(1:Int))/\yw (i+(1:Int))<=(p.length:Int)/\(⟨s.ee,s.bz,r⟩:aD).ee=y.ee/\(⟨s.ee,s.bz,r⟩:aD).bz=out.bz/\∃f,cZ (cF h0) f ((t.procs.take (yw (i+(1:Int))).toNat).mapIdx w)/\Has k (eu 15 eY (⟨s.ee,s.bz,r⟩:aD).aE f) h5)/\(p.length-yw (i+(1:Int))).toNat<(p.length-i).toNat) G) b:=λz j=>by
    rw [wrap64 (by omega) (by omega),u];refine m.push (e:=z) rfl (λ_=>rfl) (λ_=>rfl) rfl ⟨by omega,by omega⟩ λl' b m=>⟨⟨by omega,by omega,R,O,f++ [z],?_,m⟩,by omega⟩;rw [Gk J];exact wL j E
   refine dp.direct ?_;refine Tp (ER (kc.mono (Hp.le_trans C m.le)) Z S ?_);by_cases h:fF c a i=true
   ·rw [if_pos h];refine Rs.get (sh:=aF) (Rw.mono (Hp.le_trans C m.le) Y) (λ_=>rfl) (by decide) L W λ(z:aL) j=> ?_;rw [List.getElem?_eq_getElem B] at j;cases j;refine push _ ?_;rw [show w i.toNat q=q by rw [<-I];exact if_pos (by rw [A];exact h)];exact K
   ·rw [if_neg h];refine push zY ?_;rw [show w i.toNat q=uP by rw [<-I];exact if_neg (by rw [A];exact h)];exact Jj
  ·rw [if_neg (λe=>W (by have:=of_decide_eq_true e;omega))];have u:i.toNat=t.procs.length:=by omega
   rw [u,List.take_length] at E;have F:=m.le;have hv:iT c t a=⟨t.tick,t.parts.mapIdx g,t.procs.mapIdx w⟩:=by rw [<-H,<-I];rfl
   refine hq s b (Hp.le_trans C F) ?_;rw [hv];exact ⟨R.trans M.tick,⟨d,by rw [O];exact Rw.mono F rp,D.imp λ_ _ r=>r.mono (Hp.le_trans C F)⟩,f,m.jb λ_=>rfl,E.imp λ_ _ r=>r.mono (Hp.le_trans C F)⟩
end
structure mZ (hb k:Hp) (A B:aW) (t1 t2:fA) (pm qm:Addr):Prop where
 ex:∃K1 tm1 K2 tm2,K1.c=A/\dC hb K1/\dG A tm1 (bp t1)/\K2.c=B/\dC hb K2/\dG B tm2 (bp t2)/\Has hb ((aK K1 pm (bp t1) tm1).star (aK K2 qm (bp t2) tm2)) k
section
variable {hb k:Hp} {A B:aW} {t1 t2:fA} {pm a:Addr} {S T:List av}
theorem mZ.flip (d:mZ hb k A B t1 t2 pm a):mZ hb k B A t2 t1 a pm:=by obtain ⟨b,l,c,m,g,i,e,h,j,f,o⟩:=d.ex;exact ⟨c,m,b,l,h,j,f,g,i,e,o.comm⟩
theorem mZ.le (d:mZ hb k A B t1 t2 pm a):hb<=k:=by obtain ⟨_,_,_,_,_,_,_,_,_,_,o⟩:=d.ex;exact o.le
theorem mZ.one (d:mZ hb k A B t1 t2 pm a):∃K m b,K.c=A/\dC b K/\dG A m (bp t1)/\hb<=b/\Has b (aK K pm (bp t1) m) k/\∀e f h,Has b (aK K pm e f) h->dG A f e->mZ hb h A B (e.list A) t2 pm a:=by obtain ⟨i,w,n,x,g,l,p,r,s,q,o⟩:=d.ex;obtain ⟨b,j,u,_,put⟩:=o.fst;refine ⟨i,w,b,g,l.mono j,p,j,u,λe f h t v=>⟨i,f,n,x,g,l,yM v,r,s,q,?_⟩⟩;rw [ye g];exact put _ _ t
theorem mZ.base {P:Program} {g:FuncId} {args:List Value} {sh:Shape} {K0 K:sh.T->Hp->Prop} (d:mZ hb k A B t1 t2 pm a) (p:aa P g args sh (λz b=>hb<=b/\K0 z b) hb) (q:∀z b c,hb<=b->K0 z b->mZ b c A B t1 t2 pm a->K z c):aa P g args sh K k:=by obtain ⟨e,u,f,v,j,r,h,m,s,i,o⟩:=d.ex;refine tW o p ?_;rintro z b c ⟨l,n⟩ t;exact q z b c l n ⟨e,u,f,v,j,r.mono l,h,m,s.mono l,i,t⟩
theorem mZ.state {Q:aD->Hp->Prop} (d:mZ hb k A B t1 t2 pm a) (u:cH A) (g:GT A t1) (p:∀r b c,hb<=b->cO b r t1->mZ b c A B t1 t2 pm a->Q r c):Gh prog (some pm) Q k:=by obtain ⟨i,w,j,x,rfl,h,f,n,t,m,o⟩:=d.ex;obtain ⟨y,s,v,_,put⟩:=o.fst;exact Me (h.mono s) u g f v (λc e=>put _ _ e) λr b c l q e=>p r b c l q ⟨i,w,j,x,rfl,h.mono l,f,n,t.mono l,m,e⟩
theorem mZ.tick {Q:Int->Hp->Prop} (d:mZ hb k A B t1 t2 pm a) (f:cH A) (g:GT A t1) (e:t1.tick<4611686018427387904) (c:∀b,mZ hb b A B (jl A t1) t2 pm a->Q (iU A t1.tick:Int) b):NU prog (some pm) Q k:=by obtain ⟨K,o,m,rfl,mk,j,n,i,put⟩:=d.one;exact KH KM mk f i g.gO e j λp b h l=>c b (put _ _ _ h l)
theorem mZ.other {Q:Hp->Prop} {x:av} (d:mZ hb k A B t1 t2 pm a) (f:cH A) (g:GT A t1) (s:t1.tick<=4611686018427387904) (j:∀c i,GT A i->i.tick=t1.tick->(x.Kind≠1->∀l,dS A (x::l) t1=dS A l i)->mZ hb c A B i t2 pm a->Q c):
  UB prog (some pm) x Q k:=by
 unfold UB;refine cC.direct ?_;by_cases e:x.Kind=2
 ·rw [if_pos (by simpa using e)];obtain ⟨K,t,b,rfl,mk,r,u,n,put⟩:=d.one;refine zkw (Nn mk f n (g.gO.om f) λc m=> ?_);dsimp only;rw [if_neg (by rw [e];decide)];obtain ⟨o,q⟩:=g.inj f s (p:=x.N) (v:=x.V);exact j c _ o q (λb l=>by rw [Ca,if_neg b,if_pos e]) (put _ t _ m (r.cW Jf))
 rw [if_neg (by simpa using e)];dsimp only;by_cases h:x.Kind=3
 ·rw [if_pos (by simpa using h)];obtain ⟨K,t,b,rfl,mk,r,u,n,put⟩:=d.one;refine zmt (KG mk f n (g.gO.om f) r λy c m w=> ?_);obtain ⟨o,q⟩:=g.kill f s (p:=x.N);exact j c _ o q (λb l=>by rw [Ca,if_neg b,if_neg e,if_pos h]) (put _ _ _ m w)
 ·rw [if_neg (by simpa using h)];exact j k t1 g rfl (λb l=>by rw [Ca,if_neg b,if_neg e,if_neg h]) d
theorem Mq {s:Sl} {L:List av} {K:Int->Hp->Prop} (C:lG hb s L) (hn:L.length<=1024) (mc:cH A) (g:GT A t1) (Z:t1.tick<=4611686018427387904) (d:mZ hb k A B t1 t2 pm a) {h:Nat} (W:h<=L.length)
  (y:∀(i:Nat) p,i<=L.length->(dS A (L.drop h) t1).1=L.drop i->mZ hb p A B (dS A (L.drop h) t1).2 t2 pm a->K (i:Int) p):
 aA (α1:=Int) (λM b o=>
 (((decide (b<((s.len:Nat):Int)))=true->(br s.base s.len b))/\aQ (some (decide (b<((s.len:Nat):Int)))) (ab .i64) o (Addr.add (sat s.base 3 b) 0) λx=>
 aI ((decide (b<((s.len:Nat):Int)))&&(x !=(1:Int))) λy3=>
 (if y3=true then
 ((br s.base s.len b)/\aQ none bI o (sat s.base 3 b) λx1=>
 bV prog IH [(.pointer (some pm)),x1.v] (λU=>
 M (yw (b+(1:Int))) U) o)
 else K b o))) (h:Int) k:=by
 obtain ⟨R,F⟩:∃R,R=dS A (L.drop h) t1:=⟨_,rfl⟩;rw [<-F] at y;have a9:s.len=L.length:=C.1;refine aA.GS (λn x p=>∃i:Nat,∃t,n=L.length-i/\x=(i:Int)/\i<=L.length/\GT A t/\t.tick<=4611686018427387904/\dS A (L.drop i) t=R/\mZ hb p A B t t2 pm a) (n0:=L.length-h) ⟨h,t1,rfl,rfl,W,g,Z,F.symm,d⟩ ?_;rintro n x J K1 ⟨i,t,rfl,rfl,G,P,H,f,l⟩ V;by_cases b0:i<L.length
 ·obtain ⟨N,z,D,X⟩:=Rw.read (Rw.mono l.le C) (λ_=>rfl) (by decide) (i:=(i:Int)) (by omega) (by omega);rw [Int.toNat_natCast] at D;have r:decide ((i:Int)<((s.len:Nat):Int))=true:=decide_eq_true (by omega);rw [r];have q7:=Gx (c:=A) (aG:=0) D;refine ⟨λ_=>N,z.Kind,λ_=> ?_,aJ ?_⟩
  ·intro j v u
   match j,u with
   | 0,u=>exact X 0 v u
  rw [Bool.true_and];by_cases q:z.Kind=1
  ·rw [if_neg (by simp [q])];rw [q7,Ca,if_pos q,<-q7] at f;subst f;exact y i J G rfl l
  ·rw [if_pos (by simpa using q)];refine Rs.get (sh:=bI) (Rw.mono l.le C) (λ_=>rfl) (by decide) (by omega) (by omega) λ(w:av) I=> ?_;rw [Int.toNat_natCast,D] at I;cases I;refine zxd (m:=some pm) (s:=z) (l.other mc P H λk2 t' Q a8 Y O=> ?_);rw [wrap64 (by omega) (by omega)];refine V (L.length-(i+1)) _ k2 (by omega) ⟨i+1,t',rfl,by omega,by omega,Q,by rw [a8];exact H,?_,O⟩;rw [<-Y q,<-q7];exact f
 ·have r:decide ((i:Int)<((s.len:Nat):Int))=false:=decide_eq_false (by omega);rw [r];refine ⟨λe=>(by cases e),0,λe=>(by cases e),aJ ?_⟩;rw [if_neg (by simp)];have e:i=L.length:=by omega
  subst e;have E:L.drop L.length=[]:=List.drop_length;rw [E] at f;have f:(([],t):List av×fA)=R:=f;subst f;exact y L.length J G E.symm l
end
section
variable {h:Hp} {t:bK} {A B:aW} {S T:List av}
theorem qE {Q:Bool->Hp->Prop} (f:nR h (kC t) A B S T) (hq:∀g,h<=g->Q true g):Sb prog t Q h:=by
 unfold Sb;refine zxc (XV λk1 l1=> ?_);rw [if_neg (by simp)];refine Qb (t:=t) (Qj (f.mono l1) (λk2 w m=> ?_) λk2 w hn=> ?_)
 ·rw [if_neg (by simp)];refine zmr (t:=t) ?_;unfold Uz;refine zur (t:=kC t) (Df (f.mono (Hp.le_trans l1 w)) (λk3 F _=> ?_) λ_ _ hn=>absurd m hn);rw [if_neg (by simp)];have c8:=Hp.le_trans l1 (Hp.le_trans w F);have G:=lZ m.ea;have K:=lZ m.eb;refine Ob (c:=tM (kC t)) (xP (f.a.mono c8) f.ua (λ_ _ h=>absurd m.ea h) λpm k4 _ I st=> ?_);obtain ⟨K1,h0,b1,e1,g6,e7,o1,g8⟩:=st.ex;refine tW o1 (Ob (c:=uT (kC t)) (Q:=λr e g=>∃y,r=some y/\e=0/\nO b1 B ((pj B).list B) y g) (xP (f.b.mono (Hp.le_trans c8 e7)) f.ub (λ_ _ h=>absurd m.eb h) λy k5 _ J c9=>⟨y,rfl,rfl,c9⟩)) ?_;rintro ⟨r,e⟩ k5 k6 ⟨y,f1,f2,c9⟩ o2;dsimp only at f1 f2;subst f1 f2;obtain ⟨K2,h1,b2,e2,g7,e8,o3,g9⟩:=c9.ex;have E:=Hp.le_trans c8 (Hp.le_trans e7 e8);have d0:mZ b2 k6 A B ((pj A).list A) ((pj B).list B) pm y:=⟨K1,h0,K2,h1,e1,g6.mono e8,g8,e2,g7,g9,(o3.beside o2).comm⟩;dsimp only;refine aJ (aJ (aJ ?_));rw [if_neg (by simp)];refine mM.intro (λi k aG k'=>∃hb t1 t2,∃p D:Nat,i=(p:Int)/\k=(D:Int)/\h<=hb/\p<=S.length/\D<=T.length/\(S.drop p).filter (bO A t.Label)=(T.drop D).filter (bO A t.Label)/\kr A B t.Label t1 t2/\t1.tick=aG/\0<=aG/\aG<=400/\mZ hb k' A B t1 t2 pm y)
   (λi _ _ _=>(S.length-i).toNat) ⟨b2,_,_,0,0,rfl,rfl,E,Nat.zero_le _,Nat.zero_le _,by rw [List.drop_zero,List.drop_zero,m.same,m.gD.cW],kr.first m,(zj G).2,by omega,by omega,d0⟩ ?_
  rintro i k aG k7 ⟨hb,t1,t2,p,D,rfl,rfl,l0,hi,Y,hf,b4,et,f4,f6,d⟩;by_cases e3:aG<400
  ·rw [if_pos (decide_eq_true e3)];have hs:=Rw.mono l0 f.s;have hr:=Rw.mono l0 f.r;have c4:t.S.len=S.length:=f.s.1;have c1:t.T.len=T.length:=f.r.1;obtain ⟨R1,b6⟩:∃R,dS A (S.drop p) t1=R:=⟨_,rfl⟩;obtain ⟨R2,b7⟩:∃R,dS B (T.drop D) t2=R:=⟨_,rfl⟩;have c5:=aar m ((S.drop p).length+(T.drop D).length) (Nat.le_refl _) hf b4 (by omega);have P:=(xQ (c:=A) (L:=S.drop p) (t:=t1)).1;have U:=(xQ (c:=B) (L:=T.drop D) (t:=t2)).1;have e9:=(xQ (c:=A) (L:=S.drop p) (t:=t1)).2;rw [b6] at c5 P e9;rw [b7] at c5 U;obtain ⟨⟨o,O⟩,f0⟩:=c5;refine Mq hs m.s G b4.ga (by omega) d hi λq k8 h7 Z d1=> ?_;refine Mq hr m.r K b4.gb (by rw [<-b4.hU];omega) d1.flip Y λj2 k9 h9 b3 V=> ?_;rw [b6] at Z;rw [b7] at b3;have C:=V.flip;rw [b6] at C;rw [b7] at C;obtain ⟨n1,h6,e5⟩:=e9;have h8:p<=q\/q=S.length:=by rw [Z] at e5;have:=congrArg List.length e5;rw [List.length_drop,List.length_drop,List.length_drop] at this;omega
   have X:=GT.jW G O.ga;have b5:=GT.jW K O.gb;refine Ge (C.state G O.ga λs1 h2 k2 w c2 V=>⟨⟨trivial,trivial,trivial,trivial,trivial⟩,?_⟩);have E:=Hp.le_trans l0 w;refine V.base (K0:=λv g=>cO g v (iT A R1.2 t.Label)) (NV (c:=tM (kC t)) (zl (f.a.mono E) c2 f.ua f.u X λv g l hv=>⟨l,hv⟩)) λv1 h3 k3 F c6 C=>⟨⟨trivial,trivial,trivial⟩,?_⟩;refine Ge (C.flip.state K O.gb λs2 h4 k4 I c3 d4=>⟨⟨trivial,trivial,trivial⟩,?_⟩);have a9:=Hp.le_trans E (Hp.le_trans F I);refine d4.base (K0:=λv g=>cO g v (iT B R2.2 t.Label)) (NV (c:=uT (kC t)) (zl (f.b.mono a9) c3 f.ub f.u b5 λv g l hv=>⟨l,hv⟩)) λv2 h5 k5 J a8 d5=> ?_;have x:=d5.flip;have e6:=Hp.le_trans a9 J;rw [<-O.view m] at a8;refine znv (Je ((c6.mono (Hp.le_trans I J)).mono x.le) (a8.mono x.le) X.view.le ?_);rw [if_neg (by simp)];refine aJ ?_;by_cases b8:q=S.length\/j2=T.length
   ·rw [if_pos (by rw [c4,c1];rcases b8 with e | e<;>simp [e])];refine aJ ?_;have both:q=S.length/\j2=T.length:=by
     rcases b8 with e | e
     ·refine ⟨e,?_⟩;rw [Z,e,List.drop_length] at o;refine Classical.byContradiction λg5=> ?_;have c0:j2<T.length:=by omega
      have hd:=Gx (c:=A) (aG:=0) (List.getElem?_eq_getElem c0);rw [b3,hd] at o U;have b9:=U _ _ rfl;rw [List.filter_cons_of_pos (by unfold bO;rw [b9];rfl)] at o;cases o
     ·refine ⟨?_,e⟩;rw [b3,e,List.drop_length] at o;refine Classical.byContradiction λg5=> ?_;have c0:q<S.length:=by omega
      have hd:=Gx (c:=A) (aG:=0) (List.getElem?_eq_getElem c0);rw [Z,hd] at o P;have b9:=P _ _ rfl;rw [List.filter_cons_of_pos (by unfold bO;rw [b9];rfl)] at o;cases o
    obtain ⟨e,e'⟩:=both;rw [c4,c1,e,e'];simp only [BEq.rfl,Bool.and_true];exact hq _ (Hp.le_trans e6 x.le)
   ·rw [if_neg (by rw [c4,c1];simp only [Bool.or_eq_true,beq_iff_eq,Int.natCast_inj];exact b8)];have g2:q<S.length:=by omega
    have g3:j2<T.length:=by omega
    have f9:=Gx (c:=A) (aG:=0) (List.getElem?_eq_getElem g2);have g0:=Gx (c:=A) (aG:=0) (List.getElem?_eq_getElem g3);rw [Z,f9] at o P;rw [b3,g0] at o U;have q1:=P _ _ rfl;have q2:=U _ _ rfl;rw [List.filter_cons_of_pos (by unfold bO;rw [q1];rfl),List.filter_cons_of_pos (by unfold bO;rw [q2];rfl)] at o;obtain ⟨-,g1⟩:=List.cons.inj o;refine dx.intro (λH _ k'=>∃hb t1 t2,h<=hb/\kr A B t.Label t1 t2/\t1.tick=H/\0<=H/\H<=400/\mZ hb k' A B t1 t2 pm y) (λH _ _=>(400-H).toNat) ⟨h5,_,_,e6,O,by rw [f0,et],f4,f6,x⟩ ?_;rintro H x2 i0 ⟨f8,u1,u2,c7,b0,e0,f5,f7,d7⟩;obtain ⟨b1,z,hz,g4⟩:=Rw.read (Rw.mono (Hp.le_trans c7 d7.le) f.s) (λ_=>rfl) (by decide) (i:=(q:Int)) (by omega) (by show (q:Int)<(t.S.len:Int);omega);refine ⟨b1,z.N,λj v Y=> ?_,aJ ?_⟩
    ·match j,Y with
     | 0,Y=>exact g4 1 v Y
    by_cases e4:x2<z.N/\H<400
    ·rw [if_pos (by simpa using e4)];obtain ⟨M,q4,q5⟩:=b0.tick m (by omega);refine SE (d7.tick G b0.ga (by omega) λi1 d8=> ?_);refine SE (d8.flip.tick K b0.gb (by rw [<-b0.hU];omega) λi3 d9=> ?_);rw [q4];have d9:=d9.flip;have X:=GT.jW G M.ga;have b5:=GT.jW K M.gb;have W:∀n:Int,(!(n !=n))=true:=λn=>by simp
     refine nt (W _) (Ge (d9.state G M.ga λs1 h2 k2 w c2 V=>⟨⟨trivial,trivial,trivial,trivial,trivial⟩,?_⟩));have E:=Hp.le_trans c7 w;refine nt (W _) (V.base (K0:=λv g=>cO g v (iT A (jl A u1) t.Label)) (NV (c:=tM (kC t)) (zl (f.a.mono E) c2 f.ua f.u X λv g l hv=>⟨l,hv⟩)) λv1 h3 k3 F c6 C=>⟨⟨trivial,trivial,trivial⟩,?_⟩);refine nt (W _) (Ge (C.flip.state K M.gb λs2 h4 k4 I c3 d4=>⟨⟨trivial,trivial,trivial⟩,?_⟩));have a9:=Hp.le_trans E (Hp.le_trans F I);refine nt (W _) (d4.base (K0:=λv g=>cO g v (iT B (jl B u2) t.Label)) (NV (c:=uT (kC t)) (zl (f.b.mono a9) c3 f.ub f.u b5 λv g l hv=>⟨l,hv⟩)) λv2 h5 k5 J a8 d5=> ?_);have x:=d5.flip;rw [<-M.view m] at a8;refine nt (W _) (znv (Je ((c6.mono (Hp.le_trans I J)).mono x.le) (a8.mono x.le) X.view.le (aJ ?_)));rw [if_neg (by simp)];rw [wrap64 (by omega) (by omega)];exact ⟨⟨h5,_,_,Hp.le_trans a9 J,M,by rw [q5,e0],by omega,by omega,x⟩,by omega⟩
    ·rw [if_neg (by simpa using e4)];have ms:=m.s;have mr:=m.r;rw [wrap64 (by omega) (by omega),wrap64 (by omega) (by omega)];exact ⟨⟨f8,u1,u2,q+1,j2+1,by omega,by omega,c7,by omega,by omega,g1,b0,e0,f5,f7,d7⟩,by omega⟩
  ·rw [if_neg (λe=>e3 (of_decide_eq_true e))];exact hq _ (Hp.le_trans l0 d.le)
 ·rw [if_pos (by simp)];refine zmr (t:=t) ?_;unfold Uz;refine C9 (t:=kC t) (ES (f.mono (Hp.le_trans l1 w)) (λ_ _ m=>absurd m hn) λk3 F _=> ?_);exact hq _ (Hp.le_trans l1 (Hp.le_trans w F))
end
end Lf
namespace Lf
open Go Go.Proofs Go.ChangeShapes Go.WideShapes Go.ChangeAt Go.RowKit
section
variable {H:Type} {enc:TypeId×Value->H} {W:World}
theorem Mg :lr enc Tryz.prog W 27 λa=>∃(l:Sl) (b:List av),a=[l.v]/\pw W 3 kO (λx=>ug x.Kind/\ug x.N/\ug x.V) l b:=
 Nx (ae.aM 27 CS rfl) kO _ (sz:=3) (by kernel_rfl) (by rw [show Tryz.prog.bytesOf 43=24 by kernel_rfl];omega) PK λ_=>rfl
theorem uo {v:Value} {d:DataW H} {G:List MemPlace} (h:DataW.Trod enc Tryz.prog W 0 (λ_=>true) true 30 v d G) (b:(DataW.weights Tryz.prog 30 d).all (· <=reachBytes)=true):
  ∃(t:bK) (A B:aW) (S T:List av),v=dj.enc t/\nR (whole W) (kC t) A B S T:=by
 obtain ⟨fuel,h⟩:=h;have a:=ae.aM 30 CU rfl;have j:=wZ a h;rw [show Tryz.prog.cellsOf 30=17 by kernel_rfl] at j;have c:Tryz.prog.cellsOf 27=1:=by kernel_rfl
 obtain ⟨x,z,p⟩:=ph a h b (i:=0) (off:=0) rfl rfl vk zQ;obtain ⟨y,C,q⟩:=ph a h b (i:=1) (off:=7) rfl rfl vk zQ;obtain ⟨s,S,D,u⟩:=ph a h b (i:=2) (off:=14) rfl rfl c Mg;obtain ⟨r,T,E,w⟩:=ph a h b (i:=3) (off:=15) rfl rfl c Mg;obtain ⟨n,F,I⟩:=ph a h b (i:=4) (off:=16) rfl rfl KO Hc;obtain ⟨A,k,at_,J⟩:=MP p;obtain ⟨B,o,l,K⟩:=MP q;generalize g:v.cells.toList=f at*;refine ⟨⟨x.be,x.Table,x.Fuel,x.hZ,x.cv,x.Log,x.aE,y.be,y.Table,y.Fuel,y.hZ,y.cv,y.Log,y.aE,s,r,n⟩,A,B,S,T,?_,k,o,u.Aa,w.Aa,KP at_,KP l,ML I⟩;have e:f=f.drop 0:=rfl;rw [e,pf (m:=7) z rfl,pf (m:=14) C rfl,pf (m:=15) D rfl,pf (m:=16) E rfl,pf (m:=17) F rfl,List.drop_of_length_le (Nat.le_of_eq j)] at g;exact PH g (by simp)
end
end Lf
