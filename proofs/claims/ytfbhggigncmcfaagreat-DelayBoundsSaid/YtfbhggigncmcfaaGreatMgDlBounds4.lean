/-
  Part 5 of the texts that the claim leans on.
-/
import Derived.Laws.StructEq
import Derived.RangeFuncFrom
import Derived.RangeFuncBound
import Derived.RangeFuncCalls
import Derived.RangeFuncLeaves
import Derived.Shelf.Abstract
import Derived.Shelf.RegionOpen
import Derived.WalkKit
import Derived.OwnWalkIn
import Derived.TacticsInMore
import Derived.LoopNIn
import Derived.LoopIn
import Derived.Test.YtfbhggigncmcfaaGreatProg
import Derived.ChangeKeysEq
import Derived.ProofKit
import Derived.SizedLaws
import Derived.OpenShut
import Derived.Laws.IdiomStrings
import Derived.Test.YtfbhggigncmcfaaGreatMgDlBounds3
set_option maxRecDepth 100000
namespace Lf
open Go Go.Proofs Tryz
section
variable {h0 h1 k:Hp} {K:MK} {pm:Addr} {s:MS} {g:Nat->Nat->Int}
theorem Hd {a:Type} {f:Nat->a} {t:Int} (h:0<=t):(List.range (t+1).toNat).map f=(List.range t.toNat).map f++ [f t.toNat]:=by rw [show (t+1).toNat=t.toNat+1 by omega,List.range_succ,List.map_append];rfl
theorem VR {Q:aU->Hp->Prop} (m:dq h0 K) (v:cc K.c) (o:Has h0 (aA K pm s g) k) (P:jv K.c s) (td:eH K.c g s)
  (W:∀r f,Has h0 ((aA K pm s g).star (iX N5 r (s.list K.c))) f->Q r f):Kw prog (some pm) Q k:=by
 unfold Kw;have b5:=v.procs;have b3:=v.parts;have b4:=m.pZ;have b6:=m.nj;refine aK (o.ee.ld (shf:=ae .i64) s.tick rfl ?_);refine aK (o.ee.ld (shf:=al) K.x.parts rfl ?_);have b0:Has k (vH (⟨none,0,0⟩:Sl) ([]:List dx)) k:=Has.na (okQ:=uX) (Hp.le_refl _);refine bQ.intro (λ(t:Int) (st:aU) f=>0<=t/\t<=(nP K.c:Int)/\st.jx=s.tick/\st.aM=⟨none,0,0⟩/\Has h0 ((aA K pm s g).star (vH st.eg ((List.range t.toNat).map s.part))) f) (λt _ _=>(nP K.c-t).toNat) ⟨by omega,by omega,rfl,rfl,by simpa using o.beside b0⟩ ?_;rintro t st M ⟨t0,t1,I,G,w⟩;by_cases h:t<(nP K.c:Int)
 ·rw [if_pos (gI)];have n:t.toNat<nP K.c:=by omega
  have z:((t.toNat:Nat):Int)=t:=by omega
  obtain ⟨i,l⟩:=m.sd (Has.left w) n;rw [z] at i l;refine ⟨i,some (K.q t.toNat),l,?_⟩;refine RX (Ps:=st.eg) (ps:=(List.range t.toNat).map s.part) v w P n (by rw [List.length_map,List.length_range];omega) λZ f A=> ?_;rw [aH];refine ⟨⟨by omega,by omega,I,G,?_⟩,by omega⟩;rw [Hd t0];exact A
 ·rw [if_neg (λe=>h (by have:=of_decide_eq_true e;omega))];have z:t.toNat=nP K.c:=by omega
  rw [z] at w;obtain ⟨L,lA,O,hP,b2⟩:=w.fst;have N:=m.mono lA;refine aK (O.ee.ld (shf:=al) K.x.procs rfl ?_);have b1:Has M (tj (⟨none,0,0⟩:Sl) ([]:List ak)) M:=Has.na (okQ:=JK) (Hp.le_refl _);refine bQ.intro (λ(j:Int) (s1:aU) f=>0<=j/\j<=(nQ K.c:Int)/\s1.jx=s.tick/\s1.eg=st.eg/\Has L ((aA K pm s g).star (tj s1.aM ((List.range j.toNat).map s.proc))) f) (λj _ _=>(nQ K.c-j).toNat) ⟨by omega,by omega,I,rfl,by rw [G];simpa using O.beside b1⟩ ?_;rintro j s1 Y ⟨X,j1,J,H,y⟩;by_cases V:j<(nQ K.c:Int)
  ·rw [if_pos (gI)];have n:j.toNat<nQ K.c:=by omega
   have u:((j.toNat:Nat):Int)=j:=by omega
   obtain ⟨i,l⟩:=N.ptr (Has.left y) n;rw [u] at i l;refine ⟨i,some (K.p j.toNat),l,?_⟩;have key:=RZ (Ps:=s1.aM) (ps:=(List.range j.toNat).map s.proc) (rest:=λr8 R=>(0<=yw (j+1)/\yw (j+1)<=(nQ K.c:Int)/\s1.jx=s.tick/\s1.eg=st.eg/\Has L ((aA K pm s g).star (tj r8 ((List.range (yw (j+1)).toNat).map s.proc))) R)/\(nQ K.c-yw (j+1)).toNat<(nQ K.c-j).toNat) N v y P td n (by rw [List.length_map,List.length_range];omega) λZ f A=>by rw [aH];refine ⟨⟨by omega,by omega,J,H,?_⟩,by omega⟩;rw [Hd X];exact A
   rw [u] at key;exact key
  ·rw [if_neg (λe=>V (by have:=of_decide_eq_true e;omega))];have u:j.toNat=nQ K.c:=by omega
   rw [u] at y;refine W s1 Y ?_;have o3:=(b2 _ _ y).assoc;refine o3.map λkk F S=> ?_;refine CP (λ_ h=>h) (λF' h=> ?_) S;obtain ⟨F1,F2,e,d,⟨C,r2,a9,E⟩,⟨B,r1,a8,D⟩⟩:=h;refine ⟨B++C,⟨B,C,rfl,by rw [H];exact r1,r2,J⟩,?_,λb=> ?_⟩
   ·rw [List.nodup_append];exact ⟨a8,a9,λa T b hb U=>by subst U;exact d a ((E a).2 hb) ((D a).2 T)⟩
   ·rw [e b,D b,E b,List.mem_append];exact ⟨λh=>h.symm,λh=>h.symm⟩
end
theorem vW {b c:Type} {R:b->c->Hp->List Nat->Prop} (ok:gP R):gP (nB R):=⟨λo a=>nB.same ok o a,λo=>nB.known ok o⟩
abbrev eQ :bd->List Value:=λx=>aY (bJ.enc x)
section
variable {α:Type} {h:Hp} {sz:Nat} {enc:α->List Value} {l:Sl} {xs:List α}
theorem Ni {b o:Nat} {i:Int}:sat (some ⟨b,o,none⟩) sz i=⟨b,o+i.toNat*sz,none⟩:=by unfold sat;rw [Option.getD_some,jD]
theorem cT.L4 {F:List Nat} (o:cT h sz enc l xs F) (e:∀x,(enc x).length=sz) {i:Nat} {x d:α} (q:xs[i]? =some x) {off:Nat} {new:List Value} (M:off+new.length<=sz) (z:enc d=(enc x).take off++new++(enc x).drop (off+new.length))
  {K:Hp->Prop} (w:∀c,cT c sz enc l (xs.set i d) F->Mv F h F c->K c):cq h ((sat l.base sz (i:Int)).add off) new K:=by
 have g:i<xs.length:=by grind
 obtain ⟨D,r,E⟩:=o;rcases E with ⟨_,H,_⟩ | ⟨b,a,j,rfl,B,u,f⟩
 ·omega
 ·rw [j,Ni,jD,show ((i:Int)).toNat=i from rfl,Nat.zero_add];have J:i*sz+sz<=l.len*sz:=by have:=Nat.mul_le_mul_right sz (show i+1<=l.len by omega);grind
  have L:l.len*sz<=l.cap*sz:=Nat.mul_le_mul_right sz r;refine yv B (by rw [u];omega) λc C A=> ?_;refine w c ⟨by simp [D],r,.inr ⟨b,_,j,rfl,A,?_,?_⟩⟩ C
  ·grind
  ·have t1:a.take (i*sz)=(xs.take i).flatMap enc:=by rw [yp e,<-f,List.take_take];congr 1;omega
   have t2:(a.drop (i*sz+sz)).take (l.len*sz-(i*sz+sz))=(xs.drop (i+1)).flatMap enc:=by rw [xh e,<-f,Nat.add_mul,Nat.one_mul,List.drop_take]
   have G:(a.drop (i*sz)).take sz=enc x:=by
    have k:(xs.drop i).flatMap enc=enc x++(xs.drop (i+1)).flatMap enc:=by rw [List.drop_eq_getElem_cons g,List.flatMap_cons];rw [List.getElem?_eq_getElem g] at q;rw [Option.some.inj q]
    have v:(xs.drop i).flatMap enc=(a.drop (i*sz)).take (l.len*sz-i*sz):=by rw [xh e,<-f,List.drop_take]
    rw [v] at k;have I:=congrArg (List.take sz) k;grind
   have m:a=a.take (i*sz)++(enc x++a.drop (i*sz+sz)):=by rw [<-G,<-List.drop_drop,List.take_append_drop,List.take_append_drop]
   have n:(a.take (i*sz)).length=i*sz:=by rw [List.length_take];omega
   have p:(enc x).length=sz:=e x;have s:a.take (i*sz+off)=a.take (i*sz)++(enc x).take off:=by
    conv=>lhs;rw [m]
    rw [List.take_append,n,List.take_of_length_le (by omega),List.take_append,p,show i*sz+off-i*sz=off by omega,show off-sz=0 by omega,List.take_zero,List.append_nil]
   have t:a.drop (i*sz+off+new.length)=(enc x).drop (off+new.length)++a.drop (i*sz+sz):=by
    conv=>lhs;rw [m]
    rw [List.drop_append,n,List.drop_eq_nil_of_le (by omega),List.nil_append,List.drop_append,p,show i*sz+off+new.length-i*sz=off+new.length by omega,show off+new.length-sz=0 by omega,List.drop_zero]
   rw [s,t,show a.take (i*sz)++(enc x).take off++new++((enc x).drop (off+new.length)++a.drop (i*sz+sz))=(a.take (i*sz)++enc d)++a.drop (i*sz+sz) by rw [z];simp];rw [AB d g];have y:(a.take (i*sz)++enc d).length=i*sz+sz:=by grind
   rw [List.take_append,y,t2,List.take_of_length_le (by omega),t1];simp
end
section
variable {h0 k:Hp}
theorem Has.vY {d:Type} {sz:Nat} {enc:d->List Value} {l:Sl} {c:List d} (o:Has h0 (fm sz enc l c) k) (n:∀x,(enc x).length=sz) {i:Nat} {x x':d} (u:c[i]? =some x) {off:Nat} {new:List Value} (t:off+new.length<=sz) (s:enc x'=(enc x).take off++new++(enc x).drop (off+new.length))
  {K:Hp->Prop} (q:∀a,Has h0 (fm sz enc l (c.set i x')) a->K a):cq k ((sat l.base sz (i:Int)).add off) new K:=by
 obtain ⟨r,F,⟨B,h,e⟩,p⟩:=o;refine h.L4 n u t s λa j m=>q a ⟨λb f g=>m.cv b f (r b f g) λhb=> ?_,F,⟨B,j,e⟩,p⟩;grind
theorem Has.nf {b:Type} {sz:Nat} {enc:b->List Value} {l:Sl} {a:List b} (o:Has h0 (fm sz enc l a) k) (c:∀x,(enc x).length=sz):Rw k sz enc l a:=by obtain ⟨f,F,⟨B,h,e⟩,d⟩:=o;exact h.rw c
theorem Has.rowsOf {m:Type} {sh:Shape} {sz:Nat} {Q:sh.T->m->Hp->List Nat->Prop} {okQ:gP Q} {l:Sl} {c:List sh.T} {j:List m} (o:Has h0 ((fm sz (λx=>aY (sh.enc x)) l c).star (iX (vW okQ) c j)) k):Has h0 (iX (bz.ok (sh:=sh) (sz:=sz) okQ) l j) k:=by
 refine o.map λw F h=> ?_;obtain ⟨u,v,e,d,⟨f,i,n⟩,⟨g,t,s,p⟩⟩:=h;refine ⟨f++g,⟨c,f,g,rfl,i,t⟩,?_,λb=> ?_⟩
 ·rw [List.nodup_append];exact ⟨i.nodup,s,λa q b hb r=>by subst r;exact d a ((n a).2 q) ((p a).2 hb)⟩
 grind
theorem VT {x:aw} {c:bg} {Q:aw->Hp->Prop} (a:eu k x c) (hl:c.labels.length<=1000) (ht:c.table.length<=1000) (hp:c.procs.length<=1000) (hc:∀y∈c.procs,y.code.length<=1000)
  (hq:∀r m,Has k ((iX tT r.aN c.labels).star ((iX kI r.Table c.table).star (iX mF r.aM c.procs))) m->r.Fuel=c.fuel->r.gQ=c.lane->r.bG=c.ai->r.Log=c.log->Q r m):Sa prog x Q k:=by
 unfold Sa;refine WX ?_;unfold Kr;refine vr (enc:=λx:Int=>aY ((ae .u64).enc x)) (bK.bE 22 wg rfl) a.labels (by decide) (λ_=>rfl) (λ_=>rfl) rfl ⟨by omega,by omega⟩ λll L l1 n1=> ?_;refine ⟨⟨trivial,trivial,trivial⟩,?_⟩;have a1:=a.mono l1;refine Ku ?_;unfold Cu;refine vr (enc:=λx:Int=>aY ((ae .i64).enc x)) (bK.bE 23 qT rfl) a1.table (by decide) (λ_=>rfl) (λ_=>rfl) rfl ⟨by omega,by omega⟩ λlt w l2 n2=> ?_;refine ⟨⟨trivial,trivial⟩,?_⟩;have a2:=a1.mono l2;obtain ⟨g,b3,G⟩:=a2.procs;have b2:g.length=c.procs.length:=G.len;refine YQ ?_;unfold WW;refine vr (enc:=eQ) (bK.bE 24 zy rfl) b3 (by decide) (λ_=>rfl) (λ_=>rfl) rfl ⟨by omega,by omega⟩ λlp M l3 N=> ?_;have b9:=(N.nf (λ_=>rfl)).1;have nil:Has M (iX (vW uW) ([]:List bd) ([]:List ik)) M:=Has.qO (B:=[]) (Hp.le_refl _) rfl .nil λ_ h=>by cases h
 refine ay.intro (λ(t:Int) m=>0<=t/\t<=(g.length:Int)/\∃j:List bd,j.length=t.toNat/\Has w ((fm 2 eQ lp (j++g.drop t.toNat)).star (iX (vW uW) j (c.procs.take t.toNat))) m) (λt _=>(g.length-t).toNat) ⟨by omega,by omega,[],rfl,by simpa using N.beside nil⟩ ?_;rintro t m ⟨S,t1,j,D,o⟩;by_cases h:t<(g.length:Int)
 ·rw [if_pos (gI)];have H:t.toNat<g.length:=by omega
  have b7:((t.toNat:Nat):Int)=t:=by omega
  obtain ⟨h5,l5,oO,_,fG⟩:=o.fst;have s:(j++g.drop t.toNat)[t.toNat]? =some g[t.toNat]:=by grind
  obtain ⟨pc,b1,C,u,I,a9⟩:=G.get (i:=t.toNat) (List.getElem?_eq_getElem H);generalize g[t.toNat]=y at s I C;have b8:u.length<=1000:=by grind
  refine Rs.get (sh:=bJ) (oO.nf (λ_=>rfl)) (λ_=>rfl) (by omega) S (by rw [List.length_append,List.length_drop];omega) λ(y':bd) J=> ?_;rw [s] at J;cases J;refine YR ?_;unfold W1;refine vr (enc:=λx=>aY (be.enc x)) (bK.bE 62 zA rfl) (Rw.mono o.le I) (by decide) (λ_=>rfl) (λ_=>rfl) rfl ⟨by omega,by omega⟩ λn k6 l6 n6=> ?_;have X:∀l:List bc,db (λx p=>bA x=p) l (l.map bA):=λl=>by
   induction l with
   | nil=>trivial
   | cons a r ih=>exact ⟨rfl,ih⟩
  have z:Has m (iX tQ n pc.code) k6:=by rw [<-a9];obtain ⟨b0,F,⟨B,E,e⟩,hf⟩:=n6;exact Has.qO b0 ⟨u,B,[],by simp,E,Bc (X u)⟩ E.nodup λb hb=>hf b ((e b).2 hb)
  have oA:=(o.beside z).assoc;obtain ⟨h7,l7,P,_,b6⟩:=oA.fst;have Z:=(Rs.get (sh:=bJ) (K:=λ_=>True) (P.nf (λ_=>rfl)) (λ_=>rfl) (by omega) S (by rw [List.length_append,List.length_drop];omega) λ_ _=>trivial).1;refine ⟨⟨trivial,trivial⟩,Z,?_⟩;have key:=P.vY (i:=t.toNat) (x':=(⟨y.Part,n⟩:bd)) (off:=1) (new:=[n.v]) (λ_=>rfl) s (by simp) rfl
   (K:=λW=>(0<=yw (t+1)/\yw (t+1)<=(g.length:Int)/\∃j:List bd,j.length=(yw (t+1)).toNat/\Has w ((fm 2 eQ lp (j++g.drop (yw (t+1)).toNat)).star (iX (vW uW) j (c.procs.take (yw (t+1)).toNat))) W)/\(g.length-yw (t+1)).toNat<(g.length-t).toNat) λk8 O=> ?_
  ·grind
  ·rw [aH];refine ⟨⟨by omega,by omega,j++ [⟨y.Part,n⟩],by rw [List.length_append,D,List.length_singleton];omega,?_⟩,by omega⟩;have q:(t+1).toNat=t.toNat+1:=by omega
   have U:(j++g.drop t.toNat).set t.toNat (⟨y.Part,n⟩:bd)=(j++ [⟨y.Part,n⟩])++g.drop (t.toNat+1):=by rw [List.set_append_right _ _ (by omega),D,Nat.sub_self,List.drop_eq_getElem_cons H,List.set_cons_zero,List.append_assoc];rfl
   rw [U] at O;have V:c.procs.take (t.toNat+1)=c.procs.take t.toNat++ [pc]:=by rw [List.take_add_one,b1];rfl
   rw [q,V];refine (b6 _ _ O).map λkk F Y=>CP (λ_ h=>h) (λF' h=> ?_) Y;obtain ⟨F1,F2,e,d,⟨T,r1,b4,f1⟩,⟨A,r2,b5,f2⟩⟩:=h;refine ⟨T++A,nB.snoc (R:=pE) (a:=(⟨y.Part,n⟩:bd)) (b:=pc) (B':=A) ⟨C,r2⟩ r1,?_,λb=> ?_⟩
   ·rw [List.nodup_append];exact ⟨b4,b5,λa ha b hb a8=>by subst a8;exact d a ((f1 a).2 ha) ((f2 a).2 hb)⟩
   grind
 ·rw [if_neg (λe=>h (by grind))];have q:t.toNat=g.length:=by omega
  rw [q,List.drop_length,List.append_nil,b2,List.take_length] at o;have o1:=o.rowsOf (sh:=bJ) (okQ:=uW);have oU:Has k (iX tT ll c.labels) L:=n1.iR (f:=λx=>x) (λ_=>rfl) λ_=>rfl;have z:Has L (iX kI lt c.table) w:=n2.iR (f:=λx=>x) (λ_=>rfl) λ_=>rfl;exact hq _ m ((oU.beside z).beside o1).assoc a.fuel a.lane a.ai a.log
end
section
variable {h0 k:Hp} {K:MK} {pm:Addr} {s:MS} {f:Nat->Nat->Int}
theorem De {r:aw} {c:bg} (o:Has h0 ((iX tT r.aN c.labels).star ((iX kI r.Table c.table).star (iX mF r.aM c.procs))) k) (q:r.Fuel=c.fuel) (t:r.gQ=c.lane) (u:r.bG=c.ai) (v:r.Log=c.log):Has h0 (iX Dz r c) k:=by
 refine o.map λG F h=> ?_;obtain ⟨B,C,e,d,⟨l,z,w,f1⟩,⟨D,E,i,p,⟨m,r2,x,f2⟩,⟨n,A,y,f3⟩⟩⟩:=h;refine ⟨l++(m++n),⟨l,m,n,rfl,z,r2,A,q,t,u,v⟩,?_,λb=> ?_⟩
 ·rw [List.nodup_append,List.nodup_append];refine ⟨w,⟨x,y,λa g b hb j=> ?_⟩,λa g b hb j=> ?_⟩
  ·subst j;exact p a ((f2 a).2 g) ((f3 a).2 hb)
  ·subst j;rcases List.mem_append.1 hb with hb | hb
   ·exact d a ((f1 a).2 g) ((i a).2 (.inl ((f2 a).2 hb)))
   ·exact d a ((f1 a).2 g) ((i a).2 (.inr ((f3 a).2 hb)))
 ·rw [e b,i b,f1 b,f2 b,f3 b,List.mem_append,List.mem_append]
end
def lX :dx:=⟨0,[],0,0,[],[]⟩
def qa :ak:=⟨0,0,[],0,0,false,0,[]⟩
def bW (t:ij):MS:=⟨t.tick,λi=>t.parts.getD i lX,λp=>t.procs.getD p qa⟩
theorem Yp {l:List Int} (h:∀z∈l,l.countP (λy=>decide (y=z))<=1):l.Nodup:=by
 induction l with
 | nil=>simp
 | cons a l d=>
  rw [List.nodup_cons];refine ⟨λb=> ?_,d λz e=> ?_⟩
  ·have c:=h a (List.mem_cons_self ..);rw [List.countP_cons] at c;have:0<l.countP (λy=>decide (y=a)):=List.countP_pos_iff.2 ⟨a,b,by simp⟩;simp at c;exact absurd b (by
    intro b;have:=c a b;exact this rfl)
  grind
theorem xy {c:Type} {f:c->Nat} {l:List c} {a:c} (h:a∈l):f a<=(l.map f).sum:=by
 induction l with
 | nil=>cases h
 | cons b l d=>grind
theorem wJ {b:Type} {f:b->Nat} {l:List b} (h:(l.map f).sum≠0):∃a∈l,f a≠0:=by refine Classical.byContradiction λc=>h ?_;rw [List.sum_eq_zero_iff_forall_eq_nat];grind
section
variable {c:bg} {fl:Nat->Nat->Bool} {t:ij}
theorem AM (hp:t.parts.length=nP c) (d:t.procs.length=nQ c):(bW t).list c=t:=by
 have a:(List.range (nP c)).map (bW t).part=t.parts:=by
  refine List.ext_getElem? λj=> ?_;rw [List.getElem?_map];by_cases h:j<nP c
  ·rw [List.getElem?_range h,List.getElem?_eq_getElem (by omega)];simp [bW,List.getD,List.getElem?_eq_getElem (show j<t.parts.length by omega)]
  grind
 have b:(List.range (nQ c)).map (bW t).proc=t.procs:=by
  refine List.ext_getElem? λj=> ?_;rw [List.getElem?_map];by_cases h:j<nQ c
  ·rw [List.getElem?_range h,List.getElem?_eq_getElem (by omega)];simp [bW,List.getD,List.getElem?_eq_getElem (show j<t.procs.length by omega)]
  grind
 unfold MS.list;rw [a,b];rfl
theorem Jr (m:cc c) {i:Nat} {st:ij}:∀ {l:List xG} {last:Int},vG c st i last l->l.Pairwise (λa b=>a.tick<=b.tick)/\∀e∈l,last<=e.tick/\e.tick<st.tick/\0<=e.proc/\e.proc.toNat<nQ c/\az c e.proc.toNat=i
 | [],_,_=>⟨List.Pairwise.nil,λe h=>by cases h⟩
 | e::r,last,h=>by
  obtain ⟨f,g,j,k⟩:=h;obtain ⟨a,b⟩:=Jr m k;refine ⟨List.pairwise_cons.2 ⟨λd he'=>(b d he').1,a⟩,λd he'=> ?_⟩;rcases List.mem_cons.1 he' with rfl | he'
  ·exact ⟨f,g,(sN m).1 j⟩
  grind
theorem J5 (m:cc c) (h:sZ c t λi y=>fl i y.toNat=true) (hr:∀x∈t.procs,x.bf.length=8):Good c fl (bW t) No No t.tick:=by
 obtain ⟨⟨hT,hp,hq⟩,hP,hQ,b6,b7,b5⟩:=h;have d2:=AM (c:=c) (t:=t) hp hq;have I:∀ {i},i<nP c->t.parts[i]? =some ((bW t).part i):=λ{i} d=>by have:=H9 (c:=c) (s:=bW t) d;grind
 have g:∀ {i},i<nQ c->t.procs[i]? =some ((bW t).proc i):=λ{i} d=>by have:=wq (c:=c) (s:=bW t) d;grind
 have c6:∀ {p:Int} {q:ak->Prop},L7 t p q->p.toNat<nQ c->q ((bW t).proc p.toNat):=λ{p q} h hp=>by obtain ⟨x,B,H⟩:=h;grind
 have b0:∀ {p:Int} {q:ak->dB->Prop},Kh c t p q->p.toNat<nQ c->∃n,dt c p.toNat ((bW t).proc p.toNat)=some n/\q ((bW t).proc p.toNat) n:=λ{p q} h hp=>by obtain ⟨x,y,n,B,H,S,e4⟩:=h;rw [g hp] at B;cases B;obtain ⟨y',f1,f2,f3⟩:=sK m hp;rw [H] at f1;cases f1;exact ⟨n,by rw [<-uL f3];exact S,e4⟩
 have c8:∀p,p<nQ c->∀j,j<nQ c->∀(i:Nat) l,((bW t).proc j).ah[i]? =some l->∀w∈l.waiters,w.proc=(p:Int)->((bW t).proc p).state=2:=λp hp j u i l L w G e=>by obtain ⟨y,f1,f2,f3⟩:=sK m u;have O:=(b7 j _ y (g u) f1 i l L w G).2.2.2.2;obtain ⟨n,_,E,_⟩:=b0 O (by omega);rw [e,Int.toNat_natCast] at E;exact E
 have c7:∀p,p<nQ c->∀j,j<nP c->∀q∈((bW t).part j).an,(p:Int)∈q->((bW t).proc p).state=3:=λp hp j u q X M=>by
  obtain ⟨k,hk,K⟩:=List.getElem_of_mem X;have W:((bW t).part j).an[k]? =some q:=by grind
  obtain ⟨n,_,E,_⟩:=b0 (b6 j _ (I u) k q W _ M).2.1 (by omega);rw [Int.toNat_natCast] at E;exact E
 refine ⟨hT.1,λi d=> ?_,λp F=> ?_,λi d k o ho=> ?_,λi d k q c5=> ?_,λr b8 i l L=> ?_,λp F _ N=> ?_,λp F _ h2=> ?_⟩
 ·obtain ⟨⟨a1,a2,a3⟩,a4,a5,a6,a7,Y,a9,_⟩:=hP i _ (I d);obtain ⟨Q,R⟩:=Jr m a4;exact ⟨⟨a1,by rw [J3 m] at a2;exact a2⟩,a3,⟨Q,R⟩,a5,a6,a7,Y,a9⟩
 ·obtain ⟨y,f1,f2,f3⟩:=sK m F;obtain ⟨a1,a2,a3,a4,a5,a6,a7,Y,a9,Q,R,b3,b4⟩:=hQ p _ y (g F) f1;rw [uL f3] at Q R b3 b4;rw [f3] at a2;refine ⟨a1,a2,a3,a4,a5,a6,.inr a7,λh=>⟨.inr (Y h).1,(Y h).2⟩,λi l L=> ?_,Q,R,b3,b4,hr _ (List.mem_of_getElem? (g F))⟩;obtain ⟨C,b,D,c4⟩:=a9 i l L;refine ⟨C,b,D,λhu d=> ?_⟩;have:=c4 hu d;rw [f2] at this;have this:fl i ((az c p:Nat):Int).toNat=true:=this
  rwa [Int.toNat_natCast] at this
 ·by_cases e:o= -1
  ·exact .inl e
  ·obtain ⟨Q,R⟩:=(hP i _ (I d)).2.2.2.2.2.2.2 o (List.mem_of_getElem? ho) e;obtain ⟨C,b,D⟩:=(sN m).1 Q;exact .inr ⟨C,b,D,.inl (cQ.2 (c6 R b))⟩
 ·have J:=b6 i _ (I d) k q c5;refine ⟨Yp λz U=> ?_,λz U=> ?_,λd0=> ?_⟩
  ·obtain ⟨C,b,D⟩:=(sN m).1 (J z U).1;have N:=b5 z.toNat _ (g b);rw [show ((z.toNat:Nat):Int)=z by omega] at N;have T:q.countP (λy=>decide (y=z))<=mf z ((bW t).part i):=xy (f:=λq:List Int=>q.countP (λy=>decide (y=z))) (List.mem_of_getElem? c5);have O:mf z ((bW t).part i)<=(t.parts.map (mf z)).sum:=xy (List.mem_of_getElem? (I d));split at N<;>omega
  ·obtain ⟨C,b,D⟩:=(sN m).1 (J z U).1;obtain ⟨n,B,H,S⟩:=b0 (J z U).2.1 b;obtain ⟨y,f1,f2,f3⟩:=sK m b;have O:=(hQ z.toNat _ y (g b) f1).2.2.2.2.2.2.2.2.2.2.2.1 H;obtain ⟨n',Z,g2⟩:=O;rw [uL f3,B] at Z;cases Z;exact ⟨C,b,D,λh=>h,.inr ⟨H,n,B,g2,S⟩⟩
  ·cases q with
   | nil=>grind
   | cons a r=>obtain ⟨o,B,H,S⟩:=(J a (List.mem_cons_self ..)).2.2;refine ⟨o,B,by omega,λM=> ?_⟩;grind
 ·obtain ⟨y,f1,f2,f3⟩:=sK m b8;have J:=b7 r _ y (g b8) f1 i l L;refine ⟨Yp λz U=> ?_,λd0=> ?_,λw G=> ?_⟩
  ·obtain ⟨w,G,rfl⟩:=List.mem_map.1 U;obtain ⟨C,b,D⟩:=(sN m).1 (J w G).2.1;have N:=b5 w.proc.toNat _ (g b);rw [show ((w.proc.toNat:Nat):Int)=w.proc by omega] at N;have T:tw w.proc l<=me w.proc ((bW t).proc r):=xy (List.mem_of_getElem? L);have O:me w.proc ((bW t).proc r)<=(t.procs.map (me w.proc)).sum:=xy (List.mem_of_getElem? (g b8));rw [uM] at T;split at N<;>omega
  ·cases d3:l.waiters with
   | nil=>grind
   | cons a ws=>obtain ⟨B,_,S,e4,_⟩:=J a (by grind);exact ⟨by omega,.inl (cQ.2 S),e4⟩
  ·obtain ⟨B,H,_,_,e5⟩:=J w G;obtain ⟨C,b,D⟩:=(sN m).1 H;obtain ⟨n,Z,g2,g3,g4,g5⟩:=b0 e5 b;exact ⟨C,b,D,λh=>h,.inr ⟨g2,n,Z,g3,by simp [eR,List.getD,g4],by simp [eR,List.getD,g5]⟩⟩
 ·have T:=b5 p _ (g F);rw [if_pos (.inl N)] at T;have O:(t.procs.map (me (p:Int))).sum=0:=by
   rw [List.sum_eq_zero_iff_forall_eq_nat];intro y hy;obtain ⟨x,P,rfl⟩:=List.mem_map.1 hy;obtain ⟨j,u,K⟩:=List.getElem_of_mem P;have v:j<nQ c:=by have:t.procs.length=nQ c:=hq;omega
   have e:x=(bW t).proc j:=by have A:=g v;rw [List.getElem?_eq_getElem u,K] at A;exact Option.some.inj A
   subst e;refine AL λl L w G ew=> ?_;obtain ⟨i,d,V⟩:=List.getElem_of_mem L;have:=c8 p F j v i l (by rw [List.getElem?_eq_getElem d,V]) w G ew;omega
  have E:(t.parts.map (mf (p:Int))).sum≠0:=by omega
  obtain ⟨x,P,b9⟩:=wJ E;obtain ⟨j,u,K⟩:=List.getElem_of_mem P;have v:j<nP c:=by have:t.parts.length=nP c:=hp;omega
  have e:x=(bW t).part j:=by have A:=I v;rw [List.getElem?_eq_getElem u,K] at A;exact Option.some.inj A
  subst e;obtain ⟨q,X,d1⟩:=wJ b9;obtain ⟨k,hk,V⟩:=List.getElem_of_mem X;have W:((bW t).part j).an[k]? =some q:=by rw [List.getElem?_eq_getElem hk,V]
  have M:(p:Int)∈q:=Classical.byContradiction λhn=>d1 (CL hn);have h7:=((sN m).1 (b6 j _ (I v) k q W _ M).1).2.2;rw [Int.toNat_natCast] at h7;grind
 ·have T:=b5 p _ (g F);rw [if_pos (.inr h2)] at T;have O:(t.parts.map (mf (p:Int))).sum=0:=by
   rw [List.sum_eq_zero_iff_forall_eq_nat];intro y hy;obtain ⟨x,P,rfl⟩:=List.mem_map.1 hy;obtain ⟨j,u,K⟩:=List.getElem_of_mem P;have v:j<nP c:=by have:t.parts.length=nP c:=hp;omega
   have e:x=(bW t).part j:=by have A:=I v;rw [List.getElem?_eq_getElem u,K] at A;exact Option.some.inj A
   subst e;refine AK λq X M=> ?_;have:=c7 p F j v q X M;omega
  have E:(t.procs.map (me (p:Int))).sum≠0:=by omega
  obtain ⟨x,P,b9⟩:=wJ E;obtain ⟨j,u,K⟩:=List.getElem_of_mem P;have v:j<nQ c:=by have:t.procs.length=nQ c:=hq;omega
  have e:x=(bW t).proc j:=by have A:=g v;rw [List.getElem?_eq_getElem u,K] at A;exact Option.some.inj A
  subst e;obtain ⟨l,c9,c0⟩:=wJ b9;obtain ⟨i,d,V⟩:=List.getElem_of_mem c9;have W:((bW t).proc j).ah[i]? =some l:=by rw [List.getElem?_eq_getElem d,V]
  rw [uM] at c0;have M:(p:Int)∈l.waiters.map (·.proc):=Classical.byContradiction λhn=>c0 (CL hn);obtain ⟨w,G,e⟩:=List.mem_map.1 M;obtain ⟨y,f1,f2,f3⟩:=sK m v;have h7:=((sN m).1 (b7 j _ y (g v) f1 i l W w G).2.1).2.2;rw [e,Int.toNat_natCast] at h7;grind
end
def pR (a c k:Hp):Hp:=λb=>match a b with | some d=>some d | none=>if c b=none then k b else none
theorem He {a d k:Hp} {b:Nat} {c:Obj} (e:a b=some c):pR a d k b=some c:=by unfold pR;rw [e]
theorem Ag {a c k:Hp} {b:Nat} (e:a b=none):pR a c k b=if c b=none then k b else none:=by unfold pR;rw [e]
theorem Ul {P:Program} {g:FuncId} {args:List Value} {l K:Value->Hp->Prop} {f k:Hp} {A:dg} (o:Has f A k) (q:qZ P g args l f) (r:∀v c p,l v c->Has c A p->K v p):qZ P g args K k:=by
 intro w h;refine (q w (h.mono o.le)).mono ?_;rintro e y ⟨v,c,rfl,t,st⟩;obtain ⟨s,F,a,m⟩:=o;have key:∀b,F b->c b=none/\y.heap[b]? =w.heap[b]?:=λb hb=>by
  cases e:k b with
  | none=>exact absurd e (A.known a b hb)
  | some j=>have:=st.cv b (h.lt e) (m b hb);grind
 refine ⟨v,pR c f k,rfl,r v c _ t ⟨λb j e=>He e,F,A.same a λb hb=> ?_,λb hb=>(key b hb).1⟩,?_⟩
 ·rw [Ag (key b hb).1,if_pos (m b hb)]
 ·refine ⟨λb j e=> ?_,st.size,λb hb n=> ?_,st.os,st.tape,st.output⟩
  ·cases i:c b with
   | some z=>rw [He i] at e;cases e;exact st.sub b _ i
   | none=>
    rw [Ag i] at e;by_cases d:f b=none
    ·rw [if_pos d] at e;rw [(st.cv b (h.lt e) d).1];exact h b j e
    grind
  ·have d:f b=none:=uK s n;obtain ⟨u,x⟩:=st.cv b hb d;exact ⟨u,by rw [Ag x,if_pos d];exact n⟩
theorem Ah {P:Program} {g:FuncId} {args:List Value} {sh:Shape} {K0 K:sh.T->Hp->Prop} {c k:Hp} {A:dg} (o:Has c A k) (d:aa P g args sh K0 c) (f:∀x a b,K0 x a->Has a A b->K x b):aa P g args sh K k:=
 Ul o d λ_ a b ⟨x,e,h⟩ i=>⟨x,e,f x a b h i⟩
theorem Hf {P:Program} {g:FuncId} {args:List Value} {s1 s2 s3:Shape} {K0 K:s1.T->s2.T->s3.T->Hp->Prop} {c k:Hp} {A:dg} (o:Has c A k) (d:gB P g args s1 s2 s3 K0 c) (e:∀x y z a b,K0 x y z a->Has a A b->K x y z b):gB P g args s1 s2 s3 K k:=
 Ah o d λp a b h f=>e p.1 p.2.1 p.2.2 a b h f
theorem sk {c:bg} (h:(iL c).1=0):cc c:=by obtain ⟨e,f,g,j,k,l,d,m,n,q,b⟩:=nZ.1 h;obtain ⟨p,r,s⟩:=j3.1 e;have:=List.length_pos_iff.2 p;have:=List.length_pos_iff.2 n;refine ⟨⟨by unfold nP;omega,by unfold nP;omega⟩,⟨f,g,λi o=>by have:=j i o;unfold nP;omega⟩,k,l,d,m,⟨by unfold nQ;omega,by unfold nQ;omega⟩,λy a=>by have:=(b y a).1;unfold nP;omega,λy a=>(TZ d).1 (b y a).2⟩
section
variable {h0 k:Hp}
theorem Has.DN {a e:Type} {sz:Nat} {enc:a->List Value} {c:e->List Value} {l:Sl} {d:List a} (f:a->e) (t:∀x,enc x=c (f x)) (o:Has h0 (dC sz enc l d) k):Has h0 (dC sz c l (d.map f)) k:=by refine o.map λu F h=> ?_;obtain ⟨s,q,r⟩:=h;refine ⟨by grind,q,r.imp id ?_⟩;rintro ⟨b,off,g,i,j,m,n,p⟩;refine ⟨b,off,g,i,j,m,n,by rw [p,List.flatMap_map];congr 1;grind⟩
theorem F9 {h:Hp} {t:Sl} {a:List Int} {n:Int} {Q:Option Addr->Int->Int->Hp->Prop} (r:Is h t a) (F:1<=n) (H:n<=8) (B:a≠ []) (J:a.length<=64) (I:∀x∈a,0<=x/\x<n)
  (D:∀p i s c,h<=c->aT c p [s.v,.int .i64 n]->Is c s a->Q (some p) 0 i c):Ii prog t n Q h:=by
 unfold Ii;have L:=r.1;have M:0<a.length:=List.length_pos_iff.2 B;intro b ty A;have l:=kP (o:=.cells (#[Value.int .i64 n]) ty (0,0)) A;have d:aT (h.set b (.cells (#[Value.int .i64 n]) ty (0,0))) ⟨b,0,none⟩ [.int .i64 n]:=xk (cs:=[Value.int .i64 n]);refine gF (sh:=ae .i64) n d ?_;refine ⟨n,λ_=>d,?_⟩;refine aI (aI ?_);rw [if_neg (by simp;omega),if_neg (by simp;omega)];have y:(a.any λx=>decide (x<0) || decide (x>=n))=false:=by grind
 refine W4 (f:=⟨Hm, #[], #[.pointer (some ⟨b,0,none⟩)]⟩) (FY (p:=λx=>decide (x<0) || decide (x>=n)) (Rw.mono l r) (by omega) (λx _ k K m w=> ?_) λi c j z=> ?_)
 ·refine Bb (g:=Hm) rfl (X3 ?_);unfold TE;refine ⟨n,λ_=>om m d,aI (w k m)⟩
 ·dsimp only;rw [y] at z;rw [if_neg (λe=>by grind)];refine gF (sh:=ae .i64) n (om j d) ?_;refine Ku ?_;unfold Cu;refine vr (enc:=λx:Int=>aY ((ae .i64).enc x)) (bK.bE 23 qT rfl) (Rw.mono (Hp.le_trans l j) r) (by decide) (λ_=>rfl) (λ_=>rfl) rfl ⟨by omega,by omega⟩ λout G q C=> ?_;refine ⟨⟨om (Hp.le_trans j q) d,trivial⟩,?_⟩;intro E t2 u;exact D _ _ out _ (Hp.le_trans (Hp.le_trans l j) (Hp.le_trans q (kP u))) (xk (cs:=[out.v,.int .i64 n])) (Rw.mono (kP u) (C.nf λ_=>rfl))
abbrev q9 (R F G S T U:dg):dg:=(R.star (F.star G)).star (S.star (T.star U))
variable {R F G S T U:dg}
theorem Has.sR (o:Has h0 (q9 R F G S T U) k):∃d,h0<=d/\Has d R k/\∀e f,Has d e f->Has h0 (q9 e F G S T U) f:=by obtain ⟨d,a,b,_,c⟩:=o.fst;obtain ⟨i,a2,g,h⟩:=b.f1;exact ⟨i,Hp.le_trans a a2,g,λ_ _ j=>c _ _ (h _ _ j)⟩
theorem Has.sF (o:Has h0 (q9 R F G S T U) k):∃d,h0<=d/\Has d F k/\∀e f,Has d e f->Has h0 (q9 R e G S T U) f:=by obtain ⟨d,a,b,_,c⟩:=o.fst;obtain ⟨i,a2,g,h⟩:=b.f2;exact ⟨i,Hp.le_trans a a2,g,λ_ _ j=>c _ _ (h _ _ j)⟩
theorem Has.sG (o:Has h0 (q9 R F G S T U) k):∃d,h0<=d/\Has d G k/\∀e f,Has d e f->Has h0 (q9 R F e S T U) f:=by obtain ⟨d,a,b,_,c⟩:=o.fst;obtain ⟨i,a2,g,h⟩:=b.f3;exact ⟨i,Hp.le_trans a a2,g,λ_ _ j=>c _ _ (h _ _ j)⟩
theorem Has.sS (o:Has h0 (q9 R F G S T U) k):∃d,h0<=d/\Has d S k/\∀e f,Has d e f->Has h0 (q9 R F G e T U) f:=by obtain ⟨d,a,b,_,c⟩:=o.snd;obtain ⟨i,a2,g,h⟩:=b.f1;exact ⟨i,Hp.le_trans a a2,g,λ_ _ j=>c _ _ (h _ _ j)⟩
theorem Has.sT (o:Has h0 (q9 R F G S T U) k):∃d,h0<=d/\Has d T k/\∀e f,Has d e f->Has h0 (q9 R F G S e U) f:=by obtain ⟨d,a,b,_,c⟩:=o.snd;obtain ⟨i,a2,g,h⟩:=b.f2;exact ⟨i,Hp.le_trans a a2,g,λ_ _ j=>c _ _ (h _ _ j)⟩
theorem Has.sU (o:Has h0 (q9 R F G S T U) k):∃d,h0<=d/\Has d U k/\∀e f,Has d e f->Has h0 (q9 R F G S T e) f:=by obtain ⟨d,a,b,_,c⟩:=o.snd;obtain ⟨i,a2,g,h⟩:=b.f3;exact ⟨i,Hp.le_trans a a2,g,λ_ _ j=>c _ _ (h _ _ j)⟩
def jJ (q:Addr) (own:Sl) (n:Nat) (y:dx) (b:Nat->Int):dg:=.some_ λx:aV=>.some_ λlp:Addr=>.some_ λa:Addr=>
 ((dd vk q x).star ((dC 3 Di x.log y.log).star ((ma lp y.ax y.an).star (qY a b (2*n))))).star (.fact (x.procs=own/\x.af=y.af/\x.lost=y.lost/\x.forbidden=y.forbidden/\x.ai=some lp/\x.dz=some a))
def nV (q:Addr) (p i:Nat) (code:Sl) (room:Int) (y:ak):dg:=.some_ λz:aF=>.some_ λa:Addr=>
 ((dd aX q z).star (dy a room y.ah y.af)).star (.fact (z.df=(p:Int)/\z.part=(i:Int)/\z.code=code/\z.state=y.state/\fR (dG z)=y.core/\z.bN=y.bN/\z.post=some a))
theorem Has.zj {q lp a:Addr} {x:aV} {n:Nat} {y:dx} {b:Nat->Int} (o:Has h0 ((((ma lp y.ax y.an).star (dC 3 Di x.log y.log)).star (qY a b (2*n))).star (dd vk q x)) k)
  (e:x.af=y.af/\x.lost=y.lost/\x.forbidden=y.forbidden/\x.ai=some lp/\x.dz=some a):Has h0 (jJ q x.procs n y b) k:=by
 refine Has.ex.2 ⟨x,Has.ex.2 ⟨lp,Has.ex.2 ⟨a,Has.eB ?_ ⟨rfl,e⟩⟩⟩⟩;refine o.map λc F h=> ?_;exact CP (λ_ h=>h) (λ_ h=>Ln (CP (λ_ h=>CO h) (λ_ h=>h) h)) (CO h)
theorem Has.zk {q a:Addr} {z:aF} {room:Int} {p i:Nat} {y:ak} (o:Has h0 ((dy a room y.ah y.af).star (dd aX q z)) k)
  (e:z.df=(p:Int)/\z.part=(i:Int)/\z.state=y.state/\fR (dG z)=y.core/\z.bN=y.bN/\z.post=some a):Has h0 (nV q p i z.code room y) k:=
 Has.ex.2 ⟨z,Has.ex.2 ⟨a,Has.eB o.comm ⟨e.1,e.2.1,rfl,e.2.2⟩⟩⟩
theorem Ia {q:Addr} {own:Sl} {n id:Nat} {y:dx} {a:Nat->Int} {v:Int} {g:FuncId} {args:List Value} {K:Hp->Prop} (o:Has h0 (jJ q own n y a) k) (B:n<=1000) (hid:id<2*n) (C:a id=0) (hv:0<=v)
  (m:∀ {Q:Int->Hp->Prop},Q (id:Int) k->aa prog g args (ae .i64) Q k) (c:∀b,Has h0 (jJ q own n y (cn a id v)) b->K b):
  (if (decide (v>(0:Int)))=true then
 ag none (some q) λf=>
 aQ none aj k (Addr.add f 6) λi=>
 aa prog g args (ae .i64) (λu d=>
 (((aT d (Addr.add f 6) [(.pointer i)])/\(True/\True))/\aa prog vj [(.pointer i),(.int .i64 u),(.int .i64 v)] (ae .i64) (λH l=>
 K l) d)) k
 else
 K k):=by
 by_cases h:v>0
 ·rw [if_pos (decide_eq_true h)];obtain ⟨x,o⟩:=Has.ex.1 o;obtain ⟨lp,o⟩:=Has.ex.1 o;obtain ⟨w,o⟩:=Has.ex.1 o;obtain ⟨o,e⟩:=o.iC;refine aK ((Has.left o).ld (shf:=aj) x.dz rfl ?_);refine m ⟨⟨(Has.left o).dQ (off:=6) (n:=1) (vs:=[.pointer x.dz]) rfl,trivial,trivial⟩,?_⟩;obtain ⟨z,D,r,_,put⟩:=o.snd;obtain ⟨A,E,s,t⟩:=r.f3;rw [e.2.2.2.2.2];refine Q0 (Bg s (by omega) hid h λb p=>c b ?_);exact Has.ex.2 ⟨x,Has.ex.2 ⟨lp,Has.ex.2 ⟨w,(put _ _ (t _ _ p)).eB e⟩⟩⟩
 ·rw [if_neg (by simpa using h)];have:v=0:=by omega
  subst this;rw [show cn a id 0=a from funext λj=>by unfold cn;split<;>simp_all] at c;exact c k o
def xX (c:bg) (i j:Nat):List Nat:=(List.range j).filter λq=>decide (az c q=i)
theorem Js {c:bg} {i j:Nat}:xX c i (j+1)=if az c j=i then xX c i j++ [j] else xX c i j:=by unfold xX;rw [List.range_succ,List.filter_append];grind
end
theorem tD {len:Int} {n:Nat} (l:len=(n:Int)) (hb:n<=4611686018427387904) (I:Nat->Hp->Prop) {B:(Int->Hp->Prop)->Int->Hp->Prop} {X:Int->Hp->Prop} {b:Hp} (d:I 0 b)
  (g:∀i:Nat,i<n->∀h,I i h->∀K:Int->Hp->Prop,(∀a,I (i+1) a->K (yw ((i:Int)+1)) a)->B K (i:Int) h) (m:∀h,I n h->X (n:Int) h):
  ay (λc t h=>if decide (t<len)=true then B c t h else X t h) (0:Int) b:=by
 refine ay.intro (λt h=>∃i:Nat,t=(i:Int)/\i<=n/\I i h) (λt _=>(len-t).toNat) ⟨0,rfl,by omega,d⟩ ?_;rintro t h ⟨i,rfl,k,e⟩;by_cases f:i<n
 ·rw [if_pos (gI)];refine g i f h e _ λa j=> ?_;rw [aH];grind
 grind
section
end
theorem Ib {a:Type} {l:List a} {i:Nat} {x:a} (h:l[i]? =some x):l.drop i=x::l.drop (i+1):=by obtain ⟨b,rfl⟩:=List.getElem?_eq_some_iff.1 h;simp
section
end
def yJ (c:bg) (s:ij):Prop:=sZ c s λ(i:Nat) q=>fl c.labels (i:Int) q=true
section
variable {P:Program} {h:Hp}
theorem pQ {a:Type} {v:a} {A:(a->Hp->Prop)->Prop} {B:a->Hp->Prop} (c:∀k:a->Hp->Prop,k v h->A k) (d:B v h):bL A B:=bL.intro (λx b=>x=v/\b=h) (c _ ⟨rfl,rfl⟩) (by grind)
def Cf (op:Int) (k:Bool->Hp->Prop) (h:Hp):List Int->Prop
 | []=>True
 | [a]=>k (op==a) h
 | a::b::r=>if (op==a)=true then k (op==a) h else Cf op k h (b::r)
theorem CW {op:Int} {k:Bool->Hp->Prop}:∀l:List Int,l≠ []->k (decide (op∈l)) h->Cf op k h l
 | [],d,_=>absurd rfl d
 | [a],_,c=>by
  have:(op==a)=decide (op∈ [a]):=by grind
  show k (op==a) h;grind
 | a::b::r,_,c=>by
  show if (op==a)=true then k (op==a) h else Cf op k h (b::r)
  by_cases e:op=a
  ·grind
  ·rw [if_neg (by simpa using e)];refine CW (b::r) (by simp) ?_;grind
theorem R0 {op:Int} {Q:Bool->Bool->Bool->Bool->Hp->Prop} (a:Q (jE op).1 (jE op).2.1 (jE op).2.2.1 (jE op).2.2.2 h):P0 P op Q h:=by
 unfold P0;unfold jE at a;by_cases f:op=1
 ·grind
 rw [if_neg f] at a;rw [if_neg (by simpa using f)];refine pQ (h:=h) (v:=decide (op∈ [2,20,21,25,26])) (λk b=>CW [2,20,21,25,26] (by simp) b) ?_;by_cases g:op∈ [2,20,21,25,26]
 ·grind
 rw [if_neg (λe=>g (of_decide_eq_true e))];rw [if_neg (by simpa using g)] at a;refine pQ (h:=h) (v:=decide (op∈ [3,4,5,6,7,8,9,10,11,12,13,14])) (λk b=>CW [3,4,5,6,7,8,9,10,11,12,13,14] (by simp) b) ?_;by_cases c:op∈ [3,4,5,6,7,8,9,10,11,12,13,14]
 ·rw [if_pos (decide_eq_true c)];rw [if_pos (Or.inl (by simp at c;omega))] at a;exact a
 rw [if_neg (λe=>c (of_decide_eq_true e))];refine pQ (h:=h) (v:=decide (op∈ [15,16,17,18,19,24])) (λk b=>CW [15,16,17,18,19,24] (by simp) b) ?_;by_cases d:op∈ [15,16,17,18,19,24]
 ·rw [if_pos (decide_eq_true d)];rw [if_pos (Or.inr (by simp at d;omega))] at a;exact a
 rw [if_neg (λe=>d (of_decide_eq_true e))];rw [if_neg (by simp at c d;omega)] at a;refine pQ (h:=h) (v:=decide (op∈ [22,29,30])) (λk b=>CW [22,29,30] (by simp) b) ?_;by_cases i:op∈ [22,29,30]
 ·grind
 rw [if_neg (λe=>i (of_decide_eq_true e))];rw [if_neg (by simpa using i)] at a;by_cases j:op=23
 ·grind
 rw [if_neg j] at a;rw [if_neg (by simpa using j)];refine pQ (h:=h) (v:=decide (op∈ [27,28,31,32,33])) (λk b=>CW [27,28,31,32,33] (by simp) b) ?_;grind
theorem Tl {has:Bool} {n:Int} {Q:Int->Hp->Prop} (a:Q (fk has n) h):OZ P n has Q h:=by
 unfold OZ;unfold fk at a;refine aI ?_;by_cases b:has=false/\n≠0
 ·grind
 rw [if_neg b] at a;rw [if_neg (by grind)];refine aI (aI ?_);grind
theorem S2 {x:bc} {n ai:Int} {Q:Int->Int->Hp->Prop} (a:Q (lz (bA x) n ai).1 (lz (bA x) n ai).2 h):QB prog x n ai Q h:=by
 obtain ⟨o,A,B,C,I⟩:=x;have a:Q (lz ⟨o,A,B,C,I⟩ n ai).1 (lz ⟨o,A,B,C,I⟩ n ai).2 h:=a;unfold QB;unfold lz at a;refine aI ?_;by_cases e:o<0\/34<=o
 ·grind
 rw [if_neg e] at a;rw [if_neg (by simp;omega)];refine Y4 (R0 ?_);dsimp only;refine On (Tl ?_);by_cases b:fk (jE o).1 A≠0
 ·grind
 rw [if_neg b] at a;rw [if_neg (by simpa using b)];refine On (Tl ?_);by_cases c:fk (jE o).2.1 B≠0
 ·grind
 rw [if_neg c] at a;rw [if_neg (by simpa using c)];refine On (Tl ?_);by_cases d:fk (jE o).2.2.1 C≠0
 ·grind
 rw [if_neg d] at a;rw [if_neg (by simpa using d)];refine aI ?_;by_cases f:(jE o).2.2.2=false/\I≠0
 ·grind
 rw [if_neg f] at a;rw [if_neg (by grind)];refine aI (aI (aI ?_));by_cases g:(o=22\/o=23)/\(I<0\/n<I)
 ·grind
 rw [if_neg g] at a;rw [if_neg (by grind)];refine aI (aI (aI ?_));grind
theorem S3 {x:bc} {n ai:Int} {Q:Int->Hp->Prop} (a:Q (lz (bA x) n ai).1 h):Qx prog x n ai Q h:=by unfold Qx;exact Zc (S2 a)
theorem Rk {l:Sl} {a:List bc} {ai:Int} {Q:Int->Int->Hp->Prop} (r:ny h l a) (b:∀at_,Q (iM (a.map bA) ai).1 at_ h):QT prog l ai Q h:=by
 unfold QT;have p:l.len=a.length:=r.1;unfold iM at b;rw [List.length_map] at b;refine aI ?_;by_cases f:ai<0\/8<ai
 ·grind
 rw [if_neg f] at b;rw [if_neg (by simp;omega)];by_cases g:256<a.length
 ·grind
 rw [if_neg g] at b;rw [if_neg (by simp;omega)];refine tD (n:=a.length) (by omega) (by omega) (λi e=>e=h/\(jm (a.length:Int) ai ((a.map bA).drop i) i).1=(jm (a.length:Int) ai (a.map bA) 0).1) ⟨rfl,rfl⟩ ?_ ?_
 ·rintro i o k ⟨rfl,c⟩ K m;refine s9 (sh:=be) r λx d=> ?_;have d:a[i]? =some x:=d;have j:(a.map bA).drop i=bA x::(a.map bA).drop (i+1):=Ib (by grind);rw [j,jm] at c;refine Y9 (S3 ?_);grind
 ·rintro k ⟨rfl,c⟩;rw [List.drop_of_length_le (by simp),jm] at c;grind
theorem CF {n a b:Int} {Q:Bool->Hp->Prop} (c:Q (iV n a b) h):PM P n a b Q h:=by unfold PM;exact aI c
end
section
variable {h:Hp}
theorem R3 {l:Sl} {a:List Int} {n:Nat} {Q:Int->Hp->Prop} (r:Is h l a) (t:n<=8) (f:Q (if a=[] then 1 else if 64<a.length then 3 else if (a.all λp=>iV p 0 ((n:Int)-1))=false then 2 else 0) h):PK prog l (n:Int) Q h:=by
 unfold PK;have s:l.len=a.length:=r.1;by_cases c:a=[]
 ·grind
 rw [if_neg c] at f;have hp:=List.length_pos_iff.2 c;rw [if_neg (by grind)];by_cases d:64<a.length
 ·grind
 rw [if_neg d] at f;rw [if_neg (λe=>d (by grind))];rw [wrap64 (n:=(n:Int)-1) (by omega) (by omega)];refine tD (n:=a.length) (by omega) (by omega) (λi j=>j=h/\∀x∈a.take i,iV x 0 ((n:Int)-1)=true) ⟨rfl,λx b=>by simp at b⟩ ?_ ?_
 ·rintro i q k ⟨rfl,o⟩ K m;refine s9 (sh:=ae .i64) r λ(x:Int) b=> ?_;have b:a[i]? =some x:=b;refine Cs (CF ?_);by_cases g:iV x 0 ((n:Int)-1)=true
  ·rw [if_neg (by rw [g];simp)];refine m k ⟨rfl,λy hy=> ?_⟩;rw [List.take_add_one,b] at hy;rcases List.mem_append.1 hy with hy | hy
   ·exact o y hy
   ·have:y=x:=by simpa using hy
    rw [this];exact g
  grind
 grind
theorem VX {P:Program} {l:Sl} {a:List Int} {Q:Int->Int->Hp->Prop} (r:Us h l a) (b:Q (iQ a).1 (iQ a).2 h):Xz P l Q h:=BD (P:=P) r b
theorem Nk (a b c d:Bool) {i:Nat} (e:i<4):List.get?Internal (α:=Value) [.bool a,.bool b,.bool c,.bool d] (0+(i*1))=some (.bool (([a,b,c,d]:List Bool).getD i false)):=by
 match i,e with
 | 0,_=>rfl
 | 1,_=>rfl
 | 2,_=>rfl
 | 3,_=>rfl
theorem R5 {x:aw} {c:bg} {Q:Int->Int->Hp->Prop} (a:eu h x c) (b:∀at_,Q (iL c).1 at_ h):QS prog x Q h:=by
 unfold QS;have D:x.aN.len=c.labels.length:=a.labels.1;unfold iL rW at b;refine Zk (VX a.labels ?_);dsimp only;by_cases l:(iQ c.labels).1≠0
 ·grind
 rw [if_neg l] at b;rw [if_neg (by simpa using l)];obtain ⟨R,C,_⟩:=j3.1 (Classical.not_not.1 l);rw [D];refine Y0 (R3 a.table C ?_);by_cases v:c.table=[]
 ·grind
 rw [if_neg v] at b ⊢;by_cases w:64<c.table.length
 ·grind
 rw [if_neg w] at b ⊢;by_cases y:(c.table.all λp=>iV p 0 (c.labels.length-1))=false
 ·grind
 rw [if_neg y] at b ⊢;rw [ry];refine Cs (CF ⟨⟨trivial,trivial,trivial,trivial⟩,Cs (CF ⟨⟨trivial,trivial,trivial⟩,Cs (CF ⟨⟨trivial,trivial⟩,Cs (CF ?_)⟩)⟩)⟩);rw [a.fuel,a.lane,a.ai,a.log];refine tD (n:=4) rfl (by omega) (λi u=>u=h/\(1<=i->iV c.fuel 1 256=true)/\(2<=i->iV c.lane 1 64=true)/\(3<=i->iV c.ai 0 8=true)/\(4<=i->iV c.log 0 4096=true)) ⟨rfl,λe=>by omega,λe=>by omega,λe=>by omega,λe=>by omega⟩ ?_ ?_
 ·rintro i t k ⟨rfl,L,M,N,O⟩ K A;refine ⟨⟨by omega,by omega⟩,_,Nk _ _ _ _ t,?_⟩;grind
 ·rintro k ⟨rfl,L,M,N,O⟩;rw [if_neg (by grind),if_neg (by grind),if_neg (by grind),if_neg (by grind)] at b;obtain ⟨j,m,s⟩:=a.procs;have S:x.aM.len=j.length:=m.1;have T:=s.len;by_cases o:c.procs=[]
  ·grind
  rw [if_neg o] at b;have V:0<c.procs.length:=List.length_pos_iff.2 o;rw [if_neg (by grind)];by_cases r:32<c.procs.length
  ·grind
  rw [if_neg r] at b;rw [if_neg (λe=>r (by grind))];refine tD (n:=j.length) (by omega) (by omega) (λi G=>G=k/\(rR c.labels.length c.ai (c.procs.drop i) i).1=(rR c.labels.length c.ai c.procs 0).1) ⟨rfl,rfl⟩ ?_ ?_
  ·rintro i t H ⟨rfl,d⟩ K A;refine Rw.vc m (λ_=>rfl) (by omega) (sh:=ae .i64) (λq=>q.Part) (λ_=>rfl) (by omega) (by omega) λq g=> ?_;have g:j[i]? =some q:=g;obtain ⟨I,E,F,W,B,U⟩:=s.get g;rw [Ib E,rR] at d;rw [wrap64 (n:=(c.labels.length:Int)-1) (by omega) (by omega)];refine Cs (CF ?_);rw [F];by_cases z:iV I.part 0 ((c.labels.length:Int)-1)=false
   ·grind
   rw [if_neg z] at d;rw [if_neg (by grind)];refine Rw.vc m (λ_=>rfl) (by omega) (sh:=al) (λq=>q.Code) (λ_=>rfl) (by omega) (by omega) λJ f=> ?_;have f:j[i]? =some J:=f;rw [g] at f;cases f;refine Zl (Rk B λP=> ?_);grind
  ·rintro H ⟨rfl,d⟩;rw [List.drop_of_length_le (by omega),rR] at d;grind
theorem Ic {a n:Int} {Q:Bool->Hp->Prop} (d:nx a) (b:0<=n) (c:n<=63) (f:Q (bit a n.toNat) h):QY prog a n Q h:=by
 unfold QY;refine aI ⟨λ_=>b,aI ?_⟩;have e:(decide (n>=0)&&decide (n<=63))=true:=by simp;omega
 rw [e,NS d b c,Bool.true_and];exact f
theorem S4 {a b:Int} {Q:Bool->Hp->Prop} (i:nx a) (hb:nx b) (r:Q (gX a b) h):Qu prog a b Q h:=by
 unfold Qu;refine tD (n:=64) rfl (by omega) (λn k=>k=h/\∀m:Nat,m<n->bit a m=true->bit b m=true) ⟨rfl,λm c=>by omega⟩ ?_ ?_
 ·rintro n l k ⟨rfl,d⟩ K g;refine Xl (Ic i (by omega) (by omega) ?_);have o:(bit a n=true->bit b n=true)->K (yw ((n:Int)+1)) k:=λq=>g k ⟨rfl,λm c=>by
   grind⟩
  rw [show ((n:Int)).toNat=n from rfl];cases f:bit a n with
  | false=>refine ⟨λe=>(by cases e),λ_=>⟨false,aI ?_⟩⟩;grind
  | true=>
   refine ⟨λ_=>Xl (Ic hb (by omega) (by omega) (aI ?_)),λe=>(by cases e)⟩;rw [show ((n:Int)).toNat=n from rfl];cases p:bit b n with
   | false=>
    rw [if_pos (by simp)];have:gX a b=false:=by refine Bool.eq_false_iff.2 λj=> ?_;have:=jZ.1 j n l f;grind
    grind
   | true=>grind
 ·rintro k ⟨rfl,d⟩;have:gX a b=true:=jZ.2 λm c=>d m c;grind
end
section
variable {h:Hp}
def iH (a:Int):Prop:=0<=a/\a<=9223372036854775807
theorem pv {a b:Int} (c:iH a) (hb:iH b):iH (fV a b):=NY c.1 hb.1
theorem sm {a b:Int} (c:iH a) (hb:iH b):iH (lN a b):=NZ c.1 hb.1
theorem CC {a b:Int} {Q:Int->Hp->Prop} (f:iH a) (hb:iH b) (c:Q (fV a b) h):Tw prog a b Q h:=by
 unfold Tw;obtain ⟨n,rfl⟩:=Int.eq_ofNat_of_zero_le f.1;obtain ⟨m,rfl⟩:=Int.eq_ofNat_of_zero_le hb.1;have a2:=f.2;have j:=hb.2;have g:IntKind.wrap .u64 (n:Int)=(n:Int):=by rw [Kb];omega
 have i:IntKind.wrap .u64 (m:Int)=(m:Int):=by rw [Kb];omega
 rw [g,i];refine XB (Vb (by omega) (by omega) ?_);refine aI ?_;have hp:(n:Int)*m=((n*m:Nat):Int):=by norm_cast
 have key:((decide (((n*m / 18446744073709551616:Nat):Int)>0)) || (decide (((n*m%18446744073709551616:Nat):Int)>9223372036854775807)))=decide (((n*m:Nat):Int)>9223372036854775807):=by generalize n*m=z;rw [<-Bool.decide_or];exact decide_eq_decide.2 (by omega)
 rw [key];unfold fV jV at c;rw [hp] at c;by_cases d:((n*m:Nat):Int)>9223372036854775807
 ·rw [if_pos d] at c;rw [if_pos (decide_eq_true d)];exact c
 ·rw [if_neg d] at c;rw [if_neg (λe=>d (of_decide_eq_true e))];have:((n*m%18446744073709551616:Nat):Int)=((n*m:Nat):Int):=by omega
  rw [this,aH];exact c
theorem U6 {P:Program} {a b:Int} {Q:Int->Hp->Prop} (f:iH a) (hb:iH b) (c:Q (lN a b) h):UE P a b Q h:=by
 unfold UE;have a1:=f.1;have a2:=f.2;have g:=hb.1;have i:=hb.2;rw [aH];unfold lN jV at c;by_cases d:a+b>9223372036854775807
 ·rw [if_pos d] at c;rw [if_pos (gI)];exact c
 ·rw [if_neg d] at c;rw [if_neg (λe=>d (by have:=of_decide_eq_true e;omega)),aH];exact c
theorem CJ {P:Program} {a b:Int} {Q:Int->Hp->Prop} (j:iH a) (hb:iH b) (c:Q (fV a b) h):Qv P a b Q h:=by
 unfold Qv;have a1:=j.1;have a2:=j.2;have g:=hb.1;have n:=hb.2;refine aI ?_;unfold fV jV at c;by_cases i:a=0\/b=0
 ·rw [if_pos (by rcases i with e | e<;>simp [e])];have m:a*b=0:=by rcases i with e | e<;>rw [e]<;>simp
  rw [m,if_neg (by omega)] at c;exact c
 ·rw [if_neg (by simp;omega)];refine ⟨by omega,?_⟩;have e:Int.tdiv 9223372036854775807 b=9223372036854775807 / b:=Int.tdiv_eq_ediv_of_nonneg (by omega);have k:0<=9223372036854775807 / b:=Int.ediv_nonneg (by omega) g;have l:9223372036854775807 / b<=9223372036854775807:=Int.ediv_le_self _ (by omega);have f:9223372036854775807 / b<a↔9223372036854775807<a*b:=Int.ediv_lt_iff_lt_mul (by omega);rw [e];generalize 9223372036854775807 / b=q at k l f ⊢;rw [aH];have o:0<=a*b:=Int.mul_nonneg a1 g;by_cases d:a*b>9223372036854775807
  ·rw [if_pos d] at c;rw [if_pos (decide_eq_true (f.2 d))];exact c
  ·rw [if_neg d] at c;rw [if_neg (λe=>d (f.1 (of_decide_eq_true e))),aH];exact c
theorem Hg {P:Program} {a b:Int} {Q:Int->Hp->Prop} (c:iH a) (hb:iH b) (d:Q (lN a b) h):Xw P a b Q h:=U6 (P:=P) c hb d
def xz (fuel n9 a:Int):Int:=fV (a / fuel+if a%fuel>0 then 1 else 0) n9
theorem Jt {fuel a:Int} (e:1<=fuel) (b:iH a):iH (a / fuel)/\iH (a / fuel+if a%fuel>0 then 1 else 0):=by
 have c:=b.1;have k:=b.2;have d:=Int.ediv_nonneg c (show 0<=fuel by omega);have f:=Int.ediv_le_self fuel c;have g:=Int.mul_ediv_add_emod a fuel;have i:a / fuel<=fuel*(a / fuel):=by have:=Int.mul_le_mul_of_nonneg_right e d;omega
 have j:=Int.emod_nonneg a (show fuel≠0 by omega);unfold iH;split<;>omega
theorem Fv {x:bZ} {a:Int} {Q:Int->Hp->Prop} (j:1<=x.fuel) (l:iH x.n9) (d:iH a) (m:Q (xz x.fuel x.n9 a) h):Rc prog x a Q h:=by
 unfold Rc;obtain ⟨f,c⟩:=Jt j d;have g:Int.tdiv a x.fuel=a / x.fuel:=Int.tdiv_eq_ediv_of_nonneg d.1;have i:Int.tmod a x.fuel=a%x.fuel:=Int.tmod_eq_emod_of_nonneg d.1;rw [g,i];refine ⟨by omega,bL.intro (λn k=>n=a / x.fuel+(if a%x.fuel>0 then 1 else 0)/\k=h) ⟨by omega,?_⟩ ?_⟩
 ·rw [wrap64 (n:=a / x.fuel) (by have:=f.1;omega) (by have:=f.2;omega)];by_cases b:a%x.fuel>0
  ·rw [if_pos b] at c;rw [if_pos (decide_eq_true b),if_pos b,wrap64 (by have:=c.1;omega) (by have:=c.2;omega)];exact ⟨rfl,rfl⟩
  ·rw [if_neg (λe=>b (of_decide_eq_true e)),if_neg b];exact ⟨by omega,rfl⟩
 ·rintro n k ⟨rfl,rfl⟩;exact Cx (CC c l m)
theorem Gy {c:aw} {n9 a:Int} {Q:Int->Hp->Prop} (l:1<=c.Fuel) (m:iH n9) (f:iH a) (o:Q (xz c.Fuel n9 a) h):Qw prog c n9 a Q h:=by
 unfold Qw;obtain ⟨g,d⟩:=Jt l f;have i:Int.tdiv a c.Fuel=a / c.Fuel:=Int.tdiv_eq_ediv_of_nonneg f.1;have j:Int.tmod a c.Fuel=a%c.Fuel:=Int.tmod_eq_emod_of_nonneg f.1;rw [i,j];refine ⟨by omega,bL.intro (λn k=>n=a / c.Fuel+(if a%c.Fuel>0 then 1 else 0)/\k=h) ⟨by omega,?_⟩ ?_⟩
 ·rw [wrap64 (n:=a / c.Fuel) (by have:=g.1;omega) (by have:=g.2;omega)];by_cases b:a%c.Fuel>0
  ·rw [if_pos b] at d;rw [if_pos (decide_eq_true b),if_pos b,wrap64 (by have:=d.1;omega) (by have:=d.2;omega)];exact ⟨rfl,rfl⟩
  ·rw [if_neg (λe=>b (of_decide_eq_true e)),if_neg b];exact ⟨by omega,rfl⟩
 ·rintro n k ⟨rfl,rfl⟩;exact Ct (CJ d m o)
def gC (T:List Int) (p:Int):Int:=if p∈T then (gN T p T.length:Int) else 0
theorem OS {T:List Int} {p:Int} (a:T.length<=64):0<=gC T p/\gC T p<=64:=by
 unfold gC;split
 ·rename_i hp;have:=IY hp;omega
 ·omega
variable {T:List Int} {p:Int} {s:Sl} {a:Addr}
theorem Nn {T:List Int} {p v:Int} {j:Nat} (hv:T[j%T.length]? =some v):gO T p j=(v==p):=by unfold gO;rw [hv];by_cases e:v=p<;>simp [e]
theorem S5 {Q:Int->Hp->Prop} {n:Int} (A:aT h a [s.v,.int .i64 n]) (r:Is h s T) (D:T.length<=64) (j:Q (gC T p) h):RI prog (some a) p Q h:=by
 unfold RI;have d:aT h (Addr.add a 0) (aY (al.enc s)):=by
  intro i v hv
  match i,hv with
  | 0,hv=>exact A 0 v hv
 refine aK (gF (sh:=al) s d (Oi (UZ r (by omega) ?_)));unfold gC at j;have w:=r.1;by_cases hp:p∈T
 ·rw [if_pos hp] at j;rw [decide_eq_true hp,if_neg (by simp)];have t:0<T.length:=List.length_pos_of_mem hp;refine aK (gF (sh:=al) s d ?_);refine bQ.intro (λ(g f:Int) k=>k=h/\∃b:Nat,f=(b:Int)/\b<=T.length/\g=(gN T p b:Int)) (λ_ f _=>(T.length-f).toNat) ⟨rfl,0,rfl,Nat.zero_le _,rfl⟩ ?_;rintro g f k ⟨rfl,b,rfl,B,rfl⟩;have C:∀m:Nat,gN T p m<=T.length:=λm=>(Kc m).2 λf _=>(uF T.length f (Ly hp f)).1;by_cases x:b<T.length
  ·rw [if_pos (gI)];obtain ⟨G,q⟩:=uF T.length b (Ly hp b);refine bL.intro (λg l=>l=k/\g=(gN T p (b+1):Int)) ?_ ?_
   ·refine aK (gF (sh:=al) s d ?_);refine bQ.intro (λ(g n:Int) l=>l=k/\∃c:Nat,n=(c:Int)/\c<=lj T p b T.length/\g=(gN T p b:Int)) (λ_ n _=>(T.length-n).toNat) ⟨rfl,0,rfl,Nat.zero_le _,rfl⟩ ?_;rintro g n l ⟨rfl,c,rfl,E,rfl⟩;rw [if_pos (gI)];refine aK (gF (sh:=al) s d (aK (gF (sh:=al) s d ?_)));have y:Int.tmod (yw ((b:Int)+(c:Int))) ((s.len:Nat):Int)=(((b+c)%T.length:Nat):Int):=by
     rw [aH,Int.tmod_eq_emod_of_nonneg (by omega),w]
     norm_cast
    rw [y];have F:=Nat.mod_lt (b+c) t;refine ⟨by omega,s9 (sh:=ae .i64) r λ(v:Int) hv=> ?_⟩;rw [Int.toNat_natCast] at hv;have hb:=Nn (p:=p) hv;by_cases o:v=p
    ·rw [if_pos (by simpa using o)];have u:c=lj T p b T.length:=by refine Classical.byContradiction λz=> ?_;have:=Ab (T:=T) (p:=p) T.length b c (by omega);rw [this] at hb;rw [o] at hb;simp at hb
     refine ⟨rfl,?_⟩;rw [aH];show (if ((c:Int)+1>(gN T p b:Int)) then ((c:Int)+1) else (gN T p b:Int))=((max (gN T p b) (lj T p b T.length+1):Nat):Int);rw [<-u];split<;>omega
    ·rw [if_neg (by simpa using o)];have z:c≠lj T p b T.length:=λe=>by rw [<-e,hb] at q;exact o (by simpa using q)
     rw [aH];exact ⟨⟨rfl,c+1,by omega,by omega,rfl⟩,by omega⟩
   ·rintro g l ⟨rfl,rfl⟩;rw [aH];exact ⟨⟨rfl,b+1,by omega,by omega,rfl⟩,by omega⟩
  ·rw [if_neg (λe=>x (by have:=of_decide_eq_true e;omega))];have:b=T.length:=by omega
   rw [this];exact j
 ·rw [if_neg hp] at j;rw [decide_eq_false hp,if_pos (by simp)];exact j
theorem Aj {P:Program} {Q:Int->Hp->Prop} {n:Nat} (l:aT h a [s.v]) (r:Is h s T) (o:T.length<=64) (t:n<=T.length) (j:Q (pd T p n:Int) h):OV P (some a) p (n:Int) Q h:=by
 unfold OV;have f:aT h (Addr.add a 0) (aY (al.enc s)):=by
  intro i v hv
  match i,hv with
  | 0,hv=>exact l 0 v hv
 refine bQ.intro (λ(c i:Int) k=>k=h/\∃b:Nat,i=(b:Int)/\b<=n/\c=(pd T p b:Int)) (λ_ i _=>(n-i).toNat) ⟨rfl,0,rfl,Nat.zero_le _,rfl⟩ ?_;rintro c i k ⟨rfl,b,rfl,m,rfl⟩;have q:=uV T p b;by_cases g:b<n
 ·rw [if_pos (gI)];refine bL.intro (λc d=>d=k/\c=(pd T p (b+1):Int)) ?_ ?_
  ·refine aK (gF (sh:=al) s f (s9 (sh:=ae .i64) r λ(v:Int) hv=> ?_));rw [Int.toNat_natCast] at hv;have:=IX (p:=p) hv;by_cases e:v=p
   ·rw [if_pos (by simpa using e),aH];rw [if_pos e] at this;exact ⟨rfl,by omega⟩
   ·rw [if_neg (by simpa using e)];rw [if_neg e] at this;exact ⟨rfl,by omega⟩
  ·rintro c d ⟨rfl,rfl⟩;rw [aH];exact ⟨⟨rfl,b+1,by omega,by omega,rfl⟩,by omega⟩
 ·rw [if_neg (λe=>g (by have:=of_decide_eq_true e;omega))];have:b=n:=by omega
  rw [this];exact j
theorem Fw {Q:Int->Hp->Prop} {n:Nat} (d:aT h a [s.v]) (r:Is h s T) (k:0<T.length) (f:T.length<=64) (x:n<=1000) (c:Q (qu T p n:Int) h):Of prog (some a) p (n:Int) Q h:=by
 unfold Of;have g:aT h (Addr.add a 0) (aY (al.enc s)):=by
  intro i v hv
  match i,hv with
  | 0,hv=>exact d 0 v hv
 have b:=r.1;rw [if_neg (λe=>by have:=of_decide_eq_true e;omega)];refine aK (gF (sh:=al) s g ⟨by omega,aK (gF (sh:=al) s g ⟨by omega,?_⟩)⟩);have m:Int.tmod (n:Int) ((s.len:Nat):Int)=((n%T.length:Nat):Int):=by
  rw [Int.tmod_eq_emod_of_nonneg (by omega),b]
  norm_cast
 have l:Int.tdiv (n:Int) ((s.len:Nat):Int)=((n / T.length:Nat):Int):=by
  rw [Int.tdiv_eq_ediv_of_nonneg (by omega),b]
  norm_cast
 have y:=Nat.mod_lt n k;rw [m,l,b];refine Ol (Aj d r f (Nat.le_refl _) ?_);refine Ol (Aj d r f (by omega) ?_);have q:=uV T p T.length;have t:=uV T p (n%T.length);have u:n / T.length<=n:=Nat.div_le_self _ _;have w:n / T.length*pd T p T.length<=1000*64:=Nat.mul_le_mul (by omega) (by omega);have o:(0:Int)<=((n / T.length:Nat):Int):=Int.natCast_nonneg _;rw [wrap64 (n:=((n / T.length:Nat):Int)) (by omega) (by omega)];have j:((n / T.length:Nat):Int)*((pd T p T.length:Nat):Int)=((n / T.length*pd T p T.length:Nat):Int):=by norm_cast
 rw [j,wrap64 (n:=((n / T.length*pd T p T.length:Nat):Int)) (by omega) (by omega),aH];unfold qu at c;rw [Int.natCast_add] at c;exact c
theorem Rl {Q:Int->Hp->Prop} {f g:Nat} (j:aT h a [s.v]) (r:Is h s T) (c:0<T.length) (e:T.length<=64) (u:f<=500) (w:g<=500) (i:∀n:Int,(0<n↔qu T p f<qu T p (f+g))->Q n h):Od prog (some a) p (f:Int) ((f+g:Nat):Int) Q h:=by
 unfold Od;obtain ⟨z, -⟩:=wW (p:=p) c f g;split
 ·rename_i d;have d:=of_decide_eq_true d;have:g=0:=by omega
  subst this;exact i 0 (by simp)
 ·refine WY (Fw j r c e (by omega) ?_);refine WY (Fw j r c e (by omega) ?_);have b:∀n:Nat,n<=1000->qu T p n<=64064:=λn x=>by unfold qu;have m:=uV T p T.length;have o:=uV T p (n%T.length);have q:n / T.length<=n:=Nat.div_le_self _ _;have t:n / T.length*pd T p T.length<=1000*64:=Nat.mul_le_mul (by omega) (by omega);have y:=Nat.mod_lt n c;omega
  have k:=b (f+g) (by omega);have l:=b f (by omega);rw [aH];exact i _ (by omega)
theorem VY {Q:Int->Hp->Prop} (t:aT h a [s.v]) (r:Is h s T) (u:0<T.length) (x:T.length<=64) (d:Q (gC T p) h):OB prog (some a) p Q h:=by
 unfold OB;have y:aT h (Addr.add a 0) (aY (al.enc s)):=by
  intro i v hv
  match i,hv with
  | 0,hv=>exact t 0 v hv
 have z:=r.1;refine aK (gF (sh:=al) s y ?_);rw [z];refine Ol (Aj t r x (Nat.le_refl _) ?_);unfold gC at d;have A:=NW (T:=T) (p:=p);by_cases hp:p∈T
 ·rw [if_pos hp] at d;have:=A.2 hp;rw [if_neg (by simp;omega)];have K:=IY hp;refine ay.intro (λ(g:Int) k=>k=h/\∃c:Nat,g=(c:Int)/\1<=c/\c<=gN T p T.length) (λg _=>(T.length+1-g).toNat) ⟨rfl,1,rfl,Nat.le_refl _,?_⟩ ?_
  ·refine Nat.le_of_not_lt λq=> ?_;have:=(Kc (T:=T) (p:=p) (g:=0) T.length).1 (by omega) 0 u;omega
  rintro g k ⟨rfl,c,rfl,I,J⟩;refine bQ.intro (λ(all:Bool) (f:Int) B=>B=k/\∃b:Nat,f=(b:Int)/\b<=T.length/\(all=true↔∀j,j<b->qu T p j<qu T p (j+c))) (λ_ f _=>(T.length-f).toNat) ⟨rfl,0,rfl,Nat.zero_le _,⟨λ_ j o=>absurd o (Nat.not_lt_zero _),λ_=>rfl⟩⟩ ?_;rintro all f B ⟨rfl,b,rfl,H,m⟩;refine aK (gF (sh:=al) s y ?_);rw [z];by_cases G:b<T.length
  ·rw [if_pos (gI),aH];have e:((b:Int)+(c:Int))=((b+c:Nat):Int):=by norm_cast
   rw [e];refine YS (Rl t r u x (by omega) (by omega) λn q=>aI ?_);rw [aH];refine ⟨⟨rfl,b+1,by omega,by omega,?_⟩,by omega⟩;rw [Bool.and_eq_true,m];constructor
   ·rintro ⟨E,F⟩ j o;by_cases D:j=b
    ·rw [D];exact q.1 (of_decide_eq_true F)
    ·exact E j (by omega)
   ·intro w;exact ⟨λj o=>w j (by omega),decide_eq_true (q.2 (w b (by omega)))⟩
  ·rw [if_neg (λe=>G (by have:=of_decide_eq_true e;omega))];have C:b=T.length:=by omega
   rw [C,NU hp] at m;by_cases l:all=true
   ·rw [if_pos l];have:c=gN T p T.length:=by have:=m.1 l;omega
    rw [this];exact d
   ·rw [if_neg l,aH];have:¬gN T p T.length<=c:=λe=>l (m.2 e);exact ⟨⟨rfl,c+1,by omega,by omega,by omega⟩,by omega⟩
 ·rw [if_neg hp] at d;have:pd T p T.length=0:=by have:=mt A.1 hp;omega
  rw [if_pos (by rw [this];rfl)];exact d
end
def gg (c:bg) (p:Int) (m:Nat):Nat:=(c.procs.take m).countP λy=>decide (y.part=p)
def qv (c:bg) (b:Int) (m:Nat):Nat:=(c.labels.take m).countP λl=>gX l b
theorem Lr {a:Type} {f:a->Bool} {l:List a} {m:Nat} {v:a} (h:l[m]? =some v):(l.take (m+1)).countP f=(l.take m).countP f+if f v=true then 1 else 0:=by rw [List.take_add_one,h,List.countP_append];by_cases hv:f v=true<;>simp [hv]
theorem uz {a:Type} (f:a->Bool) (l:List a) (m:Nat):(l.take m).countP f<=m:=by refine Nat.le_trans List.countP_le_length ?_;rw [List.length_take];omega
def eA (c:bg) (p:Int):Int:=(gg c p c.procs.length:Int)
def vv (c:bg) (p:Int):Prop:=(iL c).1=0/\0<=p/\p<(c.labels.length:Int)/\0<gC c.table p/\0<eA c p
instance Dg (c:bg) (p:Int):Decidable (vv c p):=inferInstanceAs (Decidable ((iL c).1=0/\0<=p/\p<(c.labels.length:Int)/\0<gC c.table p/\0<eA c p))
def uA (c:bg) (p at_ f:Int):Int:=
 if vv c p/\0<=at_/\at_<c.lane/\1<=f then xz c.fuel (gC c.table p) (fV (fV (fV (at_+1) (1+(qv c (c.labels.getD p.toNat 0) c.labels.length:Int))) (eA c p)) f) else 0
def jO (m hold:Int):Nat->Int×Int
 | 0=>(0,0)
 | n+1=>(max (jO m hold n).1 (lN (fV (fV (m-1) hold) (lN m (jO m hold n).1)) 1),lN (fV (fV (m-1) hold) (lN m (jO m hold n).1)) 1)
def pU (c:bg) (p lock hold:Int):Int:=
 if vv c p/\0<=lock/\lock<c.ai/\1<=hold/\hold<=64 then xz c.fuel (gC c.table p) (jO (eA c p) hold (c.ai-lock).toNat).2 else 0
section
variable {h:Hp} {x:aw} {c:bg} {p:Int}
theorem Bn (b:cc c):0<=eA c p/\eA c p<=32:=by have d:gg c p c.procs.length<=c.procs.length:=uz _ _ _;have a:=b.procs.2;unfold nQ at a;unfold eA;omega
theorem Hh {Q:bZ->Bool->Hp->Prop} (l:eu h x c) (u:∀z j,h<=j->¬vv c p->Q z false j) (N:∀j,h<=j->vv c p->Q ⟨eA c p,gC c.table p,c.fuel⟩ true j):zI prog x p Q h:=by
 unfold zI;refine T6 (Ac l λH m=> ?_);refine aI (aI ?_);have K:x.aN.len=c.labels.length:=l.labels.1;rw [K];by_cases hb:(iL c).1≠0\/p<0\/p>=(c.labels.length:Int)
 ·rw [if_pos (by simp only [Bool.or_eq_true,bne_iff_ne,decide_eq_true_eq];omega)];exact u _ H m λk=>by unfold vv at k;omega
 rw [if_neg (by simp only [Bool.or_eq_true,bne_iff_ne,decide_eq_true_eq];omega)];have v:(iL c).1=0:=by omega
 have n:=sk v;obtain ⟨t1,t2,F⟩:=n.table;have hp:=n.parts;unfold nP at hp F;refine Ti (F9 (Rw.mono m l.table) (by omega) (by omega) t1 t2 F λa i s I E g r=> ?_);rw [if_neg (by decide)];refine Zv (S5 g r t2 ⟨⟨trivial,trivial⟩,?_⟩);obtain ⟨P,w,t⟩:=l.procs;have U:x.aM.len=P.length:=w.1;have V:=t.len;have T:=Bn (p:=p) n;have M:=n.procs;unfold nQ at M;refine bQ.intro (λ(i:Int) (z:bZ) k=>k=I/\∃b:Nat,i=(b:Int)/\b<=c.procs.length/\z=⟨(gg c p b:Int),gC c.table p,x.Fuel⟩) (λi _ _=>(c.procs.length-i).toNat) ⟨rfl,0,rfl,Nat.zero_le _,rfl⟩ ?_;rintro i z k ⟨rfl,b,rfl,R,rfl⟩;have S:gg c p b<=b:=uz _ _ _;by_cases L:b<c.procs.length
 ·rw [if_pos (gI)];refine bL.intro (λ(z:bZ) B=>B=k/\z=⟨(gg c p (b+1):Int),gC c.table p,x.Fuel⟩) ?_ ?_
  ·refine Rs.get (sh:=bJ) (Rw.mono (Hp.le_trans m E) w) (λ_=>rfl) (by decide) (i:=(b:Int)) (by omega) (by omega) λ(y:bd) A=> ?_;rw [Int.toNat_natCast] at A;obtain ⟨q,O,J⟩:=t.get A;have g:=Lr (f:=λy:ik=>decide (y.part=p)) O;rw [J.1];by_cases e:q.part=p
   ·rw [if_pos (by simpa using e)];dsimp only;rw [aH];rw [if_pos (decide_eq_true e)] at g;refine ⟨rfl,?_⟩;unfold gg;rw [g,Int.natCast_add];rfl
   ·rw [if_neg (by simpa using e)];rw [if_neg (by simpa using e)] at g;refine ⟨rfl,?_⟩;unfold gg;rw [g,Nat.add_zero]
  ·rintro z B ⟨rfl,rfl⟩;rw [aH];exact ⟨⟨rfl,b+1,by omega,by omega,rfl⟩,by omega⟩
 ·rw [if_neg (λe=>L (by have:=of_decide_eq_true e;omega))];have e:b=c.procs.length:=by omega
  subst e;refine aI ⟨⟨trivial,trivial⟩,?_⟩;have D:=Hp.le_trans m E;by_cases d:0<gC c.table p/\0<eA c p
  ·have o:decide (gC c.table p>0)=true:=decide_eq_true d.1;have G:decide (((gg c p c.procs.length:Nat):Int)>0)=true:=decide_eq_true d.2;show Q _ (decide (gC c.table p>0)&&decide (((gg c p c.procs.length:Nat):Int)>0)) k;rw [o,G,l.fuel];exact N k D ⟨v,by omega,by omega,d.1,d.2⟩
  ·have o:(decide (gC c.table p>0)&&decide (((gg c p c.procs.length:Nat):Int)>0))=false:=by rw [<-Bool.decide_and];exact decide_eq_false d
   show Q _ (decide (gC c.table p>0)&&decide (((gg c p c.procs.length:Nat):Int)>0)) k;rw [o];exact u _ k D λC=>d ⟨C.2.2.2.1,C.2.2.2.2⟩
theorem Um {s:Sl} {T:List Int} {n:Int} {Q:Option Addr->Int->Int->Hp->Prop} (r:Is h s T) (B:1<=n) (C:n<=8) (u:T≠ []) (E:T.length<=64) (o:∀x∈T,0<=x/\x<n)
  (y:∀a f g,h<=g->aT g a [f.v]->Is g f T->Q (some a) 0 0 g):QW prog s n Q h:=by
 unfold QW;have F:=r.1;have G:0<T.length:=List.length_pos_iff.2 u;refine aI (aI ?_);rw [if_neg (by simp;omega),if_neg (by simp;omega)];refine ay.intro (λ(i:Int) k=>k=h/\∃d:Nat,i=(d:Int)/\d<=T.length) (λi _=>(T.length-i).toNat) ⟨rfl,0,rfl,Nat.zero_le _⟩ ?_;rintro i k ⟨rfl,d,rfl,D⟩;by_cases q:d<T.length
 ·rw [if_pos (gI)];refine s9 (sh:=ae .i64) r λ(v:Int) hv=> ?_;rw [Int.toNat_natCast] at hv;have hb:=o v (List.mem_of_getElem? hv);refine Rs.nH (sh:=ae .i64) r (0:Int) (λ_=>rfl) (by decide) (λ_=>⟨by omega,by omega⟩) λ(w:Int) j=>aI ?_;have j:=j (by simp;omega);rw [Int.toNat_natCast,hv] at j;cases j;rw [if_neg (by simp;omega),aH];exact ⟨⟨rfl,d+1,by omega,by omega⟩,by omega⟩
 ·rw [if_neg (λe=>q (by have:=of_decide_eq_true e;omega))];refine gh (enc:=λx:Int=>aY ((ae .i64).enc x)) (sz:=1) (xs:=[]) rfl (λ_=>rfl) λa1 H z A=> ?_;refine A.app (Rw.mono z r) (λ_=>rfl) (λ_=>rfl) rfl ⟨by simp;omega,by simp;omega⟩ λf I m=> ?_;intro b t l;exact y ⟨b,0,none⟩ f _ (Hp.le_trans m.le (kP l)) (xk (cs:=[f.v])) (Rw.mono (kP l) (m.ia λ_=>rfl))
theorem Gz {Q:Int->Int->Bool->Hp->Prop} (m:eu h x c) (v:∀y z l,h<=l->¬vv c p->Q y z false l) (L:∀l,h<=l->vv c p->Q (gC c.table p) (eA c p) true l):Qt prog x p Q h:=by
 unfold Qt;refine Zj (R5 m λ_=> ?_);refine aI (aI ?_);have I:x.aN.len=c.labels.length:=m.labels.1;rw [I];by_cases hb:(iL c).1≠0\/p<0\/p>=(c.labels.length:Int)
 ·rw [if_pos (by simp only [Bool.or_eq_true,bne_iff_ne,decide_eq_true_eq];omega)];exact v _ _ h (Hp.le_refl _) λk=>by unfold vv at k;omega
 rw [if_neg (by simp only [Bool.or_eq_true,bne_iff_ne,decide_eq_true_eq];omega)];have w:(iL c).1=0:=by omega
 have n:=sk w;obtain ⟨t1,t2,E⟩:=n.table;have hp:=n.parts;unfold nP at hp E;refine Zm (Um m.table (by omega) (by omega) t1 t2 E λa s G t g r=> ?_);obtain ⟨N,A,u⟩:=m.procs;have S:x.aM.len=N.length:=A.1;have T:=u.len;have R:=Bn (p:=p) n;have K:=n.procs;unfold nQ at K;refine bQ.intro (λ(z i:Int) k=>k=G/\∃b:Nat,i=(b:Int)/\b<=c.procs.length/\z=(gg c p b:Int)) (λ_ i _=>(c.procs.length-i).toNat) ⟨rfl,0,rfl,Nat.zero_le _,rfl⟩ ?_;rintro z i k ⟨rfl,b,rfl,O,rfl⟩;have P:gg c p b<=b:=uz _ _ _;by_cases J:b<c.procs.length
 ·rw [if_pos (gI)];refine bL.intro (λ(z:Int) C=>C=k/\z=(gg c p (b+1):Int)) ?_ ?_
  ·refine Rw.vc (Rw.mono t A) (λ_=>rfl) (by decide) (sh:=ae .i64) (λy:bd=>y.Part) (j:=0) (λ_=>rfl) (i:=(b:Int)) (by omega) (by omega) λy B=> ?_;rw [Int.toNat_natCast] at B;obtain ⟨q,M,H⟩:=u.get B;have g:=Lr (f:=λy:ik=>decide (y.part=p)) M;rw [H.1];by_cases e:q.part=p
   ·rw [if_pos (by simpa using e),aH];rw [if_pos (decide_eq_true e)] at g;refine ⟨rfl,?_⟩;unfold gg;rw [g,Int.natCast_add];rfl
   ·rw [if_neg (by simpa using e)];rw [if_neg (by simpa using e)] at g;refine ⟨rfl,?_⟩;unfold gg;rw [g,Nat.add_zero]
  ·rintro z C ⟨rfl,rfl⟩;rw [aH];exact ⟨⟨rfl,b+1,by omega,by omega,rfl⟩,by omega⟩
 ·rw [if_neg (λe=>J (by have:=of_decide_eq_true e;omega))];have e:b=c.procs.length:=by omega
  subst e;refine YT (VY g r (List.length_pos_iff.2 t1) t2 (aI ?_));by_cases d:0<gC c.table p/\0<eA c p
  ·have o:decide (gC c.table p>0)=true:=decide_eq_true d.1;have F:decide (((gg c p c.procs.length:Nat):Int)>0)=true:=decide_eq_true d.2;rw [o,F];exact L k t ⟨w,by omega,by omega,d.1,d.2⟩
  ·have o:(decide (gC c.table p>0)&&decide (((gg c p c.procs.length:Nat):Int)>0))=false:=by rw [<-Bool.decide_and];exact decide_eq_false d
   rw [o];exact v _ _ k t λD=>d ⟨D.2.2.2.1,D.2.2.2.2⟩
theorem Le (k:vv c p):cc c/\iH (gC c.table p)/\1<=c.fuel/\iH (eA c p)/\1<=eA c p/\eA c p<=32/\∃v,c.labels[p.toNat]? =some v/\c.labels.getD p.toNat 0=v:=by
 obtain ⟨d,g,i,j,l⟩:=k;have a:=sk d;have e:=OS (p:=p) a.table.2.1;have f:=Bn (p:=p) a;have b:p.toNat<c.labels.length:=by omega
 refine ⟨a,⟨by omega,by omega⟩,a.fuel.1,⟨by omega,by omega⟩,by omega,by omega,c.labels[p.toNat],List.getElem?_eq_getElem b,?_⟩;rw [List.getD_eq_getElem?_getD,List.getElem?_eq_getElem b];rfl
theorem Yg {at_ f:Int} {Q:Int->Hp->Prop} (q:eu h x c) (u:∀l∈c.labels,nx l) (F:f<=9223372036854775807) (d:∀t,h<=t->Q (uA c p at_ f) t):SJ prog x p at_ f Q h:=by
 unfold SJ;unfold uA at d;have G:=q.lane;refine Yv (Hh q (λz j g J=> ?_) λj g m=> ?_)
 ·refine aI (aI (aI ?_));rw [if_pos (by simp)];rw [if_neg (λe=>J e.1)] at d;exact d j g
 obtain ⟨C,D,f1,s,S,T,b,hb,E⟩:=Le m;refine aI (aI (aI ?_));rw [G];by_cases r:0<=at_/\at_<c.lane/\1<=f
 ·rw [if_neg (by simp;omega)];rw [if_pos ⟨m,r⟩,E] at d;obtain ⟨L,M,N⟩:=r;have R:=C.lane;have P:x.aN.len=c.labels.length:=q.labels.1;have K:=C.parts;unfold nP at K;refine bQ.intro (λ(n i:Int) k=>k=j/\∃a:Nat,i=(a:Int)/\a<=c.labels.length/\n=1+(qv c b a:Int)) (λ_ i _=>(c.labels.length-i).toNat) ⟨rfl,0,rfl,Nat.zero_le _,rfl⟩ ?_;rintro n i k ⟨rfl,a,rfl,O,rfl⟩;have H:qv c b a<=a:=uz _ _ _;have B:=Rw.mono g q.labels;by_cases I:a<c.labels.length
  ·rw [if_pos (gI)];refine bL.intro (λ(n:Int) A=>A=k/\n=1+(qv c b (a+1):Int)) ?_ ?_
   ·refine Rs.get (sh:=ae .u64) B (λ_=>rfl) (by decide) (i:=(a:Int)) (by omega) (by omega) λ(v:Int) hv=> ?_;refine Rs.get (sh:=ae .u64) B (λ_=>rfl) (by decide) m.2.1 m.2.2.1 λ(w:Int) y=> ?_;rw [Int.toNat_natCast] at hv;rw [hb] at y;cases y;have o:=Lr (f:=λl=>gX l b) hv;have e:(de .andNot .u64 v b==0)=gX v b:=by rw [Bool.eq_iff_iff,JR (u v (List.mem_of_getElem? hv)) (u b (List.mem_of_getElem? hb)),jZ]
    rw [e];by_cases e:gX v b=true
    ·rw [if_pos e,aH];rw [if_pos e] at o;refine ⟨rfl,?_⟩;unfold qv;rw [o,Int.natCast_add];unfold qv at H;omega
    ·rw [if_neg e];rw [if_neg e] at o;refine ⟨rfl,?_⟩;unfold qv;rw [o,Nat.add_zero]
   ·rintro n A ⟨rfl,rfl⟩;rw [aH];exact ⟨⟨rfl,a+1,by omega,by omega,rfl⟩,by omega⟩
  ·rw [if_neg (λe=>I (by have:=of_decide_eq_true e;omega))];have e:a=c.labels.length:=by omega
   subst e;rw [aH];have a1:iH (at_+1):=⟨by omega,by omega⟩;have a2:iH (1+(qv c b c.labels.length:Int)):=⟨by omega,by omega⟩;have a3:iH f:=⟨by omega,F⟩;refine Cx (CC a1 a2 ⟨⟨trivial,trivial,trivial⟩,?_⟩);refine Cx (CC (pv a1 a2) s ⟨⟨trivial,trivial⟩,?_⟩);refine Cx (CC (pv (pv a1 a2) s) a3 ⟨⟨trivial,trivial⟩,?_⟩);exact Xr (Fv (x:=⟨eA c p,gC c.table p,c.fuel⟩) f1 D (pv (pv (pv a1 a2) s) a3) (d k g))
 ·rw [if_pos (by simp;omega)];rw [if_neg (λe=>r e.2)] at d;exact d j g
theorem Rm {at_ f:Int} {Q:Int->Hp->Prop} (g:eu h x c) (u:∀l∈c.labels,nx l) (H:f<=9223372036854775807) (d:∀t,h<=t->Q (uA c p at_ f) t):Ph prog x p at_ f Q h:=by
 unfold Ph;unfold uA at d;have I:=g.lane;refine Xa (Gz g (λy z m j L=> ?_) λm j o=> ?_)
 ·refine aI (aI (aI ?_));rw [if_pos (by simp)];rw [if_neg (λe=>L e.1)] at d;exact d m j
 obtain ⟨D,E,f1,s,O,V,b,hb,F⟩:=Le o;refine aI (aI (aI ?_));rw [I];by_cases r:0<=at_/\at_<c.lane/\1<=f
 ·rw [if_neg (by simp;omega)];rw [if_pos ⟨o,r⟩,F] at d;obtain ⟨P,R,G⟩:=r;have U:=D.lane;have T:x.aN.len=c.labels.length:=g.labels.1;have M:=D.parts;unfold nP at M;refine bQ.intro (λ(n i:Int) k=>k=m/\∃a:Nat,i=(a:Int)/\a<=c.labels.length/\n=1+(qv c b a:Int)) (λ_ i _=>(c.labels.length-i).toNat) ⟨rfl,0,rfl,Nat.zero_le _,rfl⟩ ?_;rintro n i k ⟨rfl,a,rfl,S,rfl⟩;have J:qv c b a<=a:=uz _ _ _;have C:=Rw.mono j g.labels;by_cases K:a<c.labels.length
  ·rw [if_pos (gI)];refine bL.intro (λ(n:Int) B=>B=k/\n=1+(qv c b (a+1):Int)) ?_ ?_
   ·refine Rs.get (sh:=ae .u64) C (λ_=>rfl) (by decide) (i:=(a:Int)) (by omega) (by omega) λ(v:Int) hv=> ?_;refine Rs.get (sh:=ae .u64) C (λ_=>rfl) (by decide) o.2.1 o.2.2.1 λ(w:Int) A=> ?_;rw [Int.toNat_natCast] at hv;rw [hb] at A;cases A;have q:=Lr (f:=λl=>gX l b) hv;refine Y8 (S4 (u v (List.mem_of_getElem? hv)) (u b (List.mem_of_getElem? hb)) ?_);by_cases e:gX v b=true
    ·rw [if_pos e,aH];rw [if_pos e] at q;refine ⟨rfl,?_⟩;unfold qv;rw [q,Int.natCast_add];unfold qv at J;omega
    ·rw [if_neg e];rw [if_neg e] at q;refine ⟨rfl,?_⟩;unfold qv;rw [q,Nat.add_zero]
   ·rintro n B ⟨rfl,rfl⟩;rw [aH];exact ⟨⟨rfl,a+1,by omega,by omega,rfl⟩,by omega⟩
  ·rw [if_neg (λe=>K (by have:=of_decide_eq_true e;omega))];have e:a=c.labels.length:=by omega
   subst e;rw [aH];have a1:iH (at_+1):=⟨by omega,by omega⟩;have a2:iH (1+(qv c b c.labels.length:Int)):=⟨by omega,by omega⟩;have a3:iH f:=⟨by omega,H⟩;have N:1<=fV (at_+1) (1+(qv c b c.labels.length:Int)):=by
    unfold fV;have:=Int.mul_le_mul_of_nonneg_right (show (1:Int)<=at_+1 by omega) (show (0:Int)<=1+(qv c b c.labels.length:Int) by omega);split
    ·decide
    ·omega
   rw [TU N O G,Vc (eA c p) f] at d;refine Ct (CJ a1 a2 ?_);refine Ct (CJ a3 s ?_);refine Ct (CJ (pv a1 a2) (pv a3 s) ?_);rw [<-g.fuel] at d f1;exact Xb (Gy f1 E (pv (pv a1 a2) (pv a3 s)) (d k j))
 ·rw [if_pos (by simp;omega)];rw [if_neg (λe=>r e.2)] at d;exact d m j
theorem Bo {m hold:Int} (d:iH m/\1<=m) (e:iH hold):∀n:Nat,iH (jO m hold n).1/\iH (jO m hold n).2
 | 0=>⟨⟨Int.le_refl _,show (0:Int)<=9223372036854775807 by decide⟩,⟨Int.le_refl _,show (0:Int)<=9223372036854775807 by decide⟩⟩
 | n+1=>by obtain ⟨a,g⟩:=Bo d e n;have f:iH (m-1):=⟨by omega,by have:=d.1.2;omega⟩;have b:iH (lN (fV (fV (m-1) hold) (lN m (jO m hold n).1)) 1):=sm (pv (pv f e) (sm d.1 a)) ⟨by decide,by decide⟩;refine ⟨?_,b⟩;show iH (max _ _);have i:=a.1;have j:=a.2;have k:=b.1;have l:=b.2;exact ⟨by omega,by omega⟩
theorem wZ (a b:Int):iq a b=max a b:=by unfold iq;split<;>omega
theorem Ga {lock hold:Int} {Q:Int->Hp->Prop} (u:eu h x c) (a:∀q,h<=q->Q (pU c p lock hold) q):UD prog x p lock hold Q h:=by
 unfold UD;unfold pU at a;have w:=u.ai;refine Yv (Hh u (λz b g t=> ?_) λb g r=> ?_)
 ·refine aI (aI (aI (aI ?_)));rw [if_pos (by simp)];rw [if_neg (λe=>t e.1)] at a;exact a b g
 obtain ⟨A,v,f1,i,y,H, -⟩:=Le r;refine aI (aI (aI (aI ?_)));rw [w];by_cases j:0<=lock/\lock<c.ai/\1<=hold/\hold<=64
 ·rw [if_neg (by simp;omega)];rw [if_pos ⟨r,j⟩] at a;obtain ⟨C,D,E,F⟩:=j;have G:=A.ai;have d:iH hold:=⟨by omega,by omega⟩;have l:iH (eA c p-1):=⟨by omega,by omega⟩;dsimp only;rw [wrap64 (n:=c.ai-1) (by omega) (by omega)];refine jH.intro (λ(o un f:Int) k=>k=b/\∃n:Nat,f=c.ai-1-n/\(n:Int)<=c.ai-lock/\o=(jO (eA c p) hold n).1/\un=(jO (eA c p) hold n).2) (λ_ _ f _=>(f+1-lock).toNat) ⟨rfl,0,by omega,by omega,rfl,rfl⟩ ?_;rintro o un f k ⟨rfl,n,rfl,t,rfl,rfl⟩;obtain ⟨m,B⟩:=Bo ⟨i,y⟩ d n;by_cases s:c.ai-1-n>=lock
  ·rw [if_pos (decide_eq_true s),wrap64 (n:=eA c p-1) (by omega) (by omega)];refine Cx (CC l d ⟨⟨trivial,trivial⟩,?_⟩);refine Yd (U6 i m ?_);refine Cx (CC (pv l d) (sm i m) ?_);refine Yd (U6 (pv (pv l d) (sm i m)) ⟨by decide,by decide⟩ ?_);rw [aH,wZ];exact ⟨⟨rfl,n+1,by omega,by omega,rfl,rfl⟩,by omega⟩
  ·rw [if_neg (λe=>s (of_decide_eq_true e))];have e:(c.ai-lock).toNat=n:=by omega
   rw [e] at a;exact Xr (Fv (x:=⟨eA c p,gC c.table p,c.fuel⟩) f1 v B (a k g))
 ·rw [if_pos (by simp;omega)];rw [if_neg (λe=>j e.2)] at a;exact a b g
theorem R8 {lock hold:Int} {Q:Int->Hp->Prop} (m:eu h x c) (a:∀r,h<=r->Q (pU c p lock hold) r):QG prog x p lock hold Q h:=by
 unfold QG;unfold pU at a;have A:=m.ai;refine Xa (Gz m (λy z b g u=> ?_) λb g s=> ?_)
 ·refine aI (aI (aI (aI ?_)));rw [if_pos (by simp)];rw [if_neg (λe=>u e.1)] at a;exact a b g
 obtain ⟨C,v,f1,i,B,J, -⟩:=Le s;refine aI (aI (aI (aI ?_)));rw [A];by_cases j:0<=lock/\lock<c.ai/\1<=hold/\hold<=64
 ·rw [if_neg (by simp;omega)];rw [if_pos ⟨s,j⟩] at a;obtain ⟨E,F,G,H⟩:=j;have I:=C.ai;have d:iH hold:=⟨by omega,by omega⟩;have l:iH (eA c p-1):=⟨by omega,by omega⟩;dsimp only;rw [wrap64 (n:=c.ai-1) (by omega) (by omega)];refine jH.intro (λ(q un f:Int) k=>k=b/\∃n:Nat,f=c.ai-1-n/\(n:Int)<=c.ai-lock/\max q un=(jO (eA c p) hold n).1/\un=(jO (eA c p) hold n).2) (λ_ _ f _=>(f+1-lock).toNat) ⟨rfl,0,by omega,by omega,rfl,rfl⟩ ?_;rintro q un f k ⟨rfl,n,rfl,u,w,rfl⟩;obtain ⟨o,D⟩:=Bo ⟨i,B⟩ d n;by_cases t:c.ai-1-n>=lock
  ·rw [if_pos (decide_eq_true t),wrap64 (n:=eA c p-1) (by omega) (by omega),wZ,w];refine Ct (CJ l d ?_);refine Xg (Hg i o ?_);refine Ct (CJ (pv l d) (sm i o) ?_);refine Xg (Hg (pv (pv l d) (sm i o)) ⟨by decide,by decide⟩ ?_);rw [aH];exact ⟨⟨rfl,n+1,by omega,by omega,rfl,rfl⟩,by omega⟩
  ·rw [if_neg (λe=>t (of_decide_eq_true e))];have e:(c.ai-lock).toNat=n:=by omega
   rw [e] at a;rw [<-m.fuel] at a f1;exact Xb (Gy f1 v D (a k g))
 ·rw [if_pos (by simp;omega)];rw [if_neg (λe=>j e.2)] at a;exact a b g
end
structure pC (P:Program) (kt:Nat) (f g:Field):Prop where
 bE:P.underlying kt=some (.struct #[f,g])
 fn:f.name≠ "_"
 gn:g.name≠ "_"
 ft:P.underlying f.type=some (.int .i64)
 gt:P.underlying g.type=some (.int .i64)
 fo:f.offset=0
 go:g.offset=1
 st:P.stoodInHeld kt=false
def gu (a:Int×Int):Value:=.agg #[.int .i64 a.1,.int .i64 a.2]
def gY {V:Type} (a:Int×Int):List ((Int×Int)×V)->Option V
 | []=>none
 | (k,v)::r=>if a=k then some v else gY a r
def ki {V:Type} (a:Int×Int) (v:V):List ((Int×Int)×V)->List ((Int×Int)×V)
 | []=> [(a,v)]
 | (k,u)::r=>if a=k then (a,v)::r else (k,u)::ki a v r
section
variable {P:Program} {h:Hp} {c:Nat} {f g:Field}
theorem CQ {t:Nat} (d:P.underlying t=some (.int .i64)) {a:Array Value} {i:Nat} {v:Value} (hv:a[i]? =some v) {K:Value->Hp->Prop} (b:K v h):bF P (part t a i) K h:=by unfold part isAgg;refine (jB _ _).2 ((jB _ _).2 (uS d ?_));show bF P (if false=true then _ else _) K h;rw [if_neg Bool.false_ne_true,hv];exact b
theorem GA {e d:Type} {x y:e} {b:d} {s:e->d->Sem (ForInStep d)} {K:d->Hp->Prop} (i:bF P (s x b) (λr h=>match r with | .done b=>K b h | .yield b=>bF P (s y b) (λr h=>match r with | .done b=>K b h | .yield b=>K b h) h) h):bF P (forIn #[x,y] b s) K h:=by
 rw [<-Array.forIn_toList];show bF P (forIn [x,y] b s) K h;rw [List.forIn_cons];refine (jB _ _).2 (Am _ (λr h a=> ?_) i);cases r with
 | done b=>exact a
 | yield b=>
  show bF P (forIn [y] b s) K h;rw [List.forIn_cons];refine (jB _ _).2 (Am _ (λr h a=> ?_) a);cases r with
  | done b=>exact a
  | yield b=>exact a
theorem Fx (k:pC P c f g) {a:Int×Int} {b:Bool} {K:Unit->Hp->Prop} (d:K () h):bF P (Instr.checkKey b 10000 c (gu a)) K h:=by
 have leaf:∀(n:Nat) (t:Nat) (v:Value) (K:Unit->Hp->Prop),P.underlying t=some (.int .i64)->K () h->bF P (Instr.checkKey b (n+1) t v) K h:=by intro n t v K e d;unfold Instr.checkKey;exact (jB _ _).2 (uS e d)
 show bF P (Instr.checkKey b (9999+1) c (gu a)) K h;unfold Instr.checkKey;refine (jB _ _).2 (uS k.bE ?_);unfold gu;dsimp only;refine (jB _ _).2 (GA ?_);rw [if_pos k.fn];refine (jB _ _).2 (CQ (v:=.int .i64 a.1) k.ft (by rw [k.fo];rfl) ((jB _ _).2 (leaf 9998 _ _ _ k.ft ?_)));show bF P _ _ h;rw [if_pos k.gn];refine (jB _ _).2 (CQ (v:=.int .i64 a.2) k.gt (by rw [k.go];rfl) ((jB _ _).2 (leaf 9998 _ _ _ k.gt ?_)));exact d
theorem S6 (k:pC P c f g) {a b:Int×Int} {K:Bool->Hp->Prop} (d:K (decide (a=b)) h):bF P (Op.equal c (gu a) (gu b)) K h:=by
 have leaf:∀(n:Nat) (t:Nat) (x y:Int) (K:Bool->Hp->Prop),P.underlying t=some (.int .i64)->K (x==y) h->bF P (Op.equalIn (n+1) t (.int .i64 x) (.int .i64 y)) K h:=by intro n t x y K l d;unfold Op.equalIn;refine (jB _ _).2 (uS l ?_);show bF P (if IntKind.i64=IntKind.i64 then _ else _) K h;rw [if_pos rfl];exact d
 show bF P (Op.equalIn (9999+1) c (gu a) (gu b)) K h;unfold Op.equalIn;refine (jB _ _).2 (uS k.bE ?_);show bF P (program>>=λp=>_) K h;refine (jB _ _).2 ?_;show bF P (if P.stoodInHeld c=true then _ else _) K h;rw [k.st,if_neg Bool.false_ne_true];refine (jB _ _).2 (GA ?_);rw [if_pos k.fn];refine (jB _ _).2 (CQ (v:=.int .i64 a.1) k.ft (by rw [k.fo];rfl) ((jB _ _).2 (CQ (v:=.int .i64 b.1) k.ft (by rw [k.fo];rfl) ((jB _ _).2 (leaf 9998 _ _ _ _ k.ft ?_)))));by_cases i:a.1=b.1
 ·rw [i,beq_self_eq_true];show bF P _ _ h;rw [if_pos k.gn];refine (jB _ _).2 (CQ (v:=.int .i64 a.2) k.gt (by rw [k.go];rfl) ((jB _ _).2 (CQ (v:=.int .i64 b.2) k.gt (by rw [k.go];rfl) ((jB _ _).2 (leaf 9998 _ _ _ _ k.gt ?_)))));by_cases j:a.2=b.2
  ·rw [j,beq_self_eq_true];rw [decide_eq_true (Prod.ext i j)] at d;exact d
  ·rw [beq_eq_false_iff_ne.2 j];rw [decide_eq_false (λe=>j (by rw [e]))] at d;exact d
 ·rw [beq_eq_false_iff_ne.2 i];rw [decide_eq_false (λe=>i (by rw [e]))] at d;exact d
variable {V:Type}
def gZ (a:Int×Int):List ((Int×Int)×V)->Option (Nat×V)
 | []=>none
 | (k,v)::r=>if a=k then some (0,v) else (gZ a r).map λp=>(p.1+1,p.2)
theorem Ie (a:Int×Int):∀l:List ((Int×Int)×V),gY a l=(gZ a l).map (·.2)
 | []=>rfl
 | (k,v)::r=>by
  simp only [gY,gZ];split
  ·rfl
  ·rw [Ie a r];simp [Function.comp_def]
def kR (ev:V->Value) (b:List MapEntry) (a:List ((Int×Int)×V)):Prop:=b.map (λe=>(e.key,e.val))=a.map λp=>(gu p.1,ev p.2)
theorem GC (k:pC P c f g) {ev:V->Value} {a:Int×Int}:∀(l:List MapEntry) (o:List ((Int×Int)×V)) (j:Nat) {K:Option (Nat×Value)->Hp->Prop},kR ev l o->
  K ((gZ a o).map λp=>(p.1+j,ev p.2)) h->bF P (Instr.findAsking c (gu a) l j) K h
 | [],[],j,K,_,d=>d
 | [],_::_,j,K,e,_=>by simp [kR] at e
 | _::_,[],j,K,e,_=>by simp [kR] at e
 | e::l,(b,v)::r,j,K,m,d=>by
  simp only [kR,List.map_cons,List.cons.injEq,Prod.mk.injEq] at m;obtain ⟨⟨q,s⟩,t⟩:=m;unfold Instr.findAsking;rw [q];refine (jB _ _).2 (S6 k ?_);simp only [gZ] at d;by_cases i:a=b
  ·rw [if_pos i] at d;rw [decide_eq_true i,if_pos rfl,s];show K (some (j,ev v)) h;simpa using d
  ·rw [if_neg i] at d;rw [decide_eq_false i];refine GC k l r (j+1) t ?_;cases n:gZ a r with
   | none=>rw [n] at d;exact d
   | some p=>rw [n] at d;simp only [Option.map_some] at d ⊢;rw [show p.1+(j+1)=p.1+1+j by omega];exact d
theorem Gb (k:pC P c f g) {ev:V->Value} {a:Int×Int} {b:List MapEntry} {kvs:List ((Int×Int)×V)} {K:Option (Nat×Value)->Hp->Prop} (d:kR ev b kvs)
  (i:K ((gZ a kvs).map λp=>(p.1,ev p.2)) h):bF P (Instr.findKey c (gu a) b) K h:=by
 unfold Instr.findKey;refine (jB _ _).2 (uS k.bE ?_);cases b with
 | nil=>
  cases kvs with
  | nil=>exact i
  | cons p r=>simp [kR] at d
 | cons e b=>have j:Instr.findNow (.struct #[f,g]) (gu a) (e::b) 0=none:=rfl;rw [j];exact GC k (e::b) kvs 0 d i
def mN (h:Hp) (m:Nat) (ev:V->Value) (kvs:List ((Int×Int)×V)):Prop:=∃(a:List MapEntry) (ck:Nat),h m=some (.map a.toArray ck)/\kR ev a kvs
theorem Hi {a:Int×Int} {v:V}:∀ {l:List ((Int×Int)×V)},gZ a l=none->ki a v l=l++ [(a,v)]
 | [],_=>rfl
 | (k,u)::r,h=>by
  simp only [gZ] at h;split at h
  ·cases h
  ·rename_i e;simp only [ki];rw [if_neg e,Hi (by simpa using h)];rfl
theorem If {a:Int×Int} {v u:V} {ev:V->Value}:∀ {j:List MapEntry} {l:List ((Int×Int)×V)} {i:Nat},kR ev j l->gZ a l=some (i,u)->
  kR ev (j.modify i λe=>{e with key:=gu a,val:=ev v}) (ki a v l)/\(j[i]?).map (·.key)=some (gu a)
 | _,[],_,_,h=>by simp [gZ] at h
 | [],_::_,_,h,_=>by simp [kR] at h
 | e::j,(b,w)::r,i,h,d=>by
  simp only [kR,List.map_cons,List.cons.injEq,Prod.mk.injEq] at h;obtain ⟨⟨n,s⟩,o⟩:=h;simp only [gZ] at d;simp only [ki];split at d
  ·rename_i k;subst k;rw [if_pos rfl];cases d;simp [kR,n,o]
  ·rename_i k;rw [if_neg k];cases m:gZ a r with
   | none=>rw [m] at d;simp at d
   | some p=>rw [m] at d;simp at d;obtain ⟨rfl,rfl⟩:=d;obtain ⟨q,t⟩:=If (v:=v) (ev:=ev) o m;refine ⟨?_,by simpa using t⟩;simp only [kR,List.modify_succ_cons,List.map_cons,n,s] at q ⊢;rw [q]
theorem V0 {mt q:Nat} (r:P.underlying mt=some (.map c q)) (k:pC P c f g) {m:Nat} {ev:V->Value} {kvs:List ((Int×Int)×V)} {a:Int×Int} {v:V} {K:Hp->Prop} (o:mN h m ev kvs)
  (j:∀n,mN (h.set m n) m ev (ki a v kvs)->K (h.set m n)):qD P (Instr.mapUpdate mt (.map (some m)) (gu a) (ev v)) K h:=by
 obtain ⟨l,ck,d,b⟩:=o;unfold qD Instr.mapUpdate;refine (jB _ _).2 (uS r ?_);show bF P (getObj m>>=λo=>_) _ h;refine (jB _ _).2 ⟨_,d,rfl,?_⟩;show bF P (Instr.checkKey false 10000 c (gu a)>>=λ_=>_) _ h;refine (jB _ _).2 (Fx k ?_);refine (jB _ _).2 (Gb k (kvs:=kvs) (ev:=ev) b ?_);cases e:gZ a kvs with
 | none=>
  refine ⟨⟨_,d,rfl⟩,j _ ⟨l++ [{key:=gu a,val:=ev v,born:=ck}],ck+1,?_,?_⟩⟩
  ·rw [lP];simp
  ·rw [Hi e];unfold kR at b ⊢;simp [b]
 | some p=>
  obtain ⟨i,u⟩:=p;obtain ⟨t,w⟩:=If (v:=v) b e;show bF P (Instr.keyThatStays _ (gu a)>>=λ_=>_) _ h;rw [show ((l.toArray[i]?).map (·.key)).getD (gu a)=gu a by simp only [List.getElem?_toArray];rw [w];rfl];have s:Instr.sameBits 10000 (gu a) (gu a)=true:=by show Instr.sameBits (9998+2) (gu a) (gu a)=true;simp [gu,Instr.sameBits]
  unfold Instr.keyThatStays;rw [if_pos s];refine (jB _ _).2 ⟨⟨_,d,rfl⟩,j _ ⟨_,ck,?_,t⟩⟩;rw [lP];simp
theorem OU {mt b:Nat} (i:P.underlying mt=some (.map c b)) (k:pC P c f g) {m:Nat} {ev:V->Value} {kvs:List ((Int×Int)×V)} {a:Int×Int} {z:V} (o:mN h m ev kvs) (j:∀(K:Value->Hp->Prop),K (ev z) h->bF P (zeroValue b) K h):
  iK P (Instr.lookup mt (.map (some m)) (gu a) false) h (ev ((gY a kvs).getD z)):=by
 obtain ⟨n,ck,d,e⟩:=o;refine Ub ?_;unfold Instr.lookup;refine (jB _ _).2 (uS i ?_);show bF P ((getObj m>>=λo=>_)>>=λ_=>_) _ h;refine (jB _ _).2 ((jB _ _).2 ⟨_,d,rfl,?_⟩);show bF P (Instr.checkKey _ 10000 c (gu a)>>=λ_=>_) _ h;refine (jB _ _).2 (Fx k ?_);refine (jB _ _).2 (Gb k (kvs:=kvs) (ev:=ev) (by simpa using e) ?_);rw [Ie];cases l:gZ a kvs with
 | none=>refine (jB _ _).2 (j _ ?_);exact ⟨rfl,rfl⟩
 | some p=>exact ⟨rfl,rfl⟩
end
structure vD (c:bg) (t:ij):Prop where
 parts:t.parts.length=nP c
 procs:t.procs.length=nQ c
 part:∀x∈t.parts,FP x.ax x.an/\x.log.length<=4096
 proc:∀x∈t.procs,x.ah.length=nP c+1/\(0<=x.af/\x.af<x.ah.length)/\(∀l∈x.ah,LC c.lane l)/\0<=x.timer/\0<=x.cx
section
variable {h0 h1 k:Hp} {c:bg} {t:ij}
abbrev xA (c:bg) (t:ij) (g:List Addr) (own:Nat->Sl) (m:Nat->Nat->Int) (i:Nat):dg:=dg.first (λi=>jJ (g.getD i a0) (own i) (nQ c) (t.parts.getD i lX) (m i)) i
abbrev Ch (c:bg) (t:ij) (u:List Addr) (code:Nat->Sl) (j:Nat):dg:=dg.first (λp=>nV (u.getD p a0) p (az c p) (code p) c.lane (t.procs.getD p qa)) j
abbrev v7 (c:bg) (own:Nat->Sl) (j i:Nat):dg:=dg.first (λi=>dC 1 dZ (own i) ((xX c i j).map λ(q:Nat)=>(q:Int))) i
abbrev kS (c:bg) (t:ij) (pm:Addr) (x:aL) (g u:List Addr) (own code:Nat->Sl) (i j:Nat) (m:Nat->Nat->Int):dg:=
 q9 (dd Gh pm x) (xA c t g own m i) (Ch c t u code j) (dC 1 eP x.parts g) (dC 1 eP x.procs u) (v7 c own j i)
def sE (x:aL) (l:Sl):aL:={x with parts:=l}
def vA (x:aL) (l:Sl):aL:={x with procs:=l}
variable {pm:Addr} {x:aL} {g u:List Addr} {own code:Nat->Sl} {m:Nat->Nat->Int}
theorem Ju {b:Type} {l:List b} {a d:b} {i:Nat} (h:i=l.length):(l++ [a]).getD i d=a:=by grind
theorem Un {s:aU} {i:Nat} {Q:Hp->Prop} (b:eV h0 s t) (v:vD c t) (mc:cc c) (hi:i<nP c) (hp:g.length=i) (ex:x.procs=⟨none,0,0⟩)
  (o:Has h0 (kS c t pm x g [] (λ_=>⟨none,0,0⟩) code i 0 (λ_ _=>0)) k)
  (X:∀l a K,Has h0 (kS c t pm (sE x l) (g++ [a]) [] (λ_=>⟨none,0,0⟩) code (i+1) 0 (λ_ _=>0)) K->Q K):
  ((bD s.eg.base s.eg.len (i:Int))/\aQ none dJ k (sat s.eg.base 6 (i:Int)) λx=>
 aZ prog K7 [x.fc.v,x.iy.v] aj (ae .i64) (λr7 r8 F=>
 ag none (some pm) λd=>
 aQ none al F (Addr.add d 10) λe=>
 aa prog FA [x.Log.v] al (λr9 G=>
 (((aT G (Addr.add d 10) [e.v])/\(True/\(True/\(True/\True))))/\aa prog VJ [] aj (λb7 C=>
 (((aT C (Addr.add d 10) [e.v])/\(True/\(True/\(True/\True))))/\bq [(.slice none 0 0),(.int .i64 x.Cursor),r9.v,(.int .i64 x.qC),(.int .i64 x.gl),(.pointer r7),(.pointer b7)] (λa1 D=>
 (((aT D (Addr.add d 10) [e.v])/\True)/\bq [(.pointer (some a1))] (λa2 E=>
 (((aT E (Addr.add d 10) [e.v])/\True)/\fP 1 8 [(.pointer none)] e ⟨(some a2),1,1⟩ (λb8 U=>
 ag none (some pm) λp3=>
 cq U (Addr.add p3 10) [b8.v] (λV=>
 Q V)) E)) D)) C)) G)) F) k):=by
 obtain ⟨ps,Z,H⟩:=b.parts;have c1:=H.len;have e1:=v.parts;have c0:=mc.parts;refine s9 (sh:=dJ) (Rw.mono o.le Z) λ(y:cK) I=> ?_;rw [Int.toNat_natCast] at I;obtain ⟨z,J,f⟩:=H.get I;have b0:=List.mem_of_getElem? J;obtain ⟨lv,h⟩:=v.part z b0;have r:=f.mono o.le;obtain ⟨qs,a9,a8⟩:=r.an;refine Qf (MG lv r.ax a9 a8 λlp k2 L o2=> ?_);have on:=o.grow L;obtain ⟨g1,m1,p,iD⟩:=on.sR;refine aK (p.ld (shf:=al) x.parts rfl ?_);have R:=r.mono L;obtain ⟨T,W,Y⟩:=R.log;have b9:T.length=z.log.length:=by grind
 refine WS ?_;unfold NC;refine vr (enc:=λx=>aY (fN.enc x)) (bK.bE 83 zB rfl) W (by decide) (λ_=>rfl) (λ_=>rfl) rfl ⟨by omega,by omega⟩ λh k3 A B=> ?_;refine ⟨⟨(p.grow A).dQ (off:=10) (n:=1) (vs:=[x.parts.v]) rfl,trivial,trivial,trivial,trivial⟩,?_⟩;have B:Has k2 (dC 3 Di h z.log) k3:=by rw [<-Y];exact B.tV.DN uG λ_=>rfl
 refine Qg (MP (n:=2*nQ c) λP k4 M o4=> ?_);refine ⟨⟨((p.grow A).grow M).dQ (off:=10) (n:=1) (vs:=[x.parts.v]) rfl,trivial,trivial,trivial,trivial⟩,?_⟩;refine qn (sh:=vk) (⟨⟨none,0,0⟩,y.Cursor,h,y.qC,y.gl,some lp,some P⟩:aV) rfl λq k5 l5 o5=> ?_;refine ⟨⟨(((p.grow A).grow M).grow l5).dQ (off:=10) (n:=1) (vs:=[x.parts.v]) rfl,trivial⟩,?_⟩;have oN:Has k (jJ q ⟨none,0,0⟩ (nQ c) z (λ_=>0)) k5:=Has.zj (x:=(⟨⟨none,0,0⟩,y.Cursor,h,y.qC,y.gl,some lp,some P⟩:aV)) (((o2.beside B).beside o4).beside o5) ⟨f.af,f.lost,f.forbidden,rfl,rfl⟩;obtain ⟨g2,m2,oF,b3⟩:=o.sF;have O:=b3 _ _ (oF.beside oN);refine gh (enc:=eP) (xs:=[q]) rfl (λ_=>rfl) λa2 k6 N o6=> ?_;obtain ⟨g3,m3,b1,_⟩:=(O.grow N).sR;refine ⟨⟨b1.dQ (off:=10) (n:=1) (vs:=[x.parts.v]) rfl,trivial⟩,?_⟩;obtain ⟨g4,m4,oS,b5⟩:=(O.grow N).sS;refine oS.app (o6.ia λ_=>rfl) (λ_=>rfl) (λ_=>rfl) rfl ⟨by rw [hp,List.length_singleton];omega,by rw [hp,List.length_singleton];omega⟩ λw k7 o7=> ?_;have oB:=b5 _ _ o7;obtain ⟨g5,m5,b2,b4⟩:=oB.sR;refine aK (b2.st (sE x w) (off:=10) (new:=[w.v]) (by show 10+1<=12;omega) rfl λk8 o8=>X w q k8 ?_);have oC:=b4 _ _ o8;obtain ⟨g6,m6,oU,b6⟩:=oC.sU;have oD:=b6 _ _ (oU.beside (Has.jP (sz:=1) (enc:=dZ) (Hp.le_refl _)));refine cast ?_ oD;congr 1;have S:(xA c t g (λ_=>⟨none,0,0⟩) (λ_ _=>0) i).star (jJ q ⟨none,0,0⟩ (nQ c) z λ_=>0)=xA c t (g++ [q]) (λ_=>⟨none,0,0⟩) (λ_ _=>0) (i+1):=by show _=(dg.first (λi=>jJ ((g++ [q]).getD i a0) ⟨none,0,0⟩ (nQ c) (t.parts.getD i lX) λ_=>0) i).star (jJ ((g++ [q]).getD i a0) ⟨none,0,0⟩ (nQ c) (t.parts.getD i lX) λ_=>0);rw [Ju hp.symm,ou J];congr 1;exact rJ λj hj=>by grind
 rw [S];rfl
theorem Uo {s:aU} {co:aw} {j:Nat} {ci:List bd} {Q:Hp->Prop} (b:eV h0 s t) (v:vD c t) (K:cc c) (R:j<nQ c) (hp:u.length=j) (i9:g.length=nP c)
  (c1:co.gQ=c.lane) (c8:Rs h0 bJ 2 x.eZ ci) (b2:db (kE h0) ci c.procs) (c9:∀(p:Nat) y,ci[p]? =some y->code p=y.Code)
  (S:∀i id,i<nP c->m i id=if id / 2<j then mJ c (bW t) i id else 0)
  (o:Has h0 (kS c t pm x g u own code (nP c) j m) k)
  (hk:∀l a e9 b5 k',(∀i id,i<nP c->b5 i id=if id / 2<j+1 then mJ c (bW t) i id else 0)->Has h0 (kS c t pm (vA x l) g (u++ [a]) e9 code (nP c) (j+1) b5) k'->Q k'):
  ((bD s.aM.base s.aM.len (j:Int))/\aQ none bY k (sat s.aM.base 15 (j:Int)) λx=>
 ag none (some pm) λp2=>
 aQ none al k (Addr.add (Addr.add p2 0) 6) λY=>
 ((bD Y.base Y.len (j:Int))/\aQ none bJ k (sat Y.base 2 (j:Int)) λM=>
 aZ prog Lh [(.int .i64 co.gQ),x.iI.v,(.int .i64 x.Cursor)] aj (ae .i64) (λr7 r8 h9=>
 ag none (some pm) λW=>
 aQ none al h9 (Addr.add W 11) λZ=>
 bq [(.int .i64 (j:Int)),(.int .i64 M.Part),M.Code.v,(.int .i64 x.State),(.int .i64 x.PC),(.int .i64 x.cC),(.int .i64 x.cD),(.int .i64 x.cE),(.int .i64 x.cF),(.int .i64 x.cG),(.int .i64 x.cH),(.int .i64 x.cI),(.int .i64 x.cJ),(.bool x.lR),(.pointer r7)] (λa1 a9=>
 (((aT a9 (Addr.add W 11) [Z.v])/\True)/\bq [(.pointer (some a1))] (λa2 b0=>
 (((aT b0 (Addr.add W 11) [Z.v])/\True)/\fP 1 8 [(.pointer none)] Z ⟨(some a2),1,1⟩ (λr9 c4=>
 ag none (some pm) λp4=>
 cq c4 (Addr.add p4 11) [r9.v] (λI=>
 ag none (some pm) λp5=>
 aQ none al I (Addr.add p5 10) λx4=>
 ((bD x4.base x4.len M.Part)/\aQ none aj I (sat x4.base 1 M.Part) λN=>
 ag none N λp6=>
 aQ none al I (Addr.add p6 0) λx6=>
 bq [(.int .i64 (j:Int))] (λa3 c5=>
 fP 1 8 [(.int .i64 (0:Int))] x6 ⟨(some a3),1,1⟩ (λh2 c6=>
 ag none N λp7=>
 cq c6 (Addr.add p7 0) [h2.v] (λO=>
 bP (λk1=>
 (if (decide (x.Timer>(0:Int)))=true then
 ag none N λF=>
 aQ none aj O (Addr.add F 6) λG=>
 aa prog vn [(.int .i64 (j:Int))] (ae .i64) (λX C=>
 (((aT C (Addr.add F 6) [(.pointer G)])/\(True/\True))/\aa prog vj [(.pointer G),(.int .i64 X),(.int .i64 x.Timer)] (ae .i64) (λh3 J=>
 k1 J) C)) O
 else
 k1 O))
 (λC=>
 (if (decide (x.qH>(0:Int)))=true then
 ag none N λF=>
 aQ none aj C (Addr.add F 6) λG=>
 aa prog wx [(.int .i64 (j:Int))] (ae .i64) (λX J=>
 (((aT J (Addr.add F 6) [(.pointer G)])/\(True/\True))/\aa prog vj [(.pointer G),(.int .i64 X),(.int .i64 x.qH)] (ae .i64) (λh3 c7=>
 Q c7) J)) C
 else
 Q C)))) c5) I))) b0)) a9)) h9) k)):=by
 obtain ⟨ps,d4,b1⟩:=b.procs;have i6:=b1.len;have e1:=v.procs;have i5:=K.parts;have i7:=K.procs;refine s9 (sh:=bY) (Rw.mono o.le d4) λ(y:bB) hy=> ?_;rw [Int.toNat_natCast] at hy;obtain ⟨z,T,A⟩:=b1.get hy;have d5:=List.mem_of_getElem? T;obtain ⟨v1,v2,v3,v4,v5⟩:=v.proc z d5;obtain ⟨g1,m1,V,iD⟩:=o.sR;refine aK (V.ld (shf:=al) x.eZ (off:=6) rfl ?_);have i1:=b2.len;have i3:nQ c=c.procs.length:=rfl;refine s9 (sh:=bJ) (Rw.mono o.le c8) λ(H:bd) P=> ?_;rw [Int.toNat_natCast] at P;obtain ⟨E,b3,b7,_⟩:=b2.get P;have d0:=List.mem_of_getElem? b3;have i4:=K.part E d0;have h5:az c j=E.part.toNat:=by unfold az;rw [b3];rfl
 have b9:=c9 j H P;rw [b7];have b6:=A.mono o.le;obtain ⟨ls,d3,d1⟩:=b6.ah;have d2:=K.lane;rw [c1,A.af];refine QZ (Oe d2 (by omega) v2 d3 d1 v3 λa k2 l2 o2=> ?_);refine aK ((V.grow l2).ld (shf:=al) x.procs rfl ?_);refine qn (sh:=aX) (⟨(j:Int),E.part,H.Code,y.State,y.PC,y.cC,y.cD,y.cE,y.cF,y.cG,y.cH,y.cI,y.cJ,y.lR,some a⟩:aF) rfl λq k3 l3 o3=> ?_;refine ⟨⟨((V.grow l2).grow l3).dQ (off:=11) (n:=1) (vs:=[x.procs.v]) rfl,trivial⟩,?_⟩;have c0:fR (dG (⟨(j:Int),E.part,H.Code,y.State,y.PC,y.cC,y.cD,y.cE,y.cF,y.cG,y.cH,y.cI,y.cJ,y.lR,some a⟩:aF))=z.core:=by show (⟨y.PC,[y.cC,y.cD,y.cE,y.cF,y.cG,y.cH,y.cI,y.cJ]⟩:Core)=⟨z.pc,z.bf⟩;rw [A.pc,A.bf]
 have oN:Has k (nV q j (az c j) (code j) c.lane z) k3:=by rw [b9];exact Has.zk (z:=(⟨(j:Int),E.part,H.Code,y.State,y.PC,y.cC,y.cD,y.cE,y.cF,y.cG,y.cH,y.cI,y.cJ,y.lR,some a⟩:aF)) (o2.beside o3) ⟨rfl,by grind,A.state,c0,A.bN,rfl⟩
 obtain ⟨g2,m2,oG,f4⟩:=o.sG;have oA:=f4 _ _ (oG.beside oN);refine gh (enc:=eP) (xs:=[q]) rfl (λ_=>rfl) λa2 k4 l4 o4=> ?_;obtain ⟨g3,m3,e6,_⟩:=(oA.grow l4).sR;refine ⟨⟨e6.dQ (off:=11) (n:=1) (vs:=[x.procs.v]) rfl,trivial⟩,?_⟩;obtain ⟨g4,m4,oT,f8⟩:=(oA.grow l4).sT;refine oT.app (o4.ia λ_=>rfl) (λ_=>rfl) (λ_=>rfl) rfl ⟨by rw [hp,List.length_singleton];omega,by rw [hp,List.length_singleton];omega⟩ λU k5 o5=> ?_;have oB:=f8 _ _ o5;obtain ⟨g5,m5,e7,f7⟩:=oB.sR;refine aK (e7.st (vA x U) (off:=11) (new:=[U.v]) (by show 11+1<=12;omega) rfl λk6 o6=> ?_);have L:=f7 _ _ o6;obtain ⟨g6,m6,e8,l6⟩:=L.sR;refine aK (e8.ld (shf:=al) x.parts rfl ?_);have D:az c j<nP c:=by omega
 obtain ⟨g7,m7,oS,_⟩:=L.sS;have rs:Rs k6 aj 1 x.parts (g.map some):=(oS.ia (λ_=>rfl)).map (f:=some) (enc:=λx=>aY (aj.enc x));refine rs.get (λ_=>rfl) (by omega) (by omega) (by grind) λ(w:Option Addr) hw=> ?_;have ew:w=some (g.getD (az c j) a0):=by grind
 subst ew;obtain ⟨g8,m8,oF,l1⟩:=L.sF;obtain ⟨g9,m9,d,_,l5⟩:=oF.one D;obtain ⟨px,d⟩:=Has.ex.1 d;obtain ⟨lp,d⟩:=Has.ex.1 d;obtain ⟨wp,d⟩:=Has.ex.1 d;obtain ⟨d,eP⟩:=d.iC;refine aK ((Has.left d).ld (shf:=al) (off:=0) px.procs rfl ?_);rw [eP.1];obtain ⟨h6,j0,oU,f9⟩:=L.sU;obtain ⟨h7,j1,oO,_,fG⟩:=oU.one D;have i2:((xX c (az c j) j).map λ(q:Nat)=>(q:Int)).length<=j:=by rw [List.length_map];exact Nat.le_trans (List.length_filter_le ..) (by simp)
 refine oO.push (e:=(j:Int)) rfl (λ_=>rfl) (λ_=>rfl) rfl ⟨by omega,by omega⟩ λB k7 o7=> ?_;have oD:=f9 _ _ (fG _ _ o7);obtain ⟨h8,j2,d9,f0⟩:=oD.sF;obtain ⟨c3,k0,r,_,f5⟩:=d9.one D;obtain ⟨g0,r⟩:=Has.ex.1 r;obtain ⟨d7,r⟩:=Has.ex.1 r;obtain ⟨h4,r⟩:=Has.ex.1 r;obtain ⟨r,b8⟩:=r.iC;obtain ⟨i0,l0,e0,_,f6⟩:=r.fst;refine aK (e0.st ({g0 with procs:=B}:aV) (off:=0) (new:=[B.v]) (by show 0+1<=7;omega) rfl λk8 o8=> ?_);have oQ:Has c3 (jJ (g.getD (az c j) a0) B (nQ c) (t.parts.getD (az c j) lX) (m (az c j))) k8:=Has.ex.2 ⟨_,Has.ex.2 ⟨d7,Has.ex.2 ⟨h4,(f6 _ _ o8).eB ⟨rfl,b8.2⟩⟩⟩⟩;have c2:=S (az c j);refine bP.direct ?_;rw [A.timer];refine Ia (id:=2*j) oQ (by omega) (by omega) (by grind) v4 (λh=>Gl (by unfold KR;rw [aH];grind)) λk9 o9=> ?_;rw [A.cx];refine Ia (id:=2*j+1) o9 (by omega) (by omega) (by rw [ku (by omega),c2 _ D,if_neg (by omega)]) v5 (λh=>Gm (by unfold KS;rw [show yw (2*(j:Int))=2*(j:Int) from aH,aH];grind)) λd6 d8=> ?_;have oE:=f0 _ _ (f5 _ _ d8);have a8:(bW t).proc j=z:=ou T;refine hk U q (cn own (az c j) B) (cn m (az c j) (cn (cn (m (az c j)) (2*j) z.timer) (2*j+1) z.cx)) d6 (λi id b4=> ?_) ?_
 ·by_cases e:i=az c j
  ·subst e;rw [kM];by_cases e2:id=2*j+1
   ·subst e2;rw [kM,if_pos (by omega)];unfold mJ;rw [show (2*j+1) / 2=j by omega,if_pos ⟨R,rfl⟩,if_neg (by omega),a8]
   ·rw [ku e2];by_cases e3:id=2*j
    ·subst e3;rw [kM,if_pos (by omega)];unfold mJ;rw [show (2*j) / 2=j by omega,if_pos ⟨R,rfl⟩,if_pos (by omega),a8]
    ·rw [ku e3,S _ _ b4];omega
  ·rw [ku e,S _ _ b4];by_cases e4:id / 2<j
   ·omega
   ·rw [if_neg e4];split
    ·unfold mJ;rw [if_neg ?_];rintro ⟨_,e5⟩;exact e (by rw [<-e5];congr 1;omega)
    ·rfl
 ·refine cast ?_ oE;congr 1;have eG:(Ch c t u code j).star (nV q j (az c j) (code j) c.lane z)=Ch c t (u++ [q]) code (j+1):=by show _=(dg.first (λp=>nV ((u++ [q]).getD p a0) p (az c p) (code p) c.lane (t.procs.getD p qa)) j).star (nV ((u++ [q]).getD j a0) j (az c j) (code j) c.lane (t.procs.getD j qa));rw [Ju hp.symm,ou T];congr 1;exact rJ λj R=>by grind
  have eU:dg.first (cn (λi=>dC 1 dZ (own i) ((xX c i j).map λ(q:Nat)=>(q:Int))) (az c j) (dC 1 dZ B ((xX c (az c j) j).map (λ(q:Nat)=>(q:Int))++ [(j:Int)]))) (nP c)=v7 c (cn own (az c j) B) (j+1) (nP c):=by
   refine rJ λi D=> ?_;by_cases e:i=az c j
   ·subst e;rw [kM,kM,Js,if_pos rfl,List.map_append];rfl
   ·rw [ku e,ku e,Js,if_neg (Ne.symm e)]
  have eF:dg.first (cn (λi=>jJ (g.getD i a0) (own i) (nQ c) (t.parts.getD i lX) (m i)) (az c j) (jJ (g.getD (az c j) a0) B (nQ c) (t.parts.getD (az c j) lX) (cn (cn (m (az c j)) (2*j) z.timer) (2*j+1) z.cx))) (nP c)=xA c t g (cn own (az c j) B) (cn m (az c j) (cn (cn (m (az c j)) (2*j) z.timer) (2*j+1) z.cx)) (nP c):=by
   refine rJ λi D=> ?_;by_cases e:i=az c j
   ·subst e;rw [kM,kM,kM]
   ·rw [ku e,ku e,ku e]
  rw [eG,eU,eF];rfl
theorem OW {x:aw} {s:aU} {Q:Option Addr->Hp->Prop} (a:eu k x c) (b:eV k s t) (hu:∀l∈c.labels,nx l) (I:(iL c).1=0) (v:vD c t)
  (hq:∀K pm m h1 d,K.c=c->dq h1 K->k<=h1->Has h1 (aA K pm (bW t) m) d->eH c m (bW t)->Q (some pm) d):Te prog x s Q k:=by
 have G:=sk I;have hm:(iQ c.labels).1=0:=by unfold iL at I;exact (nZ.1 I).1
 unfold Te;have d0:=G.parts;have d2:=G.procs;have b0:=G.table;have c8:nP c=c.labels.length:=rfl;have d1:nQ c=c.procs.length:=rfl;refine ZD (VT a (by omega) (by omega) (by omega) (λy L=>by have:=(G.code y L).1;omega) λr T o1 e1 e2 e3 e4=> ?_);refine ⟨⟨trivial,trivial⟩,?_⟩;obtain ⟨B,hB,_⟩:=(De o1 e1 e2 e3 e4).WI;have U:=o1.le;have ar:eu T r c:=hB.rd;have a1:=a.mono U;have c9:x.aN.len=c.labels.length:=a.labels.1;refine qn (sh:=Gh) (⟨r.aN,r.Table,r.Fuel,r.gQ,r.bG,r.Log,r.aM,none,none,s.jx,⟨none,0,0⟩,⟨none,0,0⟩⟩:aL) rfl λpm k2 q o2=> ?_;refine Hf (s1:=aj) (s2:=ae .i64) (s3:=ae .i64) (K0:=λp _ _ z=>T<=z/\∃w,p=some w/\qG z w c.labels) o2 (Qe (N4 a1.labels (λe=>absurd hm e) λ_ w z E ht=>⟨E,w,rfl,ht⟩)) ?_;rintro r1 r2 r3 h3 k3 ⟨l3,w,rfl,hT⟩ o3;refine aK (o3.st (⟨r.aN,r.Table,r.Fuel,r.gQ,r.bG,r.Log,r.aM,some w,none,s.jx,⟨none,0,0⟩,⟨none,0,0⟩⟩:aL) (off:=7) (new:=[.pointer (some w)]) (by show 7+1<=12;omega) rfl λk4 o4=> ?_);have a3:=a1.mono l3;refine Hf (s1:=aj) (s2:=ae .i64) (s3:=ae .i64) (K0:=λp _ _ z=>h3<=z/\∃sp,p=some sp/\∃(sl:Sl) (n:Int),aT z sp [sl.v,.int .i64 n]/\Is z sl c.table) o4 (Ti (F9 a3.table (n:=(x.aN.len:Int)) (by omega) (by omega) b0.1 b0.2.1 (λi J=>by grind) λsp i sl z E hl hs=>⟨E,sp,rfl,sl,_,hl,hs⟩)) ?_;rintro r4 r5 r6 A k5 ⟨l5,sp,rfl,sl,sn,hL,hS⟩ o5;refine aK (o5.st (⟨r.aN,r.Table,r.Fuel,r.gQ,r.bG,r.Log,r.aM,some w,some sp,s.jx,⟨none,0,0⟩,⟨none,0,0⟩⟩:aL) (off:=8) (new:=[.pointer (some sp)]) (by show 8+1<=12;omega) rfl λD o6=> ?_);have V:T<=A:=Hp.le_trans l3 l5;have H:eV A s t:=b.mono (Hp.le_trans U V);have Z:=ar.mono V;obtain ⟨ci,b4,P⟩:=Z.procs;obtain ⟨code,b6⟩:∃code:Nat->Sl,∀(p:Nat) y,ci[p]? =some y->code p=y.Code:=⟨λp=>((ci[p]?).map (·.Code)).getD ⟨none,0,0⟩,λp y h=>by grind⟩;obtain ⟨X,C⟩:∃X:aL,X=⟨r.aN,r.Table,r.Fuel,r.gQ,r.bG,r.Log,r.aM,some w,some sp,s.jx,⟨none,0,0⟩,⟨none,0,0⟩⟩:=⟨_,rfl⟩;rw [<-C] at o6;have c7:=P.len;have zu:Has A (kS c t pm X [] [] (λ_=>⟨none,0,0⟩) code 0 0 (λ_ _=>0)) D:=by
  have f1:Has D (dg.fact True) D:=Has.fact trivial (Hp.le_refl _);have n1:Has D (dC 1 eP X.parts []) D:=by rw [C];exact Has.jP (Hp.le_refl _)
  have n2:Has D (dC 1 eP X.procs []) D:=by grind
  exact (o6.beside (f1.beside f1)).beside (n1.beside (n2.beside f1))
 obtain ⟨ps,c0,b3⟩:=H.parts;obtain ⟨qs,c2,c1⟩:=H.procs;have e5:=b3.len;have e6:=c1.len;have e7:=v.parts;have e8:=v.procs;have e9:s.eg.len=ps.length:=c0.1;have c6:s.aM.len=qs.length:=c2.1;refine ay.intro (λ(i:Int) d=>0<=i/\i<=(nP c:Int)/\∃(l:Sl) (g:List Addr),g.length=i.toNat/\Has A (kS c t pm (sE X l) g [] (λ_=>⟨none,0,0⟩) code i.toNat 0 (λ_ _=>0)) d) (λi _=>(nP c-i).toNat) ⟨by omega,by omega,X.parts,[],rfl,zu⟩ ?_;rintro i k7 ⟨i0,i1,l,g,hp,o⟩;by_cases h:i<(nP c:Int)
 ·rw [if_pos (gI)];have a8:((i.toNat:Nat):Int)=i:=by omega
  have key:=Un (x:=sE X l) (i:=i.toNat) (Q:=λd=>(0<=yw (i+1)/\yw (i+1)<=(nP c:Int)/\∃(l:Sl) (g:List Addr),g.length=(yw (i+1)).toNat/\Has A (kS c t pm (sE X l) g [] (λ_=>⟨none,0,0⟩) code (yw (i+1)).toNat 0 (λ_ _=>0)) d)/\(nP c-yw (i+1)).toNat<(nP c-i).toNat) H v G (by omega) hp (by rw [C];rfl) o λE N d W=>by rw [aH];refine ⟨⟨by omega,by omega,E,g++ [N],by rw [List.length_append,List.length_singleton];omega,?_⟩,by omega⟩;rw [show (i+1).toNat=i.toNat+1 by omega];exact W
  grind
 ·rw [if_neg (λe=>h (by grind))];have ei:i.toNat=nP c:=by omega
  rw [ei] at o hp;refine ay.intro (λ(j:Int) d=>0<=j/\j<=(nQ c:Int)/\∃(q:Sl) (u:List Addr) (own:Nat->Sl) (m:Nat->Nat->Int),u.length=j.toNat/\(∀i id,i<nP c->m i id=if id / 2<j.toNat then mJ c (bW t) i id else 0)/\Has A (kS c t pm (vA (sE X l) q) g u own code (nP c) j.toNat m) d) (λj _=>(nQ c-j).toNat) ⟨by omega,by omega,X.procs,[],λ_=>⟨none,0,0⟩,λ_ _=>0,rfl,λ_ _ _=>(by simp),o⟩ ?_;rintro j k8 ⟨j0,j1,q,u,own,m,R,S,o⟩;by_cases hj:j<(nQ c:Int)
  ·rw [if_pos (gI)];have a8:((j.toNat:Nat):Int)=j:=by omega
   refine bP.direct ?_;have key:=Uo (x:=vA (sE X l) q) (j:=j.toNat) (Q:=λd=>(0<=yw (j+1)/\yw (j+1)<=(nQ c:Int)/\∃(q:Sl) (u:List Addr) (own:Nat->Sl) (m:Nat->Nat->Int),u.length=(yw (j+1)).toNat/\(∀i id,i<nP c->m i id=if id / 2<(yw (j+1)).toNat then mJ c (bW t) i id else 0)/\Has A (kS c t pm (vA (sE X l) q) g u own code (nP c) (yw (j+1)).toNat m) d)/\(nQ c-yw (j+1)).toNat<(nQ c-j).toNat) H v G (by omega) R hp a.lane (by rw [C];exact b4) P b6 S o λE N c4 c5 d c3 W=>by rw [aH,show (j+1).toNat=j.toNat+1 by omega];exact ⟨⟨by omega,by omega,E,u++ [N],c4,c5,by grind,c3,W⟩,by omega⟩
   rw [a8] at key;exact key
  ·rw [if_neg (λe=>hj (by grind))];have ej:j.toNat=nQ c:=by omega
   rw [ej] at o R S;obtain ⟨O,F,o9,⟨F2,b2,b8⟩,_⟩:=o.fst;have Y:Has A ((dC 1 eP (vA (sE X l) q).parts g).star ((dC 1 eP (vA (sE X l) q).procs u).star (v7 c own (nQ c) (nP c)))) O:=⟨F,F2,b2,b8⟩;have b1:=Z.mono F;have a9:∀p:Nat,∃M:List bc,∀y,ci[p]? =some y->ny O y.Code M/\M.map bA=jj c p:=λp=>by
    cases L:ci[p]? with
    | none=>simp
    | some y=>obtain ⟨cz,b7,_,M,h1,h2⟩:=P.get L;refine ⟨M,λy' e=> ?_⟩;cases e;exact ⟨Rw.mono F h1,by rw [h2];unfold jj;rw [b7];rfl⟩
   obtain ⟨ins,a9⟩:=Classical.axiomOfChoice a9;refine hq ⟨c,vA (sE X l) q,w,sp,g,u,own,code,ins⟩ pm m O k8 rfl ?_ (Hp.le_trans (Hp.le_trans U V) F) ?_ (λi id J=> ?_)
   ·refine ⟨I,hu,?_,by rw [C];rfl,hT.mono (Hp.le_trans l5 F),by rw [C];rfl,⟨sl,sn,om F hL,Rw.mono F hS⟩,hp,(Y.left.ia λ_=>rfl).map (f:=some) (enc:=λx=>aY (aj.enc x)),R,(Y.right.left.ia λ_=>rfl).map (f:=some) (enc:=λx=>aY (aj.enc x)),λi J=> ?_,λp hp=> ?_,λp hp=>G.eJ⟩
    ·rw [C];exact b1
    ·exact ((Y.right.right.at_ J).ia λ_=>rfl)
    ·have b9:p<ci.length:=by have:p<nQ c:=hp;omega
     have L:=List.getElem?_eq_getElem b9;grind
   ·have et:qi (vA (sE X l) q) (bW t).tick=vA (sE X l) q:=by
     have e:X.tick=(bW t).tick:=by rw [C];exact b.tick
     rw [<-e];rfl
    unfold aA;dsimp only;rw [et];exact o9
   ·rw [S i id J];split
    ·rfl
    ·unfold mJ;omega
end
section
variable {c:bg} {fl:Nat->Nat->Bool} {t:ij} {T:Int}
theorem OY (m:cc c) (g:Good c fl (bW t) No No T) (hp:t.parts.length=nP c) (H:t.procs.length=nQ c):vD c t:=by
 have v:=g.qe m;have B:∀i x,t.parts[i]? =some x->i<nP c/\(bW t).part i=x:=λi x h=>⟨by grind,ou h⟩;have C:∀i x,t.procs[i]? =some x->i<nQ c/\(bW t).proc i=x:=λi x h=>⟨by grind,ou h⟩;have R:=m.ai;refine ⟨hp,H,λx j=> ?_,λx j=> ?_⟩
 ·obtain ⟨i,b⟩:=List.mem_iff_getElem?.1 j;obtain ⟨a,rfl⟩:=B i x b;have sp:=v.part i a;have pm:=g.part i a;refine ⟨⟨⟨sp.gG,by have:=pm.gG;omega⟩,λo s=> ?_,λk o q s u=> ?_,λJ K q L n D S z d I=> ?_⟩,sp.jy⟩
  ·obtain ⟨k,E⟩:=List.mem_iff_getElem?.1 s;rcases g.own i a k o E with h | h<;>omega
  ·obtain ⟨w,y,A⟩:=g.jh i a k q u;refine ⟨sp.mh.2 q (List.mem_of_getElem? u),λe=> ?_,λz d=>⟨(y z d).1,λe=> ?_⟩,w⟩
   ·grind
   ·obtain ⟨W,n,_,Q⟩:=A (List.ne_nil_of_mem d);grind
  ·have M:=(g.jh i a J q n).2.1 z I;have N:=(g.jh i a K L D).2.1 z d;rcases M.2.2.2.2 with h | ⟨_,U,a1,_,a3⟩
   ·exact h
   ·rcases N.2.2.2.2 with h | ⟨_,V,O,_,P⟩
    ·exact h
    grind
 ·obtain ⟨p,G⟩:=List.mem_iff_getElem?.1 j;obtain ⟨f,rfl⟩:=C p x G;have sp:=v.proc p f;have pm:=g.proc p f;refine ⟨sp.len,sp.cur,λl r=> ?_,pm.mG.1,pm.mH.1⟩;obtain ⟨i,b⟩:=List.mem_iff_getElem?.1 r;have sl:=sp.dK l r;exact ⟨(pm.dK i l b).1,λF=>((g.dK p f i l b).2.1 F).2.2,sl.taken,sl.dropped,sl.nd,sl.waiters⟩
end
section
variable {h:Hp}
theorem S7 {P:Program} {n:Int} {Q:Int->Int->Hp->Prop} (b:0<=n/\n<=8) (a:Q 0 n h):Gr P 1 n Q h:=by
 unfold Gr;have:n=0\/n=1\/n=2\/n=3\/n=4\/n=5\/n=6\/n=7\/n=8:=by omega
 refine ⟨by decide,by decide,by decide,by decide,by decide,?_⟩;rcases this with rfl | rfl | rfl | rfl | rfl | rfl | rfl | rfl | rfl<;>exact a
theorem kN {v:Value}:∀ {n:Nat},eS [v] n=List.replicate n v
 | 0=>rfl
 | n+1=>by unfold eS;simp
theorem Wc :∀ {n:Nat} {v:Int},iF (List.replicate n (Value.int .i64 v))=true
 | 0,_=>rfl
 | n+1,v=>by rw [List.replicate_succ];show (iF [Value.int .i64 v]&&iF (List.replicate n (Value.int .i64 v)))=true;rw [Wc];rfl
theorem V3 {a:Addr} {v n:Int} {Q:Sl->Hp->Prop} (y:aT h a [.int .i64 v]) (w:0<=n/\n<=8) (p:∀l g,h<=g->Is g l (List.replicate n.toNat v)->Q l g):PO prog ⟨some a,1,1⟩ n Q h:=by
 unfold PO;refine bP.direct ?_;rw [if_neg (by simp;omega)];refine ZJ ?_;unfold Ya;refine XB ?_;rw [show IntKind.wrap .u64 (((⟨some a,1,1⟩:Sl).len:Nat):Int)=1 from rfl,show IntKind.wrap .u64 n=n from uq ⟨by omega,by omega⟩];refine S7 w (bP.direct ?_);refine aI ?_;rw [show (decide ((0:Int)>0) || decide (n>9223372036854775807))=false by simp;omega,if_neg (by decide)];obtain ⟨m,rfl⟩:∃m:Nat,n=(m:Int):=⟨n.toNat,by omega⟩;rw [aH];rw [Int.toNat_natCast] at p;refine ⟨⟨by omega,by omega,by omega,by omega⟩,λb ty hb=> ?_⟩;rw [Int.toNat_natCast,kN];have q:=kP (o:=.cells (List.replicate m (Value.int .i64 0)).toArray ty (0,0)) hb;have B:fH (h.set b (.cells (List.replicate m (Value.int .i64 0)).toArray ty (0,0))) b (List.replicate m (Value.int .i64 0)):=⟨ty,lP⟩;have cv:∀ {k d:Hp},h<=k->Mv [b] k [b] d->h<=d:=λu m c s e=>m.cv c s (u c s e) λG=>by grind
 refine BM (sz:=1) B (x:=⟨some a,1,1⟩) (n:=min 1 m) (new:=List.replicate (min 1 m) (Value.int .i64 v)) rfl ⟨by simp,?_⟩ Wc (by simp;omega) λJ E C=> ?_
 ·by_cases e:m=0
  ·omega
  ·refine .inr ⟨a,rfl,?_⟩;rw [show min 1 m=1 by omega];exact om q y
 ·refine ay.intro (λ(i:Int) d=>∃j:Nat,i=(j:Int)/\j<=m/\(1<=j\/m=0)/\h<=d/\fH d b (List.replicate j (Value.int .i64 v)++List.replicate (m-j) (Value.int .i64 0))) (λi _=>(m-i).toNat) ⟨min 1 m,rfl,by omega,by omega,cv q E,by simpa using C⟩ ?_;rintro i z ⟨j,rfl,H,I,r,f⟩;by_cases t:j<m
  ·rw [if_pos (decide_eq_true (by grind))];refine ⟨⟨by omega,by grind⟩,aI ⟨⟨by omega,by grind⟩,aI ?_⟩⟩;rw [Int.toNat_natCast];dsimp only;rw [sA (by omega),FK,Nat.zero_add,Nat.mul_one];refine BM (sz:=1) f (n:=min j (m-j)) (new:=List.replicate (min j (m-j)) (Value.int .i64 v)) rfl ?_ Wc (by simp;omega) λA F D=> ?_
   ·refine f.rd (by simp) ?_;grind
   ·rw [aH];refine ⟨⟨j+min j (m-j),by omega,by omega,by omega,cv r F,cast (congrArg (fH A b) ?_) D⟩,by omega⟩;rw [List.take_append_of_le_length (by simp),List.take_of_length_le (by simp),List.drop_append,List.drop_eq_nil_of_le (by simp),List.nil_append,List.drop_replicate,List.length_replicate,List.replicate_append_replicate];congr 2;omega
  ·rw [if_neg (λe=>t (by grind))];have:j=m:=by omega
   subst this;refine p _ z r ⟨by simp,by rw [List.flatMap_replicate];show (eS [Value.int .i64 v] j).length=_;rw [kN];simp,?_⟩;by_cases e:j=0
   ·grind
   ·refine .inr ⟨⟨b,0,none⟩,rfl,?_⟩;rw [Nat.sub_self] at f;refine f.mY (off:=0) (n:=j) ?_;rw [List.drop_zero,List.replicate_zero,List.append_nil,List.take_of_length_le (by simp),List.flatMap_replicate];exact kN.symm
end
section
variable {h0 h1 k:Hp} {A:dg}
theorem AN {h:Hp} {b c:Nat} {d:Obj} (a:c≠b):(h.set b d) c=h c:=by simp [Hp.set,a]
theorem AO {cs:List Value} {K:Addr->Hp->Prop} (o:Has h1 A k) (m:∀a f i,h1<=f->aT f a cs->Has f A i->K a i):bq cs K k:=by
 intro b t hb;obtain ⟨h,F,a,l⟩:=o;have j:h1 b=none:=uK h hb;refine m _ (h1.set b (.cells cs.toArray t (0,0))) _ (kP j) xk ⟨λc n e=> ?_,F,A.same a λc d=> ?_,λc d=> ?_⟩
 ·by_cases g:c=b
  ·subst g;rw [lP] at e ⊢;exact e
  ·rw [AN g] at e ⊢;exact h c n e
 ·have:c≠b:=λe=>A.known a c d (by rw [e];exact hb);exact AN this
 ·have:c≠b:=λe=>A.known a c d (by rw [e];exact hb);rw [AN this];exact l c d
theorem Hj {e:Type} {sz bytes:Nat} {enc:e->List Value} {zero:List Value} {z:e} {n:Int} {K:Sl->Hp->Prop} (o:Has h1 A k) (i:zero=enc z) (f:∀x,(enc x).length=sz) (p:0<=n/\n<=1000) (hb:bytes<=1000)
  (g:∀l d c,h1<=d->Rw d sz enc l (List.replicate n.toNat z)->Has d A c->K l c):dw bytes zero n n K k:=by
 have m:n.toNat*bytes<=1000*1000:=Nat.mul_le_mul (by omega) hb;refine ⟨⟨by omega,by omega,by omega,by omega⟩,λb t hb=> ?_⟩;refine AO (cs:=eS zero n.toNat) (K:=λa c=>K ⟨some a,n.toNat,n.toNat⟩ c) o (λa d c l h j=>g _ d c l ⟨by simp,?_,.inr ⟨a,rfl,?_⟩⟩ j) b t hb
 ·rw [List.flatMap_replicate,List.length_flatten,List.map_replicate,f,List.sum_replicate_nat,List.length_replicate]
 ·rw [List.flatMap_replicate,<-i];exact h
theorem xa {d:Type} {sz bytes:Nat} {enc:d->List Value} {zero:List Value} {z:d} {n:Int} {K:Sl->Hp->Prop} (j:zero=enc z) (h:∀x,(enc x).length=sz) (o:0<=n/\n<=1000) (hb:bytes<=1000)
  (i:∀l a,k<=a->Has k (fm sz enc l (List.replicate n.toNat z)) a->K l a):dw bytes zero n n K k:=by
 have m:n.toNat*bytes<=1000*1000:=Nat.mul_le_mul (by omega) hb;refine ⟨⟨by omega,by omega,by omega,by omega⟩,λb t hb=> ?_⟩;have e:(List.replicate n.toNat z).flatMap enc=eS zero n.toNat:=by rw [List.flatMap_replicate,j];rfl
 have f:(eS zero n.toNat).length=n.toNat*sz:=by rw [<-e,List.flatMap_replicate,List.length_flatten,List.map_replicate,h,List.sum_replicate_nat]
 refine i _ _ (kP hb) ⟨kP hb,λc=>c=b,⟨[b],⟨by rw [List.length_replicate],Nat.le_refl _,.inr ⟨b,eS zero n.toNat,rfl,rfl,⟨t,lP⟩,f,?_⟩⟩,λc=>by simp⟩,λc g=>by rw [g];exact hb⟩;grind
end
abbrev eX :cK->List Value:=λx=>aY (dJ.enc x)
abbrev eY :bB->List Value:=λx=>aY (bY.enc x)
def zX :cK:=⟨0,⟨none,0,0⟩,0,0,⟨none,0,0⟩,⟨none,0,0⟩⟩
def zY :bB:=⟨0,0,0,0,0,0,0,0,0,0,0,0,false,0,⟨none,0,0⟩⟩
def zL :bM:=⟨⟨none,0,0⟩,⟨none,0,0⟩,0,0⟩
def uZ (ai:Int):dx:=⟨0,[],0,0,List.replicate ai.toNat (-1),List.replicate ai.toNat []⟩
def u3 (n:Nat):ak:=⟨0,0,List.replicate 8 0,0,0,false,0,List.replicate n ⟨[],[],0,0⟩⟩
theorem Bp {c d:Type} {R:c->d->Prop} {a:c} {b:d} (h:R a b):∀ {n:Nat},db R (List.replicate n a) (List.replicate n b)
 | 0=>trivial
 | n+1=>⟨h,Bp h⟩
theorem AP {c d:Type} {R:c->d->Prop} {a:c} {b:d} (h:R a b):∀ {l:List c} {m:List d},db R l m->db R (l++ [a]) (m++ [b])
 | [],[],_=>⟨h,trivial⟩
 | _::_,_::_,k=>⟨k.1,AP h k.2⟩
section
variable {h0 hb k:Hp} {r r1:Sl} {i:Nat}
theorem Has.vd {sz:Nat} {sh:Shape} {l:Sl} {b:List sh.T} (o:Has h0 (fm sz (λx=>aY (sh.enc x)) l b) k) (a:∀x,(aY (sh.enc x)).length=sz) (c:0<sz) (d:i<b.length):bD l.base l.len (i:Int):=
 (Rs.get (sh:=sh) (K:=λ_=>True) (o.nf a) a c (by omega) (by omega) λ_ _=>trivial).1
theorem Se {rows:List cK} {ai:Int} {K:Hp->Prop} {B:dg} (o:Has hb ((fm 6 eX r rows).star B) k) (hi:rows[i]? =some zX) (S:0<=ai/\ai<=8)
  (hk:∀x c b,hb<=c->jI c x (uZ ai)->Has c ((fm 6 eX r (rows.set i x)).star B) b->K b):
  (bq [(.int .i64 (-1:Int))] (λa M=>
 ((True/\(True/\(True/\(True/\True))))/\(aa prog rI [(.slice (some a) 1 1),(.int .i64 ai)] al (λr2 G=>
 ((True/\(True/\(True/\True)))/\((bD r.base r.len (i:Int))/\(dw 24 [(.slice none 0 0)] ai ai (λE w=>
 ((True/\(True/\True))/\cq w (Addr.add (sat r.base 6 (i:Int)) 4) [r2.v] (λy=>
 ((True/\True)/\((bD r.base r.len (i:Int))/\cq y (Addr.add (sat r.base 6 (i:Int)) 5) [E.v] (λA=>
 K A)))))) G/\cq G (Addr.add (sat r.base 6 (i:Int)) 4) [r2.v] (λw=>
 ((True/\(True/\True))/\dw 24 [(.slice none 0 0)] ai ai (λE y=>
 ((True/\(True/\True))/\((bD r.base r.len (i:Int))/\cq y (Addr.add (sat r.base 6 (i:Int)) 5) [E.v] (λA=>
 K A)))) w)))))) M/\dw 24 [(.slice none 0 0)] ai ai (λr2 G=>
 ((True/\(True/\(True/\True)))/\aa prog rI [(.slice (some a) 1 1),(.int .i64 ai)] al (λE w=>
 ((True/\(True/\(True/\True)))/\((bD r.base r.len (i:Int))/\cq w (Addr.add (sat r.base 6 (i:Int)) 4) [E.v] (λy=>
 ((True/\(True/\True))/\((bD r.base r.len (i:Int))/\cq y (Addr.add (sat r.base 6 (i:Int)) 5) [r2.v] (λA=>
 K A))))))) G)) M))) k/\dw 24 [(.slice none 0 0)] ai ai (λr2 M=>
 ((True/\(True/\(True/\True)))/\bq [(.int .i64 (-1:Int))] (λa G=>
 ((True/\(True/\(True/\(True/\True))))/\aa prog rI [(.slice (some a) 1 1),(.int .i64 ai)] al (λE w=>
 ((True/\(True/\(True/\True)))/\((bD r.base r.len (i:Int))/\cq w (Addr.add (sat r.base 6 (i:Int)) 4) [E.v] (λy=>
 ((True/\(True/\True))/\((bD r.base r.len (i:Int))/\cq y (Addr.add (sat r.base 6 (i:Int)) 5) [r2.v] (λA=>
 K A))))))) G)) M)) k):=by
 have R:i<rows.length:=(List.getElem?_eq_some_iff.1 hi).1;have L:∀ {c b:Hp} {d g:Sl},hb<=c->Is c d (List.replicate ai.toNat (-1))->Rw c 1 (λx=>aY (al.enc x)) g (List.replicate ai.toNat (⟨none,0,0⟩:Sl))->Has c ((fm 6 eX r ((rows.set i {zX with fc:=d}).set i {zX with fc:=d,iy:=g})).star B) b->K b:=λ{c b d g} S m n h=>by rw [List.set_set] at h;exact hk _ c b S ⟨rfl,⟨[],Rw.nil rfl,rfl⟩,rfl,rfl,m,_,n,Bp (Rw.nil rfl)⟩ h
 have O:∀ {c b:Hp} {d:Sl} {f:Hp->Prop},Has c ((fm 6 eX r rows).star B) b->(∀p,Has c ((fm 6 eX r (rows.set i {zX with fc:=d})).star B) p->f p)->cq b ((sat r.base 6 (i:Int)).add 4) [d.v] f:=λ{c b d f} h I=>by obtain ⟨m,_,X,_,put⟩:=h.fst;exact X.vY (i:=i) (x':={zX with fc:=d}) (off:=4) (new:=[d.v]) (λ_=>rfl) hi (by simp) rfl λp W=>I p (put _ _ W)
 have P:∀ {c b:Hp} {d g:Sl} {f:Hp->Prop},Has c ((fm 6 eX r (rows.set i {zX with fc:=d})).star B) b->(∀p,Has c ((fm 6 eX r ((rows.set i {zX with fc:=d}).set i {zX with fc:=d,iy:=g})).star B) p->f p)->cq b ((sat r.base 6 (i:Int)).add 5) [g.v] f:=λ{c b d g f} h I=>by obtain ⟨m,_,X,_,put⟩:=h.fst;exact X.vY (i:=i) (x:={zX with fc:=d}) (x':={zX with fc:=d,iy:=g}) (off:=5) (new:=[g.v]) (λ_=>rfl) (List.getElem?_set_self R) (by simp) rfl λp W=>I p (put _ _ W)
 have vd:∀ {c b:Hp} {b0:List cK},b0.length=rows.length->Has c ((fm 6 eX r b0).star B) b->bD r.base r.len (i:Int):=λe h=>(Has.left h).vd (sh:=dJ) (λ_=>rfl) (by decide) (by omega);have mk:∀ {c b:Hp} {F:dg} {f:Sl->Hp->Prop},Has c F b->(∀l u b,c<=u->Rw u 1 (λx=>aY (al.enc x)) l (List.replicate ai.toNat (⟨none,0,0⟩:Sl))->Has u F b->f l b)->dw 24 [(.slice none 0 0)] ai ai f b:=λh I=>Hj (z:=(⟨none,0,0⟩:Sl)) (enc:=λx=>aY (al.enc x)) h rfl (λ_=>rfl) (by omega) (by omega) I;have Y:∀ {c b:Hp} {F:dg} {a:Addr} {f:Sl->Hp->Prop},Has c F b->aT c a [.int .i64 (-1)]->(∀l u b,c<=u->Is u l (List.replicate ai.toNat (-1))->Has u F b->f l b)->aa prog rI [(.slice (some a) 1 1),(.int .i64 ai)] al f b:=λ{c b F a f} h H I=>by refine Ah (sh:=al) (K0:=λl Q=>c<=Q/\Is Q l (List.replicate ai.toNat (-1))) h (Y1 (x:=⟨some a,1,1⟩) (V3 H S λl Q b2 R=>⟨b2,R⟩)) ?_;grind
 refine ⟨?_,?_⟩
 ·refine AO o λa b1 k1 J H N=> ?_;refine ⟨⟨trivial,trivial,trivial,trivial,trivial⟩,?_,?_⟩
  ·refine Y N H λd Z k2 s m C=> ?_;refine ⟨⟨trivial,trivial,trivial,trivial⟩,vd rfl C,?_,?_⟩
   ·refine mk C λg a8 T t n q=> ?_;refine ⟨⟨trivial,trivial,trivial⟩,O q λU j=>⟨⟨trivial,trivial⟩,vd (by simp) j,P j λV D=>L (Hp.le_trans J (Hp.le_trans s t)) (Rw.mono t m) n D⟩⟩
   ·refine O C λT q=>⟨⟨trivial,trivial,trivial⟩,?_⟩;refine mk q λg b3 U a9 n j=> ?_;exact ⟨⟨trivial,trivial,trivial⟩,vd (by simp) j,P j λV D=>L (Hp.le_trans J (Hp.le_trans s a9)) (Rw.mono a9 m) n D⟩
  ·refine mk N λg Z k2 s n C=> ?_;refine ⟨⟨trivial,trivial,trivial,trivial⟩,?_⟩;refine Y C (om s H) λd a8 T t m q=> ?_;exact ⟨⟨trivial,trivial,trivial,trivial⟩,vd rfl q,O q λU j=>⟨⟨trivial,trivial,trivial⟩,vd (by simp) j,P j λV D=>L (Hp.le_trans J (Hp.le_trans s t)) m (Rw.mono t n) D⟩⟩
 ·refine mk o λg b1 k1 J n N=> ?_;refine ⟨⟨trivial,trivial,trivial,trivial⟩,?_⟩;refine AO N λa Z k2 s H C=> ?_;refine ⟨⟨trivial,trivial,trivial,trivial,trivial⟩,?_⟩;refine Y C H λd a8 T t m q=> ?_;exact ⟨⟨trivial,trivial,trivial,trivial⟩,vd rfl q,O q λU j=>⟨⟨trivial,trivial,trivial⟩,vd (by simp) j,P j λV D=>L (Hp.le_trans J (Hp.le_trans s t)) m (Rw.mono t (Rw.mono s n)) D⟩⟩
theorem Sg {rows:List bB} {n:Int} {K:Hp->Prop} {B:dg} (o:Has hb (B.star (fm 15 eY r1 rows)) k) (b:rows[i]? =some zY) (w:1<=n/\n<=100)
  (m:∀x a c,hb<=a->eT a x (u3 n.toNat)->Has a (B.star (fm 15 eY r1 (rows.set i x))) c->K c):
  dw 64 [(.slice none 0 0),(.slice none 0 0),(.int .i64 (0:Int)),(.int .i64 (0:Int))] n n (λr2 f=>
 ((True/\True)/\((bD r1.base r1.len (i:Int))/\cq f (Addr.add (sat r1.base 15 (i:Int)) 14) [r2.v] (λg=>
 K g)))) k:=by
 have j:i<rows.length:=(List.getElem?_eq_some_iff.1 b).1;refine Hj (sz:=4) (z:=zL) (enc:=λx=>aY (bS.enc x)) o rfl (λ_=>rfl) (by omega) (by omega) λl h y q e d=> ?_;refine ⟨⟨trivial,trivial⟩,(Has.right d).vd (sh:=bY) (λ_=>rfl) (by decide) j,?_⟩;obtain ⟨u,_,t,_,put⟩:=d.snd;refine t.vY (i:=i) (x':={zY with iI:=l}) (off:=14) (new:=[l.v]) (λ_=>rfl) b (by simp) rfl λp s=>m _ h p q ⟨rfl,rfl,rfl,rfl,rfl,rfl,rfl,_,e,Bp ⟨Rw.nil rfl,⟨[],Rw.nil rfl,rfl⟩,rfl,rfl⟩⟩ (put _ _ s)
theorem Fy {x:aw} {c:bg} {Q:aU->Hp->Prop} (a:eu h0 x c) (N:cc c) (o:Has h0 ((fm 6 eX r (List.replicate (nP c) zX)).star (fm 15 eY r1 (List.replicate (nQ c) zY))) k)
  (U:∀y d,h0<=d->eV d y ((sP c).list c)->Q y d):ay (α1:=Int) (λP b G=>
 (if (decide (b<((r.len:Nat):Int)))=true then
 bP (λk=>
 (bq [(.int .i64 (-1:Int))] (λa g=>
 ((True/\(True/\(True/\(True/\True))))/\(aa prog rI [(.slice (some a) 1 1),(.int .i64 x.bG)] al (λr2 m=>
 ((True/\(True/\(True/\True)))/\((bD r.base r.len b)/\(dw 24 [(.slice none 0 0)] x.bG x.bG (λu l=>
 ((True/\(True/\True))/\cq l (Addr.add (sat r.base 6 b) 4) [r2.v] (λq=>
 ((True/\True)/\((bD r.base r.len b)/\cq q (Addr.add (sat r.base 6 b) 5) [u.v] (λs=>
 k s)))))) m/\cq m (Addr.add (sat r.base 6 b) 4) [r2.v] (λl=>
 ((True/\(True/\True))/\dw 24 [(.slice none 0 0)] x.bG x.bG (λu q=>
 ((True/\(True/\True))/\((bD r.base r.len b)/\cq q (Addr.add (sat r.base 6 b) 5) [u.v] (λs=>
 k s)))) l)))))) g/\dw 24 [(.slice none 0 0)] x.bG x.bG (λr2 m=>
 ((True/\(True/\(True/\True)))/\aa prog rI [(.slice (some a) 1 1),(.int .i64 x.bG)] al (λu l=>
 ((True/\(True/\(True/\True)))/\((bD r.base r.len b)/\cq l (Addr.add (sat r.base 6 b) 4) [u.v] (λq=>
 ((True/\(True/\True))/\((bD r.base r.len b)/\cq q (Addr.add (sat r.base 6 b) 5) [r2.v] (λs=>
 k s))))))) m)) g))) G/\dw 24 [(.slice none 0 0)] x.bG x.bG (λr2 g=>
 ((True/\(True/\(True/\True)))/\bq [(.int .i64 (-1:Int))] (λa m=>
 ((True/\(True/\(True/\(True/\True))))/\aa prog rI [(.slice (some a) 1 1),(.int .i64 x.bG)] al (λu l=>
 ((True/\(True/\(True/\True)))/\((bD r.base r.len b)/\cq l (Addr.add (sat r.base 6 b) 4) [u.v] (λq=>
 ((True/\(True/\True))/\((bD r.base r.len b)/\cq q (Addr.add (sat r.base 6 b) 5) [r2.v] (λs=>
 k s))))))) m)) g)) G))
 (λg=>
 P (yw (b+(1:Int))) g)
 else
 ay (α1:=Int) (λR E g=>
 (if (decide (E<((r1.len:Nat):Int)))=true then
 dw 64 [(.slice none 0 0),(.slice none 0 0),(.int .i64 (0:Int)),(.int .i64 (0:Int))] (yw (((x.aN.len:Nat):Int)+(1:Int))) (yw (((x.aN.len:Nat):Int)+(1:Int))) (λr2 m=>
 ((True/\True)/\((bD r1.base r1.len E)/\cq m (Addr.add (sat r1.base 15 E) 14) [r2.v] (λl=>
 R (yw (E+(1:Int))) l)))) g
 else
 Q ⟨(0:Int),r,r1⟩ g)) (0:Int) G)) (0:Int) k:=by
 have a8:=N.parts;have a9:=N.procs;have Y:nP c=c.labels.length:=rfl;have Z:x.aN.len=c.labels.length:=a.labels.1;have W:r.len=nP c:=by have:=(Has.left o).tV.gH;grind
 have X:r1.len=nQ c:=by have:=(Has.right o).tV.gH;grind
 refine ay.intro (λ(t:Int) d=>0<=t/\t<=(nP c:Int)/\∃hb done,h0<=hb/\db (jI hb) done (List.replicate t.toNat (uZ c.ai))/\Has hb ((fm 6 eX r (done++List.replicate (nP c-t.toNat) zX)).star (fm 15 eY r1 (List.replicate (nQ c) zY))) d) (λt _=>(nP c-t).toNat) ⟨by omega,by omega,h0,[],Hp.le_refl _,trivial,by simpa using o⟩ ?_;rintro t k1 ⟨t0,t1,hb,done,lb,hd,o1⟩;have O:=hd.len;rw [List.length_replicate] at O;by_cases h:t<(nP c:Int)
 ·rw [if_pos (gI)];have A:((t.toNat:Nat):Int)=t:=by omega
  refine bP.direct ?_;have J:(done++List.replicate (nP c-t.toNat) zX)[t.toNat]? =some zX:=by grind
  rw [a.ai];have key:=Se (i:=t.toNat) (r:=r) (K:=λd=>(0<=yw (t+1)/\yw (t+1)<=(nP c:Int)/\∃hb done,h0<=hb/\db (jI hb) done (List.replicate (yw (t+1)).toNat (uZ c.ai))/\Has hb ((fm 6 eX r (done++List.replicate (nP c-(yw (t+1)).toNat) zX)).star (fm 15 eY r1 (List.replicate (nQ c) zY))) d)/\(nP c-yw (t+1)).toNat<(nP c-t).toNat) o1 J N.ai λy H d w C D=>by
   rw [aH,show (t+1).toNat=t.toNat+1 by omega];refine ⟨⟨by omega,by omega,H,done++ [y],Hp.le_trans lb w,?_,?_⟩,by omega⟩
   ·rw [List.replicate_succ'];exact AP C (hd.imp λ_ _ e=>e.mono w)
   ·rw [List.set_append_right _ _ (by omega),O,Nat.sub_self,show nP c-t.toNat=(nP c-(t.toNat+1))+1 by omega,List.replicate_succ,List.set_cons_zero] at D;grind
  rw [A] at key;exact key
 ·rw [if_neg (λe=>h (by grind))];have A:t.toNat=nP c:=by omega
  rw [A,Nat.sub_self,List.replicate_zero,List.append_nil] at o1;rw [A] at hd;refine ay.intro (λ(j:Int) d=>0<=j/\j<=(nQ c:Int)/\∃p f,hb<=p/\db (eT p) f (List.replicate j.toNat (u3 (nP c+1)))/\Has p ((fm 6 eX r done).star (fm 15 eY r1 (f++List.replicate (nQ c-j.toNat) zY))) d) (λj _=>(nQ c-j).toNat) ⟨by omega,by omega,hb,[],Hp.le_refl _,trivial,by simpa using o1⟩ ?_;rintro j V ⟨j0,j1,p,f,L,B,z⟩;have I:=B.len;rw [List.length_replicate] at I;by_cases T:j<(nQ c:Int)
  ·rw [if_pos (gI)];have F:((j.toNat:Nat):Int)=j:=by omega
   have J:(f++List.replicate (nQ c-j.toNat) zY)[j.toNat]? =some zY:=by rw [List.getElem?_append_right (by omega),I,Nat.sub_self,List.getElem?_replicate,if_pos (by omega)]
   rw [wrap64 (n:=(x.aN.len:Int)+1) (by omega) (by omega)];have S:((x.aN.len:Int)+1).toNat=nP c+1:=by omega
   have key:=Sg (i:=j.toNat) (r1:=r1) (n:=(x.aN.len:Int)+1) (K:=λd=>(0<=yw (j+1)/\yw (j+1)<=(nQ c:Int)/\∃p f,hb<=p/\db (eT p) f (List.replicate (yw (j+1)).toNat (u3 (nP c+1)))/\Has p ((fm 6 eX r done).star (fm 15 eY r1 (f++List.replicate (nQ c-(yw (j+1)).toNat) zY))) d)/\(nQ c-yw (j+1)).toNat<(nQ c-j).toNat) z J (by omega) λy H d w C D=>by
    rw [aH,show (j+1).toNat=j.toNat+1 by omega];refine ⟨⟨by omega,by omega,H,f++ [y],Hp.le_trans L w,?_,?_⟩,by omega⟩
    ·rw [List.replicate_succ'];rw [S] at C;exact AP C (B.imp λ_ _ e=>e.mono w)
    ·rw [List.set_append_right _ _ (by omega),I,Nat.sub_self,show nQ c-j.toNat=(nQ c-(j.toNat+1))+1 by omega,List.replicate_succ,List.set_cons_zero] at D;rw [List.append_assoc];exact D
   grind
  ·rw [if_neg (λe=>T (by grind))];have F:j.toNat=nQ c:=by omega
   rw [F,Nat.sub_self,List.replicate_zero,List.append_nil] at z;rw [F] at B;have M:=z.le;refine U _ V (Hp.le_trans lb (Hp.le_trans L M)) ⟨rfl,⟨done,(Has.left z).nf λ_=>rfl,?_⟩,f,(Has.right z).nf λ_=>rfl,?_⟩
   ·have e:((sP c).list c).parts=List.replicate (nP c) (uZ c.ai):=by show (List.range (nP c)).map (λ_=>uZ c.ai)=_;rw [List.map_const',List.length_range]
    rw [e];exact hd.imp λ_ _ e=>e.mono (Hp.le_trans L M)
   ·have e:((sP c).list c).procs=List.replicate (nQ c) (u3 (nP c+1)):=by show (List.range (nQ c)).map (λ_=>u3 (nP c+1))=_;rw [List.map_const',List.length_range]
    rw [e];exact B.imp λ_ _ e=>e.mono M
theorem Np {x:aw} {c:bg} {Q:aU->Hp->Prop} (a:eu k x c) (e:cc c) (g:∀y f,k<=f->eV f y ((sP c).list c)->Q y f):SK prog x Q k:=by
 unfold SK;have v:=e.parts;have C:=e.procs;have t:nP c=c.labels.length:=rfl;have B:nQ c=c.procs.length:=rfl;have u:x.aN.len=c.labels.length:=a.labels.1;obtain ⟨s,j,h⟩:=a.procs;have w:=h.len;have A:x.aM.len=s.length:=j.1;refine ⟨?_,?_⟩
 ·refine xa (sz:=6) (z:=zX) (enc:=eX) rfl (λ_=>rfl) (by omega) (by omega) λl m o b=>⟨⟨trivial,trivial⟩,?_⟩;refine xa (sz:=15) (z:=zY) (enc:=eY) rfl (λ_=>rfl) (by omega) (by omega) λp n q d=> ?_;rw [show ((x.aN.len:Int)).toNat=nP c by omega] at b;rw [show ((x.aM.len:Int)).toNat=nQ c by omega] at d;exact Fy a e (b.beside d) g
 ·refine xa (sz:=15) (z:=zY) (enc:=eY) rfl (λ_=>rfl) (by omega) (by omega) λp m o b=>⟨⟨trivial,trivial⟩,?_⟩;refine xa (sz:=6) (z:=zX) (enc:=eX) rfl (λ_=>rfl) (by omega) (by omega) λl n q d=>⟨⟨trivial,trivial⟩,?_⟩;rw [show ((x.aN.len:Int)).toNat=nP c by omega] at d;rw [show ((x.aM.len:Int)).toNat=nQ c by omega] at b;exact Fy a e (b.beside d).comm g
end
end Lf
namespace Go.Proofs
open Go.RowKit Go.Shelf
attribute [local go_sem] Oper.semAt_some
def uf (cur len:Int) (j:Nat):Int:=(wrap64 (cur+(j:Int))).tmod len
abbrev Db (len:Nat):={x:Int // 0<=x/\x<(len:Int)}
def va {a:Type} (num:Nat->a) (k:Nat):List a:=(List.range k).map num
theorem jT {a:Type} {num:Nat->a} {k:Nat}:va num (k+1)=va num k++ [num k]:=by simp [va,List.range_succ]
theorem Rn {a:Type} {num:Nat->a} {k:Nat}:(va num k).length=k:=by simp [va]
set_option maxHeartbeats 2000000 in
theorem V5 (n:Nat) (hn:1<=n) (l A A1:Nat) (cur:Int) (len:Nat) (hlen:0<len) (hl2:len<=1000) (num:Nat->Db len) (hnum:∀j,j<len->uf cur len j=(num j).1) (Kp:World->World->Prop) (hkp:∀W W',Kp W W'->W'.cell? ⟨A,0,none⟩=W.cell? ⟨A,0,none⟩/\W'.cell? ⟨A1,0,none⟩=W.cell? ⟨A1,0,none⟩) (J Jx:List (Db len)->World->Prop)
  (hY:∀pre x W,J pre W->pre.length<len->YieldAt Fence.wide (n-1) Tryz.prog l #[.int .i64 x.1] W λe W'=>
   (e=.returned (.bool true)/\J (pre++ [x]) W'/\Kp W W')\/(e=.returned (.bool false)/\Jx (pre++ [x]) W'))
  (W:World) (hA:W.cell? ⟨A,0,none⟩=some (.int .i64 cur)) (hA1:W.cell? ⟨A1,0,none⟩=some (.int .i64 (len:Int))) (h0:J [] W):
  CallsIn Fence.wide n Tryz.prog 221 #[.func (.yield l) #[] #[],.pointer (some ⟨A1,0,none⟩),.pointer (some ⟨A,0,none⟩)] W λe W'=>(∃v,e=.returned v)/\
   ((∃ys,ys=va num len/\J ys W')\/(∃pre,(∃k,k<=len/\pre=va num k)/\Jx pre W')):=by
 refine callsIn_of_wp Tryz.func221 rfl trivial ?_ rfl;simp only [Tryz.ntmps221,List.size_toArray,List.length_cons,List.length_nil,Nat.reduceAdd,Nat.reduceSub,Array.replicate_succ,Array.replicate_zero,List.push_toArray,List.append_toArray,List.nil_append,List.cons_append]
 gi_wp2
 gi_loopw [6] (λi wr=>∃k:Nat,k<=len/\i=.int .i64 (k:Int)/\J (va num k) wr/\wr.cell? ⟨A,0,none⟩=some (.int .i64 cur)/\wr.cell? ⟨A1,0,none⟩=some (.int .i64 (len:Int)))
  (λi _=>len-(intOf i).toNat)
 case atStart=>exact ⟨0,Nat.zero_le _,rfl,h0,hA,hA1⟩
 case round=>
  obtain ⟨k,hk,rfl,hJs,hcA,hcA1⟩:=hrel;by_cases hlt:k<len
  ·obtain ⟨fn,tmps,assign,body,hy,hR⟩:=hY _ (num k) wr hJs (by rw [Rn];exact hlt);rw [<-hnum k hlt] at hy;unfold uf at hy
   gi_wp2
   refine hR.mono ?_;rintro e W3 (⟨rfl,hJ3,hk3⟩ | ⟨rfl,hJx3⟩)
   ·gi_wp2
    go_roundw
    case rel=>exact ⟨k+1,by omega,by simp,by rw [jT];exact hJ3,(hkp _ _ hk3).1.trans hcA,(hkp _ _ hk3).2.trans hcA1⟩
    case measure=>simp [intOf];omega
   ·gi_wp2
    refine bodyPost_ret (results_none rfl _ _ _) rfl ?_;exact ⟨⟨_,rfl⟩,.inr ⟨_,⟨k+1,by omega,jT.symm⟩,hJx3⟩⟩
  ·obtain rfl:k=len:=by omega
   gi_wp2
   go_end0
   exact ⟨⟨_,rfl⟩,.inl ⟨_,rfl,hJs⟩⟩
end Go.Proofs
namespace Lf
open Go Go.Proofs Tryz
noncomputable def lr :Code:=match uP f183 with
 | .seq _ (.scope (.seq _ (.seq _ (.seq _ t))))=>t
 | _=>.skip
def rD :List Nat:=[1,3,4]
def yf :iw:=.sq .tt (.sq (.rg [(0,[]),(1,[]),(2,[]),(3,[]),(4,[]),(5,[]),(6,[]),(7,[]),(8,[]),(9,[]),(10,[]),(11,[])]) (.sq (.rg [(0,[]),(1,[]),(2,[]),(3,[]),(4,[]),(5,[]),(6,[]),(7,[]),(8,[]),(9,[]),(10,[]),(11,[]),(12,[]),(13,[]),(14,[]),(15,[]),(16,[])]) (.sq (.rg [(0,[]),(1,[]),(2,[]),(3,[]),(4,[]),(5,[]),(6,[2]),(7,[]),(8,[]),(9,[])]) .tt)))
noncomputable def uc :Ctx:=⟨prog,tb,rD⟩
def jS (p:Option Addr) (lane:Int):St where
 f:=λt=>match t with
  | 1=>some (.box 1 0,[])
  | 2=>some (.v (.int .i64 0),[])
  | 3=>some (.box 3 0,[])
  | 4=>some (.box 4 0,[])
  | 5=>some (.v (.bool false),[])
  | 6=>some (.v (.int .i64 0),[])
  | _=>none
 m:=λk=>match k with
  | 1=>some [.pointer p]
  | 3=>some [.int .i64 lane]
  | 4=>some [.int .i64 0,.int .i64 0]
  | _=>none
noncomputable def DO (K:(bm tb f183.resultTypes.toList).T->Hp->Prop):Env:=λe s h=>match e with
 | .fQ | .ret=>se uc s h f183.results.toList f183.resultTypes.toList K
 | _=>False
noncomputable def qg (p:Option Addr) (lane:Int) (K:(bm tb f183.resultTypes.toList).T->Hp->Prop) (h:Hp):Prop:=
 liftM uc lr .full yf rD (jS p lane) (DO K) h
end Lf
namespace Go.Proofs
open Go.RowKit Go.Shelf
attribute [local go_sem] Oper.semAt_some
theorem CX {w:World} {o:Obj} {b:Nat}:(w.alloc o).heap[b]? =if b=w.heap.size then some o else w.heap[b]?:=by show (w.heap.push o)[b]? =_;grind
theorem BL {W:World} {b i:Nat} {a:Array Value} {t:TypeId} (h:W.heap[b]? =some (.cells a t (0,0))):W.cell? ⟨b,i,none⟩=a[i]?:=by simp [World.cell?,h]
theorem wu {W a:World} {b i:Nat} (h:a.heap[b]? =W.heap[b]?):a.cell? ⟨b,i,none⟩=W.cell? ⟨b,i,none⟩:=by simp [World.cell?,h]
structure yL (B c:Nat) (W2:World) (v:Int) (W:World):Prop where
 same:∀b,b<B->b≠c->W.heap[b]? =W2.heap[b]?
 box:W.heap[c]? =some (.cells #[.int .i64 v] 3)
 size:B<=W.heap.size
 os:W.os=W2.os
 tape:W.tape=W2.tape
 output:W.output=W2.output
theorem yL.grown {B c:Nat} {f W d:World} {v:Int} {row:Option Nat} (g:yL B c f v W) (h:c<B) (a:W.grownBy d row) (j:∀r,row=some r->B<=r/\∃o:Obj,W.heap[r]? =some o/\o.isCells=false):yL B c f v d:=by
 have key:∀b,b<B->d.heap[b]? =W.heap[b]?:=λb hb=>a.block b (Nat.lt_of_lt_of_le hb g.size) λe=>by grind
 exact ⟨λb hb i=>(key b hb).trans (g.same b hb i),(key c h).trans g.box,Nat.le_trans g.size a.size,a.os.trans g.os,a.tape.trans g.tape,a.output.trans g.output⟩
theorem PT {n:Nat} {d:Nat->Nat} {s:Lf.St} {a:Act} {h:Lf.Hp} {w:World} {D:Nat} (r:Lf.Rel n d s a h w) (q:h D=none) (t:w.heap[D]? =some (.deferred (some []))) (o:Obj):Lf.Rel n d s a h (w.putObj D o) where
 sz:=r.sz
 sub:=λb p e=>by
  have c:b≠D:=λi=>by grind
  rw [World.putObj_heap_other c];exact r.sub b p e
 lt:=r.lt
 chain:=r.chain
 cur:=r.cur
 bE:=r.bE
 box:=λk f e m=>by
  obtain ⟨j,g,l⟩:=r.box k f e m;have c:d k≠D:=λi=>by grind
  exact ⟨j,g,by rw [World.putObj_heap_other c];exact l⟩
 inj:=r.inj
 km:=r.km
 jz:=r.jz
abbrev Ci (p:Addr) (w:World) (b c d a:Value):Array Value:= #[Value.pointer (some p),Value.pointer (some {block:=w.heap.size,off:=0}),Value.int IntKind.i64 0,Value.pointer (some {block:=w.heap.size+1,off:=0}),Value.pointer (some {block:=w.heap.size+1+1,off:=0}),Value.bool false,Value.int IntKind.i64 0,b,c,d,a,undef,undef,undef,undef,undef,undef,undef,undef,undef,undef,undef,undef,undef,undef,undef,undef,undef,undef,undef,undef,undef,undef,undef,undef,undef,undef,undef,undef,undef,undef,undef,undef,undef,undef,undef,undef,undef,undef,undef,undef,undef,undef]
theorem O0 {k:Lf.Hp} {p:Addr} {w W:World} {D:Nat} {v:Int} {R S U Q:Value} {K:(Lf.bm Lf.tb Tryz.f183.resultTypes.toList).T->Lf.Hp->Prop} (E:Lf.Sub k w)
  (s:Below w.heap.size w W) (b0:W.heap[w.heap.size]? =some (.cells #[.pointer (some p)] 153)) (b1:W.heap[w.heap.size+1]? =some (.cells #[.int .i64 v] 3)) (b2:W.heap[w.heap.size+2]? =some (.cells #[.int .i64 0,.int .i64 0] 192))
  (H:w.heap.size+3<=D) (I:W.heap[D]? =some (.deferred (some []))) (ht:Lf.qg (some p) v K k):
  Lf.lr.wp Tryz.prog (Exit.noGoto (bodyPostM Fence.wide 3 Tryz.prog Tryz.f183 λe y=>∃u g,e=.returned u/\(∃x,u=(Lf.bm Lf.tb Tryz.f183.resultTypes.toList).enc x/\K x g)/\Lf.Step k g w y))
   {tmps:=Ci p w R S U Q,defers:=[{target:=.collected D,args:= #[]}]} W:=by
 have b6:Lf.Sub k W:=λb o e=>(s.block b (E.lt e)).trans (E b o e);have b5:∀b,w.heap.size<=b->k b=none:=λb hb=>by
  cases e:k b with
  | none=>rfl
  | some o=>have:=E.lt e;omega
 have a8:Lf.Rel 53 (λk=>if k=1 then w.heap.size else if k=3 then w.heap.size+1 else w.heap.size+2) (Lf.jS (some p) v) {tmps:=Ci p w R S U Q,defers:=[{target:=.collected D,args:= #[]}]} k W:=by
  have P:∀(t:Nat) (l:Lf.LV) (c:Lf.aP),(Lf.jS (some p) v).f t=some (l,c)->c=[]/\(t=1/\l=.box 1 0\/t=2/\l=.v (.int .i64 0)\/t=3/\l=.box 3 0\/t=4/\l=.box 4 0\/t=5/\l=.v (.bool false)\/t=6/\l=.v (.int .i64 0)):=λt l c e=>by unfold Lf.jS at e;dsimp only at e;split at e<;>cases e<;>simp
  have cell:∀(k:Nat) (d:List Value),(Lf.jS (some p) v).m k=some d->k=1/\d=[.pointer (some p)]\/k=3/\d=[.int .i64 v]\/k=4/\d=[.int .i64 0,.int .i64 0]:=λk d e=>by unfold Lf.jS at e;dsimp only at e;split at e<;>cases e<;>simp
  refine ⟨rfl,b6,λt l c e=> ?_,λt l c e q hq=> ?_,λt l c e _ _=> ?_,λt l c e _ J=> ?_,λa d e _=> ?_,λA B V X _ _ z=> ?_,λ_ e=>e.elim,λ_ e=>e.elim⟩
  ·grind
  ·grind
  ·obtain ⟨_,h | h | h | h | h | h⟩:=P t l c e<;>obtain ⟨rfl,rfl⟩:=h<;>exact ⟨rfl,λ_ _ _=>trivial⟩
  ·rw [(P t l c e).1] at J;exact absurd (Lf.bp _) J
  ·grind
  ·have c1:A=1\/A=3\/A=4:=by
    cases e:(Lf.jS (some p) v).m A with
    | none=>exact absurd e V
    | some d=>rcases cell A d e with h | h | h<;>simp [h.1]
   have c2:B=1\/B=3\/B=4:=by
    cases e:(Lf.jS (some p) v).m B with
    | none=>exact absurd e X
    | some d=>rcases cell B d e with h | h | h<;>simp [h.1]
   grind
 have C:∀a∈Lf.rD,∀b,b<w.heap.size\/w.heap.size+3<=b->(if a=1 then w.heap.size else if a=3 then w.heap.size+1 else w.heap.size+2)≠b:=λa _ b hb e=>by grind
 refine Lf.mZ Lf.bK Lf.lr Lf.yf Lf.rD _ _ k (Lf.nX (n:=53) (by kernel_rfl)) ht _ _ W a8 _ λe s' g b7 F y z Z r=> ?_;have qx:D<W.heap.size:=Lf.gA I;have dn:k D=none:=b5 D (by omega);have O:y.heap[D]? =some (.deferred (some [])):=(r.cv D qx dn λa j _=>C a j D (.inr H)).trans I;have Y:g D=none:=r.vg D qx dn λa j _=>C a j D (.inr H);have G:Lf.se Lf.uc s' g Tryz.f183.results.toList Tryz.f183.resultTypes.toList K->LeavesInM Fence.wide 3 Tryz.prog Tryz.f183 F.tmps (λe y=>∃u g,e=.returned u/\(∃x,u=(Lf.bm Lf.tb Tryz.f183.resultTypes.toList).enc x/\K x g)/\Lf.Step k g w y) F.defers .returning y:=λa9=>by
  rw [r.defers];refine ⟨by simp,.inl ⟨_,_,rfl,run_takeDeferred O,?_⟩⟩;have N:=PT Z Y O (.deferred none);obtain ⟨x,vs,j,b3,b4⟩:=Lf.qc Lf.bK N a9;refine ⟨_,Lf.lZ b3,_,g,rfl,⟨x,b4,j⟩,N.sub,?_,λb hb M=> ?_,?_,?_,?_⟩
  ·have:=r.size;have:=s.size;simp;omega
  ·have L:b<W.heap.size:=Nat.lt_of_lt_of_le hb s.size;refine ⟨?_,r.vg b L M λa j _=>C a j b (.inl hb)⟩;rw [World.putObj_heap_other (by omega),r.cv b L M λa j _=>C a j b (.inl hb)];exact s.block b hb
  ·exact r.os.trans s.os
  ·exact r.tape.trans s.tape
  ·exact r.output.trans s.output
 cases e with
 | fQ=>exact G z
 | ret=>exact G z
 | ext i=>exact z.elim
 | jF i=>exact z.elim
end Go.Proofs
namespace Go.Proofs
open Go.RowKit Go.Shelf
attribute [local go_sem] Oper.semAt_some
theorem O5 {W:World} {b i:Nat} {a:Array Value} {t:TypeId} (h:W.heap[b]? =some (.cells a t (0,0))):W.frozen? ⟨b,i,none⟩=false:=by simp [World.frozen?,h]
theorem Si {W:World} {b c i:Nat} {v:Value} (h:b≠c):(W.setCell ⟨c,i,none⟩ v).heap[b]? =W.heap[b]?:=by show (W.heap.modify c _)[b]? =_;grind
theorem S8 {W:World} {c:Nat} {u v:Value} {t:TypeId} (h:W.heap[c]? =some (.cells #[u] t (0,0))):(W.setCell ⟨c,0,none⟩ v).heap[c]? =some (.cells #[v] t (0,0)):=by show (W.heap.modify c _)[c]? =_;grind
set_option maxHeartbeats 4000000 in
theorem O8 {k:Lf.Hp} {pb:Nat} {af:Int} {len:Nat} {ptr:Nat->Addr} {dO:Nat->Nat} {w:World} {Kq:(Lf.bm Lf.tb Tryz.f183.resultTypes.toList).T->Lf.Hp->Prop} (hs:Lf.Sub k w)
  (hl:0<len/\len<=1000) (num:Nat->Db len) (hnum:∀j,j<len->uf af len j=(num j).1)
  (hround:∀W,Lf.Sub k W->Calls Tryz.prog 210 #[.pointer (some ⟨pb,0,none⟩)] W λe W'=>∃A A1:Nat,e=.returned (.func (.func 221) #[] #[.pointer (some ⟨A1,0,none⟩),.pointer (some ⟨A,0,none⟩)])/\(W.heap.size<=A/\A<W'.heap.size)/\(W.heap.size<=A1/\A1<W'.heap.size)/\
   W'.cell? ⟨A,0,none⟩=some (.int .i64 af)/\W'.cell? ⟨A1,0,none⟩=some (.int .i64 (len:Int))/\Below W.heap.size W W')
  (lb:Nat) (lo lc:Nat) (hlane:∀W,Lf.Sub k W->W.cell? ⟨pb,0,none⟩=some (.slice (some ⟨lb,lo,none⟩) len lc))
  (hptr:∀j,j<len->∀W,Lf.Sub k W->W.cell? ⟨lb,lo+j,none⟩=some (.pointer (some (ptr j))))
  (hlen:∀j,j<len->∀W,Lf.Sub k W->Calls Tryz.prog 211 #[.pointer (some (ptr j))] W λe W'=>e=.returned (.int .i64 (dO j:Int))/\Below W.heap.size W W')
  (hno:(∀j,j<len->dO (num j).1.toNat=0)->Lf.qg (some ⟨pb,0,none⟩) (-1) Kq k)
  (hyes:∀j,j<len->(∀i,i<j->dO (num i).1.toNat=0)->dO (num j).1.toNat≠0->Lf.qg (some ⟨pb,0,none⟩) (num j).1 Kq k):
  Calls Tryz.prog 183 #[.pointer (some ⟨pb,0,none⟩)] w (λe w'=>∃u h',e=.returned u/\(∃x,u=(Lf.bm Lf.tb Tryz.f183.resultTypes.toList).enc x/\Kq x h')/\Lf.Step k h' w w'):=by
 refine callsIn_wide.1 (callsIn_of_wp_marks (n:=3) Tryz.func183 rfl trivial ?_ rfl);simp only [Tryz.ntmps183,List.size_toArray,List.length_cons,List.length_nil,Nat.reduceAdd,Nat.reduceSub,Array.replicate_succ,Array.replicate_zero,List.push_toArray,List.append_toArray,List.nil_append,List.cons_append]
 gi_wp2
 refine (show ∀T,T=Lf.lr->Code.wpIn Fence.wide 3 Tryz.prog (Code.scope (Code.seq _ (Code.seq _ (Code.seq (Code.seq _ (Code.block _ (Code.rangeFunc _ _ _ _))) T)))) _ _ _ from λT hT=> ?_) _ rfl;refine wpIn_wide.2 (wp_scope_straight ((wpIn_wide (n:=3)).1 (wpIn_seq_k λK1 hK1=> ?_)))
 gi_wp2
 rename_i K hK;refine wpIn_wide.2 (wp_label (hK _ _ ?_));clear hK;have hsz:(((w.alloc (Obj.cells #[Value.pointer (some ⟨pb,0,none⟩)] 153)).alloc (Obj.cells #[Value.int IntKind.i64 (-1)] 3)).alloc (Obj.cells #[Value.int IntKind.i64 0,Value.int IntKind.i64 0] 192)).heap.size=w.heap.size+3:=by simp
 obtain ⟨W0,hW0⟩:∃W0,((w.alloc (Obj.cells #[Value.pointer (some ⟨pb,0,none⟩)] 153)).alloc (Obj.cells #[Value.int IntKind.i64 (-1)] 3)).alloc (Obj.cells #[Value.int IntKind.i64 0,Value.int IntKind.i64 0] 192)=W0:=⟨_,rfl⟩;have b0:W0.heap[w.heap.size]? =some (.cells #[Value.pointer (some ⟨pb,0,none⟩)] 153):=by rw [<-hW0,CX,if_neg (by simp;omega),CX,if_neg (by simp),CX,if_pos rfl]
 have b1:W0.heap[w.heap.size+1]? =some (.cells #[Value.int IntKind.i64 (-1)] 3):=by rw [<-hW0,CX,if_neg (by simp),CX,if_pos (by simp)]
 have b2:W0.heap[w.heap.size+2]? =some (.cells #[Value.int IntKind.i64 0,Value.int IntKind.i64 0] 192):=by rw [<-hW0,CX,if_pos (by simp)]
 have bo:Below w.heap.size w W0:=by rw [<-hW0];exact (((Below.refl _ w).alloc (Nat.le_refl _) _).alloc (by simp) _).alloc (by simp;omega) _
 rw [hW0] at hsz ⊢;have c0:W0.cell? ⟨w.heap.size,0,none⟩=some (.pointer (some ⟨pb,0,none⟩)):=BL b0;have hs0:Lf.Sub k W0:=λb o e=>(bo.block b (hs.lt e)).trans (hs b o e);have hr:=hround W0 hs0;refine wpIn_seq_k λK hK=> ?_
 gi_wp2_with (refine ⟨trivial,?_⟩;gi_at_call 210;refine (callsIn_wide.2 hr).mono ?_;rintro e W2 ⟨A,A1,rfl,hA,hA1,hcA,hcA1,hB⟩)
 clear hr hround;have cB:w.heap.size+1<W2.heap.size:=by omega
 have w0:W2.heap[w.heap.size]? =some (.cells #[Value.pointer (some ⟨pb,0,none⟩)] 153):=(hB.block _ (by omega)).trans b0;have w1:W2.heap[w.heap.size+1]? =some (.cells #[Value.int IntKind.i64 (-1)] 3):=(hB.block _ (by omega)).trans b1;have w2:W2.heap[w.heap.size+2]? =some (.cells #[Value.int IntKind.i64 0,Value.int IntKind.i64 0] 192):=(hB.block _ (by omega)).trans b2;have ww:Below w.heap.size w W2:=bo.trans (hB.mono (by omega));have subG:∀ {v W},yL W2.heap.size (w.heap.size+1) W2 v W->Lf.Sub k W/\Below w.heap.size w W/\W.heap[w.heap.size]? =some (.cells #[Value.pointer (some ⟨pb,0,none⟩)] 153)/\W.heap[w.heap.size+2]? =some (.cells #[Value.int IntKind.i64 0,Value.int IntKind.i64 0] 192):=λ{v W} g=>by have hb:Below w.heap.size w W:=⟨g.os.trans ww.os,g.tape.trans ww.tape,g.output.trans ww.output,by have:=g.size;omega,λb hb=>(g.same b (by omega) (by omega)).trans (ww.block b hb)⟩;exact ⟨λb o e=>(hb.block b (hs.lt e)).trans (hs b o e),hb,(g.same _ (by omega) (by omega)).trans w0,(g.same _ (by omega) (by omega)).trans w2⟩
 have tail:∀ {v W D} {x7 x8 x9 x10:Value},yL W2.heap.size (w.heap.size+1) W2 v W->W2.heap.size<=D->W.heap[D]? =some (.deferred (some []))->Lf.qg (some ⟨pb,0,none⟩) v Kq k->
   K {tmps:=Ci ⟨pb,0,none⟩ w x7 x8 x9 x10,defers:=[{target:=.collected D,args:= #[]}]} W:=λ{v W D x7 x8 x9 x10} g hD hK2 ht=>by
  obtain ⟨q1,q2,q3,q4⟩:=subG g;refine hK _ _ (wpIn_wide.2 ?_);rw [hT];exact O0 hs q2 q3 g.box q4 (by omega) hK2 ht
 refine wpIn_rangeFunc_ownF (α:=Db len) rfl (by decide) (gf:=221) (lb:= #[Value.pointer (some ⟨A1,0,none⟩),Value.pointer (some ⟨A,0,none⟩)]) rfl trivial (enters_of Tryz.func221 (by kernel_rfl) rfl)
  (encs:=λx=> #[.int .i64 x.1]) (Kp:=λW W'=>W'.cell? ⟨A,0,none⟩=W.cell? ⟨A,0,none⟩/\W'.cell? ⟨A1,0,none⟩=W.cell? ⟨A1,0,none⟩)
  (S:=λys=>ys=va num len) (Sp:=λpre=>∃k,k<=len/\pre=va num k) (N:=len) (w0:=W2)
  (λl J Jx W hW _ _ hY h0=>V5 2 (by decide) l A A1 af len hl.1 hl.2 num hnum _ (λ_ _ h=>h) J Jx hY W ((hW.cell (p:=⟨A,0,none⟩) hA.2).trans hcA) ((hW.cell (p:=⟨A1,0,none⟩) hA1.2).trans hcA1) h0)
  (λh1 h2=>⟨h2.1.trans h1.1,h2.2.trans h1.2⟩)
  (λW l o o' hl2 _ _ _=>⟨wu (World.putObj_heap_other (by omega)),wu (World.putObj_heap_other (by omega))⟩)
  (Below.refl _ _) (λ_=>rfl)
  (λpre W=>yL W2.heap.size (w.heap.size+1) W2 (-1) W/\∀y∈pre,dO y.1.toNat=0)
  (λc pre W=>c=.exit 0/\∃pre' x,pre=pre'++ [x]/\(∀y∈pre',dO y.1.toNat=0)/\dO x.1.toNat≠0/\yL W2.heap.size (w.heap.size+1) W2 x.1 W)
  (λs A B row hs hg hr=>⟨hs.1.grown cB hg hr,hs.2⟩)
  (λc s A B row hs hg hr=>by
   obtain ⟨e,pre',x,h1,h2,h3,h4⟩:=hs;exact ⟨e,pre',x,h1,h2,h3,h4.grown cB hg hr⟩)
  ⟨⟨λ_ _ _=>rfl,w1,Nat.le_refl _,rfl,rfl,rfl⟩,λy hy=>by cases hy⟩
  (λx=>{tmps:= #[Value.pointer (some ⟨pb,0,none⟩),Value.pointer (some ⟨w.heap.size,0,none⟩),Value.int IntKind.i64 0,Value.pointer (some ⟨w.heap.size+1,0,none⟩),Value.pointer (some ⟨w.heap.size+1+1,0,none⟩),Value.bool false,Value.int IntKind.i64 0,.int .i64 x.1,Value.pointer (some ⟨pb,0,none⟩),Value.func (Fn.func 221) #[] #[Value.pointer (some ⟨A1,0,none⟩),Value.pointer (some ⟨A,0,none⟩)],.int .i64 x.1,undef,undef,undef,undef,undef,undef,undef,undef,undef,undef,undef,undef,undef,undef,undef,undef,undef,undef,undef,undef,undef,undef,undef,undef,undef,undef,undef,undef,undef,undef,undef,undef,undef,undef,undef,undef,undef,undef,undef,undef,undef,undef],defers:=[]})
  ?assign ?body ?done ?stop
 case assign=>
  intro l x W K hK
  gi_wp2
  exact hK
 case body=>
  rintro l pre x W ⟨g,hz⟩ _;obtain ⟨q1,q2,q3,q4⟩:=subG g;have d0:W.cell? ⟨w.heap.size,0,none⟩=some (.pointer (some ⟨pb,0,none⟩)):=BL q3;have d1:W.cell? ⟨pb,0,none⟩=some (.slice (some ⟨lb,lo,none⟩) len lc):=hlane W q1;have xl:x.1.toNat<len:=by have:=x.2;omega
  have x0:=x.2;have d2:W.cell? ⟨lb,lo+x.1.toNat,none⟩=some (.pointer (some (ptr x.1.toNat))):=hptr _ xl W q1;have hc:=hlen _ xl W q1;by_cases hv:dO x.1.toNat=0
  ·rw [hv] at hc
   gi_wp2_with (refine ⟨trivial,?_⟩;gi_at_call 211;refine (CallsIn.inRound l (callsIn_wide.2 hc)).mono ?_;rintro e W3 ⟨rfl,hB3⟩)
   have hlt:∀b o,W.heap[b]? =some o->W3.heap[b]? =some o:=λb o e=>(hB3.block b (Lf.gA e)).trans e;have gsz:=g.size;refine ⟨⟨hB3.size,λb o e _=>hlt b o e⟩,⟨wu (hB3.block _ (by omega)),wu (hB3.block _ (by omega))⟩,⟨λb hb hne=>(hB3.block b (by omega)).trans (g.same b hb hne),hlt _ _ g.box,Nat.le_trans g.size hB3.size,hB3.os.trans g.os,hB3.tape.trans g.tape,hB3.output.trans g.output⟩,λy hy=> ?_⟩;grind
  ·have hv2:0<dO x.1.toNat:=Nat.pos_of_ne_zero hv
   gi_wp2_with (refine ⟨trivial,?_⟩;gi_at_call 211;refine (CallsIn.inRound l (callsIn_wide.2 hc)).mono ?_;rintro e W3 ⟨rfl,hB3⟩;have hb3:=(hB3.block _ (Lf.gA g.box)).trans g.box;have hcb:W3.cell? ⟨w.heap.size+1,0,none⟩=some (.int .i64 (-1)):=BL hb3;have hfb:W3.frozen? ⟨w.heap.size+1,0,none⟩=false:=O5 hb3)
   have gsz:=g.size;refine ⟨⟨Nat.le_trans hB3.size (KeepsOthers.setCell _ _ _).size,λb o e ho=>(KeepsOthers.setCell _ _ _).same b o ((hB3.block b (Lf.gA e)).trans e) ho⟩,rfl,pre,x,rfl,hz,hv,?_⟩;have hset:(W3.setCell ⟨w.heap.size+1,0,none⟩ (.int .i64 x.1))=(W3.setCell ⟨w.heap.size+1,0,none⟩ (.int .i64 x.1)):=rfl;refine ⟨λb hb hne=> ?_,?_,?_,hB3.os.trans g.os,hB3.tape.trans g.tape,hB3.output.trans g.output⟩
   ·rw [Si hne];exact (hB3.block b (by omega)).trans (g.same b hb hne)
   ·exact S8 hb3
   ·exact Nat.le_trans g.size (Nat.le_trans hB3.size (KeepsOthers.setCell _ _ _).size)
 case done=>
  rintro D ys W hD rfl ⟨g,hz⟩ hK2
  gi_wp2
  refine tail (x7:=undef) (x8:=Value.pointer (some ⟨pb,0,none⟩)) (x9:=Value.func (Fn.func 221) #[] #[Value.pointer (some ⟨A1,0,none⟩),Value.pointer (some ⟨A,0,none⟩)]) (x10:=undef) g hD hK2 (hno λj hj=>hz _ ?_);exact List.mem_map.2 ⟨j,List.mem_range.2 hj,rfl⟩
 case stop=>
  rintro D c pre W hD hSp ⟨rfl,pre',x,h1,h2,h3,g⟩ hK2
  gi_wp2
  obtain ⟨k1,hk1,e1⟩:=hSp;rw [h1] at e1;cases k1 with
  | zero=>simp [va] at e1
  | succ j=>
   rw [jT] at e1;obtain ⟨e2,e3⟩:=List.append_inj' e1 rfl;have e3:x=num j:=by simpa using e3
   refine tail (x7:=undef) (x8:=Value.pointer (some ⟨pb,0,none⟩)) (x9:=Value.func (Fn.func 221) #[] #[Value.pointer (some ⟨A1,0,none⟩),Value.pointer (some ⟨A,0,none⟩)]) (x10:=undef) g hD hK2 ?_;rw [e3];refine hyes j (by omega) (λi hi=> ?_) (by grind);exact h2 _ (by rw [e2];exact List.mem_map.2 ⟨i,List.mem_range.2 hi,rfl⟩)
end Go.Proofs
namespace Lf
open Go Go.Proofs Go.RowKit
def Cj (P:Program) (p:Option Addr) (lane:Int) (Q:(Int->(Int->(bt->(Bool->(Int->(Hp->Prop))))))) (h:Hp):Prop:=
 (if (decide (lane<(0:Int)))=true then
 Q (0:Int) (0:Int) ⟨(0:Int),(0:Int)⟩ false (21:Int) h
 else
 ag none p λd=>
 aQ none al h (Addr.add d 0) λx=>
 (((x.len:Nat):Int)≠(0:Int)/\ag none p λe=>
 cq h (Addr.add e 1) [(.int .i64 (Int.tmod (yw (lane+(1:Int))) ((x.len:Nat):Int)))] (λa=>
 ag none p λf=>
 aQ none al a (Addr.add f 0) λb=>
 ((bD b.base b.len lane)/\aQ none aj a (sat b.base 1 lane) λj=>
 nR P R9 [(.pointer j)] (ae .i64) aE bu (ae .i64) (λr g r2 i c=>
 ((True/\True)/\Q r lane g r2 i c)) a))))
theorem J6 (p:Option Addr) (lane:Int) (Q:Int->Int->bt->Bool->Int->Hp->Prop) (h:Hp):qg p lane (λx a=>Q x.1 x.2.1 x.2.2.1 x.2.2.2.1 x.2.2.2.2 a) h=Cj Tryz.prog p lane Q h:=by kernel_rfl
section
variable {h0 k:Hp}
theorem Jv {h:Hp} {a:Addr} {b:List Value} {i:Nat} {v:Value} (l:aT h a b) (e:b[i]? =some v):cM h (a.add i)=some v:=l i v e
theorem S9 {P:Program} {g:FuncId} {args:List Value} {sh:Shape} {K:sh.T->Hp->Prop} {w:World} (c:Sub k w) (f:aa P g args sh (λx a=>a=k/\K x a) k):Calls P g args.toArray w λe d=>∃x,e=.returned (sh.enc x)/\K x k/\Below w.heap.size w d:=by
 refine (f w c).mono ?_;rintro e d ⟨v,a,rfl,⟨x,rfl,rfl,h⟩,st⟩;refine ⟨x,rfl,h,st.os,st.tape,st.output,st.size,λb hb=> ?_⟩;cases e:a b with
 | none=>exact (st.cv b hb e).1
 | some o=>rw [st.sub b o e,c b o e]
theorem xb {a:Type} {l:List a} {i:Nat} {d:a} (h:i<l.length):l[i]? =some (l.getD i d):=by grind
theorem GD {b:Type} {f:b->Value}:∀ {l:List b},l.flatMap (λa=> [f a])=l.map f
 | []=>rfl
 | a::r=>by rw [List.flatMap_cons,GD,List.map_cons];rfl
theorem V7 {a:Type} {n:Nat} {f:Nat->a} {q:a->Bool} (h:∀j,j<n->q (f j)=false):((List.range n).map f).find? q=none:=by grind
theorem V8 {a:Type} {n:Nat} {f:Nat->a} {q:a->Bool} {j:Nat} (c:j<n) (h:∀i,i<j->q (f i)=false) (b:q (f j)=true):((List.range n).map f).find? q=some (f j):=by
 have e:List.range n=List.range j++j::(List.range (n-j-1)).map (λi=>j+1+i):=by rw [show n=j+(1+(n-j-1)) by omega,List.range_add,List.range_add];simp [Nat.add_assoc]
 grind
theorem Nq :wG:=by
 intro h0 k p room af f Q o hl d0 c0 c5;obtain ⟨x,s,e1,H,C⟩:=o.ni;obtain ⟨q,rfl,c9,d1⟩:=(Has.left C).pj;have b9:=C.right.left.gH;have c3:Rw k 1 eP x.ah s:=C.right.left.ia λ_=>rfl;have U:0<f.length:=by omega
 obtain ⟨L,M,c8,b8⟩:∃L M,x.ah.base=some ⟨L,M,none⟩/\aT k ⟨L,M,none⟩ (s.flatMap eP):=by
  obtain ⟨_,F,⟨q1,q2,q3⟩,_⟩:=C.right.left;rcases q3 with ⟨h,_⟩ | ⟨b,off,cs,h1,_⟩
  ·omega
  ·rcases c3.2.2 with h | ⟨a,h3,h4⟩
   ·omega
   grind
 have b6:∀j,j<f.length->(s.flatMap eP)[j]? =some (.pointer (some (s.getD j a0))):=λj l=>by rw [show s.flatMap eP=s.map λa=>Value.pointer (some a) from GD,List.getElem?_map,xb (d:=a0) (by omega)];rfl
 have D:Has h0 (dd KZ ⟨q,0,none⟩ x) k:=Has.left C;have b7:cM k ⟨q,0,none⟩=some x.ah.v:=Jv (i:=0) (D.dQ (off:=0) (n:=2) (vs:=[x.ah.v,.int .i64 x.af]) rfl) rfl;have c1:Has h0 (dy ⟨q,0,none⟩ room f af) k:=C.jQ e1 H;let num:Nat->Db f.length:=λj=>⟨(((af.toNat+j)%f.length:Nat):Int),by omega,by have:=Nat.mod_lt (af.toNat+j) U;omega⟩;let dO:Nat->Nat:=λj=>(f.getD j kZ).values.length;have S:∀j,j<f.length->((match f[(af.toNat+j)%f.length]? with | some x=> !x.values.isEmpty | none=>false)=true↔dO (num j).1.toNat≠0):=λj l=>by have I:=Nat.mod_lt (af.toNat+j) U;grind
 have key:qZ Tryz.prog R4 [.pointer (some ⟨q,0,none⟩)] (λv g=>∃x,v=(bm tb Tryz.f183.resultTypes.toList).enc x/\(λ(x:(xn (ae .i64) (ae .i64) aE bu (ae .i64)).T) g=>Q x.1 x.2.1 x.2.2.1 x.2.2.2.1 x.2.2.2.2 g) x g) k:=by
  intro w hs;refine O8 (len:=f.length) (af:=af) (ptr:=λj=>s.getD j a0) (dO:=dO) (num:=num) hs ⟨U,by omega⟩ (λj l=> ?_) (λW B=> ?_) L M x.ah.cap (λW B=> ?_) (λj l W B=> ?_) (λj l W B=> ?_) (λV=> ?_) (λj l V hv=> ?_)
  ·show (Go.RowKit.wrap64 (af+(j:Int))).tmod (f.length:Int)=(((af.toNat+j)%f.length:Nat):Int);have:Go.RowKit.wrap64 (af+(j:Int))=((af.toNat+j:Nat):Int):=by unfold Go.RowKit.wrap64;omega
   rw [this];rfl
  ·refine (show aa Tryz.prog XU [aj.enc (some ⟨q,0,none⟩)] kK (λv g=>k<=g/\∃A u:Nat,k A=none/\k u=none/\v=⟨221, #[], #[.pointer (some ⟨u,0,none⟩),.pointer (some ⟨A,0,none⟩)]⟩/\aT g ⟨A,0,none⟩ [.int .i64 af]/\aT g ⟨u,0,none⟩ [.int .i64 (f.length:Int)]) k from ?_) W B |>.mono ?_
   ·refine ZB ?_;unfold XW;refine aK (D.ld (shf:=ae .i64) x.af (off:=1) rfl ?_);refine aK (D.ld (shf:=al) x.ah (off:=0) rfl ?_);intro b ty hn;have J:=kP (o:=.cells #[Value.int .i64 0] ty (0,0)) hn;have hb:fH (k.set b (.cells #[Value.int .i64 0] ty (0,0))) b [.int .i64 0]:=⟨ty,lP⟩;refine ⟨⟨om J (D.dQ (off:=1) (n:=1) (vs:=[.int .i64 x.af]) rfl),om J (D.dQ (off:=0) (n:=1) (vs:=[x.ah.v]) rfl),trivial⟩,?_⟩;refine yv hb (off:=0) (new:=[.int .i64 x.af]) (by simp) λh2 m b5=> ?_;have X:k<=h2:=λc ob e=>m.cv c ob (J c ob e) λhc=>by grind
    refine ⟨⟨om X (D.dQ (off:=0) (n:=1) (vs:=[x.ah.v]) rfl),trivial⟩,?_⟩;intro Z vf b0;have l3:=kP (o:=.cells #[Value.int .i64 ((x.ah.len:Nat):Int)] vf (0,0)) b0;refine ⟨Hp.le_trans X l3,b,Z,hn,uK X b0,rfl,om l3 ?_,?_⟩
    ·rw [<-e1];exact b5.mY (off:=0) (n:=1) rfl
    ·have:=xk (h:=h2) (b:=Z) (t:=vf) (cs:=[Value.int .i64 ((x.ah.len:Nat):Int)]);grind
   ·rintro e W' ⟨v,g,rfl,⟨fv,rfl,kl,A,u,nA,c6,rfl,lA,b1⟩,st⟩;have O:∃o,g A=some o:=by
     have:=lA 0 _ rfl;cases e:g A with
     | some o=>simp
     | none=>simp [cM,e,Addr.add] at this
    have P:∃o,g u=some o:=by
     have:=b1 0 _ rfl;cases e:g u with
     | some o=>simp
     | none=>simp [cM,e,Addr.add] at this
    obtain ⟨oA,O⟩:=O;obtain ⟨d2,P⟩:=P;refine ⟨A,u,rfl,⟨Nat.le_of_not_lt λI=> ?_,st.sub.lt O⟩,⟨Nat.le_of_not_lt λI=> ?_,st.sub.lt P⟩,uN st.sub (lA 0 _ rfl),uN st.sub (b1 0 _ rfl),st.os,st.tape,st.output,st.size,λb hb=> ?_⟩
    ·have:=(st.cv A I nA).2;grind
    ·have:=(st.cv u I c6).2;grind
    ·cases e:k b with
     | none=>exact (st.cv b hb e).1
     | some o=>rw [st.sub b o (kl b o e),B b o e]
  ·rw [uN B b7];show some (Value.slice x.ah.base x.ah.len x.ah.cap)=_;grind
  ·have:=Jv b8 (b6 j l);rw [jD] at this;exact uN B this
  ·obtain ⟨h1,J,Y,_⟩:=C.mX (xb (d:=kZ) l);refine (S9 (sh:=ae .i64) (K:=λr _=>r=((f.getD j kZ).values.length:Int)) B (ZO (PD Y ⟨rfl,rfl⟩))).mono ?_;grind
  ·refine Eq.mpr (J6 (some ⟨q,0,none⟩) (-1) Q k) ?_;unfold Cj;rw [if_pos (by decide)];refine c0 (V7 λj l=> ?_) k c1;have:=S j l;rw [V j l] at this;exact Bool.eq_false_iff.2 λe=>this.1 e rfl
  ·refine Eq.mpr (J6 (some ⟨q,0,none⟩) (num j).1 Q k) ?_;unfold Cj;have c4:=(num j).2;rw [if_neg (by simp;omega)];have R:vz af f=some (num j).1.toNat:=by
    unfold vz;rw [V8 l (λi E=> ?_) ((S j l).2 hv)]
    ·show some ((af.toNat+j)%f.length)=some ((((af.toNat+j)%f.length:Nat):Int)).toNat;rw [Int.toNat_natCast]
    ·have:=S i (by omega);rw [V i E] at this;exact Bool.eq_false_iff.2 λe=>this.1 e rfl
   generalize (num j).1=y at c4 R hv;obtain ⟨i,rfl⟩:∃i:Nat,y=(i:Int):=⟨y.toNat,by omega⟩;rw [Int.toNat_natCast] at R hv;have E:i<f.length:=by omega
   refine aK (D.ld (shf:=al) x.ah (off:=0) rfl ⟨by omega,?_⟩);obtain ⟨g1,_,oR,put⟩:=C.f1;have b4:Int.tmod (yw ((i:Int)+1)) ((x.ah.len:Nat):Int)=((i+1:Nat):Int)%(f.length:Int):=by rw [aH,b9,H];rfl
   rw [b4];refine aK (oR.st ({x with af:=((i+1:Nat):Int)%(f.length:Int)}:cL) (off:=1) (new:=[.int .i64 (((i+1:Nat):Int)%(f.length:Int))]) (by show 1+1<=2;omega) rfl λk2 o2=> ?_);have c7:=put _ _ o2;refine aK (o2.ld (shf:=al) x.ah (off:=0) rfl ?_);have b3:Has h0 (gM ⟨q,0,none⟩ {x with af:=((i+1:Nat):Int)%(f.length:Int)} s room f) k2:=c7;refine b3.ptr H E ?_;obtain ⟨g2,_,Y,jA⟩:=b3.mX (xb (d:=kZ) E);have a8:=xb (d:=kZ) E;have a9:=hl.2 _ (List.mem_of_getElem? a8);have c2:∀ {l' G},Has g2 (dj (s.getD i a0) room l') G->Has h0 (dy ⟨q,0,none⟩ room (f.set i l') (((i+1:Nat):Int)%(f.length:Int))) G:=λN=>(jA _ _ N).jQ rfl (by rw [List.length_set];exact H);refine ZG (Wy Y a9.1 a9.2 (λe=> ?_) (λv vs G e e' N=>⟨⟨trivial,trivial⟩,?_⟩) λv vs z zs G e e' N=>⟨⟨trivial,trivial⟩,?_⟩)
   ·exact absurd (congrArg List.length e) hv
   ·have:=c5 i _ v vs R a8 e G (c2 N);rw [e'] at this;exact this
   grind
 exact key
end
end Lf
namespace Lf
open Go Go.Proofs Tryz
abbrev RS :Type:=Except (Int×Nat) Nat
section
end
section
variable {d h:Hp} {c:Nat} {a:Sl} {b:List UInt8} {r:RS}
def LL (x:aw):List Value:=aY (aB.enc x)
end
def zu :aU:=⟨0,⟨none,0,0⟩,⟨none,0,0⟩⟩
structure sW (c:bg):Prop where
 labels:c.labels.length<=140737488355328
 table:c.table.length<=140737488355328
 procs:c.procs.length<=140737488355328
 code:∀p∈c.procs,p.code.length<=140737488355328
structure PV (l:ba):Prop where
 values:l.values.length<=140737488355328
 waiters:l.waiters.length<=140737488355328
structure yK (s:ij):Prop where
 parts:s.parts.length<=140737488355328
 procs:s.procs.length<=140737488355328
 log:∀x∈s.parts,x.log.length<=140737488355328/\x.ax.length<=140737488355328/\x.an.length<=140737488355328/\∀q∈x.an,q.length<=140737488355328
 ah:∀x∈s.procs,x.ah.length<=140737488355328/\∀l∈x.ah,PV l
section
end
theorem fH.rows {d:Type} {h:Hp} {b:Nat} {a:List Value} {sz:Nat} {enc:d->List Value} (k:fH h b a) (c:List d) {n m:Nat} (e:a=c.flatMap enc) (g:n=c.length) (f:∀x,(enc x).length=sz):Rw h sz enc ⟨some ⟨b,0,none⟩,n,m⟩ c:=by refine ⟨g,by rw [iE f],.inr ⟨_,rfl,?_⟩⟩;refine k.mY (off:=0) (n:=a.length) ?_;rw [List.drop_zero,List.take_length,e]
end Lf
namespace Lf
open Go Go.ChangeShapes Go.WideShapes Go.ChangeAt Go.RowKit
def whole (W:World):Hp:=λb=>W.heap[b]?
theorem V9 (W:World):Sub (whole W) W:=λ_ _ e=>e
theorem Ta (W:World) (a:Addr):cM (whole W) a=W.cell? a:=rfl
theorem Rp {W a:World} {b:Hp} (c:whole W<=b) (st:Step (whole W) b W a):Below W.heap.size W a:=
 ⟨st.os,st.tape,st.output,st.size,λk d=>by
  cases e:W.heap[k]? with
  | some o=>exact st.sub _ _ (c _ _ e)
  | none=>simp at e;omega⟩
theorem Fz {H:Type} {enc:TypeId×Value->H} {P:Program} (i:laidOutB P=true) {W g:World} {sp:Nat->Bool} (hb:Below W.heap.size W g):∀ {c:List TypeId} {f:List Value} {e:List (DataW H)} {b:List MemPlace},
  (∀t∈c,P.readableRec t=true/\t<P.types.size)->DataW.TrodAll enc P W 0 (λ_=>true) true c f e b->(∀x∈b,x.block<W.heap.size)->(∀x∈b,sp x.block=true)->DataW.TrodAll enc P g 0 sp true c f e b
 | [],_,_,_,_,h,_,_=>by obtain ⟨rfl,rfl,rfl⟩:=trodAll_nil h;exact trodAll_mk0
 | t::c,_,_,_,k,h,j,l=>by
  obtain ⟨v,f,d,e,p,q,rfl,rfl,rfl,m,n⟩:=trodAll_cons h;obtain ⟨o,r⟩:=k t (List.mem_cons_self ..);exact ⟨p,q,WideElems.Trod_stays i o r m (λx a=>hb.same (j x (List.mem_append_left _ a))) (λx a=>l x (List.mem_append_left _ a)),
   Fz i hb (λt s=>k t (List.mem_cons_of_mem _ s)) n (λx a=>j x (List.mem_append_right _ a)) (λx a=>l x (List.mem_append_right _ a)),rfl⟩
theorem Ns {H:Type} {enc:TypeId×Value->H} {P:Program} {f:Func} {s:ChangeSpec} {W d:World} {h:Hp} {args:Array Value} {a gs:List (DataW H)} {g:List MemPlace} {t:TypeId} (o:laidOutB P=true)
  (u:∀t∈f.params.toList,P.readableRec t=true/\t<P.types.size) (k:s.vars=[]) (v:f.resultTypes= #[t]) (w:P.underlying t=some .bool)
  (n:gs=[]->s.fn H (a++gs)={results:=[.lit (.bool true)],args:=a}) (b:DataW.Whole enc P f.params.toList s.vars false W args.toList a gs g) (r:whole W<=h) (st:Step (whole W) h W d):
  s.post enc P f false true false false W args (.bool true) d:=by
 have hb:=Rp r st;have j:∀p∈g,p.block<W.heap.size:=λp hp=>b.lt p hp;have m:=b;obtain ⟨p,q,l,i,rfl,y,z⟩:=m;rw [k] at i;obtain ⟨rfl,rfl⟩:=trodVars_none i;rw [List.append_nil] at j;have c:=n rfl;refine ⟨a,[],p++ [],[],p,[],b,?_,?_,?_,Below.frame hb _,λe=>(by cases e)⟩
 ·rw [c,v];exact trodAll_mk1 (shut_bool w true)
 ·rw [c];exact Fz o hb u l j (λx A=>by grind)
 ·rw [c,k];exact rfl
theorem pS {H:Type} {enc:TypeId×Value->H} {C:Checked} {os:Os} {f:FuncId} {fn:Func} {s:ChangeSpec} {t:TypeId} (own:ownKnob C.prog.godebug=none) (L:os.Started) (K:C.prog.inits.idxOf? f=none) (o:C.prog.funcs[f]? =some fn)
  (N:∃(w:World) (tape:Tape) (i:Input),w.os=os/\(w.forCall tape i).Shaped C.prog/\i.vars=[]/\Input.okWide C.prog (w.forCall tape i) .any w.heap.size f i/\
   s.pre6 enc C.prog fn [] false (w.forCall tape i).memory i.args/\({}:Assume).holds C.prog (lone (Frame.enter C.prog f i.args .normal) [] (w.forCall tape i)))
  (z:laidOutB C.prog=true) (B:∀t∈fn.params.toList,C.prog.readableRec t=true/\t<C.prog.types.size) (b:s.vars=[]) (D:fn.resultTypes= #[t]) (G:C.prog.underlying t=some .bool)
  (M:∀(W:World) (base:Nat) (args:Array Value) (a:List (DataW H)) (p:List MemPlace),(∀(j:Nat) t v,fn.params[j]? =some t->args[j]? =some v->Value.okWide C.prog W .any base t v)->DataW.TrodAll enc C.prog W 0 (λ_=>true) true fn.params.toList args.toList a p->
   (DataW.weightsEach C.prog fn.params.toList a).all (· <=reachBytes)=true->
   s.fn H a={results:=[.lit (.bool true)],args:=a}/\aa C.prog f args.toList bu (λr c=>r=true/\whole W<=c) (whole W)):
  ReturnsInHanded {} C os f .any (s.pre6 enc C.prog fn [] false) (s.post enc C.prog fn false true false false):=by
 refine returnsInHanded_of_change_sized own L K o N ?_;intro W base args a gs P I g Q k _;have m:=g;obtain ⟨p,q,l,d,_,R,S⟩:=m;have u:gs=[]:=by rw [b] at d;exact (trodVars_none d).1
 subst u;have J:s.plain.varTypes C.prog=[]:=by unfold ChangeSpec.plain DataSpec.varTypes;rw [b];rfl
 rw [J,List.append_nil,List.append_nil] at k;obtain ⟨E,n⟩:=M W base args a p I l k;have h:=n W (V9 W);simp only [Array.toArray_toList] at h;refine h.mono λe O y=> ?_;obtain ⟨v,c,rfl,⟨x,rfl,rfl,A⟩,F⟩:=y;exact ⟨_,rfl,Ns z B b D G (λe=>by rw [e,List.append_nil];exact E) g A F⟩
theorem PX {x:Int} (h:(Lit.int .u64 x).wf=true):0<=x/\x<18446744073709551616:=by simp [Lit.wf,IntKind.min,IntKind.max,IntKind.signed,IntKind.bits] at h;omega
theorem PZ {x:Int} (h:(Lit.int .i64 x).wf=true): -9223372036854775808<=x/\x<=9223372036854775807:=by simp [Lit.wf,IntKind.min,IntKind.max,IntKind.signed,IntKind.bits] at h;omega
end Lf
namespace Lf
open Go Go.Proofs Go.ChangeShapes Go.WideShapes Go.ChangeAt Go.RowKit
section
variable {H:Type} {enc:TypeId×Value->H} {P:Program} {W:World}
def kC (enc:TypeId×Value->H) (P:Program) (W:World) (t:TypeId) (R:List Value->Prop):Prop:=
 ∀fuel a y,DataW.trod enc P W 0 (λ_=>true) true fuel t a=some y->(DataW.weights P t y.1).all (· <=reachBytes)=true->R a
theorem Bq {t:TypeId} {k:IntKind} (b:P.underlying t=some (.int k)):kC enc P W t λa=>∃n,a=[.int k n]/\(Lit.int k n).wf=true:=λfuel a y h _=>by obtain ⟨n,c,_,d⟩:=DataW.trod_int b h;grind
theorem BN {l m:List Nat} {p:Nat->Bool} (h:(l++m).all p=true):l.all p=true/\m.all p=true:=by grind
theorem Ft {e:TypeId}:∀ {l:List (DataW H)} {d:DataW H},d∈l->(DataW.weightsAll P e l).all (· <=reachBytes)=true->(DataW.weights P e d).all (· <=reachBytes)=true
 | d::r,c,hm,h=>by
  rw [DataW.weightsAll] at h;obtain ⟨a,b⟩:=BN h;rcases List.mem_cons.1 hm with rfl | hm
  ·exact a
  ·exact Ft hm b
theorem rH :∀ {ts:List TypeId} {a:List (DataW H)} {i:Nat} {t:TypeId} {d:DataW H},ts[i]? =some t->a[i]? =some d->(DataW.weightsEach P ts a).all (· <=reachBytes)=true->(DataW.weights P t d).all (· <=reachBytes)=true
 | [],_,i,t,d,h,_,_=>by simp at h
 | _::_,[],i,t,d,_,h,_=>by simp at h
 | t::ts,d::a,0,f,e,b,c,h=>by simp at b c;subst b c;rw [DataW.weightsEach] at h;grind
 | t::ts,d::a,i+1,f,e,b,c,h=>by rw [DataW.weightsEach] at h;exact rH (by simpa using b) (by simpa using c) (BN h).2
theorem pA {t:TypeId} {a:Array Field} {fuel:Nat} {c:List Value} {y:DataW H×List MemPlace} (e:P.underlying t=some (.struct a)) (h:DataW.trod enc P W 0 (λ_=>true) true fuel t c=some y) (b:(DataW.weights P t y.1).all (· <=reachBytes)=true)
  {i n off:Nat} {f:Field} {R:List Value->Prop} (k:a[i]? =some f) (p:f.offset=off) (j:P.cellsOf f.type=n) (g:kC enc P W f.type R):R ((c.drop off).take n):=by
 subst p;obtain ⟨q,m,_,rfl,r,s,l⟩:=DataW.trod_struct e h;have d:=l i f k;have o:i<q.length:=by grind
 rw [List.getElem?_eq_getElem o,j] at d;refine g m _ _ d ?_;dsimp only at b;rw [DataW.weights,e] at b;refine rH (i:=i) (ts:=a.toList.map (·.type)) ?_ ?_ b
 ·grind
 grind
theorem xc {t:TypeId} {b:Array Field} {fuel:Nat} {a:List Value} {y:DataW H×List MemPlace} (d:P.underlying t=some (.struct b)) (h:DataW.trod enc P W 0 (λ_=>true) true fuel t a=some y):a.length=P.cellsOf t:=by obtain ⟨g,m,_,rfl,c,f,e⟩:=DataW.trod_struct d h;exact c
theorem pz {b a:List Value} {off n m:Nat} (h:(b.drop off).take n=a) (c:off+n=m):b.drop off=a++b.drop m:=by rw [<-c,<-h,<-List.drop_drop,List.take_append_drop]
structure nC {α:Type} (W:World) (sz:Nat) (en:α->List Value) (iN:α->Prop) (l:Sl) (xs:List α):Prop where
 zr:Rw (whole W) sz en l xs
 cap:l.len<=l.cap
 kH:l.cap<=9223372036854775807
 mh:xs.length<=140737488355328
 all:∀x∈xs,iN x
theorem Jo {t e:TypeId} {u:Type} (E:P.underlying t=some (.slice e)) (f:u->List Value) (iN:u->Prop) {sz:Nat} (S:P.cellsOf e=sz) (hb:0<P.bytesOf e) (L:kC enc P W e λd=>∃x,d=f x/\iN x) (C:∀x,(f x).length=sz):
  kC enc P W t λd=>∃(l:Sl) (b:List u),d=[l.v]/\nC W sz f iN l b:=by
 intro fuel d y h o;subst S;rcases DataW.trod_slice E h with ⟨w,_⟩ | ⟨a,s,F,g,rest,n,_,w,K,Z,O,Q,b0,M,_,_⟩
 ·exact ⟨⟨none,0,0⟩,[],w,⟨⟨rfl,by simp,.inl (by simp)⟩,Nat.le_refl _,by simp,by simp,λx r=>by cases r⟩⟩
 ·subst K;dsimp only at o;rw [DataW.weights,E] at o;dsimp only at o;rw [List.all_cons,Bool.and_eq_true,decide_eq_true_eq] at o;obtain ⟨T,z⟩:=o;have z:=(BN z).1;have I:∀i,i<s->∃x,iN x/\aT (whole W) (a.add (i*P.cellsOf e)) (f x):=by
   intro i N;have c:=M i N;have k:g[i]? =some g[i]:=List.getElem?_eq_getElem (by omega);rw [k] at c;cases B:W.cells? 0 (a.add (i*P.cellsOf e)) (P.cellsOf e) with
   | none=>grind
   | some d=>rw [B] at c;obtain ⟨_,a8,J⟩:=World.cells?_some B;obtain ⟨x,r,D⟩:=L n d _ c (Ft (List.mem_map.2 ⟨g[i],List.mem_of_getElem? k,rfl⟩) z);refine ⟨x,D,λj v p=> ?_⟩;have a9:j<(f x).length:=(List.getElem?_eq_some_iff.1 p).1;rw [Ta,J j (by grind),r];exact p
  have build:∀m,m<=s->∃b:List u,b.length=m/\(∀x∈b,iN x)/\∀i x,b[i]? =some x->aT (whole W) (a.add (i*P.cellsOf e)) (f x):=by
   intro m
   induction m with
   | zero=>simp
   | succ m V=>
    intro b1;obtain ⟨b,c,k,A⟩:=V (by omega);obtain ⟨x,D,r⟩:=I m (by omega);refine ⟨b++ [x],by simp [c],λy U=> ?_,λi y U=> ?_⟩
    ·grind
    grind
  obtain ⟨b,c,k,A⟩:=build s (Nat.le_refl _);refine ⟨⟨some a,s,F⟩,b,w,⟨⟨c.symm,iE C b,.inr ⟨a,rfl,λi v hv=> ?_⟩⟩,O,Q,?_,k⟩⟩
  ·obtain ⟨q,x,j,R,p,G⟩:=JP C b i v hv;rw [G];rw [<-rN];exact A q x R j v p
  ·have X:reachBytes<=140737488355328:=by decide
   rw [List.length_map,List.length_map] at T;have Y:g.length+rest.length<=(g.length+rest.length)*P.bytesOf e:=Nat.le_mul_of_pos_right _ hb;omega
end
section
variable {H:Type} {enc:TypeId×Value->H} {W:World}
theorem li :kC enc Tryz.prog W 3 λa=>∃n,a=[.int .i64 n]/\(Lit.int .i64 n).wf=true:=Bq (bK.bE 3 wh rfl)
theorem LY :kC enc Tryz.prog W 2 λa=>∃n,a=[.int .i64 n]/\(Lit.int .i64 n).wf=true:=Bq (bK.bE 2 vf rfl)
theorem LZ :kC enc Tryz.prog W 28 λa=>∃n,a=[.int .u64 n]/\(Lit.int .u64 n).wf=true:=Bq (bK.bE 28 E1 rfl)
theorem FW {x:Int} (h:(Lit.int .i64 x).wf=true):vb x:=by have:=PZ h;unfold vb;omega
abbrev eI (x:Int):List Value:=aY ((ae .i64).enc x)
abbrev eU (x:Int):List Value:=aY ((ae .u64).enc x)
abbrev vQ (x:bc):List Value:=aY (be.enc x)
abbrev rj (x:bd):List Value:=aY (bJ.enc x)
theorem im :Tryz.prog.cellsOf 3=1:=by kernel_rfl
theorem Pa :Tryz.prog.cellsOf 2=1:=by kernel_rfl
theorem Nu :Tryz.prog.cellsOf 28=1:=by kernel_rfl
theorem xN :Tryz.prog.cellsOf 70=5:=by kernel_rfl
theorem P1 :Tryz.prog.cellsOf 62=1:=by kernel_rfl
theorem FX :Tryz.prog.cellsOf 64=2:=by kernel_rfl
theorem Pc :Tryz.prog.cellsOf 24=1:=by kernel_rfl
theorem LK :Tryz.prog.cellsOf 22=1:=by kernel_rfl
theorem LJ :Tryz.prog.cellsOf 23=1:=by kernel_rfl
theorem Dd :Tryz.prog.cellsOf 26=7:=by kernel_rfl
theorem LW :kC enc Tryz.prog W 23 λa=>∃(l:Sl) (d:List Int),a=[l.v]/\nC W 1 eI (λ_=>True) l d:=
 Jo (bK.bE 23 qT rfl) eI _ im (by rw [show Tryz.prog.bytesOf 3=8 by kernel_rfl];omega) (λf a y h c=>by obtain ⟨n,b,_⟩:=li f a y h c;exact ⟨n,b,trivial⟩) λ_=>rfl
theorem LX :kC enc Tryz.prog W 22 λa=>∃(l:Sl) (e:List Int),a=[l.v]/\nC W 1 eU nx l e:=
 Jo (bK.bE 22 wg rfl) eU _ Nu (by rw [show Tryz.prog.bytesOf 28=8 by kernel_rfl];omega) (λf a y h d=>by obtain ⟨n,b,c⟩:=LZ f a y h d;exact ⟨n,b,PX c⟩) λ_=>rfl
theorem Ds :kC enc Tryz.prog W 70 λc=>∃x,c=vQ x/\vb x.ju:=λf c y h b=>by have a:=bK.bE 70 Fo rfl;have d:=xc a h;rw [xN] at d;obtain ⟨a0,g,_⟩:=pA a h b (i:=0) (off:=0) rfl rfl im li;obtain ⟨a1,j,_⟩:=pA a h b (i:=1) (off:=1) rfl rfl im li;obtain ⟨a2,k,_⟩:=pA a h b (i:=2) (off:=2) rfl rfl im li;obtain ⟨a3,l,_⟩:=pA a h b (i:=3) (off:=3) rfl rfl im li;obtain ⟨a4,n,o⟩:=pA a h b (i:=4) (off:=4) rfl rfl Pa LY;refine ⟨⟨a0,a1,a2,a3,a4⟩,?_,FW o⟩;have e:c=c.drop 0:=rfl;rw [e,pz (m:=1) g rfl,pz (m:=2) j rfl,pz (m:=3) k rfl,pz (m:=4) l rfl,pz (m:=5) n rfl,List.drop_of_length_le (Nat.le_of_eq d)];rfl
theorem P3 :kC enc Tryz.prog W 62 λa=>∃(l:Sl) (b:List bc),a=[l.v]/\nC W 5 vQ (λx=>vb x.ju) l b:=
 Jo (bK.bE 62 zA rfl) vQ _ xN (by rw [show Tryz.prog.bytesOf 70=40 by kernel_rfl];omega) Ds λ_=>rfl
def wK (W:World) (q:bd):Prop:=∃a,nC W 5 vQ (λx=>vb x.ju) q.Code a
theorem P4 :kC enc Tryz.prog W 64 λa=>∃x,a=rj x/\wK W x:=λf a y h d=>by have b:=bK.bE 64 Fm rfl;have c:=xc b h;rw [FX] at c;obtain ⟨a0,j,_⟩:=pA b h d (i:=0) (off:=0) rfl rfl im li;obtain ⟨l,n,k,g⟩:=pA b h d (i:=1) (off:=1) rfl rfl P1 P3;refine ⟨⟨a0,l⟩,?_,n,g⟩;have e:a=a.drop 0:=rfl;rw [e,pz (m:=1) j rfl,pz (m:=2) k rfl,List.drop_of_length_le (Nat.le_of_eq c)];rfl
theorem Pd :kC enc Tryz.prog W 24 λa=>∃(l:Sl) (b:List bd),a=[l.v]/\nC W 2 rj (wK W) l b:=
 Jo (bK.bE 24 zy rfl) rj _ FX (by rw [show Tryz.prog.bytesOf 64=32 by kernel_rfl];omega) P4 λ_=>rfl
structure sV (W:World) (x:aw):Prop where
 labels:∃ls,nC W 1 eU nx x.aN ls
 table:∃ts,nC W 1 eI (λ_=>True) x.Table ts
 procs:∃ps,nC W 2 rj (wK W) x.aM ps
theorem Dr :kC enc Tryz.prog W 26 λc=>∃x,c=LL x/\sV W x:=λf c y h b=>by have a:=bK.bE 26 EU rfl;have d:=xc a h;rw [Dd] at d;obtain ⟨t,w,l,g⟩:=pA a h b (i:=0) (off:=0) rfl rfl LK LX;obtain ⟨u,z,n,j⟩:=pA a h b (i:=1) (off:=1) rfl rfl LJ LW;obtain ⟨a2,o,_⟩:=pA a h b (i:=2) (off:=2) rfl rfl im li;obtain ⟨a3,p,_⟩:=pA a h b (i:=3) (off:=3) rfl rfl im li;obtain ⟨a4,q,_⟩:=pA a h b (i:=4) (off:=4) rfl rfl im li;obtain ⟨a5,r,_⟩:=pA a h b (i:=5) (off:=5) rfl rfl im li;obtain ⟨v,A,s,k⟩:=pA a h b (i:=6) (off:=6) rfl rfl Pc Pd;refine ⟨⟨t,u,a2,a3,a4,a5,v⟩,?_,⟨w,g⟩,⟨z,j⟩,A,k⟩;have e:c=c.drop 0:=rfl;rw [e,pz (m:=1) l rfl,pz (m:=2) n rfl,pz (m:=3) o rfl,pz (m:=4) p rfl,pz (m:=5) q rfl,pz (m:=6) r rfl,pz (m:=7) s rfl,List.drop_of_length_le (Nat.le_of_eq d)];rfl
end
theorem J7 {b c:Type} {R:b->c->Prop} {G:c->Prop}:∀ {l:List b},(∀x∈l,∃p,R x p/\G p)->∃m,db R l m/\∀p∈m,G p
 | [],_=>⟨[],trivial,λp hp=>by cases hp⟩
 | a::l,h=>by obtain ⟨p,d,g⟩:=h a (List.mem_cons_self ..);obtain ⟨m,e,i⟩:=J7 (l:=l) λx f=>h x (List.mem_cons_of_mem _ f);refine ⟨p::m,⟨d,e⟩,λq j=> ?_⟩;grind
section
variable {W:World}
theorem Pe {q:bd} (k:wK W q):∃p,kE (whole W) q p/\((∀x∈p.code,vb x.lJ)/\p.code.length<=140737488355328):=by
 obtain ⟨a,h⟩:=k;refine ⟨⟨q.Part,a.map bA⟩,⟨rfl,a,h.zr,rfl⟩,λx b=> ?_,?_⟩
 ·obtain ⟨y,c,rfl⟩:=List.mem_map.1 b;exact h.all y c
 ·show (a.map bA).length<=_;rw [List.length_map];exact h.mh
theorem yR {x:aw} (k:sV W x):∃c,eu (whole W) x c/\Typed c/\sW c:=by obtain ⟨j,b⟩:=k.labels;obtain ⟨n,e⟩:=k.table;obtain ⟨l,d⟩:=k.procs;obtain ⟨m,f,g⟩:=J7 λq i=>Pe (d.all q i);have r:=f.len;have o:=d.mh;refine ⟨⟨j,n,x.Fuel,x.gQ,x.bG,x.Log,m⟩,⟨b.zr,e.zr,rfl,rfl,rfl,rfl,l,d.zr,f⟩,⟨λa h=> ?_,λp hp=>(g p hp).1⟩,⟨b.mh,e.mh,by show m.length<=_;omega,λp hp=>(g p hp).2⟩⟩;have:=b.all a h;omega
end
section
variable {H:Type} {enc:TypeId×Value->H} {W:World}
theorem P6 {v:Value} {b:List Value} (h:v.cells.toList=b) (c:b.length≠1):v=.agg b.toArray:=by
 cases v with
 | agg a=>rw [<-h];rfl
 | _=>subst h;simp [Value.cells] at c
theorem vM {v:Value} {d:DataW H} {f:List MemPlace} (h:DataW.Trod enc Tryz.prog W 0 (λ_=>true) true 26 v d f) (c:(DataW.weights Tryz.prog 26 d).all (· <=reachBytes)=true):
  ∃x:aw,v=aB.enc x/\sV W x:=by
 obtain ⟨fuel,a⟩:=h;obtain ⟨x,e,b⟩:=Dr fuel _ _ a c;exact ⟨x,P6 e (by simp),b⟩
end
end Lf
namespace Lf
open Go Go.Proofs Tryz
section
variable {h:Hp} {Q:Bool->Hp->Prop}
theorem Nv {P:Program} {x:aw} {c:bg} (a:eu h x c) (j:sW c) (f:∀r,Q r h):QR P x Q h:=by
 unfold QR;obtain ⟨d,e,g⟩:=a.procs;have l:=g.len;have m:x.aM.len=d.length:=e.1;have o:=j.procs;refine aI (aI ?_);split
 ·exact f _
 refine bQ.intro (λ_ i k=>k=h/\∃n:Nat,i=(n:Int)/\n<=d.length) (λ_ i _=>(d.length-i).toNat) ⟨rfl,0,rfl,by omega⟩ ?_;rintro left i k ⟨rfl,n,rfl,hn⟩;refine aI ?_;by_cases b:((decide ((n:Int)<((x.aM.len:Nat):Int)))&&(decide (left>=(0:Int))))=true
 ·rw [if_pos b];rw [Bool.and_eq_true,decide_eq_true_eq] at b;refine Rw.vc e (λ_=>rfl) (by omega) (sh:=al) (λq=>q.Code) (λ_=>rfl) (by omega) (by omega) λy p=> ?_;rw [wrap64 (n:=(n:Int)+1) (by omega) (by omega)];exact ⟨⟨rfl,n+1,by omega,by omega⟩,by omega⟩
 ·rw [if_neg b];exact f _
end
theorem uk {c:bg} (b:Typed c):∀l∈c.labels,nx l:=λl a=>⟨(b.1 l a).1,(b.1 l a).2⟩
section
variable {c:bg} {t:ij} {s:MS}
theorem Nw (m:cc c):yJ c t↔sZ c t λi y=>jL c i y.toNat=true:=by
 have key:∀(p:Nat) x y,t.procs[p]? =some x->c.procs[p]? =some y->(q8 c t (λ(i:Nat) q=>fl c.labels (i:Int) q=true) x y↔q8 c t (λi y=>jL c i y.toNat=true) x y):=λp x y _ a=>by
  have hp:=(m.part y (List.mem_of_getElem? a)).1;have e:∀i:Nat,jL c i y.part.toNat=fl c.labels (i:Int) y.part:=λi=>by unfold jL;rw [show ((y.part.toNat:Nat):Int)=y.part by omega]
  unfold q8;simp only [e]
 unfold yJ sZ;constructor
 ·rintro ⟨d,f,g,h⟩;exact ⟨d,f,λp x y b a=>(key p x y b a).1 (g p x y b a),h⟩
 ·rintro ⟨d,f,g,h⟩;exact ⟨d,f,λp x y b a=>(key p x y b a).2 (g p x y b a),h⟩
theorem DE {h:Hp} {y:aU} (b:eV h y t):∀x∈t.procs,x.bf.length=8:=λx j=>by
 obtain ⟨d,_,e⟩:=b.procs;obtain ⟨i,f⟩:=List.mem_iff_getElem?.1 j;have:∃z,d[i]? =some z/\eT h z x:=by have k:=e.len;have l:=(List.getElem?_eq_some_iff.1 f).1;obtain ⟨z,g,a⟩:=e.get (i:=i) (List.getElem?_eq_getElem (show i<d.length by omega));rw [f] at g;cases g;exact ⟨_,List.getElem?_eq_getElem (show i<d.length by omega),a⟩
 obtain ⟨z,_,a⟩:=this;rw [<-a.bf];rfl
end
section
variable {k:Hp} {x:aw} {y:aU} {c:bg} {t:ij}
structure qE (k:Hp) (c:bg) (t:ij) (pm:Addr) (k':Hp):Prop where
 ex:∃K tm h1,K.c=c/\dq h1 K/\k<=h1/\Has h1 (aA K pm (bW t) tm) k'/\eH c tm (bW t)
 iN:Good c (jL c) (bW t) No No t.tick
 parts:t.parts.length=nP c
 procs:t.procs.length=nQ c
theorem Pg {Q:Option Addr->Int->Hp->Prop} (a:eu k x c) (u:∀l∈c.labels,nx l) (q:∀b,k<=b->(iL c).1≠0->Q none (iL c).1 b)
  (s:∀pm b,(iL c).1=0->k<=b->qE k c ((sP c).list c) pm b->Q (some pm) 0 b):Ts prog x Q k:=by
 unfold Ts;refine T6 (Ac a λv f=> ?_);by_cases d:(iL c).1=0
 ·rw [d,if_neg (by decide)];have e:=sk d;refine ZI (Np (a.mono f) e λr B w j=>⟨⟨trivial,trivial⟩,?_⟩);have hp:((sP c).list c).parts.length=nP c:=by show ((List.range (nP c)).map _).length=_;simp
  have i:((sP c).list c).procs.length=nQ c:=by show ((List.range (nQ c)).map _).length=_;simp
  have h:=Hp.le_trans f w;have g:=J5 e (Good.may e (Good.first (fl:=jL c) e) (by show (0:Int)<=_;decide)) (DE j);refine Nt (OW (a.mono h) j u d (OY e g hp i) λK pm A p b n mk m o z=>s pm b d (Hp.le_trans h (Hp.le_trans m o.le)) ⟨⟨K,A,p,n,mk,Hp.le_trans h m,o,z⟩,g,hp,i⟩)
 ·rw [if_pos (by simpa using d)];exact q v f d
end
section
variable {c:bg} {s:MS} {t:ij}
theorem Pj {i:Nat} (a:i<nP c):(bW (s.list c)).part i=s.part i:=by show ((List.range (nP c)).map s.part).getD i lX=_;grind
theorem J8 {i:Nat} (a:i<nQ c):(bW (s.list c)).proc i=s.proc i:=by show ((List.range (nQ c)).map s.proc).getD i qa=_;grind
theorem Up :(s.list c).parts.length=nP c:=by show ((List.range (nP c)).map _).length=_;simp
theorem Uq :(s.list c).procs.length=nQ c:=by show ((List.range (nQ c)).map _).length=_;simp
theorem Ak {K:MK} {pm:Addr} {a:Nat->Nat->Int} (e:K.c=c):aA K pm (bW (s.list c)) a=aA K pm s a:=by
 subst e;unfold aA;have d:dg.first (λi=>nS K i ((bW (s.list K.c)).part i) (a i)) (nP K.c)=dg.first (λi=>nS K i (s.part i) (a i)) (nP K.c):=rJ λi b=>by rw [Pj b]
 have f:dg.first (λp=>nU K p ((bW (s.list K.c)).proc p)) (nQ K.c)=dg.first (λp=>nU K p (s.proc p)) (nQ K.c):=rJ λi b=>by rw [J8 b]
 rw [d,f];rfl
theorem AR {a:Nat->Nat->Int} (d:eH c a s):eH c a (bW (s.list c)):=λi id b=>by
 rw [d i id b];unfold mJ;by_cases h:id / 2<nQ c/\az c (id / 2)=i
 ·rw [if_pos h,if_pos h,J8 h.1]
 omega
theorem Pk (g:jv c (bW t)) (m:cc c) (hp:t.parts.length=nP c) (f:t.procs.length=nQ c):yK t:=by
 have j:=m.parts;have k:=m.procs;refine ⟨by omega,by omega,λx b=> ?_,λx b=> ?_⟩
 ·obtain ⟨i,a⟩:=List.mem_iff_getElem?.1 b;have h:=(List.getElem?_eq_some_iff.1 a).1;have e:(bW t).part i=x:=ou a;have sp:=g.part i (by omega);rw [e] at sp;have:=sp.jy;have:=sp.gG;have:=sp.mh.1;exact ⟨by omega,by omega,by omega,λq f=>by have:=sp.mh.2 q f;omega⟩
 ·obtain ⟨i,a⟩:=List.mem_iff_getElem?.1 b;have h:=(List.getElem?_eq_some_iff.1 a).1;have e:(bW t).proc i=x:=ou a;have sp:=g.proc i (by omega);rw [e] at sp;have:=sp.len;exact ⟨by omega,λl d=>⟨by have:=(sp.dK l d).values;omega,by have:=(sp.dK l d).waiters;omega⟩⟩
end
def DB (a:MK) (n:Option Addr) (t2:ij) (b:Nat->Nat->Int):dg:=match n with
 | none=>.fact True
 | some p=>aA a p (bW t2) b
structure iJ (h k:Hp) (c:bg) (t1 t2:ij) (pm:Addr) (n:Option Addr):Prop where
 ex:∃K tm K2 tm2,K.c=c/\dq h K/\eH c tm (bW t1)/\(n≠none->K2.c=c/\dq h K2/\eH c tm2 (bW t2))/\Has h ((aA K pm (bW t1) tm).star (DB K2 n t2 tm2)) k
section
variable {h k:Hp} {c:bg} {t1 t2 t:ij} {pm a:Addr} {n:Option Addr}
theorem iJ.le (q:iJ h k c t1 t2 pm n):h<=k:=by obtain ⟨_,_,_,_,_,_,_,_,o⟩:=q.ex;exact o.le
theorem qE.pair (q:qE k c t pm h):∃b,k<=b/\iJ b h c t t pm none:=by obtain ⟨K,d,b,e,mk,l,o,g⟩:=q.ex;exact ⟨b,l,⟨K,d,K,d,e,mk,g,λf=>absurd rfl f,o.beside (Has.fact trivial (Hp.le_refl _))⟩⟩
theorem iJ.one (q:iJ h k c t1 t2 pm n):∃K f b,K.c=c/\dq b K/\eH c f (bW t1)/\h<=b/\Has b (aA K pm (bW t1) f) k/\∀d g i,Has b (aA K pm d g) i->eH c g d->iJ h i c (d.list c) t2 pm n:=by obtain ⟨K,f,l,v,e,mk,s,m,o⟩:=q.ex;obtain ⟨b,j,r,_,put⟩:=o.fst;refine ⟨K,f,b,e,mk.mono j,s,j,r,λd g i p u=>⟨K,g,l,v,e,mk,AR u,m,?_⟩⟩;rw [Ak e];exact put _ _ p
theorem iJ.two (q:iJ h k c t1 t2 pm (some a)):∃K f b,K.c=c/\dq b K/\eH c f (bW t2)/\h<=b/\Has b (aA K a (bW t2) f) k/\∀d g j,Has b (aA K a d g) j->eH c g d->iJ h j c t1 (d.list c) pm (some a):=by obtain ⟨K,f,l,y,e,mk,v,r,o⟩:=q.ex;obtain ⟨i,p,x⟩:=r (by simp);obtain ⟨b,m,u,_,put⟩:=o.snd;refine ⟨l,y,b,i,p.mono m,x,m,u,λd g j s w=>⟨K,f,l,g,e,mk,v,λ_=>⟨i,p,AR w⟩,?_⟩⟩;unfold DB;dsimp only;rw [Ak i];exact put _ _ s
theorem iJ.base {P:Program} {g:FuncId} {args:List Value} {sh:Shape} {j K:sh.T->Hp->Prop} (q:iJ h k c t1 t2 pm n) (s:aa P g args sh (λx b=>h<=b/\j x b) h) (u:∀x b d,h<=b->j x b->iJ b d c t1 t2 pm n->K x d):aa P g args sh K k:=by obtain ⟨m,y,p,z,e,mk,w,f,o⟩:=q.ex;refine Ah o s ?_;rintro x b d ⟨l,r⟩ v;exact u x b d l r ⟨m,y,p,z,e,mk.mono l,w,λi=>⟨(f i).1,(f i).2.1.mono l,(f i).2.2⟩,v⟩
theorem iJ.grow {b:Hp} (q:iJ h k c t1 t2 pm n) (l:k<=b):iJ h b c t1 t2 pm n:=by obtain ⟨d,j,f,m,e,mk,i,g,o⟩:=q.ex;exact ⟨d,j,f,m,e,mk,i,g,o.grow l⟩
theorem iJ.alone (q:iJ h k c t1 t2 pm n):iJ h k c t1 t1 pm none:=by obtain ⟨b,d,i,l,e,mk,g,j,o⟩:=q.ex;exact ⟨b,d,b,d,e,mk,g,λf=>absurd rfl f,(Has.left o).beside (Has.fact trivial (Hp.le_refl _))⟩
theorem Wb {s:MS} {p v:Int}:TW (u5 c s p v).1=TW s:=by
 unfold u5;split
 ·rfl
 ·split
  ·exact qt rfl
  ·exact BJ rfl
end
section
variable {h k:Hp} {c:bg} {t1 t2 t:ij} {pm a:Addr} {n:Option Addr}
def qh (c:bg) (t:ij):ij:=(lu c fS (jL c) (bW t)).list c
def vS (c:bg) (t:ij) (p v:Int):ij:=(u5 c (bW t) p v).1.list c
end
section
variable {c:bg} {s:MS} {t:ij}
structure GT (c:bg) (t:ij):Prop where
 iN:Good c (jL c) (bW t) No No t.tick
 parts:t.parts.length=nP c
 procs:t.procs.length=nQ c
theorem GT.of (m:cc c) (g:Good c (jL c) s No No s.tick) (a:s.tick<=4611686018427387904):GT c (s.list c):=
 ⟨J5 m (Good.may m g a) λx b=>by
  obtain ⟨p,hp,rfl⟩:=List.mem_map.1 b;exact (g.proc p (List.mem_range.1 hp)).bf,Up,Uq⟩
theorem Wd {D:Int->Int->Int->Int} (m:cc c) {fl:Nat->Nat->Bool} (g:Good c fl s No No s.tick):(lu c D fl s).tick=s.tick+1:=by have b:=(g.uo (T':=s.tick+1) (by omega)).due (i:=zip c s.tick);obtain ⟨_,a⟩:=Good.turns (D:=D) m (m.lM (t:=s.tick)) c.fuel.toNat b rfl;have a:(nw c D fl (zip c s.tick) c.fuel.toNat (je c s (zip c s.tick))).tick=s.tick:=a;show (nw c D fl (zip c s.tick) c.fuel.toNat (je c s (zip c s.tick))).tick+1=_;rw [a]
theorem GT.tick (m:cc c) (g:GT c t) (a:t.tick<4611686018427387904):GT c (qh c t)/\(qh c t).tick=t.tick+1:=by have e:(lu c fS (jL c) (bW t)).tick=t.tick+1:=Wd m g.iN;exact ⟨GT.of m (g.iN.DP m) (by omega),e⟩
theorem GT.inj (m:cc c) (g:GT c t) (a:t.tick<=4611686018427387904) {p v:Int}:GT c (vS c t p v)/\(vS c t p v).tick=t.tick:=by have e:(u5 c (bW t) p v).1.tick=t.tick:=SZ;exact ⟨GT.of m (by rw [e];exact g.iN.y9) (by omega),e⟩
theorem GT.le (m:cc c) (g:GT c t):yK t:=Pk (g.iN.qe m) m g.parts g.procs
theorem GT.may (m:cc c) (g:GT c t) (a:t.tick<=4611686018427387904):yJ c t:=by have:=Good.may m g.iN a;rw [AM g.parts g.procs] at this;exact (Nw m).2 this
theorem Nx (m:cc c):GT c ((sP c).list c)/\((sP c).list c).tick=0:=⟨GT.of m (Good.first m) (by show (0:Int)<=_;decide),rfl⟩
end
section
end
def Kf {V:Type} (m:Nat) (k:IntKind) (ev:V->Value) (j:List (Int×V)):dg:=
 ⟨λh F=>fe h m k ev j/\∀c,F c↔c=m,λ{i l F} h g=>⟨by obtain ⟨⟨e,ck,a,d⟩,b⟩:=h;exact ⟨e,ck,by rw [g m ((b m).2 rfl)];exact a,d⟩,h.2⟩,
  λ{i F} h c f=>by obtain ⟨⟨e,ck,a,d⟩,b⟩:=h;rw [(b c).1 f,a];simp⟩
section
variable {h0 k:Hp} {V:Type} {m:Nat} {b:IntKind} {ev:V->Value} {kvs:List (Int×V)}
theorem Has.kv (o:Has h0 (Kf m b ev kvs) k):fe k m b ev kvs/\h0 m=none:=by obtain ⟨_,F,⟨a,e⟩,c⟩:=o;exact ⟨a,c m ((e m).2 rfl)⟩
theorem Has.L3 (e:h0<=k) (a:fe k m b ev kvs) (f:h0 m=none):Has h0 (Kf m b ev kvs) k:=
 ⟨e,λc=>c=m,⟨a,λ_=>Iff.rfl⟩,λc d=>by rw [d];exact f⟩
end
section
end
def Cn {V:Type} (m:Nat) (ev:V->Value) (j:List ((Int×Int)×V)):dg:=
 ⟨λh F=>mN h m ev j/\∀c,F c↔c=m,λ{i k F} h g=>⟨by obtain ⟨⟨e,ck,a,d⟩,b⟩:=h;exact ⟨e,ck,by rw [g m ((b m).2 rfl)];exact a,d⟩,h.2⟩,
  λ{i F} h c f=>by obtain ⟨⟨e,ck,a,d⟩,b⟩:=h;rw [(b c).1 f,a];simp⟩
section
variable {h0 k:Hp} {V:Type} {m:Nat} {ev:V->Value} {kvs:List ((Int×Int)×V)} {P:Program}
theorem Has.ks (o:Has h0 (Cn m ev kvs) k):mN k m ev kvs/\h0 m=none:=by obtain ⟨_,F,⟨a,e⟩,b⟩:=o;exact ⟨a,b m ((e m).2 rfl)⟩
theorem Has.Dy (d:h0<=k) (a:mN k m ev kvs) (e:h0 m=none):Has h0 (Cn m ev kvs) k:=
 ⟨d,λc=>c=m,⟨a,λ_=>Iff.rfl⟩,λc b=>by rw [b];exact e⟩
theorem Has.xT {mt j h:Nat} {f g:Field} (p:P.underlying mt=some (.map h j)) (key:pC P h f g) (o:Has h0 (Cn m ev kvs) k) {a:Int×Int} {v:V} {K:Hp->Prop} (n:∀d,Has h0 (Cn m ev (ki a v kvs)) d->K d):qD P (Instr.mapUpdate mt (.map (some m)) (gu a) (ev v)) K k:=by
 obtain ⟨a1,b⟩:=o.ks;refine V0 p key a1 λq a2=>n _ (Has.Dy (λc x e=> ?_) a2 b);have l:c≠m:=λi=>by rw [i,b] at e;cases e
 unfold Hp.set;rw [if_neg l];exact o.le c x e
theorem JT (a b:Int×Int) (v:V):∀l:List ((Int×Int)×V),gY a (ki b v l)=if a=b then some v else gY a l
 | []=>by simp [ki,gY]
 | (k,u)::r=>by
  simp only [ki];by_cases h:b=k
  ·rw [if_pos h];subst h;simp only [gY];split<;>rfl
  ·rw [if_neg h];simp only [gY,JT a b v r];grind
end
theorem BO :pC prog 213 ⟨ "proc",3,0,false, "", "firebreak/delay",0⟩ ⟨ "lane",3,1,false, "", "firebreak/delay",8⟩ where
 bE:=bK.bE 213 yj rfl
 fn:=by simp
 gn:=by simp
 ft:=bK.bE 3 wh rfl
 gt:=bK.bE 3 wh rfl
 fo:=rfl
 go:=rfl
 st:=by kernel_rfl
theorem Br :prog.underlying 160=some (.map 213 257):=bK.bE 160 yh rfl
def kp :br:=⟨0,0,⟨none,0,0⟩⟩
abbrev yV :aC->List Value:=λx=>aY (dV.enc x)
abbrev th (d:Addr) (x:cw) (b c:Nat) (a:List ((Int×Int)×br)) (e:Sl) (M:List aC) (sG:Sl) (G:List Int) (f:Sl) (O:List Int):dg:=
 q9 (dd Tc d x) (Cn b dk.enc a) (Kf c .i64 eC.enc []) (dC 5 yV e M) (dC 1 dZ sG G) (dC 1 dZ f O)
def LB (e:br):Prop:=e.open_.len=0/\0<=e.taken/\e.taken<=65535/\0<=e.many/\e.many<=65535
def fh (d:Addr) (x:cw) (a c:Nat) (sp:Int×Int) (tk b:Int) (M:List aC) (G O:List Int):dg:=
 .some_ λz:List ((Int×Int)×br)×Sl×Sl×Sl=>(th d {x with messages:=z.2.1,gone:=z.2.2.1} a c z.1 z.2.1 M z.2.2.1 G z.2.2.2 O).star
  (.fact ((∀key,key≠sp->LB ((gY key z.1).getD kp))/\(gY sp z.1).getD kp=⟨tk,b,z.2.2.2⟩))
section
variable {h k:Hp} {b:Addr} {x:cw} {d u:Nat} {sp:Int×Int} {tk j:Int} {M:List aC} {G O:List Int}
theorem Has.mq :Has h (fh b x d u sp tk j M G O) k↔∃a c sG e,Has h (th b {x with messages:=c,gone:=sG} d u a c M sG G e O) k/\(∀key,key≠sp->LB ((gY key a).getD kp))/\(gY sp a).getD kp=⟨tk,j,e⟩:=by
 unfold fh;rw [Has.ex];constructor
 ·rintro ⟨⟨a,c,sG,e⟩,o⟩;obtain ⟨o,f⟩:=o.iC;exact ⟨a,c,sG,e,o,f⟩
 ·rintro ⟨a,c,sG,e,o,f⟩;exact ⟨⟨a,c,sG,e⟩,o.eB f⟩
theorem DG :ui.zero=dk.enc kp:=by kernel_rfl
theorem Nz {K:Value->Hp->Prop} (a:K (dk.enc kp) k):bF prog (zeroValue 257) K k:=
 Lx bK (t:=257) (e:=ui) rfl (by rw [DG];exact a)
theorem Ig {c:List ((Int×Int)×br)} {a:dF} (o:mN k d dk.enc c):iK prog (Instr.lookup 160 (.map (some d)) a.v false) k (dk.enc ((gY (a.proc,a.lane) c).getD kp)):=by have:=OU (P:=prog) (h:=k) (a:=(a.proc,a.lane)) (z:=kp) Br BO o λK e=>Nz e;exact this
theorem Hk {at_:dF} {l:bM} {Q:Hp->Prop} (t:x.ah=some d) (o:Has h (fh b x d u sp tk j M G O) k) (q:(at_.proc,at_.lane)≠sp) (T:l.dD.len=0) (r:0<=l.cO/\l.cO<=65535)
  (C:∀c,Has h (fh b x d u sp tk j M G O) c->Q c):Gk prog (some b) at_ l Q k:=by
 unfold Gk;obtain ⟨E,I,sG,J,o,f1,f2⟩:=Has.mq.1 o;obtain ⟨U,_,z,_⟩:=o.sR;obtain ⟨R,_,y,H⟩:=o.sF;obtain ⟨mk,_⟩:=y.ks;obtain ⟨e,p⟩:∃e,e=(gY (at_.proc,at_.lane) E).getD kp:=⟨_,rfl⟩;have w:=f1 _ q;rw [<-p] at w;obtain ⟨A,K,L,N,P⟩:=w;refine aK (z.ld (shf:=dI) (some d) (by rw [<-t];rfl) ⟨e,?_,?_⟩)
 ·rw [p];exact Ig mk
 refine ay.intro (λg m=>g=e/\m=k) (λ_ _=>0) ⟨rfl,rfl⟩ ?_;rintro g m ⟨ex,f⟩;subst ex;subst f;rw [show decide (((g.open_.len:Nat):Int)>0)=false from decide_eq_false (by omega)];refine aK ⟨⟨none,0,0⟩,λe=>(by cases e),λe=>(by cases e),0,λe=>(by cases e),λe=>(by cases e),0,λe=>(by cases e),aI ?_⟩;rw [ry];refine bL.intro (λs c=>s=g/\c=m) ?_ ?_
 ·split
  ·refine bQ.intro (λ(i:Int) s c=>s=g/\c=m/\0<=i) (λ_ _ _=>0) ⟨rfl,rfl,?_⟩ ?_
   ·rw [wZ];omega
   ·rintro i s c ⟨n,f,S⟩;subst n;subst f;rw [if_neg (λe=>by have:=of_decide_eq_true e;omega)];exact ⟨rfl,rfl⟩
  ·exact ⟨rfl,rfl⟩
 ·rintro s c ⟨n,f⟩;subst n;subst f;refine ⟨⟨trivial,trivial⟩,aK (z.ld (shf:=dI) (some d) (by rw [<-t];rfl) ?_)⟩;refine y.xT Br BO (a:=(at_.proc,at_.lane)) (v:=(⟨l.cO,l.dD.len,s.open_⟩:br)) λD F=>C D (Has.mq.2 ⟨_,I,sG,J,H _ _ F,λkey B=> ?_,?_⟩)
  ·rw [JT];split
   ·exact ⟨A,r.1,r.2,by show (0:Int)<=((l.dD.len:Nat):Int);omega,by show ((l.dD.len:Nat):Int)<=65535;omega⟩
   ·exact f1 key B
  ·rw [JT,if_neg (λe=>q e.symm)];exact f2
def ze :aC:=⟨0,0,0,0,0⟩
def kY (tk time:Int) (G:List Int):List Int->List aC->List aC×List Int
 | [],M=>(M,[])
 | o::r,M=>if G.getD o.toNat 0<=tk then kY tk time G r (M.set o.toNat {M.getD o.toNat ze with Out:=time}) else (M,o::r)
theorem Hl {tk time:Int} {G r:List Int} {o:Int} {M:List aC}:kY tk time G (o::r) M=if G.getD o.toNat 0<=tk then kY tk time G r (M.set o.toNat {M.getD o.toNat ze with Out:=time}) else (M,o::r):=rfl
def vJ (p q time tk:Int):Nat->Int->List aC->List Int->List Int->List aC×List Int×List Int
 | 0,_,M,G,O=>(M,G,O)
 | c+1,i,M,G,O=>vJ p q time tk c (i+1) (M++ [⟨p,q,i,time, -1⟩]) (G++ [tk+i+1]) (O++ [(M.length:Int)])
theorem Pm {at_:dF} {l:bM} {Q:Hp->Prop} {n W:Nat} {S:Int} {F:List aC×List Int} {R:List aC×List Int×List Int} (hx:x.ah=some d) (o:Has h (fh b x d u sp tk j M G O) k) (hs:(at_.proc,at_.lane)=sp) (hn:l.dD.len=n) (h1:n<=64) (ht:0<=l.cO/\l.cO<=60000)
  (hb:0<=tk/\tk<=65535/\0<=j/\j<=65535) (d2:M.length<=1000/\G.length=M.length/\O.length<=1000) (L:∀o∈O,∃i:Nat,o=(i:Int)/\i<M.length)
  (H:kY l.cO x.time G O M=F) (d1:S=max 0 (j-(l.cO-tk))) (hc:(W:Int)=max S n-S) (hR:vJ at_.proc at_.lane x.time l.cO W S F.1 G F.2=R)
  (hq:∀E,Has h (fh b x d u sp l.cO n R.1 R.2.1 R.2.2) E->Q E):Gk prog (some b) at_ l Q k:=by
 unfold Gk;obtain ⟨a8,U,sG,sO,o,f1,f2⟩:=Has.mq.1 o;obtain ⟨hr,_,oR,_⟩:=o.sR;obtain ⟨hf,_,oF,i7⟩:=o.sF;obtain ⟨mk,_⟩:=oF.ks;refine aK (oR.ld (shf:=dI) (some d) (by rw [<-hx];rfl) ⟨⟨tk,j,sO⟩,?_,?_⟩)
 ·rw [<-f2,<-hs];exact Ig mk
 clear mk;refine ay.intro (λ(x2:br) T=>∃z A s1,x2=⟨tk,j,s1⟩/\Has h (th b {x with messages:=U,gone:=sG} d u a8 U z sG G s1 A) T/\kY l.cO x.time G A z=F/\z.length=M.length/\A.length<=1000/\∀o∈A,∃i:Nat,o=(i:Int)/\i<M.length)
  (λx2 _=>x2.open_.len) ⟨M,O,sO,rfl,o,H,rfl,d2.2.2,L⟩ ?_
 rintro _ T ⟨z,A,s1,rfl,J,H,c7,c9,L⟩;obtain ⟨i2,_,a9,i9⟩:=J.sR;obtain ⟨i5,_,b6,j1⟩:=J.sU;obtain ⟨i3,_,b4,g0⟩:=J.sS;obtain ⟨i4,_,c3,j0⟩:=J.sT;have b9:=b6.gH;have d5:=b6.sf;have g6:=b4.gH;have g5:=c3.gH;have tail : ∀ y : Int, (decide (((s1.len : Nat) : Int) > 0) && decide (l.cO >= y)) = false -> kY l.cO x.time G A z = (z, A) -> bL (α1 := br) (λk =>
      (if (decide (l.cO<(65535:Int)))=true then
      bQ (α1:=Int) (α2:=br) (λc5 i f D=>
      (if (decide (i<((l.dD.len:Nat):Int)))=true then
      ag none (some b) λp2=>
      aQ none al D (Addr.add p2 9) λx7=>
      bq [(.int .i64 ((x7.len:Nat):Int))] (λa X=>
      ((True/\True)/\fP 1 8 [(.int .i64 (0:Int))] ⟨f.open_.base,f.open_.len,f.open_.cap⟩ ⟨(some a),1,1⟩ (λr Y=>
      ag none (some b) λp3=>
      aQ none al Y (Addr.add p3 9) λx8=>
      ag none (some b) λp4=>
      aQ none (ae .i64) Y (Addr.add p4 8) λx9=>
      bq [(.int .i64 at_.proc),(.int .i64 at_.lane),(.int .i64 i),(.int .i64 x9),(.int .i64 (-1:Int))] (λa1 h5=>
      (((aT h5 (Addr.add p3 9) [x8.v])/\True)/\fP 5 40 [(.int .i64 (0:Int)),(.int .i64 (0:Int)),(.int .i64 (0:Int)),(.int .i64 (0:Int)),(.int .i64 (0:Int))] x8 ⟨(some a1),1,1⟩ (λK h6=>
      ag none (some b) λp5=>
      cq h6 (Addr.add p5 9) [K.v] (λh7=>
      ag none (some b) λp6=>
      aQ none al h7 (Addr.add p6 10) λc4=>
      bq [(.int .i64 (yw ((yw (l.cO+i))+(1:Int))))] (λa2 h8=>
      (((aT h8 (Addr.add p6 10) [c4.v])/\True)/\fP 1 8 [(.int .i64 (0:Int))] c4 ⟨(some a2),1,1⟩ (λr2 h9=>
      ag none (some b) λp7=>
      cq h9 (Addr.add p7 10) [r2.v] (λc6=>
      c5 (yw (i+(1:Int))) ⟨f.taken,f.many,r⟩ c6)) h8)) h7)) h5)) Y) X)) D
      else
      k f D)) (iq (0:Int) (yw (j-(yw (l.cO-tk))))) (⟨tk,j,s1⟩:br) T
      else
      k ⟨tk,j,s1⟩ T))
      (λf D=>
      ((True/\True)/\ag none (some b) λp2=>
      aQ none dI D (Addr.add p2 12) λx7=>
      qD prog (Instr.mapUpdate 160 (.map x7) at_.v (.agg #[(.int .i64 l.cO),(.int .i64 ((l.dD.len:Nat):Int)),f.open_.v])) (λX=>
      Q X) D)):=by
  intro y _ N;rw [N] at H;subst H;dsimp only at hR;refine bL.intro (λf E=>∃s t B s2 q p,f=⟨tk,j,s2⟩/\Has h (th b {x with messages:=q,gone:=p} d u a8 q s p t s2 B) E/\R=(s,t,B)) ?_ ?_
  ·rw [if_pos (gI),wrap64 (n:=l.cO-tk) (by omega) (by omega),wrap64 (n:=j-(l.cO-tk)) (by omega) (by omega),wZ,<-d1];refine bQ.intro (λ(i:Int) (f:br) E=>∃(c:Nat) (s:List aC) (t B:List Int) (s2 q p:Sl),0<=i/\i<=200000/\(c:Int)=max i n-i/\f=⟨tk,j,s2⟩/\Has h (th b {x with messages:=q,gone:=p} d u a8 q s p t s2 B) E/\vJ at_.proc at_.lane x.time l.cO c i s t B=R/\s.length+c<=2000/\t.length+c<=2000/\B.length+c<=2000)
    (λi _ _=>(n-i).toNat) ⟨W,z,G,A,s1,U,sG,by omega,by omega,hc,rfl,J,hR,by omega,by omega,by omega⟩ ?_
   rintro i _ k2 ⟨c,s,t,B,s2,q,p,g8,g9,g7,rfl,C,hA,b1,b2,b3⟩;by_cases d3:i<n
   ·rw [if_pos (gI)];obtain ⟨V,rfl⟩:∃V,c=V+1:=⟨c-1,by omega⟩;obtain ⟨_,_,b0,_⟩:=C.sR;refine aK (b0.ld (shf:=al) q rfl ?_);obtain ⟨_,_,b5,_⟩:=C.sS;have c8:=b5.gH;refine gh (xs:=[(s.length:Int)]) (sz:=1) (enc:=dZ) (by rw [c8];rfl) (λ_=>rfl) λa k3 l3 n3=>⟨⟨trivial,trivial⟩,?_⟩;have o3:=C.grow l3;obtain ⟨_,_,f5,g4⟩:=o3.sU;refine f5.app (n3.ia λ_=>rfl) (λ_=>rfl) (λ_=>rfl) rfl ⟨by simp;omega,by simp;omega⟩ λr k4 f6=> ?_;have o4:=g4 _ _ f6;obtain ⟨_,_,c0,_⟩:=o4.sR;refine aK (c0.ld (shf:=al) q rfl (aK (c0.ld (shf:=ae .i64) x.time rfl ?_)));refine gh (xs:=[(⟨at_.proc,at_.lane,i,x.time, -1⟩:aC)]) (sz:=5) (enc:=yV) rfl (λ_=>rfl) λa1 k5 l5 n5=> ?_;have o5:=o4.grow l5;obtain ⟨_,_,e1,_⟩:=o5.sR;refine ⟨⟨e1.dQ (off:=9) (n:=1) rfl,trivial⟩,?_⟩;obtain ⟨_,_,e7,g1⟩:=o5.sS;refine e7.app (n5.ia λ_=>rfl) (λ_=>rfl) (λ_=>rfl) rfl ⟨by simp;omega,by simp;omega⟩ λK k6 e8=> ?_;have o6:=g1 _ _ e8;obtain ⟨_,_,e2,f8⟩:=o6.sR;refine aK (e2.st (x':={x with messages:=K,gone:=p}) (show 10<=14 by omega) rfl λk7 e3=> ?_);have o7:=f8 _ _ e3;obtain ⟨_,_,e4,_⟩:=o7.sR;refine aK (e4.ld (shf:=al) p rfl ?_);refine gh (xs:=[l.cO+i+1]) (sz:=1) (enc:=dZ) (by rw [wrap64 (n:=l.cO+i) (by omega) (by omega),aH];rfl) (λ_=>rfl) λa2 k8 l8 n8=> ?_;have o8:=o7.grow l8;obtain ⟨_,_,e5,_⟩:=o8.sR;refine ⟨⟨e5.dQ (off:=10) (n:=1) rfl,trivial⟩,?_⟩;obtain ⟨_,_,e9,g2⟩:=o8.sT;refine e9.app (n8.ia λ_=>rfl) (λ_=>rfl) (λ_=>rfl) rfl ⟨by simp;omega,by simp;omega⟩ λr2 k9 f0=> ?_;have o9:=g2 _ _ f0;obtain ⟨_,_,e6,f9⟩:=o9.sR;refine aK (e6.st (x':={x with messages:=K,gone:=r2}) (show 11<=14 by omega) rfl λi6 e0=> ?_);have d7:=f9 _ _ e0;rw [aH];exact ⟨⟨V,_,_,_,r,K,r2,by omega,by omega,by omega,rfl,d7,hA,by simp;omega,by simp;omega,by simp;omega⟩,by omega⟩
   ·rw [if_neg (λe=>d3 (by have:=of_decide_eq_true e;omega))];have d0:c=0:=by omega
    subst d0;exact ⟨s,t,B,s2,q,p,rfl,C,hA.symm⟩
  ·rintro _ k2 ⟨s,t,B,s2,q,p,rfl,C,rfl⟩;obtain ⟨_,_,b0,_⟩:=C.sR;obtain ⟨_,_,d8,f7⟩:=C.sF;refine ⟨⟨trivial,trivial⟩,aK (b0.ld (shf:=dI) (some d) (by rw [<-hx];rfl) ?_)⟩;refine d8.xT Br BO (a:=(at_.proc,at_.lane)) (v:=(⟨l.cO,l.dD.len,s2⟩:br)) λk3 d9=>hq k3 (Has.mq.2 ⟨_,q,p,s2,f7 _ _ d9,λkey hk=> ?_,?_⟩)
   ·rw [JT,if_neg (λe=>hk (by rw [e,hs]))];exact f1 key hk
   ·rw [JT,if_pos hs.symm,hn];rfl
 cases A with
 | nil=>have h0:s1.len=0:=b9;have I:decide (((s1.len:Nat):Int)>0)=false:=decide_eq_false (by omega);have tl:=tail 0 (by rw [I];rfl) rfl;show ag (some (decide (((s1.len:Nat):Int)>0))) _ _;rw [I];refine aK ⟨⟨none,0,0⟩,λe=>(by cases e),λe=>(by cases e),0,λe=>(by cases e),λe=>(by cases e),0,λe=>(by cases e),aI ?_⟩;rw [ry];exact tl
 | cons o r=>
  obtain ⟨i,rfl,hi⟩:=L o (List.mem_cons_self ..);have i1:0<s1.len:=by simp at b9;omega
  have I:decide (((s1.len:Nat):Int)>0)=true:=gI;obtain ⟨g,N⟩:∃g,G[i]? =some g:=⟨_,List.getElem?_eq_getElem (by omega)⟩;have b7:G.getD ((i:Int)).toNat 0=g:=by rw [Int.toNat_natCast,List.getD_eq_getElem?_getD,N];rfl
  show ag (some (decide (((s1.len:Nat):Int)>0))) _ _;rw [I];refine aK (a9.vV (shf:=al) sG rfl ?_);have rU:=b6.ia (λ_=>rfl);have rG:=c3.ia (λ_=>rfl);refine Rs.nH (sh:=ae .i64) rU (0:Int) (λ_=>rfl) (by decide) (i:=0) (λ_=>⟨by omega,by simp⟩) λ(v:Int) hv=> ?_;have hv:((i:Int)::r)[(0:Int).toNat]? =some v:=hv rfl;cases hv;refine Rs.nH (sh:=ae .i64) rG (0:Int) (λ_=>rfl) (by decide) (i:=(i:Int)) (λ_=>⟨by omega,by omega⟩) λ(w:Int) P=>aI ?_;have P:=P rfl;rw [Int.toNat_natCast,N] at P;cases P;by_cases b8:g<=l.cO
  ·rw [if_pos (by simp;omega)];refine aK (a9.ld (shf:=al) U rfl ?_);refine Rs.get (sh:=ae .i64) rU (λ_=>rfl) (by decide) (i:=0) (by omega) (by simp) λ(v:Int) hv=> ?_;have hv:((i:Int)::r)[(0:Int).toNat]? =some v:=hv;cases hv;refine aK (a9.ld (shf:=ae .i64) x.time rfl ?_);have rM:=b4.ia (λ_=>rfl);obtain ⟨b1,m,Z, -⟩:=Rw.read rM (λ_=>rfl) (by decide) (i:=(i:Int)) (by omega) (by omega);rw [Int.toNat_natCast] at Z;refine ⟨b1,b4.wb (λ_=>rfl) (i:=i) (x:=m) (x':={m with Out:=x.time}) Z (off:=4) (new:=[.int .i64 x.time]) (by simp) rfl λk2 b5=> ?_⟩;have C:=g0 _ _ b5;obtain ⟨_,_,f4,g3⟩:=C.sU;have o3:=g3 _ _ (f4.mC (λ_=>rfl) (c:=s1.len) (Nat.le_refl _) d5);have c1:(1:Int)<=((s1.len:Nat):Int):=by omega
   have c2:((s1.len:Nat):Int)<=((s1.cap:Nat):Int):=by omega
   refine ⟨⟨by decide,c1,Int.le_refl _,c2⟩,aI ?_⟩;have d4:z.getD ((i:Int)).toNat ze=m:=by rw [Int.toNat_natCast,List.getD_eq_getElem?_getD,Z];rfl
   have d6:kY l.cO x.time G r (z.set i {m with Out:=x.time})=F:=by rw [<-H,Hl,b7,if_pos b8,d4,Int.toNat_natCast]
   refine ⟨⟨_,r,_,rfl,o3,d6,by rw [List.length_set];exact c7,by simp at c9;omega,λo ho=>L o (List.mem_cons_of_mem _ ho)⟩,?_⟩;show s1.len-1<s1.len;omega
  ·rw [if_neg (by simp;omega)];exact tail g (by rw [I];simp;omega) (by rw [Hl,b7,if_neg b8])
end
structure te (s:ij):Prop where
 parts:s.parts.length<=1000
 procs:s.procs.length<=1000
 log:∀x∈s.parts,x.log.length<=10000/\x.ax.length<=1000/\x.an.length<=1000/\∀q∈x.an,q.length<=1000
 ah:∀x∈s.procs,x.ah.length<=1000/\∀l∈x.ah,l.values.length<=1000/\l.waiters.length<=1000
theorem te.le {s:ij} (f:te s):yK s:=by
 refine ⟨by have:=f.parts;omega,by have:=f.procs;omega,λx b=> ?_,λx b=> ?_⟩
 ·obtain ⟨d,a,h,e⟩:=f.log x b;exact ⟨by omega,by omega,by omega,λq g=>by have:=e q g;omega⟩
 ·obtain ⟨d,a⟩:=f.ah x b;exact ⟨by omega,λl c=>⟨by have:=(a l c).1;omega,by have:=(a l c).2;omega⟩⟩
theorem GT.mh {c:bg} {t:ij} (m:cc c) (g:GT c t):te t:=by
 have h:=g.iN.qe m;have hp:=g.parts;have f:=g.procs;have k:=m.parts;have n:=m.procs;refine ⟨by omega,by omega,λx b=> ?_,λx b=> ?_⟩
 ·obtain ⟨i,a⟩:=List.mem_iff_getElem?.1 b;have j:=(List.getElem?_eq_some_iff.1 a).1;have e:(bW t).part i=x:=ou a;have sp:=h.part i (by omega);rw [e] at sp;have:=sp.jy;have:=sp.gG;have:=sp.mh.1;have:=m.log;exact ⟨by omega,by omega,by omega,λq f=>by have:=sp.mh.2 q f;omega⟩
 ·obtain ⟨i,a⟩:=List.mem_iff_getElem?.1 b;have j:=(List.getElem?_eq_some_iff.1 a).1;have e:(bW t).proc i=x:=ou a;have sp:=h.proc i (by omega);rw [e] at sp;have:=sp.len;exact ⟨by omega,λl d=>⟨by have:=(sp.dK l d).values;omega,by have:=(sp.dK l d).waiters;omega⟩⟩
section
end
section
end
structure gS (h k:Hp) (c:bg) (t:ij) (pm:Addr) (R:dg):Prop where
 ex:∃K tm,K.c=c/\dq h K/\eH c tm (bW t)/\Has h ((aA K pm (bW t) tm).star R) k
section
variable {h k:Hp} {c:bg} {t:ij} {pm:Addr} {R:dg}
theorem gS.le (q:gS h k c t pm R):h<=k:=by obtain ⟨_,_,_,_,_,o⟩:=q.ex;exact o.le
theorem gS.rest (q:gS h k c t pm R):∃a,h<=a/\Has a R k/\∀b d,Has a b d->gS h d c t pm b:=by obtain ⟨K,l,e,mk,j,o⟩:=q.ex;obtain ⟨a,f,i,_,put⟩:=o.snd;exact ⟨a,f,i,λb d g=>⟨K,l,e,mk,j,put _ _ g⟩⟩
theorem gS.grow {a:Hp} (q:gS h k c t pm R) (l:k<=a):gS h a c t pm R:=by obtain ⟨K,d,e,mk,b,o⟩:=q.ex;exact ⟨K,d,e,mk,b,o.grow l⟩
theorem gS.zi {a:Hp} (q:iJ h k c t t pm none) (b:Has k R a):gS h a c t pm R:=by obtain ⟨K,f,g,j,e,mk,d,i,o⟩:=q.ex;exact ⟨K,f,e,mk,d,(Has.left o).beside b⟩
theorem gS.Du (q:gS h k c t pm R):∃K d a,K.c=c/\dq a K/\eH c d (bW t)/\h<=a/\Has a (aA K pm (bW t) d) k/\∀b f g,Has a (aA K pm b f) g->eH c f b->gS h g c (b.list c) pm R:=by obtain ⟨K,d,e,mk,m,o⟩:=q.ex;obtain ⟨a,i,l,_,put⟩:=o.fst;refine ⟨K,d,a,e,mk.mono i,m,i,l,λb f g j n=>⟨K,f,e,mk,AR n,?_⟩⟩;rw [Ak e];exact put _ _ j
theorem gS.tick {Q:Int->Hp->Prop} (q:gS h k c t pm R) (e:cc c) (g:GT c t) (d:t.tick<4611686018427387904) (b:∀v a,gS h a c (qh c t) pm R->Q v a):KA prog (some pm) Q k:=by obtain ⟨K,o,m,rfl,mk,j,n,i,put⟩:=q.Du;exact Nh Nq mk e i g.iN d j λp a f l=>b _ a (put _ _ _ f l)
theorem gS.inj {p v:Int} {Q:Int->Hp->Prop} (q:gS h k c t pm R) (b:cc c) (g:GT c t) (d:∀e a,gS h a c (vS c t p v) pm R->Q e a):Kv prog (some pm) p v Q k:=by obtain ⟨K,l,m,rfl,mk,j,n,i,put⟩:=q.Du;exact Uf mk b i (g.iN.qe b) λa f=>d _ a (put _ l _ f (j.cv Wb))
theorem gS.state {Q:aU->Hp->Prop} (q:gS h k c t pm R) (e:cc c) (g:GT c t) (m:∀r b a,h<=b->eV b r t->gS b a c t pm R->Q r a):Kw prog (some pm) Q k:=by obtain ⟨K,v,rfl,mk,i,o⟩:=q.ex;obtain ⟨w,n,p,_,put⟩:=o.fst;refine VR (mk.mono n) e p (g.iN.qe e) i λr a f=> ?_;rw [AM g.parts g.procs] at f;have s:=Has.carry (put _) f;obtain ⟨j,d,u,⟨F,⟨B,l,_⟩,_⟩,_⟩:=s.fst;exact m r j a d l.rd ⟨K,v,rfl,mk.mono d,i,u⟩
end
def tL (s1 s2:Nat) (a:Int) (n p i:Nat) (l:ba):Bool:=if p=s1/\i=s2 then l.taken==a&&l.values.length==n else l.values.length==0&&(decide (0<=l.taken)&&decide (l.taken<=65535))
def kn (s1 s2:Nat) (a:Int) (n p:Nat) (z:ak):Bool:=z.state !=3&&(List.range z.ah.length).all λi=>match z.ah[i]? with
 | some l=>tL s1 s2 a n p i l
 | none=>false
def zv (s1 s2:Nat) (a:Int) (n:Nat) (t:ij):Bool:=((List.range t.procs.length).all λp=>match t.procs[p]? with
 | some z=>kn s1 s2 a n p z
 | none=>false)&&match t.procs[s1]? with
 | some z=>(z.ah[s2]?).isSome
 | none=>false
theorem P8 {s1 s2:Nat} {d:Int} {n:Nat} {t:ij} (h:zv s1 s2 d n t=true):(∀p z,t.procs[p]? =some z->z.state≠3/\∀i l,z.ah[i]? =some l->tL s1 s2 d n p i l=true)/\∃z,t.procs[s1]? =some z/\s2<z.ah.length/\s1<t.procs.length:=by
 unfold zv at h;rw [Bool.and_eq_true,List.all_eq_true] at h;obtain ⟨e,a⟩:=h;refine ⟨λp z b=> ?_,?_⟩
 ·have:=e p (List.mem_range.2 (List.getElem?_eq_some_iff.1 b).1);rw [b] at this;dsimp only at this;unfold kn at this;rw [Bool.and_eq_true,List.all_eq_true] at this;obtain ⟨f,g⟩:=this;refine ⟨by simpa using f,λi l c=> ?_⟩;have:=g i (List.mem_range.2 (List.getElem?_eq_some_iff.1 c).1);rw [c] at this;exact this
 ·cases b:t.procs[s1]? with
  | none=>rw [b] at a;cases a
  | some z=>rw [b] at a;dsimp only at a;refine ⟨z,rfl,?_,(List.getElem?_eq_some_iff.1 b).1⟩;refine Classical.byContradiction λj=> ?_;rw [List.getElem?_eq_none (by omega)] at a;cases a
def fZ (p q time c b a:Int) (n:Nat) (M:List aC) (G O:List Int):List aC×List Int×List Int:=
 vJ p q time a (max (max 0 (b-(a-c))) n-max 0 (b-(a-c))).toNat (max 0 (b-(a-c))) (kY a time G O M).1 G (kY a time G O M).2
section
variable {h k:Hp} {c:bg} {t:ij} {pm f:Addr} {x:cw} {A q:Nat} {s1 s2:Nat} {d a tk:Int} {n:Nat} {M:List aC} {G O:List Int}
theorem Ql {r:aU} {p:Nat} {part:Int} {Q:Int->Hp->Prop} (w:eV k r t) (hp:p<t.procs.length) (B:∀z,t.procs[p]? =some z->z.state≠3) (v:∀m,k<=m->Q (-1) m):UG prog r part (p:Int) Q k:=by unfold UG;intro b ty hb;have g:=kP (o:=.cells (#[Value.int .i64 (p:Int)]) ty (0,0)) hb;refine gF (sh:=ae .i64) (p:Int) (xk (cs:=[Value.int .i64 (p:Int)])) ?_;obtain ⟨E,u,e⟩:=w.procs;have D:=e.len;refine Rw.vc (Rw.mono g u) (λ_=>rfl) (by decide) (sh:=ae .i64) (λy:bB=>y.State) (j:=0) (λ_=>rfl) (i:=(p:Int)) (by omega) (by omega) λy l=> ?_;rw [Int.toNat_natCast] at l;obtain ⟨z,C,s⟩:=e.get l;rw [if_pos (by have:=B z C;rw [s.state];simpa using this)];exact v _ g
theorem wv {Q:Hp->Prop} {y:aw} (w:gS h k c t pm (fh f x A q ((s1:Int),(s2:Int)) d a M G O)) (mc:cc c) (g:GT c t) (hm:x.m=some pm) (hx:x.ah=some A) (hw:x.waits=some q) (cy:eu h y c) (hp:x.eZ=y.aM)
  (hs:zv s1 s2 tk n t=true) (hn:n<=64) (ht:0<=tk/\tk<=60000) (hb:0<=d/\d<=65535/\0<=a/\a<=65535) (b2:M.length<=1000/\G.length=M.length/\O.length<=1000) (hO:∀o∈O,∃i:Nat,o=(i:Int)/\i<M.length)
  (hq:∀h' k',h<=h'->gS h' k' c t pm (fh f x A q ((s1:Int),(s2:Int)) tk n (fZ s1 s2 x.time d a tk n M G O).1 (fZ s1 s2 x.time d a tk n M G O).2.1 (fZ s1 s2 x.time d a tk n M G O).2.2)->Q k'):QV prog (some f) Q k:=by
 unfold QV;obtain ⟨b8,z1,c6,c5,d5⟩:=P8 hs;obtain ⟨h1,_,o1,_⟩:=w.rest;obtain ⟨_,_,_,_,o2, -, -⟩:=Has.mq.1 o1;obtain ⟨_,_,L,_⟩:=o2.sR;refine aK (L.ld (shf:=aj) (some pm) (by rw [<-hm];rfl) ?_);clear L o2 o1;refine YZ (w.state mc g λr H k2 l2 hr w2=> ?_);obtain ⟨W,Z⟩:∃W:Bool->dg,W=λb=>if b=true then fh f x A q ((s1:Int),(s2:Int)) tk n (fZ s1 s2 x.time d a tk n M G O).1 (fZ s1 s2 x.time d a tk n M G O).2.1 (fZ s1 s2 x.time d a tk n M G O).2.2 else fh f x A q ((s1:Int),(s2:Int)) d a M G O:=⟨_,rfl⟩
 have U:W false=fh f x A q ((s1:Int),(s2:Int)) d a M G O:=by rw [Z];rfl
 have N:W true=fh f x A q ((s1:Int),(s2:Int)) tk n (fZ s1 s2 x.time d a tk n M G O).1 (fZ s1 s2 x.time d a tk n M G O).2.1 (fZ s1 s2 x.time d a tk n M G O).2.2:=by rw [Z];rfl
 clear Z;rw [<-U] at w2;rw [<-N] at hq;obtain ⟨ps,b7,b0⟩:=hr.procs;have d1:=b0.len;have d4:r.aM.len=ps.length:=b7.1;have mh:=GT.mh mc g;have d2:t.procs.length<=32:=by have:=g.procs;have:=mc.procs.2;omega
 have c8:t.procs.length=c.procs.length:=g.procs;refine ay.intro (λ(p:Int) k=>∃B:Nat,p=(B:Int)/\B<=t.procs.length/\gS H k c t pm (W (decide (s1<B)))) (λp _=>(t.procs.length-p).toNat) ⟨0,rfl,Nat.zero_le _,w2⟩ ?_;rintro p k3 ⟨B,rfl,b6,R⟩;by_cases P:B<t.procs.length
 ·rw [if_pos (gI)];refine Rs.get (sh:=bY) (Rw.mono R.le b7) (λ_=>rfl) (by decide) (i:=(B:Int)) (by omega) (by omega) λ(zx:bB) b9=> ?_;rw [Int.toNat_natCast] at b9;obtain ⟨z,J,ha⟩:=b0.get b9;obtain ⟨d6,c2⟩:=b8 B z J;obtain ⟨ls,b3,b1⟩:=ha.ah;have d0:=b1.len;have d7:zx.iI.len=ls.length:=b3.1;have d8:z.ah.length<=1000:=(mh.ah z (List.mem_of_getElem? J)).1;refine ay.intro (λ(i:Int) k=>∃C:Nat,i=(C:Int)/\C<=z.ah.length/\gS H k c t pm (W (decide (s1<B\/s1=B/\s2<C)))) (λi _=>(z.ah.length-i).toNat) ⟨0,rfl,Nat.zero_le _,?_⟩ ?_
  ·have e:decide (s1<B\/s1=B/\s2<0)=decide (s1<B):=decide_eq_decide.2 (by omega);rw [e];exact R
  rintro i k4 ⟨C,rfl,c9,E⟩;by_cases c3:C<z.ah.length
  ·rw [if_pos (gI)];refine Rs.get (sh:=bS) (Rw.mono E.le b3) (λ_=>rfl) (by decide) (i:=(C:Int)) (by omega) (by omega) λ(T:bM) b4=> ?_;rw [Int.toNat_natCast] at b4;obtain ⟨l,hl,la⟩:=b1.get b4;have K:=c2 C l hl;have lv:T.dD.len=l.values.length:=la.values.1;have lt:=la.taken;obtain ⟨Y,_,D,c0⟩:=E.rest;unfold tL at K;rw [aH];by_cases a8:B=s1/\C=s2
   ·rw [if_pos a8] at K;obtain ⟨rfl,rfl⟩:=a8;simp only [Bool.and_eq_true,beq_iff_eq] at K;rw [show decide (B<B\/B=B/\C<C)=false from decide_eq_false (by omega),U] at D;refine QI (w:=some f) (at_:=⟨(B:Int),(C:Int)⟩) (l:=T) (Pm (n:=n) hx D rfl (by omega) hn (by omega) hb b2 hO rfl rfl (Int.toNat_of_nonneg (by omega)) rfl λI F=> ?_);rw [lt,K.1] at F;refine ⟨⟨C+1,by omega,by omega,c0 _ I ?_⟩,by omega⟩;rw [show decide (B<B\/B=B/\C<C+1)=true from gI,N];exact F
   ·rw [if_neg a8] at K;simp only [Bool.and_eq_true,beq_iff_eq,decide_eq_true_eq] at K;have b5:(((B:Int),(C:Int)):Int×Int)≠((s1:Int),(s2:Int)):=λe=>by have e1:=congrArg Prod.fst e;have X:=congrArg Prod.snd e;simp only at e1 X;omega
    have ed:decide (s1<B\/s1=B/\s2<C+1)=decide (s1<B\/s1=B/\s2<C):=decide_eq_decide.2 (by omega);generalize c7:decide (s1<B\/s1=B/\s2<C)=b at D ed;have S:∀I,Has Y (W b) I->(∃a9:Nat,(C:Int)+1=(a9:Int)/\a9<=z.ah.length/\gS H I c t pm (W (decide (s1<B\/s1=B/\s2<a9))))/\(z.ah.length-((C:Int)+1)).toNat<(z.ah.length-(C:Int)).toNat:=λI F=>
     ⟨⟨C+1,by omega,by omega,by rw [ed];exact c0 _ I F⟩,by omega⟩
    cases b with
    | false=>rw [U] at D S;exact QI (w:=some f) (at_:=⟨(B:Int),(C:Int)⟩) (l:=T) (Hk hx D b5 (by omega) (by omega) S)
    | true=>rw [N] at D S;exact QI (w:=some f) (at_:=⟨(B:Int),(C:Int)⟩) (l:=T) (Hk hx D b5 (by omega) (by omega) S)
  ·rw [if_neg (λe=>c3 (by have:=of_decide_eq_true e;omega)),aH];have e:C=z.ah.length:=by omega
   subst e;have X:decide (s1<B\/s1=B/\s2<z.ah.length)=decide (s1<B+1):=decide_eq_decide.2 (by
    constructor
    ·omega
    ·intro hh;by_cases e:s1=B
     ·subst e;rw [c6] at J;cases J;exact .inr ⟨rfl,c5⟩
     ·exact .inl (by omega))
   rw [X] at E;exact ⟨⟨B+1,by omega,by omega,E⟩,by omega⟩
 ·rw [if_neg (λe=>P (by have:=of_decide_eq_true e;omega))];rw [show decide (s1<B)=true from gI,N] at R;rw [N] at hq;clear U N;refine ay.intro (λ(p:Int) k=>∃B:Nat,p=(B:Int)/\B<=t.procs.length/\gS H k c t pm (fh f x A q ((s1:Int),(s2:Int)) tk n (fZ s1 s2 x.time d a tk n M G O).1 (fZ s1 s2 x.time d a tk n M G O).2.1 (fZ s1 s2 x.time d a tk n M G O).2.2)) (λp _=>(t.procs.length-p).toNat) ⟨0,rfl,Nat.zero_le _,R⟩ ?_;clear b6 P R b2 hO w2 B w;rintro p k4 ⟨B,rfl,b6,E⟩;by_cases P:B<t.procs.length
  ·rw [if_pos (gI)];refine bP.intro (λk=>gS H k c t pm (fh f x A q ((s1:Int),(s2:Int)) tk n (fZ s1 s2 x.time d a tk n M G O).1 (fZ s1 s2 x.time d a tk n M G O).2.1 (fZ s1 s2 x.time d a tk n M G O).2.2)) ?_ ?_
   ·obtain ⟨Y,_,D,_⟩:=E.rest;obtain ⟨_,sM,sG,_,F, -, -⟩:=Has.mq.1 D;obtain ⟨_,_,L,_⟩:=F.sR;refine aK (L.ld (shf:=al) y.aM (by rw [<-hp];rfl) ?_);obtain ⟨qs,c4,c1⟩:=cy.procs;have d3:=c1.len;refine Rw.vc (Rw.mono (Hp.le_trans l2 E.le) c4) (λ_=>rfl) (by decide) (sh:=ae .i64) (λy:bd=>y.Part) (j:=0) (λ_=>rfl) (i:=(B:Int)) (by omega) (by omega) λu hu=> ?_;refine O4 (s:=r) (Ql (hr.mono E.le) P (λz J=>(b8 B z J).1) λk5 l5=> ?_);have V:=E.grow l5;obtain ⟨Y,_,D,_⟩:=V.rest;obtain ⟨_,sM,sG,_,F, -, -⟩:=Has.mq.1 D;obtain ⟨_,_,L,_⟩:=F.sR;obtain ⟨_,_,oG,_⟩:=F.sG;refine aK (L.ld (shf:=dI) (some q) (by rw [<-hw];rfl) ?_);refine ur (sh:=eC) (z:=(⟨0,0⟩:fJ)) oG.kv.1 rfl (λ_=>aI ?_) λv hv=>(by cases hv);rw [ry];refine bP.intro (λk=>gS H k c t pm (fh f x A q ((s1:Int),(s2:Int)) tk n (fZ s1 s2 x.time d a tk n M G O).1 (fZ s1 s2 x.time d a tk n M G O).2.1 (fZ s1 s2 x.time d a tk n M G O).2.2)) ?_ ?_
    ·rw [if_neg (by decide)];exact V
    ·intro I w6;rw [if_neg (by decide)];exact w6
   ·intro k5 V;rw [aH];exact ⟨⟨B+1,by omega,by omega,V⟩,by omega⟩
  ·rw [if_neg (λe=>P (by have:=of_decide_eq_true e;omega))];exact hq H k4 l2 E
end
def cS :bg:=⟨[0,1],[0,1],2,1,1,4,[⟨0,[⟨0,0,0,0,0⟩]⟩,⟨1,[⟨25,3,4,0,0⟩,⟨31,3,0,0,0⟩,⟨0,0,0,0,0⟩]⟩]⟩
def ve :ij:=(sP cS).list cS
def wc :ij:=vS cS ve 1 9
def yd :ij:=qh cS wc
def ye :ij:=qh cS yd
theorem tu :(iL cS).1=0:=by kernel_rfl
theorem xM :∀l∈cS.labels,nx l:=λl a=>by simp [cS] at a;omega
theorem YB :zv 1 2 0 0 ve=true:=by kernel_rfl
theorem YC :zv 1 2 0 1 wc=true:=by kernel_rfl
theorem YD :zv 1 2 0 1 yd=true:=by kernel_rfl
theorem YE :zv 1 2 1 0 ye=true:=by kernel_rfl
theorem L5 :uA cS 0 0 1=2:=by kernel_rfl
theorem Qa :pU cS 1 0 5=2:=by kernel_rfl
section
variable {h k:Hp} {c:bg} {t:ij} {pm f:Addr} {x:cw} {b d:Nat} {sp:Int×Int} {tk g:Int} {M:List aC} {G O:List Int}
theorem gS.time {Q:Hp->Prop} (w:gS h k c t pm (fh f x b d sp tk g M G O)) (y:0<=x.time/\x.time<=100000) (j:∀a,gS h a c t pm (fh f {x with time:=x.time+1} b d sp tk g M G O)->Q a):
  ag none (some f) λq=>aQ none (ae .i64) k (Addr.add q 8) λv=>ag none (some f) λr=>cq k (Addr.add r 8) [(.int .i64 (yw (v+(1:Int))))] Q:=by
 obtain ⟨z,_,n,s⟩:=w.rest;obtain ⟨m,i,sG,u,o,f1,f2⟩:=Has.mq.1 n;obtain ⟨_,_,e,iD⟩:=o.sR;refine aK (e.ld (shf:=ae .i64) x.time rfl (aK ?_));rw [aH];refine e.st (x':={x with messages:=i,gone:=sG,time:=x.time+1}) (show 9<=14 by omega) rfl λl p=>j l (s _ _ (Has.mq.2 ⟨m,i,sG,u,iD _ _ p,f1,f2⟩))
theorem Rq {y:aw} {l:Sl} {Q:Sl->Sl->Int->Hp->Prop} (F:eu k y cS) (hl:Rs k fE 3 l [⟨2,1,9⟩,⟨1,2,0⟩])
  (hq:∀L e,k<=e->Rs e dV 5 L [⟨1,2,0,0,2⟩]->Q L ⟨none,0,0⟩ 0 e):Tu prog y l Q k:=by
 unfold Tu;have r:=sk tu;have R:l.len=2:=hl.1;refine T6 (Ac F λh1 l1=> ?_);rw [tu,if_neg (by decide),if_neg (by rw [R];decide)];refine NL (Pg (F.mono l1) xM (λ_ _ b6=>absurd tu b6) λpm J _ l2 st=> ?_);rw [if_neg (by decide)];obtain ⟨hb,lb,W⟩:=st.pair;have D:k<=hb:=Hp.le_trans l1 lb;have W:iJ hb J cS ve ve pm none:=W;intro b b2 d b3;have oF:Has J (Cn b dk.enc []) (J.set b (.map #[] 0)):=Has.Dy (kP b2) ⟨[],0,lP,rfl⟩ b2;have oG:Has (J.set b (.map #[] 0)) (Kf d .i64 eC.enc []) ((J.set b (.map #[] 0)).set d (.map #[] 0)):=Has.L3 (kP b3) ⟨[],0,lP,rfl⟩ b3;refine qn (sh:=Tc) (⟨y.aN,y.Table,y.Fuel,y.gQ,y.bG,y.Log,y.aM,some pm,0,⟨none,0,0⟩,⟨none,0,0⟩,⟨none,0,0⟩,some b,some d⟩:cw) rfl λf k5 l5 A=> ?_;have U:∀ {α:Type} {sz:Nat} {enc:α->List Value},Has k5 (dC sz enc ⟨none,0,0⟩ ([]:List α)) k5:=λ{α sz enc}=>Has.jP (Hp.le_refl _);have b4:=((oF.beside oG).beside A).comm.beside ((U (sz:=5) (enc:=yV)).beside ((U (sz:=1) (enc:=dZ)).beside (U (sz:=1) (enc:=dZ))));obtain ⟨x,u⟩:∃x:cw,x=⟨y.aN,y.Table,y.Fuel,y.gQ,y.bG,y.Log,y.aM,some pm,0,⟨none,0,0⟩,⟨none,0,0⟩,⟨none,0,0⟩,some b,some d⟩:=⟨_,rfl⟩;have w0:gS hb k5 cS ve pm (fh f x b d (((1:Nat):Int),((2:Nat):Int)) 0 0 [] [] []):=
  gS.zi W (Has.mq.2 ⟨[],⟨none,0,0⟩,⟨none,0,0⟩,⟨none,0,0⟩,by rw [u];exact b4,λkey _=>(show LB kp from ⟨rfl,by decide,by decide,by decide,by decide⟩),rfl⟩)
 clear b4 U A oG oF W;have X:x.m=some pm:=by rw [u]
 have Y:x.ah=some b:=by rw [u]
 have Z:x.waits=some d:=by rw [u]
 have x4:x.eZ=y.aM:=by rw [u]
 have x5:x.time=0:=by rw [u]
 have x6:x.pa=⟨none,0,0⟩:=by rw [u]
 clear u;obtain ⟨H,e0⟩:=Nx r;have H:GT cS ve:=H;have e0:ve.tick=0:=e0;have g1:GT cS wc/\wc.tick=ve.tick:=H.inj r (by omega);have g2:GT cS yd/\yd.tick=wc.tick+1:=g1.1.tick r (by omega);have g3:GT cS ye/\ye.tick=yd.tick+1:=g2.1.tick r (by omega);have O1:∀o∈([0]:List Int),∃i:Nat,o=(i:Int)/\i<1:=λo I=>⟨0,by simpa using I,by decide⟩;refine Kx (wv (n:=0) (tk:=0) w0 r H X Y Z (F.mono D) x4 YB (by decide) (by decide) (by decide) ⟨by decide,by decide,by decide⟩ (λo I=>by cases I) λh6 k6 l6 N=> ?_);rw [x5] at N;have N:gS h6 k6 cS ve pm (fh f x b d (((1:Nat):Int),((2:Nat):Int)) 0 0 [] [] []):=N;obtain ⟨ms,b5⟩:∃ms:List aC,ms=[⟨1,2,0,0, -1⟩]:=⟨_,rfl⟩;refine ay.intro (λ(j:Int) e=>(j=0/\∃a,hb<=a/\gS a e cS ve pm (fh f x b d (((1:Nat):Int),((2:Nat):Int)) 0 0 [] [] []))\/(j=1/\∃a,hb<=a/\gS a e cS wc pm (fh f x b d (((1:Nat):Int),((2:Nat):Int)) 0 1 [⟨1,2,0,0, -1⟩] [1] [0]))\/
   (j=2/\∃a,hb<=a/\gS a e cS ye pm (fh f {x with time:=2} b d (((1:Nat):Int),((2:Nat):Int)) 1 0 [⟨1,2,0,0,2⟩] [1] []))) (λj _=>(2-j).toNat) (.inl ⟨rfl,h6,l6,N⟩) ?_
 clear N w0 ms b5;rintro j k7 (⟨rfl,P,v,w⟩ | ⟨rfl,P,v,w⟩ | ⟨rfl,P,v,w⟩)
 ·rw [if_pos (by rw [R];decide)];refine bP.intro (λe=>∃a,hb<=a/\gS a e cS wc pm (fh f x b d (((1:Nat):Int),((2:Nat):Int)) 0 1 [⟨1,2,0,0, -1⟩] [1] [0])) ?_ ?_
  ·refine Rs.get (sh:=fE) (Rw.mono (Hp.le_trans D (Hp.le_trans v w.le)) hl) (λ_=>rfl) (by decide) (i:=0) (by decide) (by decide) λ(z:eM) C=> ?_;have C:some (⟨2,1,9⟩:eM)=some z:=C;cases C;refine bP.direct ?_;rw [if_neg (by decide),if_pos (by decide)];refine YX (w.inj r H λ_ S E=> ?_);have E:gS P S cS wc pm (fh f x b d (((1:Nat):Int),((2:Nat):Int)) 0 0 [] [] []):=E;refine Kx (wv (n:=1) (tk:=0) E r g1.1 X Y Z (F.mono (Hp.le_trans D v)) x4 YC (by decide) (by decide) (by decide) ⟨by decide,by decide,by decide⟩ (λo I=>by cases I) λh9 T l9 s=> ?_);rw [x5] at s;exact ⟨h9,Hp.le_trans v l9,s⟩
  ·rintro S ⟨p,q,E⟩;exact ⟨.inr (.inl ⟨rfl,p,q,E⟩),by decide⟩
 ·rw [if_pos (by rw [R];decide)];refine bP.intro (λe=>∃a,hb<=a/\gS a e cS ye pm (fh f {x with time:=2} b d (((1:Nat):Int),((2:Nat):Int)) 1 0 [⟨1,2,0,0,2⟩] [1] [])) ?_ ?_
  ·refine Rs.get (sh:=fE) (Rw.mono (Hp.le_trans D (Hp.le_trans v w.le)) hl) (λ_=>rfl) (by decide) (i:=1) (by decide) (by decide) λ(z:eM) C=> ?_;have C:some (⟨1,2,0⟩:eM)=some z:=C;cases C;refine bP.direct ?_;rw [if_pos (by decide)];obtain ⟨p,_,V,_⟩:=w.rest;obtain ⟨_,_,_,_,K, -, -⟩:=Has.mq.1 V;obtain ⟨_,_,A,_⟩:=K.sR;refine aK (A.vV (shf:=ae .i64) x.time rfl (aI ?_));rw [x5,if_neg (by decide)];clear A K V;refine ay.intro (λ(j:Int) e=>(j=0/\∃a,hb<=a/\gS a e cS wc pm (fh f x b d (((1:Nat):Int),((2:Nat):Int)) 0 1 [⟨1,2,0,0, -1⟩] [1] [0]))\/(j=1/\∃a,hb<=a/\gS a e cS yd pm (fh f {x with time:=1} b d (((1:Nat):Int),((2:Nat):Int)) 0 1 [⟨1,2,0,0, -1⟩] [1] [0]))\/
     (j=2/\∃a,hb<=a/\gS a e cS ye pm (fh f {x with time:=2} b d (((1:Nat):Int),((2:Nat):Int)) 1 0 [⟨1,2,0,0,2⟩] [1] []))) (λj _=>(2-j).toNat) (.inl ⟨rfl,P,v,w⟩) ?_
   clear w;rintro j S (⟨rfl,p,q,w⟩ | ⟨rfl,p,q,w⟩ | ⟨rfl,p,q,w⟩)
   ·rw [if_pos (by decide)];refine Xc (w.tick r g1.1 (by omega) λ_ T s=> ?_);have s:gS p T cS yd pm (fh f x b d (((1:Nat):Int),((2:Nat):Int)) 0 1 [⟨1,2,0,0, -1⟩] [1] [0]):=s;refine s.time (by omega) λa9 B=> ?_;rw [x5] at B;have B:gS p a9 cS yd pm (fh f {x with time:=1} b d (((1:Nat):Int),((2:Nat):Int)) 0 1 [⟨1,2,0,0, -1⟩] [1] [0]):=B;refine Kx (wv (n:=1) (tk:=0) B r g2.1 X Y Z (F.mono (Hp.le_trans D q)) x4 YD (by decide) (by decide) (by decide) ⟨by decide,by decide,by decide⟩ O1 λa8 b7 b0 b1=> ?_);exact ⟨.inr (.inl ⟨rfl,a8,Hp.le_trans q b0,b1⟩),by decide⟩
   ·rw [if_pos (by decide)];refine Xc (w.tick r g2.1 (by omega) λ_ T s=> ?_);have s:gS p T cS ye pm (fh f {x with time:=1} b d (((1:Nat):Int),((2:Nat):Int)) 0 1 [⟨1,2,0,0, -1⟩] [1] [0]):=s;refine s.time (show (0:Int)<=1/\(1:Int)<=100000 by decide) λa9 B=> ?_;have B:gS p a9 cS ye pm (fh f {x with time:=2} b d (((1:Nat):Int),((2:Nat):Int)) 0 1 [⟨1,2,0,0, -1⟩] [1] [0]):=B;refine Kx (wv (n:=0) (tk:=1) B r g3.1 X Y Z (F.mono (Hp.le_trans D q)) x4 YE (by decide) (by decide) (by decide) ⟨by decide,by decide,by decide⟩ O1 λa8 b7 b0 b1=> ?_);exact ⟨.inr (.inr ⟨rfl,a8,Hp.le_trans q b0,b1⟩),by decide⟩
   ·rw [if_neg (by decide)];exact ⟨p,q,w⟩
  ·rintro S ⟨p,q,E⟩;exact ⟨.inr (.inr ⟨rfl,p,q,E⟩),by decide⟩
 ·rw [if_neg (by rw [R];decide)];obtain ⟨p,_,V,_⟩:=w.rest;obtain ⟨_,L,sG,_,K, -, -⟩:=Has.mq.1 V;obtain ⟨_,_,A,_⟩:=K.sR;obtain ⟨_,_,oS,_⟩:=K.sS;refine aK (A.ld (shf:=al) L rfl (aK (A.ld (shf:=al) ⟨none,0,0⟩ (by rw [<-x6];rfl) ?_)));exact hq L k7 (Hp.le_trans D (Hp.le_trans v w.le)) (oS.ia λ_=>rfl)
theorem NA {Q:aw->Hp->Prop} (m:∀y i,k<=i->eu i y cS->Q y i):Qs prog Q k:=by unfold Qs;refine gh (enc:=λx=>aY (be.enc x)) (sz:=5) (xs:=[⟨0,0,0,0,0⟩]) rfl (λ_=>rfl) λa1 v o p=> ?_;refine gh (enc:=λx=>aY (be.enc x)) (sz:=5) (xs:=[⟨25,3,4,0,0⟩,⟨31,3,0,0,0⟩,⟨0,0,0,0,0⟩]) rfl (λ_=>rfl) λa2 w l q=> ?_;refine gh (enc:=λx:Int=>aY ((ae .u64).enc x)) (sz:=1) (xs:=[0,1]) rfl (λ_=>rfl) λa3 z j r=> ?_;refine gh (enc:=λx:Int=>aY ((ae .i64).enc x)) (sz:=1) (xs:=[0,1]) rfl (λ_=>rfl) λa4 A e s=> ?_;refine gh (enc:=λx=>aY (bJ.enc x)) (sz:=2) (xs:=[⟨0,⟨some a1,1,1⟩⟩,⟨1,⟨some a2,3,3⟩⟩]) rfl (λ_=>rfl) λa5 n a u=> ?_;refine m _ n (Hp.le_trans o (Hp.le_trans l (Hp.le_trans j (Hp.le_trans e a)))) ⟨Rw.mono (Hp.le_trans e a) (r.ia λ_=>rfl),Rw.mono a (s.ia λ_=>rfl),rfl,rfl,rfl,rfl,_,u.ia λ_=>rfl,⟨rfl,_,Rw.mono (Hp.le_trans l (Hp.le_trans j (Hp.le_trans e a))) (p.ia λ_=>rfl),rfl⟩,⟨rfl,_,Rw.mono (Hp.le_trans j (Hp.le_trans e a)) (q.ia λ_=>rfl),rfl⟩,trivial⟩
theorem Pn {p q:Operand}:iK prog (cW .eql 98 p q (.agg #[(.int .i64 (1:Int)),(.int .i64 (2:Int)),(.int .i64 (0:Int)),(.int .i64 (0:Int)),(.int .i64 (2:Int))]) (.agg #[(.int .i64 (1:Int)),(.int .i64 (2:Int)),(.int .i64 (0:Int)),(.int .i64 (0:Int)),(.int .i64 (2:Int))])) k (.bool true):=
 HY [(⟨ "Proc",3,0,false, "", "",0⟩,.i64,1,1),(⟨ "Lane",3,1,false, "", "",8⟩,.i64,2,2),(⟨ "Place",3,2,false, "", "",16⟩,.i64,0,0),(⟨ "In",2,3,false, "", "",24⟩,.i64,0,0),(⟨ "Out",2,4,false, "", "",32⟩,.i64,2,2)]
  (bK.bE 98 Fp rfl) (by kernel_rfl) (by kernel_rfl) λq a=>by
   simp only [List.mem_cons,List.not_mem_nil,or_false] at a;rcases a with rfl | rfl | rfl | rfl | rfl
   ·exact ⟨by simp,bK.bE 3 wh rfl,rfl,rfl⟩
   ·exact ⟨by simp,bK.bE 3 wh rfl,rfl,rfl⟩
   ·exact ⟨by simp,bK.bE 3 wh rfl,rfl,rfl⟩
   ·exact ⟨by simp,bK.bE 2 vf rfl,rfl,rfl⟩
   ·exact ⟨by simp,bK.bE 2 vf rfl,rfl,rfl⟩
theorem Ur {Q:Bool->Hp->Prop} (s:∀q,k<=q->Q true q):Qr prog Q k:=by unfold Qr;refine Y7 (NA λy D w j=> ?_);refine gh (enc:=λx=>aY (fE.enc x)) (sz:=3) (xs:=[⟨2,1,9⟩,⟨1,2,0⟩]) rfl (λ_=>rfl) λa E e B=> ?_;refine NN (l:=⟨some a,2,2⟩) (Rq (j.mono e) (B.ia λ_=>rfl) λC F n o=>aI (aI ?_));have p:C.len=1:=o.1;rw [p,if_neg (by decide)];have v:=Hp.le_trans w (Hp.le_trans e n);rw [<-p];refine Rs.get (sh:=dV) o (λ_=>rfl) (by decide) (i:=0) (by decide) (by decide) λ(z:aC) m=> ?_;have m:some (⟨1,2,0,0,2⟩:aC)=some z:=m;cases m;refine ⟨true,Pn,yW (XN (Yg (j.mono (Hp.le_trans e n)) xM (by decide) λH r=> ?_))⟩;rw [L5];refine aI (yW (Yc (Ga (j.mono (Hp.le_trans e (Hp.le_trans n r))) λu A=> ?_)));rw [Qa];exact aI (s u (Hp.le_trans v (Hp.le_trans r A)))
theorem mT {y:aw} {l:Sl} {L:List bR} {Q:Bool->Hp->Prop} (j:eu k y c) (u:∀l∈c.labels,nx l) (D:sW c) (q:Rs k cP 4 l L) (T:L.length<=140737488355328) (C:∀z∈L,z.F<=9223372036854775807)
  (s:∀m,k<=m->Q true m):Oa prog y l Q k:=by
 unfold Oa;refine Y6 (Ur λH o=> ?_);refine Zi (Nv (j.mono o) D λr=>aI ?_);split
 ·exact s H o
 have S:l.len=L.length:=q.1;refine ay.intro (λ(i:Int) m=>∃a:Nat,i=(a:Int)/\a<=L.length/\k<=m) (λi _=>(L.length-i).toNat) ⟨0,rfl,Nat.zero_le _,o⟩ ?_;rintro i I ⟨a,rfl,R,n⟩;by_cases E:a<L.length
 ·rw [if_pos (gI)];refine Rs.get (sh:=cP) (Rw.mono n q) (λ_=>rfl) (by decide) (i:=(a:Int)) (by omega) (by omega) λ(z:bR) v=> ?_;rw [Int.toNat_natCast] at v;have p:=C z (List.mem_of_getElem? v);refine XN (Yg (j.mono n) u p λU J=> ?_);have w:=Hp.le_trans n J;refine Yc (Ga (j.mono w) λV K=> ?_);have A:=Hp.le_trans w K;refine YW (Rm (j.mono A) u p λW N=> ?_);have B:=Hp.le_trans A N;refine LN (by simp) (Ze (R8 (j.mono B) λX P=>aI ?_));rw [ry,aH];exact ⟨⟨a+1,by omega,by omega,Hp.le_trans B P⟩,by omega⟩
 ·rw [if_neg (λe=>E (by have:=of_decide_eq_true e;omega))];exact s I n
end
end Lf
namespace Lf
open Go Go.Proofs Go.ChangeShapes Go.WideShapes Go.ChangeAt Go.RowKit
section
variable {H:Type} {enc:TypeId×Value->H} {W:World}
abbrev yU :bR->List Value:=λx=>aY (cP.enc x)
theorem Dq :kC enc Tryz.prog W 55 λb=>∃x,b=yU x/\vb x.F:=λf b y h c=>by have a:=bK.bE 55 Fl rfl;have d:=xc a h;rw [show Tryz.prog.cellsOf 55=4 by kernel_rfl] at d;obtain ⟨a0,g, -⟩:=pA a h c (i:=0) (off:=0) rfl rfl im li;obtain ⟨a1,j, -⟩:=pA a h c (i:=1) (off:=1) rfl rfl im li;obtain ⟨a2,k,n⟩:=pA a h c (i:=2) (off:=2) rfl rfl im li;obtain ⟨a3,l, -⟩:=pA a h c (i:=3) (off:=3) rfl rfl im li;refine ⟨⟨a0,a1,a2,a3⟩,?_,FW n⟩;have e:b=b.drop 0:=rfl;rw [e,pz (m:=1) g rfl,pz (m:=2) j rfl,pz (m:=3) k rfl,pz (m:=4) l rfl,List.drop_of_length_le (Nat.le_of_eq d)];rfl
theorem tq {v:Value} {d:DataW H} {j:List MemPlace} {base:Nat} (hv:Value.okWide Tryz.prog W .any base 51 v) (h:DataW.Trod enc Tryz.prog W 0 (λ_=>true) true 51 v d j) (i:(DataW.weights Tryz.prog 51 d).all (· <=reachBytes)=true):
  ∃(l:Sl) (e:List bR),v=l.v/\nC W 4 yU (λx=>vb x.F) l e:=by
 obtain ⟨a,n,c,rfl⟩:=okWide_slice (bK.bE 51 zz rfl) hv;obtain ⟨fuel,g⟩:=h;obtain ⟨l,e,b,f⟩:=Jo (enc:=enc) (W:=W) (bK.bE 51 zz rfl) yU (λx=>vb x.F) (sz:=4) (by kernel_rfl) (by rw [show Tryz.prog.bytesOf 55=32 by kernel_rfl];omega) Dq (λ_=>rfl) fuel _ _ g i;refine ⟨l,e,?_,f⟩;have b: [Value.slice a n c]=[l.v]:=b;exact List.cons.inj b |>.1
end
end Lf
