/-
  Part 5 of the texts that the claim leans on.
-/
import Derived.RangeFuncFrom
import Derived.RangeFuncBound
import Derived.RangeFuncCalls
import Derived.RangeFuncLeaves
import Derived.Shelf.Abstract
import Derived.Shelf.RegionOpen
import Derived.WalkKit
import Derived.OwnWalkIn
import Derived.TacticsInMore
import Derived.LoopNIn
import Derived.LoopIn
import Derived.Test.YtgplfmccdkfddaaGreatProg
import Derived.Test.YtgplfmccdkfddaaGreatMgRnOwners3
set_option maxRecDepth 100000
namespace Lf
open Go Go.Proofs Tryz
theorem S2 {b:Type} {l:List b} {n:Nat} {f:b->b} {a:b} (h:l[n]? =some a):l.modify n f=l.set n (f a):=by refine List.ext_getElem? λj=> ?_;grind
theorem JS {a b:Int}:im a b=pC a b:=by unfold im pC;omega
theorem aaf {a b:Int}:oK a b=uX a b:=by unfold oK uX;omega
section
variable {h0 h1 k:Hp} {K:MK} {pm:Addr} {s:MS} {d:Nat->Nat->Int}
def vf (d:Nat->Nat->Int) (i p:Nat) (t v:Int):Nat->Nat->Int:=cg d i (cg (d i) (2*p) (if 0<v then t+pC v 1099511627776 else 0))
theorem VP {p:Nat} {v:Int} {Q:Hp->Prop} (m:dq h0 K) (w:bT K.c) (o:Has h0 (aB K pm s d) k) (hp:p<nQ K.c) (ht:0<=s.tick/\s.tick<=4611686018427387904)
  (j:∀u,Has h0 (aB K pm (s.bd p {s.proc p with bN:=false}) (vf d (aA K.c p) p s.tick v)) u->Q u):
 ai none (some (K.p p)) λp8=>
 bW k (Addr.add p8 13) [(.bool false)] (λi=>
 ai none (some (K.q (aA K.c p))) λE=>
 aP none ah i (Addr.add E 6) λe=>
 ai none (some (K.p p)) λZ=>
 aP none (af .i64) i (Addr.add Z 0) λx8=>
 ae prog wz [(.int .i64 x8)] (af .i64) (λr2 l=>
 (((aV l (Addr.add E 6) [(.pointer e)])/\True)/\ae prog Cy [(.pointer e),(.int .i64 r2)] bB (λr3 b=>
 (if (decide (v>(0:Int)))=true then
 ai none (some (K.q (aA K.c p))) λC=>
 aP none ah b (Addr.add C 6) λf=>
 ai none (some (K.p p)) λa8=>
 aP none (af .i64) b (Addr.add a8 0) λb4=>
 ai none (some pm) λD=>
 aP none (af .i64) b (Addr.add D 9) λF=>
 ae prog wz [(.int .i64 b4)] (af .i64) (λr4 g=>
 (((aV g (Addr.add C 6) [(.pointer f)])/\((aV g (Addr.add D 9) [(.int .i64 F)])/\(True/\True)))/\ae prog wx [(.pointer f),(.int .i64 r4),(.int .i64 (yw (F+(im v (1099511627776:Int)))))] (af .i64) (λr5 M=>
 Q M) g)) b
 else
 Q b)) l)) i):=by
  have r:aA K.c p<nP K.c:=w.eR;have b8:=w.procs;obtain ⟨h1,z,a,l1,t,X,put⟩:=o.df hp;refine aD (X.st (tV z false) (by show 13+1<=15;omega) rfl λk2 y=> ?_);have T:=put _ _ _ (t.bN false) rfl rfl y;obtain ⟨g,e,c0,b2,l7,N,A,V,a9⟩:=T.iv r;have J:e.dx=some b2:=N.2.2.2.2.2;refine aD (A.ld (shf:=ah) e.dx rfl ?_);refine aD (y.ld (shf:=af .i64) z.dg rfl ?_);have I:z.dg=(p:Int):=t.1;rw [I];refine Ia (yB (by omega) ?_);refine ⟨⟨A.eh (n:=1) rfl,trivial⟩,?_⟩;rw [J];refine HI (DD V (by omega) λb1 k6 U=> ?_);have h:=a9 _ _ U;unfold vf at j;by_cases hv:0<v
  ·rw [if_pos (decide_eq_true hv)];rw [if_pos hv] at j;obtain ⟨h9,f,c1,b3,l9,O,B,W,b0⟩:=h.iv r;have L:f.dx=some b3:=O.2.2.2.2.2;obtain ⟨b6,G,b5,b9,P,Y,_⟩:=h.df hp;refine aD (B.ld (shf:=ah) f.dx rfl ?_);refine aD (Y.ld (shf:=af .i64) G.dg rfl ?_);have H:G.dg=(p:Int):=P.1;rw [H];refine aD (h.dY.ld (shf:=af .i64) s.tick rfl ?_);refine Ia (yB (by omega) ?_);refine ⟨⟨B.eh (n:=1) rfl,h.dY.eh (n:=1) rfl,trivial,trivial⟩,?_⟩;have b7:0<pC v 1099511627776/\pC v 1099511627776<=1099511627776:=by unfold pC;split<;>omega
   rw [L,JS,wrap64 (by omega) (by omega)];refine T7 (E3 W (by omega) (by omega) (by omega) λR S=>j R ?_);have x:=b0 _ _ S;rw [kK,LA,LA] at x;exact x
  grind
theorem VQ {p:Nat} {v:Int} {Q:Hp->Prop} (m:dq h0 K) (g:bT K.c) (o:Has h0 (aB K pm s d) k) (hp:p<nQ K.c) (X:0<=s.tick/\s.tick<=4611686018427387904)
  (A:∀f,Has h0 (aB K pm (s.bd p {s.proc p with state:=4}) (cg d (aA K.c p) (cg (d (aA K.c p)) (2*p+1) (s.tick+pC (uX v 1) 1099511627776)))) f->Q f):
 ai none (some (K.q (aA K.c p))) λj=>
 aP none ah k (Addr.add j 6) λl=>
 ai none (some (K.p p)) λN=>
 aP none (af .i64) k (Addr.add N 0) λR=>
 ai none (some pm) λi=>
 aP none (af .i64) k (Addr.add i 9) λb=>
 ae prog xA [(.int .i64 R)] (af .i64) (λr2 e=>
 (((aV e (Addr.add j 6) [(.pointer l)])/\((aV e (Addr.add i 9) [(.int .i64 b)])/\(True/\True)))/\ae prog wx [(.pointer l),(.int .i64 r2),(.int .i64 (yw (b+(im (oK v (1:Int)) (1099511627776:Int)))))] (af .i64) (λr3 w=>
 ai none (some (K.p p)) λM=>
 bW w (Addr.add M 3) [(.int .i64 (4:Int))] (λx=>
 Q x)) e)) k:=by
  have y:aA K.c p<nP K.c:=g.eR;have W:=g.procs;obtain ⟨U,b,a9,P,l9,B,h,I,O⟩:=o.iv y;have u:b.dx=some P:=B.2.2.2.2.2;obtain ⟨T,r,S,a8,D,L,_⟩:=o.df hp;refine aD (h.ld (shf:=ah) b.dx rfl ?_);refine aD (L.ld (shf:=af .i64) r.dg rfl ?_);have t:r.dg=(p:Int):=D.1;rw [t];refine aD (o.dY.ld (shf:=af .i64) s.tick rfl ?_);refine Ib (yC (by omega) ?_);refine ⟨⟨h.eh (n:=1) rfl,o.dY.eh (n:=1) rfl,trivial,trivial⟩,?_⟩;have V:0<pC (uX v 1) 1099511627776/\pC (uX v 1) 1099511627776<=1099511627776:=by unfold pC uX;omega
  rw [u,JS,aaf,wrap64 (by omega) (by omega)];refine T7 (E3 I (by omega) (by omega) (by omega) λY F=> ?_);have G:=O _ _ F;obtain ⟨h1,z,a,Z,C,J,put⟩:=G.df hp;exact aD (J.st (nv z 4) (by show 3+1<=15;omega) rfl λE H=>A E (put _ _ _ (C.state 4) rfl rfl H))
theorem Yr {p:Nat} {n:Int} {Q:Hp->Prop} (m:dq h0 K) (mc:bT K.c) (o:Has h0 (aB K pm s d) k) (H:iX K.c s) (hp:p<nQ K.c) (hn:0<=n/\n<K.c.ag) (S:∀q∈(s.part (aA K.c p)).aw,(p:Int)∉q)
  (h:∀E,Has h0 (aB K pm (jO K.c s p n) d) E->Q E):
 ai none (some (K.q (aA K.c p))) λp8=>
 aP none ah k (Addr.add p8 5) λx7=>
 ai none (some (K.p p)) λp9=>
 aP none (af .i64) k (Addr.add p9 0) λx8=>
 bh prog MW [(.pointer x7),(.int .i64 n),(.int .i64 x8)] bB (af .i64) (λr2 r3 g=>
 (if r2=true then
 ai none (some (K.p p)) λi=>
 aP none eJ g (Addr.add i 4) λC=>
 ae prog wB [C.v] eJ (λb f=>
 ai none (some (K.p p)) λB=>
 bW f (Addr.add B 4) [(.int .i64 b.PC),(.int .i64 b.cv),(.int .i64 b.cw),(.int .i64 b.cx),(.int .i64 b.cC),(.int .i64 b.cD),(.int .i64 b.cE),(.int .i64 b.cF),(.int .i64 b.cG)] (λr=>
 Q r)) g
 else
 ai none (some (K.p p)) λi=>
 bW g (Addr.add i 3) [(.int .i64 (3:Int))] (λf=>
 Q f))) k:=by
  have D:aA K.c p<nP K.c:=mc.eR;have l:=H.part _ D;have b3:=l.ib;have b2:=l.gK;obtain ⟨h3,I,Z,b5,l4,T,a8,ol,G⟩:=o.qi D;have N:I.ag=some Z:=T.2.2.2.2.1;obtain ⟨b1,J,b0,b4,U,a9,_⟩:=o.df hp;refine aD (a8.ld (shf:=ah) I.ag rfl ?_);refine aD (a9.ld (shf:=af .i64) J.dg rfl ?_);have M:J.dg=(p:Int):=U.1;rw [N,M];have R:n.toNat<(s.part (aA K.c p)).aw.length:=by omega
  have O:((n.toNat:Nat):Int)=n:=by omega
  have u:=List.getElem?_eq_getElem R;have t:=List.getElem?_eq_getElem (show n.toNat<(s.part (aA K.c p)).az.length by omega);generalize (s.part (aA K.c p)).aw[n.toNat]=q at u;generalize (s.part (aA K.c p)).az[n.toNat]=ow at t;unfold jO at h;dsimp only at h;rw [pL t,S2 u] at h;have key:=Vl (n:=n.toNat) (w:=(p:Int)) (Q:=λr2 (r3:Int) g=>(if r2=true then
 ai none (some (K.p p)) λi=>
 aP none eJ g (Addr.add i 4) λC=>
 ae prog wB [C.v] eJ (λb f=>
 ai none (some (K.p p)) λB=>
 bW f (Addr.add B 4) [(.int .i64 b.PC),(.int .i64 b.cv),(.int .i64 b.cw),(.int .i64 b.cx),(.int .i64 b.cC),(.int .i64 b.cD),(.int .i64 b.cE),(.int .i64 b.cF),(.int .i64 b.cG)] (λr=>
 Q r)) g
 else
 ai none (some (K.p p)) λi=>
 bW g (Addr.add i 3) [(.int .i64 (3:Int))] (λf=>
 Q f))) ol ⟨by have:=l.qY.1;omega,l.qY.2⟩ S (by omega) t u (λf V y=> ?_) λf V y=> ?_
  ·rw [O] at key;exact OI key
  ·dsimp only;rw [if_pos rfl];rw [if_pos f] at h;have j:=G _ _ _ y;obtain ⟨h1,z,a,Y,x,A,put⟩:=j.df hp;have e:fS (dG z)=(s.proc p).core:=x.2.2.2.2.1;have P:(dG z).PC=(s.proc p).pc:=congrArg Core.pc e;refine aD (A.ld (shf:=eJ) (dG z) rfl ?_);refine C5 (Fj (by rw [P];exact H.told hp) λc' L=> ?_);refine aD (vK j hp λX F=>h X ?_);rw [L,e] at F;exact F
  ·dsimp only;rw [if_neg (by decide)];rw [if_neg f] at h;have j:=G _ _ _ y;obtain ⟨h1,z,a,Y,x,A,put⟩:=j.df hp;exact aD (A.st (nv z 3) (by show 3+1<=15;omega) rfl λW o4=>h W (put _ _ _ (x.state 3) rfl rfl o4))
theorem IQ {w:Int}:∀ {os:List Int} {i j:Nat},os[j]? =some w->((i+j:Nat):Int)∈hold w os i
 | [],_,j,h=>by simp at h
 | o::r,i,0,h=>by unfold hold;grind
 | o::r,i,j+1,h=>by have a:=IQ (i:=i+1) (j:=j) (os:=r) (w:=w) (by simpa using h);rw [show i+1+j=i+(j+1) by omega] at a;unfold hold;grind
theorem S3 {p:Nat} {n:Int} {Q:Hp->Prop} (m:dq h0 K) (mc:bT K.c) (o:Has h0 (aB K pm s d) k) (O:iX K.c s) (hp:p<nQ K.c) (hn:0<=n/\n<K.c.ag)
  (f:∀y,Has h0 (aB K pm (yR K.c s p n) d) y->Q y):
 ai none (some (K.q (aA K.c p))) λp8=>
 aP none ah k (Addr.add p8 5) λx7=>
 ai none (some (K.p p)) λp9=>
 aP none (af .i64) k (Addr.add p9 0) λx8=>
 ae prog MT [(.pointer x7),(.int .i64 x8)] av (λr2 D=>
 ((True/\True)/\ae prog MC [r2.v,(.int .i64 n)] bB (λr3 b=>
 (if r3=true then
 ai none (some (K.q (aA K.c p))) λc1=>
 aP none ah b (Addr.add c1 5) λx9=>
 ai none (some (K.p p)) λc2=>
 aP none (af .i64) b (Addr.add c2 0) λc4=>
 bh prog H8 [(.pointer x9),(.int .i64 n),(.int .i64 c4)] (af .i64) (af .i64) (λI r5 g=>
 aY prog Cp [(.pointer (some pm)),(.int .i64 I)] (λE=>
 Q E) g) b
 else
 Q b)) D)) k:=by
  have F:aA K.c p<nP K.c:=mc.eR;have C:=O.part _ F;have d3:=C.ib;have d2:=C.gK;have d1:=C.qY.1;obtain ⟨h3,R,b5,d8,l4,b1,b8,ol,c3⟩:=o.qi F;have W:R.ag=some b5:=b1.2.2.2.2.1;obtain ⟨c7,S,c5,d4,b2,b9,_⟩:=o.df hp;refine aD (b8.ld (shf:=ah) R.ag rfl ?_);refine aD (b9.ld (shf:=af .i64) S.dg rfl ?_);have U:S.dg=(p:Int):=b2.1;rw [W,U];have a9:n.toNat<(s.part (aA K.c p)).aw.length:=by omega
  have Y:((n.toNat:Nat):Int)=n:=by omega
  have x:=List.getElem?_eq_getElem a9;have u:=List.getElem?_eq_getElem (show n.toNat<(s.part (aA K.c p)).az.length by omega);generalize (s.part (aA K.c p)).aw[n.toNat]=q at x;generalize (s.part (aA K.c p)).az[n.toNat]=M at u;unfold yR at f;dsimp only at f;rw [pL u,pL x] at f;refine znq (Me ol (by omega) (by omega) λsl G l=> ?_);have o3:Has h0 ((aB K pm s d).star (dK 1 fo sl (hold (p:Int) (s.part (aA K.c p)).az 0))) G:=l.carry λy o'=>by
   have D:=c3 _ _ y o';have e:s.dZ (aA K.c p) {s.part (aA K.c p) with az:=(s.part (aA K.c p)).az,aw:=(s.part (aA K.c p)).aw}=s:=Ej
   rwa [e] at D
  obtain ⟨g,A,B,hr⟩:=o3.aside (λ_=>rfl);refine ⟨⟨trivial,trivial⟩,?_⟩;have a8:(hold (p:Int) (s.part (aA K.c p)).az 0).length<=1000000:=by
   have:∀(os:List Int) (i:Nat),(hold (p:Int) os i).length<=os.length:=by
    intro os
    induction os with
    | nil=>intro i;exact Nat.le_refl _
    | cons a r ih=>intro i;have:=ih (i+1);unfold hold;split<;>simp<;>omega
   grind
  refine zih (JG (Rw.mono B.le hr) a8 ?_);have J:n∈hold (p:Int) (s.part (aA K.c p)).az 0↔M=(p:Int):=by
   constructor
   ·intro h;obtain ⟨j,e1,e2⟩:=tC h;grind
   ·intro h;subst h;have:=IQ (i:=0) u;grind
  by_cases h:M=(p:Int)
  ·rw [if_pos (decide_eq_true (J.2 h))];rw [if_pos h] at f;subst h;have L:=m.mono A;obtain ⟨c8,P,b4,d7,d5,b0,b7,b6,N⟩:=B.qi F;have X:P.ag=some b4:=b0.2.2.2.2.1;obtain ⟨d0,T,c6,d6,b3,c0,_⟩:=B.df hp;refine aD (b7.ld (shf:=ah) P.ag rfl ?_);refine aD (c0.ld (shf:=af .i64) T.dg rfl ?_);have V:T.dg=(p:Int):=b3.1;rw [X,V];have key:=IF (n:=n.toNat) (w:=(p:Int)) (Q:=λI (r5:Int) g=>aY prog Cp [(.pointer (some pm)),(.int .i64 I)] (λE=>Q E) g) b6 (by omega) u x (λb G l=> ?_) λa r b G l=> ?_
   ·rw [Y] at key;exact zpg key
   ·subst b;have H:=N _ _ _ l;refine Qn (Eh L H (λh=>absurd h (by decide)) λz t=> ?_);have t:Has g (aB K pm (s.dZ (aA K.c p) {s.part (aA K.c p) with az:=(s.part (aA K.c p)).az.set n.toNat (-1),aw:=(s.part (aA K.c p)).aw}) d) z:=t;exact f z (t.mono A)
   ·subst b;have H:=N _ _ _ l;have Z:0<=a/\a<(nQ K.c:Int):=(C.nd _ (List.mem_of_getElem? x)).2 a (List.mem_cons_self ..);refine Qn (Eh L H (λh=>⟨Z.2,?_⟩) λz t=>f z (t.mono A));exact O.told (by omega)
  ·rw [if_neg (λe=>h (J.1 (of_decide_eq_true e)))];rw [if_neg h] at f;exact f _ (B.mono A)
theorem aag {p:Nat} {v:Int} {Q:Hp->Prop} (m:dq h0 K) (S:bT K.c) (o:Has h0 (aB K pm s d) k) (sa:iX K.c s) (hp:p<nQ K.c)
  (f:∀J,Has h0 (aB K pm (tq K.c s p v) d) J->Q J):
 ai none (some (K.q (aA K.c p))) λY=>
 aP none av k (Addr.add Y 2) λx7=>
 ai none (some pm) λZ=>
 aP none (af .i64) k (Addr.add (Addr.add Z 0) 5) λx8=>
 (if (decide (((x7.len:Nat):Int)<x8))=true then
 ai none (some (K.q (aA K.c p))) λy=>
 aP none av k (Addr.add y 2) λA=>
 ai none (some pm) λF=>
 aP none (af .i64) k (Addr.add F 9) λa9=>
 ai none (some (K.p p)) λX=>
 aP none (af .i64) k (Addr.add X 0) λb0=>
 bc [(.int .i64 a9),(.int .i64 b0),(.int .i64 v)] (λa r=>
 (((aV r (Addr.add y 2) [A.v])/\True)/\eS 3 24 [(.int .i64 (0:Int)),(.int .i64 (0:Int)),(.int .i64 (0:Int))] A ⟨(some a),1,1⟩ (λr2 g=>
 ai none (some (K.q (aA K.c p))) λG=>
 bW g (Addr.add G 2) [r2.v] (λi=>
 Q i)) r)) k
 else
 ai none (some (K.q (aA K.c p))) λy=>
 aP none (af .i64) k (Addr.add y 3) λA=>
 ae prog Nd [(.int .i64 A)] (af .i64) (λr2 r=>
 ai none (some (K.q (aA K.c p))) λF=>
 bW r (Addr.add F 3) [(.int .i64 r2)] (λg=>
 Q g)) k):=by
  have I:aA K.c p<nP K.c:=S.eR;have M:=sa.part _ I;have b1:=M.jP;obtain ⟨h1,x,lp,wp,l1,j,u,put⟩:=o.qj I;have w:=Has.left u;refine aD (w.ld (shf:=av) x.log rfl ?_);have B:(F9 K.x).Log=K.c.log:=m.cfg.log;have B:K.x.om=K.c.log:=B;refine aD ?_;rw [sP];refine o.dY.ld (shf:=af .i64) K.x.om rfl ?_;have O:=u.right.left.ic;unfold tq at f;dsimp only at f;rw [B,O];by_cases h:((s.part (aA K.c p)).log.length:Int)<K.c.log
  ·rw [if_pos (decide_eq_true h)];rw [if_pos h] at f;obtain ⟨h2,z,a,l2,P,W,_⟩:=o.df hp;refine aD (w.ld (shf:=av) x.log rfl ?_);refine aD (o.dY.ld (shf:=af .i64) s.tick rfl ?_);refine aD (W.ld (shf:=af .i64) z.dg rfl ?_);have N:z.dg=(p:Int):=P.1;rw [N];obtain ⟨h3,l3,T,a8⟩:=u.f2;have key:=T.push (sz:=3) (zero:=[(.int .i64 (0:Int)),(.int .i64 (0:Int)),(.int .i64 (0:Int))]) (bytes:=24) (e:=(⟨s.tick,(p:Int),v⟩:pJ)) (cs:=[(.int .i64 s.tick),(.int .i64 (p:Int)),(.int .i64 v)]) rfl (λ_=>rfl) (λ_=>rfl) rfl ⟨by omega,by omega⟩
    (K:=λr2 g=>ai none (some (K.q (aA K.c p))) λG=>
 bW g (Addr.add G 2) [r2.v] (λi=>
 Q i)) λL k2 U=> ?_
   ·exact λb t hb=>⟨⟨ns (lz hb) (w.eh (n:=1) rfl),trivial⟩,key b t hb⟩
   ·have V:=a8 _ _ U;obtain ⟨i,R,C,H⟩:=V.f1;refine aD (C.st (⟨x.procs,x.aj,L,x.lost,x.forbidden,x.ag,x.dx⟩:be) (by show 2+1<=7;omega) rfl λl D=>f l ?_);have E:=H _ _ D;have:=put (⟨x.procs,x.aj,L,x.lost,x.forbidden,x.ag,x.dx⟩:be) {s.part (aA K.c p) with log:=(s.part (aA K.c p)).log++ [⟨s.tick,(p:Int),v⟩]} (d (aA K.c p)) l j E;rw [yo] at this;exact this
  ·rw [if_neg (λe=>h (of_decide_eq_true e))];rw [if_neg h] at f;refine aD (w.ld (shf:=af .i64) x.lost rfl ?_);have ex:x.lost=(s.part (aA K.c p)).lost:=j.2.2.1;rw [ex];refine zvp (IJ M.lost ?_);obtain ⟨i,R,C,H⟩:=u.f1;refine aD (C.st (⟨x.procs,x.aj,x.log,more (s.part (aA K.c p)).lost,x.forbidden,x.ag,x.dx⟩:be) (by show 3+1<=7;omega) rfl λl D=>f l ?_);have E:=H _ _ D;have:=put (⟨x.procs,x.aj,x.log,more (s.part (aA K.c p)).lost,x.forbidden,x.ag,x.dx⟩:be) {s.part (aA K.c p) with lost:=more (s.part (aA K.c p)).lost} (d (aA K.c p)) l ⟨j.1,j.2.1,rfl,j.2.2.2⟩ E;rw [yo] at this;exact this
end
def mG (c:aI) (s:MS) (i id:Nat):Int:=if id / 2<nQ c/\aA c (id / 2)=i then (if id%2=0 then (s.proc (id / 2)).timer else (s.proc (id / 2)).cJ) else 0
def eH (c:aI) (a:Nat->Nat->Int) (s:MS):Prop:=∀i id,i<nP c->a i id=mG c s i id
def TW (s:MS):Nat->Int×Int:=λq=>((s.proc q).timer,(s.proc q).cJ)
section
variable {c:aI} {s s':MS} {b:Nat->Nat->Int} {p:Nat} {y:au}
theorem qF (h:(y.timer,y.cJ)=((s.proc p).timer,(s.proc p).cJ)):TW (s.bd p y)=TW s:=by
 funext q;unfold TW;by_cases e:q=p
 ·subst e;rw [fC,h]
 ·rw [hO e]
theorem qC {v:Int}:TW (cf c s p v)=TW s:=qF rfl
theorem aah :TW (oH s p)=TW s:=qF rfl
theorem IS {kf:Int}:TW (jj s kf)=TW s:=by
 unfold jj;split
 ·exact aah
 ·rfl
theorem CI {q:Nat} (h:(y.timer,y.cJ)=((s.proc q).timer,(s.proc q).cJ)):TW (s.bd q (ed y))=TW s:=qF h
theorem aaj {to v:Int} {fl:Nat->Nat->Bool}:TW (lj c fl s p to v)=TW s:=by
 unfold lj;split
 ·exact qC
 split
 ·exact qC
 split
 ·split
  ·exact qC
  split
  ·dsimp only;have e:TW (s.bd to.toNat (bE (s.proc to.toNat) (aA c p) (gZ p v)))=TW s:=qF rfl;rw [<-e];exact qF rfl
  ·rw [qC];exact CI rfl
 split
 ·rw [qC];exact qF rfl
 ·rw [qC];exact CI rfl
theorem JU {t:Bool}:TW (kz c s p t)=TW s:=by
 unfold kz;dsimp only;split
 ·split
  ·exact qF rfl
  ·rw [qC];exact qF rfl
 ·split
  ·exact qF rfl
  split
  ·exact qF rfl
  ·exact qF rfl
theorem aal {n:Int}:TW (jO c s p n)=TW s:=by
 unfold jO;dsimp only;split
 ·unfold jO.goK;exact qF rfl
 ·exact qF rfl
theorem VR {n:Int}:TW (yR c s p n)=TW s:=by
 unfold yR;dsimp only;split
 ·split
  ·rfl
  ·exact IS
 ·rfl
theorem abi {v:Int}:TW (tq c s p v)=TW s:=rfl
theorem eH.bq (t:eH c b s) (h:TW s'=TW s):eH c b s':=λi id e=>by have:=congrFun h (id / 2);have a:(s'.proc (id / 2)).timer=(s.proc (id / 2)).timer:=congrArg Prod.fst this;have d:(s'.proc (id / 2)).cJ=(s.proc (id / 2)).cJ:=congrArg Prod.snd this;rw [t i id e];unfold mG;rw [a,d]
theorem eH.set (t:eH c b s) (hp:p<nQ c) {id:Nat} {v:Int} (hid:id=2*p\/id=2*p+1) (h:∀q,TW s' q=if q=p then (if id=2*p then (v,(s.proc p).cJ) else ((s.proc p).timer,v)) else TW s q):eH c (cg b (aA c p) (cg (b (aA c p)) id v)) s':=λi a k=>by
 have d:=h (a / 2);by_cases e:a / 2=p
 ·rw [if_pos e] at d;unfold mG;by_cases g:aA c p=i
  ·subst g;rw [kK];have f:=t _ a k;unfold mG at f;rw [if_pos ⟨by omega,by rw [e]⟩] at f ⊢;rcases hid with rfl | rfl
   ·rw [if_pos rfl] at d;by_cases j:a=2*p
    ·subst j;rw [kK,if_pos (by omega)];exact (congrArg Prod.fst d).symm
    ·rw [kB j,if_neg (by omega)];rw [if_neg (by omega)] at f;rw [f,e];rw [e] at d;exact (congrArg Prod.snd d).symm
   ·rw [if_neg (by omega)] at d;by_cases j:a=2*p+1
    ·subst j;rw [kK,if_neg (by omega)];exact (congrArg Prod.snd d).symm
    ·rw [kB j,if_pos (by omega)];rw [if_pos (by omega)] at f;rw [f,e];rw [e] at d;exact (congrArg Prod.fst d).symm
  ·rw [kB (Ne.symm g)];have f:=t _ a k;unfold mG at f;grind
 ·rw [if_neg e] at d;have n:cg b (aA c p) (cg (b (aA c p)) id v) i a=b i a:=by
   by_cases g:i=aA c p
   ·subst g;rw [kK,kB (by omega)]
   ·rw [kB g]
  rw [n,t i a k];unfold mG;have l:(s'.proc (a / 2)).timer=(s.proc (a / 2)).timer:=congrArg Prod.fst d;have m:(s'.proc (a / 2)).cJ=(s.proc (a / 2)).cJ:=congrArg Prod.snd d;rw [l,m]
theorem Hj :∀ {l:List Int} {s:MS},TW (l.foldl jj s)=TW s
 | [],s=>rfl
 | a::l,s=>by rw [List.foldl_cons,Hj,IS]
theorem IT {v:Int}:∀ {l:List mr} {s:MS},TW (l.foldl (λs w=>cf c s w.proc.toNat v) s)=TW s
 | [],s=>rfl
 | a::l,s=>by rw [List.foldl_cons,IT,qC]
theorem abk {st:Int} (q:Nat):TW (nL c s p st) q=if q=p then (0,0) else TW s q:=by
 rw [yU];unfold pX;rw [IT];have g:TW (iE (gJ (iD c (dL c s p st) p) p) p)=TW (gJ (iD c (dL c s p st) p) p):=qF rfl;rw [g];have f:TW (iD c (dL c s p st) p)=TW s:=by unfold iD;rw [Hj];have d:TW (pw c (dL c s p st) p)=TW (dL c s p st):=rfl;rw [d];have a:TW (fH s p st)=TW s:=qF rfl;rw [<-a];funext r;show ((if r∈_ then qQ p _ else _:au).timer,(if r∈_ then qQ p _ else _:au).cJ)=_;split<;>rfl
 by_cases e:q=p
 ·subst e;rw [if_pos rfl];unfold TW gJ;rw [fC]
 ·rw [if_neg e,<-f];unfold TW gJ;rw [hO e]
theorem eH.ended {st:Int} (t:eH c b s) (hp:p<nQ c):eH c (pY b (aA c p) p) (nL c s p st):=by
 have d:=t.set (s':=s.bd p {s.proc p with timer:=0}) hp (id:=2*p) (v:=0) (.inl rfl) λq=>by
  unfold TW;by_cases e:q=p
  ·subst e;rw [fC,if_pos rfl,if_pos rfl]
  ·rw [hO e,if_neg e]
 have a:=d.set (s':=nL c s p st) hp (id:=2*p+1) (v:=0) (.inr rfl) λq=>by
  rw [abk];by_cases e:q=p
  ·subst e;rw [if_pos rfl,if_pos rfl,if_neg (by omega),fC]
  ·rw [if_neg e,if_neg e];unfold TW;rw [hO e]
 rw [kK,LA] at a;exact a
end
theorem Yt {D:Int->Int->Int->Int} {l:List cp} {k:Core} {tk self:Int} (a:0<=k.pc/\k.pc<=1000) (d:k.br.length=8) (g:l.length<=256):0<=(jw D l k tk self).1.pc/\(jw D l k tk self).1.pc<=1000:=by
 rcases E7 (D:=D) (l:=l) (k:=k) (tk:=tk) (self:=self) with ⟨_,e⟩ | ⟨n,b,f,⟨_,e⟩ | ⟨w,st,_,e⟩⟩
 ·rw [e];exact a
 ·rw [e];have:=(Mh (D:=D) (tk:=tk) (self:=self) b f d).1;grind
 ·rw [e];have h:0<=k.pc/\k.pc<l.length:=qB (c:=⟨[],[],0,0,0,0,[⟨0,l⟩]⟩) (p:=0) (x:=⟨0,k.pc,[],0,0,false,0,[]⟩) b;cases st
  ·show 0<=k.pc+1/\k.pc+1<=1000;omega
  ·exact a
section
variable {h0 h1 k:Hp} {K:MK} {pm:Addr} {s:MS} {f:Nat->Nat->Int}
theorem Yu {p:Nat} {Q:Hp->Prop} (tk:yA) (m:dq h0 K) (u:bT K.c) (o:Has h0 (aB K pm s f) k) (S:iX K.c s) (hp:p<nQ K.c) (Y:0<=s.tick/\s.tick<=4611686018427387904) (hr:(s.proc p).br.length=8)
  (hw:∀q,q<nQ K.c->∀l∈(s.proc q).ak,∀z∈l.waiters,z.proc≠(p:Int)) (b4:∀q∈(s.part (aA K.c p)).aw,(p:Int)∉q) (td:eH K.c f s)
  (g:∀a9 i,Has h0 (aB K pm (wT K.c fT (jN K.c) s p) a9) i->eH K.c a9 (wT K.c fT (jN K.c) s p)->Q i):Sj prog (some pm) (some (K.p p)) Q k:=by
 unfold Sj;have hi:aA K.c p<nP K.c:=u.eR;obtain ⟨h1,z,a,l1,P,R,put⟩:=o.df hp;have e:fS (dG z)=(s.proc p).core:=P.2.2.2.2.1;have ei:z.dg=(p:Int):=P.1;refine aD (R.ld (shf:=eJ) (dG z) rfl ?_);refine aD (R.ld (shf:=av) z.code rfl ?_);refine aD (o.dY.ld (shf:=af .i64) s.tick rfl ?_);refine aD (R.ld (shf:=af .i64) z.dg rfl ?_);rw [ei];have U:=(m.code p hp).2;have b2:(ji K.c p).length<=256:=u.pV;have c0:(K.ins p).length<=256:=by have:=congrArg List.length U;rw [List.length_map] at this;omega
 refine abB (Yi (m.qb o.le hp P) (by omega) λc' w k1 l2 T v=> ?_);rw [U,e] at T v;refine aD (vK (o.grow l2) hp λk2 t=> ?_);rw [T] at t;have sp:=S.proc p hp;have b5:=Yt (D:=fT) (l:=ji K.c p) (k:=(s.proc p).core) (tk:=s.tick) (self:=(p:Int)) sp.pc hr b2;have W:(w.Kind=7\/w.Kind=8)->0<=w.To/\w.To<K.c.ag:=by
  intro h;rcases E7 (D:=fT) (l:=ji K.c p) (k:=(s.proc p).core) (tk:=s.tick) (self:=(p:Int)) with ⟨C,_⟩ | ⟨n,hn,c1,⟨_,C⟩ | ⟨w',st,b7,C⟩⟩
  ·rw [<-v] at C;have:w.Kind=1:=C;omega
  ·rw [C] at v;have:w.Kind=0:=congrArg Want.kind v;omega
  ·rw [C] at v;have v:rS w=w':=v;subst v;have b3:dv K.c p (s.proc p)=some n:=hn;have Z:=(u.ins b3).1;rcases Mg b7 with ⟨a,_⟩ | ⟨_,a,_⟩ | ⟨_,a,_⟩ | ⟨_,a,_⟩ | ⟨a,_⟩ | ⟨_,a,_⟩ | ⟨b,a,d,_⟩ | ⟨b,a,d,_⟩ | ⟨a,_⟩
   ·have a:w.Kind=1:=a;omega
   ·have a:w.Kind=2:=congrArg Want.kind a;omega
   ·have a:w.Kind=3:=a;omega
   ·have a:w.Kind=4:=a;omega
   ·have a:w.Kind=5:=a;omega
   ·have a:w.Kind=6:=a;omega
   ·have d:w.To=n.gW:=d;rw [d];exact xz Z (.inl b)
   ·have d:w.To=n.gW:=d;rw [d];exact xz Z (.inr b)
   ·have a:w.Kind=9:=a;omega
 unfold wT at g;dsimp only at g;rw [<-v] at g;generalize hg:(jw fT (ji K.c p) (s.proc p).core s.tick (p:Int)).1=E at*;have B:iX K.c (s.bd p ((s.proc p).put E)):=by
  refine ⟨λq O=> ?_,S.part⟩;by_cases eq:q=p
  ·subst eq;rw [fC];exact ⟨b5,sp.len,sp.cur,sp.dQ⟩
  ·rw [hO eq];exact S.proc q O
 have y:eH K.c f (s.bd p ((s.proc p).put E)):=td.bq (qF rfl);have b6:∀q,q<nQ K.c->∀l∈((s.bd p ((s.proc p).put E)).proc q).ak,∀z∈l.waiters,z.proc≠(p:Int):=λq O l V=>by
  have:((s.bd p ((s.proc p).put E)).proc q).ak=(s.proc q).ak:=by
   by_cases eq:q=p
   ·subst eq;rw [fC];rfl
   ·rw [hO eq]
  rw [this] at V;exact hw q O l V
 generalize X:s.bd p ((s.proc p).put E)=s1 at*;have F:s1.tick=s.tick:=by rw [<-X];rfl
 have b0:s1.part=s.part:=by rw [<-X];rfl
 obtain ⟨h3,z3,a3,l3,b8,b9,_⟩:=t.df hp;obtain ⟨g1,g2⟩:=m.tr t hi;refine aD (t.dY.ld (shf:=av) K.x.parts rfl ?_);refine aD (b9.ld (shf:=af .i64) z3.part rfl ?_);have ep:z3.part=(aA K.c p:Int):=b8.2.1;rw [ep];refine ⟨g1,some (K.q (aA K.c p)),g2,?_⟩;dsimp only;have j:∀n:Int,(w.Kind==n)=true↔w.Kind=n:=λn=>by simp
 have ek:(rS w).kind=w.Kind:=rfl;have b1:(rS w).to=w.To:=rfl;have ev:(rS w).value=w.dV:=rfl;rw [ek,b1,ev] at g;by_cases J:w.Kind=1
 ·rw [if_pos ((j 1).2 J)];simp only [if_pos J] at g;exact zkv (IP m u t B hp λi r=>g _ i r (y.ended hp))
 rw [if_neg (λh=>J ((j 1).1 h))];simp only [if_neg J] at g;by_cases L:w.Kind=2
 ·rw [if_pos ((j 2).2 L)];simp only [if_pos L] at g;exact zsy (VF m u t B hp b6 λi r=>g _ i r (y.bq aaj))
 rw [if_neg (λh=>L ((j 2).1 h))];simp only [if_neg L] at g;by_cases A:w.Kind=3
 ·simp only [if_pos A] at g;refine cY.direct ?_;rw [if_pos ((j 3).2 A)];dsimp only;rw [if_pos ((j 3).2 A),show (w.Kind==4)=false by rw [A];rfl];exact zjv (Hi tk m u t B hp λi r=>g _ i r (y.bq JU))
 simp only [if_neg A] at g;by_cases G:w.Kind=4
 ·simp only [if_pos G] at g;refine cY.direct ?_;rw [if_neg (λh=>A ((j 3).1 h))];dsimp only;rw [if_pos ((j 4).2 G),(j 4).2 G];exact zjv (Hi tk m u t B hp λi r=>g _ i r (y.bq JU))
 simp only [if_neg G] at g;refine cY.direct ?_;rw [if_neg (λh=>A ((j 3).1 h))];dsimp only;rw [if_neg (λh=>G ((j 4).1 h))];by_cases M:w.Kind=5
 ·rw [if_pos ((j 5).2 M)];simp only [if_pos M] at g;refine VP m u t hp (by rw [F];exact Y) λi r=> ?_;refine g (vf f (aA K.c p) p s1.tick w.dV) i ?_ ?_
  ·rw [FC,FH] at r ⊢;rw [F] at r ⊢;exact r
  ·refine y.set hp (.inl rfl) λq=> ?_;unfold TW;by_cases eq:q=p
   ·subst eq;rw [fC,if_pos rfl,if_pos rfl,F]
   ·rw [hO eq,if_neg eq]
 rw [if_neg (λh=>M ((j 5).1 h))];simp only [if_neg M] at g;by_cases N:w.Kind=6
 ·rw [if_pos ((j 6).2 N)];simp only [if_pos N] at g;refine VQ m u t hp (by rw [F];exact Y) λi r=> ?_;refine g (cg f (aA K.c p) (cg (f (aA K.c p)) (2*p+1) (s1.tick+pC (uX w.dV 1) 1099511627776))) i ?_ ?_
  ·rw [FC,FH] at r ⊢;exact r
  ·refine y.set hp (.inr rfl) λq=> ?_;unfold TW;by_cases eq:q=p
   ·subst eq;rw [fC,if_pos rfl,if_neg (by omega),F]
   ·rw [hO eq,if_neg eq]
 rw [if_neg (λh=>N ((j 6).1 h))];simp only [if_neg N] at g;by_cases H:w.Kind=7
 ·rw [if_pos ((j 7).2 H)];simp only [if_pos H] at g;exact Yr m u t B hp (W (.inl H)) (by rw [b0];exact b4) λi r=>g _ i r (y.bq aal)
 rw [if_neg (λh=>H ((j 7).1 h))];simp only [if_neg H] at g;by_cases I:w.Kind=8
 ·rw [if_pos ((j 8).2 I)];simp only [if_pos I] at g;exact S3 m u t B hp (W (.inr I)) λi r=>g _ i r (y.bq VR)
 rw [if_neg (λh=>I ((j 8).1 h))];simp only [if_neg I] at g;by_cases a8:w.Kind=9
 ·rw [if_pos ((j 9).2 a8)];simp only [if_pos a8] at g;exact aag m u t B hp λi r=>g _ i r (y.bq abi)
 grind
end
def nn (x:au):au:={x with cJ:=0,state:=0,pc:=x.pc+1}
def qZ (x:au):au:={x with timer:=0,bN:=true,state:=if x.state=1 then 0 else x.state}
def iY (a:List Int) (q:Nat) (x:au):au:=
 if ((2*q:Nat):Int)∈a then qZ (if ((2*q+1:Nat):Int)∈a then nn x else x) else (if ((2*q+1:Nat):Int)∈a then nn x else x)
def kU (s:MS) (a:List Int):MS:=⟨s.tick,s.part,λq=>iY a q (s.proc q)⟩
theorem JV {t:Int} {x:au}:mi t x=(if 0<x.timer/\x.timer<=t then qZ (if 0<x.cJ/\x.cJ<=t then nn x else x) else (if 0<x.cJ/\x.cJ<=t then nn x else x)):=by
 unfold mi;dsimp only;by_cases h:0<x.cJ/\x.cJ<=t
 ·simp only [if_pos h];rfl
 ·simp only [if_neg h];rfl
theorem VS {a:List Int} {q:Nat} {x:au} (h:((2*q+1:Nat):Int)∉a):iY (a++ [((2*q+1:Nat):Int)]) q x=nn (iY a q x):=by
 unfold iY;have b:((2*q+1:Nat):Int)∈a++ [((2*q+1:Nat):Int)]:=by simp
 have c:((2*q:Nat):Int)∈a++ [((2*q+1:Nat):Int)]↔((2*q:Nat):Int)∈a:=by grind
 simp only [if_pos b,if_neg h,c];split
 ·unfold qZ nn;simp
 ·rfl
theorem Hk {a:List Int} {q:Nat} {x:au} (h:((2*q:Nat):Int)∉a):iY (a++ [((2*q:Nat):Int)]) q x=qZ (iY a q x):=by unfold iY;grind
theorem S4 {a:List Int} {q:Nat} {x:au} {id:Int} (b:id≠((2*q:Nat):Int)) (c:id≠((2*q+1:Nat):Int)):iY (a++ [id]) q x=iY a q x:=by unfold iY;grind
theorem VT {s:MS} {a:List Int} {id:Int} {q:Nat} {y:au} (h:id=((2*q:Nat):Int)\/id=((2*q+1:Nat):Int)) (b:qL y=qL (iY (a++ [id]) q (s.proc q))):tP ((kU s a).bd q y)=tP (kU s (a++ [id])):=by
 rw [FH,b];unfold tP kU MS.bd;congr 1;funext r;unfold cg;by_cases e:r=q
 ·grind
 ·rw [if_neg e];show qL (iY a r (s.proc r))=qL (iY (a++ [id]) r (s.proc r));rw [S4 (by omega) (by omega)]
section
variable {h0 h1 k:Hp} {K:MK} {pm:Addr} {s:MS} {b:Nat->Nat->Int}
theorem Yv {c:aI} {i:Nat} {ids:List Int} (d:eH c b s) (a:i<nP c) (o:∀x∈ids,0<=x/\x<(2*nQ c:Nat)) (g:∀j:Nat,(j:Int)∈ids↔0<b i j/\b i j<=s.tick):kU s ids=iZ c s i:=by
 unfold kU iZ;congr 1;funext q;by_cases h:q<nQ c/\aA c q=i
 ·rw [if_pos h,JV];unfold iY;have l:b i (2*q)=(s.proc q).timer:=by rw [d i _ a];unfold mG;rw [show 2*q / 2=q by omega,if_pos h,if_pos (by omega)]
  have m:b i (2*q+1)=(s.proc q).cJ:=by rw [d i _ a];unfold mG;rw [show (2*q+1) / 2=q by omega,if_pos h,if_neg (by omega)]
  grind
 ·rw [if_neg h];have e:∀j,j / 2=q->¬(j:Int)∈ids:=λj n f=>by have h1:=(g j).1 f;rw [d i _ a] at h1;unfold mG at h1;grind
  unfold iY;rw [if_neg (e _ (by omega)),if_neg (e _ (by omega))]
theorem eH.due {c:aI} {i:Nat} (g:eH c b s) (m:i<nP c):eH c (cg b i (mZ (b i) s.tick)) (iZ c s i):=λj id f=>by
 have key:∀x:au,(mi s.tick x).timer=(if 0<x.timer/\x.timer<=s.tick then 0 else x.timer)/\(mi s.tick x).cJ=(if 0<x.cJ/\x.cJ<=s.tick then 0 else x.cJ):=λx=>by rw [JV];by_cases h1:0<x.timer/\x.timer<=s.tick<;>by_cases a:0<x.cJ/\x.cJ<=s.tick<;>simp [h1,a,qZ,nn]
 by_cases e:j=i
 ·subst e;rw [kK];unfold mZ;rw [g j id f];unfold mG;by_cases h:id / 2<nQ c/\aA c (id / 2)=j
  ·rw [if_pos h,if_pos h];have d:(iZ c s j).proc (id / 2)=mi s.tick (s.proc (id / 2)):=if_pos h;rw [d];by_cases a:id%2=0
   ·rw [if_pos a,if_pos a];exact (key _).1.symm
   ·rw [if_neg a,if_neg a];exact (key _).2.symm
  omega
 ·rw [kB e,g j id f];unfold mG;by_cases h:id / 2<nQ c/\aA c (id / 2)=j
  ·rw [if_pos h,if_pos h];have d:(iZ c s i).proc (id / 2)=s.proc (id / 2):=if_neg (by rw [h.2];exact λl=>e l.2);rw [d]
  omega
theorem aam {i:Nat} {Q:Hp->Prop} (m:dq h0 K) (mc:bT K.c) (o:Has h0 (aB K pm s b) k) (sa:iX K.c s) (w:i<nP K.c) (H:eH K.c b s)
  (W:∀I j,Has h0 (aB K pm (iZ K.c s i) I) j->eH K.c I (iZ K.c s i)->Q j):SQ prog (some pm) (some (K.q i)) Q k:=by
 unfold SQ;have b7:=mc.procs;obtain ⟨h7,J,b9,b0,l7,Z,a8,ow,a9⟩:=o.iv w;have P:J.dx=some b0:=Z.2.2.2.2.2;refine aD (a8.ld (shf:=ah) J.dx rfl ?_);refine aD (o.dY.ld (shf:=af .i64) s.tick rfl ?_);rw [P];refine P2 (Yc ow (by omega) λsl k2 ids A Y X o2=> ?_);have f:Has h0 ((aB K pm s (cg b i (mZ (b i) s.tick))).star (dK 1 fo sl ids)) k2:=o2.carry λj d=>a9 _ j d;obtain ⟨r,G,o7,E⟩:=f.aside (λ_=>rfl);have m6:=m.mono G;have b2:ids.length<=2*nQ K.c:=vF (2*nQ K.c) ids Y A;have b4:=E.1;refine aC.intro (λ(t:Int) j=>0<=t/\t<=(ids.length:Int)/\Has r (aB K pm (kU s (ids.take t.toNat)) (cg b i (mZ (b i) s.tick))) j) (λt _=>(ids.length-t).toNat) ⟨by omega,by omega,by
  have e:kU s (ids.take (0:Int).toNat)=s:=by unfold kU iY;simp
  rw [e];exact o7⟩ ?_
 rintro t j ⟨t0,t1,d⟩;by_cases h:t<(ids.length:Int)
 ·rw [if_pos (decide_eq_true (by omega))];refine bF.direct ?_;refine Rs.get (sh:=af .i64) (Rw.mono d.le E) (λ_=>rfl) (by omega) t0 h λ(g:Int) v=> ?_;have V:=A g (List.mem_of_getElem? v);have u:g.toNat / 2<nQ K.c:=by omega
  have T:yw (Int.tdiv g 2)=((g.toNat / 2:Nat):Int):=by rw [Int.tdiv_eq_ediv_of_nonneg V.1,wrap64 (by omega) (by omega)];omega
  have b6:g∉ids.take t.toNat:=by
   intro b3;obtain ⟨b5,U⟩:=List.getElem?_eq_some_iff.1 v;have b8:ids=ids.take t.toNat++g::ids.drop (t.toNat+1):=by rw [<-U,List.getElem_cons_drop,List.take_append_drop]
   grind
  generalize b1:g.toNat / 2=q at*;obtain ⟨R,S⟩:=m6.ptr d u;refine aD (d.dY.ld (shf:=av) K.x.procs rfl ⟨by decide,?_⟩);rw [T];refine ⟨R,some (K.p q),S,?_⟩;obtain ⟨h2,z,a,l2,n,C,put⟩:=d.df u;have M:z.dg=(q:Int):=n.1;refine aD (C.ld (shf:=af .i64) z.dg rfl ?_);rw [M];refine Ib (yC (by omega) ?_);have step:∀ {y:au} {l:Hp},qL y=qL (iY (ids.take t.toNat++ [g]) q (s.proc q))->Has r (aB K pm ((kU s (ids.take t.toNat)).bd q y) (cg b i (mZ (b i) s.tick))) l->
    (0<=yw (t+1)/\yw (t+1)<=(ids.length:Int)/\Has r (aB K pm (kU s (ids.take (yw (t+1)).toNat)) (cg b i (mZ (b i) s.tick))) l)/\(ids.length-yw (t+1)).toNat<(ids.length-t).toNat:=by
   intro y l hy f;rw [wrap64 (by omega) (by omega)];refine ⟨⟨by omega,by omega,?_⟩,by omega⟩;have e:(t+1).toNat=t.toNat+1:=by omega
   rw [e,List.take_add_one,v];show Has r (aB K pm (kU s (ids.take t.toNat++ [g])) _) l;rw [FC,<-VT (q:=q) (y:=y) (by omega) hy,<-FC];exact f
  by_cases B:g=((2*q+1:Nat):Int)
  ·rw [if_pos (by rw [B];simp)];have O:((kU s (ids.take t.toNat)).proc q).pc=(s.proc q).pc:=by show (iY (ids.take t.toNat) q (s.proc q)).pc=_;unfold iY;rw [if_neg (c:=((2*q+1:Nat):Int)∈_) (by grind)];split<;>rfl
   have e:fS (dG z)=((kU s (ids.take t.toNat)).proc q).core:=n.2.2.2.2.1;have N:(dG z).PC=(s.proc q).pc:=(congrArg Core.pc e).trans O;refine aD (C.ld (shf:=eJ) (dG z) rfl ?_);refine C5 (Fj (by rw [N];exact sa.told u) λc' L=> ?_);refine Qt (E5 d u λl f=>step ?_ f);rw [L,e,B,VS (by grind)];rfl
  ·rw [if_neg (by simpa using B)];have F:g=((2*q:Nat):Int):=by omega
   refine aD (C.st (tV z true) (by show 13+1<=15;omega) rfl λl f=> ?_);have D:z.state=((kU s (ids.take t.toNat)).proc q).state:=n.2.2.2.1;refine aD (f.ld (shf:=af .i64) z.state rfl ?_);by_cases h1:z.state=1
   ·rw [if_pos (by rw [h1];rfl)];refine aD (f.st (nv (tV z true) 0) (by show 3+1<=15;omega) rfl λk4 o4=> ?_);refine step ?_ (put _ _ _ ((n.bN true).state 0) rfl rfl o4);rw [F,Hk (by grind)];unfold qZ;rw [if_pos (by rw [<-h1,D];rfl)];rfl
   ·rw [if_neg (by simpa using h1)];refine step ?_ (put _ _ _ (n.bN true) rfl rfl f);rw [F,Hk (by grind)];unfold qZ;rw [if_neg (by rw [D] at h1;exact h1)];rfl
 ·rw [if_neg (λe=>h (by grind))];have e:t.toNat=ids.length:=by omega
  rw [e,List.take_of_length_le (Nat.le_refl _),Yv H w A X] at d;exact W _ j (d.mono G) (H.due w)
end
section
variable {c:aI} {fl:Nat->Nat->Bool} {s:MS} {T:Int} {p:Nat}
theorem Yw {q r:Nat} {y:au} (h:y.state=(s.proc q).state\/((s.proc q).state=1/\y.state=0)):((s.bd q y).proc r).state=(s.proc r).state\/((s.proc r).state=1/\((s.bd q y).proc r).state=0):=by
 by_cases e:r=q
 ·subst e;rw [fC];exact h
 ·rw [hO e];exact .inl rfl
theorem PO {x:au}:(ed x).state=x.state\/(x.state=1/\(ed x).state=0):=by
 unfold ed;by_cases h:x.state=1
 ·right;exact ⟨h,if_pos h⟩
 ·left;exact if_neg h
theorem aan {q r:Nat} {y:au} (e:y.pc=(s.proc q).pc):((s.bd q y).proc r).pc=(s.proc r).pc:=by
 by_cases h:r=q
 ·subst h;rw [fC,e]
 ·rw [hO h]
theorem IU {q r:Nat} {y:au} (e:y.pc=(s.proc q).pc):dv c r ((s.bd q y).proc r)=dv c r (s.proc r):=by unfold dv;rw [aan e]
theorem Good.xg (g:Good c fl s No No T) (hp:p<nQ c) (b:(s.proc p).state=0) (a:∃n,dv c p (s.proc p)=some n) (v:Int):Good c fl (cf c s p v) No No T:=
 wG (g.told hp (wE ⟨by omega,by omega⟩) (by omega) a v)
theorem Good.send (m:bT c) (g:Good c fl s No No T) {to v:Int} {n:cp} (hp:p<nQ c) (q:(s.proc p).state=0) (x:dv c p (s.proc p)=some n) (L:n.op=24) (hb:fi (s.proc p).br n.b=to) (G:fi (s.proc p).br n.c=v):Good c fl (lj c fl s p to v) No No T:=by
 unfold lj;have I:=m.eR (p:=p);by_cases B:to<0\/(nQ c:Int)<=to
 ·rw [if_pos B];exact g.xg hp q ⟨n,x⟩ 1
 rw [if_neg B];have z:to.toNat<nQ c:=by omega
 have F:((to.toNat:Nat):Int)=to:=by omega
 by_cases t:fl (aA c p) (aA c to.toNat)=false
 ·rw [if_pos t];have pm:=g.part _ I;have A:=g.parts (i:=aA c p) (y:={s.part (aA c p) with forbidden:=more (s.part (aA c p)).forbidden}) ⟨pm.cur,pm.jP,pm.log,pm.lost,vI pm.kH,pm.full,pm.gK,pm.ib⟩ rfl rfl;exact A.xg hp q ⟨n,x⟩ 0
 rw [if_neg t];have H:fl (aA c p) (aA c to.toNat)=true:=by cases e:fl (aA c p) (aA c to.toNat)<;>simp [e] at t ⊢
 have lane:∀(f:bm->bm) (d:Bool),(∀l,(s.proc to.toNat).ak[aA c p]? =some l->((f l).values.length:Int)<=c.lane/\jl (f l).taken/\jl (f l).dropped)->
   (∀l,(s.proc to.toNat).ak[aA c p]? =some l->(f l).waiters=l.waiters/\(l.waiters≠ []->(f l).values.length=l.values.length))->(d=false->∀l,l.values=[]->(f l).values=[])->
   Good c fl (cf c (s.bd to.toNat (if d then ed (bE (s.proc to.toNat) (aA c p) f) else bE (s.proc to.toNat) (aA c p) f)) p 0) No No T:=by
  intro f d k M u;have A:=g.lane z (i:=aA c p) (f:=f) (λl a=>⟨(k l a).1,(k l a).2.1,(k l a).2.2,λ_ _=>H⟩) M d u;have E:(if d then ed (bE (s.proc to.toNat) (aA c p) f) else bE (s.proc to.toNat) (aA c p) f).pc=(s.proc to.toNat).pc:=by cases d<;>rfl
  refine A.xg hp ?_ ⟨n,?_⟩ 0
  ·have:(if d then ed (bE (s.proc to.toNat) (aA c p) f) else bE (s.proc to.toNat) (aA c p) f).state=(s.proc to.toNat).state\/((s.proc to.toNat).state=1/\(if d then ed (bE (s.proc to.toNat) (aA c p) f) else bE (s.proc to.toNat) (aA c p) f).state=0):=by
    cases d
    ·exact .inl rfl
    ·exact PO
   rcases Yw (r:=p) this with h | h
   ·rw [h];exact q
   ·exact h.2
  ·rw [IU E];exact x
 have w:∀l,(s.proc to.toNat).ak[aA c p]? =some l->(l.values.length:Int)<=c.lane/\jl l.taken/\jl l.dropped:=λl a=>by have:=(g.proc _ z).dQ _ l a;exact ⟨this.1,this.2.1,this.2.2.1⟩
 have D:fy c (s.proc to.toNat) (aA c p)=false->Good c fl (cf c (s.bd to.toNat (ed (bE (s.proc to.toNat) (aA c p) (uT v)))) p 0) No No T:=by
  intro k;have C:∀l,(s.proc to.toNat).ak[aA c p]? =some l->(l.values.length:Int)<c.lane:=λl a=>by unfold fy at k;rw [a] at k;have:=of_decide_eq_false k;omega
  refine lane (uT v) true (λl a=> ?_) (λl a=>⟨rfl,λK=> ?_⟩) (λh=>by cases h)
  ·have B:=C l a;have t:=w l a;refine ⟨?_,t.2⟩;show ((l.values++ [v]).length:Int)<=_;rw [List.length_append,List.length_singleton];omega
  ·have:=((g.dQ _ z _ l a).2.1 K).2.2;have:=C l a;omega
 have J:Good c fl (cf c (s.bd to.toNat (bE (s.proc to.toNat) (aA c p) lf)) p 0) No No T:=
  lane lf false (λl a=>⟨(w l a).1,(w l a).2.1,vI (w l a).2.2⟩) (λl a=>⟨rfl,λ_=>rfl⟩) λ_ l a=>a
 by_cases u:aA c p=aA c to.toNat
 ·rw [if_pos u];by_cases j:jF (s.proc to.toNat)=false
  ·rw [if_pos j];exact g.xg hp q ⟨n,x⟩ 2
  rw [if_neg j];by_cases o:fy c (s.proc to.toNat) (aA c p)=true
  ·rw [if_pos o];refine g.wait (v:=v) m hp z q x L (by rw [hb,F]) G u (by cases e:jF (s.proc to.toNat)<;>simp [e] at j ⊢) λl a=> ?_;have N:=(w l a).1;unfold fy at o;rw [a] at o;have:=of_decide_eq_true o;omega
  ·rw [if_neg o];exact D (by cases e:fy c (s.proc to.toNat) (aA c p)<;>simp [e] at o ⊢)
 rw [if_neg u];by_cases j:jF (s.proc to.toNat)=false\/fy c (s.proc to.toNat) (aA c p)=true
 ·rw [if_pos j];exact J
 ·rw [if_neg j];exact D (by cases e:fy c (s.proc to.toNat) (aA c p)<;>simp [e] at j ⊢)
end
theorem PR {aj:Int} {a:List bm} (f:0<=aj/\aj<a.length) (h:nV aj a=none):∀l∈a,l.values=[]:=by
 intro l d;obtain ⟨j,c,g⟩:=List.getElem_of_mem d;unfold nV at h;rw [List.find?_eq_none] at h;have e:j∈(List.range a.length).map λk=>(aj.toNat+k)%a.length:=by
  refine List.mem_map.2 ⟨(j+a.length-aj.toNat)%a.length,List.mem_range.2 (Nat.mod_lt _ (by omega)),?_⟩;by_cases i:aj.toNat<=j
  ·have b:j+a.length-aj.toNat=(j-aj.toNat)+a.length:=by omega
   rw [b,Nat.add_mod_right,Nat.mod_eq_of_lt (show j-aj.toNat<a.length by omega),Nat.mod_eq_of_lt (by omega)];omega
  ·rw [Nat.mod_eq_of_lt (show j+a.length-aj.toNat<a.length by omega)];have b:aj.toNat+(j+a.length-aj.toNat)=j+a.length:=by omega
   rw [b,Nat.add_mod_right,Nat.mod_eq_of_lt c]
 grind
theorem N1 {aj:Int} {a:List bm} {i:Nat} (h:nV aj a=some i):∃l,a[i]? =some l/\l.values≠ []:=by unfold nV at h;grind
section
variable {c:aI} {fl:Nat->Nat->Bool} {s:MS} {T:Int} {p:Nat} {t:Int} {x:au} {z:Prop}
theorem cm.NN (pm:cm c fl t p z x):cm c fl t p z {x with bN:=false} where
 st:=pm.st
 pc:=pm.pc
 lx:=pm.lx
 cur:=pm.cur
 mD:=pm.mD
 mE:=pm.mE
 nj:=pm.nj
 dead:=λh=>⟨(pm.dead h).1,rfl⟩
 dQ:=pm.dQ
 recv:=λh=>⟨(pm.recv h).1,(pm.recv h).2.1,rfl⟩
 snd:=pm.snd
 pz:=pm.pz
 iP:=pm.iP
 br:=pm.br
theorem cm.aj (pm:cm c fl t p z x) {n:Int} (h:0<=n/\n<x.ak.length):cm c fl t p z {x with aj:=n} where
 st:=pm.st
 pc:=pm.pc
 lx:=pm.lx
 cur:=h
 mD:=pm.mD
 mE:=pm.mE
 nj:=pm.nj
 dead:=pm.dead
 dQ:=pm.dQ
 recv:=pm.recv
 snd:=pm.snd
 pz:=pm.pz
 iP:=pm.iP
 br:=pm.br
theorem cm.Gw (pm:cm c fl t p z x) (g:x.state=0) {n:cp} (e:dv c p x=some n) (f:n.op=25) (b:∀l∈x.ak,l.values=[]) (d:x.bN=false):cm c fl t p z {x with state:=1} where
 st:=by simp
 pc:=pm.pc
 lx:=pm.lx
 cur:=pm.cur
 mD:=pm.mD
 mE:=pm.mE
 nj:=pm.nj.imp id λh=>⟨λa=>by grind,λa=>by grind⟩
 dead:=λh=>by grind
 dQ:=pm.dQ
 recv:=λ_=>⟨⟨n,e,f⟩,b,d⟩
 snd:=λh=>by grind
 pz:=λh=>by grind
 iP:=λh=>by grind
 br:=pm.br
theorem Good.core {X:Nat->Prop} (g:Good c fl s X No T) {y:au} (o:Out s X No p) (pm:cm c fl s.tick p (No p) y) (d:y.ak=(s.proc p).ak) (e:y.state=0) {k:Core} (a:0<=k.pc/\k.pc<=(ji c p).length) (b:k.br.length=8):Good c fl (s.bd p (y.put k)) (λq=>X q/\q≠p) No T:=by refine g.run o (pm.put e a b) ⟨by show y.state≠2;omega,by show y.state≠3;omega⟩ d λ_=> ?_;rw [cW];exact ⟨by show y.state≠5;omega,by show y.state≠6;omega⟩
theorem Good.take (m:bT c) (g:Good c fl s No No T) {t:Bool} {n:cp} (hp:p<nQ c) (h0:(s.proc p).state=0) (E:dv c p (s.proc p)=some n) (ho:t=false->n.op=25):Good c fl (kz c s p t) No No T:=by
 have pm:=g.proc p hp;have H:∀ {X:Nat->Prop},Out s X No p:=wE ⟨by omega,by omega⟩;have b6:=qB E;have u:∀ {v f:Int},(0<=(gi (ji c p) (s.proc p).core v f).pc/\(gi (ji c p) (s.proc p).core v f).pc<=(ji c p).length)/\(gi (ji c p) (s.proc p).core v f).br.length=8:=λ{v f}=>by obtain ⟨b,d⟩:=Yk (l:=ji c p) (k:=(s.proc p).core) (v:=v) (w:=f) ⟨n,E⟩;have b:(gi (ji c p) (s.proc p).core v f).pc=(s.proc p).pc+1:=b;exact ⟨by omega,d.trans pm.br⟩
 unfold kz;dsimp only;cases K:nV (s.proc p).aj (s.proc p).ak with
 | none=>
  dsimp only;have a9:=PR pm.cur K;by_cases B:(s.proc p).bN=true
  ·rw [if_pos B];have e:({(s.proc p).put (gi (ji c p) (s.proc p).core 0 (-2)) with bN:=false}:au)=({s.proc p with bN:=false}:au).put (gi (ji c p) (s.proc p).core 0 (-2)):=rfl;rw [e];exact wG (g.core H pm.NN rfl h0 u.1 u.2)
  ·rw [if_neg B];cases t with
   | true=>rw [if_pos rfl];exact wG (g.core H pm rfl h0 u.1 u.2)
   | false=>rw [if_neg (by decide)];refine wG (g.run H (pm.Gw h0 E (ho rfl) a9 (by simpa using B)) ⟨by show (1:Int)≠2;omega,by show (1:Int)≠3;omega⟩ rfl λ_=> ?_);rw [cW];simp
 | some i=>
  dsimp only;obtain ⟨l,o,b0⟩:=N1 K;have U:(s.proc p).ak.getD i ⟨[],[],0,0⟩=l:=by grind
  rw [U];obtain ⟨P,b2,Q⟩:=g.dQ p hp i l o;have M:=pm.dQ i l o;have b7:1<=l.values.length:=by grind
  have B:∀A,(s.proc p).ak[i]? =some A->((dw A).values.length:Int)<=c.lane/\jl (dw A).taken/\jl (dw A).dropped/\(tc (dw A)->i<nP c->fl i (aA c p)=true):=λA L=>by
   rw [o] at L;cases L;refine ⟨?_,?_,?_,λ_ hi=>M.2.2.2 (.inl b0) hi⟩
   ·unfold dw;grind
   ·unfold dw;cases l.waiters<;>exact vI M.2.1
   ·unfold dw;grind
  have N:cm c fl s.tick p (No p) (bE (s.proc p) i dw):=pm.lane B λh=>by omega
  let I:Nat->Prop:=λq=>∃w r,l.waiters=w::r/\w.proc=(q:Int);have W:Good c fl (s.bd p (bE (s.proc p) i dw)) I No T:=by
   refine g.ak N (.inl rfl) rfl rfl (List.length_modify ..) (λj l1 l2 b d=> ?_) hp (λ_ h=>h.elim) λq hq=>.inr ⟨λh=>h,?_⟩
   ·have d:((s.proc p).ak.modify i dw)[j]? =some l2:=d;obtain ⟨l0,J,V⟩:=Ei d;rw [b] at J;cases J;obtain ⟨c1,R,S⟩:=g.dQ p hp j l1 b;rcases V with ⟨rfl,rfl⟩ | ⟨e5,rfl⟩
    ·rw [o] at b;cases b;unfold dw;cases a:l.waiters with
     | nil=>exact ⟨List.Sublist.refl _,λh=>absurd rfl h,λw G=>by cases G⟩
     | cons w r=>
      refine ⟨List.sublist_cons_self ..,λ_=> ?_,λO G=> ?_⟩
      ·have h3:=(R (by rw [a];simp)).2.2;show ((l.values.tail++ [w.value]).length:Int)=_;rw [List.length_append,List.length_tail,List.length_singleton];omega
      ·rcases List.mem_cons.1 G with rfl | h4
       ·refine .inr ⟨O,r,a,?_⟩;have:=(S O (by rw [a];exact List.mem_cons_self ..)).1;omega
       ·exact .inl h4
    grind
   ·obtain ⟨w,r,a,he⟩:=hq;refine ⟨i,l,dw l,w,o,vJ o,by rw [a];exact List.mem_cons_self ..,?_,he⟩;have nd:=P;rw [a,List.map_cons,List.nodup_cons] at nd;unfold dw;grind
  have b4:Out (s.bd p (bE (s.proc p) i dw)) I No p:=⟨λh=>h,.inr (by rw [fC];exact ⟨by show (s.proc p).state≠2;omega,by show (s.proc p).state≠3;omega⟩)⟩;have b5:i<(s.proc p).ak.length:=(List.getElem?_eq_some_iff.1 o).1;have a8:0<=((i+1:Nat):Int)%((s.proc p).ak.length:Int)/\((i+1:Nat):Int)%((s.proc p).ak.length:Int)<((bE (s.proc p) i dw).ak.length:Int):=by have e:(bE (s.proc p) i dw).ak.length=(s.proc p).ak.length:=List.length_modify ..;rw [e];exact ⟨Int.emod_nonneg _ (by omega),Int.emod_lt_of_pos _ (by omega)⟩
  have D:=W.core (y:={bE (s.proc p) i dw with aj:=((i+1:Nat):Int)%((s.proc p).ak.length:Int)}) b4 (N.aj a8) (by rw [fC]) h0 (u (v:=l.values.headD 0) (f:=(i:Int))).1 u.2;rw [Bb] at D;cases a:l.waiters with
  | nil=>refine D.congr λq=>⟨λh=> ?_,λh=>h.elim⟩;grind
  | cons w r=>
   dsimp only;have Z:=Q w (by rw [a];exact List.mem_cons_self ..);obtain ⟨w1,w2,w3,w4,C⟩:=Z;rcases C with C | ⟨C,n2,w6,w7,_⟩
   ·exact C.elim
   have F:w.proc.toNat≠p:=λe=>by rw [e] at C;omega
   have d:w.proc=((w.proc.toNat:Nat):Int):=by omega
   have Y:=D.told (p:=w.proc.toNat) w2 ⟨λh=>h,.inl ⟨⟨w,r,a,d⟩,F⟩⟩ (by rw [hO F];omega) ⟨n2,by rw [hO F];exact w6⟩ 0;refine Y.congr λq=>⟨λh=> ?_,λh=>h.elim⟩;grind
end
section
variable {c:aI} {fl:Nat->Nat->Bool} {s:MS} {T:Int} {p:Nat} {t:Int} {x:au} {z:Prop} {X Z:Nat->Prop}
theorem Good.ag {d:Nat->Prop} (g:Good c fl s X Z T) {i:Nat} {y:dB} (pm:uB c T i y)
  (H:∀(k:Nat) o,y.az[k]? =some o->o= -1\/(0<=o/\o.toNat<nQ c/\aA c o.toNat=i/\(jF (s.proc o.toNat)=true\/Z o.toNat)))
  (I:∀(k:Nat) a,y.aw[k]? =some a->∃q,(s.part i).aw[k]? =some q/\a.Sublist q/\(a≠ []->∃o,y.az[k]? =some o/\o≠ -1/\o∉a)/\∀z∈a,¬d z.toNat)
  (G:∀(k:Nat) q,(s.part i).aw[k]? =some q->∃a,y.aw[k]? =some a/\∀z∈q,z∈a\/d z.toNat\/Z z.toNat)
  (b:∀q,Z q->(s.proc q).state≠3)
  (B:∀q,X q->d q) (M:∀q,d q->X q\/(¬Z q/\(s.proc q).state=3/\aA c q=i)):Good c fl (s.dZ i y) d Z T where
 tick:=g.tick
 part j hj:=by
  by_cases e:j=i
  ·subst e;rw [sV];exact pm
  ·rw [tO e];exact g.part j hj
 proc:=g.proc
 own j hj k o h:=by
  by_cases e:j=i
  ·subst e;rw [sV] at h;exact H k o h
  ·rw [tO e] at h;exact g.own j hj k o h
 jg j hj k q h:=by
  by_cases e:j=i
  ·subst e;rw [sV] at h ⊢;obtain ⟨L,E,u,v,F⟩:=I k q h;obtain ⟨f,m,n⟩:=g.jg j hj k L E;refine ⟨f.sublist u,λz b=> ?_,v⟩;obtain ⟨a1,a2,a3,a4,a5⟩:=m z (u.subset b);exact ⟨a1,a2,a3,F z b,a5⟩
  ·rw [tO e] at h ⊢;obtain ⟨f,m,n⟩:=g.jg j hj k q h;refine ⟨f,λz b=> ?_,n⟩;obtain ⟨a1,a2,a3,a4,a5⟩:=m z b;refine ⟨a1,a2,a3,λh=> ?_,a5⟩;grind
 dQ r hr j l h:=by obtain ⟨f,m,n⟩:=g.dQ r hr j l h;refine ⟨f,m,λw J=> ?_⟩;obtain ⟨a1,a2,a3,a4,a5⟩:=n w J;refine ⟨a1,a2,a3,λh=> ?_,a5⟩;grind
 rf q hq hn v:=by
  obtain ⟨k,l,A,e2⟩:=g.rf q hq (λh=>hn (B q h)) v;by_cases e:aA c q=i
  ·rw [e] at A ⊢;rw [sV];obtain ⟨K,C,D⟩:=G k l A;refine ⟨k,K,C,?_⟩;rcases D _ e2 with h | h | h
   ·exact h
   ·grind
   ·exact absurd v (b q (by simpa using h))
  ·rw [tO e];grind
 re q hq hn u:=g.re q hq (λh=>hn (B q h)) u
theorem Good.queue (g:Good c fl s No No T) {k:Nat} {n:cp} {o:Int} {q:List Int} (hp:p<nQ c) (hi:aA c p<nP c) (V:(s.proc p).state=0) (N:dv c p (s.proc p)=some n) (O:n.op=29) (Y:n.gW=(k:Int)) (P:(s.part (aA c p)).az[k]? =some o) (a9:o≠ -1) (b0:o≠(p:Int))
  (Q:(s.part (aA c p)).aw[k]? =some q):Good c fl ((s.dZ (aA c p) {s.part (aA c p) with aw:=(s.part (aA c p)).aw.modify k (· ++ [(p:Int)])}).bd p {s.proc p with state:=3}) No No T:=by
 have I:Out s No No p:=wE ⟨by omega,by omega⟩;have B:∀r,r≠p->((s.dZ (aA c p) {s.part (aA c p) with aw:=(s.part (aA c p)).aw.modify k (· ++ [(p:Int)])}).bd p {s.proc p with state:=3}).proc r=s.proc r:=λr e=>hO e;have H:((s.dZ (aA c p) {s.part (aA c p) with aw:=(s.part (aA c p)).aw.modify k (· ++ [(p:Int)])}).bd p {s.proc p with state:=3}).proc p={s.proc p with state:=3}:=fC;have A:∀j,((s.dZ (aA c p) {s.part (aA c p) with aw:=(s.part (aA c p)).aw.modify k (· ++ [(p:Int)])}).bd p {s.proc p with state:=3}).part j=(s.dZ (aA c p) {s.part (aA c p) with aw:=(s.part (aA c p)).aw.modify k (· ++ [(p:Int)])}).part j:=λj=>rfl;have b7:∀r,jF (s.proc r)=true->jF (((s.dZ (aA c p) {s.part (aA c p) with aw:=(s.part (aA c p)).aw.modify k (· ++ [(p:Int)])}).bd p {s.proc p with state:=3}).proc r)=true:=λr h=>by
  by_cases e:r=p
  ·subst e;rw [H];rfl
  grind
 generalize b5:(s.dZ (aA c p) {s.part (aA c p) with aw:=(s.part (aA c p)).aw.modify k (· ++ [(p:Int)])}).bd p {s.proc p with state:=3}=J at*;have R:J.tick=s.tick:=by rw [<-b5];rfl
 have a8:∀r,(J.proc r).ak=(s.proc r).ak:=λr=>by grind
 have b6:∀ {i k z},pj c s No No i k z->pj c J No No i k z:=λ{i k z} h=>h.bq (λh=>h) (B _ (h.out I));refine ⟨by rw [R];exact g.tick,λj v=> ?_,λr d=> ?_,λj v f S h=> ?_,λj v f l h=> ?_,λr d j l h=> ?_,λr d _ G=> ?_,λr d _ F=> ?_⟩
 ·rw [A];by_cases e:j=aA c p
  ·subst e;rw [sV];have pm:=g.part _ v;exact ⟨pm.cur,pm.jP,pm.log,pm.lost,pm.kH,pm.full,pm.gK,by show ((List.modify _ _ _).length:Int)=_;rw [List.length_modify];exact pm.ib⟩
  ·rw [tO e];exact g.part j v
 ·rw [R];by_cases e:r=p
  ·subst e;rw [H];exact (g.proc r d).wait V (.inr rfl) N ⟨λh=>by omega,λ_=>O⟩
  ·rw [B r e];exact g.proc r d
 ·rw [A] at h;have h:(s.part j).az[f]? =some S:=by
   by_cases e:j=aA c p
   ·subst e;rw [sV] at h;exact h
   ·rw [tO e] at h;exact h
  rcases g.own j v f S h with h | ⟨h1,F,G,h4⟩
  ·exact .inl h
  grind
 ·rw [A] at h ⊢;by_cases e:j=aA c p
  ·subst e;rw [sV] at h ⊢;obtain ⟨b,m,u⟩:=Ei h;obtain ⟨C,D,y⟩:=g.jg _ v f b m;rcases u with ⟨u,rfl⟩ | ⟨u,rfl⟩
   ·subst u;rw [Q] at m;cases m;have b4:(p:Int)∉q:=λhm=>((D _ hm).out I) (by omega);refine ⟨?_,λz hz=> ?_,λ_=>⟨o,P,a9,?_⟩⟩
    ·rw [List.nodup_append];exact ⟨C,by simp,λa W b hb=>by rw [List.mem_singleton.1 hb];exact λe=>b4 (e▸W)⟩
    ·rcases List.mem_append.1 hz with hz | hz
     ·exact b6 (D z hz)
     ·rw [List.mem_singleton.1 hz];refine ⟨by omega,hp,rfl,λh=>h,.inr ?_⟩;rw [Int.toNat_natCast,H];exact ⟨rfl,n,N,O,Y⟩
    ·intro hm;rcases List.mem_append.1 hm with hm | hm
     ·obtain ⟨o',K,_,U⟩:=y (List.ne_nil_of_mem hm);rw [P] at K;cases K;exact U hm
     ·exact b0 (List.mem_singleton.1 hm)
   grind
  ·rw [tO e] at h ⊢;obtain ⟨C,D,y⟩:=g.jg j v f l h;grind
 ·rw [a8] at h;obtain ⟨C,D,y⟩:=g.dQ r d j l h;refine ⟨C,λE=> ?_,λw E=>(y w E).bq (λh=>h) (B _ ((y w E).out I))⟩;grind
 ·by_cases e:r=p
  ·subst e;rw [A,sV];exact ⟨k,_,vJ Q,List.mem_append_right _ (List.mem_singleton.2 rfl)⟩
  ·rw [B r e] at G;obtain ⟨f,l,m,u⟩:=g.rf r d (λh=>h) G;rw [A];by_cases L:aA c r=aA c p
   ·rw [L] at m ⊢;rw [sV];by_cases M:k=f
    ·subst M;exact ⟨k,_,vJ m,List.mem_append_left _ u⟩
    ·exact ⟨f,l,(E8 M).trans m,u⟩
   ·rw [tO L];grind
 ·by_cases e:r=p
  ·grind
  ·rw [B r e] at F;obtain ⟨r',b8,l,hl,E⟩:=g.re r d (λh=>h) F;grind
theorem Good.lock (m:bT c) (g:Good c fl s No No T) {k:Int} {n:cp} (hp:p<nQ c) (l:(s.proc p).state=0) (f:dv c p (s.proc p)=some n) (r:n.op=29) (B:n.gW=k):Good c fl (jO c s p k) No No T:=by
 have b:=m.eR (p:=p);have D:=xz (m.ins f).1 (.inl r);rw [B] at D;have pm:=g.part _ b;have L:=pm.gK;have M:=pm.ib;have v:=List.getElem?_eq_getElem (show k.toNat<(s.part (aA c p)).aw.length by omega);have u:=List.getElem?_eq_getElem (show k.toNat<(s.part (aA c p)).az.length by omega);generalize (s.part (aA c p)).aw[k.toNat]=q at v;generalize (s.part (aA c p)).az[k.toNat]=o at u;have J:=qB f;have C:=g.proc p hp;unfold jO;dsimp only;have A:(s.part (aA c p)).az.getD k.toNat 0=o:=by grind
 rw [A];by_cases h:o= -1\/o=(p:Int)
 ·rw [if_pos h];unfold jO.goK;have N:Out s No No p:=wE ⟨by omega,by omega⟩;have i:Good c fl (s.dZ (aA c p) {s.part (aA c p) with az:=(s.part (aA c p)).az.set k.toNat p}) No No T:=by
   refine g.ag ⟨pm.cur,pm.jP,pm.log,pm.lost,pm.kH,pm.full,by show ((List.set _ _ _).length:Int)=_;rw [List.length_set];exact pm.gK,pm.ib⟩ (λj w a=> ?_) (λj d a=>⟨d,a,List.Sublist.refl _,λK=> ?_,λ_ _ h=>h⟩) (λj d a=>⟨d,a,λz E=>.inl E⟩) (λ_ h=>h.elim) (λ_ h=>h) λ_ h=>h.elim
   ·have a:((s.part (aA c p)).az.set k.toNat p)[j]? =some w:=a;by_cases e:k.toNat=j
    ·subst e;rw [List.getElem?_set_self (by omega)] at a;cases a;refine .inr ⟨by omega,hp,rfl,.inl ?_⟩;rw [Int.toNat_natCast,cW];omega
    ·rw [List.getElem?_set_ne e] at a;exact g.own _ b j w a
   ·obtain ⟨G,H,I⟩:=g.jg _ b j d a;grind
  have F:Out (s.dZ (aA c p) {s.part (aA c p) with az:=(s.part (aA c p)).az.set k.toNat p}) No No p:=wE ⟨by show (s.proc p).state≠2;omega,by show (s.proc p).state≠3;omega⟩;exact wG (i.core (y:=s.proc p) (k:=fz (s.proc p).core) F (i.proc p hp) rfl l ⟨by show 0<=(s.proc p).pc+1;omega,by show (s.proc p).pc+1<=_;omega⟩ C.br)
 ·rw [if_neg h];exact g.queue hp b l f r (by omega) u (λe=>h (.inl e)) (λe=>h (.inr e)) v
theorem Good.given (g:Good c fl s X Z T) {a:Int} (d:0<=a) (f:a.toNat<nQ c) (h:X a.toNat) (i:¬Z a.toNat) (b:(s.proc a.toNat).state≠4) (e:∃n,dv c a.toNat (s.proc a.toNat)=some n):Good c fl (jj s a) (λq=>X q/\q≠a.toNat) Z T:=by unfold jj;rw [if_pos d];exact g.NO f ⟨i,.inl h⟩ b e
theorem Good.unlock (m:bT c) (g:Good c fl s No No T) {k:Int} (hp:p<nQ c) (N:0<=k/\k<c.ag):Good c fl (yR c s p k) No No T:=by
 have f:=m.eR (p:=p);have pm:=g.part _ f;have O:=pm.gK;have P:=pm.ib;have i:=List.getElem?_eq_getElem (show k.toNat<(s.part (aA c p)).aw.length by omega);have C:=List.getElem?_eq_getElem (show k.toNat<(s.part (aA c p)).az.length by omega);generalize (s.part (aA c p)).aw[k.toNat]=q at i;generalize (s.part (aA c p)).az[k.toNat]=o at C;unfold yR;dsimp only;have G:(s.part (aA c p)).az.getD k.toNat (-1)=o:=by simp [List.getD,C]
 have H:(s.part (aA c p)).aw.getD k.toNat []=q:=by simp [List.getD,i]
 rw [G,H];by_cases h:o=(p:Int)
 ·rw [if_pos h];obtain ⟨E,y,M⟩:=g.jg _ f _ _ i;cases q with
  | nil=>
   dsimp only;refine g.ag ⟨pm.cur,pm.jP,pm.log,pm.lost,pm.kH,pm.full,by show ((List.set _ _ _).length:Int)=_;rw [List.length_set];exact pm.gK,pm.ib⟩ (λj l b=> ?_) (λj d b=>⟨d,b,List.Sublist.refl _,λu=> ?_,λ_ _ h=>h⟩) (λj d b=>⟨d,b,λz hz=>.inl hz⟩) (λ_ h=>h.elim) (λ_ h=>h) λ_ h=>h.elim
   ·have b:((s.part (aA c p)).az.set k.toNat (-1))[j]? =some l:=b;by_cases e:k.toNat=j
    ·subst e;rw [List.getElem?_set_self (by omega)] at b;cases b;exact .inl rfl
    ·rw [List.getElem?_set_ne e] at b;exact g.own _ f j l b
   ·have b:(s.part (aA c p)).aw[j]? =some d:=b;obtain ⟨F,A,w⟩:=g.jg _ f j d b;have e:¬k.toNat=j:=λe=>by subst e;rw [i] at b;cases b;exact u rfl
    show ∃o,((s.part (aA c p)).az.set k.toNat (-1))[j]? =some o/\o≠ -1/\o∉d;rw [List.getElem?_set_ne e];exact w u
  | cons a r=>
   dsimp only;obtain ⟨a1,a2,a3,a4,a5⟩:=y a (List.mem_cons_self ..);rcases a5 with a5 | ⟨a5,n,a6,a7,L⟩
   ·exact a5.elim
   have B:=List.nodup_cons.1 E;have I:Good c fl (s.dZ (aA c p) {s.part (aA c p) with az:=(s.part (aA c p)).az.set k.toNat a,aw:=(s.part (aA c p)).aw.set k.toNat r}) (λq=>q=a.toNat) No T:=by
    refine g.ag ⟨pm.cur,pm.jP,pm.log,pm.lost,pm.kH,pm.full,by show ((List.set _ _ _).length:Int)=_;rw [List.length_set];exact pm.gK,by show ((List.set _ _ _).length:Int)=_;rw [List.length_set];exact pm.ib⟩ (λj l b=> ?_) (λj d b=> ?_) (λj d b=> ?_) (λ_ h=>h.elim) (λ_ h=>h.elim) λd h=>.inr ⟨λh=>h,by rw [h];exact a5,by rw [h];exact a3⟩
    ·have b:((s.part (aA c p)).az.set k.toNat a)[j]? =some l:=b;by_cases e:k.toNat=j
     ·subst e;rw [List.getElem?_set_self (by omega)] at b;cases b;refine .inr ⟨a1,a2,a3,.inl ?_⟩;rw [cW];omega
     ·rw [List.getElem?_set_ne e] at b;exact g.own _ f j l b
    ·have b:((s.part (aA c p)).aw.set k.toNat r)[j]? =some d:=b;show ∃q,(s.part (aA c p)).aw[j]? =some q/\d.Sublist q/\(d≠ []->∃o,((s.part (aA c p)).az.set k.toNat a)[j]? =some o/\o≠ -1/\o∉d)/\_;by_cases e:k.toNat=j
     ·subst e;rw [List.getElem?_set_self (by omega)] at b;cases b;refine ⟨a::r,i,List.sublist_cons_self ..,λ_=>⟨a,List.getElem?_set_self (by omega),by omega,B.1⟩,λz hz h=> ?_⟩;have Q:=(y z (List.mem_cons_of_mem _ hz)).1;have:z=a:=by omega
      exact B.1 (this▸hz)
     ·rw [List.getElem?_set_ne e] at b;obtain ⟨F,A,w⟩:=g.jg _ f j d b;refine ⟨d,b,List.Sublist.refl _,λu=>by rw [List.getElem?_set_ne e];exact w u,λz hz h=> ?_⟩;obtain ⟨S,U,V,W,v⟩:=A z hz;rcases v with v | ⟨v,R,D,Y,z8⟩
      ·exact v
      ·rw [h,a6] at D;cases D;omega
    ·have b:(s.part (aA c p)).aw[j]? =some d:=b;show ∃K,((s.part (aA c p)).aw.set k.toNat r)[j]? =some K/\_;by_cases e:k.toNat=j
     ·subst e;rw [i] at b;cases b;refine ⟨r,List.getElem?_set_self (by omega),λz hz=> ?_⟩;rcases List.mem_cons.1 hz with rfl | hz
      ·exact .inr (.inl rfl)
      ·exact .inl hz
     ·exact ⟨d,by rw [List.getElem?_set_ne e];exact b,λz hz=>.inl hz⟩
   have J:=I.given a1 a2 rfl (λh=>h) (by show (s.proc a.toNat).state≠4;omega) ⟨n,a6⟩;exact J.congr λq=>⟨λh=>(h.2 h.1).elim,λh=>h.elim⟩
 grind
end
theorem zuk {c:Type} {f:c->Bool}:∀ {l:List c} {a:c},a∈l->f a=false->a∈gP f l
 | b::l,a,h,d=>by
  unfold gP;split
  ·grind
  ·rcases List.mem_cons.1 h with rfl | h
   ·simp
   ·exact List.mem_cons_of_mem _ (zuk h d)
theorem bL {a:Type} {f:a->Bool}:∀ {l:List a},(gP f l).Sublist l
 | []=>List.Sublist.refl _
 | b::l=>by
  unfold gP;split
  ·simp
  ·exact bL.cons_cons _
theorem Ni {d c:Type} [DecidableEq c] {g:d->c} {b:c}:∀ {l:List d},(l.map g).Nodup->∀a∈gP (λx=>decide (g x=b)) l,g a≠b
 | [],_,a,h=>by cases h
 | x::l,nd,a,h=>by
  rw [List.map_cons,List.nodup_cons] at nd;unfold gP at h;split at h
  ·grind
  ·rename_i e;rcases List.mem_cons.1 h with rfl | h
   ·grind
   ·exact Ni nd.2 a h
section
variable {c:aI} {fl:Nat->Nat->Bool} {s:MS} {T:Int} {p:Nat} {t:Int} {x:au} {z:Prop} {X Z:Nat->Prop}
theorem Good.dying (g:Good c fl s No No T) {st:Int} (F:st=5\/st=6) (hp:p<nQ c):Good c fl (s.bd p {s.proc p with state:=st,bN:=false}) No (λq=>q=p) T:=by
 have E:∀r,dv c r ((s.bd p {s.proc p with state:=st,bN:=false}).proc r)=dv c r (s.proc r):=λr=>IU rfl;have b:∀r,r≠p->(s.bd p {s.proc p with state:=st,bN:=false}).proc r=s.proc r:=λr e=>hO e;have B:(s.bd p {s.proc p with state:=st,bN:=false}).proc p={s.proc p with state:=st,bN:=false}:=fC;have C:∀r,((s.bd p {s.proc p with state:=st,bN:=false}).proc r).ak=(s.proc r).ak:=λr=>by grind
 refine ⟨g.tick,g.part,λr a=> ?_,λi m k o h=> ?_,λi m k q h=> ?_,λr a i l h=> ?_,λr a _ h=> ?_,λr a _ h=> ?_⟩
 ·by_cases e:r=p
  ·subst e;rw [B];have pm:=g.proc r a;exact ⟨by grind,pm.pc,pm.lx,pm.cur,pm.mD,pm.mE,.inl rfl,λ_=>⟨.inl rfl,rfl⟩,pm.dQ,λh=>by grind,λh=>by grind,λh=>by grind,λh=>by grind,pm.br⟩
  ·rw [b r e];have pm:=g.proc r a;exact ⟨pm.st,pm.pc,pm.lx,pm.cur,pm.mD,pm.mE,.inr (pm.nj.resolve_left (λh=>h)),λh=>⟨.inr ((pm.dead h).1.resolve_left (λh=>h)),(pm.dead h).2⟩,pm.dQ,pm.recv,pm.snd,pm.pz,pm.iP,pm.br⟩
 ·rcases g.own i m k o h with h | ⟨u,v,y,A⟩
  ·exact .inl h
  ·refine .inr ⟨u,v,y,?_⟩;by_cases e:o.toNat=p
   ·exact .inr e
   ·rw [b _ e];exact .inl (A.resolve_right (λh=>h))
 ·obtain ⟨d,f,j⟩:=g.jg i m k q h;refine ⟨d,λz D=> ?_,j⟩;obtain ⟨a1,a2,a3,a4,a5⟩:=f z D;refine ⟨a1,a2,a3,a4,?_⟩;grind
 ·rw [C] at h;obtain ⟨d,f,j⟩:=g.dQ r a i l h;refine ⟨d,λn=> ?_,λw n=> ?_⟩
  ·obtain ⟨a1,a2,a3⟩:=f n;refine ⟨a1,?_,a3⟩;by_cases e:r=p
   ·exact .inr e
   ·rw [b _ e];exact .inl (a2.resolve_right (λh=>h))
  ·obtain ⟨a1,a2,a3,a4,a5⟩:=j w n;refine ⟨a1,a2,a3,a4,?_⟩;grind
 ·by_cases e:r=p
  ·grind
  ·rw [b _ e] at h;exact g.rf r a (λh=>h) h
 ·by_cases e:r=p
  ·grind
  ·rw [b _ e] at h;obtain ⟨G,u,l,v,y⟩:=g.re r a (λh=>h) h;grind
theorem Kk {p:Int} {x:au} {i:Nat} {l:bm} (h:(qQ p x).ak[i]? =some l):∃a,x.ak[i]? =some a/\l.values=a.values/\l.taken=a.taken/\l.dropped=a.dropped/\l.waiters=gP (λw=>decide (w.proc=p)) a.waiters:=by have h:(x.ak.map _)[i]? =some l:=h;grind
theorem cm.leave (pm:cm c fl t p z x) {q:Int}:cm c fl t p z (qQ q x) where
 st:=pm.st
 pc:=pm.pc
 lx:=by show (List.map _ _).length=_;rw [List.length_map];exact pm.lx
 cur:=by show 0<=x.aj/\x.aj<((List.map _ _).length:Int);rw [List.length_map];exact pm.cur
 mD:=pm.mD
 mE:=pm.mE
 nj:=pm.nj
 dead:=pm.dead
 dQ:=λi l h=>by obtain ⟨a,e,k,m,n,_⟩:=Kk h;have:=pm.dQ i a e;unfold tc at this ⊢;grind
 recv:=λh=>by obtain ⟨b,d,f⟩:=pm.recv h;refine ⟨b,λl j=> ?_,f⟩;obtain ⟨a,g,rfl⟩:=List.mem_map.1 j;exact d a g
 snd:=pm.snd
 pz:=pm.pz
 iP:=pm.iP
 br:=pm.br
theorem Good.leave (g:Good c fl s X (λq=>q=p) T) (b4:(s.proc p).state≠2/\(s.proc p).state≠3) {L:List Nat} (O:∀q,q∈L↔q<nQ c/\aA c q=aA c p):Good c fl (lR p s L) X (λq=>q=p) T/\∀r,r<nQ c->∀l∈((lR p s L).proc r).ak,∀w∈l.waiters,w.proc≠(p:Int):=by
 have J:∀r,(lR p s L).proc r=qQ p (s.proc r)\/(lR p s L).proc r=s.proc r:=λr=>by
  by_cases h:r∈L
  ·exact .inl (if_pos h)
  ·exact .inr (if_neg h)
 have E:∀r,((lR p s L).proc r).state=(s.proc r).state/\((lR p s L).proc r).pc=(s.proc r).pc/\((lR p s L).proc r).br=(s.proc r).br:=λr=>by rcases J r with h | h<;>rw [h]<;>exact ⟨rfl,rfl,rfl⟩
 have a9:∀r,dv c r ((lR p s L).proc r)=dv c r (s.proc r):=λr=>by unfold dv;grind
 have b0:∀r,jF ((lR p s L).proc r)=jF (s.proc r):=λr=>by unfold jF;rw [(E r).1]
 have I:∀(r i:Nat) (l:bm),((lR p s L).proc r).ak[i]? =some l->∃b:bm,(s.proc r).ak[i]? =some b/\l.values=b.values/\l.waiters.Sublist b.waiters/\(r∈L->∀w∈gP (λw=>decide (w.proc=(p:Int))) b.waiters,w∈l.waiters)/\(r∈L->l.waiters=gP (λw=>decide (w.proc=(p:Int))) b.waiters)/\(r∉L->l=b):=λr i l h=>by
  by_cases a:r∈L
  ·have e:(lR p s L).proc r=qQ p (s.proc r):=if_pos a;rw [e] at h;obtain ⟨b,n,C,_,_,u⟩:=Kk h;exact ⟨b,n,C,by rw [u];exact bL,λ_ w d=>by rw [u];exact d,λ_=>u,λU=>absurd a U⟩
  ·have e:(lR p s L).proc r=s.proc r:=if_neg a;grind
 refine ⟨⟨g.tick,g.part,λr a=> ?_,λi B k o h=> ?_,λi B k q h=> ?_,λr a i l h=> ?_,λr a F h=> ?_,λr a F h=> ?_⟩,λr a l S w d H=> ?_⟩
 ·rcases J r with h | h
  ·rw [h];exact (g.proc r a).leave
  ·rw [h];exact g.proc r a
 ·rcases g.own i B k o h with h | ⟨v,N,G,D⟩
  ·exact .inl h
  grind
 ·obtain ⟨j,y,m⟩:=g.jg i B k q h;refine ⟨j,λz V=> ?_,m⟩;obtain ⟨a1,a2,a3,a4,a5⟩:=y z V;exact ⟨a1,a2,a3,a4,by grind⟩
 ·obtain ⟨b,n,C,A,_⟩:=I r i l h;obtain ⟨j,y,m⟩:=g.dQ r a i b n;refine ⟨j.sublist (A.map _),λd=> ?_,λw d=> ?_⟩
  ·grind
  ·obtain ⟨a1,a2,a3,a4,a5⟩:=m w (A.subset d);refine ⟨a1,a2,a3,a4,?_⟩;grind
 ·rw [(E r).1] at h;exact g.rf r a F h
 ·rw [(E r).1] at h;obtain ⟨f,v,l,N,w,G,D⟩:=g.re r a F h;have b5:r≠p:=λe=>by grind
  by_cases K:f∈L
  ·have e:(lR p s L).proc f=qQ p (s.proc f):=if_pos K;refine ⟨f,v,{l with waiters:=gP (λw=>decide (w.proc=(p:Int))) l.waiters},?_,w,?_,D⟩
   ·rw [e];show (List.map _ _)[_]? =_;grind
   ·exact zuk G (decide_eq_false (by rw [D];omega))
  ·have e:(lR p s L).proc f=s.proc f:=if_neg K;grind
 ·obtain ⟨i,B,a8⟩:=List.getElem_of_mem S;have Q:((lR p s L).proc r).ak[i]? =some l:=by grind
  obtain ⟨b,n,C,A,W,u,Y⟩:=I r i l Q;obtain ⟨j,y,m⟩:=g.dQ r a i b n;have M:=A.subset d;have P:=m w M;have hb:=y (List.ne_nil_of_mem M);have R:r∈L:=(O r).2 ⟨a,by
   have v:=P.2.2.1;rw [H,Int.toNat_natCast] at v;rw [v,hb.1]⟩
  rw [u R] at d;exact Ni j w d H
end
theorem El {p:Int}:∀ {os:List Int} {qs:List (List Int)},os.length=qs.length->
  (iR p os qs).1.length=os.length/\(iR p os qs).2.1.length=qs.length/\
  (∀(k:Nat) o q,os[k]? =some o->qs[k]? =some q->(o≠p/\(iR p os qs).1[k]? =some o/\(iR p os qs).2.1[k]? =some q)\/(o=p/\q=[]/\(iR p os qs).1[k]? =some (-1)/\(iR p os qs).2.1[k]? =some [])\/
   (o=p/\∃a r,q=a::r/\(iR p os qs).1[k]? =some a/\(iR p os qs).2.1[k]? =some r/\a∈(iR p os qs).2.2))/\
  (∀a∈(iR p os qs).2.2,a= -1\/∃(k:Nat) (r:List Int),os[k]? =some p/\qs[k]? =some (a::r))/\
  ((∀(j k:Nat) (z:Int) (a b:List Int),qs[j]? =some a->qs[k]? =some b->z∈a->z∈b->j=k)->(iR p os qs).2.2.Pairwise λa b=>a≠b\/a= -1)
 | [],[],_=>by simp [iR]
 | [],_::_,h=>by simp at h
 | _::_,[],h=>by simp at h
 | o::os,q::qs,h=>by
  obtain ⟨t,u,v,B,w⟩:=El (p:=p) (os:=os) (qs:=qs) (by simpa using h);have y:(∀(j k:Nat) (z:Int) (a b:List Int),(q::qs)[j]? =some a->(q::qs)[k]? =some b->z∈a->z∈b->j=k)->∀(j k:Nat) (z:Int) (a b:List Int),qs[j]? =some a->qs[k]? =some b->z∈a->z∈b->j=k:=λg j k z a b ha hb E F=>by have:=g (j+1) (k+1) z a b (by simpa using ha) (by simpa using hb) E F;omega
  have C:∀a∈(iR p os qs).2.2,a= -1\/∃(k:Nat) (r:List Int),(o::os)[k]? =some p/\(q::qs)[k]? =some (a::r):=λa ha=>(B a ha).imp id λ⟨k,r,A,s⟩=>⟨k+1,r,by simpa using A,by simpa using s⟩;unfold iR;dsimp only;by_cases e:o=p
  ·rw [if_pos e];cases q with
   | nil=>
    dsimp only;refine ⟨by simp [t],by simp [u],λk m n i l=> ?_,λa ha=> ?_,λg=> ?_⟩
    ·cases k with
     | zero=>grind
     | succ k=>
      rcases v k m n (by simpa using i) (by simpa using l) with ⟨a,b,c⟩ | ⟨a,b,c,d⟩ | ⟨a,x,r,b,c,d,f⟩
      ·exact .inl ⟨a,by simpa using b,by simpa using c⟩
      ·exact .inr (.inl ⟨a,b,by simpa using c,by simpa using d⟩)
      ·exact .inr (.inr ⟨a,x,r,b,by simpa using c,by simpa using d,List.mem_cons_of_mem _ f⟩)
    ·grind
    ·exact List.pairwise_cons.2 ⟨λb _=>.inr rfl,w (y g)⟩
   | cons x r=>
    dsimp only;refine ⟨by simp [t],by simp [u],λk m n i l=> ?_,λa ha=> ?_,λg=> ?_⟩
    ·cases k with
     | zero=>grind
     | succ k=>
      rcases v k m n (by simpa using i) (by simpa using l) with ⟨a,b,c⟩ | ⟨a,b,c,d⟩ | ⟨a,x,r,b,c,d,f⟩
      ·exact .inl ⟨a,by simpa using b,by simpa using c⟩
      ·exact .inr (.inl ⟨a,b,by simpa using c,by simpa using d⟩)
      ·exact .inr (.inr ⟨a,x,r,b,by simpa using c,by simpa using d,List.mem_cons_of_mem _ f⟩)
    ·rcases List.mem_cons.1 ha with rfl | ha
     ·exact .inr ⟨0,r,by simp [e],by simp⟩
     ·exact C a ha
    ·refine List.pairwise_cons.2 ⟨λb hb=> ?_,w (y g)⟩;rcases B b hb with rfl | ⟨k,G,A,s⟩
     ·omega
     ·refine .inl λD=> ?_;subst D;have:=g 0 (k+1) x (x::r) (x::G) (by simp) (by simpa using s) (List.mem_cons_self ..) (List.mem_cons_self ..);omega
  ·rw [if_neg e];refine ⟨by simp [t],by simp [u],λk m n i l=> ?_,λa ha=>C a ha,λg=>w (y g)⟩;cases k with
   | zero=>grind
   | succ k=>
    rcases v k m n (by simpa using i) (by simpa using l) with ⟨a,b,c⟩ | ⟨a,b,c,d⟩ | ⟨a,x,r,b,c,d,f⟩
    ·exact .inl ⟨a,by simpa using b,by simpa using c⟩
    ·exact .inr (.inl ⟨a,b,by simpa using c,by simpa using d⟩)
    grind
section
variable {c:aI} {fl:Nat->Nat->Bool} {s:MS} {T:Int} {p:Nat} {X Z:Nat->Prop}
theorem Good.ra :∀ {l:List Int} {s:MS},Good c fl s (λq=>(q:Int)∈l) Z T->(l.Pairwise λa b=>a≠b\/a= -1)->(∀a∈l,a= -1\/(0<=a/\a.toNat<nQ c/\¬Z a.toNat/\(s.proc a.toNat).state≠4/\∃n,dv c a.toNat (s.proc a.toNat)=some n))->Good c fl (l.foldl jj s) No Z T
 | [],s,g,_,_=>g.congr λq=>⟨λh=>(by cases h),λh=>h.elim⟩
 | a::l,s,g,hp,d=>by
  obtain ⟨m,f⟩:=List.pairwise_cons.1 hp;rw [List.foldl_cons];rcases d a (List.mem_cons_self ..) with w | ⟨a1,a2,a3,a4,a5⟩
  ·have e:jj s a=s:=by unfold jj;rw [if_neg (by omega)]
   rw [e];refine Good.ra (g.congr λq=>⟨λh=> ?_,λh=>List.mem_cons_of_mem _ h⟩) f λb hb=>d b (List.mem_cons_of_mem _ hb);grind
  ·have j:a∉l:=λh=>(m a h).elim (λh=>h rfl) (λh=>by omega);have i:=g.given a1 a2 (by grind) a3 a4 a5;refine Good.ra (i.congr λq=>⟨λh=> ?_,λh=>⟨List.mem_cons_of_mem _ h,λe=> ?_⟩⟩) f λb hb=> ?_
   ·grind
   ·grind
   ·rcases d b (List.mem_cons_of_mem _ hb) with h | ⟨o,r,t,u,v⟩
    ·exact .inl h
    ·have k:b.toNat≠a.toNat:=λe=>j (by rw [show a=b by omega];exact hb);have e:(jj s a).proc b.toNat=s.proc b.toNat:=by unfold jj;rw [if_pos a1];exact hO k
     grind
theorem Good.zw {v:Int}:∀ {l:List mr} {s:MS},Good c fl s (λq=>(q:Int)∈l.map (·.proc)) No T->(l.map (·.proc)).Nodup->(∀w∈l,0<=w.proc/\w.proc.toNat<nQ c/\(s.proc w.proc.toNat).state≠4/\∃n,dv c w.proc.toNat (s.proc w.proc.toNat)=some n)->Good c fl (l.foldl (λs w=>cf c s w.proc.toNat v) s) No No T
 | [],s,g,_,_=>g.congr λq=>⟨λh=>(by cases h),λh=>h.elim⟩
 | a::l,s,g,hp,d=>by
  rw [List.map_cons,List.nodup_cons] at hp;rw [List.foldl_cons];obtain ⟨a1,a2,a4,a5⟩:=d a (List.mem_cons_self ..);have r:((a.proc.toNat:Nat):Int)=a.proc:=by omega
  have f:=g.told (p:=a.proc.toNat) a2 ⟨λh=>h,.inl (by grind)⟩ a4 a5 v;refine Good.zw (f.congr λq=>⟨λh=> ?_,λh=>⟨List.mem_cons_of_mem _ h,λe=> ?_⟩⟩) hp.2 λb hb=> ?_
  ·grind
  ·grind
  ·obtain ⟨j,k,m,o⟩:=d b (List.mem_cons_of_mem _ hb);have i:b.proc.toNat≠a.proc.toNat:=λe=>hp.1 (List.mem_map.2 ⟨b,hb,by omega⟩);have e:(cf c s a.proc.toNat v).proc b.proc.toNat=s.proc b.proc.toNat:=hO i;grind
theorem Good.uN (g:Good c fl s No (λq=>q=p) T) (I:aA c p<nP c) (c0:(s.proc p).state≠3):Good c fl (((yp p (s.part (aA c p))).2).foldl jj (s.dZ (aA c p) (yp p (s.part (aA c p))).1)) No (λq=>q=p) T/\
  (∀i,i<nP c->∀(k:Nat),((s.dZ (aA c p) (yp p (s.part (aA c p))).1).part i).az[k]?≠some (p:Int))/\∀i,i<nP c->∀(k:Nat) q,((s.dZ (aA c p) (yp p (s.part (aA c p))).1).part i).aw[k]? =some q->(p:Int)∉q:=by
 have pm:=g.part _ I;have b5:(s.part (aA c p)).az.length=((s.part (aA c p)).aw.map (gP λz=>decide (z=(p:Int)))).length:=by have:=pm.gK;have:=pm.ib;grind
 obtain ⟨L1,L2,H,HG,U⟩:=El (p:=(p:Int)) b5;have B:∀ {z:Int} {q:List Int} {k:Nat},(s.part (aA c p)).aw[k]? =some q->z∈q->z≠(p:Int)->0<=z/\z.toNat<nQ c/\aA c z.toNat=aA c p/\z.toNat≠p/\(s.proc z.toNat).state=3/\∃n,dv c z.toNat (s.proc z.toNat)=some n/\n.op=29/\n.gW=(k:Int):=λ{z q k} K v J=>by obtain ⟨a1,a2,a3,a4,a5⟩:=(g.jg _ I k q K).2.1 z v;grind
 have b3:∀ {k:Nat} {q:List Int},((s.part (aA c p)).aw.map (gP λz=>decide (z=(p:Int))))[k]? =some q->∃l,(s.part (aA c p)).aw[k]? =some l/\q=gP (λz=>decide (z=(p:Int))) l:=λ{k q} h=>by grind
 have D:∀ {k:Nat} {l:List Int} {z:Int},(s.part (aA c p)).aw[k]? =some l->z∈gP (λz=>decide (z=(p:Int))) l->z≠(p:Int):=λ{k l z} K v=>by have nd:=(g.jg _ I k l K).1;exact Ni (g:=λz=>z) (by simpa using nd) z v
 have b2:∀(j k:Nat) (z:Int) (a b:List Int),((s.part (aA c p)).aw.map (gP λz=>decide (z=(p:Int))))[j]? =some a->((s.part (aA c p)).aw.map (gP λz=>decide (z=(p:Int))))[k]? =some b->z∈a->z∈b->j=k:=by intro j k z a b C hb b7 c3;obtain ⟨a0,a9,rfl⟩:=b3 C;obtain ⟨b0,b8,rfl⟩:=b3 hb;have J:=D a9 b7;obtain ⟨_,_,_,_,_,n1,m,_,O⟩:=B a9 (bL.subset b7) J;obtain ⟨_,_,_,_,_,n2,f1,_,f3⟩:=B b8 (bL.subset c3) J;grind
 have W:∀a∈(iR (p:Int) (s.part (aA c p)).az ((s.part (aA c p)).aw.map (gP λz=>decide (z=(p:Int))))).2.2,a= -1\/∃(k:Nat) (l r:List Int),(s.part (aA c p)).az[k]? =some (p:Int)/\(s.part (aA c p)).aw[k]? =some l/\gP (λz=>decide (z=(p:Int))) l=a::r:=λa C=>by grind
 have U:=U b2;have b4:∀ {k:Nat} {l:List Int},(s.part (aA c p)).aw[k]? =some l->∃o,(s.part (aA c p)).az[k]? =some o:=λ{k l} h=>by have h1:=(List.getElem?_eq_some_iff.1 h).1;rw [List.length_map] at b5;exact ⟨_,List.getElem?_eq_getElem (by omega)⟩
 have G:∀ {k:Nat} {l:List Int},(s.part (aA c p)).aw[k]? =some l->((s.part (aA c p)).aw.map (gP λz=>decide (z=(p:Int))))[k]? =some (gP (λz=>decide (z=(p:Int))) l):=λ{k l} h=>by grind
 have eY:yp p (s.part (aA c p))=({s.part (aA c p) with az:=(iR (p:Int) (s.part (aA c p)).az ((s.part (aA c p)).aw.map (gP λz=>decide (z=(p:Int))))).1,aw:=(iR (p:Int) (s.part (aA c p)).az ((s.part (aA c p)).aw.map (gP λz=>decide (z=(p:Int))))).2.1},(iR (p:Int) (s.part (aA c p)).az ((s.part (aA c p)).aw.map (gP λz=>decide (z=(p:Int))))).2.2):=rfl;rw [eY];dsimp only;generalize iR (p:Int) (s.part (aA c p)).az ((s.part (aA c p)).aw.map (gP λz=>decide (z=(p:Int))))=R at*;have b1:∀(k:Nat) u,R.2.1[k]? =some u->∃l o,(s.part (aA c p)).aw[k]? =some l/\(s.part (aA c p)).az[k]? =some o/\((o≠(p:Int)/\R.1[k]? =some o/\u=gP (λz=>decide (z=(p:Int))) l)\/(o=(p:Int)/\gP (λz=>decide (z=(p:Int))) l=[]/\R.1[k]? =some (-1)/\u=[])\/(o=(p:Int)/\∃a,gP (λz=>decide (z=(p:Int))) l=a::u/\R.1[k]? =some a/\a∈R.2.2)):=λk u h=>by
  have h1:=(List.getElem?_eq_some_iff.1 h).1;rw [L2,List.length_map] at h1;have m:=List.getElem?_eq_getElem h1;obtain ⟨o,t⟩:=b4 m;refine ⟨_,o,m,t,?_⟩;rcases H k o _ t (G m) with ⟨a,b,d⟩ | ⟨a,b,d,f⟩ | ⟨a,x,r,b,d,f,y⟩
  ·rw [h] at d;exact .inl ⟨a,b,Option.some.inj d⟩
  ·rw [h] at f;exact .inr (.inl ⟨a,b,d,Option.some.inj f⟩)
  grind
 have b6:∀(k:Nat) u,R.2.1[k]? =some u->∃l,(s.part (aA c p)).aw[k]? =some l/\u.Sublist (gP (λz=>decide (z=(p:Int))) l):=λk u h=>by
  obtain ⟨l,o,m,t,F⟩:=b1 k u h;refine ⟨l,m,?_⟩;rcases F with ⟨_,_,e⟩ | ⟨_,_,_,e⟩ | ⟨_,a,e,_⟩
  ·rw [e];exact List.Sublist.refl _
  ·rw [e];exact List.nil_sublist _
  grind
 have b9:∀(k:Nat) A,R.1[k]? =some A->A= -1\/(A≠(p:Int)/\((s.part (aA c p)).az[k]? =some A\/∃l,(s.part (aA c p)).aw[k]? =some l/\A∈l)):=λk A h=>by
  have h1:=(List.getElem?_eq_some_iff.1 h).1;rw [L1] at h1;have c2:k<(s.part (aA c p)).aw.length:=by grind
  have m:=List.getElem?_eq_getElem c2;have t:=List.getElem?_eq_getElem h1;rcases H k _ _ t (G m) with ⟨a,b,d⟩ | ⟨a,b,d,f⟩ | ⟨a,x,r,b,d,f,y⟩
  ·grind
  ·grind
  ·rw [h] at d;cases d;have hx:A∈gP (λz=>decide (z=(p:Int))) (s.part (aA c p)).aw[k]:=by rw [b];exact List.mem_cons_self ..
   exact .inr ⟨D m hx,.inr ⟨_,m,bL.subset hx⟩⟩
 have g3:Good c fl (s.dZ (aA c p) {s.part (aA c p) with az:=R.1,aw:=R.2.1}) (λq=>(q:Int)∈R.2.2) (λq=>q=p) T:=by
  refine g.ag ⟨pm.cur,pm.jP,pm.log,pm.lost,pm.kH,pm.full,by show (R.1.length:Int)=_;rw [L1];exact pm.gK,by show (R.2.1.length:Int)=_;rw [L2,List.length_map];exact pm.ib⟩ (λk A h=> ?_) (λk u h=> ?_) (λk l h=> ?_) (λq K=>by rw [K];exact c0) (λ_ h=>h.elim) λq h=>.inr ?_
  ·rcases b9 k A h with h1 | ⟨h1,V | ⟨l,V,F⟩⟩
   ·exact .inl h1
   ·exact g.own _ I k A V
   ·obtain ⟨a1,a2,a3,a4,a5,_⟩:=B V F h1;refine .inr ⟨a1,a2,a3,.inl ?_⟩;rw [cW];omega
  ·have h:R.2.1[k]? =some u:=h;obtain ⟨l,o,m,t,F⟩:=b1 k u h;obtain ⟨q1,f1,f2⟩:=b6 k u h;rw [m] at f1;cases f1;obtain ⟨d1,d2,d3⟩:=g.jg _ I k l m;refine ⟨l,m,f2.trans bL,λJ=> ?_,λz v P=> ?_⟩
   ·show ∃o,R.1[k]? =some o/\o≠ -1/\o∉u;rcases F with ⟨L,E,Q⟩ | ⟨L,E,Q,x4⟩ | ⟨L,a,E,Q,x4⟩
    ·have c1:l≠ []:=λh=>J (List.eq_nil_of_sublist_nil (h▸f2.trans bL));obtain ⟨o1,M,N,S⟩:=d3 c1;rw [t] at M;cases M;exact ⟨o,E,N,λw=>S ((f2.trans bL).subset w)⟩
    ·grind
    ·have C:a∈gP (λz=>decide (z=(p:Int))) l:=by rw [E];exact List.mem_cons_self ..
     have:=(B m (bL.subset C) (D m C)).1;refine ⟨a,Q,by omega,λw=> ?_⟩;have nd:=d1.sublist (bL (f:=λz=>decide (z=(p:Int))));grind
   ·have a8:=f2.subset v;have c4:=D m a8;have c6:=B m (bL.subset a8) c4;have ez:((z.toNat:Nat):Int)=z:=by omega
    have P:((z.toNat:Nat):Int)∈R.2.2:=P;rw [ez] at P;rcases W z P with h5 | ⟨k2,q2,r2,M,N,S⟩
    ·omega
    ·have hk:=b2 k k2 z _ _ (G m) (G N) a8 (by grind);subst hk;rw [m] at N;cases N;rw [t] at M;cases M;rcases F with ⟨L,_⟩ | ⟨_,E,_⟩ | ⟨L,a,E,Q,x4⟩
     ·exact L rfl
     ·grind
     ·rw [E] at S;cases S;have nd:=d1.sublist (bL (f:=λz=>decide (z=(p:Int))));grind
  ·obtain ⟨o,t⟩:=b4 h;have key:∀z∈l,z=(p:Int)\/z∈gP (λz=>decide (z=(p:Int))) l:=λz v=>by
    by_cases e:z=(p:Int)
    ·exact .inl e
    ·exact .inr (zuk v (decide_eq_false e))
   show ∃u,R.2.1[k]? =some u/\_;rcases H k o _ t (G h) with ⟨a,b,d⟩ | ⟨a,b,d,f⟩ | ⟨a,x,r,b,d,f,y⟩
   ·refine ⟨_,d,λz v=> ?_⟩;rcases key z v with h1 | h1
    ·exact .inr (.inr (by omega))
    ·exact .inl h1
   ·refine ⟨_,f,λz v=> ?_⟩;grind
   ·refine ⟨_,f,λz v=> ?_⟩;rcases key z v with h1 | h1
    ·exact .inr (.inr (by omega))
    ·have c5:=(B h (bL.subset h1) (D h h1)).1;rw [b] at h1;rcases List.mem_cons.1 h1 with rfl | h1
     ·refine .inr (.inl ?_);show ((z.toNat:Nat):Int)∈R.2.2;rw [show ((z.toNat:Nat):Int)=z by omega];exact y
     ·exact .inl h1
  ·have h:(q:Int)∈R.2.2:=h;rcases W _ h with h1 | ⟨k,l,r,m,t,O⟩
   ·omega
   ·have w:(q:Int)∈gP (λz=>decide (z=(p:Int))) l:=by rw [O];exact List.mem_cons_self ..
    have ho:=B t (bL.subset w) (D t w);rw [Int.toNat_natCast] at ho;omega
 refine ⟨Good.ra g3 U λa C=> ?_,λi Y k h=> ?_,λi Y k q h w=> ?_⟩
 ·rcases W a C with h | ⟨k,l,r,m,t,O⟩
  ·exact .inl h
  ·have w:a∈gP (λz=>decide (z=(p:Int))) l:=by rw [O];exact List.mem_cons_self ..
   obtain ⟨a1,a2,a3,a4,a5,n,a6,_⟩:=B t (bL.subset w) (D t w);exact .inr ⟨a1,a2,a4,by show (s.proc a.toNat).state≠4;omega,n,a6⟩
 ·by_cases e:i=aA c p
  ·subst e;rw [sV] at h;grind
  ·rw [tO e] at h;rcases g.own i Y k _ h with h1 | ⟨_,_,h1,_⟩
   ·omega
   grind
 ·by_cases e:i=aA c p
  ·subst e;rw [sV] at h;obtain ⟨l,m,t⟩:=b6 k q h;grind
  ·rw [tO e] at h;have:=((g.jg i Y k q h).2.1 _ w).2.2.1;grind
end
section
variable {c:aI} {fl:Nat->Nat->Bool} {s:MS} {T:Int} {p:Nat} {X Z:Nat->Prop}
theorem Kl :∀ {l:List Int} {s:MS},(∀a∈l,a≠(p:Int))->((l.foldl jj s).proc p)=s.proc p
 | [],_,_=>rfl
 | a::l,s,h=>by
  rw [List.foldl_cons,Kl λb hb=>h b (List.mem_cons_of_mem _ hb)];unfold jj;split
  ·have:=h a (List.mem_cons_self ..);exact hO (by omega)
  ·rfl
theorem Km {q:Nat}:∀ {l:List Int} {s:MS},((l.foldl jj s).proc q).ak=(s.proc q).ak/\(l.foldl jj s).part=s.part
 | [],_=>⟨rfl,rfl⟩
 | a::l,s=>by
  have h:=Km (q:=q) (l:=l) (s:=jj s a);have b:((jj s a).proc q).ak=(s.proc q).ak/\(jj s a).part=s.part:=by
   unfold jj;split
   ·unfold oH;refine ⟨?_,rfl⟩;by_cases e:q=a.toNat
    ·subst e;rw [fC];rfl
    ·rw [hO e]
   ·exact ⟨rfl,rfl⟩
  grind
theorem Good.empty (g:Good c fl s No (λq=>q=p) T) (hp:p<nQ c) (b0:(s.proc p).state=5\/(s.proc p).state=6) (a8:∀i,i<nP c->∀(k:Nat),(s.part i).az[k]?≠some (p:Int)) (R:∀i,i<nP c->∀(k:Nat) q,(s.part i).aw[k]? =some q->(p:Int)∉q)
  (S:∀r,r<nQ c->∀l∈(s.proc r).ak,∀w∈l.waiters,w.proc≠(p:Int)):Good c fl (iE (gJ s p) p) (λq=>(q:Int)∈(((s.proc p).ak.flatMap (·.waiters)).map (·.proc))) No T:=by
 have y:(iE (gJ s p) p).proc p={s.proc p with timer:=0,cJ:=0,ak:=(s.proc p).ak.map sr}:=by unfold iE gJ;rw [fC,fC]
 have m:∀r,r≠p->(iE (gJ s p) p).proc r=s.proc r:=λr e=>by unfold iE gJ;rw [hO e,hO e]
 have t:(iE (gJ s p) p).part=s.part:=rfl;have I:(iE (gJ s p) p).tick=s.tick:=rfl;have H:∀q:Nat,(q:Int)∈(((s.proc p).ak.flatMap (·.waiters)).map (·.proc))->q≠p/\(s.proc q).state=2/\∃n,dv c q (s.proc q)=some n/\n.op=24/\fi (s.proc q).br n.b=(p:Int):=by
  intro q h;obtain ⟨w,f,e⟩:=List.mem_map.1 h;obtain ⟨l,Q,U⟩:=List.mem_flatMap.1 f;obtain ⟨i,a,O⟩:=List.getElem_of_mem Q;have P:(s.proc p).ak[i]? =some l:=by rw [List.getElem?_eq_getElem a,O]
  obtain ⟨a1,a2,a3,a4,a5⟩:=(g.dQ p hp i l P).2.2 w U;grind
 generalize iE (gJ s p) p=s' at*;refine ⟨by rw [I];exact g.tick,λi a=>by rw [t];exact g.part i a,λr d=> ?_,λi a k o h=> ?_,λi a k q h=> ?_,λr d i l h=> ?_,λr d j h=> ?_,λr d j h=> ?_⟩
 ·rw [I];have pm:=g.proc r d;have ht:=g.tick;by_cases e:r=p
  ·subst e;rw [y];refine ⟨pm.st,pm.pc,by show (List.map _ _).length=_;rw [List.length_map];exact pm.lx,by show 0<=(s.proc r).aj/\(s.proc r).aj<((List.map _ _).length:Int);rw [List.length_map];exact pm.cur,by show (0:Int)<=0/\(0:Int)<=_;omega,by show (0:Int)<=0/\(0:Int)<=_;omega,.inr ⟨λh=>absurd h (Int.lt_irrefl 0),λh=> ?_⟩,λh=>⟨.inr rfl,(pm.dead h).2⟩,λi l h=> ?_,λh=> ?_,λh=> ?_,λh=> ?_,λh=> ?_,pm.br⟩
   ·have h:(s.proc r).state=4:=h;omega
   ·have h:((s.proc r).ak.map sr)[i]? =some l:=h;rw [List.getElem?_map] at h;cases e:(s.proc r).ak[i]? with
    | none=>rw [e] at h;cases h
    | some K=>rw [e] at h;cases h;exact pm.dQ i K e
   ·have h:(s.proc r).state=1:=h;omega
   ·have h:(s.proc r).state=2:=h;omega
   ·have h:(s.proc r).state=3:=h;omega
   grind
  ·rw [m r e];exact ⟨pm.st,pm.pc,pm.lx,pm.cur,pm.mD,pm.mE,.inr (pm.nj.resolve_left e),λh=>⟨.inr ((pm.dead h).1.resolve_left e),(pm.dead h).2⟩,pm.dQ,pm.recv,pm.snd,pm.pz,pm.iP,pm.br⟩
 ·rw [t] at h;rcases g.own i a k o h with x | ⟨x,E,F,G⟩
  ·exact .inl x
  grind
 ·rw [t] at h ⊢;obtain ⟨u,C,v⟩:=g.jg i a k q h;refine ⟨u,λz J=> ?_,v⟩;obtain ⟨a1,a2,a3,a4,a5⟩:=C z J;have V:z.toNat≠p:=λe=>R i a k q h (by rw [show (p:Int)=z by clear a5;omega];exact J);have a5:=a5.resolve_left V;refine ⟨a1,a2,a3,λj=> ?_,.inr ?_⟩
  ·have:=(H _ j).2.1;have h9:=a5.1;clear a5;omega
  grind
 ·by_cases e:r=p
  ·subst e;rw [y] at h;have h:((s.proc r).ak.map sr)[i]? =some l:=h;rw [List.getElem?_map] at h;cases e:(s.proc r).ak[i]? with
   | none=>grind
   | some K=>rw [e] at h;cases h;exact ⟨List.Pairwise.nil,λh=>absurd rfl h,λw f=>by cases f⟩
  ·rw [m r e] at h;obtain ⟨u,C,v⟩:=g.dQ r d i l h;refine ⟨u,λf=> ?_,λw f=> ?_⟩
   ·grind
   ·obtain ⟨a1,a2,a3,a4,a5⟩:=v w f;have B:=S r d l (List.mem_of_getElem? h) w f;have B:w.proc.toNat≠p:=λe=>B (by clear a5;omega);obtain ⟨Y,n,L,c3,M,c5⟩:=a5.resolve_left B;refine ⟨a1,a2,a3,λj=> ?_,.inr ?_⟩
    ·obtain ⟨_,_,n',D,_,N⟩:=H _ j;rw [L] at D;cases D;rw [M] at N;clear a5;omega
    grind
 ·have A:r≠p:=λe=>by grind
  rw [m r A] at h;rw [t];exact g.rf r d (λh=>h) h
 ·have A:r≠p:=λe=>by subst e;rw [y] at h;have h:(s.proc r).state=2:=h;omega
  rw [m r A] at h;obtain ⟨W,x,l,E,w,F,G⟩:=g.re r d (λh=>h) h;have a9:W≠p:=λe=>by subst e;refine j ?_;show (r:Int)∈_;exact List.mem_map.2 ⟨w,List.mem_flatMap.2 ⟨l,List.mem_of_getElem? E,F⟩,G⟩
  grind
theorem Good.ends (m:bT c) (g:Good c fl s No No T) {st:Int} (Y:st=5\/st=6) (hp:p<nQ c):Good c fl (nL c s p st) No No T:=by
 have b:=m.eR (p:=p);rw [yU];have J:=g.dying (st:=st) Y hp;have B:((fH s p st).proc p).state=st:=by unfold fH;rw [fC]
 obtain ⟨u,C⟩:=Good.leave (p:=p) (s:=fH s p st) (L:=dS c (aA c p)) J ⟨by rw [B];omega,by rw [B];omega⟩ λq=>fL;have u:Good c fl (dL c s p st) No (λq=>q=p) T:=u;have C:∀r,r<nQ c->∀l∈((dL c s p st).proc r).ak,∀w∈l.waiters,w.proc≠(p:Int):=C;have o:((dL c s p st).proc p).state=st:=by show (if p∈dS c (aA c p) then qQ p ((fH s p st).proc p) else (fH s p st).proc p).state=st;split<;>exact B
 obtain ⟨x,V,W⟩:=u.uN b (by rw [o];omega);have x:Good c fl (iD c (dL c s p st) p) No (λq=>q=p) T:=x;have F:=λq=>Km (q:=q) (l:=(yp p ((dL c s p st).part (aA c p))).2) (s:=pw c (dL c s p st) p);have G:(iD c (dL c s p st) p).part=(pw c (dL c s p st) p).part:=(F 0).2;have S:∀q,((iD c (dL c s p st) p).proc q).ak=((dL c s p st).proc q).ak:=λq=>(F q).1;have b0:(iD c (dL c s p st) p).proc p=(dL c s p st).proc p:=by
  refine Kl (s:=pw c (dL c s p st) p) λa O=> ?_;have U:((dL c s p st).part (aA c p)).az.length=(((dL c s p st).part (aA c p)).aw.map (gP λz=>decide (z=(p:Int)))).length:=by have:=(u.part _ b).gK;have:=(u.part _ b).ib;grind
  rcases (El (p:=(p:Int)) U).2.2.2.1 a O with h | ⟨k,r,E,v⟩
  ·omega
  ·intro e;rw [List.getElem?_map] at v;cases D:((dL c s p st).part (aA c p)).aw[k]? with
   | none=>grind
   | some q0=>rw [D] at v;have v:=Option.some.inj v;have nd:=(u.jg _ b k q0 D).1;exact Ni (g:=λz=>z) (by simpa using nd) a (by grind) e
 have a8:((iD c (dL c s p st) p).proc p).state=5\/((iD c (dL c s p st) p).proc p).state=6:=by grind
 generalize iD c (dL c s p st) p=f at*;have K:=x.empty hp a8 (λi b k=>by rw [G];exact V i b k) (λi b k q h=>by rw [G] at h;exact W i b k q h) λr hr l d=>by grind
 have I:pX c (gJ f p) p=((f.proc p).ak.flatMap (·.waiters)).foldl (λs w=>cf c s w.proc.toNat 2) (iE (gJ f p) p):=by
  unfold pX;have:((gJ f p).proc p).ak=(f.proc p).ak:=by unfold gJ;rw [fC]
  rw [this]
 rw [I];refine Good.zw K ?_ λw hw=> ?_
 · -- kf waits stands in one lane alone
  have key:∀(t:List bm) (j:Nat),(∀(i:Nat) l,t[i]? =some l->(l.waiters.map (·.proc)).Nodup/\(l.waiters≠ []->i=j))->((t.flatMap (·.waiters)).map (·.proc)).Nodup:=by
   intro t
   induction t with
   | nil=>intro j _;exact List.Pairwise.nil
   | cons a t ih=>
    intro j h;rw [List.flatMap_cons,List.map_append];obtain ⟨E,v⟩:=h 0 a rfl;by_cases e:a.waiters=[]
    ·rw [e];cases j with
     | zero=>
      have:t.flatMap (·.waiters)=[]:=by
       rw [List.flatMap_eq_nil_iff];intro l d;obtain ⟨i,b,y⟩:=List.getElem_of_mem d;by_cases o:l.waiters=[]
       ·exact o
       ·have:=(h (i+1) l (by simp [List.getElem?_eq_getElem b,y])).2 o;omega
      rw [this];exact List.Pairwise.nil
     | succ j=>refine ih j λi l d=> ?_;obtain ⟨M,N⟩:=h (i+1) l (by simpa using d);exact ⟨M,λA=>by have:=N A;omega⟩
    ·have R:=v e;subst R;have:t.flatMap (·.waiters)=[]:=by
      rw [List.flatMap_eq_nil_iff];intro l d;obtain ⟨i,b,y⟩:=List.getElem_of_mem d;by_cases o:l.waiters=[]
      ·exact o
      ·have:=(h (i+1) l (by simp [List.getElem?_eq_getElem b,y])).2 o;omega
     rw [this];simpa using E
  refine key _ (aA c p) λi l d=> ?_;obtain ⟨b1,b2,b3⟩:=x.dQ p hp i l d;grind
 ·obtain ⟨l,d,H⟩:=List.mem_flatMap.1 hw;obtain ⟨i,Q,y⟩:=List.getElem_of_mem d;have P:(f.proc p).ak[i]? =some l:=by rw [List.getElem?_eq_getElem Q,y]
  obtain ⟨a1,a2,a3,a4,a5⟩:=(x.dQ p hp i l P).2.2 w H;have a9:=C p hp l (by rw [S] at d;exact d) w H;have A:w.proc.toNat≠p:=λe=>a9 (by clear a5;omega);obtain ⟨c1,n,c2,_⟩:=a5.resolve_left A;have e:(iE (gJ f p) p).proc w.proc.toNat=f.proc w.proc.toNat:=by unfold iE gJ;rw [hO A,hO A]
  grind
end
section
variable {c:aI} {fl:Nat->Nat->Bool} {s:MS} {T:Int} {p:Nat} {t:Int} {x:au} {z:Prop}
theorem Good.out (m:bT c) (g:Good c fl s No No T) {v:Int} (hp:p<nQ c) (k:T=s.tick+1):Good c fl (tq c s p v) No No T:=by
 have i:=m.eR (p:=p);have pm:=g.part _ i;have j:=g.tick;unfold tq;dsimp only;by_cases h:((s.part (aA c p)).log.length:Int)<c.log
 ·rw [if_pos h];refine g.parts ⟨pm.cur,by grind,⟨?_,λe he=> ?_⟩,pm.lost,pm.kH,λd=> ?_,pm.gK,pm.ib⟩ rfl rfl
  ·show ((s.part (aA c p)).log++ [_]).Pairwise _;rw [List.pairwise_append];refine ⟨pm.log.1,List.pairwise_singleton _ _,λa f b hb=> ?_⟩;have:=pm.log.2 a f;grind
  ·have he:e∈(s.part (aA c p)).log++ [⟨s.tick,(p:Int),v⟩]:=he;rcases List.mem_append.1 he with he | he
   ·exact pm.log.2 e he
   grind
  ·have d:0<(s.part (aA c p)).lost:=d;have:=pm.full d;omega
 ·rw [if_neg h];exact g.parts ⟨pm.cur,pm.jP,pm.log,vI pm.lost,pm.kH,λ_=>by grind,pm.gK,pm.ib⟩ rfl rfl
theorem Fk :x.put x.core=x:=rfl
theorem cm.sleep (pm:cm c fl t p z x) (e:x.state=0) {n:cp} (a:dv c p x=some n) (b:n.op=28) {w:Int} (d:0<w/\w<=t+1099511627776):cm c fl t p z {x with state:=4,cJ:=w} where
 st:=by simp
 pc:=pm.pc
 lx:=pm.lx
 cur:=pm.cur
 mD:=pm.mD
 mE:=by grind
 nj:=.inr ⟨λ_=>rfl,λ_=>d.1⟩
 dead:=λh=>by grind
 dQ:=pm.dQ
 recv:=λh=>by grind
 snd:=λh=>by grind
 pz:=λh=>by grind
 iP:=λ_=>⟨n,a,b⟩
 br:=pm.br
theorem cm.timer (pm:cm c fl t p z x) (b:x.state=0) {w:Int} (a:0<=w/\w<=t+1099511627776):cm c fl t p z {x with bN:=false,timer:=w} where
 st:=pm.st
 pc:=pm.pc
 lx:=pm.lx
 cur:=pm.cur
 mD:=a
 mE:=pm.mE
 nj:=pm.nj
 dead:=λh=>by grind
 dQ:=pm.dQ
 recv:=λh=>by grind
 snd:=pm.snd
 pz:=pm.pz
 iP:=pm.iP
 br:=pm.br
theorem Good.do_ {D:Int->Int->Int->Int} (m:bT c) (g:Good c fl s No No T) (hp:p<nQ c) (f:(s.proc p).state=0) (H:T=s.tick+1):Good c fl (wT c D fl s p) No No T:=by
 have pm:=g.proc p hp;have P:=g.tick;have r:Out s No No p:=wE ⟨by omega,by omega⟩;have j:s.bd p (s.proc p)=s:=by unfold MS.bd;rw [yo]
 have O:∀ {y:au},y.state=0\/y.state=4->(jF (s.proc p)=true->jF y=true):=λ{y} Q _=>by rw [cW];omega
 unfold wT;dsimp only;rcases E7 (D:=D) (l:=ji c p) (k:=(s.proc p).core) (tk:=s.tick) (self:=(p:Int)) with ⟨C,E⟩ | ⟨n,u,J,⟨_,e⟩ | ⟨w,st,L,e⟩⟩
 ·rw [C,if_pos rfl,E,Fk,j];exact g.ends m (.inl rfl) hp
 ·rw [e];dsimp only;rw [if_neg (by omega),if_neg (by omega),if_neg (by omega),if_neg (by omega),if_neg (by omega),if_neg (by omega),if_neg (by omega),if_neg (by omega),if_neg (by omega)];have A:=Mh (D:=D) (tk:=s.tick) (self:=(p:Int)) u J pm.br;exact wG (g.core r pm rfl f A.1 A.2)
 ·rw [e];dsimp only;have i:dv c p (s.proc p)=some n:=u;have N:=qB i;have q:Good c fl (s.bd p ((s.proc p).put (fz (s.proc p).core))) No No T:=wG (g.core r pm rfl f ⟨by show 0<=(s.proc p).pc+1;omega,by show (s.proc p).pc+1<=_;omega⟩ pm.br);have F:∀v:Int,0<v->0<pC v 1099511627776/\pC v 1099511627776<=1099511627776:=λv hv=>by unfold pC;split<;>omega
  rcases Mg L with ⟨a,b⟩ | ⟨o,a,b⟩ | ⟨o,a,b⟩ | ⟨o,a,b⟩ | ⟨a,b⟩ | ⟨o,a,b⟩ | ⟨o,a,d,b⟩ | ⟨o,a,d,b⟩ | ⟨a,b⟩
  ·rw [if_pos a,b];simp only [if_true];rw [Fk,j];exact g.ends m (.inl rfl) hp
  ·rw [a,b];dsimp only;rw [if_neg (by omega),if_pos rfl];simp only [if_true];rw [Fk,j];exact g.send m hp f i o rfl rfl
  ·rw [if_neg (by omega),if_neg (by omega),if_pos a,b];simp only [if_true];rw [Fk,j];exact g.take m hp f i λ_=>o
  ·rw [if_neg (by omega),if_neg (by omega),if_neg (by omega),if_pos a,b];simp only [if_true];rw [Fk,j];exact g.take m hp f i λh=>by cases h
  ·rw [if_neg (by omega),if_neg (by omega),if_neg (by omega),if_neg (by omega),if_pos a,b];simp only [Bool.false_eq_true,if_false];rw [fC];have M:Out (s.bd p ((s.proc p).put (fz (s.proc p).core))) No No p:=wE (by rw [fC];exact ⟨by show (s.proc p).state≠2;omega,by show (s.proc p).state≠3;omega⟩);have B:=q.proc p hp;rw [fC] at B;have I:0<=(if 0<w.value then s.tick+pC w.value 1099511627776 else 0)/\(if 0<w.value then s.tick+pC w.value 1099511627776 else 0)<=s.tick+1099511627776:=by grind
   refine wG (q.run M (B.timer f I) ⟨by show (s.proc p).state≠2;omega,by show (s.proc p).state≠3;omega⟩ (by rw [fC]) λ_=> ?_);rw [cW];exact ⟨by show (s.proc p).state≠5;omega,by show (s.proc p).state≠6;omega⟩
  ·rw [if_neg (by omega),if_neg (by omega),if_neg (by omega),if_neg (by omega),if_neg (by omega),if_pos a,b];simp only [if_true];rw [Fk,j];have G:0<uX w.value 1:=by unfold uX;split<;>omega
   have:=F _ G;refine wG (g.run r (pm.sleep f i o (w:=s.tick+pC (uX w.value 1) 1099511627776) ⟨by omega,by omega⟩) ⟨by show (4:Int)≠2;omega,by show (4:Int)≠3;omega⟩ rfl λ_=> ?_);grind
  ·rw [if_neg (by omega),if_neg (by omega),if_neg (by omega),if_neg (by omega),if_neg (by omega),if_neg (by omega),if_pos a,b];simp only [if_true];rw [Fk,j];exact g.lock m hp f i o d.symm
  ·rw [if_neg (by omega),if_neg (by omega),if_neg (by omega),if_neg (by omega),if_neg (by omega),if_neg (by omega),if_neg (by omega),if_pos a,b];simp only [Bool.false_eq_true,if_false];have K:=xz (m.ins i).1 (.inr o);exact q.unlock m hp (by rw [d];exact K)
  ·rw [if_neg (by omega),if_neg (by omega),if_neg (by omega),if_neg (by omega),if_neg (by omega),if_neg (by omega),if_neg (by omega),if_neg (by omega),if_pos a,b];simp only [Bool.false_eq_true,if_false];exact q.out m hp H
end
section
variable {c:aI} {fl:Nat->Nat->Bool} {s:MS} {T:Int} {p:Nat} {t:Int} {x:au} {z:Prop}
theorem VU {to v:Int}:(lj c fl s p to v).tick=s.tick:=by
 unfold lj
 repeat' split
 all_goals rfl
theorem Ll {a:Int}:(jj s a).tick=s.tick:=by unfold jj;split<;>rfl
theorem Kn :∀ {l:List Int} {s:MS},(l.foldl jj s).tick=s.tick
 | [],_=>rfl
 | a::l,s=>by rw [List.foldl_cons,Kn,Ll]
theorem Lm {v:Int}:∀ {l:List mr} {s:MS},(l.foldl (λs w=>cf c s w.proc.toNat v) s).tick=s.tick
 | [],_=>rfl
 | a::l,s=>by rw [List.foldl_cons,Lm];rfl
theorem Hl {b:Bool}:(kz c s p b).tick=s.tick:=by
 unfold kz;dsimp only
 repeat' split
 all_goals rfl
theorem VV {n:Int}:(jO c s p n).tick=s.tick:=by unfold jO;dsimp only;split<;>rfl
theorem PT {n:Int}:(yR c s p n).tick=s.tick:=by
 unfold yR;dsimp only;split
 ·split
  ·rfl
  ·exact Ll
 ·rfl
theorem IV {st:Int}:(nL c s p st).tick=s.tick:=by rw [yU];unfold pX;rw [Lm];show (iD c (dL c s p st) p).tick=_;unfold iD;rw [Kn];rfl
theorem JW {D:Int->Int->Int->Int}:(wT c D fl s p).tick=s.tick:=by
 unfold wT;dsimp only;split
 ·exact IV
 split
 ·exact VU
 split
 ·exact Hl
 split
 ·exact Hl
 split
 ·rfl
 split
 ·rfl
 split
 ·exact VV
 split
 ·exact PT
 split
 ·rfl
 ·rfl
theorem Good.vn {X Z:Nat->Prop} {T':Int} (g:Good c fl s X Z T) (h:T<=T'):Good c fl s X Z T':=
 ⟨g.tick,λi b=>by
  have pm:=g.part i b;exact ⟨pm.cur,pm.jP,⟨pm.log.1,λe a=>by have:=pm.log.2 e a;omega⟩,pm.lost,pm.kH,pm.full,pm.gK,pm.ib⟩,g.proc,g.own,g.jg,g.dQ,g.rf,g.re⟩
theorem Good.NK (g:Good c fl s No No T) (hp:p<nQ c):Good c fl (s.bd p (mi s.tick (s.proc p))) No No T:=by
 have H:=g.tick;have B:s.bd p (s.proc p)=s:=by unfold MS.bd;rw [yo]
 have f:Good c fl (s.bd p (if 0<(s.proc p).cJ/\(s.proc p).cJ<=s.tick then {s.proc p with cJ:=0,state:=0,pc:=(s.proc p).pc+1} else s.proc p)) No No T:=by
  by_cases h:0<(s.proc p).cJ/\(s.proc p).cJ<=s.tick
  ·rw [if_pos h];have pm:=g.proc p hp;have o:=(pm.nj.resolve_left (λh=>h)).1 h.1;obtain ⟨n,v,_⟩:=pm.iP o;have G:=qB v;refine wG (g.run (wE ⟨by omega,by omega⟩) ⟨by show (0:Int)<=0/\(0:Int)<=6;omega,by show 0<=(s.proc p).pc+1/\(s.proc p).pc+1<=_;omega,pm.lx,pm.cur,pm.mD,by show (0:Int)<=0/\(0:Int)<=_;omega,.inr ⟨λh=>absurd h (Int.lt_irrefl 0),λh=>by have h:(0:Int)=4:=h;omega⟩,λh=>by have h:(0:Int)=5\/(0:Int)=6:=h;omega,pm.dQ,λh=>by have h:(0:Int)=1:=h;omega,λh=>by have h:(0:Int)=2:=h;omega,λh=>by have h:(0:Int)=3:=h;omega,λh=>by have h:(0:Int)=4:=h;omega,pm.br⟩ ⟨by show (0:Int)≠2;omega,by show (0:Int)≠3;omega⟩ rfl λ_=>rfl)
  ·rw [if_neg h,B];exact g
 generalize E:(if 0<(s.proc p).cJ/\(s.proc p).cJ<=s.tick then ({s.proc p with cJ:=0,state:=0,pc:=(s.proc p).pc+1}:au) else s.proc p)=y at f;have e:mi s.tick (s.proc p)=if 0<y.timer/\y.timer<=s.tick then {y with timer:=0,bN:=true,state:=if y.state=1 then 0 else y.state} else y:=by unfold mi;dsimp only;rw [E]
 rw [e];by_cases h:0<y.timer/\y.timer<=s.tick
 ·rw [if_pos h];have pm:=f.proc p hp;rw [fC] at pm;have C:(if y.state=1 then (0:Int) else y.state)=y.state\/(y.state=1/\(if y.state=1 then (0:Int) else y.state)=0):=by
   by_cases h:y.state=1
   ·right;exact ⟨h,if_pos h⟩
   ·left;exact if_neg h
  have b:∀ {m:Int},m≠0->(if y.state=1 then (0:Int) else y.state)=m->y.state=m/\y.state≠1:=λ{m} u h=>by
   by_cases k:y.state=1
   ·rw [if_pos k] at h;exact absurd h.symm u
   ·rw [if_neg k] at h;exact ⟨h,k⟩
  have hb:=pm.st;have q:=f.ak (p:=p) (x':={y with timer:=0,bN:=true,state:=if y.state=1 then 0 else y.state}) (X':=No)
   ⟨by show 0<=(if y.state=1 then (0:Int) else y.state)/\(if y.state=1 then (0:Int) else y.state)<=6;split<;>omega,pm.pc,pm.lx,pm.cur,by show (0:Int)<=0/\(0:Int)<=_;have:(s.bd p y).tick=s.tick:=rfl;omega,pm.mE,
    pm.nj.imp (λh=>h) λr=>⟨λa=>by
     have:=r.1 a;show (if y.state=1 then (0:Int) else y.state)=4;rw [if_neg (by omega)];exact this,λa=>r.2 (b (by decide) a).1⟩,
    λa=>by have a:(if y.state=1 then (0:Int) else y.state)=5\/(if y.state=1 then (0:Int) else y.state)=6:=a;have o:y.state=5\/y.state=6:=a.imp (λh=>(b (by decide) h).1) λh=>(b (by decide) h).1;have:=(pm.dead o).1.resolve_left (λh=>h);omega,
    pm.dQ,λa=>absurd (b (by decide) a).1 (b (by decide) a).2,λa=>pm.snd (b (by decide) a).1,λa=>pm.pz (b (by decide) a).1,λa=>pm.iP (b (by decide) a).1,pm.br⟩
   (by rw [fC];exact C) (by rw [fC]) (by rw [fC]) (by rw [fC]) (λi l F j d=>by
    rw [fC] at j;have d:y.ak[i]? =some F:=d;rw [j] at d;cases d;refine ⟨List.Sublist.refl _,λA=> ?_,λw D=>.inl D⟩;exact ((f.dQ p hp i l (by rw [fC];exact j)).2.1 A).2.2) hp (λ_ h=>h) (λ_ h=>h.elim)
  rw [Bb] at q;exact q
 grind
def mN (s:MS) (l:List Nat):MS:=⟨s.tick,s.part,λq=>if q∈l then mi s.tick (s.proc q) else s.proc q⟩
theorem Good.Ga (g:Good c fl s No No T):∀(l:List Nat),(∀q∈l,q<nQ c)->l.Nodup->Good c fl (mN s l) No No T
 | [],_,_=>by
  have e:mN s []=s:=by unfold mN;simp
  rw [e];exact g
 | q::l,h,b=>by
  rw [List.nodup_cons] at b;have f:=g.Ga l (λr i=>h r (List.mem_cons_of_mem _ i)) b.2;have j:=f.NK (p:=q) (h q (List.mem_cons_self ..));have d:(mN s l).proc q=s.proc q:=if_neg b.1;have e:(mN s l).bd q (mi (mN s l).tick ((mN s l).proc q))=mN s (q::l):=by
   rw [d];unfold mN MS.bd;congr 1;funext r;unfold cg;by_cases e:r=q
   ·subst e;rw [if_pos rfl,if_pos (by simp)]
   ·rw [if_neg e];show (if r∈l then mi s.tick (s.proc r) else s.proc r)=_;by_cases a:r∈l
    ·rw [if_pos a,if_pos (by simp [a])]
    ·rw [if_neg a,if_neg (by simp [a,e])]
  grind
theorem Good.due (g:Good c fl s No No T) {i:Nat}:Good c fl (iZ c s i) No No T:=by
 have h:=g.Ga (dS c i) (λq b=>(fL.1 b).1) Mi;have e:mN s (dS c i)=iZ c s i:=by
  unfold mN iZ;congr 1;funext q;by_cases h:q<nQ c/\aA c q=i
  ·rw [if_pos h,if_pos (fL.2 h)]
  ·rw [if_neg h,if_neg λa=>h (fL.1 a)]
 grind
theorem S5 {i a:Nat} (h:jv c s i=some a):a<(dS c i).length/\(s.proc ((dS c i).getD a 0)).state=0:=by unfold jv at h;have d:=List.find?_some h;have f:=List.mem_of_find?_eq_some h;obtain ⟨k,b,e⟩:=List.mem_map.1 f;have b:=List.mem_range.1 b;refine ⟨?_,of_decide_eq_true d⟩;rw [<-e];exact Nat.mod_lt _ (by omega)
theorem Good.GH {D:Int->Int->Int->Int} (m:bT c) (g:Good c fl s No No T) {i a:Nat} (e:i<nP c) (j:T=s.tick+1) (h:jv c s i=some a):Good c fl (lu c D fl s i a) No No T:=by
 obtain ⟨n,d⟩:=S5 h;unfold lu;have pm:=g.part i e;have b:Good c fl (s.dZ i {s.part i with aj:=((a+1:Nat):Int)%((dS c i).length:Int)}) No No T:=by refine g.parts ⟨?_,pm.jP,pm.log,pm.lost,pm.kH,pm.full,pm.gK,pm.ib⟩ rfl rfl;have k:=Int.emod_nonneg ((a+1:Nat):Int) (show ((dS c i).length:Int)≠0 by omega);have l:=Int.emod_lt_of_pos ((a+1:Nat):Int) (show (0:Int)<((dS c i).length:Int) by omega);grind
 have f:(dS c i).getD a 0∈dS c i:=by grind
 exact b.do_ m (fL.1 f).1 d j
theorem Good.turns {D:Int->Int->Int->Int} (m:bT c) {i:Nat} (b:i<nP c):∀(n:Nat) {s:MS},Good c fl s No No T->T=s.tick+1->Good c fl (nC c D fl i n s) No No T/\(nC c D fl i n s).tick=s.tick
 | 0,s,g,_=>⟨g,rfl⟩
 | n+1,s,g,d=>by
  unfold nC;cases h:jv c s i with
  | none=>exact ⟨g,rfl⟩
  | some a=>have e:(lu c D fl s i a).tick=s.tick:=JW;have:=Good.turns (D:=D) m b n (g.GH (D:=D) m b d h) (by rw [e];exact d);grind
theorem bT.lO (m:bT c) {t:Int}:jk c t<nP c:=by
 unfold jk;have h:=m.table;have b:0<c.table.length:=List.length_pos_iff.2 h.1;have a:t.toNat%c.table.length<c.table.length:=Nat.mod_lt _ b;have:c.table.getD (t.toNat%c.table.length) 0=c.table[t.toNat%c.table.length]:=by simp [List.getD,List.getElem?_eq_getElem a]
 rw [this];have:=h.2.2 _ (List.getElem_mem a);omega
theorem cm.later (pm:cm c fl t p z x) {a:Int} (h:t<=a):cm c fl a p z x:=
 ⟨pm.st,pm.pc,pm.lx,pm.cur,by have:=pm.mD;omega,by have:=pm.mE;omega,pm.nj,pm.dead,pm.dQ,pm.recv,pm.snd,pm.pz,pm.iP,pm.br⟩
theorem Good.GG {D:Int->Int->Int->Int} (m:bT c) (g:Good c fl s No No s.tick):Good c fl (lq c D fl s) No No (lq c D fl s).tick:=by have d:=(g.vn (T':=s.tick+1) (by omega)).due (i:=jk c s.tick);obtain ⟨a,b⟩:=Good.turns (D:=D) m (m.lO (t:=s.tick)) c.fuel.toNat d rfl;have b:(nC c D fl (jk c s.tick) c.fuel.toNat (iZ c s (jk c s.tick))).tick=s.tick:=b;have f:=a.tick;unfold lq;dsimp only;rw [b];exact ⟨by grind,a.part,λq e=>(a.proc q e).later (by grind),a.own,a.jg,a.dQ,a.rf,a.re⟩
theorem Em {v:Int} (h:tY c s v=0):0<=v/\v.toNat<nQ c/\jF (s.proc v.toNat)=true:=by unfold tY at h;grind
theorem Good.BA (g:Good c fl s No No T) {q v:Int}:Good c fl (uj c s q v).1 No No T:=by
 unfold uj;by_cases h:tY c s q≠0
 ·grind
 rw [if_neg h];obtain ⟨k,d,m⟩:=Em (Classical.not_not.1 h);have b:∀l,(s.proc q.toNat).ak[nP c]? =some l->(l.values.length:Int)<=c.lane/\jl l.taken/\jl l.dropped:=λl a=>by have:=(g.proc _ d).dQ _ l a;grind
 by_cases e:fy c (s.proc q.toNat) (nP c)=true
 ·rw [if_pos e];exact g.lane d (i:=nP c) (f:=lf) (λl a=>⟨(b l a).1,(b l a).2.1,vI (b l a).2.2,λ_ h=>by omega⟩) (λl a=>⟨rfl,λ_=>rfl⟩) false λ_ l a=>a
 ·rw [if_neg e];have n:∀l,(s.proc q.toNat).ak[nP c]? =some l->(l.values.length:Int)<c.lane:=λl a=>by unfold fy at e;grind
  exact g.lane d (i:=nP c) (f:=uT v) (λl a=>⟨by
   show ((l.values++ [v]).length:Int)<=_;grind,(b l a).2.1,(b l a).2.2,λ_ h=>by omega⟩) (λl a=>⟨rfl,λj=>by
   have:=((g.dQ _ d _ l a).2.1 j).2.2;grind⟩) true λh=>by cases h
theorem Good.kill (m:bT c) (g:Good c fl s No No T) {q:Int}:Good c fl (gX c s q).1 No No T:=by
 unfold gX;by_cases h:tY c s q≠0
 ·grind
 rw [if_neg h];exact g.ends m (.inr rfl) (Em (Classical.not_not.1 h)).2.1
theorem PV {q v:Int}:(uj c s q v).1.tick=s.tick:=by
 unfold uj;split
 ·rfl
 ·split<;>rfl
theorem VW {q:Int}:(gX c s q).1.tick=s.tick:=by
 unfold gX;split
 ·rfl
 ·exact IV
theorem Good.first (m:bT c):Good c fl (rT c) No No (rT c).tick where
 tick:=Int.le_refl _
 part:=λi a=>by
  have f:=m.ag;have g:=m.log;refine ⟨⟨Int.le_refl _,λh=>absurd h (Int.lt_irrefl 0)⟩,by show ((0:Nat):Int)<=c.log;omega,⟨List.Pairwise.nil,λe b=>by cases b⟩,⟨Int.le_refl _,by show (0:Int)<=65535;omega⟩,⟨Int.le_refl _,by show (0:Int)<=65535;omega⟩,λh=>absurd h (Int.lt_irrefl 0),?_,?_⟩
  ·show ((List.replicate c.ag.toNat (-1:Int)).length:Int)=_;grind
  ·show ((List.replicate c.ag.toNat ([]:List Int)).length:Int)=_;grind
 proc:=λp hp=>by
  refine ⟨by show (0:Int)<=0/\(0:Int)<=6;omega,by show (0:Int)<=0/\(0:Int)<=_;omega,List.length_replicate ..,?_,by show (0:Int)<=0/\(0:Int)<=0+1099511627776;omega,by show (0:Int)<=0/\(0:Int)<=0+1099511627776;omega,.inr ⟨λh=>absurd h (Int.lt_irrefl 0),λh=>by have h:(0:Int)=4:=h;omega⟩,λh=>by have h:(0:Int)=5\/(0:Int)=6:=h;omega,λi l h=> ?_,λh=>by have h:(0:Int)=1:=h;omega,λh=>by have h:(0:Int)=2:=h;omega,λh=>by have h:(0:Int)=3:=h;omega,λh=>by have h:(0:Int)=4:=h;omega,List.length_replicate ..⟩
  ·show (0:Int)<=0/\(0:Int)<((List.replicate (nP c+1) _).length:Int);simp
  ·have h:(List.replicate (nP c+1) (⟨[],[],0,0⟩:bm))[i]? =some l:=h;have d:=List.eq_of_mem_replicate (List.mem_of_getElem? h);subst d;have:=m.lane;refine ⟨by show ((0:Nat):Int)<=_;omega,⟨Int.le_refl _,by show (0:Int)<=65535;omega⟩,⟨Int.le_refl _,by show (0:Int)<=65535;omega⟩,λh=> ?_⟩;rcases h with h | h | h
   ·exact absurd rfl h
   ·exact absurd h (Int.lt_irrefl 0)
   grind
 own:=λi a k o h=>by have h:(List.replicate c.ag.toNat (-1:Int))[k]? =some o:=h;grind
 jg:=λi a k q h=>by have h:(List.replicate c.ag.toNat ([]:List Int))[k]? =some q:=h;grind
 dQ:=λr j i l h=>by have h:(List.replicate (nP c+1) (⟨[],[],0,0⟩:bm))[i]? =some l:=h;grind
 rf:=λp hp _ h=>by have h:(0:Int)=3:=h;omega
 re:=λp hp _ h=>by have h:(0:Int)=2:=h;omega
end
section
variable {c:aI} {fl:Nat->Nat->Bool} {s:MS} {T:Int}
theorem Good.qp (m:bT c) (g:Good c fl s No No T):iX c s where
 proc:=λp hp=>by
  have pm:=g.proc p hp;have G:=m.pV (p:=p);have H:=m.lane;have e:=m.procs;refine ⟨by have:=pm.pc;omega,pm.lx,pm.cur,λl a=> ?_⟩;obtain ⟨i,f,n⟩:=List.getElem_of_mem a;have d:(s.proc p).ak[i]? =some l:=by grind
  obtain ⟨a1,a2,a3,_⟩:=pm.dQ i l d;obtain ⟨b,j,o⟩:=g.dQ p hp i l d;have B:∀w∈l.waiters,0<=w.proc/\w.proc<(nQ c:Int):=λw A=>by obtain ⟨r,t,_⟩:=o w A;omega
  have y:=vF (nQ c) (l.waiters.map (·.proc)) b λx I=>by grind
  rw [List.length_map] at y;exact ⟨by omega,by omega,a2,a3,b,B⟩
 part:=λi f=>by
  have pm:=g.part i f;have u:=m.log;have D:=m.ag;have E:=m.procs;have F:(dS c i).length<=nQ c:=by have u:(dS c i).length<=(List.range (nQ c)).length:=List.length_filter_le ..;grind
  have e:∀q∈(s.part i).aw,q.Nodup/\∀z∈q,0<=z/\z<(nQ c:Int):=λq a=>by
   obtain ⟨k,v,n⟩:=List.getElem_of_mem a;have d:(s.part i).aw[k]? =some q:=by rw [List.getElem?_eq_getElem v,n]
   obtain ⟨b,j,_⟩:=g.jg i f k q d;exact ⟨b,λz C=>by obtain ⟨r,t,_⟩:=j z C;omega⟩
  refine ⟨⟨pm.cur.1,?_⟩,by have:=pm.jP;omega,pm.lost,pm.kH,by have:=pm.gK;have:=pm.ib;omega,pm.ib,⟨by have:=pm.ib;omega,λq a=> ?_⟩,e⟩
  ·by_cases h:0<(s.part i).aj
   ·have:=pm.cur.2 h;omega
   ·omega
  ·have:=vF (nQ c) q (e q a).1 (e q a).2;omega
theorem Yx {i t:Nat} (g:t<(dS c i).length) (j:∀k,k<t->(s.proc ((dS c i).getD (((s.part i).aj.toNat+k)%(dS c i).length) 0)).state≠0) (h:(s.proc ((dS c i).getD (((s.part i).aj.toNat+t)%(dS c i).length) 0)).state=0):
  jv c s i=some (((s.part i).aj.toNat+t)%(dS c i).length):=by
 unfold jv;have e:List.range (dS c i).length=List.range t++(t::(List.range (dS c i).length).drop (t+1)):=by
  have a:(List.range (dS c i).length)[t]? =some t:=List.getElem?_range g;obtain ⟨b,d⟩:=List.getElem?_eq_some_iff.1 a;have f:List.take t (List.range (dS c i).length)=List.range t:=by rw [List.take_range,Nat.min_eq_left (by omega)]
  calc List.range (dS c i).length=(List.range (dS c i).length).take t++(List.range (dS c i).length).drop t:=(List.take_append_drop t _).symm
   _=_:=by rw [f,List.drop_eq_getElem_cons b,d]
 grind
theorem Yy {i:Nat} (a:∀k,k<(dS c i).length->(s.proc ((dS c i).getD (((s.part i).aj.toNat+k)%(dS c i).length) 0)).state≠0):jv c s i=none:=by unfold jv;grind
theorem PX {D:Int->Int->Int->Int} {i a n:Nat} (h:jv c s i=some a):nC c D fl i (n+1) s=nC c D fl i n (lu c D fl s i a):=by
 have e:nC c D fl i (n+1) s=(match jv c s i with
  | none=>s
  | some a=>nC c D fl i n (lu c D fl s i a)):=rfl
 rw [e,h]
theorem Good.BG (g:Good c fl s No No T) {p:Nat} (r:(s.proc p).state=0):(∀q,q<nQ c->∀l∈(s.proc q).ak,∀z∈l.waiters,z.proc≠(p:Int))/\∀i,i<nP c->∀q∈(s.part i).aw,(p:Int)∉q:=by
 have h:Out s No No p:=wE ⟨by omega,by omega⟩;refine ⟨λq b l m w o e=> ?_,λi f q b n=> ?_⟩
 ·obtain ⟨i,f,d⟩:=List.getElem_of_mem m;have a:(s.proc q).ak[i]? =some l:=by grind
  exact ((g.dQ q b i l a).2.2 w o).out h (by omega)
 ·obtain ⟨k,j,d⟩:=List.getElem_of_mem b;have a:(s.part i).aw[k]? =some q:=by rw [List.getElem?_eq_getElem j,d]
  exact ((g.jg i f k q a).2.1 _ n).out h (by omega)
end
section
variable {h0 h1 k:Hp} {K:MK} {pm:Addr} {s:MS} {b:Nat->Nat->Int}
theorem YA {p:Int} {Q:Int->Hp->Prop} (m:dq h0 K) (l:bT K.c) (o:Has h0 (aB K pm s b) k) (q:iX K.c s) (r:eH K.c b s) (d:∀i a,Has h0 (aB K pm (gX K.c s p).1 i) a->eH K.c i (gX K.c s p).1->Q (gX K.c s p).2 a):ML prog (some pm) p Q k:=by
 unfold ML;refine zju (Mk m o ?_);unfold gX at d;by_cases h:tY K.c s p≠0
 ·grind
 rw [if_neg (by simpa using h)];rw [if_neg h] at d;obtain ⟨t,e,u⟩:=Em (Classical.not_not.1 h);have j:((p.toNat:Nat):Int)=p:=by omega
 obtain ⟨f,g⟩:=m.ptr o e;rw [j] at f g;refine aD (o.dY.ld (shf:=av) K.x.procs rfl ⟨f,some (K.p p.toNat),g,?_⟩);exact zkv (IP m l o q e λa n=>d _ a n (r.ended e))
theorem N4 {t:Int} {Q:Int->Hp->Prop} (m:dq k K) (u:bT K.c) (o:0<=t) (f:Q (jk K.c t:Int) k):UG prog (some K.sl) t Q k:=by
 unfold UG;obtain ⟨sl,n,h,e⟩:=m.s2;have g:=u.table;have q:=e.1;have r:0<K.c.table.length:=List.length_pos_iff.2 g.1;have ld:∀ {a:Sl->Prop},a sl->aP none av k (K.sl.add 0) a:=λ{a} p=>⟨sl,λj v hv=>by
  cases j with
  | zero=>have:=h 0 v (by simpa [bg,Sl.v] using hv);rw [sP];exact this
  | succ j=>simp [bg] at hv,p⟩
 rw [if_neg (by simp;omega)];refine aD (ld (aD (ld ⟨by omega,?_⟩)));have l:Int.tmod t ((sl.len:Nat):Int)=((t.toNat%K.c.table.length:Nat):Int):=by rw [Int.tmod_eq_emod_of_nonneg o,q,Int.natCast_emod];congr 1;omega
 rw [l];have w:t.toNat%K.c.table.length<K.c.table.length:=Nat.mod_lt _ r;refine Rs.get (sh:=af .i64) e (λ_=>rfl) (by omega) (by omega) (by omega) λ(x:Int) d=> ?_;rw [Int.toNat_natCast] at d;unfold jk at f;have i:K.c.table.getD (t.toNat%K.c.table.length) 0=x:=by simp [List.getD,d]
 rw [i] at f;have:=g.2.2 x (List.mem_of_getElem? d);grind
theorem YD {Q:Int->Hp->Prop} (tk:yA) (m:dq h0 K) (l:bT K.c) (o:Has h0 (aB K pm s b) k) (g:Good K.c (jN K.c) s No No s.tick) (ht:s.tick<4611686018427387904) (td:eH K.c b s)
  (P:∀r u,Has h0 (aB K pm (lq K.c fT (jN K.c) s) r) u->eH K.c r (lq K.c fT (jN K.c) s)->Q (jk K.c s.tick:Int) u):MM prog (some pm) Q k:=by
 unfold MM;have b4:=g.tick;have d9:=l.fuel;have n:=l.lO (t:=s.tick);have e1:=l.procs;refine aD (o.dY.ld (shf:=ah) K.x.qq rfl ?_);refine aD (o.dY.ld (shf:=af .i64) s.tick rfl ?_);rw [m.s1];refine Oa (N4 (m.mono o.le) l b4 ?_);have b2:lq K.c fT (jN K.c) s=⟨(nC K.c fT (jN K.c) (jk K.c s.tick) K.c.fuel.toNat (iZ K.c s (jk K.c s.tick))).tick+1,(nC K.c fT (jN K.c) (jk K.c s.tick) K.c.fuel.toNat (iZ K.c s (jk K.c s.tick))).part,(nC K.c fT (jN K.c) (jk K.c s.tick) K.c.fuel.toNat (iZ K.c s (jk K.c s.tick))).proc⟩:=rfl;rw [b2] at P;generalize jk K.c s.tick=i at*;obtain ⟨g1,g2⟩:=m.tr o n;refine aD (o.dY.ld (shf:=av) K.x.parts rfl ⟨g1,some (K.q i),g2,?_⟩);have gd:=(g.vn (T':=s.tick+1) (by omega)).due (i:=i);refine zvo (aam m l o (g.qp l) n td λd2 k1 Y c8=> ?_);have a9:K.x.lI=K.c.fuel:=m.cfg.fuel;have H:(iZ K.c s i).tick=s.tick:=rfl;generalize iZ K.c s i=s1 at*;refine aD ?_;rw [sP];refine Y.dY.ld (shf:=af .i64) K.x.lI rfl ?_;rw [a9];obtain ⟨d6,d1⟩:=Good.turns (D:=fT) l n K.c.fuel.toNat gd (by rw [H]);refine bF.intro (λu=>∃r,Has h0 (aB K pm (nC K.c fT (jN K.c) i K.c.fuel.toNat s1) r) u/\eH K.c r (nC K.c fT (jN K.c) i K.c.fuel.toNat s1)) ?_ ?_
 ·refine aC.intro (λ(t:Int) u=>0<=t/\t<=K.c.fuel/\∃d r,Has h0 (aB K pm d r) u/\eH K.c r d/\Good K.c (jN K.c) d No No (s.tick+1)/\d.tick=s.tick/\nC K.c fT (jN K.c) i (K.c.fuel-t).toNat d=nC K.c fT (jN K.c) i K.c.fuel.toNat s1) (λt _=>(K.c.fuel-t).toNat) ⟨by omega,by omega,s1,d2,Y,c8,gd,H,by rw [Int.sub_zero]⟩ ?_;rintro t u ⟨t0,t1,d,r,y,c7,F,O,A⟩;by_cases h:t<K.c.fuel
  ·rw [if_pos (decide_eq_true h)];have S:=(m.own i n).mono y.le;have J:=S.1;rw [List.length_map] at J;have d8:(dS K.c i).length<=1000:=by have h1:(dS K.c i).length<=(List.range (nQ K.c)).length:=List.length_filter_le ..;grind
   have en:(K.c.fuel-t).toNat=(K.c.fuel-(t+1)).toNat+1:=by omega
   rw [en] at A;have si:=(F.qp l).part i n;have d7:=si.cur;obtain ⟨h3,x,lp,wp,l3,U,C,_⟩:=y.sB n;have E:x.procs=K.own i:=U.1;have ec:x.aj=(d.part i).aj:=U.2.1;refine aD (C.ld (shf:=av) x.procs rfl ?_);rw [E];refine aC.intro (λ(j:Int) W=>W=u/\0<=j/\j<=((dS K.c i).length:Int)/\∀B,B<j.toNat->(d.proc ((dS K.c i).getD (((d.part i).aj.toNat+B)%(dS K.c i).length) 0)).state≠0) (λj _=>((dS K.c i).length-j).toNat) ⟨rfl,by omega,by omega,λB b8=>by omega⟩ ?_;rintro j _ ⟨rfl,j0,j1,R⟩;by_cases hj:j<((dS K.c i).length:Int)
   ·rw [if_pos (decide_eq_true (by omega))];refine aD (C.ld (shf:=af .i64) x.aj rfl ?_);refine aD (C.ld (shf:=av) x.procs rfl ?_);rw [E,ec];have b5:Int.tmod (yw ((d.part i).aj+j)) (((K.own i).len:Nat):Int)=((((d.part i).aj.toNat+j.toNat)%(dS K.c i).length:Nat):Int):=by rw [wrap64 (by omega) (by omega),Int.tmod_eq_emod_of_nonneg (by omega),J,Int.natCast_emod];grind
    rw [b5];have I:((d.part i).aj.toNat+j.toNat)%(dS K.c i).length<(dS K.c i).length:=Nat.mod_lt _ (by omega);refine ⟨by omega,?_⟩;refine aD (y.dY.ld (shf:=av) K.x.procs rfl ?_);refine aD (C.ld (shf:=av) x.procs rfl ?_);rw [E];generalize ha:((d.part i).aj.toNat+j.toNat)%(dS K.c i).length=a at I ⊢;refine Rs.get (sh:=af .i64) S (λ_=>rfl) (by omega) (by omega) (by grind) λ(q':Int) v=> ?_;rw [Int.toNat_natCast,List.getElem?_map] at v;have b7:=List.getElem?_eq_getElem I;rw [b7] at v;have v:((dS K.c i)[a]:Int)=q':=Option.some.inj v;have b0:(dS K.c i).getD a 0=(dS K.c i)[a]:=by grind
    have L:(dS K.c i)[a]∈dS K.c i:=List.getElem_mem I;rw [<-b0] at v L;generalize c1:(dS K.c i).getD a 0=q at v L;subst v;obtain ⟨G,c0⟩:=fL.1 L;obtain ⟨g5,g6⟩:=m.ptr y G;refine ⟨g5,some (K.p q),g6,?_⟩;obtain ⟨h4,z,ad,l4,hz,oz,_⟩:=y.df G;refine aD (oz.ld (shf:=af .i64) z.state rfl ?_);have b1:z.state=(d.proc q).state:=hz.2.2.2.1;rw [b1];by_cases M:(d.proc q).state=0
    ·rw [if_pos (by rw [M];rfl)];refine aD (C.ld (shf:=av) x.procs rfl ?_);rw [E];have b6:Int.tmod (yw (((a:Nat):Int)+1)) (((K.own i).len:Nat):Int)=((a+1:Nat):Int)%((dS K.c i).length:Int):=by rw [wrap64 (by omega) (by omega),Int.tmod_eq_emod_of_nonneg (by omega),J];congr 1
     rw [b6];refine ⟨by omega,?_⟩;have T:jv K.c d i=some a:=by
      have:=Yx (c:=K.c) (s:=d) (i:=i) (t:=j.toNat) (by omega) R (by grind)
      rwa [ha] at this
     obtain ⟨h6,f,e3,e4,l6,V,c4,c5⟩:=y.sB n;refine aD (c4.st (⟨f.procs,((a+1:Nat):Int)%((dS K.c i).length:Int),f.log,f.lost,f.forbidden,f.ag,f.dx⟩:be) (by show 1+1<=7;omega) rfl λX N=> ?_);have o4:=c5 (⟨f.procs,((a+1:Nat):Int)%((dS K.c i).length:Int),f.log,f.lost,f.forbidden,f.ag,f.dx⟩:be) {d.part i with aj:=((a+1:Nat):Int)%((dS K.c i).length:Int)} _ ⟨V.1,rfl,V.2.2⟩ rfl rfl rfl rfl N;have w:=F.part i n;have gc:Good K.c (jN K.c) (d.dZ i {d.part i with aj:=((a+1:Nat):Int)%((dS K.c i).length:Int)}) No No (s.tick+1):=by refine F.parts ⟨⟨Int.emod_nonneg _ (by omega),λ_=>Int.emod_lt_of_pos _ (by omega)⟩,w.jP,w.log,w.lost,w.kH,w.full,w.gK,w.ib⟩ rfl rfl
     obtain ⟨c2,c3⟩:=gc.BG (p:=q) M;have gt:=F.GH (D:=fT) l n (by rw [O]) T;have d5:(lu K.c fT (jN K.c) d i a).tick=d.tick:=JW;have b3:lu K.c fT (jN K.c) d i a=wT K.c fT (jN K.c) (d.dZ i {d.part i with aj:=((a+1:Nat):Int)%((dS K.c i).length:Int)}) q:=by unfold lu;rw [c1]
     refine zui (Yu tk m l o4 (gc.qp l) G (by show 0<=d.tick/\d.tick<=_;rw [O];omega) (gc.proc q G).br c2 (c3 _ (by rw [c0];exact n)) (c7.bq rfl) λd4 k5 o5 a8=> ?_);rw [<-b3] at o5 a8;rw [wrap64 (by omega) (by omega)];refine ⟨⟨by omega,by omega,_,d4,o5,a8,gt,by omega,?_⟩,by omega⟩;rw [<-A];exact (PX T).symm
    ·rw [if_neg (by simpa using M),wrap64 (by omega) (by omega)];grind
   ·rw [if_neg (λe=>hj (by have:=of_decide_eq_true e;omega))];have b9:=Yy (c:=K.c) (s:=d) (i:=i) λB b8=>R B (by omega);have e2:nC K.c fT (jN K.c) i ((K.c.fuel-(t+1)).toNat+1) d=d:=by unfold nC;rw [b9]
    grind
  ·rw [if_neg (λe=>h (of_decide_eq_true e))];have e0:(K.c.fuel-t).toNat=0:=by omega
   rw [e0] at A;have A:d=_:=A;grind
 ·rintro W ⟨d3,Z,d0⟩;rw [H] at d1;generalize nC K.c fT (jN K.c) i K.c.fuel.toNat s1=s2 at*;refine aD (Z.dY.ld (shf:=af .i64) s2.tick rfl ?_);obtain ⟨h7,l7,o7,_,c6⟩:=Z.fst;rw [wrap64 (by omega) (by omega)];refine aD (o7.st (qv K.x (s2.tick+1)) (by show 9+1<=12;omega) rfl λX N=> ?_);exact P d3 X (c6 _ _ N) d0
end
section
variable {c:aI} {fl:Nat->Nat->Bool} {s:MS} {T:Int}
theorem iL {i:Nat} {x:dB}:(s.list c).parts[i]? =some x↔i<nP c/\x=s.part i:=by
 show ((List.range (nP c)).map s.part)[i]? =some x↔_;rw [List.getElem?_map];by_cases h:i<nP c
 ·rw [List.getElem?_range h];constructor
  ·intro e;exact ⟨h,(Option.some.inj e).symm⟩
  ·rintro ⟨_,rfl⟩;rfl
 ·rw [List.getElem?_eq_none (by rw [List.length_range];omega)];constructor
  ·intro e;cases e
  ·intro e;exact absurd e.1 h
theorem gS {i:Nat} {x:au}:(s.list c).procs[i]? =some x↔i<nQ c/\x=s.proc i:=by
 show ((List.range (nQ c)).map s.proc)[i]? =some x↔_;rw [List.getElem?_map];by_cases h:i<nQ c
 ·rw [List.getElem?_range h];constructor
  ·intro e;exact ⟨h,(Option.some.inj e).symm⟩
  ·rintro ⟨_,rfl⟩;rfl
 ·rw [List.getElem?_eq_none (by rw [List.length_range];omega)];constructor
  ·intro e;cases e
  ·intro e;exact absurd e.1 h
theorem ug (m:bT c) {p:Nat} (hp:p<nQ c):∃y,c.procs[p]? =some y/\y.part=(aA c p:Int)/\y.code=ji c p:=by
 have h:=List.getElem?_eq_getElem (show p<c.procs.length from hp);refine ⟨_,h,?_,?_⟩
 ·have:=m.part _ (List.mem_of_getElem? h);unfold aA;rw [h];simp;omega
 ·unfold ji;rw [h];rfl
theorem vV {y:fq} {p:Nat} {x:au} (h:y.code=ji c p):qc y x.pc=dv c p x:=by unfold qc dv gC;rw [h]
theorem uk (m:bT c) {p:Int} {i:Nat}:Fq c p i↔0<=p/\p.toNat<nQ c/\aA c p.toNat=i:=by
 unfold Fq;constructor
 ·rintro ⟨d,y,b,f⟩;have hp:p.toNat<nQ c:=(List.getElem?_eq_some_iff.1 b).1;obtain ⟨g,a,e,_⟩:=ug m hp;rw [b] at a;cases a;exact ⟨d,hp,by omega⟩
 ·rintro ⟨d,b,f⟩;obtain ⟨g,a,e,_⟩:=ug m b;exact ⟨d,g,a,by rw [e,f]⟩
theorem JX (m:bT c) {i:Nat}:uW c i=(dS c i).length:=by
 have e:c.procs=(List.range c.procs.length).map λq=>c.procs.getD q ⟨0,[]⟩:=by
  refine List.ext_getElem? λj=> ?_;rw [List.getElem?_map];by_cases h:j<c.procs.length
  ·rw [List.getElem?_range h,List.getElem?_eq_getElem h];simp [List.getD,List.getElem?_eq_getElem h]
  ·rw [List.getElem?_eq_none (by omega),List.getElem?_eq_none (by rw [List.length_range];omega)];rfl
 unfold uW dS;rw [e,List.filter_map,List.length_map];congr 1;refine List.filter_congr λq a=> ?_;have a:q<nQ c:=List.mem_range.1 a;obtain ⟨y,b,d,_⟩:=ug m a;have f:c.procs.getD q ⟨0,[]⟩=y:=by simp [List.getD,b]
 show decide ((c.procs.getD q ⟨0,[]⟩).part=(i:Int))=decide (aA c q=i);rw [f,d];by_cases h:aA c q=i
 ·rw [decide_eq_true h,decide_eq_true (by omega)]
 ·rw [decide_eq_false h,decide_eq_false (by omega)]
theorem KP (m:bT c) {i:Nat} {st:gN} (j:st.tick=T):∀ {l:List pJ} {last:Int},l.Pairwise (λa b=>a.tick<=b.tick)->(∀e∈l,last<=e.tick/\e.tick<T/\0<=e.proc/\e.proc.toNat<nQ c/\aA c e.proc.toNat=i)->wM c st i last l
 | [],_,_,_=>trivial
 | e::r,last,h,g=>by obtain ⟨k,n⟩:=List.pairwise_cons.1 h;obtain ⟨a1,a2,a3⟩:=g e (List.mem_cons_self ..);refine ⟨a1,by rw [j];exact a2,(uk m).2 a3,KP m j n λd f=>⟨k d f,(g d (List.mem_cons_of_mem _ f)).2⟩⟩
theorem Hm {l:List Int} {z:Int} (nd:l.Nodup) (h:z∈l):l.countP (λy=>decide (y=z))=1:=by
 induction l with
 | nil=>cases h
 | cons a l d=>
  rw [List.nodup_cons] at nd;rw [List.countP_cons];rcases List.mem_cons.1 h with rfl | h
  ·have:l.countP (λy=>decide (y=z))=0:=by rw [List.countP_eq_zero];intro y b;simp;exact λe=>nd.1 (e▸b)
   rw [this];simp
  ·rw [d nd.2 h];have:a≠z:=λe=>nd.1 (e▸h);simp [this]
theorem FK {l:List Int} {z:Int} (h:z∉l):l.countP (λy=>decide (y=z))=0:=by rw [List.countP_eq_zero];intro y a;simp;exact λe=>h (e▸a)
theorem Eo {p:Int} {x:dB} (h:∀q∈x.aw,p∉q):mh p x=0:=by unfold mh;rw [List.sum_eq_zero_iff_forall_eq_nat];intro y b;obtain ⟨q,a,rfl⟩:=List.mem_map.1 b;exact FK (h q a)
theorem vW {p:Int} {l:bm}:uI p l=(l.waiters.map (·.proc)).countP λy=>decide (y=p):=by unfold uI;rw [List.countP_map];rfl
theorem Ep {p:Int} {x:au} (h:∀l∈x.ak,∀w∈l.waiters,w.proc≠p):mg p x=0:=by unfold mg;rw [List.sum_eq_zero_iff_forall_eq_nat];intro y f;obtain ⟨l,a,rfl⟩:=List.mem_map.1 f;rw [vW];refine FK λb=> ?_;obtain ⟨w,d,e⟩:=List.mem_map.1 b;exact h l a w d e
end
section
variable {c:aI} {fl:Nat->Nat->Bool} {s:MS} {T:Int}
theorem Hn {i:Nat} (h:i<nP c):(s.list c).parts[i]? =some (s.part i):=iL.2 ⟨h,rfl⟩
theorem yb {i:Nat} (h:i<nQ c):(s.list c).procs[i]? =some (s.proc i):=gS.2 ⟨h,rfl⟩
theorem aao {p:Int} (h:p.toNat<nQ c) {q:au->Prop} (a:q (s.proc p.toNat)):NU (s.list c) p q:=⟨_,yb h,a⟩
theorem zc (m:bT c) {p:Int} (h:p.toNat<nQ c) {n:cp} (d:dv c p.toNat (s.proc p.toNat)=some n) {q:au->cp->Prop} (e:q (s.proc p.toNat) n):Mm c (s.list c) p q:=by obtain ⟨y,a,f,b⟩:=ug m h;exact ⟨_,y,n,yb h,a,by rw [vV b];exact d,e⟩
theorem JY {r:List Int} {i v:Int} (d:r.length=8) (b:0<=i/\i<8) (h:fi r i=v):r[i.toNat]? =some v:=by
 have a:i.toNat<r.length:=by omega
 rw [List.getElem?_eq_getElem a,<-h];unfold fi;grind
theorem Good.waits (m:bT c) (g:Good c fl s No No T):KG c (s.list c):=by
 refine ⟨λi x a k q hq p hp=> ?_,λr x y a M i l hl w Y=> ?_,λp x a=> ?_⟩
 ·obtain ⟨z,rfl⟩:=iL.1 a;obtain ⟨b1,R,S⟩:=g.jg i z k q hq;obtain ⟨a1,a2,a3,_,a5⟩:=R p hp;obtain ⟨a5,n,a6,a7,E⟩:=a5.resolve_left (λh=>h);obtain ⟨o,t,u,O⟩:=S (List.ne_nil_of_mem hp);refine ⟨(uk m).2 ⟨a1,a2,a3⟩,zc m a2 a6 ⟨a5,E⟩,o,t,?_,λe=>O (e▸hp)⟩;rcases g.own i z k o t with h | h
  ·exact absurd h u
  ·exact h.1
 ·obtain ⟨G,rfl⟩:=gS.1 a;obtain ⟨y',f1,f2,f3⟩:=ug m G;rw [M] at f1;cases f1;obtain ⟨b1,R,S⟩:=g.dQ r G i l hl;obtain ⟨c1,c2,c3⟩:=R (List.ne_nil_of_mem Y);obtain ⟨a1,a2,a3,_,a5⟩:=S w Y;obtain ⟨a5,n,a6,a7,E,a9⟩:=a5.resolve_left (λh=>h);have b0:=cW.1 (c2.resolve_right (λh=>h));have X:=(g.proc _ a2).br;have Z:=SY (m.ins a6).1 a7;exact ⟨by rw [f2,c1],(uk m).2 ⟨a1,a2,a3⟩,b0,c3,zc m a2 a6 ⟨a5,a7,JY X Z.2.1 E,JY X Z.2.2 a9⟩⟩
 ·obtain ⟨hp,rfl⟩:=gS.1 a;have b4:((s.list c).parts.map (mh (p:Int))).sum=if (s.proc p).state=3 then 1 else 0:=by
   by_cases Q:(s.proc p).state=3
   ·rw [if_pos Q];obtain ⟨k,q,t,u⟩:=g.rf p hp (λh=>h) Q;have z:=m.eR (p:=p);rw [vC (mh (p:Int)) _ (aA c p) λj x a J=> ?_,Hn z]
    ·show mh (p:Int) (s.part (aA c p))=1;unfold mh;rw [vC _ _ k λj D K J=> ?_,t]
     ·exact Hm (g.jg _ z k q t).1 u
     ·refine FK λB=> ?_;obtain ⟨_,_,_,_,a5⟩:=(g.jg _ z j D K).2.1 _ B;obtain ⟨_,n1,a6,_,E⟩:=a5.resolve_left (λh=>h);obtain ⟨_,_,_,_,U⟩:=(g.jg _ z k q t).2.1 _ u;obtain ⟨_,n2,F,_,W⟩:=U.resolve_left (λh=>h);rw [a6] at F;cases F;omega
    ·obtain ⟨d,rfl⟩:=iL.1 a;refine Eo λD K B=> ?_;obtain ⟨f,A,b⟩:=List.getElem_of_mem K;have v:(s.part j).aw[f]? =some D:=by rw [List.getElem?_eq_getElem A,b]
     have:=((g.jg j d f D v).2.1 _ B).2.2.1;rw [Int.toNat_natCast] at this;exact J this.symm
   ·rw [if_neg Q,List.sum_eq_zero_iff_forall_eq_nat];intro y M;obtain ⟨x,a,rfl⟩:=List.mem_map.1 M;obtain ⟨j,d,b⟩:=List.getElem_of_mem a;have V:(s.list c).parts[j]? =some x:=by rw [List.getElem?_eq_getElem d,b]
    obtain ⟨d,rfl⟩:=iL.1 V;refine Eo λD K B=> ?_;obtain ⟨f,A,b⟩:=List.getElem_of_mem K;have v:(s.part j).aw[f]? =some D:=by rw [List.getElem?_eq_getElem A,b]
    obtain ⟨_,_,_,_,a5⟩:=(g.jg j d f D v).2.1 _ B;have:=(a5.resolve_left (λh=>h)).1;rw [Int.toNat_natCast] at this;exact Q this
  have b7:((s.list c).procs.map (mg (p:Int))).sum=if (s.proc p).state=2 then 1 else 0:=by
   by_cases P:(s.proc p).state=2
   ·rw [if_pos P];obtain ⟨r,G,l,t,w,u,O⟩:=g.re p hp (λh=>h) P;obtain ⟨d1,d2,d3⟩:=g.dQ r G _ l t;obtain ⟨_,_,_,_,U⟩:=d3 w u;obtain ⟨_,n2,F,_,W,_⟩:=U.resolve_left (λh=>h);rw [O,Int.toNat_natCast] at F W;rw [vC (mg (p:Int)) _ r λj x a J=> ?_,yb G]
    ·show mg (p:Int) (s.proc r)=1;unfold mg;rw [vC _ _ (aA c p) λj C I J=> ?_,t]
     ·show uI (p:Int) l=1;rw [vW];exact Hm d1 (List.mem_map.2 ⟨w,u,O⟩)
     ·rw [vW];refine FK λB=> ?_;obtain ⟨N,L,H⟩:=List.mem_map.1 B;have:=((g.dQ r G j C I).2.2 N L).2.2.1;rw [H,Int.toNat_natCast] at this;exact J this.symm
    ·obtain ⟨d,rfl⟩:=gS.1 a;refine Ep λC I N L H=> ?_;obtain ⟨f,A,b⟩:=List.getElem_of_mem I;have v:(s.proc j).ak[f]? =some C:=by rw [List.getElem?_eq_getElem A,b]
     obtain ⟨_,_,_,_,a5⟩:=(g.dQ j d f C v).2.2 N L;obtain ⟨_,n1,a6,_,E,_⟩:=a5.resolve_left (λh=>h);rw [H,Int.toNat_natCast] at a6 E;rw [a6] at F;cases F;omega
   ·rw [if_neg P,List.sum_eq_zero_iff_forall_eq_nat];intro y M;obtain ⟨x,a,rfl⟩:=List.mem_map.1 M;obtain ⟨j,d,b⟩:=List.getElem_of_mem a;have V:(s.list c).procs[j]? =some x:=by rw [List.getElem?_eq_getElem d,b]
    obtain ⟨d,rfl⟩:=gS.1 V;refine Ep λC I N L H=> ?_;obtain ⟨f,A,b⟩:=List.getElem_of_mem I;have v:(s.proc j).ak[f]? =some C:=by rw [List.getElem?_eq_getElem A,b]
    obtain ⟨_,_,_,_,a5⟩:=(g.dQ j d f C v).2.2 N L;have:=(a5.resolve_left (λh=>h)).1;rw [H,Int.toNat_natCast] at this;exact P this
  grind
theorem Good.may (m:bT c) (g:Good c fl s No No s.tick) (q:s.tick<=4611686018427387904):uy c (s.list c) λi y=>fl i y.toNat=true:=by
 refine ⟨⟨⟨g.tick,q⟩,?_,?_⟩,λi x d=> ?_,λp x y d t=> ?_,g.waits m⟩
 ·show ((List.range (nP c)).map s.part).length=_;rw [List.length_map,List.length_range];rfl
 ·show ((List.range (nQ c)).map s.proc).length=_;rw [List.length_map,List.length_range];rfl
 ·obtain ⟨b,rfl⟩:=iL.1 d;have pm:=g.part i b;refine ⟨⟨pm.cur.1,by rw [JX m];exact pm.cur.2,pm.jP⟩,KP m rfl pm.log.1 λe f=>pm.log.2 e f,pm.lost,pm.kH,pm.full,pm.gK,pm.ib,λp hp o=> ?_⟩;obtain ⟨k,u,f⟩:=List.getElem_of_mem hp;have j:(s.part i).az[k]? =some p:=by grind
  rcases g.own i b k p j with h | ⟨a1,a2,a3,a4⟩
  ·exact absurd h o
  ·exact ⟨(uk m).2 ⟨a1,a2,a3⟩,aao a2 (cW.1 (a4.resolve_right (λh=>h)))⟩
 ·obtain ⟨hp,rfl⟩:=gS.1 d;obtain ⟨v,f1,f2,f3⟩:=ug m hp;rw [t] at f1;cases f1;have pm:=g.proc p hp;have a:qc y (s.proc p).pc=dv c p (s.proc p):=vV f3;refine ⟨pm.st,by rw [f3];exact pm.pc,pm.lx,pm.cur,pm.mD,pm.mE,pm.nj.resolve_left (λh=>h),λh=>⟨(pm.dead h).1.resolve_left (λh=>h),(pm.dead h).2⟩,λi l n=> ?_,λh=> ?_,λh=> ?_,λh=> ?_,λh=> ?_⟩
  ·obtain ⟨a1,a2,a3,a4⟩:=pm.dQ i l n;refine ⟨a1,a2,a3,λr b=> ?_⟩;rw [f2];show fl i ((aA c p:Nat):Int).toNat=true;rw [Int.toNat_natCast];exact a4 r b
  ·rw [a];exact pm.recv h
  ·rw [a];exact pm.snd h
  ·rw [a];exact pm.pz h
  ·rw [a];exact pm.iP h
end
abbrev wN (l:Sl) (a:List dB):dh:=iS (bu.ok (sh:=dI) (sz:=6) wc) l a
abbrev uE (l:Sl) (a:List au):dh:=iS (bu.ok (sh:=cO) (sz:=15) vv) l a
section
variable {h0 h1 k:Hp} {K:MK} {pm:Addr} {s:MS} {g:Nat->Nat->Int}
def toE (e:pJ):fF:=⟨e.tick,e.proc,e.value⟩
theorem N9 {i:Nat} {Ps:Sl} {ps:List dB} {rest:Sl->Hp->Prop} (mc:bT K.c) (o:Has h0 ((aB K pm s g).star (wN Ps ps)) k) (sa:iX K.c s) (I:i<nP K.c) (c4:ps.length<=1000)
  (hk:∀z j,Has h0 ((aB K pm s g).star (wN z (ps++ [s.part i]))) j->rest z j):
 ai none (some (K.q i)) λp2=>
 aP none ah k (Addr.add p2 5) λx3=>
 bh prog MP [(.pointer x3)] av av (λr N l=>
 ai none (some (K.q i)) λp3=>
 aP none (af .i64) l (Addr.add p3 1) λw=>
 ai none (some (K.q i)) λp4=>
 aP none av l (Addr.add p4 2) λx5=>
 ai none (some (K.q i)) λp5=>
 aP none (af .i64) l (Addr.add p5 3) λx6=>
 ai none (some (K.q i)) λp6=>
 aP none (af .i64) l (Addr.add p6 4) λx7=>
 ae prog Hy [x5.v] av (λr2 m=>
 ((True/\((aV m (Addr.add p3 1) [(.int .i64 w)])/\((aV m (Addr.add p5 3) [(.int .i64 x6)])/\((aV m (Addr.add p6 4) [(.int .i64 x7)])/\True))))/\bc [(.int .i64 w),r2.v,(.int .i64 x6),(.int .i64 x7),r.v,N.v] (λa G=>
 ((True/\True)/\eS 6 96 [(.int .i64 (0:Int)),(.slice none 0 0),(.int .i64 (0:Int)),(.int .i64 (0:Int)),(.slice none 0 0),(.slice none 0 0)] ⟨Ps.base,Ps.len,Ps.cap⟩ ⟨(some a),1,1⟩ (λO h5=>
 rest O h5) G)) m)) l) k:=by
  have A:=sa.part i I;obtain ⟨V,lA,oM,_,fV⟩:=o.fst;obtain ⟨m,w,b0,c7,l4,a9,b8,ol,c0⟩:=oM.qi I;have el:w.ag=some b0:=a9.2.2.2.2.1;refine aD (b8.ld (shf:=ah) w.ag rfl ?_);rw [el];refine N8 (SV ol ⟨by have:=A.qY.1;omega,A.qY.2⟩ A.gK λP Q W o2=> ?_);have Y:Has V ((aB K pm s g).star ((te P (s.part i).az).star (wO Q (s.part i).aw))) W:=o2.carry λj L=>by
   have G:=c0 _ _ j L;have e:s.dZ i {s.part i with az:=(s.part i).az,aw:=(s.part i).aw}=s:=Ej
   rwa [e] at G
  obtain ⟨hB,lB,b5,⟨F3,c2,c1⟩,c6⟩:=Y.fst;obtain ⟨h6,x,lp,wp,l6,J,u,b7,_⟩:=b5.Gu I;refine aD (u.ld (shf:=af .i64) x.aj rfl ?_);refine aD (u.ld (shf:=av) x.log rfl ?_);refine aD (u.ld (shf:=af .i64) x.lost rfl ?_);refine aD (u.ld (shf:=af .i64) x.forbidden rfl ?_);refine zdv ?_;unfold O8;have c3:=A.jP;refine wD (an.aN 112 sE rfl) (b7.jE (λ_=>rfl)) (by decide) (λ_=>rfl) (λ_=>rfl) rfl ⟨by omega,by omega⟩ λR X a8 n3=> ?_;have M:=u.grow a8;refine ⟨⟨trivial,M.eh (n:=1) rfl,M.eh (n:=1) rfl,M.eh (n:=1) rfl,trivial⟩,?_⟩;have b1:Has W (iS (bu.ok (sh:=fO) (sz:=3) (dO.ok λx p=>vR x=p)) R (s.part i).log) X:=n3.iN (f:=toE) (λ_=>rfl) λ_=>rfl;have Z:=Y.beside b1;have b6:Has V ((aB K pm s g).star (iS wc (⟨x.aj,R,x.lost,x.forbidden,P,Q⟩:cU) (s.part i))) X:=by
   obtain ⟨hC,lC,c5,_,_⟩:=Z.assoc.fst;refine Z.assoc.map λkk F hF=> ?_;refine Be (λ_ h=>h) (λF' h=> ?_) hF;obtain ⟨F1,F2,e,d,⟨F4,F5,B,d',⟨T,r2,b3,D⟩,⟨U,O,b4,E⟩⟩,⟨S,N,b2,C⟩⟩:=h;refine ⟨S++(T++U),⟨S,T,U,rfl,N,r2,O,J.2.1,J.2.2.1,J.2.2.2.1⟩,?_,λb=> ?_⟩
   ·rw [List.nodup_append,List.nodup_append];refine ⟨b2,⟨b3,b4,λa y b hb H=> ?_⟩,λa y b hb H=> ?_⟩
    ·subst H;exact d' a ((D a).2 y) ((E a).2 hb)
    ·subst H;rcases List.mem_append.1 hb with hb | hb
     ·exact d a ((B a).2 (.inl ((D a).2 hb))) ((C a).2 y)
     ·exact d a ((B a).2 (.inr ((E a).2 hb))) ((C a).2 y)
   ·rw [e b,B b,C b,D b,E b,List.mem_append,List.mem_append];constructor
    ·rintro ((h | h) | h)
     ·exact .inr (.inl h)
     ·exact .inr (.inr h)
     ·exact .inl h
    ·rintro (h | h | h)
     ·exact .inr h
     ·exact .inl (.inl h)
     ·exact .inl (.inr h)
  have oF:=(fV _ _ b6).assoc;obtain ⟨hD,lD,oD,_,b9⟩:=oF.snd;have key:=oD.comm.row (cs:=[(.int .i64 x.aj),R.v,(.int .i64 x.lost),(.int .i64 x.forbidden),P.v,Q.v]) (zero:=[(.int .i64 (0:Int)),(.slice none 0 0),(.int .i64 (0:Int)),(.int .i64 (0:Int)),(.slice none 0 0),(.slice none 0 0)]) (bytes:=96) rfl (λ_=>rfl) (λ_=>rfl) rfl ⟨by omega,by omega⟩ (K:=rest) λz j L=>hk z j (b9 _ _ L);exact λb t hb=>⟨⟨trivial,trivial⟩,key b t hb⟩
theorem Ob {c:aI} {p:Nat} (hp:p<nQ c):mG c s (aA c p) (2*p)=(s.proc p).timer:=by unfold mG;grind
theorem PZ {c:aI} {p:Nat} (hp:p<nQ c):mG c s (aA c p) (2*p+1)=(s.proc p).cJ:=by unfold mG;grind
theorem Od {p:Nat} {Ps:Sl} {ps:List au} {rest:Sl->Hp->Prop} (m:dq h0 K) (R:bT K.c) (o:Has h0 ((aB K pm s g).star (uE Ps ps)) k) (sa:iX K.c s) (td:eH K.c g s) (hp:p<nQ K.c) (c7:ps.length<=1000)
  (hk:∀M y,Has h0 ((aB K pm s g).star (uE M (ps++ [s.proc p]))) y->rest M y):
 ai none (some (K.p p)) λp3=>
 aP none ah k (Addr.add p3 14) λx4=>
 bh prog MX [(.pointer x4)] av (af .i64) (λr r1 C=>
 ai none (some pm) λp4=>
 aP none av C (Addr.add p4 10) λG=>
 ai none (some (K.p p)) λp5=>
 aP none (af .i64) C (Addr.add p5 1) λP=>
 ((bJ G.base G.len P)/\aP none ah C (sat G.base 1 P) λA=>
 ai none A λp6=>
 aP none ah C (Addr.add p6 6) λx8=>
 ae prog wz [(.int .i64 (p:Int))] (af .i64) (λr2 i=>
 (((aV i (Addr.add p4 10) [G.v])/\((aV i (Addr.add p5 1) [(.int .i64 P)])/\((aV i (sat G.base 1 P) [(.pointer A)])/\((aV i (Addr.add p6 6) [(.pointer x8)])/\True))))/\bh prog Fw [(.pointer x8),(.int .i64 r2)] (af .i64) bB (λr3 r4 D=>
 ai none (some pm) λp7=>
 aP none av D (Addr.add p7 10) λH=>
 ai none (some (K.p p)) λp8=>
 aP none (af .i64) D (Addr.add p8 1) λO=>
 ((bJ H.base H.len O)/\aP none ah D (sat H.base 1 O) λa8=>
 ai none a8 λp9=>
 aP none ah D (Addr.add p9 6) λa9=>
 ae prog xA [(.int .i64 (p:Int))] (af .i64) (λr5 E=>
 (((aV E (Addr.add p7 10) [H.v])/\((aV E (Addr.add p8 1) [(.int .i64 O)])/\((aV E (sat H.base 1 O) [(.pointer a8)])/\((aV E (Addr.add p9 6) [(.pointer a9)])/\True))))/\bh prog Fw [(.pointer a9),(.int .i64 r5)] (af .i64) bB (λr6 r7 w=>
 ai none (some (K.p p)) λb5=>
 aP none (af .i64) w (Addr.add b5 3) λc1=>
 ai none (some (K.p p)) λb6=>
 aP none (af .i64) w (Addr.add (Addr.add b6 4) 0) λc2=>
 ai none (some (K.p p)) λb7=>
 aP none wA w (Addr.add (Addr.add b7 4) 1) λf=>
 ai none (some (K.p p)) λb8=>
 aP none bB w (Addr.add b8 13) λc3=>
 bc [(.int .i64 c1),(.int .i64 c2),(.int .i64 f.a0),(.int .i64 f.a1),(.int .i64 f.a2),(.int .i64 f.a3),(.int .i64 f.a4),(.int .i64 f.a5),(.int .i64 f.a6),(.int .i64 f.a7),(.int .i64 r1),(.int .i64 r3),(.bool c3),(.int .i64 r6),r.v] (λa h8=>
 ((True/\True)/\eS 15 136 [(.int .i64 (0:Int)),(.int .i64 (0:Int)),(.int .i64 (0:Int)),(.int .i64 (0:Int)),(.int .i64 (0:Int)),(.int .i64 (0:Int)),(.int .i64 (0:Int)),(.int .i64 (0:Int)),(.int .i64 (0:Int)),(.int .i64 (0:Int)),(.int .i64 (0:Int)),(.int .i64 (0:Int)),(.bool false),(.int .i64 (0:Int)),(.slice none 0 0)] ⟨Ps.base,Ps.len,Ps.cap⟩ ⟨(some a),1,1⟩ (λr8 h9=>
 rest r8 h9) h8)) w) E)) D)) i)) C)) k:=by
  have J:aA K.c p<nP K.c:=R.eR;have c6:=R.procs;have c5:=R.parts;have sp:=sa.proc p hp;have c4:=sp.len;obtain ⟨Y,lA,oM,_,fV⟩:=o.fst;obtain ⟨h1,z,a,l1,hz,oz,oq,put⟩:=oM.nb hp;have b0:z.post=some a:=hz.2.2.2.2.2.2;refine aD (oz.ld (shf:=ah) z.post rfl ?_);rw [b0];refine PU (Vh oq ⟨by omega,λl Z=>⟨(sp.dQ l Z).waiters,by have:=(sp.dQ l Z).values;omega⟩⟩ λT k2 o2=> ?_);have o3:Has Y ((aB K pm s g).star (ux T (s.proc p).ak)) k2:=o2.carry λy S=>by
   have i:=put _ _ y S;have e:s.bd p {s.proc p with ak:=(s.proc p).ak,aj:=(s.proc p).aj}=s:=Mj
   rwa [e] at i
  obtain ⟨hB,lB,j,_,_⟩:=o3.fst;have mB:=m.mono (Hp.le_trans lA lB);obtain ⟨h2,d,a2,l2,L,u,_⟩:=j.df hp;obtain ⟨X,I⟩:=mB.tr j J;obtain ⟨w,A,c8,c0,l7,b3,N,ow,_⟩:=j.iv J;have W:A.dx=some c0:=b3.2.2.2.2.2;have V:d.part=(aA K.c p:Int):=L.2.1;refine aD (j.dY.ld (shf:=av) K.x.parts rfl ?_);refine aD (u.ld (shf:=af .i64) d.part rfl ?_);have Q:=u.eh (off:=1) (n:=1) (vs:=[.int .i64 d.part]) rfl;rw [V] at Q ⊢;refine ⟨X,some (K.q (aA K.c p)),I,?_⟩;refine aD (N.ld (shf:=ah) A.dx rfl ?_);refine Ia (yB (by omega) ?_);refine ⟨⟨j.dY.eh (n:=1) rfl,Q,I,N.eh (n:=1) rfl,trivial⟩,?_⟩;rw [W];refine zqd (IH ow λb1=> ?_);refine aD (j.dY.ld (shf:=av) K.x.parts rfl ?_);refine aD (u.ld (shf:=af .i64) d.part rfl ?_);rw [V];refine ⟨X,some (K.q (aA K.c p)),I,?_⟩;refine aD (N.ld (shf:=ah) A.dx rfl ?_);refine Ib (yC (by omega) ?_);refine ⟨⟨j.dY.eh (n:=1) rfl,Q,I,N.eh (n:=1) rfl,trivial⟩,?_⟩;rw [W];refine zqd (IH ow λb2=> ?_);rw [td _ _ J,td _ _ J,Ob hp,PZ hp];refine aD (u.ld (shf:=af .i64) d.state rfl (aD ?_));rw [sP];refine u.ld (shf:=af .i64) d.il rfl (aD ?_);rw [sP];refine u.ld (shf:=wA) (rowOf (dG d)) rfl (aD ?_);refine u.ld (shf:=bB) d.bN rfl ?_;have U:fS (dG d)=(s.proc p).core:=L.2.2.2.2.1;have b4:Has Y ((aB K pm s g).star (iS vv (⟨d.state,d.il,d.eZ,d.fa,d.fb,d.fc,d.fe,d.ff,d.fg,d.fh,(s.proc p).aj,(s.proc p).timer,d.bN,(s.proc p).cJ,T⟩:bR) (s.proc p))) k2:=by refine o3.map λkk F hF=> ?_;refine Be (λ_ h=>h) (λF' h=> ?_) hF;obtain ⟨B,r,nd,e⟩:=h;exact ⟨B,⟨r,L.2.2.2.1,congrArg Core.pc U,congrArg Core.br U,rfl,rfl,L.2.2.2.2.2.1,rfl⟩,nd,e⟩
  have oF:=(fV _ _ b4).assoc;obtain ⟨hD,lD,oD,_,b9⟩:=oF.snd;have key:=oD.comm.row (cs:=[(.int .i64 d.state),(.int .i64 d.il),(.int .i64 d.eZ),(.int .i64 d.fa),(.int .i64 d.fb),(.int .i64 d.fc),(.int .i64 d.fe),(.int .i64 d.ff),(.int .i64 d.fg),(.int .i64 d.fh),(.int .i64 (s.proc p).aj),(.int .i64 (s.proc p).timer),(.bool d.bN),(.int .i64 (s.proc p).cJ),T.v]) (zero:=[(.int .i64 (0:Int)),(.int .i64 (0:Int)),(.int .i64 (0:Int)),(.int .i64 (0:Int)),(.int .i64 (0:Int)),(.int .i64 (0:Int)),(.int .i64 (0:Int)),(.int .i64 (0:Int)),(.int .i64 (0:Int)),(.int .i64 (0:Int)),(.int .i64 (0:Int)),(.int .i64 (0:Int)),(.bool false),(.int .i64 (0:Int)),(.slice none 0 0)]) (bytes:=136) rfl (λ_=>rfl) (λ_=>rfl) rfl ⟨by omega,by omega⟩ (K:=rest) λM y S=>hk M y (b9 _ _ S);exact λb t hb=>⟨⟨trivial,trivial⟩,key b t hb⟩
end
section
variable {h0 h1 k:Hp} {K:MK} {pm:Addr} {s:MS} {g:Nat->Nat->Int}
theorem Ln {a:Type} {f:Nat->a} {t:Int} (h:0<=t):(List.range (t+1).toNat).map f=(List.range t.toNat).map f++ [f t.toNat]:=by rw [show (t+1).toNat=t.toNat+1 by omega,List.range_succ,List.map_append];rfl
theorem VX {Q:aZ->Hp->Prop} (m:dq h0 K) (v:bT K.c) (o:Has h0 (aB K pm s g) k) (P:iX K.c s) (td:eH K.c g s)
  (W:∀r f,Has h0 ((aB K pm s g).star (iS ZM r (s.list K.c))) f->Q r f):MF prog (some pm) Q k:=by
 unfold MF;have b5:=v.procs;have b3:=v.parts;have b4:=m.qk;have b6:=m.nf;refine aD (o.dY.ld (shf:=af .i64) s.tick rfl ?_);refine aD (o.dY.ld (shf:=av) K.x.parts rfl ?_);have b0:Has k (wN (⟨none,0,0⟩:Sl) ([]:List dB)) k:=Has.mU (okQ:=wc) (Hp.le_refl _);refine bD.intro (λ(t:Int) (st:aZ) f=>0<=t/\t<=(nP K.c:Int)/\st.gO=s.tick/\st.aQ=⟨none,0,0⟩/\Has h0 ((aB K pm s g).star (wN st.eo ((List.range t.toNat).map s.part))) f) (λt _ _=>(nP K.c-t).toNat) ⟨by omega,by omega,rfl,rfl,by simpa using o.beside b0⟩ ?_;rintro t st M ⟨t0,t1,I,G,w⟩;by_cases h:t<(nP K.c:Int)
 ·rw [if_pos (decide_eq_true (by omega))];have n:t.toNat<nP K.c:=by omega
  have z:((t.toNat:Nat):Int)=t:=by omega
  obtain ⟨i,l⟩:=m.tr (Has.left w) n;rw [z] at i l;refine ⟨i,some (K.q t.toNat),l,?_⟩;refine N9 (Ps:=st.eo) (ps:=(List.range t.toNat).map s.part) v w P n (by rw [List.length_map,List.length_range];omega) λZ f A=> ?_;rw [wrap64 (by omega) (by omega)];refine ⟨⟨by omega,by omega,I,G,?_⟩,by omega⟩;rw [Ln t0];exact A
 ·rw [if_neg (λe=>h (by have:=of_decide_eq_true e;omega))];have z:t.toNat=nP K.c:=by omega
  rw [z] at w;obtain ⟨L,lA,O,hP,b2⟩:=w.fst;have N:=m.mono lA;refine aD (O.dY.ld (shf:=av) K.x.procs rfl ?_);have b1:Has M (uE (⟨none,0,0⟩:Sl) ([]:List au)) M:=Has.mU (okQ:=vv) (Hp.le_refl _);refine bD.intro (λ(j:Int) (s1:aZ) f=>0<=j/\j<=(nQ K.c:Int)/\s1.gO=s.tick/\s1.eo=st.eo/\Has L ((aB K pm s g).star (uE s1.aQ ((List.range j.toNat).map s.proc))) f) (λj _ _=>(nQ K.c-j).toNat) ⟨by omega,by omega,I,rfl,by rw [G];simpa using O.beside b1⟩ ?_;rintro j s1 Y ⟨X,j1,J,H,y⟩;by_cases V:j<(nQ K.c:Int)
  ·rw [if_pos (decide_eq_true (by omega))];have n:j.toNat<nQ K.c:=by omega
   have u:((j.toNat:Nat):Int)=j:=by omega
   obtain ⟨i,l⟩:=N.ptr (Has.left y) n;rw [u] at i l;refine ⟨i,some (K.p j.toNat),l,?_⟩;have key:=Od (Ps:=s1.aQ) (ps:=(List.range j.toNat).map s.proc) (rest:=λr8 R=>(0<=yw (j+1)/\yw (j+1)<=(nQ K.c:Int)/\s1.gO=s.tick/\s1.eo=st.eo/\Has L ((aB K pm s g).star (uE r8 ((List.range (yw (j+1)).toNat).map s.proc))) R)/\(nQ K.c-yw (j+1)).toNat<(nQ K.c-j).toNat) N v y P td n (by rw [List.length_map,List.length_range];omega) λZ f A=>by rw [wrap64 (by omega) (by omega)];refine ⟨⟨by omega,by omega,J,H,?_⟩,by omega⟩;rw [Ln X];exact A
   rw [u] at key;exact key
  ·rw [if_neg (λe=>V (by have:=of_decide_eq_true e;omega))];have u:j.toNat=nQ K.c:=by omega
   rw [u] at y;refine W s1 Y ?_;have o3:=(b2 _ _ y).assoc;refine o3.map λkk F S=> ?_;refine Be (λ_ h=>h) (λF' h=> ?_) S;obtain ⟨F1,F2,e,d,⟨C,r2,a9,E⟩,⟨B,r1,a8,D⟩⟩:=h;refine ⟨B++C,⟨B,C,rfl,by rw [H];exact r1,r2,J⟩,?_,λb=> ?_⟩
   ·rw [List.nodup_append];exact ⟨a8,a9,λa T b hb U=>by subst U;exact d a ((E a).2 hb) ((D a).2 T)⟩
   ·rw [e b,D b,E b,List.mem_append];exact ⟨λh=>h.symm,λh=>h.symm⟩
end
theorem xa {b c:Type} {R:b->c->Hp->List Nat->Prop} (ok:gH R):gH (nH R):=⟨λo a=>nH.same ok o a,λo=>nH.known ok o⟩
abbrev eQ :bK->List Value:=λx=>bg (bC.enc x)
section
variable {α:Type} {h:Hp} {sz:Nat} {enc:α->List Value} {l:Sl} {xs:List α}
theorem YG {b o:Nat} {i:Int}:sat (some ⟨b,o,none⟩) sz i=⟨b,o+i.toNat*sz,none⟩:=by unfold sat;rw [Option.getD_some,jC]
theorem c9.NS {F:List Nat} (o:c9 h sz enc l xs F) (e:∀x,(enc x).length=sz) {i:Nat} {x d:α} (q:xs[i]? =some x) {off:Nat} {new:List Value} (M:off+new.length<=sz) (z:enc d=(enc x).take off++new++(enc x).drop (off+new.length))
  {K:Hp->Prop} (w:∀c,c9 c sz enc l (xs.set i d) F->Mv F h F c->K c):bW h ((sat l.base sz (i:Int)).add off) new K:=by
 have g:i<xs.length:=by grind
 obtain ⟨D,r,E⟩:=o;rcases E with ⟨_,H,_⟩ | ⟨b,a,j,rfl,B,u,f⟩
 ·omega
 ·rw [j,YG,jC,show ((i:Int)).toNat=i from rfl,Nat.zero_add];have J:i*sz+sz<=l.len*sz:=by have:=Nat.mul_le_mul_right sz (show i+1<=l.len by omega);grind
  have L:l.len*sz<=l.cap*sz:=Nat.mul_le_mul_right sz r;refine qE B (by rw [u];omega) λc C A=> ?_;refine w c ⟨by simp [D],r,.inr ⟨b,_,j,rfl,A,?_,?_⟩⟩ C
  ·grind
  ·have t1:a.take (i*sz)=(xs.take i).flatMap enc:=by rw [Bd e,<-f,List.take_take];congr 1;omega
   have t2:(a.drop (i*sz+sz)).take (l.len*sz-(i*sz+sz))=(xs.drop (i+1)).flatMap enc:=by rw [yn e,<-f,Nat.add_mul,Nat.one_mul,List.drop_take]
   have G:(a.drop (i*sz)).take sz=enc x:=by
    have k:(xs.drop i).flatMap enc=enc x++(xs.drop (i+1)).flatMap enc:=by rw [List.drop_eq_getElem_cons g,List.flatMap_cons];rw [List.getElem?_eq_getElem g] at q;rw [Option.some.inj q]
    have v:(xs.drop i).flatMap enc=(a.drop (i*sz)).take (l.len*sz-i*sz):=by rw [yn e,<-f,List.drop_take]
    rw [v] at k;have I:=congrArg (List.take sz) k;grind
   have m:a=a.take (i*sz)++(enc x++a.drop (i*sz+sz)):=by rw [<-G,<-List.drop_drop,List.take_append_drop,List.take_append_drop]
   have n:(a.take (i*sz)).length=i*sz:=by rw [List.length_take];omega
   have p:(enc x).length=sz:=e x;have s:a.take (i*sz+off)=a.take (i*sz)++(enc x).take off:=by
    conv=>lhs;rw [m]
    rw [List.take_append,n,List.take_of_length_le (by omega),List.take_append,p,show i*sz+off-i*sz=off by omega,show off-sz=0 by omega,List.take_zero,List.append_nil]
   have t:a.drop (i*sz+off+new.length)=(enc x).drop (off+new.length)++a.drop (i*sz+sz):=by
    conv=>lhs;rw [m]
    rw [List.drop_append,n,List.drop_eq_nil_of_le (by omega),List.nil_append,List.drop_append,p,show i*sz+off+new.length-i*sz=off+new.length by omega,show off+new.length-sz=0 by omega,List.drop_zero]
   rw [s,t,show a.take (i*sz)++(enc x).take off++new++((enc x).drop (off+new.length)++a.drop (i*sz+sz))=(a.take (i*sz)++enc d)++a.drop (i*sz+sz) by rw [z];simp];rw [Ea d g];have y:(a.take (i*sz)++enc d).length=i*sz+sz:=by grind
   rw [List.take_append,y,t2,List.take_of_length_le (by omega),t1];simp
end
section
variable {h0 k:Hp}
theorem Has.xc {d:Type} {sz:Nat} {enc:d->List Value} {l:Sl} {c:List d} (o:Has h0 (fB sz enc l c) k) (n:∀x,(enc x).length=sz) {i:Nat} {x x':d} (u:c[i]? =some x) {off:Nat} {new:List Value} (t:off+new.length<=sz) (s:enc x'=(enc x).take off++new++(enc x).drop (off+new.length))
  {K:Hp->Prop} (q:∀a,Has h0 (fB sz enc l (c.set i x')) a->K a):bW k ((sat l.base sz (i:Int)).add off) new K:=by
 obtain ⟨r,F,⟨B,h,e⟩,p⟩:=o;refine h.NS n u t s λa j m=>q a ⟨λb f g=>m.bq b f (r b f g) λhb=> ?_,F,⟨B,j,e⟩,p⟩;grind
theorem Has.mX {b:Type} {sz:Nat} {enc:b->List Value} {l:Sl} {a:List b} (o:Has h0 (fB sz enc l a) k) (c:∀x,(enc x).length=sz):Rw k sz enc l a:=by obtain ⟨f,F,⟨B,h,e⟩,d⟩:=o;exact h.rw c
theorem Has.rowsOf {m:Type} {sh:Shape} {sz:Nat} {Q:sh.T->m->Hp->List Nat->Prop} {okQ:gH Q} {l:Sl} {c:List sh.T} {j:List m} (o:Has h0 ((fB sz (λx=>bg (sh.enc x)) l c).star (iS (xa okQ) c j)) k):Has h0 (iS (bu.ok (sh:=sh) (sz:=sz) okQ) l j) k:=by
 refine o.map λw F h=> ?_;obtain ⟨u,v,e,d,⟨f,i,n⟩,⟨g,t,s,p⟩⟩:=h;refine ⟨f++g,⟨c,f,g,rfl,i,t⟩,?_,λb=> ?_⟩
 ·rw [List.nodup_append];exact ⟨i.nodup,s,λa q b hb r=>by subst r;exact d a ((n a).2 q) ((p a).2 hb)⟩
 grind
theorem VY {x:al} {c:aI} {Q:al->Hp->Prop} (a:gL k x c) (hl:c.labels.length<=1000) (ht:c.table.length<=1000) (hp:c.procs.length<=1000) (hc:∀y∈c.procs,y.code.length<=1000)
  (hq:∀r m,Has k ((iS fM r.aE c.labels).star ((iS gu r.Table c.table).star (iS iu r.aQ c.procs))) m->r.Fuel=c.fuel->r.gz=c.lane->r.bG=c.ag->r.Log=c.log->Q r m):Xk prog x Q k:=by
 unfold Xk;refine zfu ?_;unfold Mz;refine wD (enc:=λx:Int=>bg ((af .u64).enc x)) (an.aN 22 xi rfl) a.labels (by decide) (λ_=>rfl) (λ_=>rfl) rfl ⟨by omega,by omega⟩ λll L l1 n1=> ?_;refine ⟨⟨trivial,trivial,trivial⟩,?_⟩;have a1:=a.mono l1;refine MD ?_;unfold Fu;refine wD (enc:=λx:Int=>bg ((af .i64).enc x)) (an.aN 23 rA rfl) a1.table (by decide) (λ_=>rfl) (λ_=>rfl) rfl ⟨by omega,by omega⟩ λlt w l2 n2=> ?_;refine ⟨⟨trivial,trivial⟩,?_⟩;have a2:=a1.mono l2;obtain ⟨g,b3,G⟩:=a2.procs;have b2:g.length=c.procs.length:=G.len;refine zlo ?_;unfold zfj;refine wD (enc:=eQ) (an.aN 24 BU rfl) b3 (by decide) (λ_=>rfl) (λ_=>rfl) rfl ⟨by omega,by omega⟩ λlp M l3 N=> ?_;have b9:=(N.mX (λ_=>rfl)).1;have nil:Has M (iS (xa rQ) ([]:List bK) ([]:List fq)) M:=Has.rm (B:=[]) (Hp.le_refl _) rfl .nil λ_ h=>by cases h
 refine aC.intro (λ(t:Int) m=>0<=t/\t<=(g.length:Int)/\∃j:List bK,j.length=t.toNat/\Has w ((fB 2 eQ lp (j++g.drop t.toNat)).star (iS (xa rQ) j (c.procs.take t.toNat))) m) (λt _=>(g.length-t).toNat) ⟨by omega,by omega,[],rfl,by simpa using N.beside nil⟩ ?_;rintro t m ⟨S,t1,j,D,o⟩;by_cases h:t<(g.length:Int)
 ·rw [if_pos (decide_eq_true (by omega))];have H:t.toNat<g.length:=by omega
  have b7:((t.toNat:Nat):Int)=t:=by omega
  obtain ⟨h5,l5,oO,_,fI⟩:=o.fst;have s:(j++g.drop t.toNat)[t.toNat]? =some g[t.toNat]:=by grind
  obtain ⟨pc,b1,C,u,I,a9⟩:=G.get (i:=t.toNat) (List.getElem?_eq_getElem H);generalize g[t.toNat]=y at s I C;have b8:u.length<=1000:=by grind
  refine Rs.get (sh:=bC) (oO.mX (λ_=>rfl)) (λ_=>rfl) (by omega) S (by rw [List.length_append,List.length_drop];omega) λ(y':bK) J=> ?_;rw [s] at J;cases J;refine znc ?_;unfold zfz;refine wD (enc:=λx=>bg (aM.enc x)) (an.aN 48 BY rfl) (Rw.mono o.le I) (by decide) (λ_=>rfl) (λ_=>rfl) rfl ⟨by omega,by omega⟩ λn k6 l6 n6=> ?_;have X:∀l:List aL,dj (λx p=>ba x=p) l (l.map ba):=λl=>by
   induction l with
   | nil=>trivial
   | cons a r ih=>exact ⟨rfl,ih⟩
  have z:Has m (iS gE n pc.code) k6:=by rw [<-a9];obtain ⟨b0,F,⟨B,E,e⟩,hf⟩:=n6;exact Has.rm b0 ⟨u,B,[],by simp,E,EZ (X u)⟩ E.nodup λb hb=>hf b ((e b).2 hb)
  have oA:=(o.beside z).assoc;obtain ⟨h7,l7,P,_,b6⟩:=oA.fst;have Z:=(Rs.get (sh:=bC) (K:=λ_=>True) (P.mX (λ_=>rfl)) (λ_=>rfl) (by omega) S (by rw [List.length_append,List.length_drop];omega) λ_ _=>trivial).1;refine ⟨⟨trivial,trivial⟩,Z,?_⟩;have key:=P.xc (i:=t.toNat) (x':=(⟨y.Part,n⟩:bK)) (off:=1) (new:=[n.v]) (λ_=>rfl) s (by simp) rfl
   (K:=λW=>(0<=yw (t+1)/\yw (t+1)<=(g.length:Int)/\∃j:List bK,j.length=(yw (t+1)).toNat/\Has w ((fB 2 eQ lp (j++g.drop (yw (t+1)).toNat)).star (iS (xa rQ) j (c.procs.take (yw (t+1)).toNat))) W)/\(g.length-yw (t+1)).toNat<(g.length-t).toNat) λk8 O=> ?_
  ·grind
  ·rw [wrap64 (by omega) (by omega)];refine ⟨⟨by omega,by omega,j++ [⟨y.Part,n⟩],by rw [List.length_append,D,List.length_singleton];omega,?_⟩,by omega⟩;have q:(t+1).toNat=t.toNat+1:=by omega
   have U:(j++g.drop t.toNat).set t.toNat (⟨y.Part,n⟩:bK)=(j++ [⟨y.Part,n⟩])++g.drop (t.toNat+1):=by rw [List.set_append_right _ _ (by omega),D,Nat.sub_self,List.drop_eq_getElem_cons H,List.set_cons_zero,List.append_assoc];rfl
   rw [U] at O;have V:c.procs.take (t.toNat+1)=c.procs.take t.toNat++ [pc]:=by rw [List.take_add_one,b1];rfl
   rw [q,V];refine (b6 _ _ O).map λkk F Y=>Be (λ_ h=>h) (λF' h=> ?_) Y;obtain ⟨F1,F2,e,d,⟨T,r1,b4,f1⟩,⟨A,r2,b5,f2⟩⟩:=h;refine ⟨T++A,nH.snoc (R:=oe) (a:=(⟨y.Part,n⟩:bK)) (b:=pc) (B':=A) ⟨C,r2⟩ r1,?_,λb=> ?_⟩
   ·rw [List.nodup_append];exact ⟨b4,b5,λa ha b hb a8=>by subst a8;exact d a ((f1 a).2 ha) ((f2 a).2 hb)⟩
   grind
 ·rw [if_neg (λe=>h (by grind))];have q:t.toNat=g.length:=by omega
  rw [q,List.drop_length,List.append_nil,b2,List.take_length] at o;have o1:=o.rowsOf (sh:=bC) (okQ:=rQ);have oU:Has k (iS fM ll c.labels) L:=n1.iN (f:=λx=>x) (λ_=>rfl) λ_=>rfl;have z:Has L (iS gu lt c.table) w:=n2.iN (f:=λx=>x) (λ_=>rfl) λ_=>rfl;exact hq _ m ((oU.beside z).beside o1).assoc a.fuel a.lane a.ag a.log
end
section
variable {h0 k:Hp} {K:MK} {pm:Addr} {s:MS} {f:Nat->Nat->Int}
theorem F8 {r:al} {c:aI} (o:Has h0 ((iS fM r.aE c.labels).star ((iS gu r.Table c.table).star (iS iu r.aQ c.procs))) k) (q:r.Fuel=c.fuel) (t:r.gz=c.lane) (u:r.bG=c.ag) (v:r.Log=c.log):Has h0 (iS ir r c) k:=by
 refine o.map λG F h=> ?_;obtain ⟨B,C,e,d,⟨l,z,w,f1⟩,⟨D,E,i,p,⟨m,r2,x,f2⟩,⟨n,A,y,f3⟩⟩⟩:=h;refine ⟨l++(m++n),⟨l,m,n,rfl,z,r2,A,q,t,u,v⟩,?_,λb=> ?_⟩
 ·rw [List.nodup_append,List.nodup_append];refine ⟨w,⟨x,y,λa g b hb j=> ?_⟩,λa g b hb j=> ?_⟩
  ·subst j;exact p a ((f2 a).2 g) ((f3 a).2 hb)
  ·subst j;rcases List.mem_append.1 hb with hb | hb
   ·exact d a ((f1 a).2 g) ((i a).2 (.inl ((f2 a).2 hb)))
   ·exact d a ((f1 a).2 g) ((i a).2 (.inr ((f3 a).2 hb)))
 ·rw [e b,i b,f1 b,f2 b,f3 b,List.mem_append,List.mem_append]
end
def lV :dB:=⟨0,[],0,0,[],[]⟩
def qm :au:=⟨0,0,[],0,0,false,0,[]⟩
def bS (t:gN):MS:=⟨t.tick,λi=>t.parts.getD i lV,λp=>t.procs.getD p qm⟩
theorem HU {l:List Int} (h:∀z∈l,l.countP (λy=>decide (y=z))<=1):l.Nodup:=by
 induction l with
 | nil=>simp
 | cons a l d=>
  rw [List.nodup_cons];refine ⟨λb=> ?_,d λz e=> ?_⟩
  ·have c:=h a (List.mem_cons_self ..);rw [List.countP_cons] at c;have:0<l.countP (λy=>decide (y=a)):=List.countP_pos_iff.2 ⟨a,b,by simp⟩;simp at c;exact absurd b (by
    intro b;have:=c a b;exact this rfl)
  grind
theorem xN {c:Type} {f:c->Nat} {l:List c} {a:c} (h:a∈l):f a<=(l.map f).sum:=by
 induction l with
 | nil=>cases h
 | cons b l d=>grind
theorem yD {b:Type} {f:b->Nat} {l:List b} (h:(l.map f).sum≠0):∃a∈l,f a≠0:=by refine Classical.byContradiction λc=>h ?_;rw [List.sum_eq_zero_iff_forall_eq_nat];grind
section
variable {c:aI} {fl:Nat->Nat->Bool} {t:gN}
theorem Es (hp:t.parts.length=nP c) (d:t.procs.length=nQ c):(bS t).list c=t:=by
 have a:(List.range (nP c)).map (bS t).part=t.parts:=by
  refine List.ext_getElem? λj=> ?_;rw [List.getElem?_map];by_cases h:j<nP c
  ·rw [List.getElem?_range h,List.getElem?_eq_getElem (by omega)];simp [bS,List.getD,List.getElem?_eq_getElem (show j<t.parts.length by omega)]
  grind
 have b:(List.range (nQ c)).map (bS t).proc=t.procs:=by
  refine List.ext_getElem? λj=> ?_;rw [List.getElem?_map];by_cases h:j<nQ c
  ·rw [List.getElem?_range h,List.getElem?_eq_getElem (by omega)];simp [bS,List.getD,List.getElem?_eq_getElem (show j<t.procs.length by omega)]
  grind
 unfold MS.list;rw [a,b];rfl
theorem IW (m:bT c) {i:Nat} {st:gN}:∀ {l:List pJ} {last:Int},wM c st i last l->l.Pairwise (λa b=>a.tick<=b.tick)/\∀e∈l,last<=e.tick/\e.tick<st.tick/\0<=e.proc/\e.proc.toNat<nQ c/\aA c e.proc.toNat=i
 | [],_,_=>⟨List.Pairwise.nil,λe h=>by cases h⟩
 | e::r,last,h=>by
  obtain ⟨f,g,j,k⟩:=h;obtain ⟨a,b⟩:=IW m k;refine ⟨List.pairwise_cons.2 ⟨λd he'=>(b d he').1,a⟩,λd he'=> ?_⟩;rcases List.mem_cons.1 he' with rfl | he'
  ·exact ⟨f,g,(uk m).1 j⟩
  grind
theorem JZ (m:bT c) (h:uy c t λi y=>fl i y.toNat=true) (hr:∀x∈t.procs,x.br.length=8):Good c fl (bS t) No No t.tick:=by
 obtain ⟨⟨hT,hp,hq⟩,hP,hQ,b6,b7,b5⟩:=h;have d3:=Es (c:=c) (t:=t) hp hq;have I:∀ {i},i<nP c->t.parts[i]? =some ((bS t).part i):=λ{i} d=>by have:=Hn (c:=c) (s:=bS t) d;grind
 have g:∀ {i},i<nQ c->t.procs[i]? =some ((bS t).proc i):=λ{i} d=>by have:=yb (c:=c) (s:=bS t) d;grind
 have c6:∀ {p:Int} {q:au->Prop},NU t p q->p.toNat<nQ c->q ((bS t).proc p.toNat):=λ{p q} h hp=>by obtain ⟨x,B,H⟩:=h;grind
 have b0:∀ {p:Int} {q:au->cp->Prop},Mm c t p q->p.toNat<nQ c->∃n,dv c p.toNat ((bS t).proc p.toNat)=some n/\q ((bS t).proc p.toNat) n:=λ{p q} h hp=>by obtain ⟨x,y,n,B,H,S,e4⟩:=h;rw [g hp] at B;cases B;obtain ⟨y',f1,f2,f3⟩:=ug m hp;rw [H] at f1;cases f1;exact ⟨n,by rw [<-vV f3];exact S,e4⟩
 have c8:∀p,p<nQ c->∀j,j<nQ c->∀(i:Nat) l,((bS t).proc j).ak[i]? =some l->∀w∈l.waiters,w.proc=(p:Int)->((bS t).proc p).state=2:=λp hp j u i l L w G e=>by obtain ⟨y,f1,f2,f3⟩:=ug m u;have O:=(b7 j _ y (g u) f1 i l L w G).2.2.2.2;obtain ⟨n,_,E,_⟩:=b0 O (by omega);rw [e,Int.toNat_natCast] at E;exact E
 have c7:∀p,p<nQ c->∀j,j<nP c->∀q∈((bS t).part j).aw,(p:Int)∈q->((bS t).proc p).state=3:=λp hp j u q X M=>by
  obtain ⟨k,hk,K⟩:=List.getElem_of_mem X;have W:((bS t).part j).aw[k]? =some q:=by grind
  obtain ⟨n,_,E,_⟩:=b0 (b6 j _ (I u) k q W _ M).2.1 (by omega);rw [Int.toNat_natCast] at E;exact E
 refine ⟨hT.1,λi d=> ?_,λp F=> ?_,λi d k o ho=> ?_,λi d k q c5=> ?_,λr b8 i l L=> ?_,λp F _ N=> ?_,λp F _ h2=> ?_⟩
 ·obtain ⟨⟨a1,a2,a3⟩,a4,a5,a6,a7,Y,a9,_⟩:=hP i _ (I d);obtain ⟨Q,R⟩:=IW m a4;exact ⟨⟨a1,by rw [JX m] at a2;exact a2⟩,a3,⟨Q,R⟩,a5,a6,a7,Y,a9⟩
 ·obtain ⟨y,f1,f2,f3⟩:=ug m F;obtain ⟨a1,a2,a3,a4,a5,a6,a7,Y,a9,Q,R,b3,b4⟩:=hQ p _ y (g F) f1;rw [vV f3] at Q R b3 b4;rw [f3] at a2;refine ⟨a1,a2,a3,a4,a5,a6,.inr a7,λh=>⟨.inr (Y h).1,(Y h).2⟩,λi l L=> ?_,Q,R,b3,b4,hr _ (List.mem_of_getElem? (g F))⟩;obtain ⟨C,b,D,c4⟩:=a9 i l L;refine ⟨C,b,D,λhu d=> ?_⟩;have:=c4 hu d;rw [f2] at this;have this:fl i ((aA c p:Nat):Int).toNat=true:=this
  rwa [Int.toNat_natCast] at this
 ·by_cases e:o= -1
  ·exact .inl e
  ·obtain ⟨Q,R⟩:=(hP i _ (I d)).2.2.2.2.2.2.2 o (List.mem_of_getElem? ho) e;obtain ⟨C,b,D⟩:=(uk m).1 Q;exact .inr ⟨C,b,D,.inl (cW.2 (c6 R b))⟩
 ·have J:=b6 i _ (I d) k q c5;refine ⟨HU λz U=> ?_,λz U=> ?_,λd1=> ?_⟩
  ·obtain ⟨C,b,D⟩:=(uk m).1 (J z U).1;have N:=b5 z.toNat _ (g b);rw [show ((z.toNat:Nat):Int)=z by omega] at N;have T:q.countP (λy=>decide (y=z))<=mh z ((bS t).part i):=xN (f:=λq:List Int=>q.countP (λy=>decide (y=z))) (List.mem_of_getElem? c5);have O:mh z ((bS t).part i)<=(t.parts.map (mh z)).sum:=xN (List.mem_of_getElem? (I d));split at N<;>omega
  ·obtain ⟨C,b,D⟩:=(uk m).1 (J z U).1;obtain ⟨n,B,H,S⟩:=b0 (J z U).2.1 b;obtain ⟨y,f1,f2,f3⟩:=ug m b;have O:=(hQ z.toNat _ y (g b) f1).2.2.2.2.2.2.2.2.2.2.2.1 H;obtain ⟨n',Z,g2⟩:=O;rw [vV f3,B] at Z;cases Z;exact ⟨C,b,D,λh=>h,.inr ⟨H,n,B,g2,S⟩⟩
  ·cases q with
   | nil=>grind
   | cons a r=>obtain ⟨o,B,H,S⟩:=(J a (List.mem_cons_self ..)).2.2;refine ⟨o,B,by omega,λM=> ?_⟩;grind
 ·obtain ⟨y,f1,f2,f3⟩:=ug m b8;have J:=b7 r _ y (g b8) f1 i l L;refine ⟨HU λz U=> ?_,λd1=> ?_,λw G=> ?_⟩
  ·obtain ⟨w,G,rfl⟩:=List.mem_map.1 U;obtain ⟨C,b,D⟩:=(uk m).1 (J w G).2.1;have N:=b5 w.proc.toNat _ (g b);rw [show ((w.proc.toNat:Nat):Int)=w.proc by omega] at N;have T:uI w.proc l<=mg w.proc ((bS t).proc r):=xN (List.mem_of_getElem? L);have O:mg w.proc ((bS t).proc r)<=(t.procs.map (mg w.proc)).sum:=xN (List.mem_of_getElem? (g b8));rw [vW] at T;split at N<;>omega
  ·cases d4:l.waiters with
   | nil=>grind
   | cons a ws=>obtain ⟨B,_,S,e4,_⟩:=J a (by grind);exact ⟨by omega,.inl (cW.2 S),e4⟩
  ·obtain ⟨B,H,_,_,e5⟩:=J w G;obtain ⟨C,b,D⟩:=(uk m).1 H;obtain ⟨n,Z,g2,g3,g4,g5⟩:=b0 e5 b;exact ⟨C,b,D,λh=>h,.inr ⟨g2,n,Z,g3,by simp [fi,List.getD,g4],by simp [fi,List.getD,g5]⟩⟩
 ·have T:=b5 p _ (g F);rw [if_pos (.inl N)] at T;have O:(t.procs.map (mg (p:Int))).sum=0:=by
   rw [List.sum_eq_zero_iff_forall_eq_nat];intro y hy;obtain ⟨x,P,rfl⟩:=List.mem_map.1 hy;obtain ⟨j,u,K⟩:=List.getElem_of_mem P;have v:j<nQ c:=by have:t.procs.length=nQ c:=hq;omega
   have e:x=(bS t).proc j:=by have A:=g v;rw [List.getElem?_eq_getElem u,K] at A;exact Option.some.inj A
   subst e;refine Ep λl L w G ew=> ?_;obtain ⟨i,d,V⟩:=List.getElem_of_mem L;have:=c8 p F j v i l (by rw [List.getElem?_eq_getElem d,V]) w G ew;omega
  have E:(t.parts.map (mh (p:Int))).sum≠0:=by omega
  obtain ⟨x,P,b9⟩:=yD E;obtain ⟨j,u,K⟩:=List.getElem_of_mem P;have v:j<nP c:=by have:t.parts.length=nP c:=hp;omega
  have e:x=(bS t).part j:=by have A:=I v;rw [List.getElem?_eq_getElem u,K] at A;exact Option.some.inj A
  subst e;obtain ⟨q,X,d2⟩:=yD b9;obtain ⟨k,hk,V⟩:=List.getElem_of_mem X;have W:((bS t).part j).aw[k]? =some q:=by rw [List.getElem?_eq_getElem hk,V]
  have M:(p:Int)∈q:=Classical.byContradiction λhn=>d2 (FK hn);have h7:=((uk m).1 (b6 j _ (I v) k q W _ M).1).2.2;rw [Int.toNat_natCast] at h7;grind
 ·have T:=b5 p _ (g F);rw [if_pos (.inr h2)] at T;have O:(t.parts.map (mh (p:Int))).sum=0:=by
   rw [List.sum_eq_zero_iff_forall_eq_nat];intro y hy;obtain ⟨x,P,rfl⟩:=List.mem_map.1 hy;obtain ⟨j,u,K⟩:=List.getElem_of_mem P;have v:j<nP c:=by have:t.parts.length=nP c:=hp;omega
   have e:x=(bS t).part j:=by have A:=I v;rw [List.getElem?_eq_getElem u,K] at A;exact Option.some.inj A
   subst e;refine Eo λq X M=> ?_;have:=c7 p F j v q X M;omega
  have E:(t.procs.map (mg (p:Int))).sum≠0:=by omega
  obtain ⟨x,P,b9⟩:=yD E;obtain ⟨j,u,K⟩:=List.getElem_of_mem P;have v:j<nQ c:=by have:t.procs.length=nQ c:=hq;omega
  have e:x=(bS t).proc j:=by have A:=g v;rw [List.getElem?_eq_getElem u,K] at A;exact Option.some.inj A
  subst e;obtain ⟨l,d0,c0⟩:=yD b9;obtain ⟨i,d,V⟩:=List.getElem_of_mem d0;have W:((bS t).proc j).ak[i]? =some l:=by rw [List.getElem?_eq_getElem d,V]
  rw [vW] at c0;have M:(p:Int)∈l.waiters.map (·.proc):=Classical.byContradiction λhn=>c0 (FK hn);obtain ⟨w,G,e⟩:=List.mem_map.1 M;obtain ⟨y,f1,f2,f3⟩:=ug m v;have h7:=((uk m).1 (b7 j _ y (g v) f1 i l W w G).2.1).2.2;rw [e,Int.toNat_natCast] at h7;grind
end
def qe (a c k:Hp):Hp:=λb=>match a b with | some d=>some d | none=>if c b=none then k b else none
theorem Lo {a d k:Hp} {b:Nat} {c:Obj} (e:a b=some c):qe a d k b=some c:=by unfold qe;rw [e]
theorem DE {a c k:Hp} {b:Nat} (e:a b=none):qe a c k b=if c b=none then k b else none:=by unfold qe;rw [e]
theorem S6 {P:Program} {g:FuncId} {args:List Value} {l K:Value->Hp->Prop} {f k:Hp} {A:dh} (o:Has f A k) (q:rX P g args l f) (r:∀v c p,l v c->Has c A p->K v p):rX P g args K k:=by
 intro w h;refine (q w (h.mono o.le)).mono ?_;rintro e y ⟨v,c,rfl,t,st⟩;obtain ⟨s,F,a,m⟩:=o;have key:∀b,F b->c b=none/\y.heap[b]? =w.heap[b]?:=λb hb=>by
  cases e:k b with
  | none=>exact absurd e (A.known a b hb)
  | some j=>have:=st.bq b (h.lt e) (m b hb);grind
 refine ⟨v,qe c f k,rfl,r v c _ t ⟨λb j e=>Lo e,F,A.same a λb hb=> ?_,λb hb=>(key b hb).1⟩,?_⟩
 ·rw [DE (key b hb).1,if_pos (m b hb)]
 ·refine ⟨λb j e=> ?_,st.size,λb hb n=> ?_,st.os,st.tape,st.output⟩
  ·cases i:c b with
   | some z=>rw [Lo i] at e;cases e;exact st.sub b _ i
   | none=>
    rw [DE i] at e;by_cases d:f b=none
    ·rw [if_pos d] at e;rw [(st.bq b (h.lt e) d).1];exact h b j e
    grind
  ·have d:f b=none:=pH s n;obtain ⟨u,x⟩:=st.bq b hb d;exact ⟨u,by rw [DE x,if_pos d];exact n⟩
theorem DF {P:Program} {g:FuncId} {args:List Value} {sh:Shape} {K0 K:sh.T->Hp->Prop} {c k:Hp} {A:dh} (o:Has c A k) (d:ae P g args sh K0 c) (f:∀x a b,K0 x a->Has a A b->K x b):ae P g args sh K k:=
 S6 o d λ_ a b ⟨x,e,h⟩ i=>⟨x,e,f x a b h i⟩
theorem DG {P:Program} {g:FuncId} {args:List Value} {s1 s2 s3:Shape} {K0 K:s1.T->s2.T->s3.T->Hp->Prop} {c k:Hp} {A:dh} (o:Has c A k) (d:fW P g args s1 s2 s3 K0 c) (e:∀x y z a b,K0 x y z a->Has a A b->K x y z b):fW P g args s1 s2 s3 K k:=
 DF o d λp a b h f=>e p.1 p.2.1 p.2.2 a b h f
theorem yV {c:aI} (h:(hU c).1=0):bT c:=by obtain ⟨e,f,g,j,k,l,d,m,n,q,b⟩:=j4.1 h;obtain ⟨p,r,s⟩:=gT.1 e;have:=List.length_pos_iff.2 p;have:=List.length_pos_iff.2 n;refine ⟨⟨by unfold nP;omega,by unfold nP;omega⟩,⟨f,g,λi o=>by have:=j i o;unfold nP;omega⟩,k,l,d,m,⟨by unfold nQ;omega,by unfold nQ;omega⟩,λy a=>by have:=(b y a).1;unfold nP;omega,λy a=>(xx d).1 (b y a).2⟩
section
variable {h0 k:Hp}
theorem Has.GD {a e:Type} {sz:Nat} {enc:a->List Value} {c:e->List Value} {l:Sl} {d:List a} (f:a->e) (t:∀x,enc x=c (f x)) (o:Has h0 (dK sz enc l d) k):Has h0 (dK sz c l (d.map f)) k:=by refine o.map λu F h=> ?_;obtain ⟨s,q,r⟩:=h;refine ⟨by grind,q,r.imp id ?_⟩;rintro ⟨b,off,g,i,j,m,n,p⟩;refine ⟨b,off,g,i,j,m,n,by rw [p,List.flatMap_map];congr 1;grind⟩
theorem Of {h:Hp} {t:Sl} {a:List Int} {n:Int} {Q:Option Addr->Int->Int->Hp->Prop} (r:Is h t a) (F:1<=n) (H:n<=8) (B:a≠ []) (J:a.length<=64) (I:∀x∈a,0<=x/\x<n)
  (D:∀p i s c,h<=c->aV c p [s.v,.int .i64 n]->Is c s a->Q (some p) 0 i c):Kv prog t n Q h:=by
 unfold Kv;have L:=r.1;have M:0<a.length:=List.length_pos_iff.2 B;intro b ty A;have l:=lz (o:=.cells (#[Value.int .i64 n]) ty (0,0)) A;have d:aV (h.set b (.cells (#[Value.int .i64 n]) ty (0,0))) ⟨b,0,none⟩ [.int .i64 n]:=EV (cs:=[Value.int .i64 n]);refine bt (sh:=af .i64) n d ?_;refine ⟨n,λ_=>d,?_⟩;refine aU (aU ?_);rw [if_neg (by simp;omega),if_neg (by simp;omega)];have y:(a.any λx=>decide (x<0) || decide (x>=n))=false:=by grind
 refine zhj (f:=⟨JP, #[], #[.pointer (some ⟨b,0,none⟩)]⟩) (JH (p:=λx=>decide (x<0) || decide (x>=n)) (Rw.mono l r) (by omega) (λx _ k K m w=> ?_) λi c j z=> ?_)
 ·refine sN (g:=JP) rfl (zzb ?_);unfold zwy;refine ⟨n,λ_=>ns m d,aU (w k m)⟩
 ·dsimp only;rw [y] at z;rw [if_neg (λe=>by grind)];refine bt (sh:=af .i64) n (ns j d) ?_;refine MD ?_;unfold Fu;refine wD (enc:=λx:Int=>bg ((af .i64).enc x)) (an.aN 23 rA rfl) (Rw.mono (Hp.le_trans l j) r) (by decide) (λ_=>rfl) (λ_=>rfl) rfl ⟨by omega,by omega⟩ λout G q C=> ?_;refine ⟨⟨ns (Hp.le_trans j q) d,trivial⟩,?_⟩;intro E t2 u;exact D _ _ out _ (Hp.le_trans (Hp.le_trans l j) (Hp.le_trans q (lz u))) (EV (cs:=[out.v,.int .i64 n])) (Rw.mono (lz u) (C.mX λ_=>rfl))
abbrev sZ (R F G S T U:dh):dh:=(R.star (F.star G)).star (S.star (T.star U))
variable {R F G S T U:dh}
theorem Has.sR (o:Has h0 (sZ R F G S T U) k):∃d,h0<=d/\Has d R k/\∀e f,Has d e f->Has h0 (sZ e F G S T U) f:=by obtain ⟨d,a,b,_,c⟩:=o.fst;obtain ⟨i,a2,g,h⟩:=b.f1;exact ⟨i,Hp.le_trans a a2,g,λ_ _ j=>c _ _ (h _ _ j)⟩
theorem Has.sF (o:Has h0 (sZ R F G S T U) k):∃d,h0<=d/\Has d F k/\∀e f,Has d e f->Has h0 (sZ R e G S T U) f:=by obtain ⟨d,a,b,_,c⟩:=o.fst;obtain ⟨i,a2,g,h⟩:=b.f2;exact ⟨i,Hp.le_trans a a2,g,λ_ _ j=>c _ _ (h _ _ j)⟩
theorem Has.sG (o:Has h0 (sZ R F G S T U) k):∃d,h0<=d/\Has d G k/\∀e f,Has d e f->Has h0 (sZ R F e S T U) f:=by obtain ⟨d,a,b,_,c⟩:=o.fst;obtain ⟨i,a2,g,h⟩:=b.f3;exact ⟨i,Hp.le_trans a a2,g,λ_ _ j=>c _ _ (h _ _ j)⟩
theorem Has.sS (o:Has h0 (sZ R F G S T U) k):∃d,h0<=d/\Has d S k/\∀e f,Has d e f->Has h0 (sZ R F G e T U) f:=by obtain ⟨d,a,b,_,c⟩:=o.snd;obtain ⟨i,a2,g,h⟩:=b.f1;exact ⟨i,Hp.le_trans a a2,g,λ_ _ j=>c _ _ (h _ _ j)⟩
theorem Has.sT (o:Has h0 (sZ R F G S T U) k):∃d,h0<=d/\Has d T k/\∀e f,Has d e f->Has h0 (sZ R F G S e U) f:=by obtain ⟨d,a,b,_,c⟩:=o.snd;obtain ⟨i,a2,g,h⟩:=b.f2;exact ⟨i,Hp.le_trans a a2,g,λ_ _ j=>c _ _ (h _ _ j)⟩
theorem Has.sU (o:Has h0 (sZ R F G S T U) k):∃d,h0<=d/\Has d U k/\∀e f,Has d e f->Has h0 (sZ R F G S T e) f:=by obtain ⟨d,a,b,_,c⟩:=o.snd;obtain ⟨i,a2,g,h⟩:=b.f3;exact ⟨i,Hp.le_trans a a2,g,λ_ _ j=>c _ _ (h _ _ j)⟩
def jJ (q:Addr) (own:Sl) (n:Nat) (y:dB) (b:Nat->Int):dh:=.some_ λx:be=>.some_ λlp:Addr=>.some_ λa:Addr=>
 ((da wy q x).star ((dK 3 Gc x.log y.log).star ((mb lp y.az y.aw).star (rU a b (2*n))))).star (.fact (x.procs=own/\x.aj=y.aj/\x.lost=y.lost/\x.forbidden=y.forbidden/\x.ag=some lp/\x.dx=some a))
def og (q:Addr) (p i:Nat) (code:Sl) (room:Int) (y:au):dh:=.some_ λz:aH=>.some_ λa:Addr=>
 ((da bf q z).star (dC a room y.ak y.aj)).star (.fact (z.dg=(p:Int)/\z.part=(i:Int)/\z.code=code/\z.state=y.state/\fS (dG z)=y.core/\z.bN=y.bN/\z.post=some a))
theorem Has.BJ {q lp a:Addr} {x:be} {n:Nat} {y:dB} {b:Nat->Int} (o:Has h0 ((((mb lp y.az y.aw).star (dK 3 Gc x.log y.log)).star (rU a b (2*n))).star (da wy q x)) k)
  (e:x.aj=y.aj/\x.lost=y.lost/\x.forbidden=y.forbidden/\x.ag=some lp/\x.dx=some a):Has h0 (jJ q x.procs n y b) k:=by
 refine Has.ex.2 ⟨x,Has.ex.2 ⟨lp,Has.ex.2 ⟨a,Has.fj ?_ ⟨rfl,e⟩⟩⟩⟩;refine o.map λc F h=> ?_;exact Be (λ_ h=>h) (λ_ h=>LB (Be (λ_ h=>FN h) (λ_ h=>h) h)) (FN h)
theorem Has.BK {q a:Addr} {z:aH} {room:Int} {p i:Nat} {y:au} (o:Has h0 ((dC a room y.ak y.aj).star (da bf q z)) k)
  (e:z.dg=(p:Int)/\z.part=(i:Int)/\z.state=y.state/\fS (dG z)=y.core/\z.bN=y.bN/\z.post=some a):Has h0 (og q p i z.code room y) k:=
 Has.ex.2 ⟨z,Has.ex.2 ⟨a,Has.fj o.comm ⟨e.1,e.2.1,rfl,e.2.2⟩⟩⟩
theorem Ho {q:Addr} {own:Sl} {n id:Nat} {y:dB} {a:Nat->Int} {v:Int} {g:FuncId} {args:List Value} {K:Hp->Prop} (o:Has h0 (jJ q own n y a) k) (B:n<=1000) (hid:id<2*n) (C:a id=0) (hv:0<=v)
  (m:∀ {Q:Int->Hp->Prop},Q (id:Int) k->ae prog g args (af .i64) Q k) (c:∀b,Has h0 (jJ q own n y (cg a id v)) b->K b):
  (if (decide (v>(0:Int)))=true then
 ai none (some q) λf=>
 aP none ah k (Addr.add f 6) λi=>
 ae prog g args (af .i64) (λu d=>
 (((aV d (Addr.add f 6) [(.pointer i)])/\(True/\True))/\ae prog wx [(.pointer i),(.int .i64 u),(.int .i64 v)] (af .i64) (λH l=>
 K l) d)) k
 else
 K k):=by
 by_cases h:v>0
 ·rw [if_pos (decide_eq_true h)];obtain ⟨x,o⟩:=Has.ex.1 o;obtain ⟨lp,o⟩:=Has.ex.1 o;obtain ⟨w,o⟩:=Has.ex.1 o;obtain ⟨o,e⟩:=o.jc;refine aD ((Has.left o).ld (shf:=ah) x.dx rfl ?_);refine m ⟨⟨(Has.left o).eh (off:=6) (n:=1) (vs:=[.pointer x.dx]) rfl,trivial,trivial⟩,?_⟩;obtain ⟨z,D,r,_,put⟩:=o.snd;obtain ⟨A,E,s,t⟩:=r.f3;rw [e.2.2.2.2.2];refine T7 (E3 s (by omega) hid h λb p=>c b ?_);exact Has.ex.2 ⟨x,Has.ex.2 ⟨lp,Has.ex.2 ⟨w,(put _ _ (t _ _ p)).fj e⟩⟩⟩
 ·rw [if_neg (by simpa using h)];have:v=0:=by omega
  subst this;rw [show cg a id 0=a from funext λj=>by unfold cg;split<;>simp_all] at c;exact c k o
def zm (c:aI) (i j:Nat):List Nat:=(List.range j).filter λq=>decide (aA c q=i)
theorem IX {c:aI} {i j:Nat}:zm c i (j+1)=if aA c j=i then zm c i j++ [j] else zm c i j:=by unfold zm;rw [List.range_succ,List.filter_append];grind
end
structure wK (c:aI) (t:gN):Prop where
 parts:t.parts.length=nP c
 procs:t.procs.length=nQ c
 part:∀x∈t.parts,KJ x.az x.aw/\x.log.length<=4096
 proc:∀x∈t.procs,x.ak.length=nP c+1/\(0<=x.aj/\x.aj<x.ak.length)/\(∀l∈x.ak,ND c.lane l)/\0<=x.timer/\0<=x.cJ
section
variable {h0 h1 k:Hp} {c:aI} {t:gN}
abbrev xO (c:aI) (t:gN) (g:List Addr) (own:Nat->Sl) (m:Nat->Nat->Int) (i:Nat):dh:=dh.first (λi=>jJ (g.getD i a0) (own i) (nQ c) (t.parts.getD i lV) (m i)) i
abbrev DS (c:aI) (t:gN) (u:List Addr) (code:Nat->Sl) (j:Nat):dh:=dh.first (λp=>og (u.getD p a0) p (aA c p) (code p) c.lane (t.procs.getD p qm)) j
abbrev xe (c:aI) (own:Nat->Sl) (j i:Nat):dh:=dh.first (λi=>dK 1 fo (own i) ((zm c i j).map λ(q:Nat)=>(q:Int))) i
abbrev kQ (c:aI) (t:gN) (pm:Addr) (x:aT) (g u:List Addr) (own code:Nat->Sl) (i j:Nat) (m:Nat->Nat->Int):dh:=
 sZ (da H5 pm x) (xO c t g own m i) (DS c t u code j) (dK 1 eP x.parts g) (dK 1 eP x.procs u) (xe c own j i)
def tZ (x:aT) (l:Sl):aT:={x with parts:=l}
def nW (x:aT) (l:Sl):aT:={x with procs:=l}
variable {pm:Addr} {x:aT} {g u:List Addr} {own code:Nat->Sl} {m:Nat->Nat->Int}
theorem IY {b:Type} {l:List b} {a d:b} {i:Nat} (h:i=l.length):(l++ [a]).getD i d=a:=by grind
theorem S7 {s:aZ} {i:Nat} {Q:Hp->Prop} (b:fA h0 s t) (v:wK c t) (mc:bT c) (hi:i<nP c) (hp:g.length=i) (ex:x.procs=⟨none,0,0⟩)
  (o:Has h0 (kQ c t pm x g [] (λ_=>⟨none,0,0⟩) code i 0 (λ_ _=>0)) k)
  (X:∀l a K,Has h0 (kQ c t pm (tZ x l) (g++ [a]) [] (λ_=>⟨none,0,0⟩) code (i+1) 0 (λ_ _=>0)) K->Q K):
  ((bJ s.eo.base s.eo.len (i:Int))/\aP none dI k (sat s.eo.base 6 (i:Int)) λx=>
 bh prog Nz [x.eA.v,x.gl.v] ah (af .i64) (λr7 r8 F=>
 ai none (some pm) λd=>
 aP none av F (Addr.add d 10) λe=>
 ae prog Hy [x.Log.v] av (λr9 G=>
 (((aV G (Addr.add d 10) [e.v])/\(True/\(True/\(True/\True))))/\ae prog CS [] ah (λb7 C=>
 (((aV C (Addr.add d 10) [e.v])/\(True/\(True/\(True/\True))))/\bc [(.slice none 0 0),(.int .i64 x.Cursor),r9.v,(.int .i64 x.pP),(.int .i64 x.fE),(.pointer r7),(.pointer b7)] (λa1 D=>
 (((aV D (Addr.add d 10) [e.v])/\True)/\bc [(.pointer (some a1))] (λa2 E=>
 (((aV E (Addr.add d 10) [e.v])/\True)/\eS 1 8 [(.pointer none)] e ⟨(some a2),1,1⟩ (λb8 U=>
 ai none (some pm) λp3=>
 bW U (Addr.add p3 10) [b8.v] (λV=>
 Q V)) E)) D)) C)) G)) F) k):=by
 obtain ⟨ps,Z,H⟩:=b.parts;have c1:=H.len;have e1:=v.parts;have c0:=mc.parts;refine Rs.get (sh:=dI) (Rw.mono o.le Z) (λ_=>rfl) (by omega) (by omega) (by omega) λ(y:cU) I=> ?_;rw [Int.toNat_natCast] at I;obtain ⟨z,J,f⟩:=H.get I;have b0:=List.mem_of_getElem? J;obtain ⟨lv,h⟩:=v.part z b0;have r:=f.mono o.le;obtain ⟨qs,a9,a8⟩:=r.aw;refine Zm (X4 lv r.az a9 a8 λlp k2 L o2=> ?_);have on:=o.grow L;obtain ⟨g1,m1,p,jf⟩:=on.sR;refine aD (p.ld (shf:=av) x.parts rfl ?_);have R:=r.mono L;obtain ⟨T,W,Y⟩:=R.log;have b9:T.length=z.log.length:=by grind
 refine zdv ?_;unfold O8;refine wD (enc:=λx=>bg (fO.enc x)) (an.aN 112 sE rfl) W (by decide) (λ_=>rfl) (λ_=>rfl) rfl ⟨by omega,by omega⟩ λh k3 A B=> ?_;refine ⟨⟨(p.grow A).eh (off:=10) (n:=1) (vs:=[x.parts.v]) rfl,trivial,trivial,trivial,trivial⟩,?_⟩;have B:Has k2 (dK 3 Gc h z.log) k3:=by rw [<-Y];exact B.u4.GD vR λ_=>rfl
 refine Zn (Yb (n:=2*nQ c) λP k4 M o4=> ?_);refine ⟨⟨((p.grow A).grow M).eh (off:=10) (n:=1) (vs:=[x.parts.v]) rfl,trivial,trivial,trivial,trivial⟩,?_⟩;refine qJ (sh:=wy) (⟨⟨none,0,0⟩,y.Cursor,h,y.pP,y.fE,some lp,some P⟩:be) rfl λq k5 l5 o5=> ?_;refine ⟨⟨(((p.grow A).grow M).grow l5).eh (off:=10) (n:=1) (vs:=[x.parts.v]) rfl,trivial⟩,?_⟩;have oN:Has k (jJ q ⟨none,0,0⟩ (nQ c) z (λ_=>0)) k5:=Has.BJ (x:=(⟨⟨none,0,0⟩,y.Cursor,h,y.pP,y.fE,some lp,some P⟩:be)) (((o2.beside B).beside o4).beside o5) ⟨f.aj,f.lost,f.forbidden,rfl,rfl⟩;obtain ⟨g2,m2,oF,b3⟩:=o.sF;have O:=b3 _ _ (oF.beside oN);refine ju (enc:=eP) (xs:=[q]) rfl (λ_=>rfl) λa2 k6 N o6=> ?_;obtain ⟨g3,m3,b1,_⟩:=(O.grow N).sR;refine ⟨⟨b1.eh (off:=10) (n:=1) (vs:=[x.parts.v]) rfl,trivial⟩,?_⟩;obtain ⟨g4,m4,oS,b5⟩:=(O.grow N).sS;refine oS.app (o6.jE λ_=>rfl) (λ_=>rfl) (λ_=>rfl) rfl ⟨by rw [hp,List.length_singleton];omega,by rw [hp,List.length_singleton];omega⟩ λw k7 o7=> ?_;have oB:=b5 _ _ o7;obtain ⟨g5,m5,b2,b4⟩:=oB.sR;refine aD (b2.st (tZ x w) (off:=10) (new:=[w.v]) (by show 10+1<=12;omega) rfl λk8 o8=>X w q k8 ?_);have oC:=b4 _ _ o8;obtain ⟨g6,m6,oU,b6⟩:=oC.sU;have oD:=b6 _ _ (oU.beside (Has.km (sz:=1) (enc:=fo) (Hp.le_refl _)));refine cast ?_ oD;congr 1;have S:(xO c t g (λ_=>⟨none,0,0⟩) (λ_ _=>0) i).star (jJ q ⟨none,0,0⟩ (nQ c) z λ_=>0)=xO c t (g++ [q]) (λ_=>⟨none,0,0⟩) (λ_ _=>0) (i+1):=by show _=(dh.first (λi=>jJ ((g++ [q]).getD i a0) ⟨none,0,0⟩ (nQ c) (t.parts.getD i lV) λ_=>0) i).star (jJ ((g++ [q]).getD i a0) ⟨none,0,0⟩ (nQ c) (t.parts.getD i lV) λ_=>0);rw [IY hp.symm,pL J];congr 1;exact sL λj hj=>by grind
 rw [S];rfl
theorem S8 {s:aZ} {co:al} {j:Nat} {ci:List bK} {Q:Hp->Prop} (b:fA h0 s t) (v:wK c t) (K:bT c) (R:j<nQ c) (hp:u.length=j) (j0:g.length=nP c)
  (c1:co.gz=c.lane) (c8:Rs h0 bC 2 x.gx ci) (b2:dj (lF h0) ci c.procs) (d0:∀(p:Nat) y,ci[p]? =some y->code p=y.Code)
  (S:∀i id,i<nP c->m i id=if id / 2<j then mG c (bS t) i id else 0)
  (o:Has h0 (kQ c t pm x g u own code (nP c) j m) k)
  (hk:∀l a f0 b5 k',(∀i id,i<nP c->b5 i id=if id / 2<j+1 then mG c (bS t) i id else 0)->Has h0 (kQ c t pm (nW x l) g (u++ [a]) f0 code (nP c) (j+1) b5) k'->Q k'):
  ((bJ s.aQ.base s.aQ.len (j:Int))/\aP none cO k (sat s.aQ.base 15 (j:Int)) λx=>
 ai none (some pm) λp2=>
 aP none av k (Addr.add (Addr.add p2 0) 6) λY=>
 ((bJ Y.base Y.len (j:Int))/\aP none bC k (sat Y.base 2 (j:Int)) λM=>
 bh prog xv [(.int .i64 co.gz),x.jH.v,(.int .i64 x.Cursor)] ah (af .i64) (λr7 r8 h9=>
 ai none (some pm) λW=>
 aP none av h9 (Addr.add W 11) λZ=>
 bc [(.int .i64 (j:Int)),(.int .i64 M.Part),M.Code.v,(.int .i64 x.State),(.int .i64 x.PC),(.int .i64 x.cv),(.int .i64 x.cw),(.int .i64 x.cx),(.int .i64 x.cC),(.int .i64 x.cD),(.int .i64 x.cE),(.int .i64 x.cF),(.int .i64 x.cG),(.bool x.kP),(.pointer r7)] (λa1 a9=>
 (((aV a9 (Addr.add W 11) [Z.v])/\True)/\bc [(.pointer (some a1))] (λa2 b0=>
 (((aV b0 (Addr.add W 11) [Z.v])/\True)/\eS 1 8 [(.pointer none)] Z ⟨(some a2),1,1⟩ (λr9 c4=>
 ai none (some pm) λp4=>
 bW c4 (Addr.add p4 11) [r9.v] (λI=>
 ai none (some pm) λp5=>
 aP none av I (Addr.add p5 10) λx4=>
 ((bJ x4.base x4.len M.Part)/\aP none ah I (sat x4.base 1 M.Part) λN=>
 ai none N λp6=>
 aP none av I (Addr.add p6 0) λx6=>
 bc [(.int .i64 (j:Int))] (λa3 c5=>
 eS 1 8 [(.int .i64 (0:Int))] x6 ⟨(some a3),1,1⟩ (λh3 c6=>
 ai none N λp7=>
 bW c6 (Addr.add p7 0) [h3.v] (λO=>
 bF (λk1=>
 (if (decide (x.Timer>(0:Int)))=true then
 ai none N λF=>
 aP none ah O (Addr.add F 6) λG=>
 ae prog wz [(.int .i64 (j:Int))] (af .i64) (λX C=>
 (((aV C (Addr.add F 6) [(.pointer G)])/\(True/\True))/\ae prog wx [(.pointer G),(.int .i64 X),(.int .i64 x.Timer)] (af .i64) (λh4 J=>
 k1 J) C)) O
 else
 k1 O))
 (λC=>
 (if (decide (x.pT>(0:Int)))=true then
 ai none N λF=>
 aP none ah C (Addr.add F 6) λG=>
 ae prog xA [(.int .i64 (j:Int))] (af .i64) (λX J=>
 (((aV J (Addr.add F 6) [(.pointer G)])/\(True/\True))/\ae prog wx [(.pointer G),(.int .i64 X),(.int .i64 x.pT)] (af .i64) (λh4 c7=>
 Q c7) J)) C
 else
 Q C)))) c5) I))) b0)) a9)) h9) k)):=by
 obtain ⟨ps,d5,b1⟩:=b.procs;have i7:=b1.len;have e1:=v.procs;have i6:=K.parts;have i9:=K.procs;refine Rs.get (sh:=cO) (Rw.mono o.le d5) (λ_=>rfl) (by omega) (by omega) (by omega) λ(y:bR) hy=> ?_;rw [Int.toNat_natCast] at hy;obtain ⟨z,T,A⟩:=b1.get hy;have d6:=List.mem_of_getElem? T;obtain ⟨v1,v2,v3,v4,v5⟩:=v.proc z d6;obtain ⟨g1,m1,V,jf⟩:=o.sR;refine aD (V.ld (shf:=av) x.gx (off:=6) rfl ?_);have i2:=b2.len;have i4:nQ c=c.procs.length:=rfl;refine Rs.get (sh:=bC) (Rw.mono o.le c8) (λ_=>rfl) (by omega) (by omega) (by omega) λ(H:bK) P=> ?_;rw [Int.toNat_natCast] at P;obtain ⟨E,b3,b7,_⟩:=b2.get P;have d1:=List.mem_of_getElem? b3;have i5:=K.part E d1;have h6:aA c j=E.part.toNat:=by unfold aA;rw [b3];rfl
 have b9:=d0 j H P;rw [b7];have b6:=A.mono o.le;obtain ⟨ls,d4,d2⟩:=b6.ak;have d3:=K.lane;rw [c1,A.aj];refine abx (ZT d3 (by omega) v2 d4 d2 v3 λa k2 l2 o2=> ?_);refine aD ((V.grow l2).ld (shf:=av) x.procs rfl ?_);refine qJ (sh:=bf) (⟨(j:Int),E.part,H.Code,y.State,y.PC,y.cv,y.cw,y.cx,y.cC,y.cD,y.cE,y.cF,y.cG,y.kP,some a⟩:aH) rfl λq k3 l3 o3=> ?_;refine ⟨⟨((V.grow l2).grow l3).eh (off:=11) (n:=1) (vs:=[x.procs.v]) rfl,trivial⟩,?_⟩;have c0:fS (dG (⟨(j:Int),E.part,H.Code,y.State,y.PC,y.cv,y.cw,y.cx,y.cC,y.cD,y.cE,y.cF,y.cG,y.kP,some a⟩:aH))=z.core:=by show (⟨y.PC,[y.cv,y.cw,y.cx,y.cC,y.cD,y.cE,y.cF,y.cG]⟩:Core)=⟨z.pc,z.br⟩;rw [A.pc,A.br]
 have oN:Has k (og q j (aA c j) (code j) c.lane z) k3:=by rw [b9];exact Has.BK (z:=(⟨(j:Int),E.part,H.Code,y.State,y.PC,y.cv,y.cw,y.cx,y.cC,y.cD,y.cE,y.cF,y.cG,y.kP,some a⟩:aH)) (o2.beside o3) ⟨rfl,by grind,A.state,c0,A.bN,rfl⟩
 obtain ⟨g2,m2,oG,f5⟩:=o.sG;have oA:=f5 _ _ (oG.beside oN);refine ju (enc:=eP) (xs:=[q]) rfl (λ_=>rfl) λa2 k4 l4 o4=> ?_;obtain ⟨g3,m3,e7,_⟩:=(oA.grow l4).sR;refine ⟨⟨e7.eh (off:=11) (n:=1) (vs:=[x.procs.v]) rfl,trivial⟩,?_⟩;obtain ⟨g4,m4,oT,f9⟩:=(oA.grow l4).sT;refine oT.app (o4.jE λ_=>rfl) (λ_=>rfl) (λ_=>rfl) rfl ⟨by rw [hp,List.length_singleton];omega,by rw [hp,List.length_singleton];omega⟩ λU k5 o5=> ?_;have oB:=f9 _ _ o5;obtain ⟨g5,m5,e8,f8⟩:=oB.sR;refine aD (e8.st (nW x U) (off:=11) (new:=[U.v]) (by show 11+1<=12;omega) rfl λk6 o6=> ?_);have L:=f8 _ _ o6;obtain ⟨g6,m6,e9,l6⟩:=L.sR;refine aD (e9.ld (shf:=av) x.parts rfl ?_);have D:aA c j<nP c:=by omega
 obtain ⟨g7,m7,oS,_⟩:=L.sS;have rs:Rs k6 ah 1 x.parts (g.map some):=(oS.jE (λ_=>rfl)).map (f:=some) (enc:=λx=>bg (ah.enc x));refine rs.get (λ_=>rfl) (by omega) (by omega) (by grind) λ(w:Option Addr) hw=> ?_;have ew:w=some (g.getD (aA c j) a0):=by grind
 subst ew;obtain ⟨g8,m8,oF,l1⟩:=L.sF;obtain ⟨g9,m9,d,_,l5⟩:=oF.one D;obtain ⟨px,d⟩:=Has.ex.1 d;obtain ⟨lp,d⟩:=Has.ex.1 d;obtain ⟨wp,d⟩:=Has.ex.1 d;obtain ⟨d,eP⟩:=d.jc;refine aD ((Has.left d).ld (shf:=av) (off:=0) px.procs rfl ?_);rw [eP.1];obtain ⟨h7,j1,oU,g0⟩:=L.sU;obtain ⟨h8,j2,oO,_,fI⟩:=oU.one D;have i3:((zm c (aA c j) j).map λ(q:Nat)=>(q:Int)).length<=j:=by rw [List.length_map];exact Nat.le_trans (List.length_filter_le ..) (by simp)
 refine oO.push (e:=(j:Int)) rfl (λ_=>rfl) (λ_=>rfl) rfl ⟨by omega,by omega⟩ λB k7 o7=> ?_;have oD:=g0 _ _ (fI _ _ o7);obtain ⟨i0,j3,e0,f4⟩:=oD.sF;obtain ⟨c3,k0,r,_,f6⟩:=e0.one D;obtain ⟨h2,r⟩:=Has.ex.1 r;obtain ⟨d8,r⟩:=Has.ex.1 r;obtain ⟨h5,r⟩:=Has.ex.1 r;obtain ⟨r,b8⟩:=r.jc;obtain ⟨i1,l0,e6,_,f7⟩:=r.fst;refine aD (e6.st ({h2 with procs:=B}:be) (off:=0) (new:=[B.v]) (by show 0+1<=7;omega) rfl λk8 o8=> ?_);have oQ:Has c3 (jJ (g.getD (aA c j) a0) B (nQ c) (t.parts.getD (aA c j) lV) (m (aA c j))) k8:=Has.ex.2 ⟨_,Has.ex.2 ⟨d8,Has.ex.2 ⟨h5,(f7 _ _ o8).fj ⟨rfl,b8.2⟩⟩⟩⟩;have c2:=S (aA c j);refine bF.direct ?_;rw [A.timer];refine Ho (id:=2*j) oQ (by omega) (by omega) (by grind) v4 (λh=>Ia (by unfold M8;rw [wrap64 (by omega) (by omega)];grind)) λk9 o9=> ?_;rw [A.cJ];refine Ho (id:=2*j+1) o9 (by omega) (by omega) (by rw [kB (by omega),c2 _ D,if_neg (by omega)]) v5 (λh=>Ib (by unfold M9;rw [show yw (2*(j:Int))=2*(j:Int) from wrap64 (by omega) (by omega),wrap64 (by omega) (by omega)];grind)) λd7 d9=> ?_;have oE:=f4 _ _ (f6 _ _ d9);have a8:(bS t).proc j=z:=pL T;refine hk U q (cg own (aA c j) B) (cg m (aA c j) (cg (cg (m (aA c j)) (2*j) z.timer) (2*j+1) z.cJ)) d7 (λi id b4=> ?_) ?_
 ·by_cases e:i=aA c j
  ·subst e;rw [kK];by_cases e2:id=2*j+1
   ·subst e2;rw [kK,if_pos (by omega)];unfold mG;rw [show (2*j+1) / 2=j by omega,if_pos ⟨R,rfl⟩,if_neg (by omega),a8]
   ·rw [kB e2];by_cases e3:id=2*j
    ·subst e3;rw [kK,if_pos (by omega)];unfold mG;rw [show (2*j) / 2=j by omega,if_pos ⟨R,rfl⟩,if_pos (by omega),a8]
    ·rw [kB e3,S _ _ b4];omega
  ·rw [kB e,S _ _ b4];by_cases e4:id / 2<j
   ·omega
   ·rw [if_neg e4];split
    ·unfold mG;rw [if_neg ?_];rintro ⟨_,e5⟩;exact e (by rw [<-e5];congr 1;omega)
    ·rfl
 ·refine cast ?_ oE;congr 1;have eG:(DS c t u code j).star (og q j (aA c j) (code j) c.lane z)=DS c t (u++ [q]) code (j+1):=by show _=(dh.first (λp=>og ((u++ [q]).getD p a0) p (aA c p) (code p) c.lane (t.procs.getD p qm)) j).star (og ((u++ [q]).getD j a0) j (aA c j) (code j) c.lane (t.procs.getD j qm));rw [IY hp.symm,pL T];congr 1;exact sL λj R=>by grind
  have eU:dh.first (cg (λi=>dK 1 fo (own i) ((zm c i j).map λ(q:Nat)=>(q:Int))) (aA c j) (dK 1 fo B ((zm c (aA c j) j).map (λ(q:Nat)=>(q:Int))++ [(j:Int)]))) (nP c)=xe c (cg own (aA c j) B) (j+1) (nP c):=by
   refine sL λi D=> ?_;by_cases e:i=aA c j
   ·subst e;rw [kK,kK,IX,if_pos rfl,List.map_append];rfl
   ·rw [kB e,kB e,IX,if_neg (Ne.symm e)]
  have eF:dh.first (cg (λi=>jJ (g.getD i a0) (own i) (nQ c) (t.parts.getD i lV) (m i)) (aA c j) (jJ (g.getD (aA c j) a0) B (nQ c) (t.parts.getD (aA c j) lV) (cg (cg (m (aA c j)) (2*j) z.timer) (2*j+1) z.cJ))) (nP c)=xO c t g (cg own (aA c j) B) (cg m (aA c j) (cg (cg (m (aA c j)) (2*j) z.timer) (2*j+1) z.cJ)) (nP c):=by
   refine sL λi D=> ?_;by_cases e:i=aA c j
   ·subst e;rw [kK,kK,kK]
   ·rw [kB e,kB e,kB e]
  rw [eG,eU,eF];rfl
theorem aap {x:al} {s:aZ} {Q:Option Addr->Hp->Prop} (a:gL k x c) (b:fA k s t) (hu:∀l∈c.labels,qN l) (I:(hU c).1=0) (v:wK c t)
  (hq:∀K pm m h1 d,K.c=c->dq h1 K->k<=h1->Has h1 (aB K pm (bS t) m) d->eH c m (bS t)->Q (some pm) d):ZH prog x s Q k:=by
 have G:=yV I;have hm:(iG c.labels).1=0:=by unfold hU at I;exact (j4.1 I).1
 unfold ZH;have d1:=G.parts;have d3:=G.procs;have b0:=G.table;have c8:nP c=c.labels.length:=rfl;have d2:nQ c=c.procs.length:=rfl;refine Q3 (VY a (by omega) (by omega) (by omega) (λy L=>by have:=(G.code y L).1;omega) λr T o1 e1 e2 e3 e4=> ?_);refine ⟨⟨trivial,trivial⟩,?_⟩;obtain ⟨B,hB,_⟩:=(F8 o1 e1 e2 e3 e4).as_;have U:=o1.le;have ar:gL T r c:=hB.rd;have a1:=a.mono U;have d0:x.aE.len=c.labels.length:=a.labels.1;refine qJ (sh:=H5) (⟨r.aE,r.Table,r.Fuel,r.gz,r.bG,r.Log,r.aQ,none,none,s.gO,⟨none,0,0⟩,⟨none,0,0⟩⟩:aT) rfl λpm k2 q o2=> ?_;refine DG (s1:=ah) (s2:=af .i64) (s3:=af .i64) (K0:=λp _ _ z=>T<=z/\∃w,p=some w/\qW z w c.labels) o2 (Zl (ZK a1.labels (λe=>absurd hm e) λ_ w z E ht=>⟨E,w,rfl,ht⟩)) ?_;rintro r1 r2 r3 h3 k3 ⟨l3,w,rfl,hT⟩ o3;refine aD (o3.st (⟨r.aE,r.Table,r.Fuel,r.gz,r.bG,r.Log,r.aQ,some w,none,s.gO,⟨none,0,0⟩,⟨none,0,0⟩⟩:aT) (off:=7) (new:=[.pointer (some w)]) (by show 7+1<=12;omega) rfl λk4 o4=> ?_);have a3:=a1.mono l3;refine DG (s1:=ah) (s2:=af .i64) (s3:=af .i64) (K0:=λp _ _ z=>h3<=z/\∃sp,p=some sp/\∃(sl:Sl) (n:Int),aV z sp [sl.v,.int .i64 n]/\Is z sl c.table) o4 (HR (Of a3.table (n:=(x.aE.len:Int)) (by omega) (by omega) b0.1 b0.2.1 (λi J=>by grind) λsp i sl z E hl hs=>⟨E,sp,rfl,sl,_,hl,hs⟩)) ?_;rintro r4 r5 r6 A k5 ⟨l5,sp,rfl,sl,sn,hL,hS⟩ o5;refine aD (o5.st (⟨r.aE,r.Table,r.Fuel,r.gz,r.bG,r.Log,r.aQ,some w,some sp,s.gO,⟨none,0,0⟩,⟨none,0,0⟩⟩:aT) (off:=8) (new:=[.pointer (some sp)]) (by show 8+1<=12;omega) rfl λD o6=> ?_);have V:T<=A:=Hp.le_trans l3 l5;have H:fA A s t:=b.mono (Hp.le_trans U V);have Z:=ar.mono V;obtain ⟨ci,b4,P⟩:=Z.procs;obtain ⟨code,b6⟩:∃code:Nat->Sl,∀(p:Nat) y,ci[p]? =some y->code p=y.Code:=⟨λp=>((ci[p]?).map (·.Code)).getD ⟨none,0,0⟩,λp y h=>by grind⟩;obtain ⟨X,C⟩:∃X:aT,X=⟨r.aE,r.Table,r.Fuel,r.gz,r.bG,r.Log,r.aQ,some w,some sp,s.gO,⟨none,0,0⟩,⟨none,0,0⟩⟩:=⟨_,rfl⟩;rw [<-C] at o6;have c7:=P.len;have BS:Has A (kQ c t pm X [] [] (λ_=>⟨none,0,0⟩) code 0 0 (λ_ _=>0)) D:=by
  have f1:Has D (dh.fact True) D:=Has.fact trivial (Hp.le_refl _);have n1:Has D (dK 1 eP X.parts []) D:=by rw [C];exact Has.km (Hp.le_refl _)
  have n2:Has D (dK 1 eP X.procs []) D:=by grind
  exact (o6.beside (f1.beside f1)).beside (n1.beside (n2.beside f1))
 obtain ⟨ps,c0,b3⟩:=H.parts;obtain ⟨qs,c2,c1⟩:=H.procs;have e5:=b3.len;have e6:=c1.len;have e7:=v.parts;have e8:=v.procs;have e9:s.eo.len=ps.length:=c0.1;have c6:s.aQ.len=qs.length:=c2.1;refine aC.intro (λ(i:Int) d=>0<=i/\i<=(nP c:Int)/\∃(l:Sl) (g:List Addr),g.length=i.toNat/\Has A (kQ c t pm (tZ X l) g [] (λ_=>⟨none,0,0⟩) code i.toNat 0 (λ_ _=>0)) d) (λi _=>(nP c-i).toNat) ⟨by omega,by omega,X.parts,[],rfl,BS⟩ ?_;rintro i k7 ⟨i0,i1,l,g,hp,o⟩;by_cases h:i<(nP c:Int)
 ·rw [if_pos (decide_eq_true (by omega))];have a8:((i.toNat:Nat):Int)=i:=by omega
  have key:=S7 (x:=tZ X l) (i:=i.toNat) (Q:=λd=>(0<=yw (i+1)/\yw (i+1)<=(nP c:Int)/\∃(l:Sl) (g:List Addr),g.length=(yw (i+1)).toNat/\Has A (kQ c t pm (tZ X l) g [] (λ_=>⟨none,0,0⟩) code (yw (i+1)).toNat 0 (λ_ _=>0)) d)/\(nP c-yw (i+1)).toNat<(nP c-i).toNat) H v G (by omega) hp (by rw [C];rfl) o λE N d W=>by rw [wrap64 (by omega) (by omega)];refine ⟨⟨by omega,by omega,E,g++ [N],by rw [List.length_append,List.length_singleton];omega,?_⟩,by omega⟩;rw [show (i+1).toNat=i.toNat+1 by omega];exact W
  grind
 ·rw [if_neg (λe=>h (by grind))];have ei:i.toNat=nP c:=by omega
  rw [ei] at o hp;refine aC.intro (λ(j:Int) d=>0<=j/\j<=(nQ c:Int)/\∃(q:Sl) (u:List Addr) (own:Nat->Sl) (m:Nat->Nat->Int),u.length=j.toNat/\(∀i id,i<nP c->m i id=if id / 2<j.toNat then mG c (bS t) i id else 0)/\Has A (kQ c t pm (nW (tZ X l) q) g u own code (nP c) j.toNat m) d) (λj _=>(nQ c-j).toNat) ⟨by omega,by omega,X.procs,[],λ_=>⟨none,0,0⟩,λ_ _=>0,rfl,λ_ _ _=>(by simp),o⟩ ?_;rintro j k8 ⟨j0,j1,q,u,own,m,R,S,o⟩;by_cases hj:j<(nQ c:Int)
  ·rw [if_pos (decide_eq_true (by omega))];have a8:((j.toNat:Nat):Int)=j:=by omega
   refine bF.direct ?_;have key:=S8 (x:=nW (tZ X l) q) (j:=j.toNat) (Q:=λd=>(0<=yw (j+1)/\yw (j+1)<=(nQ c:Int)/\∃(q:Sl) (u:List Addr) (own:Nat->Sl) (m:Nat->Nat->Int),u.length=(yw (j+1)).toNat/\(∀i id,i<nP c->m i id=if id / 2<(yw (j+1)).toNat then mG c (bS t) i id else 0)/\Has A (kQ c t pm (nW (tZ X l) q) g u own code (nP c) (yw (j+1)).toNat m) d)/\(nQ c-yw (j+1)).toNat<(nQ c-j).toNat) H v G (by omega) R hp a.lane (by rw [C];exact b4) P b6 S o λE N c4 c5 d c3 W=>by rw [wrap64 (by omega) (by omega),show (j+1).toNat=j.toNat+1 by omega];exact ⟨⟨by omega,by omega,E,u++ [N],c4,c5,by grind,c3,W⟩,by omega⟩
   rw [a8] at key;exact key
  ·rw [if_neg (λe=>hj (by grind))];have ej:j.toNat=nQ c:=by omega
   rw [ej] at o R S;obtain ⟨O,F,o9,⟨F2,b2,b8⟩,_⟩:=o.fst;have Y:Has A ((dK 1 eP (nW (tZ X l) q).parts g).star ((dK 1 eP (nW (tZ X l) q).procs u).star (xe c own (nQ c) (nP c)))) O:=⟨F,F2,b2,b8⟩;have b1:=Z.mono F;have a9:∀p:Nat,∃M:List aL,∀y,ci[p]? =some y->nF O y.Code M/\M.map ba=ji c p:=λp=>by
    cases L:ci[p]? with
    | none=>simp
    | some y=>obtain ⟨cz,b7,_,M,h1,h2⟩:=P.get L;refine ⟨M,λy' e=> ?_⟩;cases e;exact ⟨Rw.mono F h1,by rw [h2];unfold ji;rw [b7];rfl⟩
   obtain ⟨ins,a9⟩:=Classical.axiomOfChoice a9;refine hq ⟨c,nW (tZ X l) q,w,sp,g,u,own,code,ins⟩ pm m O k8 rfl ?_ (Hp.le_trans (Hp.le_trans U V) F) ?_ (λi id J=> ?_)
   ·refine ⟨I,hu,?_,by rw [C];rfl,hT.mono (Hp.le_trans l5 F),by rw [C];rfl,⟨sl,sn,ns F hL,Rw.mono F hS⟩,hp,(Y.left.jE λ_=>rfl).map (f:=some) (enc:=λx=>bg (ah.enc x)),R,(Y.right.left.jE λ_=>rfl).map (f:=some) (enc:=λx=>bg (ah.enc x)),λi J=> ?_,λp hp=> ?_,λp hp=>G.eR⟩
    ·rw [C];exact b1
    ·exact ((Y.right.right.at_ J).jE λ_=>rfl)
    ·have b9:p<ci.length:=by have:p<nQ c:=hp;omega
     have L:=List.getElem?_eq_getElem b9;grind
   ·have et:qv (nW (tZ X l) q) (bS t).tick=nW (tZ X l) q:=by
     have e:X.tick=(bS t).tick:=by rw [C];exact b.tick
     rw [<-e];rfl
    unfold aB;dsimp only;rw [et];exact o9
   ·rw [S i id J];split
    ·rfl
    ·unfold mG;omega
end
section
variable {c:aI} {fl:Nat->Nat->Bool} {t:gN} {T:Int}
theorem aaq (m:bT c) (g:Good c fl (bS t) No No T) (hp:t.parts.length=nP c) (H:t.procs.length=nQ c):wK c t:=by
 have v:=g.qp m;have B:∀i x,t.parts[i]? =some x->i<nP c/\(bS t).part i=x:=λi x h=>⟨by grind,pL h⟩;have C:∀i x,t.procs[i]? =some x->i<nQ c/\(bS t).proc i=x:=λi x h=>⟨by grind,pL h⟩;have R:=m.ag;refine ⟨hp,H,λx j=> ?_,λx j=> ?_⟩
 ·obtain ⟨i,b⟩:=List.mem_iff_getElem?.1 j;obtain ⟨a,rfl⟩:=B i x b;have sp:=v.part i a;have pm:=g.part i a;refine ⟨⟨⟨sp.gK,by have:=pm.gK;omega⟩,λo s=> ?_,λk o q s u=> ?_,λJ K q L n D S z d I=> ?_⟩,sp.jP⟩
  ·obtain ⟨k,E⟩:=List.mem_iff_getElem?.1 s;rcases g.own i a k o E with h | h<;>omega
  ·obtain ⟨w,y,A⟩:=g.jg i a k q u;refine ⟨sp.qY.2 q (List.mem_of_getElem? u),λe=> ?_,λz d=>⟨(y z d).1,λe=> ?_⟩,w⟩
   ·grind
   ·obtain ⟨W,n,_,Q⟩:=A (List.ne_nil_of_mem d);grind
  ·have M:=(g.jg i a J q n).2.1 z I;have N:=(g.jg i a K L D).2.1 z d;rcases M.2.2.2.2 with h | ⟨_,U,a1,_,a3⟩
   ·exact h
   ·rcases N.2.2.2.2 with h | ⟨_,V,O,_,P⟩
    ·exact h
    grind
 ·obtain ⟨p,G⟩:=List.mem_iff_getElem?.1 j;obtain ⟨f,rfl⟩:=C p x G;have sp:=v.proc p f;have pm:=g.proc p f;refine ⟨sp.len,sp.cur,λl r=> ?_,pm.mD.1,pm.mE.1⟩;obtain ⟨i,b⟩:=List.mem_iff_getElem?.1 r;have sl:=sp.dQ l r;exact ⟨(pm.dQ i l b).1,λF=>((g.dQ p f i l b).2.1 F).2.2,sl.taken,sl.dropped,sl.nd,sl.waiters⟩
end
section
variable {h:Hp}
theorem P1 {P:Program} {n:Int} {Q:Int->Int->Hp->Prop} (b:0<=n/\n<=8) (a:Q 0 n h):Wm P 1 n Q h:=by
 unfold Wm;have:n=0\/n=1\/n=2\/n=3\/n=4\/n=5\/n=6\/n=7\/n=8:=by omega
 refine ⟨by decide,by decide,by decide,by decide,by decide,?_⟩;rcases this with rfl | rfl | rfl | rfl | rfl | rfl | rfl | rfl | rfl<;>exact a
theorem kL {v:Value}:∀ {n:Nat},fk [v] n=List.replicate n v
 | 0=>rfl
 | n+1=>by unfold fk;simp
theorem C4 :∀ {n:Nat} {v:Int},hH (List.replicate n (Value.int .i64 v))=true
 | 0,_=>rfl
 | n+1,v=>by rw [List.replicate_succ];show (hH [Value.int .i64 v]&&hH (List.replicate n (Value.int .i64 v)))=true;rw [C4];rfl
theorem V1 {a:Addr} {v n:Int} {Q:Sl->Hp->Prop} (y:aV h a [.int .i64 v]) (w:0<=n/\n<=8) (p:∀l g,h<=g->Is g l (List.replicate n.toNat v)->Q l g):Rf prog ⟨some a,1,1⟩ n Q h:=by
 unfold Rf;refine bF.direct ?_;rw [if_neg (by simp;omega)];refine R8 ?_;unfold HB;refine P5 ?_;rw [show IntKind.wrap .u64 (((⟨some a,1,1⟩:Sl).len:Nat):Int)=1 from rfl,show IntKind.wrap .u64 n=n from oZ ⟨by omega,by omega⟩];refine P1 w (bF.direct ?_);refine aU ?_;rw [show (decide ((0:Int)>0) || decide (n>9223372036854775807))=false by simp;omega,if_neg (by decide)];obtain ⟨m,rfl⟩:∃m:Nat,n=(m:Int):=⟨n.toNat,by omega⟩;rw [wrap64 (by omega) (by omega)];rw [Int.toNat_natCast] at p;refine ⟨⟨by omega,by omega,by omega,by omega⟩,λb ty hb=> ?_⟩;rw [Int.toNat_natCast,kL];have q:=lz (o:=.cells (List.replicate m (Value.int .i64 0)).toArray ty (0,0)) hb;have B:eI (h.set b (.cells (List.replicate m (Value.int .i64 0)).toArray ty (0,0))) b (List.replicate m (Value.int .i64 0)):=⟨ty,lZ⟩;have bq:∀ {k d:Hp},h<=k->Mv [b] k [b] d->h<=d:=λu m c s e=>m.bq c s (u c s e) λG=>by grind
 refine Er (sz:=1) B (x:=⟨some a,1,1⟩) (n:=min 1 m) (new:=List.replicate (min 1 m) (Value.int .i64 v)) rfl ⟨by simp,?_⟩ C4 (by simp;omega) λJ E C=> ?_
 ·by_cases e:m=0
  ·omega
  ·refine .inr ⟨a,rfl,?_⟩;rw [show min 1 m=1 by omega];exact ns q y
 ·refine aC.intro (λ(i:Int) d=>∃j:Nat,i=(j:Int)/\j<=m/\(1<=j\/m=0)/\h<=d/\eI d b (List.replicate j (Value.int .i64 v)++List.replicate (m-j) (Value.int .i64 0))) (λi _=>(m-i).toNat) ⟨min 1 m,rfl,by omega,by omega,bq q E,by simpa using C⟩ ?_;rintro i z ⟨j,rfl,H,I,r,f⟩;by_cases t:j<m
  ·rw [if_pos (decide_eq_true (by grind))];refine ⟨⟨by omega,by grind⟩,aU ⟨⟨by omega,by grind⟩,aU ?_⟩⟩;rw [Int.toNat_natCast];dsimp only;rw [tL (by omega),KH,Nat.zero_add,Nat.mul_one];refine Er (sz:=1) f (n:=min j (m-j)) (new:=List.replicate (min j (m-j)) (Value.int .i64 v)) rfl ?_ C4 (by simp;omega) λA F D=> ?_
   ·refine f.rd (by simp) ?_;grind
   ·rw [wrap64 (by omega) (by omega)];refine ⟨⟨j+min j (m-j),by omega,by omega,by omega,bq r F,cast (congrArg (eI A b) ?_) D⟩,by omega⟩;rw [List.take_append_of_le_length (by simp),List.take_of_length_le (by simp),List.drop_append,List.drop_eq_nil_of_le (by simp),List.nil_append,List.drop_replicate,List.length_replicate,List.replicate_append_replicate];congr 2;omega
  ·rw [if_neg (λe=>t (by grind))];have:j=m:=by omega
   subst this;refine p _ z r ⟨by simp,by rw [List.flatMap_replicate];show (fk [Value.int .i64 v] j).length=_;rw [kL];simp,?_⟩;by_cases e:j=0
   ·grind
   ·refine .inr ⟨⟨b,0,none⟩,rfl,?_⟩;rw [Nat.sub_self] at f;refine f.bI (off:=0) (n:=j) ?_;rw [List.drop_zero,List.replicate_zero,List.append_nil,List.take_of_length_le (by simp),List.flatMap_replicate];exact kL.symm
end
section
variable {h0 h1 k:Hp} {A:dh}
theorem Et {h:Hp} {b c:Nat} {d:Obj} (a:c≠b):(h.set b d) c=h c:=by simp [Hp.set,a]
theorem Eu {cs:List Value} {K:Addr->Hp->Prop} (o:Has h1 A k) (m:∀a f i,h1<=f->aV f a cs->Has f A i->K a i):bc cs K k:=by
 intro b t hb;obtain ⟨h,F,a,l⟩:=o;have j:h1 b=none:=pH h hb;refine m _ (h1.set b (.cells cs.toArray t (0,0))) _ (lz j) EV ⟨λc n e=> ?_,F,A.same a λc d=> ?_,λc d=> ?_⟩
 ·by_cases g:c=b
  ·subst g;rw [lZ] at e ⊢;exact e
  ·rw [Et g] at e ⊢;exact h c n e
 ·have:c≠b:=λe=>A.known a c d (by rw [e];exact hb);exact Et this
 ·have:c≠b:=λe=>A.known a c d (by rw [e];exact hb);rw [Et this];exact l c d
theorem Lp {e:Type} {sz bytes:Nat} {enc:e->List Value} {zero:List Value} {z:e} {n:Int} {K:Sl->Hp->Prop} (o:Has h1 A k) (i:zero=enc z) (f:∀x,(enc x).length=sz) (p:0<=n/\n<=1000) (hb:bytes<=1000)
  (g:∀l d c,h1<=d->Rw d sz enc l (List.replicate n.toNat z)->Has d A c->K l c):dA bytes zero n n K k:=by
 have m:n.toNat*bytes<=1000*1000:=Nat.mul_le_mul (by omega) hb;refine ⟨⟨by omega,by omega,by omega,by omega⟩,λb t hb=> ?_⟩;refine Eu (cs:=fk zero n.toNat) (K:=λa c=>K ⟨some a,n.toNat,n.toNat⟩ c) o (λa d c l h j=>g _ d c l ⟨by simp,?_,.inr ⟨a,rfl,?_⟩⟩ j) b t hb
 ·rw [List.flatMap_replicate,List.length_flatten,List.map_replicate,f,List.sum_replicate_nat,List.length_replicate]
 ·rw [List.flatMap_replicate,<-i];exact h
theorem yW {d:Type} {sz bytes:Nat} {enc:d->List Value} {zero:List Value} {z:d} {n:Int} {K:Sl->Hp->Prop} (j:zero=enc z) (h:∀x,(enc x).length=sz) (o:0<=n/\n<=1000) (hb:bytes<=1000)
  (i:∀l a,k<=a->Has k (fB sz enc l (List.replicate n.toNat z)) a->K l a):dA bytes zero n n K k:=by
 have m:n.toNat*bytes<=1000*1000:=Nat.mul_le_mul (by omega) hb;refine ⟨⟨by omega,by omega,by omega,by omega⟩,λb t hb=> ?_⟩;have e:(List.replicate n.toNat z).flatMap enc=fk zero n.toNat:=by rw [List.flatMap_replicate,j];rfl
 have f:(fk zero n.toNat).length=n.toNat*sz:=by rw [<-e,List.flatMap_replicate,List.length_flatten,List.map_replicate,h,List.sum_replicate_nat]
 refine i _ _ (lz hb) ⟨lz hb,λc=>c=b,⟨[b],⟨by rw [List.length_replicate],Nat.le_refl _,.inr ⟨b,fk zero n.toNat,rfl,rfl,⟨t,lZ⟩,f,?_⟩⟩,λc=>by simp⟩,λc g=>by rw [g];exact hb⟩;grind
end
abbrev eX :cU->List Value:=λx=>bg (dI.enc x)
abbrev eY :bR->List Value:=λx=>bg (cO.enc x)
def zX :cU:=⟨0,⟨none,0,0⟩,0,0,⟨none,0,0⟩,⟨none,0,0⟩⟩
def zY :bR:=⟨0,0,0,0,0,0,0,0,0,0,0,0,false,0,⟨none,0,0⟩⟩
def zL :cH:=⟨⟨none,0,0⟩,⟨none,0,0⟩,0,0⟩
def vp (ag:Int):dB:=⟨0,[],0,0,List.replicate ag.toNat (-1),List.replicate ag.toNat []⟩
def vq (n:Nat):au:=⟨0,0,List.replicate 8 0,0,0,false,0,List.replicate n ⟨[],[],0,0⟩⟩
theorem Fa {c d:Type} {R:c->d->Prop} {a:c} {b:d} (h:R a b):∀ {n:Nat},dj R (List.replicate n a) (List.replicate n b)
 | 0=>trivial
 | n+1=>⟨h,Fa h⟩
theorem Ev {c d:Type} {R:c->d->Prop} {a:c} {b:d} (h:R a b):∀ {l:List c} {m:List d},dj R l m->dj R (l++ [a]) (m++ [b])
 | [],[],_=>⟨h,trivial⟩
 | _::_,_::_,k=>⟨k.1,Ev h k.2⟩
section
variable {h0 hb k:Hp} {r r1:Sl} {i:Nat}
theorem Has.wi {sz:Nat} {sh:Shape} {l:Sl} {b:List sh.T} (o:Has h0 (fB sz (λx=>bg (sh.enc x)) l b) k) (a:∀x,(bg (sh.enc x)).length=sz) (c:0<sz) (d:i<b.length):bJ l.base l.len (i:Int):=
 (Rs.get (sh:=sh) (K:=λ_=>True) (o.mX a) a c (by omega) (by omega) λ_ _=>trivial).1
theorem Oj {rows:List cU} {ag:Int} {K:Hp->Prop} {B:dh} (o:Has hb ((fB 6 eX r rows).star B) k) (hi:rows[i]? =some zX) (R:0<=ag/\ag<=8)
  (hk:∀x c b,hb<=c->jI c x (vp ag)->Has c ((fB 6 eX r (rows.set i x)).star B) b->K b):
  (bc [(.int .i64 (-1:Int))] (λa L=>
 ((True/\(True/\(True/\(True/\True))))/\(ae prog sK [(.slice (some a) 1 1),(.int .i64 ag)] av (λr2 G=>
 ((True/\(True/\(True/\True)))/\((bJ r.base r.len (i:Int))/\(dA 24 [(.slice none 0 0)] ag ag (λE w=>
 ((True/\(True/\True))/\bW w (Addr.add (sat r.base 6 (i:Int)) 4) [r2.v] (λy=>
 ((True/\True)/\((bJ r.base r.len (i:Int))/\bW y (Addr.add (sat r.base 6 (i:Int)) 5) [E.v] (λA=>
 K A)))))) G/\bW G (Addr.add (sat r.base 6 (i:Int)) 4) [r2.v] (λw=>
 ((True/\(True/\True))/\dA 24 [(.slice none 0 0)] ag ag (λE y=>
 ((True/\(True/\True))/\((bJ r.base r.len (i:Int))/\bW y (Addr.add (sat r.base 6 (i:Int)) 5) [E.v] (λA=>
 K A)))) w)))))) L/\dA 24 [(.slice none 0 0)] ag ag (λr2 G=>
 ((True/\(True/\(True/\True)))/\ae prog sK [(.slice (some a) 1 1),(.int .i64 ag)] av (λE w=>
 ((True/\(True/\(True/\True)))/\((bJ r.base r.len (i:Int))/\bW w (Addr.add (sat r.base 6 (i:Int)) 4) [E.v] (λy=>
 ((True/\(True/\True))/\((bJ r.base r.len (i:Int))/\bW y (Addr.add (sat r.base 6 (i:Int)) 5) [r2.v] (λA=>
 K A))))))) G)) L))) k/\dA 24 [(.slice none 0 0)] ag ag (λr2 L=>
 ((True/\(True/\(True/\True)))/\bc [(.int .i64 (-1:Int))] (λa G=>
 ((True/\(True/\(True/\(True/\True))))/\ae prog sK [(.slice (some a) 1 1),(.int .i64 ag)] av (λE w=>
 ((True/\(True/\(True/\True)))/\((bJ r.base r.len (i:Int))/\bW w (Addr.add (sat r.base 6 (i:Int)) 4) [E.v] (λy=>
 ((True/\(True/\True))/\((bJ r.base r.len (i:Int))/\bW y (Addr.add (sat r.base 6 (i:Int)) 5) [r2.v] (λA=>
 K A))))))) G)) L)) k):=by
 have Q:i<rows.length:=(List.getElem?_eq_some_iff.1 hi).1;have fin:∀ {c b:Hp} {d g:Sl},hb<=c->Is c d (List.replicate ag.toNat (-1))->Rw c 1 (λx=>bg (av.enc x)) g (List.replicate ag.toNat (⟨none,0,0⟩:Sl))->Has c ((fB 6 eX r ((rows.set i {zX with eA:=d}).set i {zX with eA:=d,gl:=g})).star B) b->K b:=λ{c b d g} R m n h=>by rw [List.set_set] at h;exact hk _ c b R ⟨rfl,⟨[],Rw.nil rfl,rfl⟩,rfl,rfl,m,_,n,Fa (Rw.nil rfl)⟩ h
 have N:∀ {c b:Hp} {d:Sl} {f:Hp->Prop},Has c ((fB 6 eX r rows).star B) b->(∀p,Has c ((fB 6 eX r (rows.set i {zX with eA:=d})).star B) p->f p)->bW b ((sat r.base 6 (i:Int)).add 4) [d.v] f:=λ{c b d f} h I=>by obtain ⟨m,_,W,_,put⟩:=h.fst;exact W.xc (i:=i) (x':={zX with eA:=d}) (off:=4) (new:=[d.v]) (λ_=>rfl) hi (by simp) rfl λp V=>I p (put _ _ V)
 have O:∀ {c b:Hp} {d g:Sl} {f:Hp->Prop},Has c ((fB 6 eX r (rows.set i {zX with eA:=d})).star B) b->(∀p,Has c ((fB 6 eX r ((rows.set i {zX with eA:=d}).set i {zX with eA:=d,gl:=g})).star B) p->f p)->bW b ((sat r.base 6 (i:Int)).add 5) [g.v] f:=λ{c b d g f} h I=>by obtain ⟨m,_,W,_,put⟩:=h.fst;exact W.xc (i:=i) (x:={zX with eA:=d}) (x':={zX with eA:=d,gl:=g}) (off:=5) (new:=[g.v]) (λ_=>rfl) (List.getElem?_set_self Q) (by simp) rfl λp V=>I p (put _ _ V)
 have wi:∀ {c b:Hp} {a9:List cU},a9.length=rows.length->Has c ((fB 6 eX r a9).star B) b->bJ r.base r.len (i:Int):=λe h=>(Has.left h).wi (sh:=dI) (λ_=>rfl) (by decide) (by omega);have mk:∀ {c b:Hp} {F:dh} {f:Sl->Hp->Prop},Has c F b->(∀l u b,c<=u->Rw u 1 (λx=>bg (av.enc x)) l (List.replicate ag.toNat (⟨none,0,0⟩:Sl))->Has u F b->f l b)->dA 24 [(.slice none 0 0)] ag ag f b:=λh I=>Lp (z:=(⟨none,0,0⟩:Sl)) (enc:=λx=>bg (av.enc x)) h rfl (λ_=>rfl) (by omega) (by omega) I;have X:∀ {c b:Hp} {F:dh} {a:Addr} {f:Sl->Hp->Prop},Has c F b->aV c a [.int .i64 (-1)]->(∀l u b,c<=u->Is u l (List.replicate ag.toNat (-1))->Has u F b->f l b)->ae prog sK [(.slice (some a) 1 1),(.int .i64 ag)] av f b:=λ{c b F a f} h H I=>by refine DF (sh:=av) (K0:=λl P=>c<=P/\Is P l (List.replicate ag.toNat (-1))) h (zsv (x:=⟨some a,1,1⟩) (V1 H R λl P b1 Q=>⟨b1,Q⟩)) ?_;grind
 refine ⟨?_,?_⟩
 ·refine Eu o λa b0 k1 J H M=> ?_;refine ⟨⟨trivial,trivial,trivial,trivial,trivial⟩,?_,?_⟩
  ·refine X M H λd Y k2 s m C=> ?_;refine ⟨⟨trivial,trivial,trivial,trivial⟩,wi rfl C,?_,?_⟩
   ·refine mk C λg Z S t n q=> ?_;refine ⟨⟨trivial,trivial,trivial⟩,N q λT j=>⟨⟨trivial,trivial⟩,wi (by simp) j,O j λU D=>fin (Hp.le_trans J (Hp.le_trans s t)) (Rw.mono t m) n D⟩⟩
   ·refine N C λS q=>⟨⟨trivial,trivial,trivial⟩,?_⟩;refine mk q λg b2 T a8 n j=> ?_;exact ⟨⟨trivial,trivial,trivial⟩,wi (by simp) j,O j λU D=>fin (Hp.le_trans J (Hp.le_trans s a8)) (Rw.mono a8 m) n D⟩
  ·refine mk M λg Y k2 s n C=> ?_;refine ⟨⟨trivial,trivial,trivial,trivial⟩,?_⟩;refine X C (ns s H) λd Z S t m q=> ?_;exact ⟨⟨trivial,trivial,trivial,trivial⟩,wi rfl q,N q λT j=>⟨⟨trivial,trivial,trivial⟩,wi (by simp) j,O j λU D=>fin (Hp.le_trans J (Hp.le_trans s t)) m (Rw.mono t n) D⟩⟩
 ·refine mk o λg b0 k1 J n M=> ?_;refine ⟨⟨trivial,trivial,trivial,trivial⟩,?_⟩;refine Eu M λa Y k2 s H C=> ?_;refine ⟨⟨trivial,trivial,trivial,trivial,trivial⟩,?_⟩;refine X C H λd Z S t m q=> ?_;exact ⟨⟨trivial,trivial,trivial,trivial⟩,wi rfl q,N q λT j=>⟨⟨trivial,trivial,trivial⟩,wi (by simp) j,O j λU D=>fin (Hp.le_trans J (Hp.le_trans s t)) m (Rw.mono t (Rw.mono s n)) D⟩⟩
theorem Ol {rows:List bR} {n:Int} {K:Hp->Prop} {B:dh} (o:Has hb (B.star (fB 15 eY r1 rows)) k) (b:rows[i]? =some zY) (w:1<=n/\n<=100)
  (m:∀x a c,hb<=a->fm a x (vq n.toNat)->Has a (B.star (fB 15 eY r1 (rows.set i x))) c->K c):
  dA 64 [(.slice none 0 0),(.slice none 0 0),(.int .i64 (0:Int)),(.int .i64 (0:Int))] n n (λr2 f=>
 ((True/\True)/\((bJ r1.base r1.len (i:Int))/\bW f (Addr.add (sat r1.base 15 (i:Int)) 14) [r2.v] (λg=>
 K g)))) k:=by
 have j:i<rows.length:=(List.getElem?_eq_some_iff.1 b).1;refine Lp (sz:=4) (z:=zL) (enc:=λx=>bg (cL.enc x)) o rfl (λ_=>rfl) (by omega) (by omega) λl h y q e d=> ?_;refine ⟨⟨trivial,trivial⟩,(Has.right d).wi (sh:=cO) (λ_=>rfl) (by decide) j,?_⟩;obtain ⟨u,_,t,_,put⟩:=d.snd;refine t.xc (i:=i) (x':={zY with jH:=l}) (off:=14) (new:=[l.v]) (λ_=>rfl) b (by simp) rfl λp s=>m _ h p q ⟨rfl,rfl,rfl,rfl,rfl,rfl,rfl,_,e,Fa ⟨Rw.nil rfl,⟨[],Rw.nil rfl,rfl⟩,rfl,rfl⟩⟩ (put _ _ s)
theorem Jg {x:al} {c:aI} {Q:aZ->Hp->Prop} (a:gL h0 x c) (N:bT c) (o:Has h0 ((fB 6 eX r (List.replicate (nP c) zX)).star (fB 15 eY r1 (List.replicate (nQ c) zY))) k)
  (U:∀y d,h0<=d->fA d y ((rT c).list c)->Q y d):aC (α1:=Int) (λP b G=>
 (if (decide (b<((r.len:Nat):Int)))=true then
 bF (λk=>
 (bc [(.int .i64 (-1:Int))] (λa g=>
 ((True/\(True/\(True/\(True/\True))))/\(ae prog sK [(.slice (some a) 1 1),(.int .i64 x.bG)] av (λr2 m=>
 ((True/\(True/\(True/\True)))/\((bJ r.base r.len b)/\(dA 24 [(.slice none 0 0)] x.bG x.bG (λu l=>
 ((True/\(True/\True))/\bW l (Addr.add (sat r.base 6 b) 4) [r2.v] (λq=>
 ((True/\True)/\((bJ r.base r.len b)/\bW q (Addr.add (sat r.base 6 b) 5) [u.v] (λs=>
 k s)))))) m/\bW m (Addr.add (sat r.base 6 b) 4) [r2.v] (λl=>
 ((True/\(True/\True))/\dA 24 [(.slice none 0 0)] x.bG x.bG (λu q=>
 ((True/\(True/\True))/\((bJ r.base r.len b)/\bW q (Addr.add (sat r.base 6 b) 5) [u.v] (λs=>
 k s)))) l)))))) g/\dA 24 [(.slice none 0 0)] x.bG x.bG (λr2 m=>
 ((True/\(True/\(True/\True)))/\ae prog sK [(.slice (some a) 1 1),(.int .i64 x.bG)] av (λu l=>
 ((True/\(True/\(True/\True)))/\((bJ r.base r.len b)/\bW l (Addr.add (sat r.base 6 b) 4) [u.v] (λq=>
 ((True/\(True/\True))/\((bJ r.base r.len b)/\bW q (Addr.add (sat r.base 6 b) 5) [r2.v] (λs=>
 k s))))))) m)) g))) G/\dA 24 [(.slice none 0 0)] x.bG x.bG (λr2 g=>
 ((True/\(True/\(True/\True)))/\bc [(.int .i64 (-1:Int))] (λa m=>
 ((True/\(True/\(True/\(True/\True))))/\ae prog sK [(.slice (some a) 1 1),(.int .i64 x.bG)] av (λu l=>
 ((True/\(True/\(True/\True)))/\((bJ r.base r.len b)/\bW l (Addr.add (sat r.base 6 b) 4) [u.v] (λq=>
 ((True/\(True/\True))/\((bJ r.base r.len b)/\bW q (Addr.add (sat r.base 6 b) 5) [r2.v] (λs=>
 k s))))))) m)) g)) G))
 (λg=>
 P (yw (b+(1:Int))) g)
 else
 aC (α1:=Int) (λR E g=>
 (if (decide (E<((r1.len:Nat):Int)))=true then
 dA 64 [(.slice none 0 0),(.slice none 0 0),(.int .i64 (0:Int)),(.int .i64 (0:Int))] (yw (((x.aE.len:Nat):Int)+(1:Int))) (yw (((x.aE.len:Nat):Int)+(1:Int))) (λr2 m=>
 ((True/\True)/\((bJ r1.base r1.len E)/\bW m (Addr.add (sat r1.base 15 E) 14) [r2.v] (λl=>
 R (yw (E+(1:Int))) l)))) g
 else
 Q ⟨(0:Int),r,r1⟩ g)) (0:Int) G)) (0:Int) k:=by
 have a8:=N.parts;have a9:=N.procs;have Y:nP c=c.labels.length:=rfl;have Z:x.aE.len=c.labels.length:=a.labels.1;have W:r.len=nP c:=by have:=(Has.left o).u4.ic;grind
 have X:r1.len=nQ c:=by have:=(Has.right o).u4.ic;grind
 refine aC.intro (λ(t:Int) d=>0<=t/\t<=(nP c:Int)/\∃hb done,h0<=hb/\dj (jI hb) done (List.replicate t.toNat (vp c.ag))/\Has hb ((fB 6 eX r (done++List.replicate (nP c-t.toNat) zX)).star (fB 15 eY r1 (List.replicate (nQ c) zY))) d) (λt _=>(nP c-t).toNat) ⟨by omega,by omega,h0,[],Hp.le_refl _,trivial,by simpa using o⟩ ?_;rintro t k1 ⟨t0,t1,hb,done,lb,hd,o1⟩;have O:=hd.len;rw [List.length_replicate] at O;by_cases h:t<(nP c:Int)
 ·rw [if_pos (decide_eq_true (by omega))];have A:((t.toNat:Nat):Int)=t:=by omega
  refine bF.direct ?_;have J:(done++List.replicate (nP c-t.toNat) zX)[t.toNat]? =some zX:=by grind
  rw [a.ag];have key:=Oj (i:=t.toNat) (r:=r) (K:=λd=>(0<=yw (t+1)/\yw (t+1)<=(nP c:Int)/\∃hb done,h0<=hb/\dj (jI hb) done (List.replicate (yw (t+1)).toNat (vp c.ag))/\Has hb ((fB 6 eX r (done++List.replicate (nP c-(yw (t+1)).toNat) zX)).star (fB 15 eY r1 (List.replicate (nQ c) zY))) d)/\(nP c-yw (t+1)).toNat<(nP c-t).toNat) o1 J N.ag λy H d w C D=>by
   rw [wrap64 (by omega) (by omega),show (t+1).toNat=t.toNat+1 by omega];refine ⟨⟨by omega,by omega,H,done++ [y],Hp.le_trans lb w,?_,?_⟩,by omega⟩
   ·rw [List.replicate_succ'];exact Ev C (hd.imp λ_ _ e=>e.mono w)
   ·rw [List.set_append_right _ _ (by omega),O,Nat.sub_self,show nP c-t.toNat=(nP c-(t.toNat+1))+1 by omega,List.replicate_succ,List.set_cons_zero] at D;grind
  rw [A] at key;exact key
 ·rw [if_neg (λe=>h (by grind))];have A:t.toNat=nP c:=by omega
  rw [A,Nat.sub_self,List.replicate_zero,List.append_nil] at o1;rw [A] at hd;refine aC.intro (λ(j:Int) d=>0<=j/\j<=(nQ c:Int)/\∃p f,hb<=p/\dj (fm p) f (List.replicate j.toNat (vq (nP c+1)))/\Has p ((fB 6 eX r done).star (fB 15 eY r1 (f++List.replicate (nQ c-j.toNat) zY))) d) (λj _=>(nQ c-j).toNat) ⟨by omega,by omega,hb,[],Hp.le_refl _,trivial,by simpa using o1⟩ ?_;rintro j V ⟨j0,j1,p,f,L,B,z⟩;have I:=B.len;rw [List.length_replicate] at I;by_cases T:j<(nQ c:Int)
  ·rw [if_pos (decide_eq_true (by omega))];have F:((j.toNat:Nat):Int)=j:=by omega
   have J:(f++List.replicate (nQ c-j.toNat) zY)[j.toNat]? =some zY:=by rw [List.getElem?_append_right (by omega),I,Nat.sub_self,List.getElem?_replicate,if_pos (by omega)]
   rw [wrap64 (n:=(x.aE.len:Int)+1) (by omega) (by omega)];have S:((x.aE.len:Int)+1).toNat=nP c+1:=by omega
   have key:=Ol (i:=j.toNat) (r1:=r1) (n:=(x.aE.len:Int)+1) (K:=λd=>(0<=yw (j+1)/\yw (j+1)<=(nQ c:Int)/\∃p f,hb<=p/\dj (fm p) f (List.replicate (yw (j+1)).toNat (vq (nP c+1)))/\Has p ((fB 6 eX r done).star (fB 15 eY r1 (f++List.replicate (nQ c-(yw (j+1)).toNat) zY))) d)/\(nQ c-yw (j+1)).toNat<(nQ c-j).toNat) z J (by omega) λy H d w C D=>by
    rw [wrap64 (by omega) (by omega),show (j+1).toNat=j.toNat+1 by omega];refine ⟨⟨by omega,by omega,H,f++ [y],Hp.le_trans L w,?_,?_⟩,by omega⟩
    ·rw [List.replicate_succ'];rw [S] at C;exact Ev C (B.imp λ_ _ e=>e.mono w)
    ·rw [List.set_append_right _ _ (by omega),I,Nat.sub_self,show nQ c-j.toNat=(nQ c-(j.toNat+1))+1 by omega,List.replicate_succ,List.set_cons_zero] at D;rw [List.append_assoc];exact D
   grind
  ·rw [if_neg (λe=>T (by grind))];have F:j.toNat=nQ c:=by omega
   rw [F,Nat.sub_self,List.replicate_zero,List.append_nil] at z;rw [F] at B;have M:=z.le;refine U _ V (Hp.le_trans lb (Hp.le_trans L M)) ⟨rfl,⟨done,(Has.left z).mX λ_=>rfl,?_⟩,f,(Has.right z).mX λ_=>rfl,?_⟩
   ·have e:((rT c).list c).parts=List.replicate (nP c) (vp c.ag):=by show (List.range (nP c)).map (λ_=>vp c.ag)=_;rw [List.map_const',List.length_range]
    rw [e];exact hd.imp λ_ _ e=>e.mono (Hp.le_trans L M)
   ·have e:((rT c).list c).procs=List.replicate (nQ c) (vq (nP c+1)):=by show (List.range (nQ c)).map (λ_=>vq (nP c+1))=_;rw [List.map_const',List.length_range]
    rw [e];exact B.imp λ_ _ e=>e.mono M
theorem YJ {x:al} {c:aI} {Q:aZ->Hp->Prop} (a:gL k x c) (e:bT c) (g:∀y f,k<=f->fA f y ((rT c).list c)->Q y f):Ys prog x Q k:=by
 unfold Ys;have v:=e.parts;have C:=e.procs;have t:nP c=c.labels.length:=rfl;have B:nQ c=c.procs.length:=rfl;have u:x.aE.len=c.labels.length:=a.labels.1;obtain ⟨s,j,h⟩:=a.procs;have w:=h.len;have A:x.aQ.len=s.length:=j.1;refine ⟨?_,?_⟩
 ·refine yW (sz:=6) (z:=zX) (enc:=eX) rfl (λ_=>rfl) (by omega) (by omega) λl m o b=>⟨⟨trivial,trivial⟩,?_⟩;refine yW (sz:=15) (z:=zY) (enc:=eY) rfl (λ_=>rfl) (by omega) (by omega) λp n q d=> ?_;rw [show ((x.aE.len:Int)).toNat=nP c by omega] at b;rw [show ((x.aQ.len:Int)).toNat=nQ c by omega] at d;exact Jg a e (b.beside d) g
 ·refine yW (sz:=15) (z:=zY) (enc:=eY) rfl (λ_=>rfl) (by omega) (by omega) λp m o b=>⟨⟨trivial,trivial⟩,?_⟩;refine yW (sz:=6) (z:=zX) (enc:=eX) rfl (λ_=>rfl) (by omega) (by omega) λl n q d=>⟨⟨trivial,trivial⟩,?_⟩;rw [show ((x.aE.len:Int)).toNat=nP c by omega] at d;rw [show ((x.aQ.len:Int)).toNat=nQ c by omega] at b;exact Jg a e (b.beside d).comm g
end
end Lf
namespace Go.Proofs
open Go.RowKit Go.Shelf
attribute [local go_sem] Oper.semAt_some
def vg (cur len:Int) (j:Nat):Int:=(wrap64 (cur+(j:Int))).tmod len
abbrev F6 (len:Nat):={x:Int // 0<=x/\x<(len:Int)}
def nw {a:Type} (num:Nat->a) (k:Nat):List a:=(List.range k).map num
theorem jT {a:Type} {num:Nat->a} {k:Nat}:nw num (k+1)=nw num k++ [num k]:=by simp [nw,List.range_succ]
theorem abW {a:Type} {num:Nat->a} {k:Nat}:(nw num k).length=k:=by simp [nw]
set_option maxHeartbeats 2000000 in
theorem V3 (n:Nat) (hn:1<=n) (l A A1:Nat) (cur:Int) (len:Nat) (hlen:0<len) (hl2:len<=1000) (num:Nat->F6 len) (hnum:∀j,j<len->vg cur len j=(num j).1) (Kp:World->World->Prop) (hkp:∀W W',Kp W W'->W'.cell? ⟨A,0,none⟩=W.cell? ⟨A,0,none⟩/\W'.cell? ⟨A1,0,none⟩=W.cell? ⟨A1,0,none⟩) (J Jx:List (F6 len)->World->Prop)
  (hY:∀pre x W,J pre W->pre.length<len->YieldAt Fence.wide (n-1) Tryz.prog l #[.int .i64 x.1] W λe W'=>
   (e=.returned (.bool true)/\J (pre++ [x]) W'/\Kp W W')\/(e=.returned (.bool false)/\Jx (pre++ [x]) W'))
  (W:World) (hA:W.cell? ⟨A,0,none⟩=some (.int .i64 cur)) (hA1:W.cell? ⟨A1,0,none⟩=some (.int .i64 (len:Int))) (h0:J [] W):
  CallsIn Fence.wide n Tryz.prog 242 #[.func (.yield l) #[] #[],.pointer (some ⟨A1,0,none⟩),.pointer (some ⟨A,0,none⟩)] W λe W'=>(∃v,e=.returned v)/\
   ((∃ys,ys=nw num len/\J ys W')\/(∃pre,(∃k,k<=len/\pre=nw num k)/\Jx pre W')):=by
 refine callsIn_of_wp Tryz.func242 rfl trivial ?_ rfl;simp only [Tryz.ntmps242,List.size_toArray,List.length_cons,List.length_nil,Nat.reduceAdd,Nat.reduceSub,Array.replicate_succ,Array.replicate_zero,List.push_toArray,List.append_toArray,List.nil_append,List.cons_append]
 gi_wp2
 gi_loopw [6] (λi wr=>∃k:Nat,k<=len/\i=.int .i64 (k:Int)/\J (nw num k) wr/\wr.cell? ⟨A,0,none⟩=some (.int .i64 cur)/\wr.cell? ⟨A1,0,none⟩=some (.int .i64 (len:Int)))
  (λi _=>len-(intOf i).toNat)
 case atStart=>exact ⟨0,Nat.zero_le _,rfl,h0,hA,hA1⟩
 case round=>
  obtain ⟨k,hk,rfl,hJs,hcA,hcA1⟩:=hrel;by_cases hlt:k<len
  ·obtain ⟨fn,tmps,assign,body,hy,hR⟩:=hY _ (num k) wr hJs (by rw [abW];exact hlt);rw [<-hnum k hlt] at hy;unfold vg at hy
   gi_wp2
   refine hR.mono ?_;rintro e W3 (⟨rfl,hJ3,hk3⟩ | ⟨rfl,hJx3⟩)
   ·gi_wp2
    go_roundw
    case rel=>exact ⟨k+1,by omega,by simp,by rw [jT];exact hJ3,(hkp _ _ hk3).1.trans hcA,(hkp _ _ hk3).2.trans hcA1⟩
    case measure=>simp [intOf];omega
   ·gi_wp2
    refine bodyPost_ret (results_none rfl _ _ _) rfl ?_;exact ⟨⟨_,rfl⟩,.inr ⟨_,⟨k+1,by omega,jT.symm⟩,hJx3⟩⟩
  ·obtain rfl:k=len:=by omega
   gi_wp2
   go_end0
   exact ⟨⟨_,rfl⟩,.inl ⟨_,rfl,hJs⟩⟩
end Go.Proofs
namespace Lf
open Go Go.Proofs Tryz
noncomputable def ln :Code:=match v7 f209 with
 | .seq _ (.scope (.seq _ (.seq _ (.seq _ t))))=>t
 | _=>.skip
def sD :List Nat:=[1,3,4]
def zv :bp:=.sq .tt (.sq (.rg [(0,[]),(1,[]),(2,[]),(3,[]),(4,[]),(5,[]),(6,[]),(7,[]),(8,[]),(9,[]),(10,[]),(11,[])]) (.sq (.rg [(0,[]),(1,[]),(2,[]),(3,[]),(4,[]),(5,[]),(6,[]),(7,[]),(8,[]),(9,[]),(10,[]),(11,[]),(12,[]),(13,[]),(14,[]),(15,[]),(16,[])]) (.sq (.rg [(0,[]),(1,[]),(2,[]),(3,[]),(4,[]),(5,[]),(6,[2]),(7,[]),(8,[]),(9,[])]) .tt)))
noncomputable def ve :Ctx:=⟨prog,tb,sD⟩
def jS (p:Option Addr) (lane:Int):St where
 f:=λt=>match t with
  | 1=>some (.box 1 0,[])
  | 2=>some (.v (.int .i64 0),[])
  | 3=>some (.box 3 0,[])
  | 4=>some (.box 4 0,[])
  | 5=>some (.v (.bool false),[])
  | 6=>some (.v (.int .i64 0),[])
  | _=>none
 m:=λk=>match k with
  | 1=>some [.pointer p]
  | 3=>some [.int .i64 lane]
  | 4=>some [.int .i64 0,.int .i64 0]
  | _=>none
noncomputable def GF (K:(bn tb f209.resultTypes.toList).T->Hp->Prop):Env:=λe s h=>match e with
 | .fR | .ret=>tu ve s h f209.results.toList f209.resultTypes.toList K
 | _=>False
noncomputable def qt (p:Option Addr) (lane:Int) (K:(bn tb f209.resultTypes.toList).T->Hp->Prop) (h:Hp):Prop:=
 liftM ve ln .full zv sD (jS p lane) (GF K) h
end Lf
namespace Go.Proofs
open Go.RowKit Go.Shelf
attribute [local go_sem] Oper.semAt_some
theorem tD {w:World} {o:Obj} {b:Nat}:(w.alloc o).heap[b]? =if b=w.heap.size then some o else w.heap[b]?:=by show (w.heap.push o)[b]? =_;grind
theorem CJ {W:World} {b i:Nat} {a:Array Value} {t:TypeId} (h:W.heap[b]? =some (.cells a t (0,0))):W.cell? ⟨b,i,none⟩=a[i]?:=by simp [World.cell?,h]
theorem yc {W a:World} {b i:Nat} (h:a.heap[b]? =W.heap[b]?):a.cell? ⟨b,i,none⟩=W.cell? ⟨b,i,none⟩:=by simp [World.cell?,h]
structure Bn (B c:Nat) (W2:World) (v:Int) (W:World):Prop where
 same:∀b,b<B->b≠c->W.heap[b]? =W2.heap[b]?
 box:W.heap[c]? =some (.cells #[.int .i64 v] 3)
 size:B<=W.heap.size
 os:W.os=W2.os
 tape:W.tape=W2.tape
 output:W.output=W2.output
theorem Bn.grown {B c:Nat} {f W d:World} {v:Int} {row:Option Nat} (g:Bn B c f v W) (h:c<B) (a:W.grownBy d row) (j:∀r,row=some r->B<=r/\∃o:Obj,W.heap[r]? =some o/\o.isCells=false):Bn B c f v d:=by
 have key:∀b,b<B->d.heap[b]? =W.heap[b]?:=λb hb=>a.block b (Nat.lt_of_lt_of_le hb g.size) λe=>by grind
 exact ⟨λb hb i=>(key b hb).trans (g.same b hb i),(key c h).trans g.box,Nat.le_trans g.size a.size,a.os.trans g.os,a.tape.trans g.tape,a.output.trans g.output⟩
theorem abn {n:Nat} {d:Nat->Nat} {s:Lf.St} {a:Act} {h:Lf.Hp} {w:World} {D:Nat} (r:Lf.Rel n d s a h w) (q:h D=none) (t:w.heap[D]? =some (.deferred (some []))) (o:Obj):Lf.Rel n d s a h (w.putObj D o) where
 sz:=r.sz
 sub:=λb p e=>by
  have c:b≠D:=λi=>by grind
  rw [World.putObj_heap_other c];exact r.sub b p e
 lt:=r.lt
 chain:=r.chain
 cur:=r.cur
 aN:=r.aN
 box:=λk f e m=>by
  obtain ⟨j,g,l⟩:=r.box k f e m;have c:d k≠D:=λi=>by grind
  exact ⟨j,g,by rw [World.putObj_heap_other c];exact l⟩
 inj:=r.inj
 kq:=r.kq
 jz:=r.jz
abbrev DV (p:Addr) (w:World) (b c d a:Value):Array Value:= #[Value.pointer (some p),Value.pointer (some {block:=w.heap.size,off:=0}),Value.int IntKind.i64 0,Value.pointer (some {block:=w.heap.size+1,off:=0}),Value.pointer (some {block:=w.heap.size+1+1,off:=0}),Value.bool false,Value.int IntKind.i64 0,b,c,d,a,undef,undef,undef,undef,undef,undef,undef,undef,undef,undef,undef,undef,undef,undef,undef,undef,undef,undef,undef,undef,undef,undef,undef,undef,undef,undef,undef,undef,undef,undef,undef,undef,undef,undef,undef,undef,undef,undef,undef,undef,undef,undef]
theorem aar {k:Lf.Hp} {p:Addr} {w W:World} {D:Nat} {v:Int} {Q R S P:Value} {K:(Lf.bn Lf.tb Tryz.f209.resultTypes.toList).T->Lf.Hp->Prop} (E:Lf.Sub k w)
  (s:Below w.heap.size w W) (b0:W.heap[w.heap.size]? =some (.cells #[.pointer (some p)] 138)) (b1:W.heap[w.heap.size+1]? =some (.cells #[.int .i64 v] 3)) (b2:W.heap[w.heap.size+2]? =some (.cells #[.int .i64 0,.int .i64 0] 191))
  (G:w.heap.size+3<=D) (H:W.heap[D]? =some (.deferred (some []))) (ht:Lf.qt (some p) v K k):
  Lf.ln.wp Tryz.prog (Exit.noGoto (bodyPostM Fence.wide 3 Tryz.prog Tryz.f209 λe y=>∃u g,e=.returned u/\(∃x,u=(Lf.bn Lf.tb Tryz.f209.resultTypes.toList).enc x/\K x g)/\Lf.Step k g w y))
   {tmps:=DV p w Q R S P,defers:=[{target:=.collected D,args:= #[]}]} W:=by
 have b5:Lf.Sub k W:=λb o e=>(s.block b (E.lt e)).trans (E b o e);have b4:∀b,w.heap.size<=b->k b=none:=λb hb=>by
  cases e:k b with
  | none=>rfl
  | some o=>have:=E.lt e;omega
 have Z:Lf.Rel 53 (λk=>if k=1 then w.heap.size else if k=3 then w.heap.size+1 else w.heap.size+2) (Lf.jS (some p) v) {tmps:=DV p w Q R S P,defers:=[{target:=.collected D,args:= #[]}]} k W:=by
  have O:∀(t:Nat) (l:Lf.LV) (c:Lf.aS),(Lf.jS (some p) v).f t=some (l,c)->c=[]/\(t=1/\l=.box 1 0\/t=2/\l=.v (.int .i64 0)\/t=3/\l=.box 3 0\/t=4/\l=.box 4 0\/t=5/\l=.v (.bool false)\/t=6/\l=.v (.int .i64 0)):=λt l c e=>by unfold Lf.jS at e;dsimp only at e;split at e<;>cases e<;>simp
  have cell:∀(k:Nat) (d:List Value),(Lf.jS (some p) v).m k=some d->k=1/\d=[.pointer (some p)]\/k=3/\d=[.int .i64 v]\/k=4/\d=[.int .i64 0,.int .i64 0]:=λk d e=>by unfold Lf.jS at e;dsimp only at e;split at e<;>cases e<;>simp
  refine ⟨rfl,b5,λt l c e=> ?_,λt l c e q hq=> ?_,λt l c e _ _=> ?_,λt l c e _ I=> ?_,λa d e _=> ?_,λA B U V _ _ z=> ?_,λ_ e=>e.elim,λ_ e=>e.elim⟩
  ·grind
  ·grind
  ·obtain ⟨_,h | h | h | h | h | h⟩:=O t l c e<;>obtain ⟨rfl,rfl⟩:=h<;>exact ⟨rfl,λ_ _ _=>trivial⟩
  ·rw [(O t l c e).1] at I;exact absurd (Lf.bz _) I
  ·grind
  ·have c1:A=1\/A=3\/A=4:=by
    cases e:(Lf.jS (some p) v).m A with
    | none=>exact absurd e U
    | some d=>rcases cell A d e with h | h | h<;>simp [h.1]
   have c2:B=1\/B=3\/B=4:=by
    cases e:(Lf.jS (some p) v).m B with
    | none=>exact absurd e V
    | some d=>rcases cell B d e with h | h | h<;>simp [h.1]
   grind
 have C:∀a∈Lf.sD,∀b,b<w.heap.size\/w.heap.size+3<=b->(if a=1 then w.heap.size else if a=3 then w.heap.size+1 else w.heap.size+2)≠b:=λa _ b hb e=>by grind
 refine Lf.mT Lf.an Lf.ln Lf.zv Lf.sD _ _ k (Lf.oi (n:=53) (by kernel_rfl)) ht _ _ W Z _ λe s' g b6 F y z Y r=> ?_;have qO:D<W.heap.size:=Lf.gy H;have dn:k D=none:=b4 D (by omega);have N:y.heap[D]? =some (.deferred (some [])):=(r.bq D qO dn λa j _=>C a j D (.inr G)).trans H;have X:g D=none:=r.wo D qO dn λa j _=>C a j D (.inr G);have fin:Lf.tu Lf.ve s' g Tryz.f209.results.toList Tryz.f209.resultTypes.toList K->LeavesInM Fence.wide 3 Tryz.prog Tryz.f209 F.tmps (λe y=>∃u g,e=.returned u/\(∃x,u=(Lf.bn Lf.tb Tryz.f209.resultTypes.toList).enc x/\K x g)/\Lf.Step k g w y) F.defers .returning y:=λa8=>by
  rw [r.defers];refine ⟨by simp,.inl ⟨_,_,rfl,run_takeDeferred N,?_⟩⟩;have M:=abn Y X N (.deferred none);obtain ⟨x,vs,j,a9,b3⟩:=Lf.qo Lf.an M a8;refine ⟨_,Lf.lX a9,_,g,rfl,⟨x,b3,j⟩,M.sub,?_,λb hb L=> ?_,?_,?_,?_⟩
  ·have:=r.size;have:=s.size;simp;omega
  ·have J:b<W.heap.size:=Nat.lt_of_lt_of_le hb s.size;refine ⟨?_,r.wo b J L λa j _=>C a j b (.inl hb)⟩;rw [World.putObj_heap_other (by omega),r.bq b J L λa j _=>C a j b (.inl hb)];exact s.block b hb
  ·exact r.os.trans s.os
  ·exact r.tape.trans s.tape
  ·exact r.output.trans s.output
 cases e with
 | fR=>exact fin z
 | ret=>exact fin z
 | ext i=>exact z.elim
 | jD i=>exact z.elim
end Go.Proofs
namespace Go.Proofs
open Go.RowKit Go.Shelf
attribute [local go_sem] Oper.semAt_some
theorem aat {W:World} {b i:Nat} {a:Array Value} {t:TypeId} (h:W.heap[b]? =some (.cells a t (0,0))):W.frozen? ⟨b,i,none⟩=false:=by simp [World.frozen?,h]
theorem On {W:World} {b c i:Nat} {v:Value} (h:b≠c):(W.setCell ⟨c,i,none⟩ v).heap[b]? =W.heap[b]?:=by show (W.heap.modify c _)[b]? =_;grind
theorem P4 {W:World} {c:Nat} {u v:Value} {t:TypeId} (h:W.heap[c]? =some (.cells #[u] t (0,0))):(W.setCell ⟨c,0,none⟩ v).heap[c]? =some (.cells #[v] t (0,0)):=by show (W.heap.modify c _)[c]? =_;grind
set_option maxHeartbeats 4000000 in
theorem aau {k:Lf.Hp} {pb:Nat} {aj:Int} {len:Nat} {ptr:Nat->Addr} {dN:Nat->Nat} {w:World} {Kq:(Lf.bn Lf.tb Tryz.f209.resultTypes.toList).T->Lf.Hp->Prop} (hs:Lf.Sub k w)
  (hl:0<len/\len<=1000) (num:Nat->F6 len) (hnum:∀j,j<len->vg aj len j=(num j).1)
  (hround:∀W,Lf.Sub k W->Calls Tryz.prog 231 #[.pointer (some ⟨pb,0,none⟩)] W λe W'=>∃A A1:Nat,e=.returned (.func (.func 242) #[] #[.pointer (some ⟨A1,0,none⟩),.pointer (some ⟨A,0,none⟩)])/\(W.heap.size<=A/\A<W'.heap.size)/\(W.heap.size<=A1/\A1<W'.heap.size)/\
   W'.cell? ⟨A,0,none⟩=some (.int .i64 aj)/\W'.cell? ⟨A1,0,none⟩=some (.int .i64 (len:Int))/\Below W.heap.size W W')
  (lb:Nat) (lo lc:Nat) (hlane:∀W,Lf.Sub k W->W.cell? ⟨pb,0,none⟩=some (.slice (some ⟨lb,lo,none⟩) len lc))
  (hptr:∀j,j<len->∀W,Lf.Sub k W->W.cell? ⟨lb,lo+j,none⟩=some (.pointer (some (ptr j))))
  (hlen:∀j,j<len->∀W,Lf.Sub k W->Calls Tryz.prog 232 #[.pointer (some (ptr j))] W λe W'=>e=.returned (.int .i64 (dN j:Int))/\Below W.heap.size W W')
  (hno:(∀j,j<len->dN (num j).1.toNat=0)->Lf.qt (some ⟨pb,0,none⟩) (-1) Kq k)
  (hyes:∀j,j<len->(∀i,i<j->dN (num i).1.toNat=0)->dN (num j).1.toNat≠0->Lf.qt (some ⟨pb,0,none⟩) (num j).1 Kq k):
  Calls Tryz.prog 209 #[.pointer (some ⟨pb,0,none⟩)] w (λe w'=>∃u h',e=.returned u/\(∃x,u=(Lf.bn Lf.tb Tryz.f209.resultTypes.toList).enc x/\Kq x h')/\Lf.Step k h' w w'):=by
 refine callsIn_wide.1 (callsIn_of_wp_marks (n:=3) Tryz.func209 rfl trivial ?_ rfl);simp only [Tryz.ntmps209,List.size_toArray,List.length_cons,List.length_nil,Nat.reduceAdd,Nat.reduceSub,Array.replicate_succ,Array.replicate_zero,List.push_toArray,List.append_toArray,List.nil_append,List.cons_append]
 gi_wp2
 refine (show ∀T,T=Lf.ln->Code.wpIn Fence.wide 3 Tryz.prog (Code.scope (Code.seq _ (Code.seq _ (Code.seq (Code.seq _ (Code.block _ (Code.rangeFunc _ _ _ _))) T)))) _ _ _ from λT hT=> ?_) _ rfl;refine wpIn_wide.2 (wp_scope_straight ((wpIn_wide (n:=3)).1 (wpIn_seq_k λK1 hK1=> ?_)))
 gi_wp2
 rename_i K hK;refine wpIn_wide.2 (wp_label (hK _ _ ?_));clear hK;have hsz:(((w.alloc (Obj.cells #[Value.pointer (some ⟨pb,0,none⟩)] 138)).alloc (Obj.cells #[Value.int IntKind.i64 (-1)] 3)).alloc (Obj.cells #[Value.int IntKind.i64 0,Value.int IntKind.i64 0] 191)).heap.size=w.heap.size+3:=by simp
 obtain ⟨W0,hW0⟩:∃W0,((w.alloc (Obj.cells #[Value.pointer (some ⟨pb,0,none⟩)] 138)).alloc (Obj.cells #[Value.int IntKind.i64 (-1)] 3)).alloc (Obj.cells #[Value.int IntKind.i64 0,Value.int IntKind.i64 0] 191)=W0:=⟨_,rfl⟩;have b0:W0.heap[w.heap.size]? =some (.cells #[Value.pointer (some ⟨pb,0,none⟩)] 138):=by rw [<-hW0,tD,if_neg (by simp;omega),tD,if_neg (by simp),tD,if_pos rfl]
 have b1:W0.heap[w.heap.size+1]? =some (.cells #[Value.int IntKind.i64 (-1)] 3):=by rw [<-hW0,tD,if_neg (by simp),tD,if_pos (by simp)]
 have b2:W0.heap[w.heap.size+2]? =some (.cells #[Value.int IntKind.i64 0,Value.int IntKind.i64 0] 191):=by rw [<-hW0,tD,if_pos (by simp)]
 have bo:Below w.heap.size w W0:=by rw [<-hW0];exact (((Below.refl _ w).alloc (Nat.le_refl _) _).alloc (by simp) _).alloc (by simp;omega) _
 rw [hW0] at hsz ⊢;have c0:W0.cell? ⟨w.heap.size,0,none⟩=some (.pointer (some ⟨pb,0,none⟩)):=CJ b0;have hs0:Lf.Sub k W0:=λb o e=>(bo.block b (hs.lt e)).trans (hs b o e);have hr:=hround W0 hs0;refine wpIn_seq_k λK hK=> ?_
 gi_wp2_with (refine ⟨trivial,?_⟩;gi_at_call 231;refine (callsIn_wide.2 hr).mono ?_;rintro e W2 ⟨A,A1,rfl,hA,hA1,hcA,hcA1,hB⟩)
 clear hr hround;have cB:w.heap.size+1<W2.heap.size:=by omega
 have w0:W2.heap[w.heap.size]? =some (.cells #[Value.pointer (some ⟨pb,0,none⟩)] 138):=(hB.block _ (by omega)).trans b0;have w1:W2.heap[w.heap.size+1]? =some (.cells #[Value.int IntKind.i64 (-1)] 3):=(hB.block _ (by omega)).trans b1;have w2:W2.heap[w.heap.size+2]? =some (.cells #[Value.int IntKind.i64 0,Value.int IntKind.i64 0] 191):=(hB.block _ (by omega)).trans b2;have ww:Below w.heap.size w W2:=bo.trans (hB.mono (by omega));have subG:∀ {v W},Bn W2.heap.size (w.heap.size+1) W2 v W->Lf.Sub k W/\Below w.heap.size w W/\W.heap[w.heap.size]? =some (.cells #[Value.pointer (some ⟨pb,0,none⟩)] 138)/\W.heap[w.heap.size+2]? =some (.cells #[Value.int IntKind.i64 0,Value.int IntKind.i64 0] 191):=λ{v W} g=>by have hb:Below w.heap.size w W:=⟨g.os.trans ww.os,g.tape.trans ww.tape,g.output.trans ww.output,by have:=g.size;omega,λb hb=>(g.same b (by omega) (by omega)).trans (ww.block b hb)⟩;exact ⟨λb o e=>(hb.block b (hs.lt e)).trans (hs b o e),hb,(g.same _ (by omega) (by omega)).trans w0,(g.same _ (by omega) (by omega)).trans w2⟩
 have tail:∀ {v W D} {x7 x8 x9 x10:Value},Bn W2.heap.size (w.heap.size+1) W2 v W->W2.heap.size<=D->W.heap[D]? =some (.deferred (some []))->Lf.qt (some ⟨pb,0,none⟩) v Kq k->
   K {tmps:=DV ⟨pb,0,none⟩ w x7 x8 x9 x10,defers:=[{target:=.collected D,args:= #[]}]} W:=λ{v W D x7 x8 x9 x10} g hD hK2 ht=>by
  obtain ⟨q1,q2,q3,q4⟩:=subG g;refine hK _ _ (wpIn_wide.2 ?_);rw [hT];exact aar hs q2 q3 g.box q4 (by omega) hK2 ht
 refine wpIn_rangeFunc_ownF (α:=F6 len) rfl (by decide) (gf:=242) (lb:= #[Value.pointer (some ⟨A1,0,none⟩),Value.pointer (some ⟨A,0,none⟩)]) rfl trivial (enters_of Tryz.func242 (by kernel_rfl) rfl)
  (encs:=λx=> #[.int .i64 x.1]) (Kp:=λW W'=>W'.cell? ⟨A,0,none⟩=W.cell? ⟨A,0,none⟩/\W'.cell? ⟨A1,0,none⟩=W.cell? ⟨A1,0,none⟩)
  (S:=λys=>ys=nw num len) (Sp:=λpre=>∃k,k<=len/\pre=nw num k) (N:=len) (w0:=W2)
  (λl J Jx W hW _ _ hY h0=>V3 2 (by decide) l A A1 aj len hl.1 hl.2 num hnum _ (λ_ _ h=>h) J Jx hY W ((hW.cell (p:=⟨A,0,none⟩) hA.2).trans hcA) ((hW.cell (p:=⟨A1,0,none⟩) hA1.2).trans hcA1) h0)
  (λh1 h2=>⟨h2.1.trans h1.1,h2.2.trans h1.2⟩)
  (λW l o o' hl2 _ _ _=>⟨yc (World.putObj_heap_other (by omega)),yc (World.putObj_heap_other (by omega))⟩)
  (Below.refl _ _) (λ_=>rfl)
  (λpre W=>Bn W2.heap.size (w.heap.size+1) W2 (-1) W/\∀y∈pre,dN y.1.toNat=0)
  (λc pre W=>c=.exit 0/\∃pre' x,pre=pre'++ [x]/\(∀y∈pre',dN y.1.toNat=0)/\dN x.1.toNat≠0/\Bn W2.heap.size (w.heap.size+1) W2 x.1 W)
  (λs A B row hs hg hr=>⟨hs.1.grown cB hg hr,hs.2⟩)
  (λc s A B row hs hg hr=>by
   obtain ⟨e,pre',x,h1,h2,h3,h4⟩:=hs;exact ⟨e,pre',x,h1,h2,h3,h4.grown cB hg hr⟩)
  ⟨⟨λ_ _ _=>rfl,w1,Nat.le_refl _,rfl,rfl,rfl⟩,λy hy=>by cases hy⟩
  (λx=>{tmps:= #[Value.pointer (some ⟨pb,0,none⟩),Value.pointer (some ⟨w.heap.size,0,none⟩),Value.int IntKind.i64 0,Value.pointer (some ⟨w.heap.size+1,0,none⟩),Value.pointer (some ⟨w.heap.size+1+1,0,none⟩),Value.bool false,Value.int IntKind.i64 0,.int .i64 x.1,Value.pointer (some ⟨pb,0,none⟩),Value.func (Fn.func 242) #[] #[Value.pointer (some ⟨A1,0,none⟩),Value.pointer (some ⟨A,0,none⟩)],.int .i64 x.1,undef,undef,undef,undef,undef,undef,undef,undef,undef,undef,undef,undef,undef,undef,undef,undef,undef,undef,undef,undef,undef,undef,undef,undef,undef,undef,undef,undef,undef,undef,undef,undef,undef,undef,undef,undef,undef,undef,undef,undef,undef,undef],defers:=[]})
  ?assign ?body ?done ?stop
 case assign=>
  intro l x W K hK
  gi_wp2
  exact hK
 case body=>
  rintro l pre x W ⟨g,hz⟩ _;obtain ⟨q1,q2,q3,q4⟩:=subG g;have d0:W.cell? ⟨w.heap.size,0,none⟩=some (.pointer (some ⟨pb,0,none⟩)):=CJ q3;have d1:W.cell? ⟨pb,0,none⟩=some (.slice (some ⟨lb,lo,none⟩) len lc):=hlane W q1;have xl:x.1.toNat<len:=by have:=x.2;omega
  have x0:=x.2;have d2:W.cell? ⟨lb,lo+x.1.toNat,none⟩=some (.pointer (some (ptr x.1.toNat))):=hptr _ xl W q1;have hc:=hlen _ xl W q1;by_cases hv:dN x.1.toNat=0
  ·rw [hv] at hc
   gi_wp2_with (refine ⟨trivial,?_⟩;gi_at_call 232;refine (CallsIn.inRound l (callsIn_wide.2 hc)).mono ?_;rintro e W3 ⟨rfl,hB3⟩)
   have hlt:∀b o,W.heap[b]? =some o->W3.heap[b]? =some o:=λb o e=>(hB3.block b (Lf.gy e)).trans e;have gsz:=g.size;refine ⟨⟨hB3.size,λb o e _=>hlt b o e⟩,⟨yc (hB3.block _ (by omega)),yc (hB3.block _ (by omega))⟩,⟨λb hb hne=>(hB3.block b (by omega)).trans (g.same b hb hne),hlt _ _ g.box,Nat.le_trans g.size hB3.size,hB3.os.trans g.os,hB3.tape.trans g.tape,hB3.output.trans g.output⟩,λy hy=> ?_⟩;grind
  ·have hv2:0<dN x.1.toNat:=Nat.pos_of_ne_zero hv
   gi_wp2_with (refine ⟨trivial,?_⟩;gi_at_call 232;refine (CallsIn.inRound l (callsIn_wide.2 hc)).mono ?_;rintro e W3 ⟨rfl,hB3⟩;have hb3:=(hB3.block _ (Lf.gy g.box)).trans g.box;have hcb:W3.cell? ⟨w.heap.size+1,0,none⟩=some (.int .i64 (-1)):=CJ hb3;have hfb:W3.frozen? ⟨w.heap.size+1,0,none⟩=false:=aat hb3)
   have gsz:=g.size;refine ⟨⟨Nat.le_trans hB3.size (KeepsOthers.setCell _ _ _).size,λb o e ho=>(KeepsOthers.setCell _ _ _).same b o ((hB3.block b (Lf.gy e)).trans e) ho⟩,rfl,pre,x,rfl,hz,hv,?_⟩;have hset:(W3.setCell ⟨w.heap.size+1,0,none⟩ (.int .i64 x.1))=(W3.setCell ⟨w.heap.size+1,0,none⟩ (.int .i64 x.1)):=rfl;refine ⟨λb hb hne=> ?_,?_,?_,hB3.os.trans g.os,hB3.tape.trans g.tape,hB3.output.trans g.output⟩
   ·rw [On hne];exact (hB3.block b (by omega)).trans (g.same b hb hne)
   ·exact P4 hb3
   ·exact Nat.le_trans g.size (Nat.le_trans hB3.size (KeepsOthers.setCell _ _ _).size)
 case done=>
  rintro D ys W hD rfl ⟨g,hz⟩ hK2
  gi_wp2
  refine tail (x7:=undef) (x8:=Value.pointer (some ⟨pb,0,none⟩)) (x9:=Value.func (Fn.func 242) #[] #[Value.pointer (some ⟨A1,0,none⟩),Value.pointer (some ⟨A,0,none⟩)]) (x10:=undef) g hD hK2 (hno λj hj=>hz _ ?_);exact List.mem_map.2 ⟨j,List.mem_range.2 hj,rfl⟩
 case stop=>
  rintro D c pre W hD hSp ⟨rfl,pre',x,h1,h2,h3,g⟩ hK2
  gi_wp2
  obtain ⟨k1,hk1,e1⟩:=hSp;rw [h1] at e1;cases k1 with
  | zero=>simp [nw] at e1
  | succ j=>
   rw [jT] at e1;obtain ⟨e2,e3⟩:=List.append_inj' e1 rfl;have e3:x=num j:=by simpa using e3
   refine tail (x7:=undef) (x8:=Value.pointer (some ⟨pb,0,none⟩)) (x9:=Value.func (Fn.func 242) #[] #[Value.pointer (some ⟨A1,0,none⟩),Value.pointer (some ⟨A,0,none⟩)]) (x10:=undef) g hD hK2 ?_;rw [e3];refine hyes j (by omega) (λi hi=> ?_) (by grind);exact h2 _ (by rw [e2];exact List.mem_map.2 ⟨i,List.mem_range.2 hi,rfl⟩)
end Go.Proofs
namespace Lf
open Go Go.Proofs Go.RowKit
def DX (P:Program) (p:Option Addr) (lane:Int) (Q:(Int->(Int->(bH->(Bool->(Int->(Hp->Prop))))))) (h:Hp):Prop:=
 (if (decide (lane<(0:Int)))=true then
 Q (0:Int) (0:Int) ⟨(0:Int),(0:Int)⟩ false (21:Int) h
 else
 ai none p λd=>
 aP none av h (Addr.add d 0) λx=>
 (((x.len:Nat):Int)≠(0:Int)/\ai none p λe=>
 bW h (Addr.add e 1) [(.int .i64 (Int.tmod (yw (lane+(1:Int))) ((x.len:Nat):Int)))] (λa=>
 ai none p λf=>
 aP none av a (Addr.add f 0) λb=>
 ((bJ b.base b.len lane)/\aP none ah a (sat b.base 1 lane) λj=>
 mH P Xh [(.pointer j)] (af .i64) aF bB (af .i64) (λr g r2 i c=>
 ((True/\True)/\Q r lane g r2 i c)) a))))
theorem J1 (p:Option Addr) (lane:Int) (Q:Int->Int->bH->Bool->Int->Hp->Prop) (h:Hp):qt p lane (λx a=>Q x.1 x.2.1 x.2.2.1 x.2.2.2.1 x.2.2.2.2 a) h=DX Tryz.prog p lane Q h:=by kernel_rfl
section
variable {h0 k:Hp}
theorem I0 {h:Hp} {a:Addr} {b:List Value} {i:Nat} {v:Value} (l:aV h a b) (e:b[i]? =some v):cQ h (a.add i)=some v:=l i v e
theorem P6 {P:Program} {g:FuncId} {args:List Value} {sh:Shape} {K:sh.T->Hp->Prop} {w:World} (c:Sub k w) (f:ae P g args sh (λx a=>a=k/\K x a) k):Calls P g args.toArray w λe d=>∃x,e=.returned (sh.enc x)/\K x k/\Below w.heap.size w d:=by
 refine (f w c).mono ?_;rintro e d ⟨v,a,rfl,⟨x,rfl,rfl,h⟩,st⟩;refine ⟨x,rfl,h,st.os,st.tape,st.output,st.size,λb hb=> ?_⟩;cases e:a b with
 | none=>exact (st.bq b hb e).1
 | some o=>rw [st.sub b o e,c b o e]
theorem yX {a:Type} {l:List a} {i:Nat} {d:a} (h:i<l.length):l[i]? =some (l.getD i d):=by grind
theorem Ks {b:Type} {f:b->Value}:∀ {l:List b},l.flatMap (λa=> [f a])=l.map f
 | []=>rfl
 | a::r=>by rw [List.flatMap_cons,Ks,List.map_cons];rfl
theorem V8 {a:Type} {n:Nat} {f:Nat->a} {q:a->Bool} (h:∀j,j<n->q (f j)=false):((List.range n).map f).find? q=none:=by grind
theorem Wa {a:Type} {n:Nat} {f:Nat->a} {q:a->Bool} {j:Nat} (c:j<n) (h:∀i,i<j->q (f i)=false) (b:q (f j)=true):((List.range n).map f).find? q=some (f j):=by
 have e:List.range n=List.range j++j::(List.range (n-j-1)).map (λi=>j+1+i):=by rw [show n=j+(1+(n-j-1)) by omega,List.range_add,List.range_add];simp [Nat.add_assoc]
 grind
theorem YM :yA:=by
 intro h0 k p room aj f Q o hl d1 c0 c5;obtain ⟨x,s,e1,H,C⟩:=o.na;obtain ⟨q,rfl,d0,d2⟩:=(Has.left C).pD;have b9:=C.right.left.ic;have c3:Rw k 1 eP x.ak s:=C.right.left.jE λ_=>rfl;have U:0<f.length:=by omega
 obtain ⟨L,M,c8,b8⟩:∃L M,x.ak.base=some ⟨L,M,none⟩/\aV k ⟨L,M,none⟩ (s.flatMap eP):=by
  obtain ⟨_,F,⟨q1,q2,q3⟩,_⟩:=C.right.left;rcases q3 with ⟨h,_⟩ | ⟨b,off,cs,h1,_⟩
  ·omega
  ·rcases c3.2.2 with h | ⟨a,h3,h4⟩
   ·omega
   grind
 have b6:∀j,j<f.length->(s.flatMap eP)[j]? =some (.pointer (some (s.getD j a0))):=λj l=>by rw [show s.flatMap eP=s.map λa=>Value.pointer (some a) from Ks,List.getElem?_map,yX (d:=a0) (by omega)];rfl
 have D:Has h0 (da Nn ⟨q,0,none⟩ x) k:=Has.left C;have b7:cQ k ⟨q,0,none⟩=some x.ak.v:=I0 (i:=0) (D.eh (off:=0) (n:=2) (vs:=[x.ak.v,.int .i64 x.aj]) rfl) rfl;have c1:Has h0 (dC ⟨q,0,none⟩ room f aj) k:=C.jQ e1 H;let num:Nat->F6 f.length:=λj=>⟨(((aj.toNat+j)%f.length:Nat):Int),by omega,by have:=Nat.mod_lt (aj.toNat+j) U;omega⟩;let dN:Nat->Nat:=λj=>(f.getD j kW).values.length;have S:∀j,j<f.length->((match f[(aj.toNat+j)%f.length]? with | some x=> !x.values.isEmpty | none=>false)=true↔dN (num j).1.toNat≠0):=λj l=>by have I:=Nat.mod_lt (aj.toNat+j) U;grind
 have key:rX Tryz.prog Xb [.pointer (some ⟨q,0,none⟩)] (λv g=>∃x,v=(bn tb Tryz.f209.resultTypes.toList).enc x/\(λ(x:(xC (af .i64) (af .i64) aF bB (af .i64)).T) g=>Q x.1 x.2.1 x.2.2.1 x.2.2.2.1 x.2.2.2.2 g) x g) k:=by
  intro w hs;refine aau (len:=f.length) (aj:=aj) (ptr:=λj=>s.getD j a0) (dN:=dN) (num:=num) hs ⟨U,by omega⟩ (λj l=> ?_) (λW B=> ?_) L M x.ak.cap (λW B=> ?_) (λj l W B=> ?_) (λj l W B=> ?_) (λV=> ?_) (λj l V hv=> ?_)
  ·show (Go.RowKit.wrap64 (aj+(j:Int))).tmod (f.length:Int)=(((aj.toNat+j)%f.length:Nat):Int);have:Go.RowKit.wrap64 (aj+(j:Int))=((aj.toNat+j:Nat):Int):=by unfold Go.RowKit.wrap64;omega
   rw [this];rfl
  ·refine (show ae Tryz.prog zvf [ah.enc (some ⟨q,0,none⟩)] gv (λv g=>k<=g/\∃A u:Nat,k A=none/\k u=none/\v=⟨242, #[], #[.pointer (some ⟨u,0,none⟩),.pointer (some ⟨A,0,none⟩)]⟩/\aV g ⟨A,0,none⟩ [.int .i64 aj]/\aV g ⟨u,0,none⟩ [.int .i64 (f.length:Int)]) k from ?_) W B |>.mono ?_
   ·refine P9 ?_;unfold zvh;refine aD (D.ld (shf:=af .i64) x.aj (off:=1) rfl ?_);refine aD (D.ld (shf:=av) x.ak (off:=0) rfl ?_);intro b ty hn;have J:=lz (o:=.cells #[Value.int .i64 0] ty (0,0)) hn;have hb:eI (k.set b (.cells #[Value.int .i64 0] ty (0,0))) b [.int .i64 0]:=⟨ty,lZ⟩;refine ⟨⟨ns J (D.eh (off:=1) (n:=1) (vs:=[.int .i64 x.aj]) rfl),ns J (D.eh (off:=0) (n:=1) (vs:=[x.ak.v]) rfl),trivial⟩,?_⟩;refine qE hb (off:=0) (new:=[.int .i64 x.aj]) (by simp) λh2 m b5=> ?_;have X:k<=h2:=λc ob e=>m.bq c ob (J c ob e) λhc=>by grind
    refine ⟨⟨ns X (D.eh (off:=0) (n:=1) (vs:=[x.ak.v]) rfl),trivial⟩,?_⟩;intro Z wj b0;have l3:=lz (o:=.cells #[Value.int .i64 ((x.ak.len:Nat):Int)] wj (0,0)) b0;refine ⟨Hp.le_trans X l3,b,Z,hn,pH X b0,rfl,ns l3 ?_,?_⟩
    ·rw [<-e1];exact b5.bI (off:=0) (n:=1) rfl
    ·have:=EV (h:=h2) (b:=Z) (t:=wj) (cs:=[Value.int .i64 ((x.ak.len:Nat):Int)]);grind
   ·rintro e W' ⟨v,g,rfl,⟨fv,rfl,kl,A,u,nA,c6,rfl,lA,b1⟩,st⟩;have O:∃o,g A=some o:=by
     have:=lA 0 _ rfl;cases e:g A with
     | some o=>simp
     | none=>simp [cQ,e,Addr.add] at this
    have P:∃o,g u=some o:=by
     have:=b1 0 _ rfl;cases e:g u with
     | some o=>simp
     | none=>simp [cQ,e,Addr.add] at this
    obtain ⟨oA,O⟩:=O;obtain ⟨d3,P⟩:=P;refine ⟨A,u,rfl,⟨Nat.le_of_not_lt λI=> ?_,st.sub.lt O⟩,⟨Nat.le_of_not_lt λI=> ?_,st.sub.lt P⟩,vL st.sub (lA 0 _ rfl),vL st.sub (b1 0 _ rfl),st.os,st.tape,st.output,st.size,λb hb=> ?_⟩
    ·have:=(st.bq A I nA).2;grind
    ·have:=(st.bq u I c6).2;grind
    ·cases e:k b with
     | none=>exact (st.bq b hb e).1
     | some o=>rw [st.sub b o (kl b o e),B b o e]
  ·rw [vL B b7];show some (Value.slice x.ak.base x.ak.len x.ak.cap)=_;grind
  ·have:=I0 b8 (b6 j l);rw [jC] at this;exact vL B this
  ·obtain ⟨h1,J,Y,_⟩:=C.mS (yX (d:=kW) l);refine (P6 (sh:=af .i64) (K:=λr _=>r=((f.getD j kW).values.length:Int)) B (So (aa1 Y ⟨rfl,rfl⟩))).mono ?_;grind
  ·refine Eq.mpr (J1 (some ⟨q,0,none⟩) (-1) Q k) ?_;unfold DX;rw [if_pos (by decide)];refine c0 (V8 λj l=> ?_) k c1;have:=S j l;rw [V j l] at this;exact Bool.eq_false_iff.2 λe=>this.1 e rfl
  ·refine Eq.mpr (J1 (some ⟨q,0,none⟩) (num j).1 Q k) ?_;unfold DX;have c4:=(num j).2;rw [if_neg (by simp;omega)];have R:nV aj f=some (num j).1.toNat:=by
    unfold nV;rw [Wa l (λi E=> ?_) ((S j l).2 hv)]
    ·show some ((aj.toNat+j)%f.length)=some ((((aj.toNat+j)%f.length:Nat):Int)).toNat;rw [Int.toNat_natCast]
    ·have:=S i (by omega);rw [V i E] at this;exact Bool.eq_false_iff.2 λe=>this.1 e rfl
   generalize (num j).1=y at c4 R hv;obtain ⟨i,rfl⟩:∃i:Nat,y=(i:Int):=⟨y.toNat,by omega⟩;rw [Int.toNat_natCast] at R hv;have E:i<f.length:=by omega
   refine aD (D.ld (shf:=av) x.ak (off:=0) rfl ⟨by omega,?_⟩);obtain ⟨g1,_,oR,put⟩:=C.f1;have b4:Int.tmod (yw ((i:Int)+1)) ((x.ak.len:Nat):Int)=((i+1:Nat):Int)%(f.length:Int):=by rw [wrap64 (by omega) (by omega),b9,H];rfl
   rw [b4];refine aD (oR.st ({x with aj:=((i+1:Nat):Int)%(f.length:Int)}:db) (off:=1) (new:=[.int .i64 (((i+1:Nat):Int)%(f.length:Int))]) (by show 1+1<=2;omega) rfl λk2 o2=> ?_);have c7:=put _ _ o2;refine aD (o2.ld (shf:=av) x.ak (off:=0) rfl ?_);have b3:Has h0 (gM ⟨q,0,none⟩ {x with aj:=((i+1:Nat):Int)%(f.length:Int)} s room f) k2:=c7;refine b3.ptr H E ?_;obtain ⟨g2,_,Y,jA⟩:=b3.mS (yX (d:=kW) E);have a8:=yX (d:=kW) E;have a9:=hl.2 _ (List.mem_of_getElem? a8);have c2:∀ {l' G},Has g2 (dm (s.getD i a0) room l') G->Has h0 (dC ⟨q,0,none⟩ room (f.set i l') (((i+1:Nat):Int)%(f.length:Int))) G:=λN=>(jA _ _ N).jQ rfl (by rw [List.length_set];exact H);refine Q9 (XN Y a9.1 a9.2 (λe=> ?_) (λv vs G e e' N=>⟨⟨trivial,trivial⟩,?_⟩) λv vs z zs G e e' N=>⟨⟨trivial,trivial⟩,?_⟩)
   ·exact absurd (congrArg List.length e) hv
   ·have:=c5 i _ v vs R a8 e G (c2 N);rw [e'] at this;exact this
   grind
 exact key
end
end Lf
namespace Lf
open Go Go.Proofs Tryz
theorem q8 {len:Int} {n:Nat} (l:len=(n:Int)) (hb:n<=4611686018427387904) (I:Nat->Hp->Prop) {B:(Int->Hp->Prop)->Int->Hp->Prop} {X:Int->Hp->Prop} {b:Hp} (d:I 0 b)
  (j:∀i:Nat,i<n->∀h,I i h->∀K:Int->Hp->Prop,(∀a,I (i+1) a->K (yw ((i:Int)+1)) a)->B K (i:Int) h) (m:∀h,I n h->X (n:Int) h):
  aC (λc t h=>if decide (t<len)=true then B c t h else X t h) (0:Int) b:=by
 refine aC.intro (λt h=>∃i:Nat,t=(i:Int)/\i<=n/\I i h) (λt _=>(len-t).toNat) ⟨0,rfl,by omega,d⟩ ?_;rintro t h ⟨i,rfl,k,e⟩;by_cases g:i<n
 ·rw [if_pos (decide_eq_true (by omega))];refine j i g h e _ λa f=> ?_;rw [wrap64 (by omega) (by omega)];exact ⟨⟨i+1,by omega,by omega,f⟩,by omega⟩
 grind
section
variable {h:Hp} {c:aI} {s:gN}
end
theorem Ew {a:Type} {l:List a} {i:Nat} {x:a} (h:l[i]? =some x):l.drop i=x::l.drop (i+1):=by obtain ⟨b,rfl⟩:=List.getElem?_eq_some_iff.1 h;simp
section
variable {h:Hp} {c:aI} {s:gN}
end
def Bl (c:aI) (s:gN):Prop:=uy c s λ(i:Nat) q=>fl c.labels (i:Int) q=true
section
variable {h0 h:Hp} {a:Nat} {bs:List UInt8}
theorem aav {b:List (List UInt8)} {i:Nat} {e:List UInt8} (c:b[i]? =some e):(bs++(b.take i).flatten)++e=bs++(b.take (i+1)).flatten/\(bs++(b.take i).flatten).length+e.length<=bs.length+b.flatten.length:=by
 constructor
 ·rw [List.take_add_one,c];simp
 ·obtain ⟨d,rfl⟩:=List.getElem?_eq_some_iff.1 c;have:b.flatten=(b.take i).flatten++(b[i]++(b.drop (i+1)).flatten):=by have h:=congrArg List.flatten (List.take_append_drop i b);rw [List.flatten_append,List.drop_eq_getElem_cons d,List.flatten_cons] at h;exact h.symm
  rw [this];simp;omega
end
theorem yY {b:Type} {f:b->List UInt8} {B:Nat}:∀(l:List b),(∀x,(f x).length=B)->(l.map f).flatten.length=B*l.length
 | [],_=>by simp
 | x::l,a=>by simp only [List.map_cons,List.flatten_cons,List.length_append,a,yY l a,List.length_cons];rw [Nat.mul_add];omega
section
variable {h0 h:Hp} {a:Nat} {bs:List UInt8} {Q:Hp->Prop}
end
theorem kj {h:Hp} {cs:List Value} {K:Addr->Hp->Prop} (d:∀b a,h b=none->h<=a->eI a b cs->K ⟨b,0,none⟩ a):bc cs K h:=λb t c=>d b _ c (lz c) ⟨t,lZ⟩
abbrev RS :Type:=Except (Int×Nat) Nat
def dD {a:Type} (r:RS) (d:D a) (b:List UInt8):Except (Int×Nat) (a×Nat):=match r with
 | .ok at_=>d b at_
 | .error e=>.error e
def Cn {a:Type} (b:List UInt8) (r:RS) (d:D a) (r1:RS) (x:a):Prop:=∀(c:Type) (f:a->D c),dD r (D.bind d f) b=dD r1 (f x) b
section
variable {α β:Type} {bs:List UInt8} {r r1 r2:RS}
theorem tI {c:Type} (d:D α) (g:α->D β) (f:β->D c):D.bind (D.bind d g) f=D.bind d λx=>D.bind (g x) f:=by funext b a;unfold D.bind;grind
theorem YP (x:α) (f:α->D β):D.bind (D.ret x) f=f x:=rfl
theorem Cn.ok {d:D α} {at_ a:Nat} {x:α} (h:d bs at_=.ok (x,a)):Cn bs (.ok at_) d (.ok a) x:=λβ f=>by show D.bind d f bs at_=f x bs a;unfold D.bind;rw [h]
theorem Cn.err {d:D α} {at_:Nat} {e:Int×Nat} {x:α} (h:d bs at_=.error e):Cn bs (.ok at_) d (.error e) x:=λβ f=>by show D.bind d f bs at_=.error e;unfold D.bind;rw [h]
theorem Cn.stay {d:D α} {e:Int×Nat} {x:α}:Cn bs (.error e) d (.error e) x:=λβ f=>rfl
theorem Cn.ret {x:α}:Cn bs r (D.ret x) r x:=λβ f=>by rw [YP]
theorem Cn.seq {d:D α} {g:α->D β} {x:α} {y:β} (a:Cn bs r d r1 x) (b:Cn bs r1 (g x) r2 y):Cn bs r (D.bind d g) r2 y:=λc f=>by rw [tI,a,b]
theorem Cn.done {d:D α} {x:α} (h:Cn bs r d r1 x):dD r d bs=match r1 with | .ok at_=>.ok (x,at_) | .error e=>.error e:=by
 have:=h α D.ret;have e:D.bind d D.ret=d:=by funext b a;unfold D.bind D.ret;grind
 rw [e] at this;rw [this];cases r1<;>rfl
theorem Cn.map {d:D α} {g:α->β} {x:α} (h:Cn bs r d r1 x):Cn bs r (D.map g d) r1 (g x):=Cn.seq h Cn.ret
end
theorem Ey (l:List UInt8) (b:UInt8):eN (l++ [b])=eN l+256^l.length*b.toNat:=by
 induction l with
 | nil=>simp [eN]
 | cons c l a=>simp only [List.cons_append,eN,a,List.length_cons,Nat.pow_succ];grind
theorem CK {n c i:Nat} (m:n<256^i) (k:i<8) (j:c<256):du .or .u64 (n:Int) (ni .u64 (IntKind.wrap .u64 (c:Int)) (8*(i:Int)))=((n+256^i*c:Nat):Int):=by
 have a:(256:Nat)^i=2^(8*i):=by rw [show (256:Nat)=2^8 by rfl,<-Nat.pow_mul]
 have hp:256^i*256<=18446744073709551616:=by rw [<-Nat.pow_succ];exact Nat.pow_le_pow_right (by omega:256>0) (show i+1<=8 by omega)
 have l:256^i*c+256^i<=256^i*256:=by have:=Nat.mul_le_mul_left (256^i) (show c+1<=256 by omega);omega
 have b:IntKind.wrap .u64 (c:Int)=(c:Int):=oZ ⟨by omega,by omega⟩;have d:ni .u64 (c:Int) (8*(i:Int))=((256^i*c:Nat):Int):=by
  unfold ni;have:min (8*(i:Int)).toNat (IntKind.bits .u64)=8*i:=by show min _ 64=_;omega
  rw [this,oZ]
  ·rw [a,Int.natCast_mul,Int.mul_comm];norm_cast
  grind
 rw [b,d];unfold du;have e:qN (n:Int):=⟨by omega,by omega⟩;have f:qN ((256^i*c:Nat):Int):=⟨by omega,by omega⟩;have g:IntKind.bits .u64=64:=rfl;dsimp only;rw [g,xX e,xX f,BitVec.toNat_or,Int.toNat_natCast,Int.toNat_natCast,BitVec.toNat_ofNat,BitVec.toNat_ofNat,Nat.mod_eq_of_lt (by omega),Nat.mod_eq_of_lt (by omega)];have h:n ||| 256^i*c=n+256^i*c:=by rw [Nat.or_comm,a,<-Nat.two_pow_add_eq_or_of_lt (by omega) c,Nat.add_comm]
 rw [h,oZ ⟨by omega,by omega⟩]
theorem YS {h:Hp} {y:Sl} {l:List UInt8} {K:Int->Hp->Prop} (hb:Bs h y l) (o:l.length<=8) (m:K (eN l:Int) h):
  bD (α1:=Int) (α2:=Int) (λe n t a=>(if (decide (t<((y.len:Nat):Int)))=true then ((bJ y.base y.len t)/\aP none (af .u8) a (sat y.base 1 t) λj=>
   ((0:Int)<=(yw ((8:Int)*t))/\e (du .or .u64 n (ni .u64 (IntKind.wrap .u64 j) (yw ((8:Int)*t)))) (yw (t+(1:Int))) a)) else K n a)) (0:Int) (0:Int) h:=by
 have q:y.len=l.length:=hb.1;refine bD.intro (λn t c=>c=h/\∃i:Nat,t=(i:Int)/\i<=l.length/\n=(eN (l.take i):Int)) (λ_ t _=>(l.length-t).toNat) ⟨rfl,0,rfl,by omega,rfl⟩ ?_;rintro n t c ⟨rfl,i,rfl,k,rfl⟩;by_cases p:i<l.length
 ·rw [if_pos (decide_eq_true (by omega))];obtain ⟨f,x,b,g⟩:=Rw.read hb rP (by omega) (i:=(i:Int)) (by omega) (by omega);have b:l[i]? =some x:=b;refine ⟨f,(x.toNat:Int),g,?_⟩;rw [wrap64 (by omega) (by omega)];refine ⟨by omega,?_⟩;have hv:=qz (l.take i);have d:(l.take i).length=i:=by rw [List.length_take];omega
  rw [d] at hv;rw [CK hv (by omega) x.toNat_lt,wrap64 (by omega) (by omega)];refine ⟨⟨rfl,i+1,rfl,by omega,?_⟩,by omega⟩;rw [List.take_add_one,b];show _=((eN (l.take i++ [x]):Nat):Int);rw [Ey,d]
 grind
def nD (a:Sl) (at_ e b:Int):List Value:=[a.v,.int .i64 at_,.int .i64 e,.int .i64 b]
def FW (r:RS) (n at_ e c:Int):Prop:=match r with
 | .ok a=>at_=(a:Int)/\e=0/\(a:Int)<=n
 | .error (b,p)=>e=b/\b≠0/\c=(p:Int)
structure fQ (d h:Hp) (rb:Nat) (bl:Sl) (bs:List UInt8) (r:RS):Prop where
 le:d<=h
 out:d rb=none
 src:Bs d bl bs
 cap:bl.len<=bl.cap
 small:bs.length<=2097152
 fu:∃at_ e pl:Int,eI h rb (nD bl at_ e pl)/\FW r bs.length at_ e pl
section
variable {d h:Hp} {rb:Nat} {bl:Sl} {bs:List UInt8} {r:RS}
theorem fQ.mv (a:fQ d h rb bl bs r) {G f:List Nat} {b:Hp} (m:Mv G h f b) (i:rb∉G) (g:∀c∈G,d c=none):fQ d b rb bl bs r:=by obtain ⟨p,e,l,k,j⟩:=a.fu;exact ⟨(m.le a.le g).1,a.out,a.src,a.cap,a.small,p,e,l,k.mv m i,j⟩
theorem fQ.grow (a:fQ d h rb bl bs r) {b:Hp} (c:h<=b):fQ d b rb bl bs r:=a.mv (Mv.of_le [] c) (by simp) (by simp)
theorem tW {P:Program} {at_ e b:Int} (k:eI h rb (nD bl at_ e b)) {Q:Bool->Hp->Prop} (a:Q (e !=0) h):MZ P (some ⟨rb,0,none⟩) Q h:=by unfold MZ;exact aD (bt (sh:=af .i64) e (k.bI (off:=2) (n:=1) rfl) a)
theorem fQ.bad {P:Program} (a:fQ d h rb bl bs r) {Q:Bool->Hp->Prop} (f:∀b,(b=true↔∃e,r=.error e)->Q b h):MZ P (some ⟨rb,0,none⟩) Q h:=by
 obtain ⟨p,e,i,k,c⟩:=a.fu;refine tW k (f _ ?_);cases r with
 | ok n=>rw [c.2.1];simp
 | error x=>obtain ⟨g,q⟩:=x;rw [c.1];simpa using c.2.1
theorem rH {at_ e pl i l:Int} (k:eI h rb (nD bl at_ e pl)) {Q:Hp->Prop}
  (g:∀j,Mv [rb] h [rb] j->eI j rb (nD bl at_ (if i≠0/\e=0 then i else e) (if i≠0/\e=0 then l else pl))->Q j):Vn prog (some ⟨rb,0,none⟩) i l Q h:=by
 unfold Vn;refine uM (λb=>b=(e !=0)) false (λ_ n=>ud (tW k (n _ rfl))) λb hb=>aU ?_;by_cases a:i≠0
 ·have hb:b=(e !=0):=hb (by simpa using a);subst hb;by_cases f:e=0
  ·rw [if_pos (by simp [a,f])];rw [if_pos ⟨a,f⟩,if_pos ⟨a,f⟩] at g;refine aD (qE (b:=rb) (off:=2) k (by simp [nD]) λt q o=>aD (qE (b:=rb) (off:=3) o (by simp [nD]) λm s p=>g m (q.trans s) (by simpa [nD] using p)))
  ·rw [if_neg (by simp [f])];rw [if_neg (λc=>f c.2),if_neg (λc=>f c.2)] at g;exact g h (Mv.refl _ _) k
 ·rw [if_neg (by simp at a;simp [a])];rw [if_neg (λc=>a c.1),if_neg (λc=>a c.1)] at g;exact g h (Mv.refl _ _) k
theorem yd {k:Nat} {f:wg} {Q:Int->Hp->Prop} (a:fQ d h rb bl bs r) (Z:1<=k) (a8:k<=8) (W:Nat->Int)
  (R:∀n:Nat,n<256^k->∀K:Int->Hp->Prop,(∀j,h<=j->K (W n) j)->fX prog tb (.func (.func f.g) f.first f.captured) [.int .u64 (n:Int)] (af .i64) K h)
  (s:∀(v:Nat) H j,v<256^k->Mv [rb] h [rb] j->fQ d j rb bl bs H->Cn bs r (D.bV (D.num k) W) H v->Q (v:Int) j):TS prog (some ⟨rb,0,none⟩) (k:Int) f Q h:=by
 unfold TS;obtain ⟨p,e,pl,i,y⟩:=a.fu;have N:bl.len=bs.length:=a.src.1;have a9:=a.small;have C:0<256^k:=Nat.pow_pos (by omega);refine ud (tW i ?_);cases r with
 | error x=>obtain ⟨U,q⟩:=x;rw [if_pos (by rw [y.1];simpa using y.2.1)];exact s 0 _ h C (Mv.refl _ _) a Cn.stay
 | ok n=>
  obtain ⟨rfl,rfl,O⟩:=y;have O:n<=bs.length:=by omega
  rw [if_neg (by simp)];refine aD (bt (sh:=av) bl (i.bI (off:=0) (n:=1) rfl) (aD (bt (sh:=af .i64) (n:Int) (i.bI (off:=1) (n:=1) rfl) ?_)));rw [wrap64 (by omega) (by omega)];by_cases t:bs.length<n+k
  ·rw [if_pos (decide_eq_true (by omega))];refine aD (bt (sh:=av) bl (i.bI (off:=0) (n:=1) rfl) (Ct (rH i λj m E=> ?_)));rw [if_pos ⟨by decide,rfl⟩,if_pos ⟨by decide,rfl⟩] at E;refine s 0 (.error (5,bs.length)) j C m ⟨(m.le a.le λc w=>by rw [List.mem_singleton.1 w];exact a.out).1,a.out,a.src,a.cap,a.small,_,_,_,E,rfl,by decide,by rw [N]⟩ (Cn.err ?_);unfold D.bV D.num;rw [if_pos t]
  ·rw [if_neg (λe=>t (by have:=of_decide_eq_true e;omega))];refine aD (bt (sh:=av) bl (i.bI (off:=0) (n:=1) rfl) (aD (bt (sh:=af .i64) (n:Int) (i.bI (off:=1) (n:=1) rfl) (aD (bt (sh:=af .i64) (n:Int) (i.bI (off:=1) (n:=1) rfl) ?_)))));have Y:=a.cap;rw [wrap64 (by omega) (by omega)];have P:(n:Int)<=(n:Int)+(k:Int):=by omega
   refine ⟨⟨by omega,P,by omega⟩,aU ?_⟩;have I:((n:Int)+(k:Int)).toNat=n+k:=by omega
   have J:((n:Int)).toNat=n:=rfl;rw [I,J];have z:=(Rw.mono a.le a.src).cut (a:=n) (b:=n+k) (c:=bl.cap) (n:=n+k-n) (m:=bl.cap-n) rP (by omega) (by omega) (by omega) rfl;have L:n+k-n=k:=by omega
   rw [L] at z ⊢;have M:((bs.drop n).take k).length=k:=by rw [List.length_take,List.length_drop];omega
   have hv:=qz ((bs.drop n).take k);rw [M] at hv;refine YS z (by omega) ?_;refine aD (bt (sh:=af .i64) (n:Int) (i.bI (off:=1) (n:=1) rfl) (R _ hv _ λV B=> ?_));have F:=i.le B;refine ⟨⟨F.bI (off:=1) (n:=1) rfl,trivial⟩,Ct (rH F λX S G=> ?_)⟩;refine aD (bt (sh:=af .i64) (n:Int) (G.bI (off:=1) (n:=1) rfl) (aD (qE (b:=rb) (off:=1) G (by simp [nD]) λu T l=> ?_)));have m:Mv [rb] h [rb] u:=(Mv.of_le [rb] B).trans (S.trans T);have A:=(m.le a.le λc w=>by rw [List.mem_singleton.1 w];exact a.out).1;rw [wrap64 (by omega) (by omega)] at l;simp only [nD,List.take,List.drop,List.length_cons,List.length_nil,List.cons_append,List.nil_append] at l;by_cases o:W (eN ((bs.drop n).take k))=0
   ·simp only [ne_eq,o,not_true_eq_false,false_and,if_false] at l;refine s _ (.ok (n+k)) u hv m ⟨A,a.out,a.src,a.cap,a.small,_,_,_,l,by push_cast;rfl,rfl,by omega⟩ (Cn.ok ?_);unfold D.bV D.num;rw [if_neg t];dsimp only;rw [if_pos o]
   ·simp only [ne_eq,o,not_false_eq_true,and_self,if_true] at l;refine s _ (.error (W (eN ((bs.drop n).take k)),n)) u hv m ⟨A,a.out,a.src,a.cap,a.small,_,_,_,l,rfl,o,rfl⟩ (Cn.err ?_);unfold D.bV D.num;rw [if_neg t];dsimp only;rw [if_neg o]
end
theorem KR (k:Nat) (W:Int->Int):D.bV (zD k) W=D.map vi (D.bV (D.num k) λn=>W (vi n)):=by
 funext b a;cases c:D.num k b a with
 | error e=>simp [D.bV,zD,D.map,D.bind,c]
 | ok x=>obtain ⟨n,a2⟩:=x;by_cases h:W (vi n)=0<;>simp [D.bV,zD,D.map,D.bind,c,h,D.ret]
section
variable {d h:Hp} {rb:Nat} {bl:Sl} {bs:List UInt8} {r:RS}
theorem xR {k:Nat} {f:wg} {Q:Int->Hp->Prop} (a:fQ d h rb bl bs r) (s:1<=k) (t:k<=4) (W:Int->Int)
  (x:∀n:Nat,n<256^k->∀e,h<=e->∀K:Int->Hp->Prop,(∀c,e<=c->K (W (n:Int)) c)->fX prog tb (.func (.func f.g) f.first f.captured) [.int .i64 (n:Int)] (af .i64) K e)
  (w:∀(v:Nat) i c,v<256^k->Mv [rb] h [rb] c->fQ d c rb bl bs i->Cn bs r (D.bV (zD k) W) i (v:Int)->Q (v:Int) c):V7 prog (some ⟨rb,0,none⟩) (k:Int) f Q h:=by
 unfold V7;have z:256^k<=4294967296:=Nat.pow_le_pow_right (by omega:256>0) t;refine kj λb e y j o=> ?_;refine MG (wrong:=⟨UA, #[], #[.pointer (some ⟨b,0,none⟩)]⟩) (yd (a.grow j) s (by omega) (λn=>W (vi n)) (λn u K p=> ?_) λv i l hv m a2 q=> ?_)
 ·refine sN (g:=UA) rfl (Oc ?_);unfold zro;refine bt (sh:=gv) f (o.bI (off:=0) (n:=1) rfl) ?_;rw [wrap64 (by omega) (by omega)];exact x n u e j _ p
 ·rw [wrap64 (by omega) (by omega)];refine w v i l hv ((Mv.of_le [rb] j).trans m) a2 ?_;rw [KR];exact q.map
theorem DH {dR:Int} {Q:Int->Hp->Prop} (a:fQ d h rb bl bs r)
  (q:∀(v:Nat) c e,v<256->Mv [rb] h [rb] e->fQ d e rb bl bs c->Cn bs r (D.bV (zD 1) (eK dR)) c (v:Int)->Q (v:Int) e):SO prog (some ⟨rb,0,none⟩) dR Q h:=by
 unfold SO;refine kj λb s t i j=> ?_;refine MO (wrong:=⟨QZ, #[], #[.pointer (some ⟨b,0,none⟩)]⟩) (xR (k:=1) (a.grow i) (by omega) (by omega) (eK dR) (λn u f p K l=> ?_) λv c f hv m a2 o=> ?_)
 ·refine sN (g:=QZ) rfl (zsu ?_);unfold zmv;exact bt (sh:=af .i64) dR (ns p (j.bI (off:=0) (n:=1) rfl)) (Z5 (CC (l f (Hp.le_refl _))))
 ·exact q v c f hv ((Mv.of_le [rb] i).trans m) a2 o
theorem Wc {part:Int} {k:Nat} {Q:Int->Hp->Prop} (a:fQ d h rb bl bs r) (p:1<=k) (u:k<=2)
  (s:∀(v:Nat) c e,v<256^k->Mv [rb] h [rb] e->fQ d e rb bl bs c->Cn bs r (D.bV (zD k) (nz part)) c (v:Int)->Q (v:Int) e):TJ prog (some ⟨rb,0,none⟩) part (k:Int) Q h:=by
 unfold TJ;refine kj λb t w i j=> ?_;refine MO (wrong:=⟨RU, #[], #[.pointer (some ⟨b,0,none⟩)]⟩) (xR (k:=k) (a.grow i) p (by omega) (nz part) (λn x f q K l=> ?_) λv c f hv m a2 o=> ?_)
 ·refine sN (g:=RU) rfl (zuf ?_);unfold zno;exact bt (sh:=af .i64) part (ns q (j.bI (off:=0) (n:=1) rfl)) (zza (L7 (l f (Hp.le_refl _))))
 ·exact s v c f hv ((Mv.of_le [rb] i).trans m) a2 o
def mf (x:al):List Value:=bg (aO.enc x)
theorem JM {f:Nat} {x:al} {Q:Int->Hp->Prop} (a:fQ d h rb bl bs r) (kc:eI h f (mf x)) (z:x.aE.len<=1099511627776)
  (s:∀(v:Nat) e i,v<256->Mv [rb] h [rb] i->fQ d i rb bl bs e->Cn bs r (D.bV (zD 1) (cn 0 ((x.aE.len:Int)-1))) e (v:Int)->Q (v:Int) i):Re prog (some ⟨rb,0,none⟩) (some ⟨f,0,none⟩) Q h:=by
 unfold Re;refine kj λb t w l p=> ?_;refine MO (wrong:=⟨Qo, #[], #[.pointer (some ⟨b,0,none⟩)]⟩) (xR (k:=1) (a.grow l) (by omega) (by omega) (cn 0 ((x.aE.len:Int)-1)) (λn y j o K c=> ?_) λv e j hv m a2 q=> ?_)
 ·refine sN (g:=Qo) rfl (zqu ?_);unfold zkr;refine bt (sh:=ah) (some ⟨f,0,none⟩) (ns o (p.bI (off:=0) (n:=1) rfl)) (aD (bt (sh:=av) x.aE (((kc.le l).le o).bI (off:=0) (n:=1) rfl) ?_));have c:=c j (Hp.le_refl _);unfold cn at c;by_cases u:(n:Int)<(x.aE.len:Int)
  ·rw [if_neg (by simp;omega)];rw [if_pos (by rw [cR];omega)] at c;exact c
  ·rw [if_pos (by simp;omega)];rw [if_neg (by rw [cR];omega)] at c;exact c
 ·exact s v e j hv ((Mv.of_le [rb] l).trans m) a2 q
end
structure CB (d h0:Hp) (rb cb:Nat) (bl:Sl) (bs:List UInt8) (k:Hp) (r:RS) (x:al) (c:aI) (B:List Nat):Prop where
 base:d<=h0
 kr:h0 rb≠none
 kc:h0 cb≠none
 ne:rb≠cb
 dc:d cb=none
 bq:∀b o,h0 b=some o->b≠rb->b≠cb->k b=some o
 rd:fQ d k rb bl bs r
 fu:eI k cb (mf x)
 own:nE x c k B
 nd:B.Nodup
 fresh:∀b∈B,h0 b=none
section
variable {d h0 k:Hp} {rb f:Nat} {bl:Sl} {bs:List UInt8} {r:RS} {x:al} {c:aI} {B:List Nat}
theorem CB.nr (s:CB d h0 rb f bl bs k r x c B):rb∉B:=λh=>s.kr (s.fresh rb h)
theorem CB.nc (s:CB d h0 rb f bl bs k r x c B):f∉B:=λh=>s.kc (s.fresh f h)
theorem CB.step (s:CB d h0 rb f bl bs k r x c B) {g:Hp} {i:RS} (m:Mv [rb] k [rb] g) (a:fQ d g rb bl bs i):CB d h0 rb f bl bs g i x c B where
 base:=s.base
 kr:=s.kr
 kc:=s.kc
 ne:=s.ne
 dc:=s.dc
 bq:=λb o e h j=>m.bq b o (s.bq b o e h j) λhb=>h (List.mem_singleton.1 hb)
 rd:=a
 fu:=s.fu.mv m λhb=>s.ne (List.mem_singleton.1 hb).symm
 own:=ir.same s.own (rF m (ir.known s.own) λb hb e=>s.nr (by rw [<-List.mem_singleton.1 e];exact hb))
 nd:=s.nd
 fresh:=s.fresh
theorem CB.grow (s:CB d h0 rb f bl bs k r x c B) {b:Hp} (a:k<=b):CB d h0 rb f bl bs b r x c B:=s.step (Mv.of_le [rb] a) (s.rd.grow a)
theorem CB.BP (s:CB d h0 rb f bl bs k r x c B):CB d (lJ k B) rb f bl bs k r x c B where
 base:=aa5 s.rd.le λb hb=>by
  cases e:d b with
  | none=>rfl
  | some o=>have:=s.base b o e;rw [s.fresh b hb] at this;cases this
 kr:=λe=>by rw [rN s.nr] at e;obtain ⟨p,q,t,a,_⟩:=s.rd.fu;exact a.known e
 kc:=λe=>by rw [rN s.nc] at e;exact s.fu.known e
 ne:=s.ne
 dc:=s.dc
 bq:=λb o e _ _=>aa3 b o e
 rd:=s.rd
 fu:=s.fu
 own:=s.own
 nd:=s.nd
 fresh:=λb hb=>XS hb
theorem CB.back (s:CB d h0 rb f bl bs k r x c B) {m:Hp} {n:RS} {p:al} {j:aI} {i:List Nat} (t:CB d (lJ k B) rb f bl bs m n p j i):CB d h0 rb f bl bs m n p j i where
 base:=s.base
 kr:=s.kr
 kc:=s.kc
 ne:=s.ne
 dc:=s.dc
 bq:=λb o e a g=>t.bq b o (by rw [rN λhb=>by rw [s.fresh b hb] at e;cases e];exact s.bq b o e a g) a g
 rd:=t.rd
 fu:=t.fu
 own:=t.own
 nd:=t.nd
 fresh:=λb hb=>by
  cases e:h0 b with
  | none=>rfl
  | some o=>
   have a:b≠rb:=λh=>t.nr (h▸hb);have g:b≠f:=λh=>t.nc (h▸hb);have l:=t.fresh b hb;have q:b∉B:=λhb=>by rw [s.fresh b hb] at e;cases e
   rw [rN q,s.bq b o e a g] at l;cases l
theorem CB.fin (s:CB d h0 rb f bl bs k r x c B) {k3:Hp} {x':al} {c':aI} {B3:List Nat} {off:Nat} {v:Value} (i:∀b y,k b=some y->b∉B->k3 b=some y) (z:nE x' c' k3 B3) (H:B3.Nodup) (n:∀b∈B3,h0 b=none)
  (J:off<7) (F:mf x'=(mf x).take off++ [v]++(mf x).drop (off+1)):
  (∀b o,h0 b=some o->b≠rb->b≠f->k3 b=some o)/\eI k3 f (mf x)/\∀j:Hp->Prop,(∀g,CB d h0 rb f bl bs g r x' c' B3->j g)->bW k3 ⟨f,off,none⟩ [v] j:=by
 have u:eI k3 f (mf x):=by obtain ⟨t,e⟩:=s.fu;exact ⟨t,i f _ e s.nc⟩
 have w:∀b o,h0 b=some o->b≠rb->b≠f->k3 b=some o:=λb o e l a=>i b o (s.bq b o e l a) λhb=>by rw [s.fresh b hb] at e;cases e
 refine ⟨w,u,λj A=> ?_⟩;refine qE u (by show off+1<=7;omega) λg m C=>A g ?_;have D:f∉B3:=λh=>s.kc (n f h);have I:fQ d k3 rb bl bs r:=by obtain ⟨p,q,t,⟨ty,G⟩,E⟩:=s.rd.fu;refine ⟨λb o e=>i b o (s.rd.le b o e) λhb=> ?_,s.rd.out,s.rd.src,s.rd.cap,s.rd.small,p,q,t,⟨ty,i rb _ G s.nr⟩,E⟩;have:=s.base b o e;rw [s.fresh b hb] at this;cases this
 exact {
  base:=s.base
  kr:=s.kr
  kc:=s.kc
  ne:=s.ne
  dc:=s.dc
  bq:=λb o e l a=>m.bq b o (w b o e l a) λhb=>a (List.mem_singleton.1 hb)
  rd:=I.mv m (λhb=>s.ne (List.mem_singleton.1 hb)) λb hb=>by rw [List.mem_singleton.1 hb];exact s.dc
  fu:=by rw [F];exact C
  own:=ir.same z (rF m (ir.known z) λb hb e=>D (by rw [<-List.mem_singleton.1 e];exact hb))
  nd:=H
  fresh:=n}
theorem CB.num (s:CB d h0 rb f bl bs k r x c B) {x':al} {c':aI} {off:Nat} {v:Value} (j:nE x c k B->nE x' c' k B) (h:off<7) (i:mf x'=(mf x).take off++ [v]++(mf x).drop (off+1)) {a:Hp->Prop}
  (g:∀b,CB d h0 rb f bl bs b r x' c' B->a b):bW k ⟨f,off,none⟩ [v] a:=
 (s.fin (λ_ _ e _=>e) (j s.own) s.nd s.fresh h i).2.2 a g
end
end Lf
