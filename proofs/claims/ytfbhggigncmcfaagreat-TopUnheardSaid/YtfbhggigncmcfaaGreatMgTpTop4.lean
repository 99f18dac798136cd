/-
  Part 5 of the texts that the claim leans on.
-/
import Derived.RangeFuncFrom
import Derived.RangeFuncBound
import Derived.RangeFuncCalls
import Derived.RangeFuncLeaves
import Derived.Shelf.Abstract
import Derived.Shelf.RegionOpen
import Derived.WalkKit
import Derived.OwnWalkIn
import Derived.TacticsInMore
import Derived.LoopNIn
import Derived.LoopIn
import Derived.Test.YtfbhggigncmcfaaGreatProg
import Derived.ChangeKeysEq
import Derived.ProofKit
import Derived.SizedLaws
import Derived.OpenShut
import Derived.Laws.IdiomStrings
import Derived.Test.YtfbhggigncmcfaaGreatMgTpTop3
set_option maxRecDepth 100000
namespace Lf
open Go Go.Proofs Tryz
theorem Zy {b:Type} {l:List b} {n:Nat} {f:b->b} {a:b} (h:l[n]? =some a):l.modify n f=l.set n (f a):=by refine List.ext_getElem? λj=> ?_;grind
theorem Iu {a b:Int}:ju a b=qR a b:=by unfold ju qR;omega
theorem UM {a b:Int}:qx a b=vT a b:=by unfold qx vT;omega
section
variable {h0 h1 k:Hp} {K:MK} {pm:Addr} {s:MS} {d:Nat->Nat->Int}
def wj (d:Nat->Nat->Int) (i p:Nat) (t v:Int):Nat->Nat->Int:=cp d i (cp (d i) (2*p) (if 0<v then t+qR v 1099511627776 else 0))
theorem Qx {p:Nat} {v:Int} {Q:Hp->Prop} (m:dF h0 K) (w:cf K.c) (o:Has h0 (aF K pm s d) k) (hp:p<nQ K.c) (ht:0<=s.tick/\s.tick<=4611686018427387904)
  (j:∀u,Has h0 (aF K pm (s.aL p {s.proc p with bL:=false}) (wj d (az K.c p) p s.tick v)) u->Q u):
 ai none (some (K.p p)) λp8=>
 cJ k (Addr.add p8 13) [(.bool false)] (λi=>
 ai none (some (K.q (az K.c p))) λE=>
 aR none ag i (Addr.add E 6) λe=>
 ai none (some (K.p p)) λZ=>
 aR none (af .i64) i (Addr.add Z 0) λx8=>
 aa prog xv [(.int .i64 x8)] (af .i64) (λr2 l=>
 (((bf l (Addr.add E 6) [(.pointer e)])/\True)/\aa prog Ca [(.pointer e),(.int .i64 r2)] bn (λr3 b=>
 (if (decide (v>(0:Int)))=true then
 ai none (some (K.q (az K.c p))) λC=>
 aR none ag b (Addr.add C 6) λf=>
 ai none (some (K.p p)) λa8=>
 aR none (af .i64) b (Addr.add a8 0) λb4=>
 ai none (some pm) λD=>
 aR none (af .i64) b (Addr.add D 9) λF=>
 aa prog xv [(.int .i64 b4)] (af .i64) (λr4 g=>
 (((bf g (Addr.add C 6) [(.pointer f)])/\((bf g (Addr.add D 9) [(.int .i64 F)])/\(True/\True)))/\aa prog xt [(.pointer f),(.int .i64 r4),(.int .i64 (yw (F+(ju v (1099511627776:Int)))))] (af .i64) (λr5 M=>
 Q M) g)) b
 else
 Q b)) l)) i):=by
  have r:az K.c p<nP K.c:=w.fi;have b8:=w.procs;obtain ⟨h1,z,a,l1,t,X,put⟩:=o.dC hp;refine aP (X.st (uZ z false) (by show 13+1<=15;omega) rfl λk2 y=> ?_);have T:=put _ _ _ (t.bL false) rfl rfl y;obtain ⟨g,e,c0,b2,l7,N,A,V,a9⟩:=T.jw r;have J:e.dY=some b2:=N.2.2.2.2.2;refine aP (A.ld (shf:=ag) e.dY rfl ?_);refine aP (y.ld (shf:=af .i64) z.dG rfl ?_);have I:z.dG=(p:Int):=t.1;rw [I];refine I0 (yO (by omega) ?_);refine ⟨⟨A.fb (n:=1) rfl,trivial⟩,?_⟩;rw [J];refine II (CH V (by omega) λb1 k6 U=> ?_);have h:=a9 _ _ U;unfold wj at j;by_cases hv:0<v
  ·rw [if_pos (decide_eq_true hv)];rw [if_pos hv] at j;obtain ⟨h9,f,c1,b3,l9,O,B,W,b0⟩:=h.jw r;have L:f.dY=some b3:=O.2.2.2.2.2;obtain ⟨b6,G,b5,b9,P,Y,_⟩:=h.dC hp;refine aP (B.ld (shf:=ag) f.dY rfl ?_);refine aP (Y.ld (shf:=af .i64) G.dG rfl ?_);have H:G.dG=(p:Int):=P.1;rw [H];refine aP (h.eV.ld (shf:=af .i64) s.tick rfl ?_);refine I0 (yO (by omega) ?_);refine ⟨⟨B.fb (n:=1) rfl,h.eV.fb (n:=1) rfl,trivial,trivial⟩,?_⟩;have b7:0<qR v 1099511627776/\qR v 1099511627776<=1099511627776:=by unfold qR;split<;>omega
   rw [L,Iu,aT];refine VJ (DL W (by omega) (by omega) (by omega) λR S=>j R ?_);have x:=b0 _ _ S;rw [ki,LK,LK] at x;exact x
  grind
theorem Qy {p:Nat} {v:Int} {Q:Hp->Prop} (m:dF h0 K) (g:cf K.c) (o:Has h0 (aF K pm s d) k) (hp:p<nQ K.c) (X:0<=s.tick/\s.tick<=4611686018427387904)
  (A:∀f,Has h0 (aF K pm (s.aL p {s.proc p with state:=4}) (cp d (az K.c p) (cp (d (az K.c p)) (2*p+1) (s.tick+qR (vT v 1) 1099511627776)))) f->Q f):
 ai none (some (K.q (az K.c p))) λj=>
 aR none ag k (Addr.add j 6) λl=>
 ai none (some (K.p p)) λN=>
 aR none (af .i64) k (Addr.add N 0) λR=>
 ai none (some pm) λi=>
 aR none (af .i64) k (Addr.add i 9) λb=>
 aa prog yn [(.int .i64 R)] (af .i64) (λr2 e=>
 (((bf e (Addr.add j 6) [(.pointer l)])/\((bf e (Addr.add i 9) [(.int .i64 b)])/\(True/\True)))/\aa prog xt [(.pointer l),(.int .i64 r2),(.int .i64 (yw (b+(ju (qx v (1:Int)) (1099511627776:Int)))))] (af .i64) (λr3 w=>
 ai none (some (K.p p)) λM=>
 cJ w (Addr.add M 3) [(.int .i64 (4:Int))] (λx=>
 Q x)) e)) k:=by
  have y:az K.c p<nP K.c:=g.fi;have W:=g.procs;obtain ⟨U,b,a9,P,l9,B,h,I,O⟩:=o.jw y;have u:b.dY=some P:=B.2.2.2.2.2;obtain ⟨T,r,S,a8,D,L,_⟩:=o.dC hp;refine aP (h.ld (shf:=ag) b.dY rfl ?_);refine aP (L.ld (shf:=af .i64) r.dG rfl ?_);have t:r.dG=(p:Int):=D.1;rw [t];refine aP (o.eV.ld (shf:=af .i64) s.tick rfl ?_);refine I1 (yQ (by omega) ?_);refine ⟨⟨h.fb (n:=1) rfl,o.eV.fb (n:=1) rfl,trivial,trivial⟩,?_⟩;have V:0<qR (vT v 1) 1099511627776/\qR (vT v 1) 1099511627776<=1099511627776:=by unfold qR vT;omega
  rw [u,Iu,UM,aT];refine VJ (DL I (by omega) (by omega) (by omega) λY F=> ?_);have G:=O _ _ F;obtain ⟨h1,z,a,Z,C,J,put⟩:=G.dC hp;exact aP (J.st (xj z 4) (by show 3+1<=15;omega) rfl λE H=>A E (put _ _ _ (C.state 4) rfl rfl H))
theorem SJ {p:Nat} {n:Int} {Q:Hp->Prop} (m:dF h0 K) (mc:cf K.c) (o:Has h0 (aF K pm s d) k) (H:jZ K.c s) (hp:p<nQ K.c) (hn:0<=n/\n<K.c.ae) (S:∀q∈(s.part (az K.c p)).av,(p:Int)∉q)
  (h:∀E,Has h0 (aF K pm (iX K.c s p n) d) E->Q E):
 ai none (some (K.q (az K.c p))) λp8=>
 aR none ag k (Addr.add p8 5) λx7=>
 ai none (some (K.p p)) λp9=>
 aR none (af .i64) k (Addr.add p9 0) λx8=>
 bu prog NN [(.pointer x7),(.int .i64 n),(.int .i64 x8)] bn (af .i64) (λr2 r3 g=>
 (if r2=true then
 ai none (some (K.p p)) λi=>
 aR none fk g (Addr.add i 4) λC=>
 aa prog xx [C.v] fk (λb f=>
 ai none (some (K.p p)) λB=>
 cJ f (Addr.add B 4) [(.int .i64 b.PC),(.int .i64 b.cw),(.int .i64 b.cx),(.int .i64 b.cC),(.int .i64 b.cD),(.int .i64 b.cE),(.int .i64 b.cF),(.int .i64 b.cG),(.int .i64 b.cH)] (λr=>
 Q r)) g
 else
 ai none (some (K.p p)) λi=>
 cJ g (Addr.add i 3) [(.int .i64 (3:Int))] (λf=>
 Q f))) k:=by
  have D:az K.c p<nP K.c:=mc.fi;have l:=H.part _ D;have b3:=l.jg;have b2:=l.ij;obtain ⟨h3,I,Z,b5,l4,T,a8,ol,G⟩:=o.rO D;have N:I.ae=some Z:=T.2.2.2.2.1;obtain ⟨b1,J,b0,b4,U,a9,_⟩:=o.dC hp;refine aP (a8.ld (shf:=ag) I.ae rfl ?_);refine aP (a9.ld (shf:=af .i64) J.dG rfl ?_);have M:J.dG=(p:Int):=U.1;rw [N,M];have R:n.toNat<(s.part (az K.c p)).av.length:=by omega
  have O:((n.toNat:Nat):Int)=n:=by omega
  have u:=List.getElem?_eq_getElem R;have t:=List.getElem?_eq_getElem (show n.toNat<(s.part (az K.c p)).aB.length by omega);generalize (s.part (az K.c p)).av[n.toNat]=q at u;generalize (s.part (az K.c p)).aB[n.toNat]=ow at t;unfold iX at h;dsimp only at h;rw [nT t,Zy u] at h;have key:=Qi (n:=n.toNat) (w:=(p:Int)) (Q:=λr2 (r3:Int) g=>(if r2=true then
 ai none (some (K.p p)) λi=>
 aR none fk g (Addr.add i 4) λC=>
 aa prog xx [C.v] fk (λb f=>
 ai none (some (K.p p)) λB=>
 cJ f (Addr.add B 4) [(.int .i64 b.PC),(.int .i64 b.cw),(.int .i64 b.cx),(.int .i64 b.cC),(.int .i64 b.cD),(.int .i64 b.cE),(.int .i64 b.cF),(.int .i64 b.cG),(.int .i64 b.cH)] (λr=>
 Q r)) g
 else
 ai none (some (K.p p)) λi=>
 cJ g (Addr.add i 3) [(.int .i64 (3:Int))] (λf=>
 Q f))) ol ⟨by have:=l.mR.1;omega,l.mR.2⟩ S (by omega) t u (λf V y=> ?_) λf V y=> ?_
  ·rw [O] at key;exact zyi key
  ·dsimp only;rw [if_pos rfl];rw [if_pos f] at h;have j:=G _ _ _ y;obtain ⟨h1,z,a,Y,x,A,put⟩:=j.dC hp;have e:gG (eu z)=(s.proc p).core:=x.2.2.2.2.1;have P:(eu z).PC=(s.proc p).pc:=congrArg Core.pc e;refine aP (A.ld (shf:=fk) (eu z) rfl ?_);refine CS (Ew (by rw [P];exact H.told hp) λc' L=> ?_);refine aP (wL j hp λX F=>h X ?_);rw [L,e] at F;exact F
  ·dsimp only;rw [if_neg (by decide)];rw [if_neg f] at h;have j:=G _ _ _ y;obtain ⟨h1,z,a,Y,x,A,put⟩:=j.dC hp;exact aP (A.st (xj z 3) (by show 3+1<=15;omega) rfl λW o4=>h W (put _ _ _ (x.state 3) rfl rfl o4))
theorem MN {w:Int}:∀ {os:List Int} {i j:Nat},os[j]? =some w->((i+j:Nat):Int)∈hold w os i
 | [],_,j,h=>by simp at h
 | o::r,i,0,h=>by unfold hold;grind
 | o::r,i,j+1,h=>by have a:=MN (i:=i+1) (j:=j) (os:=r) (w:=w) (by simpa using h);rw [show i+1+j=i+(j+1) by omega] at a;unfold hold;grind
theorem Zz {p:Nat} {n:Int} {Q:Hp->Prop} (m:dF h0 K) (mc:cf K.c) (o:Has h0 (aF K pm s d) k) (O:jZ K.c s) (hp:p<nQ K.c) (hn:0<=n/\n<K.c.ae)
  (f:∀y,Has h0 (aF K pm (uv K.c s p n) d) y->Q y):
 ai none (some (K.q (az K.c p))) λp8=>
 aR none ag k (Addr.add p8 5) λx7=>
 ai none (some (K.p p)) λp9=>
 aR none (af .i64) k (Addr.add p9 0) λx8=>
 aa prog NK [(.pointer x7),(.int .i64 x8)] au (λr2 D=>
 ((True/\True)/\aa prog Ns [r2.v,(.int .i64 n)] bn (λr3 b=>
 (if r3=true then
 ai none (some (K.q (az K.c p))) λc1=>
 aR none ag b (Addr.add c1 5) λx9=>
 ai none (some (K.p p)) λc2=>
 aR none (af .i64) b (Addr.add c2 0) λc4=>
 bu prog IZ [(.pointer x9),(.int .i64 n),(.int .i64 c4)] (af .i64) (af .i64) (λI r5 g=>
 bC prog BQ [(.pointer (some pm)),(.int .i64 I)] (λE=>
 Q E) g) b
 else
 Q b)) D)) k:=by
  have F:az K.c p<nP K.c:=mc.fi;have C:=O.part _ F;have d2:=C.jg;have d1:=C.ij;have d0:=C.mR.1;obtain ⟨h3,R,b5,d7,l4,b1,b8,ol,c3⟩:=o.rO F;have W:R.ae=some b5:=b1.2.2.2.2.1;obtain ⟨c7,S,c5,d3,b2,b9,_⟩:=o.dC hp;refine aP (b8.ld (shf:=ag) R.ae rfl ?_);refine aP (b9.ld (shf:=af .i64) S.dG rfl ?_);have U:S.dG=(p:Int):=b2.1;rw [W,U];have a9:n.toNat<(s.part (az K.c p)).av.length:=by omega
  have Y:((n.toNat:Nat):Int)=n:=by omega
  have x:=List.getElem?_eq_getElem a9;have u:=List.getElem?_eq_getElem (show n.toNat<(s.part (az K.c p)).aB.length by omega);generalize (s.part (az K.c p)).av[n.toNat]=q at x;generalize (s.part (az K.c p)).aB[n.toNat]=M at u;unfold uv at f;dsimp only at f;rw [nT u,nT x] at f;refine zof (Lk ol (by omega) (by omega) λsl G l=> ?_);have o3:Has h0 ((aF K pm s d).star (dU 1 fE sl (hold (p:Int) (s.part (az K.c p)).aB 0))) G:=l.carry λy o'=>by
   have D:=c3 _ _ y o';have e:s.dh (az K.c p) {s.part (az K.c p) with aB:=(s.part (az K.c p)).aB,av:=(s.part (az K.c p)).av}=s:=Df
   rwa [e] at D
  obtain ⟨g,A,B,hr⟩:=o3.aside (λ_=>rfl);refine ⟨⟨trivial,trivial⟩,?_⟩;have a8:(hold (p:Int) (s.part (az K.c p)).aB 0).length<=1000000:=by
   have:∀(os:List Int) (i:Nat),(hold (p:Int) os i).length<=os.length:=by
    intro os
    induction os with
    | nil=>intro i;exact Nat.le_refl _
    | cons a r ih=>intro i;have:=ih (i+1);unfold hold;split<;>simp<;>omega
   grind
  refine zil (I6 (Rw.mono B.le hr) a8 ?_);have J:n∈hold (p:Int) (s.part (az K.c p)).aB 0↔M=(p:Int):=by
   constructor
   ·intro h;obtain ⟨j,e1,e2⟩:=E9 h;grind
   ·intro h;subst h;have:=MN (i:=0) u;grind
  by_cases h:M=(p:Int)
  ·rw [if_pos (decide_eq_true (J.2 h))];rw [if_pos h] at f;subst h;have L:=m.mono A;obtain ⟨c8,P,b4,d6,d4,b0,b7,b6,N⟩:=B.rO F;have X:P.ae=some b4:=b0.2.2.2.2.1;obtain ⟨c9,T,c6,d5,b3,c0,_⟩:=B.dC hp;refine aP (b7.ld (shf:=ag) P.ae rfl ?_);refine aP (c0.ld (shf:=af .i64) T.dG rfl ?_);have V:T.dG=(p:Int):=b3.1;rw [X,V];have key:=MC (n:=n.toNat) (w:=(p:Int)) (Q:=λI (r5:Int) g=>bC prog BQ [(.pointer (some pm)),(.int .i64 I)] (λE=>Q E) g) b6 (by omega) u x (λb G l=> ?_) λa r b G l=> ?_
   ·rw [Y] at key;exact zpn key
   ·subst b;have H:=N _ _ _ l;refine Rk (Dd L H (λh=>absurd h (by decide)) λz t=> ?_);have t:Has g (aF K pm (s.dh (az K.c p) {s.part (az K.c p) with aB:=(s.part (az K.c p)).aB.set n.toNat (-1),av:=(s.part (az K.c p)).av}) d) z:=t;exact f z (t.mono A)
   ·subst b;have H:=N _ _ _ l;have Z:0<=a/\a<(nQ K.c:Int):=(C.nd _ (List.mem_of_getElem? x)).2 a (List.mem_cons_self ..);refine Rk (Dd L H (λh=>⟨Z.2,?_⟩) λz t=>f z (t.mono A));exact O.told (by omega)
  ·rw [if_neg (λe=>h (J.1 (of_decide_eq_true e)))];rw [if_neg h] at f;exact f _ (B.mono A)
theorem UO {p:Nat} {v:Int} {Q:Hp->Prop} (m:dF h0 K) (S:cf K.c) (o:Has h0 (aF K pm s d) k) (sa:jZ K.c s) (hp:p<nQ K.c)
  (f:∀J,Has h0 (aF K pm (qS K.c s p v) d) J->Q J):
 ai none (some (K.q (az K.c p))) λY=>
 aR none au k (Addr.add Y 2) λx7=>
 ai none (some pm) λZ=>
 aR none (af .i64) k (Addr.add (Addr.add Z 0) 5) λx8=>
 (if (decide (((x7.len:Nat):Int)<x8))=true then
 ai none (some (K.q (az K.c p))) λy=>
 aR none au k (Addr.add y 2) λA=>
 ai none (some pm) λF=>
 aR none (af .i64) k (Addr.add F 9) λa9=>
 ai none (some (K.p p)) λX=>
 aR none (af .i64) k (Addr.add X 0) λb0=>
 bh [(.int .i64 a9),(.int .i64 b0),(.int .i64 v)] (λa r=>
 (((bf r (Addr.add y 2) [A.v])/\True)/\fu 3 24 [(.int .i64 (0:Int)),(.int .i64 (0:Int)),(.int .i64 (0:Int))] A ⟨(some a),1,1⟩ (λr2 g=>
 ai none (some (K.q (az K.c p))) λG=>
 cJ g (Addr.add G 2) [r2.v] (λi=>
 Q i)) r)) k
 else
 ai none (some (K.q (az K.c p))) λy=>
 aR none (af .i64) k (Addr.add y 3) λA=>
 aa prog N3 [(.int .i64 A)] (af .i64) (λr2 r=>
 ai none (some (K.q (az K.c p))) λF=>
 cJ r (Addr.add F 3) [(.int .i64 r2)] (λg=>
 Q g)) k):=by
  have I:az K.c p<nP K.c:=S.fi;have M:=sa.part _ I;have b1:=M.kG;obtain ⟨h1,x,lp,wp,l1,j,u,put⟩:=o.rP I;have w:=Has.left u;refine aP (w.ld (shf:=au) x.log rfl ?_);have B:(Fu K.x).Log=K.c.log:=m.cfg.log;have B:K.x.oe=K.c.log:=B;refine aP ?_;rw [tF];refine o.eV.ld (shf:=af .i64) K.x.oe rfl ?_;have O:=u.right.left.jh;unfold qS at f;dsimp only at f;rw [B,O];by_cases h:((s.part (az K.c p)).log.length:Int)<K.c.log
  ·rw [if_pos (decide_eq_true h)];rw [if_pos h] at f;obtain ⟨h2,z,a,l2,P,W,_⟩:=o.dC hp;refine aP (w.ld (shf:=au) x.log rfl ?_);refine aP (o.eV.ld (shf:=af .i64) s.tick rfl ?_);refine aP (W.ld (shf:=af .i64) z.dG rfl ?_);have N:z.dG=(p:Int):=P.1;rw [N];obtain ⟨h3,l3,T,a8⟩:=u.f2;have key:=T.push (sz:=3) (zero:=[(.int .i64 (0:Int)),(.int .i64 (0:Int)),(.int .i64 (0:Int))]) (bytes:=24) (e:=(⟨s.tick,(p:Int),v⟩:qY)) (cs:=[(.int .i64 s.tick),(.int .i64 (p:Int)),(.int .i64 v)]) rfl (λ_=>rfl) (λ_=>rfl) rfl ⟨by omega,by omega⟩
    (K:=λr2 g=>ai none (some (K.q (az K.c p))) λG=>
 cJ g (Addr.add G 2) [r2.v] (λi=>
 Q i)) λL k2 U=> ?_
   ·exact λb t hb=>⟨⟨pk (ni hb) (w.fb (n:=1) rfl),trivial⟩,key b t hb⟩
   ·have V:=a8 _ _ U;obtain ⟨i,R,C,H⟩:=V.f1;refine aP (C.st (⟨x.procs,x.ah,L,x.lost,x.forbidden,x.ae,x.dY⟩:bg) (by show 2+1<=7;omega) rfl λl D=>f l ?_);have E:=H _ _ D;have:=put (⟨x.procs,x.ah,L,x.lost,x.forbidden,x.ae,x.dY⟩:bg) {s.part (az K.c p) with log:=(s.part (az K.c p)).log++ [⟨s.tick,(p:Int),v⟩]} (d (az K.c p)) l j E;rw [zd] at this;exact this
  ·rw [if_neg (λe=>h (of_decide_eq_true e))];rw [if_neg h] at f;refine aP (w.ld (shf:=af .i64) x.lost rfl ?_);have ex:x.lost=(s.part (az K.c p)).lost:=j.2.2.1;rw [ex];refine zut (MG M.lost ?_);obtain ⟨i,R,C,H⟩:=u.f1;refine aP (C.st (⟨x.procs,x.ah,x.log,more (s.part (az K.c p)).lost,x.forbidden,x.ae,x.dY⟩:bg) (by show 3+1<=7;omega) rfl λl D=>f l ?_);have E:=H _ _ D;have:=put (⟨x.procs,x.ah,x.log,more (s.part (az K.c p)).lost,x.forbidden,x.ae,x.dY⟩:bg) {s.part (az K.c p) with lost:=more (s.part (az K.c p)).lost} (d (az K.c p)) l ⟨j.1,j.2.1,rfl,j.2.2.2⟩ E;rw [zd] at this;exact this
end
def nU (c:aE) (s:MS) (i id:Nat):Int:=if id / 2<nQ c/\az c (id / 2)=i then (if id%2=0 then (s.proc (id / 2)).timer else (s.proc (id / 2)).cv) else 0
def eR (c:aE) (a:Nat->Nat->Int) (s:MS):Prop:=∀i id,i<nP c->a i id=nU c s i id
def TW (s:MS):Nat->Int×Int:=λq=>((s.proc q).timer,(s.proc q).cv)
section
variable {c:aE} {s s':MS} {b:Nat->Nat->Int} {p:Nat} {y:ak}
theorem sr (h:(y.timer,y.cv)=((s.proc p).timer,(s.proc p).cv)):TW (s.aL p y)=TW s:=by
 funext q;unfold TW;by_cases e:q=p
 ·subst e;rw [fX,h]
 ·rw [jc e]
theorem AT {v:Int}:TW (bV c s p v)=TW s:=sr rfl
theorem UQ :TW (qv s p)=TW s:=sr rfl
theorem MO {lG:Int}:TW (gW s lG)=TW s:=by
 unfold gW;split
 ·exact UQ
 ·rfl
theorem Ei {q:Nat} (h:(y.timer,y.cv)=((s.proc q).timer,(s.proc q).cv)):TW (s.aL q (dR y))=TW s:=sr h
theorem US {to v:Int} {fl:Nat->Nat->Bool}:TW (jx c fl s p to v)=TW s:=by
 unfold jx;split
 ·exact AT
 split
 ·exact AT
 split
 ·split
  ·exact AT
  split
  ·dsimp only;have e:TW (s.aL to.toNat (bz (s.proc to.toNat) (az c p) (im p v)))=TW s:=sr rfl;rw [<-e];exact sr rfl
  ·rw [AT];exact Ei rfl
 split
 ·rw [AT];exact sr rfl
 ·rw [AT];exact Ei rfl
theorem Ix {t:Bool}:TW (jb c s p t)=TW s:=by
 unfold jb;dsimp only;split
 ·split
  ·exact sr rfl
  ·rw [AT];exact sr rfl
 ·split
  ·exact sr rfl
  split
  ·exact sr rfl
  ·exact sr rfl
theorem UU {n:Int}:TW (iX c s p n)=TW s:=by
 unfold iX;dsimp only;split
 ·unfold iX.goK;exact sr rfl
 ·exact sr rfl
theorem Qz {n:Int}:TW (uv c s p n)=TW s:=by
 unfold uv;dsimp only;split
 ·split
  ·rfl
  ·exact MO
 ·rfl
theorem VV {v:Int}:TW (qS c s p v)=TW s:=rfl
theorem eR.bK (t:eR c b s) (h:TW s'=TW s):eR c b s':=λi id e=>by have:=congrFun h (id / 2);have a:(s'.proc (id / 2)).timer=(s.proc (id / 2)).timer:=congrArg Prod.fst this;have d:(s'.proc (id / 2)).cv=(s.proc (id / 2)).cv:=congrArg Prod.snd this;rw [t i id e];unfold nU;rw [a,d]
theorem eR.set (t:eR c b s) (hp:p<nQ c) {id:Nat} {v:Int} (hid:id=2*p\/id=2*p+1) (h:∀q,TW s' q=if q=p then (if id=2*p then (v,(s.proc p).cv) else ((s.proc p).timer,v)) else TW s q):eR c (cp b (az c p) (cp (b (az c p)) id v)) s':=λi a k=>by
 have d:=h (a / 2);by_cases e:a / 2=p
 ·rw [if_pos e] at d;unfold nU;by_cases g:az c p=i
  ·subst g;rw [ki];have f:=t _ a k;unfold nU at f;rw [if_pos ⟨by omega,by rw [e]⟩] at f ⊢;rcases hid with rfl | rfl
   ·rw [if_pos rfl] at d;by_cases j:a=2*p
    ·subst j;rw [ki,if_pos (by omega)];exact (congrArg Prod.fst d).symm
    ·rw [kA j,if_neg (by omega)];rw [pN] at f;rw [f,e];rw [e] at d;exact (congrArg Prod.snd d).symm
   ·rw [pN] at d;by_cases j:a=2*p+1
    ·subst j;rw [ki,if_neg (by omega)];exact (congrArg Prod.snd d).symm
    ·rw [kA j,if_pos (by omega)];rw [if_pos (by omega)] at f;rw [f,e];rw [e] at d;exact (congrArg Prod.fst d).symm
  ·rw [kA (Ne.symm g)];have f:=t _ a k;unfold nU at f;grind
 ·rw [if_neg e] at d;have n:cp b (az c p) (cp (b (az c p)) id v) i a=b i a:=by
   by_cases g:i=az c p
   ·subst g;rw [ki,kA (by omega)]
   ·rw [kA g]
  rw [n,t i a k];unfold nU;have l:(s'.proc (a / 2)).timer=(s.proc (a / 2)).timer:=congrArg Prod.fst d;have m:(s'.proc (a / 2)).cv=(s.proc (a / 2)).cv:=congrArg Prod.snd d;rw [l,m]
theorem Lp :∀ {l:List Int} {s:MS},TW (l.foldl gW s)=TW s
 | [],s=>rfl
 | a::l,s=>by rw [List.foldl_cons,Lp,MO]
theorem MP {v:Int}:∀ {l:List mU} {s:MS},TW (l.foldl (λs w=>bV c s w.proc.toNat v) s)=TW s
 | [],s=>rfl
 | a::l,s=>by rw [List.foldl_cons,MP,AT]
theorem VW {st:Int} (q:Nat):TW (lZ c s p st) q=if q=p then (0,0) else TW s q:=by
 rw [y9];unfold rA;rw [MP];have g:TW (jE (iw (jD c (eH c s p st) p) p) p)=TW (iw (jD c (eH c s p st) p) p):=sr rfl;rw [g];have f:TW (jD c (eH c s p st) p)=TW s:=by unfold jD;rw [Lp];have d:TW (qL c (eH c s p st) p)=TW (eH c s p st):=rfl;rw [d];have a:TW (gw s p st)=TW s:=sr rfl;rw [<-a];funext r;show ((if r∈_ then nz p _ else _:ak).timer,(if r∈_ then nz p _ else _:ak).cv)=_;split<;>rfl
 by_cases e:q=p
 ·subst e;rw [if_pos rfl];unfold TW iw;rw [fX]
 ·rw [if_neg e,<-f];unfold TW iw;rw [jc e]
theorem eR.ended {st:Int} (t:eR c b s) (hp:p<nQ c):eR c (rB b (az c p) p) (lZ c s p st):=by
 have d:=t.set (s':=s.aL p {s.proc p with timer:=0}) hp (id:=2*p) (v:=0) (.inl rfl) λq=>by
  unfold TW;by_cases e:q=p
  ·subst e;rw [fX,if_pos rfl,if_pos rfl]
  ·rw [jc e,if_neg e]
 have a:=d.set (s':=lZ c s p st) hp (id:=2*p+1) (v:=0) (.inr rfl) λq=>by
  rw [VW];by_cases e:q=p
  ·subst e;rw [if_pos rfl,if_pos rfl,if_neg (by omega),fX]
  ·rw [if_neg e,if_neg e];unfold TW;rw [jc e]
 rw [ki,LK] at a;exact a
end
theorem SL {D:Int->Int->Int->Int} {l:List cX} {k:Core} {tk self:Int} (a:0<=k.pc/\k.pc<=1000) (d:k.bw.length=8) (g:l.length<=256):0<=(gO D l k tk self).1.pc/\(gO D l k tk self).1.pc<=1000:=by
 rcases Dr (D:=D) (l:=l) (k:=k) (tk:=tk) (self:=self) with ⟨_,e⟩ | ⟨n,b,f,⟨_,e⟩ | ⟨w,st,_,e⟩⟩
 ·rw [e];exact a
 ·rw [e];have:=(KH (D:=D) (tk:=tk) (self:=self) b f d).1;grind
 ·rw [e];have h:0<=k.pc/\k.pc<l.length:=AQ (c:=⟨[],[],0,0,0,0,[⟨0,l⟩]⟩) (p:=0) (x:=⟨0,k.pc,[],0,0,false,0,[]⟩) b;cases st
  ·show 0<=k.pc+1/\k.pc+1<=1000;omega
  ·exact a
section
variable {h0 h1 k:Hp} {K:MK} {pm:Addr} {s:MS} {f:Nat->Nat->Int}
theorem SN {p:Nat} {Q:Hp->Prop} (tk:yM) (m:dF h0 K) (u:cf K.c) (o:Has h0 (aF K pm s f) k) (S:jZ K.c s) (hp:p<nQ K.c) (Y:0<=s.tick/\s.tick<=4611686018427387904) (hr:(s.proc p).bw.length=8)
  (hw:∀q,q<nQ K.c->∀l∈(s.proc q).aj,∀z∈l.waiters,z.proc≠(p:Int)) (b4:∀q∈(s.part (az K.c p)).av,(p:Int)∉q) (td:eR K.c f s)
  (g:∀a9 i,Has h0 (aF K pm (tU K.c fW (iO K.c) s p) a9) i->eR K.c a9 (tU K.c fW (iO K.c) s p)->Q i):TI prog (some pm) (some (K.p p)) Q k:=by
 unfold TI;have hi:az K.c p<nP K.c:=u.fi;obtain ⟨h1,z,a,l1,P,R,put⟩:=o.dC hp;have e:gG (eu z)=(s.proc p).core:=P.2.2.2.2.1;have ei:z.dG=(p:Int):=P.1;refine aP (R.ld (shf:=fk) (eu z) rfl ?_);refine aP (R.ld (shf:=au) z.code rfl ?_);refine aP (o.eV.ld (shf:=af .i64) s.tick rfl ?_);refine aP (R.ld (shf:=af .i64) z.dG rfl ?_);rw [ei];have U:=(m.code p hp).2;have b2:(gF K.c p).length<=256:=u.og;have c0:(K.ins p).length<=256:=by have:=congrArg List.length U;rw [List.length_map] at this;omega
 refine Wu (Sz (m.rH o.le hp P) (by omega) λc' w k1 l2 T v=> ?_);rw [U,e] at T v;refine aP (wL (o.grow l2) hp λk2 t=> ?_);rw [T] at t;have sp:=S.proc p hp;have b5:=SL (D:=fW) (l:=gF K.c p) (k:=(s.proc p).core) (tk:=s.tick) (self:=(p:Int)) sp.pc hr b2;have W:(w.Kind=7\/w.Kind=8)->0<=w.To/\w.To<K.c.ae:=by
  intro h;rcases Dr (D:=fW) (l:=gF K.c p) (k:=(s.proc p).core) (tk:=s.tick) (self:=(p:Int)) with ⟨C,_⟩ | ⟨n,hn,c1,⟨_,C⟩ | ⟨w',st,b7,C⟩⟩
  ·rw [<-v] at C;have:w.Kind=1:=C;omega
  ·rw [C] at v;have:w.Kind=0:=congrArg Want.kind v;omega
  ·rw [C] at v;have v:tD w=w':=v;subst v;have b3:dP K.c p (s.proc p)=some n:=hn;have Z:=(u.ins b3).1;rcases KG b7 with ⟨a,_⟩ | ⟨_,a,_⟩ | ⟨_,a,_⟩ | ⟨_,a,_⟩ | ⟨a,_⟩ | ⟨_,a,_⟩ | ⟨b,a,d,_⟩ | ⟨b,a,d,_⟩ | ⟨a,_⟩
   ·have a:w.Kind=1:=a;omega
   ·have a:w.Kind=2:=congrArg Want.kind a;omega
   ·have a:w.Kind=3:=a;omega
   ·have a:w.Kind=4:=a;omega
   ·have a:w.Kind=5:=a;omega
   ·have a:w.Kind=6:=a;omega
   ·have d:w.To=n.iQ:=d;rw [d];exact Ou Z (.inl b)
   ·have d:w.To=n.iQ:=d;rw [d];exact Ou Z (.inr b)
   ·have a:w.Kind=9:=a;omega
 unfold tU at g;dsimp only at g;rw [<-v] at g;generalize hg:(gO fW (gF K.c p) (s.proc p).core s.tick (p:Int)).1=E at*;have B:jZ K.c (s.aL p ((s.proc p).put E)):=by
  refine ⟨λq O=> ?_,S.part⟩;by_cases eq:q=p
  ·subst eq;rw [fX];exact ⟨b5,sp.len,sp.cur,sp.dS⟩
  ·rw [jc eq];exact S.proc q O
 have y:eR K.c f (s.aL p ((s.proc p).put E)):=td.bK (sr rfl);have b6:∀q,q<nQ K.c->∀l∈((s.aL p ((s.proc p).put E)).proc q).aj,∀z∈l.waiters,z.proc≠(p:Int):=λq O l V=>by
  have:((s.aL p ((s.proc p).put E)).proc q).aj=(s.proc q).aj:=by
   by_cases eq:q=p
   ·subst eq;rw [fX];rfl
   ·rw [jc eq]
  rw [this] at V;exact hw q O l V
 generalize X:s.aL p ((s.proc p).put E)=s1 at*;have F:s1.tick=s.tick:=by rw [<-X];rfl
 have b0:s1.part=s.part:=by rw [<-X];rfl
 obtain ⟨h3,z3,a3,l3,b8,b9,_⟩:=t.dC hp;obtain ⟨g1,g2⟩:=m.uM t hi;refine aP (t.eV.ld (shf:=au) K.x.parts rfl ?_);refine aP (b9.ld (shf:=af .i64) z3.part rfl ?_);have ep:z3.part=(az K.c p:Int):=b8.2.1;rw [ep];refine ⟨g1,some (K.q (az K.c p)),g2,?_⟩;dsimp only;have j:∀n:Int,(w.Kind==n)=true↔w.Kind=n:=λn=>by simp
 have ek:(tD w).kind=w.Kind:=rfl;have b1:(tD w).to=w.To:=rfl;have ev:(tD w).value=w.fh:=rfl;rw [ek,b1,ev] at g;by_cases J:w.Kind=1
 ·rw [if_pos ((j 1).2 J)];simp only [if_pos J] at g;exact zle (MM m u t B hp λi r=>g _ i r (y.ended hp))
 rw [if_neg (λh=>J ((j 1).1 h))];simp only [if_neg J] at g;by_cases L:w.Kind=2
 ·rw [if_pos ((j 2).2 L)];simp only [if_pos L] at g;exact zsn (Qr m u t B hp b6 λi r=>g _ i r (y.bK US))
 rw [if_neg (λh=>L ((j 2).1 h))];simp only [if_neg L] at g;by_cases A:w.Kind=3
 ·simp only [if_pos A] at g;refine cQ.direct ?_;rw [if_pos ((j 3).2 A)];dsimp only;rw [if_pos ((j 3).2 A),show (w.Kind==4)=false by rw [A];rfl];exact zkb (Ln tk m u t B hp λi r=>g _ i r (y.bK Ix))
 simp only [if_neg A] at g;by_cases G:w.Kind=4
 ·simp only [if_pos G] at g;refine cQ.direct ?_;rw [if_neg (λh=>A ((j 3).1 h))];dsimp only;rw [if_pos ((j 4).2 G),(j 4).2 G];exact zkb (Ln tk m u t B hp λi r=>g _ i r (y.bK Ix))
 simp only [if_neg G] at g;refine cQ.direct ?_;rw [if_neg (λh=>A ((j 3).1 h))];dsimp only;rw [if_neg (λh=>G ((j 4).1 h))];by_cases M:w.Kind=5
 ·rw [if_pos ((j 5).2 M)];simp only [if_pos M] at g;refine Qx m u t hp (by rw [F];exact Y) λi r=> ?_;refine g (wj f (az K.c p) p s1.tick w.fh) i ?_ ?_
  ·rw [ET,EX] at r ⊢;rw [F] at r ⊢;exact r
  ·refine y.set hp (.inl rfl) λq=> ?_;unfold TW;by_cases eq:q=p
   ·subst eq;rw [fX,if_pos rfl,if_pos rfl,F]
   ·rw [jc eq,if_neg eq]
 rw [if_neg (λh=>M ((j 5).1 h))];simp only [if_neg M] at g;by_cases N:w.Kind=6
 ·rw [if_pos ((j 6).2 N)];simp only [if_pos N] at g;refine Qy m u t hp (by rw [F];exact Y) λi r=> ?_;refine g (cp f (az K.c p) (cp (f (az K.c p)) (2*p+1) (s1.tick+qR (vT w.fh 1) 1099511627776))) i ?_ ?_
  ·rw [ET,EX] at r ⊢;exact r
  ·refine y.set hp (.inr rfl) λq=> ?_;unfold TW;by_cases eq:q=p
   ·subst eq;rw [fX,if_pos rfl,if_neg (by omega),F]
   ·rw [jc eq,if_neg eq]
 rw [if_neg (λh=>N ((j 6).1 h))];simp only [if_neg N] at g;by_cases H:w.Kind=7
 ·rw [if_pos ((j 7).2 H)];simp only [if_pos H] at g;exact SJ m u t B hp (W (.inl H)) (by rw [b0];exact b4) λi r=>g _ i r (y.bK UU)
 rw [if_neg (λh=>H ((j 7).1 h))];simp only [if_neg H] at g;by_cases I:w.Kind=8
 ·rw [if_pos ((j 8).2 I)];simp only [if_pos I] at g;exact Zz m u t B hp (W (.inr I)) λi r=>g _ i r (y.bK Qz)
 rw [if_neg (λh=>I ((j 8).1 h))];simp only [if_neg I] at g;by_cases a8:w.Kind=9
 ·rw [if_pos ((j 9).2 a8)];simp only [if_pos a8] at g;exact UO m u t B hp λi r=>g _ i r (y.bK VV)
 grind
end
def ph (x:ak):ak:={x with cv:=0,state:=0,pc:=x.pc+1}
def sH (x:ak):ak:={x with timer:=0,bL:=true,state:=if x.state=1 then 0 else x.state}
def j4 (a:List Int) (q:Nat) (x:ak):ak:=
 if ((2*q:Nat):Int)∈a then sH (if ((2*q+1:Nat):Int)∈a then ph x else x) else (if ((2*q+1:Nat):Int)∈a then ph x else x)
def mC (s:MS) (a:List Int):MS:=⟨s.tick,s.part,λq=>j4 a q (s.proc q)⟩
theorem Iz {t:Int} {x:ak}:mD t x=(if 0<x.timer/\x.timer<=t then sH (if 0<x.cv/\x.cv<=t then ph x else x) else (if 0<x.cv/\x.cv<=t then ph x else x)):=by
 unfold mD;dsimp only;by_cases h:0<x.cv/\x.cv<=t
 ·simp only [if_pos h];rfl
 ·simp only [if_neg h];rfl
theorem QA {a:List Int} {q:Nat} {x:ak} (h:((2*q+1:Nat):Int)∉a):j4 (a++ [((2*q+1:Nat):Int)]) q x=ph (j4 a q x):=by
 unfold j4;have b:((2*q+1:Nat):Int)∈a++ [((2*q+1:Nat):Int)]:=by simp
 have c:((2*q:Nat):Int)∈a++ [((2*q+1:Nat):Int)]↔((2*q:Nat):Int)∈a:=by grind
 simp only [if_pos b,if_neg h,c];split
 ·unfold sH ph;simp
 ·rfl
theorem Lq {a:List Int} {q:Nat} {x:ak} (h:((2*q:Nat):Int)∉a):j4 (a++ [((2*q:Nat):Int)]) q x=sH (j4 a q x):=by unfold j4;grind
theorem ZA {a:List Int} {q:Nat} {x:ak} {id:Int} (b:id≠((2*q:Nat):Int)) (c:id≠((2*q+1:Nat):Int)):j4 (a++ [id]) q x=j4 a q x:=by unfold j4;grind
theorem QB {s:MS} {a:List Int} {id:Int} {q:Nat} {y:ak} (h:id=((2*q:Nat):Int)\/id=((2*q+1:Nat):Int)) (b:sj y=sj (j4 (a++ [id]) q (s.proc q))):u6 ((mC s a).aL q y)=u6 (mC s (a++ [id])):=by
 rw [EX,b];unfold u6 mC MS.aL;congr 1;funext r;unfold cp;by_cases e:r=q
 ·grind
 ·rw [if_neg e];show sj (j4 a r (s.proc r))=sj (j4 (a++ [id]) r (s.proc r));rw [ZA (by omega) (by omega)]
section
variable {h0 h1 k:Hp} {K:MK} {pm:Addr} {s:MS} {b:Nat->Nat->Int}
theorem SO {c:aE} {i:Nat} {ids:List Int} (d:eR c b s) (a:i<nP c) (o:∀x∈ids,0<=x/\x<(2*nQ c:Nat)) (g:∀j:Nat,(j:Int)∈ids↔0<b i j/\b i j<=s.tick):mC s ids=iv c s i:=by
 unfold mC iv;congr 1;funext q;by_cases h:q<nQ c/\az c q=i
 ·rw [if_pos h,Iz];unfold j4;have l:b i (2*q)=(s.proc q).timer:=by rw [d i _ a];unfold nU;rw [show 2*q / 2=q by omega,if_pos h,if_pos (by omega)]
  have m:b i (2*q+1)=(s.proc q).cv:=by rw [d i _ a];unfold nU;rw [show (2*q+1) / 2=q by omega,if_pos h,if_neg (by omega)]
  grind
 ·rw [if_neg h];have e:∀j,j / 2=q->¬(j:Int)∈ids:=λj n f=>by have h1:=(g j).1 f;rw [d i _ a] at h1;unfold nU at h1;grind
  unfold j4;rw [if_neg (e _ (by omega)),if_neg (e _ (by omega))]
theorem eR.due {c:aE} {i:Nat} (g:eR c b s) (m:i<nP c):eR c (cp b i (oK (b i) s.tick)) (iv c s i):=λj id f=>by
 have key:∀x:ak,(mD s.tick x).timer=(if 0<x.timer/\x.timer<=s.tick then 0 else x.timer)/\(mD s.tick x).cv=(if 0<x.cv/\x.cv<=s.tick then 0 else x.cv):=λx=>by rw [Iz];by_cases h1:0<x.timer/\x.timer<=s.tick<;>by_cases a:0<x.cv/\x.cv<=s.tick<;>simp [h1,a,sH,ph]
 by_cases e:j=i
 ·subst e;rw [ki];unfold oK;rw [g j id f];unfold nU;by_cases h:id / 2<nQ c/\az c (id / 2)=j
  ·rw [if_pos h,if_pos h];have d:(iv c s j).proc (id / 2)=mD s.tick (s.proc (id / 2)):=if_pos h;rw [d];by_cases a:id%2=0
   ·rw [if_pos a,if_pos a];exact (key _).1.symm
   ·rw [if_neg a,if_neg a];exact (key _).2.symm
  omega
 ·rw [kA e,g j id f];unfold nU;by_cases h:id / 2<nQ c/\az c (id / 2)=j
  ·rw [if_pos h,if_pos h];have d:(iv c s i).proc (id / 2)=s.proc (id / 2):=if_neg (by rw [h.2];exact λl=>e l.2);rw [d]
  omega
theorem UX {i:Nat} {Q:Hp->Prop} (m:dF h0 K) (mc:cf K.c) (o:Has h0 (aF K pm s b) k) (sa:jZ K.c s) (w:i<nP K.c) (H:eR K.c b s)
  (W:∀I j,Has h0 (aF K pm (iv K.c s i) I) j->eR K.c I (iv K.c s i)->Q j):Uy prog (some pm) (some (K.q i)) Q k:=by
 unfold Uy;have b7:=mc.procs;obtain ⟨h7,J,b9,b0,l7,Z,a8,ow,a9⟩:=o.jw w;have P:J.dY=some b0:=Z.2.2.2.2.2;refine aP (a8.ld (shf:=ag) J.dY rfl ?_);refine aP (o.eV.ld (shf:=af .i64) s.tick rfl ?_);rw [P];refine zzw (Sk ow (by omega) λsl k2 ids A Y X o2=> ?_);have f:Has h0 ((aF K pm s (cp b i (oK (b i) s.tick))).star (dU 1 fE sl ids)) k2:=o2.carry λj d=>a9 _ j d;obtain ⟨r,G,o7,E⟩:=f.aside (λ_=>rfl);have m6:=m.mono G;have b2:ids.length<=2*nQ K.c:=wI (2*nQ K.c) ids Y A;have b4:=E.1;refine aA.intro (λ(t:Int) j=>0<=t/\t<=(ids.length:Int)/\Has r (aF K pm (mC s (ids.take t.toNat)) (cp b i (oK (b i) s.tick))) j) (λt _=>(ids.length-t).toNat) ⟨by omega,by omega,by
  have e:mC s (ids.take (0:Int).toNat)=s:=by unfold mC j4;simp
  rw [e];exact o7⟩ ?_
 rintro t j ⟨t0,t1,d⟩;by_cases h:t<(ids.length:Int)
 ·rw [if_pos (iV)];refine cL.direct ?_;refine Rs.get (sh:=af .i64) (Rw.mono d.le E) (λ_=>rfl) (by omega) t0 h λ(g:Int) v=> ?_;have V:=A g (List.mem_of_getElem? v);have u:g.toNat / 2<nQ K.c:=by omega
  have T:yw (Int.tdiv g 2)=((g.toNat / 2:Nat):Int):=by rw [Int.tdiv_eq_ediv_of_nonneg V.1,aT];omega
  have b6:g∉ids.take t.toNat:=by
   intro b3;obtain ⟨b5,U⟩:=List.getElem?_eq_some_iff.1 v;have b8:ids=ids.take t.toNat++g::ids.drop (t.toNat+1):=by rw [<-U,List.getElem_cons_drop,List.take_append_drop]
   grind
  generalize b1:g.toNat / 2=q at*;obtain ⟨R,S⟩:=m6.ptr d u;refine aP (d.eV.ld (shf:=au) K.x.procs rfl ⟨by decide,?_⟩);rw [T];refine ⟨R,some (K.p q),S,?_⟩;obtain ⟨h2,z,a,l2,n,C,put⟩:=d.dC u;have M:z.dG=(q:Int):=n.1;refine aP (C.ld (shf:=af .i64) z.dG rfl ?_);rw [M];refine I1 (yQ (by omega) ?_);have step:∀ {y:ak} {l:Hp},sj y=sj (j4 (ids.take t.toNat++ [g]) q (s.proc q))->Has r (aF K pm ((mC s (ids.take t.toNat)).aL q y) (cp b i (oK (b i) s.tick))) l->
    (0<=yw (t+1)/\yw (t+1)<=(ids.length:Int)/\Has r (aF K pm (mC s (ids.take (yw (t+1)).toNat)) (cp b i (oK (b i) s.tick))) l)/\(ids.length-yw (t+1)).toNat<(ids.length-t).toNat:=by
   intro y l hy f;rw [aT];refine ⟨⟨by omega,by omega,?_⟩,by omega⟩;have e:(t+1).toNat=t.toNat+1:=by omega
   rw [e,List.take_add_one,v];show Has r (aF K pm (mC s (ids.take t.toNat++ [g])) _) l;rw [ET,<-QB (q:=q) (y:=y) (by omega) hy,<-ET];exact f
  by_cases B:g=((2*q+1:Nat):Int)
  ·rw [if_pos (by rw [B];simp)];have O:((mC s (ids.take t.toNat)).proc q).pc=(s.proc q).pc:=by show (j4 (ids.take t.toNat) q (s.proc q)).pc=_;unfold j4;rw [if_neg (c:=((2*q+1:Nat):Int)∈_) (by grind)];split<;>rfl
   have e:gG (eu z)=((mC s (ids.take t.toNat)).proc q).core:=n.2.2.2.2.1;have N:(eu z).PC=(s.proc q).pc:=(congrArg Core.pc e).trans O;refine aP (C.ld (shf:=fk) (eu z) rfl ?_);refine CS (Ew (by rw [N];exact sa.told u) λc' L=> ?_);refine RY (DN d u λl f=>step ?_ f);rw [L,e,B,QA (by grind)];rfl
  ·rw [if_neg (by simpa using B)];have F:g=((2*q:Nat):Int):=by omega
   refine aP (C.st (uZ z true) (by show 13+1<=15;omega) rfl λl f=> ?_);have D:z.state=((mC s (ids.take t.toNat)).proc q).state:=n.2.2.2.1;refine aP (f.ld (shf:=af .i64) z.state rfl ?_);by_cases h1:z.state=1
   ·rw [if_pos (by rw [h1];rfl)];refine aP (f.st (xj (uZ z true) 0) (by show 3+1<=15;omega) rfl λk4 o4=> ?_);refine step ?_ (put _ _ _ ((n.bL true).state 0) rfl rfl o4);rw [F,Lq (by grind)];unfold sH;rw [if_pos (by rw [<-h1,D];rfl)];rfl
   ·rw [if_neg (by simpa using h1)];refine step ?_ (put _ _ _ (n.bL true) rfl rfl f);rw [F,Lq (by grind)];unfold sH;rw [if_neg (by rw [D] at h1;exact h1)];rfl
 ·rw [if_neg (λe=>h (by grind))];have e:t.toNat=ids.length:=by omega
  rw [e,List.take_of_length_le (Nat.le_refl _),SO H w A X] at d;exact W _ j (d.mono G) (H.due w)
end
section
variable {c:aE} {fl:Nat->Nat->Bool} {s:MS} {T:Int}
theorem Good.qU (m:cf c) (g:Good c fl s No No T):jZ c s where
 proc:=λp hp=>by
  have pm:=g.proc p hp;have G:=m.og (p:=p);have H:=m.lane;have e:=m.procs;refine ⟨by have:=pm.pc;omega,pm.mS,pm.cur,λl a=> ?_⟩;obtain ⟨i,f,n⟩:=List.getElem_of_mem a;have d:(s.proc p).aj[i]? =some l:=by grind
  obtain ⟨a1,a2,a3,_⟩:=pm.dS i l d;obtain ⟨b,j,o⟩:=g.dS p hp i l d;have B:∀w∈l.waiters,0<=w.proc/\w.proc<(nQ c:Int):=λw A=>by obtain ⟨r,t,_⟩:=o w A;omega
  have y:=wI (nQ c) (l.waiters.map (·.proc)) b λx I=>by grind
  rw [List.length_map] at y;exact ⟨by omega,by omega,a2,a3,b,B⟩
 part:=λi f=>by
  have pm:=g.part i f;have u:=m.log;have D:=m.ae;have E:=m.procs;have F:(dT c i).length<=nQ c:=by have u:(dT c i).length<=(List.range (nQ c)).length:=List.length_filter_le ..;grind
  have e:∀q∈(s.part i).av,q.Nodup/\∀z∈q,0<=z/\z<(nQ c:Int):=λq a=>by
   obtain ⟨k,v,n⟩:=List.getElem_of_mem a;have d:(s.part i).av[k]? =some q:=by rw [List.getElem?_eq_getElem v,n]
   obtain ⟨b,j,_⟩:=g.jf i f k q d;exact ⟨b,λz C=>by obtain ⟨r,t,_⟩:=j z C;omega⟩
  refine ⟨⟨pm.cur.1,?_⟩,by have:=pm.kG;omega,pm.lost,pm.me,by have:=pm.ij;have:=pm.jg;omega,pm.jg,⟨by have:=pm.jg;omega,λq a=> ?_⟩,e⟩
  ·by_cases h:0<(s.part i).ah
   ·have:=pm.cur.2 h;omega
   ·omega
  ·have:=wI (nQ c) q (e q a).1 (e q a).2;omega
theorem SQ {i t:Nat} (g:t<(dT c i).length) (j:∀k,k<t->(s.proc ((dT c i).getD (((s.part i).ah.toNat+k)%(dT c i).length) 0)).state≠0) (h:(s.proc ((dT c i).getD (((s.part i).ah.toNat+t)%(dT c i).length) 0)).state=0):
  iY c s i=some (((s.part i).ah.toNat+t)%(dT c i).length):=by
 unfold iY;have e:List.range (dT c i).length=List.range t++(t::(List.range (dT c i).length).drop (t+1)):=by
  have a:(List.range (dT c i).length)[t]? =some t:=List.getElem?_range g;obtain ⟨b,d⟩:=List.getElem?_eq_some_iff.1 a;have f:List.take t (List.range (dT c i).length)=List.range t:=by rw [List.take_range,Nat.min_eq_left (by omega)]
  calc List.range (dT c i).length=(List.range (dT c i).length).take t++(List.range (dT c i).length).drop t:=(List.take_append_drop t _).symm
   _=_:=by rw [f,List.drop_eq_getElem_cons b,d]
 grind
theorem SR {i:Nat} (a:∀k,k<(dT c i).length->(s.proc ((dT c i).getD (((s.part i).ah.toNat+k)%(dT c i).length) 0)).state≠0):iY c s i=none:=by unfold iY;grind
theorem Yj {D:Int->Int->Int->Int} {i a n:Nat} (h:iY c s i=some a):mo c D fl i (n+1) s=mo c D fl i n (jR c D fl s i a):=by
 have e:mo c D fl i (n+1) s=(match iY c s i with
  | none=>s
  | some a=>mo c D fl i n (jR c D fl s i a)):=rfl
 rw [e,h]
theorem Good.Bd (g:Good c fl s No No T) {p:Nat} (r:(s.proc p).state=0):(∀q,q<nQ c->∀l∈(s.proc q).aj,∀z∈l.waiters,z.proc≠(p:Int))/\∀i,i<nP c->∀q∈(s.part i).av,(p:Int)∉q:=by
 have h:Out s No No p:=xy ⟨by omega,by omega⟩;refine ⟨λq b l m w o e=> ?_,λi f q b n=> ?_⟩
 ·obtain ⟨i,f,d⟩:=List.getElem_of_mem m;have a:(s.proc q).aj[i]? =some l:=by grind
  exact ((g.dS q b i l a).2.2 w o).out h (by omega)
 ·obtain ⟨k,j,d⟩:=List.getElem_of_mem b;have a:(s.part i).av[k]? =some q:=by rw [List.getElem?_eq_getElem j,d]
  exact ((g.jf i f k q a).2.1 _ n).out h (by omega)
end
section
variable {h0 h1 k:Hp} {K:MK} {pm:Addr} {s:MS} {b:Nat->Nat->Int}
theorem SU {p:Int} {Q:Int->Hp->Prop} (m:dF h0 K) (l:cf K.c) (o:Has h0 (aF K pm s b) k) (q:jZ K.c s) (r:eR K.c b s) (d:∀i a,Has h0 (aF K pm (iD K.c s p).1 i) a->eR K.c i (iD K.c s p).1->Q (iD K.c s p).2 a):NC prog (some pm) p Q k:=by
 unfold NC;refine zka (Lm m o ?_);unfold iD at d;by_cases h:q9 K.c s p≠0
 ·grind
 rw [if_neg (by simpa using h)];rw [if_neg h] at d;obtain ⟨t,e,u⟩:=DU (Classical.not_not.1 h);have j:((p.toNat:Nat):Int)=p:=by omega
 obtain ⟨f,g⟩:=m.ptr o e;rw [j] at f g;refine aP (o.eV.ld (shf:=au) K.x.procs rfl ⟨f,some (K.p p.toNat),g,?_⟩);exact zle (MM m l o q e λa n=>d _ a n (r.ended e))
theorem Xt {t:Int} {Q:Int->Hp->Prop} (m:dF k K) (u:cf K.c) (o:0<=t) (f:Q (iT K.c t:Int) k):Wd prog (some K.sl) t Q k:=by
 unfold Wd;obtain ⟨sl,n,h,e⟩:=m.s2;have g:=u.table;have q:=e.1;have r:0<K.c.table.length:=List.length_pos_iff.2 g.1;have ld:∀ {a:Sl->Prop},a sl->aR none au k (K.sl.add 0) a:=λ{a} p=>⟨sl,λj v hv=>by
  cases j with
  | zero=>have:=h 0 v (by simpa [bp,Sl.v] using hv);rw [tF];exact this
  | succ j=>simp [bp] at hv,p⟩
 rw [if_neg (by simp;omega)];refine aP (ld (aP (ld ⟨by omega,?_⟩)));have l:Int.tmod t ((sl.len:Nat):Int)=((t.toNat%K.c.table.length:Nat):Int):=by rw [Int.tmod_eq_emod_of_nonneg o,q,Int.natCast_emod];congr 1;omega
 rw [l];have w:t.toNat%K.c.table.length<K.c.table.length:=Nat.mod_lt _ r;refine pF (sh:=af .i64) e λ(x:Int) d=> ?_;rw [Int.toNat_natCast] at d;unfold iT at f;have i:K.c.table.getD (t.toNat%K.c.table.length) 0=x:=by simp [List.getD,d]
 rw [i] at f;have:=g.2.2 x (List.mem_of_getElem? d);grind
theorem SW {Q:Int->Hp->Prop} (tk:yM) (m:dF h0 K) (l:cf K.c) (o:Has h0 (aF K pm s b) k) (g:Good K.c (iO K.c) s No No s.tick) (ht:s.tick<4611686018427387904) (td:eR K.c b s)
  (P:∀r u,Has h0 (aF K pm (jy K.c fW (iO K.c) s) r) u->eR K.c r (jy K.c fW (iO K.c) s)->Q (iT K.c s.tick:Int) u):NB prog (some pm) Q k:=by
 unfold NB;have b4:=g.tick;have d8:=l.fuel;have n:=l.jN (t:=s.tick);have d9:=l.procs;refine aP (o.eV.ld (shf:=ag) K.x.ui rfl ?_);refine aP (o.eV.ld (shf:=af .i64) s.tick rfl ?_);rw [m.s1];refine zxj (Xt (m.mono o.le) l b4 ?_);have b2:jy K.c fW (iO K.c) s=⟨(mo K.c fW (iO K.c) (iT K.c s.tick) K.c.fuel.toNat (iv K.c s (iT K.c s.tick))).tick+1,(mo K.c fW (iO K.c) (iT K.c s.tick) K.c.fuel.toNat (iv K.c s (iT K.c s.tick))).part,(mo K.c fW (iO K.c) (iT K.c s.tick) K.c.fuel.toNat (iv K.c s (iT K.c s.tick))).proc⟩:=rfl;rw [b2] at P;generalize iT K.c s.tick=i at*;obtain ⟨g1,g2⟩:=m.uM o n;refine aP (o.eV.ld (shf:=au) K.x.parts rfl ⟨g1,some (K.q i),g2,?_⟩);have gd:=(g.rZ (T':=s.tick+1) (by omega)).due (i:=i);refine zus (UX m l o (g.qU l) n td λd1 k1 Y c8=> ?_);have a9:K.x.lY=K.c.fuel:=m.cfg.fuel;have H:(iv K.c s i).tick=s.tick:=rfl;generalize iv K.c s i=s1 at*;refine aP ?_;rw [tF];refine Y.eV.ld (shf:=af .i64) K.x.lY rfl ?_;rw [a9];obtain ⟨d5,d0⟩:=Good.turns (D:=fW) l n K.c.fuel.toNat gd (by rw [H]);refine cL.intro (λu=>∃r,Has h0 (aF K pm (mo K.c fW (iO K.c) i K.c.fuel.toNat s1) r) u/\eR K.c r (mo K.c fW (iO K.c) i K.c.fuel.toNat s1)) ?_ ?_
 ·refine aA.intro (λ(t:Int) u=>0<=t/\t<=K.c.fuel/\∃d r,Has h0 (aF K pm d r) u/\eR K.c r d/\Good K.c (iO K.c) d No No (s.tick+1)/\d.tick=s.tick/\mo K.c fW (iO K.c) i (K.c.fuel-t).toNat d=mo K.c fW (iO K.c) i K.c.fuel.toNat s1) (λt _=>(K.c.fuel-t).toNat) ⟨by omega,by omega,s1,d1,Y,c8,gd,H,by rw [Int.sub_zero]⟩ ?_;rintro t u ⟨t0,t1,d,r,y,c7,F,O,A⟩;by_cases h:t<K.c.fuel
  ·rw [if_pos (decide_eq_true h)];have S:=(m.own i n).mono y.le;have J:=S.1;rw [List.length_map] at J;have d7:(dT K.c i).length<=1000:=by have h1:(dT K.c i).length<=(List.range (nQ K.c)).length:=List.length_filter_le ..;grind
   have en:(K.c.fuel-t).toNat=(K.c.fuel-(t+1)).toNat+1:=by omega
   rw [en] at A;have si:=(F.qU l).part i n;have d6:=si.cur;obtain ⟨h3,x,lp,wp,l3,U,C,_⟩:=y.ug n;have E:x.procs=K.own i:=U.1;have ec:x.ah=(d.part i).ah:=U.2.1;refine aP (C.ld (shf:=au) x.procs rfl ?_);rw [E];refine aA.intro (λ(j:Int) W=>W=u/\0<=j/\j<=((dT K.c i).length:Int)/\∀B,B<j.toNat->(d.proc ((dT K.c i).getD (((d.part i).ah.toNat+B)%(dT K.c i).length) 0)).state≠0) (λj _=>((dT K.c i).length-j).toNat) ⟨rfl,by omega,by omega,λB b8=>by omega⟩ ?_;rintro j _ ⟨rfl,j0,j1,R⟩;by_cases hj:j<((dT K.c i).length:Int)
   ·rw [if_pos (iV)];refine aP (C.ld (shf:=af .i64) x.ah rfl ?_);refine aP (C.ld (shf:=au) x.procs rfl ?_);rw [E,ec];have b5:Int.tmod (yw ((d.part i).ah+j)) (((K.own i).len:Nat):Int)=((((d.part i).ah.toNat+j.toNat)%(dT K.c i).length:Nat):Int):=by rw [aT,Int.tmod_eq_emod_of_nonneg (by omega),J,Int.natCast_emod];grind
    rw [b5];have I:((d.part i).ah.toNat+j.toNat)%(dT K.c i).length<(dT K.c i).length:=Nat.mod_lt _ (by omega);refine ⟨by omega,?_⟩;refine aP (y.eV.ld (shf:=au) K.x.procs rfl ?_);refine aP (C.ld (shf:=au) x.procs rfl ?_);rw [E];generalize ha:((d.part i).ah.toNat+j.toNat)%(dT K.c i).length=a at I ⊢;refine Rs.get (sh:=af .i64) S (λ_=>rfl) (by omega) (by omega) (by grind) λ(q':Int) v=> ?_;rw [Int.toNat_natCast,List.getElem?_map] at v;have b7:=List.getElem?_eq_getElem I;rw [b7] at v;have v:((dT K.c i)[a]:Int)=q':=Option.some.inj v;have b0:(dT K.c i).getD a 0=(dT K.c i)[a]:=by grind
    have L:(dT K.c i)[a]∈dT K.c i:=List.getElem_mem I;rw [<-b0] at v L;generalize c1:(dT K.c i).getD a 0=q at v L;subst v;obtain ⟨G,c0⟩:=fS.1 L;obtain ⟨g5,g6⟩:=m.ptr y G;refine ⟨g5,some (K.p q),g6,?_⟩;obtain ⟨h4,z,ad,l4,hz,oz,_⟩:=y.dC G;refine aP (oz.ld (shf:=af .i64) z.state rfl ?_);have b1:z.state=(d.proc q).state:=hz.2.2.2.1;rw [b1];by_cases M:(d.proc q).state=0
    ·rw [if_pos (by rw [M];rfl)];refine aP (C.ld (shf:=au) x.procs rfl ?_);rw [E];have b6:Int.tmod (yw (((a:Nat):Int)+1)) (((K.own i).len:Nat):Int)=((a+1:Nat):Int)%((dT K.c i).length:Int):=by rw [aT,Int.tmod_eq_emod_of_nonneg (by omega),J];congr 1
     rw [b6];refine ⟨by omega,?_⟩;have T:iY K.c d i=some a:=by
      have:=SQ (c:=K.c) (s:=d) (i:=i) (t:=j.toNat) (by omega) R (by grind)
      rwa [ha] at this
     obtain ⟨h6,f,e1,e3,l6,V,c4,c5⟩:=y.ug n;refine aP (c4.st (⟨f.procs,((a+1:Nat):Int)%((dT K.c i).length:Int),f.log,f.lost,f.forbidden,f.ae,f.dY⟩:bg) (by show 1+1<=7;omega) rfl λX N=> ?_);have o4:=c5 (⟨f.procs,((a+1:Nat):Int)%((dT K.c i).length:Int),f.log,f.lost,f.forbidden,f.ae,f.dY⟩:bg) {d.part i with ah:=((a+1:Nat):Int)%((dT K.c i).length:Int)} _ ⟨V.1,rfl,V.2.2⟩ rfl rfl rfl rfl N;have w:=F.part i n;have gc:Good K.c (iO K.c) (d.dh i {d.part i with ah:=((a+1:Nat):Int)%((dT K.c i).length:Int)}) No No (s.tick+1):=by refine F.parts ⟨⟨Int.emod_nonneg _ (by omega),λ_=>Int.emod_lt_of_pos _ (by omega)⟩,w.kG,w.log,w.lost,w.me,w.full,w.ij,w.jg⟩ rfl rfl
     obtain ⟨c2,c3⟩:=gc.Bd (p:=q) M;have gt:=F.Bt (D:=fW) l n (by rw [O]) T;have d4:(jR K.c fW (iO K.c) d i a).tick=d.tick:=DZ;have b3:jR K.c fW (iO K.c) d i a=tU K.c fW (iO K.c) (d.dh i {d.part i with ah:=((a+1:Nat):Int)%((dT K.c i).length:Int)}) q:=by unfold jR;rw [c1]
     refine ztv (SN tk m l o4 (gc.qU l) G (by show 0<=d.tick/\d.tick<=_;rw [O];omega) (gc.proc q G).bw c2 (c3 _ (by rw [c0];exact n)) (c7.bK rfl) λd3 k5 o5 a8=> ?_);rw [<-b3] at o5 a8;rw [aT];refine ⟨⟨by omega,by omega,_,d3,o5,a8,gt,by omega,?_⟩,by omega⟩;rw [<-A];exact (Yj T).symm
    ·rw [if_neg (by simpa using M),aT];grind
   ·rw [if_neg (λe=>hj (by have:=of_decide_eq_true e;omega))];have b9:=SR (c:=K.c) (s:=d) (i:=i) λB b8=>R B (by omega);have e2:mo K.c fW (iO K.c) i ((K.c.fuel-(t+1)).toNat+1) d=d:=by unfold mo;rw [b9]
    grind
  ·rw [if_neg (λe=>h (of_decide_eq_true e))];have e0:(K.c.fuel-t).toNat=0:=by omega
   rw [e0] at A;have A:d=_:=A;grind
 ·rintro W ⟨d2,Z,c9⟩;rw [H] at d0;generalize mo K.c fW (iO K.c) i K.c.fuel.toNat s1=s2 at*;refine aP (Z.eV.ld (shf:=af .i64) s2.tick rfl ?_);obtain ⟨h7,l7,o7,_,c6⟩:=Z.fst;rw [aT];refine aP (o7.st (rX K.x (s2.tick+1)) (by show 9+1<=12;omega) rfl λX N=> ?_);exact P d2 X (c6 _ _ N) c9
end
section
variable {c:aE} {fl:Nat->Nat->Bool} {s:MS} {T:Int}
theorem jK {i:Nat} {x:dv}:(s.list c).parts[i]? =some x↔i<nP c/\x=s.part i:=by
 show ((List.range (nP c)).map s.part)[i]? =some x↔_;rw [List.getElem?_map];by_cases h:i<nP c
 ·rw [List.getElem?_range h];constructor
  ·intro e;exact ⟨h,(Option.some.inj e).symm⟩
  ·rintro ⟨_,rfl⟩;rfl
 ·rw [List.getElem?_eq_none (by rw [List.length_range];omega)];constructor
  ·intro e;cases e
  ·intro e;exact absurd e.1 h
theorem iR {i:Nat} {x:ak}:(s.list c).procs[i]? =some x↔i<nQ c/\x=s.proc i:=by
 show ((List.range (nQ c)).map s.proc)[i]? =some x↔_;rw [List.getElem?_map];by_cases h:i<nQ c
 ·rw [List.getElem?_range h];constructor
  ·intro e;exact ⟨h,(Option.some.inj e).symm⟩
  ·rintro ⟨_,rfl⟩;rfl
 ·rw [List.getElem?_eq_none (by rw [List.length_range];omega)];constructor
  ·intro e;cases e
  ·intro e;exact absurd e.1 h
theorem ve (m:cf c) {p:Nat} (hp:p<nQ c):∃y,c.procs[p]? =some y/\y.part=(az c p:Int)/\y.code=gF c p:=by
 have h:=List.getElem?_eq_getElem (show p<c.procs.length from hp);refine ⟨_,h,?_,?_⟩
 ·have:=m.part _ (List.mem_of_getElem? h);unfold az;rw [h];simp;omega
 ·unfold gF;rw [h];rfl
theorem wW {y:fG} {p:Nat} {x:ak} (h:y.code=gF c p):rI y x.pc=dP c p x:=by unfold rI dP ie;rw [h]
theorem vg (m:cf c) {p:Int} {i:Nat}:EI c p i↔0<=p/\p.toNat<nQ c/\az c p.toNat=i:=by
 unfold EI;constructor
 ·rintro ⟨d,y,b,f⟩;have hp:p.toNat<nQ c:=(List.getElem?_eq_some_iff.1 b).1;obtain ⟨g,a,e,_⟩:=ve m hp;rw [b] at a;cases a;exact ⟨d,hp,by omega⟩
 ·rintro ⟨d,b,f⟩;obtain ⟨g,a,e,_⟩:=ve m b;exact ⟨d,g,a,by rw [e,f]⟩
theorem IE (m:cf c) {i:Nat}:vS c i=(dT c i).length:=by
 have e:c.procs=(List.range c.procs.length).map λq=>c.procs.getD q ⟨0,[]⟩:=by
  refine List.ext_getElem? λj=> ?_;rw [List.getElem?_map];by_cases h:j<c.procs.length
  ·rw [List.getElem?_range h,List.getElem?_eq_getElem h];simp [List.getD,List.getElem?_eq_getElem h]
  ·rw [List.getElem?_eq_none (by omega),List.getElem?_eq_none (by rw [List.length_range];omega)];rfl
 unfold vS dT;rw [e,List.filter_map,List.length_map];congr 1;refine List.filter_congr λq a=> ?_;have a:q<nQ c:=List.mem_range.1 a;obtain ⟨y,b,d,_⟩:=ve m a;have f:c.procs.getD q ⟨0,[]⟩=y:=by simp [List.getD,b]
 show decide ((c.procs.getD q ⟨0,[]⟩).part=(i:Int))=decide (az c q=i);rw [f,d];by_cases h:az c q=i
 ·rw [decide_eq_true h,iV]
 ·rw [decide_eq_false h,decide_eq_false (by omega)]
theorem JA (m:cf c) {i:Nat} {st:fT} (j:st.tick=T):∀ {l:List qY} {last:Int},l.Pairwise (λa b=>a.tick<=b.tick)->(∀e∈l,last<=e.tick/\e.tick<T/\0<=e.proc/\e.proc.toNat<nQ c/\az c e.proc.toNat=i)->xI c st i last l
 | [],_,_,_=>trivial
 | e::r,last,h,g=>by obtain ⟨k,n⟩:=List.pairwise_cons.1 h;obtain ⟨a1,a2,a3⟩:=g e (List.mem_cons_self ..);refine ⟨a1,by rw [j];exact a2,(vg m).2 a3,JA m j n λd f=>⟨k d f,(g d (List.mem_cons_of_mem _ f)).2⟩⟩
theorem Lr {l:List Int} {z:Int} (nd:l.Nodup) (h:z∈l):l.countP (λy=>decide (y=z))=1:=by
 induction l with
 | nil=>cases h
 | cons a l d=>
  rw [List.nodup_cons] at nd;rw [List.countP_cons];rcases List.mem_cons.1 h with rfl | h
  ·have:l.countP (λy=>decide (y=z))=0:=by rw [List.countP_eq_zero];intro y b;simp;exact λe=>nd.1 (e▸b)
   rw [this];simp
  ·rw [d nd.2 h];have:a≠z:=λe=>nd.1 (e▸h);simp [this]
theorem EZ {l:List Int} {z:Int} (h:z∉l):l.countP (λy=>decide (y=z))=0:=by rw [List.countP_eq_zero];intro y a;simp;exact λe=>h (e▸a)
theorem Dh {p:Int} {x:dv} (h:∀q∈x.av,p∉q):nE p x=0:=by unfold nE;rw [List.sum_eq_zero_iff_forall_eq_nat];intro y b;obtain ⟨q,a,rfl⟩:=List.mem_map.1 b;exact EZ (h q a)
theorem wX {p:Int} {l:bq}:vC p l=(l.waiters.map (·.proc)).countP λy=>decide (y=p):=by unfold vC;rw [List.countP_map];rfl
theorem Di {p:Int} {x:ak} (h:∀l∈x.aj,∀w∈l.waiters,w.proc≠p):nD p x=0:=by unfold nD;rw [List.sum_eq_zero_iff_forall_eq_nat];intro y f;obtain ⟨l,a,rfl⟩:=List.mem_map.1 f;rw [wX];refine EZ λb=> ?_;obtain ⟨w,d,e⟩:=List.mem_map.1 b;exact h l a w d e
end
section
variable {c:aE} {fl:Nat->Nat->Bool} {s:MS} {T:Int}
theorem Ls {i:Nat} (h:i<nP c):(s.list c).parts[i]? =some (s.part i):=jK.2 ⟨h,rfl⟩
theorem yq {i:Nat} (h:i<nQ c):(s.list c).procs[i]? =some (s.proc i):=iR.2 ⟨h,rfl⟩
theorem UZ {p:Int} (h:p.toNat<nQ c) {q:ak->Prop} (a:q (s.proc p.toNat)):O7 (s.list c) p q:=⟨_,yq h,a⟩
theorem Af (m:cf c) {p:Int} (h:p.toNat<nQ c) {n:cX} (d:dP c p.toNat (s.proc p.toNat)=some n) {q:ak->cX->Prop} (e:q (s.proc p.toNat) n):Nf c (s.list c) p q:=by obtain ⟨y,a,f,b⟩:=ve m h;exact ⟨_,y,n,yq h,a,by rw [wW b];exact d,e⟩
theorem IH {r:List Int} {i v:Int} (d:r.length=8) (b:0<=i/\i<8) (h:fA r i=v):r[i.toNat]? =some v:=by
 have a:i.toNat<r.length:=by omega
 rw [List.getElem?_eq_getElem a,<-h];unfold fA;grind
theorem Good.waits (m:cf c) (g:Good c fl s No No T):Jg c (s.list c):=by
 refine ⟨λi x a k q hq p hp=> ?_,λr x y a M i l hl w Y=> ?_,λp x a=> ?_⟩
 ·obtain ⟨z,rfl⟩:=jK.1 a;obtain ⟨b1,R,S⟩:=g.jf i z k q hq;obtain ⟨a1,a2,a3,_,a5⟩:=R p hp;obtain ⟨a5,n,a6,a7,E⟩:=a5.resolve_left (λh=>h);obtain ⟨o,t,u,O⟩:=S (List.ne_nil_of_mem hp);refine ⟨(vg m).2 ⟨a1,a2,a3⟩,Af m a2 a6 ⟨a5,E⟩,o,t,?_,λe=>O (e▸hp)⟩;rcases g.own i z k o t with h | h
  ·exact absurd h u
  ·exact h.1
 ·obtain ⟨G,rfl⟩:=iR.1 a;obtain ⟨y',f1,f2,f3⟩:=ve m G;rw [M] at f1;cases f1;obtain ⟨b1,R,S⟩:=g.dS r G i l hl;obtain ⟨c1,c2,c3⟩:=R (List.ne_nil_of_mem Y);obtain ⟨a1,a2,a3,_,a5⟩:=S w Y;obtain ⟨a5,n,a6,a7,E,a9⟩:=a5.resolve_left (λh=>h);have b0:=dm.1 (c2.resolve_right (λh=>h));have X:=(g.proc _ a2).bw;have Z:=YW (m.ins a6).1 a7;exact ⟨by rw [f2,c1],(vg m).2 ⟨a1,a2,a3⟩,b0,c3,Af m a2 a6 ⟨a5,a7,IH X Z.2.1 E,IH X Z.2.2 a9⟩⟩
 ·obtain ⟨hp,rfl⟩:=iR.1 a;have b4:((s.list c).parts.map (nE (p:Int))).sum=if (s.proc p).state=3 then 1 else 0:=by
   by_cases Q:(s.proc p).state=3
   ·rw [if_pos Q];obtain ⟨k,q,t,u⟩:=g.sM p hp (λh=>h) Q;have z:=m.fi (p:=p);rw [wC (nE (p:Int)) _ (az c p) λj x a J=> ?_,Ls z]
    ·show nE (p:Int) (s.part (az c p))=1;unfold nE;rw [wC _ _ k λj D K J=> ?_,t]
     ·exact Lr (g.jf _ z k q t).1 u
     ·refine EZ λB=> ?_;obtain ⟨_,_,_,_,a5⟩:=(g.jf _ z j D K).2.1 _ B;obtain ⟨_,n1,a6,_,E⟩:=a5.resolve_left (λh=>h);obtain ⟨_,_,_,_,U⟩:=(g.jf _ z k q t).2.1 _ u;obtain ⟨_,n2,F,_,W⟩:=U.resolve_left (λh=>h);rw [a6] at F;cases F;omega
    ·obtain ⟨d,rfl⟩:=jK.1 a;refine Dh λD K B=> ?_;obtain ⟨f,A,b⟩:=List.getElem_of_mem K;have v:(s.part j).av[f]? =some D:=by rw [List.getElem?_eq_getElem A,b]
     have:=((g.jf j d f D v).2.1 _ B).2.2.1;rw [Int.toNat_natCast] at this;exact J this.symm
   ·rw [if_neg Q,List.sum_eq_zero_iff_forall_eq_nat];intro y M;obtain ⟨x,a,rfl⟩:=List.mem_map.1 M;obtain ⟨j,d,b⟩:=List.getElem_of_mem a;have V:(s.list c).parts[j]? =some x:=by rw [List.getElem?_eq_getElem d,b]
    obtain ⟨d,rfl⟩:=jK.1 V;refine Dh λD K B=> ?_;obtain ⟨f,A,b⟩:=List.getElem_of_mem K;have v:(s.part j).av[f]? =some D:=by rw [List.getElem?_eq_getElem A,b]
    obtain ⟨_,_,_,_,a5⟩:=(g.jf j d f D v).2.1 _ B;have:=(a5.resolve_left (λh=>h)).1;rw [Int.toNat_natCast] at this;exact Q this
  have b7:((s.list c).procs.map (nD (p:Int))).sum=if (s.proc p).state=2 then 1 else 0:=by
   by_cases P:(s.proc p).state=2
   ·rw [if_pos P];obtain ⟨r,G,l,t,w,u,O⟩:=g.sL p hp (λh=>h) P;obtain ⟨d1,d2,d3⟩:=g.dS r G _ l t;obtain ⟨_,_,_,_,U⟩:=d3 w u;obtain ⟨_,n2,F,_,W,_⟩:=U.resolve_left (λh=>h);rw [O,Int.toNat_natCast] at F W;rw [wC (nD (p:Int)) _ r λj x a J=> ?_,yq G]
    ·show nD (p:Int) (s.proc r)=1;unfold nD;rw [wC _ _ (az c p) λj C I J=> ?_,t]
     ·show vC (p:Int) l=1;rw [wX];exact Lr d1 (List.mem_map.2 ⟨w,u,O⟩)
     ·rw [wX];refine EZ λB=> ?_;obtain ⟨N,L,H⟩:=List.mem_map.1 B;have:=((g.dS r G j C I).2.2 N L).2.2.1;rw [H,Int.toNat_natCast] at this;exact J this.symm
    ·obtain ⟨d,rfl⟩:=iR.1 a;refine Di λC I N L H=> ?_;obtain ⟨f,A,b⟩:=List.getElem_of_mem I;have v:(s.proc j).aj[f]? =some C:=by rw [List.getElem?_eq_getElem A,b]
     obtain ⟨_,_,_,_,a5⟩:=(g.dS j d f C v).2.2 N L;obtain ⟨_,n1,a6,_,E,_⟩:=a5.resolve_left (λh=>h);rw [H,Int.toNat_natCast] at a6 E;rw [a6] at F;cases F;omega
   ·rw [if_neg P,List.sum_eq_zero_iff_forall_eq_nat];intro y M;obtain ⟨x,a,rfl⟩:=List.mem_map.1 M;obtain ⟨j,d,b⟩:=List.getElem_of_mem a;have V:(s.list c).procs[j]? =some x:=by rw [List.getElem?_eq_getElem d,b]
    obtain ⟨d,rfl⟩:=iR.1 V;refine Di λC I N L H=> ?_;obtain ⟨f,A,b⟩:=List.getElem_of_mem I;have v:(s.proc j).aj[f]? =some C:=by rw [List.getElem?_eq_getElem A,b]
    obtain ⟨_,_,_,_,a5⟩:=(g.dS j d f C v).2.2 N L;have:=(a5.resolve_left (λh=>h)).1;rw [H,Int.toNat_natCast] at this;exact P this
  grind
theorem Good.may (m:cf c) (g:Good c fl s No No s.tick) (q:s.tick<=4611686018427387904):vp c (s.list c) λi y=>fl i y.toNat=true:=by
 refine ⟨⟨⟨g.tick,q⟩,?_,?_⟩,λi x d=> ?_,λp x y d t=> ?_,g.waits m⟩
 ·show ((List.range (nP c)).map s.part).length=_;rw [List.length_map,List.length_range];rfl
 ·show ((List.range (nQ c)).map s.proc).length=_;rw [List.length_map,List.length_range];rfl
 ·obtain ⟨b,rfl⟩:=jK.1 d;have pm:=g.part i b;refine ⟨⟨pm.cur.1,by rw [IE m];exact pm.cur.2,pm.kG⟩,JA m rfl pm.log.1 λe f=>pm.log.2 e f,pm.lost,pm.me,pm.full,pm.ij,pm.jg,λp hp o=> ?_⟩;obtain ⟨k,u,f⟩:=List.getElem_of_mem hp;have j:(s.part i).aB[k]? =some p:=by grind
  rcases g.own i b k p j with h | ⟨a1,a2,a3,a4⟩
  ·exact absurd h o
  ·exact ⟨(vg m).2 ⟨a1,a2,a3⟩,UZ a2 (dm.1 (a4.resolve_right (λh=>h)))⟩
 ·obtain ⟨hp,rfl⟩:=iR.1 d;obtain ⟨v,f1,f2,f3⟩:=ve m hp;rw [t] at f1;cases f1;have pm:=g.proc p hp;have a:rI y (s.proc p).pc=dP c p (s.proc p):=wW f3;refine ⟨pm.st,by rw [f3];exact pm.pc,pm.mS,pm.cur,pm.nO,pm.nR,pm.pe.resolve_left (λh=>h),λh=>⟨(pm.dead h).1.resolve_left (λh=>h),(pm.dead h).2⟩,λi l n=> ?_,λh=> ?_,λh=> ?_,λh=> ?_,λh=> ?_⟩
  ·obtain ⟨a1,a2,a3,a4⟩:=pm.dS i l n;refine ⟨a1,a2,a3,λr b=> ?_⟩;rw [f2];show fl i ((az c p:Nat):Int).toNat=true;rw [Int.toNat_natCast];exact a4 r b
  ·rw [a];exact pm.recv h
  ·rw [a];exact pm.snd h
  ·rw [a];exact pm.qO h
  ·rw [a];exact pm.jQ h
end
abbrev xJ (l:Sl) (a:List dv):dI:=jT (bM.ok (sh:=cg) (sz:=6) xd) l a
abbrev vw (l:Sl) (a:List ak):dI:=jT (bM.ok (sh:=bB) (sz:=15) M5) l a
section
variable {h0 h1 k:Hp} {K:MK} {pm:Addr} {s:MS} {g:Nat->Nat->Int}
def toE (e:qY):fc:=⟨e.tick,e.proc,e.value⟩
theorem Xu {i:Nat} {Ps:Sl} {ps:List dv} {rest:Sl->Hp->Prop} (mc:cf K.c) (o:Has h0 ((aF K pm s g).star (xJ Ps ps)) k) (sa:jZ K.c s) (I:i<nP K.c) (c4:ps.length<=1000)
  (hk:∀z j,Has h0 ((aF K pm s g).star (xJ z (ps++ [s.part i]))) j->rest z j):
 ai none (some (K.q i)) λp2=>
 aR none ag k (Addr.add p2 5) λx3=>
 bu prog NH [(.pointer x3)] au au (λr N l=>
 ai none (some (K.q i)) λp3=>
 aR none (af .i64) l (Addr.add p3 1) λw=>
 ai none (some (K.q i)) λp4=>
 aR none au l (Addr.add p4 2) λx5=>
 ai none (some (K.q i)) λp5=>
 aR none (af .i64) l (Addr.add p5 3) λx6=>
 ai none (some (K.q i)) λp6=>
 aR none (af .i64) l (Addr.add p6 4) λx7=>
 aa prog If [x5.v] au (λr2 m=>
 ((True/\((bf m (Addr.add p3 1) [(.int .i64 w)])/\((bf m (Addr.add p5 3) [(.int .i64 x6)])/\((bf m (Addr.add p6 4) [(.int .i64 x7)])/\True))))/\bh [(.int .i64 w),r2.v,(.int .i64 x6),(.int .i64 x7),r.v,N.v] (λa G=>
 ((True/\True)/\fu 6 96 [(.int .i64 (0:Int)),(.slice none 0 0),(.int .i64 (0:Int)),(.int .i64 (0:Int)),(.slice none 0 0),(.slice none 0 0)] ⟨Ps.base,Ps.len,Ps.cap⟩ ⟨(some a),1,1⟩ (λO h5=>
 rest O h5) G)) m)) l) k:=by
  have A:=sa.part i I;obtain ⟨V,lA,oM,_,gI⟩:=o.fst;obtain ⟨m,w,b0,c7,l4,a9,b8,ol,c0⟩:=oM.rO I;have el:w.ae=some b0:=a9.2.2.2.2.1;refine aP (b8.ld (shf:=ag) w.ae rfl ?_);rw [el];refine zxi (Zt ol ⟨by have:=A.mR.1;omega,A.mR.2⟩ A.ij λP Q W o2=> ?_);have Y:Has V ((aF K pm s g).star ((uH P (s.part i).aB).star (xK Q (s.part i).av))) W:=o2.carry λj L=>by
   have G:=c0 _ _ j L;have e:s.dh i {s.part i with aB:=(s.part i).aB,av:=(s.part i).av}=s:=Df
   rwa [e] at G
  obtain ⟨hB,lB,b5,⟨F3,c2,c1⟩,c6⟩:=Y.fst;obtain ⟨h6,x,lp,wp,l6,J,u,b7,_⟩:=b5.FT I;refine aP (u.ld (shf:=af .i64) x.ah rfl ?_);refine aP (u.ld (shf:=au) x.log rfl ?_);refine aP (u.ld (shf:=af .i64) x.lost rfl ?_);refine aP (u.ld (shf:=af .i64) x.forbidden rfl ?_);refine zdo ?_;unfold Qu;have c3:=A.kG;refine xA (bG.bO 83 Bz rfl) (b7.kM (λ_=>rfl)) (by decide) (λ_=>rfl) (λ_=>rfl) rfl ⟨by omega,by omega⟩ λR X a8 n3=> ?_;have M:=u.grow a8;refine ⟨⟨trivial,M.fb (n:=1) rfl,M.fb (n:=1) rfl,M.fb (n:=1) rfl,trivial⟩,?_⟩;have b1:Has W (jT (bM.ok (sh:=dK) (sz:=3) (fp.ok λx p=>AR x=p)) R (s.part i).log) X:=n3.jO (f:=toE) (λ_=>rfl) λ_=>rfl;have Z:=Y.beside b1;have b6:Has V ((aF K pm s g).star (jT xd (⟨x.ah,R,x.lost,x.forbidden,P,Q⟩:cc) (s.part i))) X:=by
   obtain ⟨hC,lC,c5,_,_⟩:=Z.assoc.fst;refine Z.assoc.map λkk F hF=> ?_;refine zm (λ_ h=>h) (λF' h=> ?_) hF;obtain ⟨F1,F2,e,d,⟨F4,F5,B,d',⟨T,r2,b3,D⟩,⟨U,O,b4,E⟩⟩,⟨S,N,b2,C⟩⟩:=h;refine ⟨S++(T++U),⟨S,T,U,rfl,N,r2,O,J.2.1,J.2.2.1,J.2.2.2.1⟩,?_,λb=> ?_⟩
   ·rw [List.nodup_append,List.nodup_append];refine ⟨b2,⟨b3,b4,λa y b hb H=> ?_⟩,λa y b hb H=> ?_⟩
    ·subst H;exact d' a ((D a).2 y) ((E a).2 hb)
    ·subst H;rcases List.mem_append.1 hb with hb | hb
     ·exact d a ((B a).2 (.inl ((D a).2 hb))) ((C a).2 y)
     ·exact d a ((B a).2 (.inr ((E a).2 hb))) ((C a).2 y)
   ·rw [e b,B b,C b,D b,E b,List.mem_append,List.mem_append];constructor
    ·rintro ((h | h) | h)
     ·exact .inr (.inl h)
     ·exact .inr (.inr h)
     ·exact .inl h
    ·rintro (h | h | h)
     ·exact .inr h
     ·exact .inl (.inl h)
     ·exact .inl (.inr h)
  have oF:=(gI _ _ b6).assoc;obtain ⟨hD,lD,oD,_,b9⟩:=oF.snd;have key:=oD.comm.row (cs:=[(.int .i64 x.ah),R.v,(.int .i64 x.lost),(.int .i64 x.forbidden),P.v,Q.v]) (zero:=[(.int .i64 (0:Int)),(.slice none 0 0),(.int .i64 (0:Int)),(.int .i64 (0:Int)),(.slice none 0 0),(.slice none 0 0)]) (bytes:=96) rfl (λ_=>rfl) (λ_=>rfl) rfl ⟨by omega,by omega⟩ (K:=rest) λz j L=>hk z j (b9 _ _ L);exact λb t hb=>⟨⟨trivial,trivial⟩,key b t hb⟩
theorem Xv {c:aE} {p:Nat} (hp:p<nQ c):nU c s (az c p) (2*p)=(s.proc p).timer:=by unfold nU;grind
theorem Yl {c:aE} {p:Nat} (hp:p<nQ c):nU c s (az c p) (2*p+1)=(s.proc p).cv:=by unfold nU;grind
theorem Xw {p:Nat} {Ps:Sl} {ps:List ak} {rest:Sl->Hp->Prop} (m:dF h0 K) (R:cf K.c) (o:Has h0 ((aF K pm s g).star (vw Ps ps)) k) (sa:jZ K.c s) (td:eR K.c g s) (hp:p<nQ K.c) (c7:ps.length<=1000)
  (hk:∀M y,Has h0 ((aF K pm s g).star (vw M (ps++ [s.proc p]))) y->rest M y):
 ai none (some (K.p p)) λp3=>
 aR none ag k (Addr.add p3 14) λx4=>
 bu prog NP [(.pointer x4)] au (af .i64) (λr r1 C=>
 ai none (some pm) λp4=>
 aR none au C (Addr.add p4 10) λG=>
 ai none (some (K.p p)) λp5=>
 aR none (af .i64) C (Addr.add p5 1) λP=>
 ((bF G.base G.len P)/\aR none ag C (sat G.base 1 P) λA=>
 ai none A λp6=>
 aR none ag C (Addr.add p6 6) λx8=>
 aa prog xv [(.int .i64 (p:Int))] (af .i64) (λr2 i=>
 (((bf i (Addr.add p4 10) [G.v])/\((bf i (Addr.add p5 1) [(.int .i64 P)])/\((bf i (sat G.base 1 P) [(.pointer A)])/\((bf i (Addr.add p6 6) [(.pointer x8)])/\True))))/\bu prog EM [(.pointer x8),(.int .i64 r2)] (af .i64) bn (λr3 r4 D=>
 ai none (some pm) λp7=>
 aR none au D (Addr.add p7 10) λH=>
 ai none (some (K.p p)) λp8=>
 aR none (af .i64) D (Addr.add p8 1) λO=>
 ((bF H.base H.len O)/\aR none ag D (sat H.base 1 O) λa8=>
 ai none a8 λp9=>
 aR none ag D (Addr.add p9 6) λa9=>
 aa prog yn [(.int .i64 (p:Int))] (af .i64) (λr5 E=>
 (((bf E (Addr.add p7 10) [H.v])/\((bf E (Addr.add p8 1) [(.int .i64 O)])/\((bf E (sat H.base 1 O) [(.pointer a8)])/\((bf E (Addr.add p9 6) [(.pointer a9)])/\True))))/\bu prog EM [(.pointer a9),(.int .i64 r5)] (af .i64) bn (λr6 r7 w=>
 ai none (some (K.p p)) λb5=>
 aR none (af .i64) w (Addr.add b5 3) λc1=>
 ai none (some (K.p p)) λb6=>
 aR none (af .i64) w (Addr.add (Addr.add b6 4) 0) λc2=>
 ai none (some (K.p p)) λb7=>
 aR none xw w (Addr.add (Addr.add b7 4) 1) λf=>
 ai none (some (K.p p)) λb8=>
 aR none bn w (Addr.add b8 13) λc3=>
 bh [(.int .i64 c1),(.int .i64 c2),(.int .i64 f.a0),(.int .i64 f.a1),(.int .i64 f.a2),(.int .i64 f.a3),(.int .i64 f.a4),(.int .i64 f.a5),(.int .i64 f.a6),(.int .i64 f.a7),(.int .i64 r1),(.int .i64 r3),(.bool c3),(.int .i64 r6),r.v] (λa h8=>
 ((True/\True)/\fu 15 136 [(.int .i64 (0:Int)),(.int .i64 (0:Int)),(.int .i64 (0:Int)),(.int .i64 (0:Int)),(.int .i64 (0:Int)),(.int .i64 (0:Int)),(.int .i64 (0:Int)),(.int .i64 (0:Int)),(.int .i64 (0:Int)),(.int .i64 (0:Int)),(.int .i64 (0:Int)),(.int .i64 (0:Int)),(.bool false),(.int .i64 (0:Int)),(.slice none 0 0)] ⟨Ps.base,Ps.len,Ps.cap⟩ ⟨(some a),1,1⟩ (λr8 h9=>
 rest r8 h9) h8)) w) E)) D)) i)) C)) k:=by
  have J:az K.c p<nP K.c:=R.fi;have c6:=R.procs;have c5:=R.parts;have sp:=sa.proc p hp;have c4:=sp.len;obtain ⟨Y,lA,oM,_,gI⟩:=o.fst;obtain ⟨h1,z,a,l1,hz,oz,oq,put⟩:=oM.oY hp;have b0:z.post=some a:=hz.2.2.2.2.2.2;refine aP (oz.ld (shf:=ag) z.post rfl ?_);rw [b0];refine zzt (Qe oq ⟨by omega,λl Z=>⟨(sp.dS l Z).waiters,by have:=(sp.dS l Z).values;omega⟩⟩ λT k2 o2=> ?_);have o3:Has Y ((aF K pm s g).star (vo T (s.proc p).aj)) k2:=o2.carry λy S=>by
   have i:=put _ _ y S;have e:s.aL p {s.proc p with aj:=(s.proc p).aj,ah:=(s.proc p).ah}=s:=Ll
   rwa [e] at i
  obtain ⟨hB,lB,j,_,_⟩:=o3.fst;have mB:=m.mono (Hp.le_trans lA lB);obtain ⟨h2,d,a2,l2,L,u,_⟩:=j.dC hp;obtain ⟨X,I⟩:=mB.uM j J;obtain ⟨w,A,c8,c0,l7,b3,N,ow,_⟩:=j.jw J;have W:A.dY=some c0:=b3.2.2.2.2.2;have V:d.part=(az K.c p:Int):=L.2.1;refine aP (j.eV.ld (shf:=au) K.x.parts rfl ?_);refine aP (u.ld (shf:=af .i64) d.part rfl ?_);have Q:=u.fb (off:=1) (n:=1) (vs:=[.int .i64 d.part]) rfl;rw [V] at Q ⊢;refine ⟨X,some (K.q (az K.c p)),I,?_⟩;refine aP (N.ld (shf:=ag) A.dY rfl ?_);refine I0 (yO (by omega) ?_);refine ⟨⟨j.eV.fb (n:=1) rfl,Q,I,N.fb (n:=1) rfl,trivial⟩,?_⟩;rw [W];refine zqi (ME ow λb1=> ?_);refine aP (j.eV.ld (shf:=au) K.x.parts rfl ?_);refine aP (u.ld (shf:=af .i64) d.part rfl ?_);rw [V];refine ⟨X,some (K.q (az K.c p)),I,?_⟩;refine aP (N.ld (shf:=ag) A.dY rfl ?_);refine I1 (yQ (by omega) ?_);refine ⟨⟨j.eV.fb (n:=1) rfl,Q,I,N.fb (n:=1) rfl,trivial⟩,?_⟩;rw [W];refine zqi (ME ow λb2=> ?_);rw [td _ _ J,td _ _ J,Xv hp,Yl hp];refine aP (u.ld (shf:=af .i64) d.state rfl (aP ?_));rw [tF];refine u.ld (shf:=af .i64) d.j3 rfl (aP ?_);rw [tF];refine u.ld (shf:=xw) (rowOf (eu d)) rfl (aP ?_);refine u.ld (shf:=bn) d.bL rfl ?_;have U:gG (eu d)=(s.proc p).core:=L.2.2.2.2.1;have b4:Has Y ((aF K pm s g).star (jT M5 (⟨d.state,d.j3,d.fZ,d.gg,d.gh,d.gi,d.gk,d.gl,d.gm,d.gr,(s.proc p).ah,(s.proc p).timer,d.bL,(s.proc p).cv,T⟩:br) (s.proc p))) k2:=by refine o3.map λkk F hF=> ?_;refine zm (λ_ h=>h) (λF' h=> ?_) hF;obtain ⟨B,r,nd,e⟩:=h;exact ⟨B,⟨r,L.2.2.2.1,congrArg Core.pc U,congrArg Core.bw U,rfl,rfl,L.2.2.2.2.2.1,rfl⟩,nd,e⟩
  have oF:=(gI _ _ b4).assoc;obtain ⟨hD,lD,oD,_,b9⟩:=oF.snd;have key:=oD.comm.row (cs:=[(.int .i64 d.state),(.int .i64 d.j3),(.int .i64 d.fZ),(.int .i64 d.gg),(.int .i64 d.gh),(.int .i64 d.gi),(.int .i64 d.gk),(.int .i64 d.gl),(.int .i64 d.gm),(.int .i64 d.gr),(.int .i64 (s.proc p).ah),(.int .i64 (s.proc p).timer),(.bool d.bL),(.int .i64 (s.proc p).cv),T.v]) (zero:=[(.int .i64 (0:Int)),(.int .i64 (0:Int)),(.int .i64 (0:Int)),(.int .i64 (0:Int)),(.int .i64 (0:Int)),(.int .i64 (0:Int)),(.int .i64 (0:Int)),(.int .i64 (0:Int)),(.int .i64 (0:Int)),(.int .i64 (0:Int)),(.int .i64 (0:Int)),(.int .i64 (0:Int)),(.bool false),(.int .i64 (0:Int)),(.slice none 0 0)]) (bytes:=136) rfl (λ_=>rfl) (λ_=>rfl) rfl ⟨by omega,by omega⟩ (K:=rest) λM y S=>hk M y (b9 _ _ S);exact λb t hb=>⟨⟨trivial,trivial⟩,key b t hb⟩
end
section
variable {h0 h1 k:Hp} {K:MK} {pm:Addr} {s:MS} {g:Nat->Nat->Int}
theorem Ks {a:Type} {f:Nat->a} {t:Int} (h:0<=t):(List.range (t+1).toNat).map f=(List.range t.toNat).map f++ [f t.toNat]:=by rw [show (t+1).toNat=t.toNat+1 by omega,List.range_succ,List.map_append];rfl
theorem QD {Q:aD->Hp->Prop} (m:dF h0 K) (v:cf K.c) (o:Has h0 (aF K pm s g) k) (P:jZ K.c s) (td:eR K.c g s)
  (W:∀r f,Has h0 ((aF K pm s g).star (jT Ua r (s.list K.c))) f->Q r f):Nx prog (some pm) Q k:=by
 unfold Nx;have b5:=v.procs;have b3:=v.parts;have b4:=m.rQ;have b6:=m.oZ;refine aP (o.eV.ld (shf:=af .i64) s.tick rfl ?_);refine aP (o.eV.ld (shf:=au) K.x.parts rfl ?_);have b0:Has k (xJ (⟨none,0,0⟩:Sl) ([]:List dv)) k:=Has.ou (okQ:=xd) (Hp.le_refl _);refine bT.intro (λ(t:Int) (st:aD) f=>0<=t/\t<=(nP K.c:Int)/\st.fg=s.tick/\st.aG=⟨none,0,0⟩/\Has h0 ((aF K pm s g).star (xJ st.bZ ((List.range t.toNat).map s.part))) f) (λt _ _=>(nP K.c-t).toNat) ⟨by omega,by omega,rfl,rfl,by simpa using o.beside b0⟩ ?_;rintro t st M ⟨t0,t1,I,G,w⟩;by_cases h:t<(nP K.c:Int)
 ·rw [if_pos (iV)];have n:t.toNat<nP K.c:=by omega
  have z:((t.toNat:Nat):Int)=t:=by omega
  obtain ⟨i,l⟩:=m.uM (Has.left w) n;rw [z] at i l;refine ⟨i,some (K.q t.toNat),l,?_⟩;refine Xu (Ps:=st.bZ) (ps:=(List.range t.toNat).map s.part) v w P n (by rw [List.length_map,List.length_range];omega) λZ f A=> ?_;rw [aT];refine ⟨⟨by omega,by omega,I,G,?_⟩,by omega⟩;rw [Ks t0];exact A
 ·rw [if_neg (λe=>h (by have:=of_decide_eq_true e;omega))];have z:t.toNat=nP K.c:=by omega
  rw [z] at w;obtain ⟨L,lA,O,hP,b2⟩:=w.fst;have N:=m.mono lA;refine aP (O.eV.ld (shf:=au) K.x.procs rfl ?_);have b1:Has M (vw (⟨none,0,0⟩:Sl) ([]:List ak)) M:=Has.ou (okQ:=M5) (Hp.le_refl _);refine bT.intro (λ(j:Int) (s1:aD) f=>0<=j/\j<=(nQ K.c:Int)/\s1.fg=s.tick/\s1.bZ=st.bZ/\Has L ((aF K pm s g).star (vw s1.aG ((List.range j.toNat).map s.proc))) f) (λj _ _=>(nQ K.c-j).toNat) ⟨by omega,by omega,I,rfl,by rw [G];simpa using O.beside b1⟩ ?_;rintro j s1 Y ⟨X,j1,J,H,y⟩;by_cases V:j<(nQ K.c:Int)
  ·rw [if_pos (iV)];have n:j.toNat<nQ K.c:=by omega
   have u:((j.toNat:Nat):Int)=j:=by omega
   obtain ⟨i,l⟩:=N.ptr (Has.left y) n;rw [u] at i l;refine ⟨i,some (K.p j.toNat),l,?_⟩;have key:=Xw (Ps:=s1.aG) (ps:=(List.range j.toNat).map s.proc) (rest:=λr8 R=>(0<=yw (j+1)/\yw (j+1)<=(nQ K.c:Int)/\s1.fg=s.tick/\s1.bZ=st.bZ/\Has L ((aF K pm s g).star (vw r8 ((List.range (yw (j+1)).toNat).map s.proc))) R)/\(nQ K.c-yw (j+1)).toNat<(nQ K.c-j).toNat) N v y P td n (by rw [List.length_map,List.length_range];omega) λZ f A=>by rw [aT];refine ⟨⟨by omega,by omega,J,H,?_⟩,by omega⟩;rw [Ks X];exact A
   rw [u] at key;exact key
  ·rw [if_neg (λe=>V (by have:=of_decide_eq_true e;omega))];have u:j.toNat=nQ K.c:=by omega
   rw [u] at y;refine W s1 Y ?_;have o3:=(b2 _ _ y).assoc;refine o3.map λkk F S=> ?_;refine zm (λ_ h=>h) (λF' h=> ?_) S;obtain ⟨F1,F2,e,d,⟨C,r2,a9,E⟩,⟨B,r1,a8,D⟩⟩:=h;refine ⟨B++C,⟨B,C,rfl,by rw [H];exact r1,r2,J⟩,?_,λb=> ?_⟩
   ·rw [List.nodup_append];exact ⟨a8,a9,λa T b hb U=>by subst U;exact d a ((E a).2 hb) ((D a).2 T)⟩
   ·rw [e b,D b,E b,List.mem_append];exact ⟨λh=>h.symm,λh=>h.symm⟩
end
theorem xW {b c:Type} {R:b->c->Hp->List Nat->Prop} (ok:iE R):iE (pE R):=⟨λo a=>pE.same ok o a,λo=>pE.known ok o⟩
abbrev eQ :aU->List Value:=λx=>bp (bA.enc x)
section
variable {α:Type} {h:Hp} {sz:Nat} {enc:α->List Value} {l:Sl} {xs:List α}
theorem SY {b o:Nat} {i:Int}:sat (some ⟨b,o,none⟩) sz i=⟨b,o+i.toNat*sz,none⟩:=by unfold sat;rw [Option.getD_some,kK]
theorem du.O5 {F:List Nat} (o:du h sz enc l xs F) (e:∀x,(enc x).length=sz) {i:Nat} {x d:α} (q:xs[i]? =some x) {off:Nat} {new:List Value} (M:off+new.length<=sz) (z:enc d=(enc x).take off++new++(enc x).drop (off+new.length))
  {K:Hp->Prop} (w:∀c,du c sz enc l (xs.set i d) F->Mv F h F c->K c):cJ h ((sat l.base sz (i:Int)).add off) new K:=by
 have g:i<xs.length:=by grind
 obtain ⟨D,r,E⟩:=o;rcases E with ⟨_,H,_⟩ | ⟨b,a,j,rfl,B,u,f⟩
 ·omega
 ·rw [j,SY,kK,show ((i:Int)).toNat=i from rfl,Nat.zero_add];have J:i*sz+sz<=l.len*sz:=by have:=Nat.mul_le_mul_right sz (show i+1<=l.len by omega);grind
  have L:l.len*sz<=l.cap*sz:=Nat.mul_le_mul_right sz r;refine u5 B (by rw [u];omega) λc C A=> ?_;refine w c ⟨by simp [D],r,.inr ⟨b,_,j,rfl,A,?_,?_⟩⟩ C
  ·grind
  ·have t1:a.take (i*sz)=(xs.take i).flatMap enc:=by rw [AM e,<-f,List.take_take];congr 1;omega
   have t2:(a.drop (i*sz+sz)).take (l.len*sz-(i*sz+sz))=(xs.drop (i+1)).flatMap enc:=by rw [zl e,<-f,Nat.add_mul,Nat.one_mul,List.drop_take]
   have G:(a.drop (i*sz)).take sz=enc x:=by
    have k:(xs.drop i).flatMap enc=enc x++(xs.drop (i+1)).flatMap enc:=by rw [List.drop_eq_getElem_cons g,List.flatMap_cons];rw [List.getElem?_eq_getElem g] at q;rw [Option.some.inj q]
    have v:(xs.drop i).flatMap enc=(a.drop (i*sz)).take (l.len*sz-i*sz):=by rw [zl e,<-f,List.drop_take]
    rw [v] at k;have I:=congrArg (List.take sz) k;grind
   have m:a=a.take (i*sz)++(enc x++a.drop (i*sz+sz)):=by rw [<-G,<-List.drop_drop,List.take_append_drop,List.take_append_drop]
   have n:(a.take (i*sz)).length=i*sz:=by rw [List.length_take];omega
   have p:(enc x).length=sz:=e x;have s:a.take (i*sz+off)=a.take (i*sz)++(enc x).take off:=by
    conv=>lhs;rw [m]
    rw [List.take_append,n,List.take_of_length_le (by omega),List.take_append,p,show i*sz+off-i*sz=off by omega,show off-sz=0 by omega,List.take_zero,List.append_nil]
   have t:a.drop (i*sz+off+new.length)=(enc x).drop (off+new.length)++a.drop (i*sz+sz):=by
    conv=>lhs;rw [m]
    rw [List.drop_append,n,List.drop_eq_nil_of_le (by omega),List.nil_append,List.drop_append,p,show i*sz+off+new.length-i*sz=off+new.length by omega,show off+new.length-sz=0 by omega,List.drop_zero]
   rw [s,t,show a.take (i*sz)++(enc x).take off++new++((enc x).drop (off+new.length)++a.drop (i*sz+sz))=(a.take (i*sz)++enc d)++a.drop (i*sz+sz) by rw [z];simp];rw [C6 d g];have y:(a.take (i*sz)++enc d).length=i*sz+sz:=by grind
   rw [List.take_append,y,t2,List.take_of_length_le (by omega),t1];simp
end
section
variable {h0 k:Hp}
theorem Has.xZ {d:Type} {sz:Nat} {enc:d->List Value} {l:Sl} {c:List d} (o:Has h0 (fU sz enc l c) k) (j:∀x,(enc x).length=sz) {i:Nat} {x x':d} (t:c[i]? =some x) {off:Nat} {new:List Value} (s:off+new.length<=sz) (r:enc x'=(enc x).take off++new++(enc x).drop (off+new.length))
  {K:Hp->Prop} (p:∀a,Has h0 (fU sz enc l (c.set i x')) a->K a):cJ k ((sat l.base sz (i:Int)).add off) new K:=by
 obtain ⟨q,F,⟨B,h,e⟩,n⟩:=o;refine h.O5 j t s r λa g m=>p a ⟨λb f eb=>m.bK b f (q b f eb) λhb=> ?_,F,⟨B,g,e⟩,n⟩;grind
theorem Has.oH {b:Type} {sz:Nat} {enc:b->List Value} {l:Sl} {a:List b} (o:Has h0 (fU sz enc l a) k) (c:∀x,(enc x).length=sz):Rw k sz enc l a:=by obtain ⟨f,F,⟨B,h,e⟩,d⟩:=o;exact h.rw c
theorem Has.rowsOf {m:Type} {sh:Shape} {sz:Nat} {Q:sh.T->m->Hp->List Nat->Prop} {okQ:iE Q} {l:Sl} {c:List sh.T} {j:List m} (o:Has h0 ((fU sz (λx=>bp (sh.enc x)) l c).star (jT (xW okQ) c j)) k):Has h0 (jT (bM.ok (sh:=sh) (sz:=sz) okQ) l j) k:=by
 refine o.map λw F h=> ?_;obtain ⟨u,v,e,d,⟨f,i,n⟩,⟨g,t,s,p⟩⟩:=h;refine ⟨f++g,⟨c,f,g,rfl,i,t⟩,?_,λb=> ?_⟩
 ·rw [List.nodup_append];exact ⟨i.nodup,s,λa q b hb r=>by subst r;exact d a ((n a).2 q) ((p a).2 hb)⟩
 grind
theorem QF {x:an} {c:aE} {Q:an->Hp->Prop} (a:fo k x c) (hl:c.labels.length<=1000) (ht:c.table.length<=1000) (hp:c.procs.length<=1000) (hc:∀y∈c.procs,y.code.length<=1000)
  (hq:∀r m,Has k ((jT sW r.aN c.labels).star ((jT kW r.Table c.table).star (jT ln r.aG c.procs))) m->r.Fuel=c.fuel->r.gH=c.lane->r.bQ=c.ae->r.Log=c.log->Q r m):Xk prog x Q k:=by
 unfold Xk;refine zfw ?_;unfold Nq;refine xA (enc:=λx:Int=>bp ((af .u64).enc x)) (bG.bO 22 ye rfl) a.labels (by decide) (λ_=>rfl) (λ_=>rfl) rfl ⟨by omega,by omega⟩ λll L l1 n1=> ?_;refine ⟨⟨trivial,trivial,trivial⟩,?_⟩;have a1:=a.mono l1;refine Nu ?_;unfold EK;refine xA (enc:=λx:Int=>bp ((af .i64).enc x)) (bG.bO 23 tf rfl) a1.table (by decide) (λ_=>rfl) (λ_=>rfl) rfl ⟨by omega,by omega⟩ λlt w l2 n2=> ?_;refine ⟨⟨trivial,trivial⟩,?_⟩;have a2:=a1.mono l2;obtain ⟨g,b3,G⟩:=a2.procs;have b2:g.length=c.procs.length:=G.len;refine zly ?_;unfold zfl;refine xA (enc:=eQ) (bG.bO 24 Bu rfl) b3 (by decide) (λ_=>rfl) (λ_=>rfl) rfl ⟨by omega,by omega⟩ λlp M l3 N=> ?_;have b9:=(N.oH (λ_=>rfl)).1;have nil:Has M (jT (xW uY) ([]:List aU) ([]:List fG)) M:=Has.sV (B:=[]) (Hp.le_refl _) rfl .nil λ_ h=>by cases h
 refine aA.intro (λ(t:Int) m=>0<=t/\t<=(g.length:Int)/\∃j:List aU,j.length=t.toNat/\Has w ((fU 2 eQ lp (j++g.drop t.toNat)).star (jT (xW uY) j (c.procs.take t.toNat))) m) (λt _=>(g.length-t).toNat) ⟨by omega,by omega,[],rfl,by simpa using N.beside nil⟩ ?_;rintro t m ⟨S,t1,j,D,o⟩;by_cases h:t<(g.length:Int)
 ·rw [if_pos (iV)];have H:t.toNat<g.length:=by omega
  have b7:((t.toNat:Nat):Int)=t:=by omega
  obtain ⟨h5,l5,oO,_,gx⟩:=o.fst;have s:(j++g.drop t.toNat)[t.toNat]? =some g[t.toNat]:=by grind
  obtain ⟨pc,b1,C,u,I,a9⟩:=G.get (i:=t.toNat) (List.getElem?_eq_getElem H);generalize g[t.toNat]=y at s I C;have b8:u.length<=1000:=by grind
  refine Rs.get (sh:=bA) (oO.oH (λ_=>rfl)) (λ_=>rfl) (by omega) S (by rw [List.length_append,List.length_drop];omega) λ(y':aU) J=> ?_;rw [s] at J;cases J;refine zns ?_;unfold zga;refine xA (enc:=λx=>bp (aV.enc x)) (bG.bO 62 Bw rfl) (Rw.mono o.le I) (by decide) (λ_=>rfl) (λ_=>rfl) rfl ⟨by omega,by omega⟩ λn k6 l6 n6=> ?_;have X:∀l:List aK,cZ (λx p=>bd x=p) l (l.map bd):=λl=>by
   induction l with
   | nil=>trivial
   | cons a r ih=>exact ⟨rfl,ih⟩
  have z:Has m (jT mN n pc.code) k6:=by rw [<-a9];obtain ⟨b0,F,⟨B,E,e⟩,hf⟩:=n6;exact Has.sV b0 ⟨u,B,[],by simp,E,DH (X u)⟩ E.nodup λb hb=>hf b ((e b).2 hb)
  have oA:=(o.beside z).assoc;obtain ⟨h7,l7,P,_,b6⟩:=oA.fst;have Z:=(Rs.get (sh:=bA) (K:=λ_=>True) (P.oH (λ_=>rfl)) (λ_=>rfl) (by omega) S (by rw [List.length_append,List.length_drop];omega) λ_ _=>trivial).1;refine ⟨⟨trivial,trivial⟩,Z,?_⟩;have key:=P.xZ (i:=t.toNat) (x':=(⟨y.Part,n⟩:aU)) (off:=1) (new:=[n.v]) (λ_=>rfl) s (by simp) rfl
   (K:=λW=>(0<=yw (t+1)/\yw (t+1)<=(g.length:Int)/\∃j:List aU,j.length=(yw (t+1)).toNat/\Has w ((fU 2 eQ lp (j++g.drop (yw (t+1)).toNat)).star (jT (xW uY) j (c.procs.take (yw (t+1)).toNat))) W)/\(g.length-yw (t+1)).toNat<(g.length-t).toNat) λk8 O=> ?_
  ·grind
  ·rw [aT];refine ⟨⟨by omega,by omega,j++ [⟨y.Part,n⟩],by rw [List.length_append,D,List.length_singleton];omega,?_⟩,by omega⟩;have q:(t+1).toNat=t.toNat+1:=by omega
   have U:(j++g.drop t.toNat).set t.toNat (⟨y.Part,n⟩:aU)=(j++ [⟨y.Part,n⟩])++g.drop (t.toNat+1):=by rw [List.set_append_right _ _ (by omega),D,Nat.sub_self,List.drop_eq_getElem_cons H,List.set_cons_zero,List.append_assoc];rfl
   rw [U] at O;have V:c.procs.take (t.toNat+1)=c.procs.take t.toNat++ [pc]:=by rw [List.take_add_one,b1];rfl
   rw [q,V];refine (b6 _ _ O).map λkk F Y=>zm (λ_ h=>h) (λF' h=> ?_) Y;obtain ⟨F1,F2,e,d,⟨T,r1,b4,f1⟩,⟨A,r2,b5,f2⟩⟩:=h;refine ⟨T++A,pE.snoc (R:=qj) (a:=(⟨y.Part,n⟩:aU)) (b:=pc) (B':=A) ⟨C,r2⟩ r1,?_,λb=> ?_⟩
   ·rw [List.nodup_append];exact ⟨b4,b5,λa ha b hb a8=>by subst a8;exact d a ((f1 a).2 ha) ((f2 a).2 hb)⟩
   grind
 ·rw [if_neg (λe=>h (by grind))];have q:t.toNat=g.length:=by omega
  rw [q,List.drop_length,List.append_nil,b2,List.take_length] at o;have o1:=o.rowsOf (sh:=bA) (okQ:=uY);have oU:Has k (jT sW ll c.labels) L:=n1.jO (f:=λx=>x) (λ_=>rfl) λ_=>rfl;have z:Has L (jT kW lt c.table) w:=n2.jO (f:=λx=>x) (λ_=>rfl) λ_=>rfl;exact hq _ m ((oU.beside z).beside o1).assoc a.fuel a.lane a.ae a.log
end
section
variable {h0 k:Hp} {K:MK} {pm:Addr} {s:MS} {f:Nat->Nat->Int}
theorem Ft {r:an} {c:aE} (o:Has h0 ((jT sW r.aN c.labels).star ((jT kW r.Table c.table).star (jT ln r.aG c.procs))) k) (q:r.Fuel=c.fuel) (t:r.gH=c.lane) (u:r.bQ=c.ae) (v:r.Log=c.log):Has h0 (jT kz r c) k:=by
 refine o.map λG F h=> ?_;obtain ⟨B,C,e,d,⟨l,z,w,f1⟩,⟨D,E,i,p,⟨m,r2,x,f2⟩,⟨n,A,y,f3⟩⟩⟩:=h;refine ⟨l++(m++n),⟨l,m,n,rfl,z,r2,A,q,t,u,v⟩,?_,λb=> ?_⟩
 ·rw [List.nodup_append,List.nodup_append];refine ⟨w,⟨x,y,λa g b hb j=> ?_⟩,λa g b hb j=> ?_⟩
  ·subst j;exact p a ((f2 a).2 g) ((f3 a).2 hb)
  ·subst j;rcases List.mem_append.1 hb with hb | hb
   ·exact d a ((f1 a).2 g) ((i a).2 (.inl ((f2 a).2 hb)))
   ·exact d a ((f1 a).2 g) ((i a).2 (.inr ((f3 a).2 hb)))
 ·rw [e b,i b,f1 b,f2 b,f3 b,List.mem_append,List.mem_append]
end
def lP :dv:=⟨0,[],0,0,[],[]⟩
def oX :ak:=⟨0,0,[],0,0,false,0,[]⟩
def bN (t:fT):MS:=⟨t.tick,λi=>t.parts.getD i lP,λp=>t.procs.getD p oX⟩
theorem Ia {l:List Int} (h:∀z∈l,l.countP (λy=>decide (y=z))<=1):l.Nodup:=by
 induction l with
 | nil=>simp
 | cons a l d=>
  rw [List.nodup_cons];refine ⟨λb=> ?_,d λz e=> ?_⟩
  ·have c:=h a (List.mem_cons_self ..);rw [List.countP_cons] at c;have:0<l.countP (λy=>decide (y=a)):=List.countP_pos_iff.2 ⟨a,b,by simp⟩;simp at c;exact absurd b (by
    intro b;have:=c a b;exact this rfl)
  grind
theorem zN {c:Type} {f:c->Nat} {l:List c} {a:c} (h:a∈l):f a<=(l.map f).sum:=by
 induction l with
 | nil=>cases h
 | cons b l d=>grind
theorem yR {b:Type} {f:b->Nat} {l:List b} (h:(l.map f).sum≠0):∃a∈l,f a≠0:=by refine Classical.byContradiction λc=>h ?_;rw [List.sum_eq_zero_iff_forall_eq_nat];grind
section
variable {c:aE} {fl:Nat->Nat->Bool} {t:fT}
theorem M7 (hp:t.parts.length=nP c) (d:t.procs.length=nQ c):(bN t).list c=t:=by
 have a:(List.range (nP c)).map (bN t).part=t.parts:=by
  refine List.ext_getElem? λj=> ?_;rw [List.getElem?_map];by_cases h:j<nP c
  ·rw [List.getElem?_range h,List.getElem?_eq_getElem (by omega)];simp [bN,List.getD,List.getElem?_eq_getElem (show j<t.parts.length by omega)]
  grind
 have b:(List.range (nQ c)).map (bN t).proc=t.procs:=by
  refine List.ext_getElem? λj=> ?_;rw [List.getElem?_map];by_cases h:j<nQ c
  ·rw [List.getElem?_range h,List.getElem?_eq_getElem (by omega)];simp [bN,List.getD,List.getElem?_eq_getElem (show j<t.procs.length by omega)]
  grind
 unfold MS.list;rw [a,b];rfl
theorem MQ (m:cf c) {i:Nat} {st:fT}:∀ {l:List qY} {last:Int},xI c st i last l->l.Pairwise (λa b=>a.tick<=b.tick)/\∀e∈l,last<=e.tick/\e.tick<st.tick/\0<=e.proc/\e.proc.toNat<nQ c/\az c e.proc.toNat=i
 | [],_,_=>⟨List.Pairwise.nil,λe h=>by cases h⟩
 | e::r,last,h=>by
  obtain ⟨f,g,j,k⟩:=h;obtain ⟨a,b⟩:=MQ m k;refine ⟨List.pairwise_cons.2 ⟨λd he'=>(b d he').1,a⟩,λd he'=> ?_⟩;rcases List.mem_cons.1 he' with rfl | he'
  ·exact ⟨f,g,(vg m).1 j⟩
  grind
theorem IJ (m:cf c) (h:vp c t λi y=>fl i y.toNat=true) (hr:∀x∈t.procs,x.bw.length=8):Good c fl (bN t) No No t.tick:=by
 obtain ⟨⟨hT,hp,hq⟩,hP,hQ,b6,b7,b5⟩:=h;have d2:=M7 (c:=c) (t:=t) hp hq;have I:∀ {i},i<nP c->t.parts[i]? =some ((bN t).part i):=λ{i} d=>by have:=Ls (c:=c) (s:=bN t) d;grind
 have g:∀ {i},i<nQ c->t.procs[i]? =some ((bN t).proc i):=λ{i} d=>by have:=yq (c:=c) (s:=bN t) d;grind
 have c6:∀ {p:Int} {q:ak->Prop},O7 t p q->p.toNat<nQ c->q ((bN t).proc p.toNat):=λ{p q} h hp=>by obtain ⟨x,B,H⟩:=h;grind
 have b0:∀ {p:Int} {q:ak->cX->Prop},Nf c t p q->p.toNat<nQ c->∃n,dP c p.toNat ((bN t).proc p.toNat)=some n/\q ((bN t).proc p.toNat) n:=λ{p q} h hp=>by obtain ⟨x,y,n,B,H,S,e4⟩:=h;rw [g hp] at B;cases B;obtain ⟨y',f1,f2,f3⟩:=ve m hp;rw [H] at f1;cases f1;exact ⟨n,by rw [<-wW f3];exact S,e4⟩
 have c8:∀p,p<nQ c->∀j,j<nQ c->∀(i:Nat) l,((bN t).proc j).aj[i]? =some l->∀w∈l.waiters,w.proc=(p:Int)->((bN t).proc p).state=2:=λp hp j u i l L w G e=>by obtain ⟨y,f1,f2,f3⟩:=ve m u;have O:=(b7 j _ y (g u) f1 i l L w G).2.2.2.2;obtain ⟨n,_,E,_⟩:=b0 O (by omega);rw [e,Int.toNat_natCast] at E;exact E
 have c7:∀p,p<nQ c->∀j,j<nP c->∀q∈((bN t).part j).av,(p:Int)∈q->((bN t).proc p).state=3:=λp hp j u q X M=>by
  obtain ⟨k,hk,K⟩:=List.getElem_of_mem X;have W:((bN t).part j).av[k]? =some q:=by grind
  obtain ⟨n,_,E,_⟩:=b0 (b6 j _ (I u) k q W _ M).2.1 (by omega);rw [Int.toNat_natCast] at E;exact E
 refine ⟨hT.1,λi d=> ?_,λp F=> ?_,λi d k o ho=> ?_,λi d k q c5=> ?_,λr b8 i l L=> ?_,λp F _ N=> ?_,λp F _ h2=> ?_⟩
 ·obtain ⟨⟨a1,a2,a3⟩,a4,a5,a6,a7,Y,a9,_⟩:=hP i _ (I d);obtain ⟨Q,R⟩:=MQ m a4;exact ⟨⟨a1,by rw [IE m] at a2;exact a2⟩,a3,⟨Q,R⟩,a5,a6,a7,Y,a9⟩
 ·obtain ⟨y,f1,f2,f3⟩:=ve m F;obtain ⟨a1,a2,a3,a4,a5,a6,a7,Y,a9,Q,R,b3,b4⟩:=hQ p _ y (g F) f1;rw [wW f3] at Q R b3 b4;rw [f3] at a2;refine ⟨a1,a2,a3,a4,a5,a6,.inr a7,λh=>⟨.inr (Y h).1,(Y h).2⟩,λi l L=> ?_,Q,R,b3,b4,hr _ (List.mem_of_getElem? (g F))⟩;obtain ⟨C,b,D,c4⟩:=a9 i l L;refine ⟨C,b,D,λhu d=> ?_⟩;have:=c4 hu d;rw [f2] at this;have this:fl i ((az c p:Nat):Int).toNat=true:=this
  rwa [Int.toNat_natCast] at this
 ·by_cases e:o= -1
  ·exact .inl e
  ·obtain ⟨Q,R⟩:=(hP i _ (I d)).2.2.2.2.2.2.2 o (List.mem_of_getElem? ho) e;obtain ⟨C,b,D⟩:=(vg m).1 Q;exact .inr ⟨C,b,D,.inl (dm.2 (c6 R b))⟩
 ·have J:=b6 i _ (I d) k q c5;refine ⟨Ia λz U=> ?_,λz U=> ?_,λd0=> ?_⟩
  ·obtain ⟨C,b,D⟩:=(vg m).1 (J z U).1;have N:=b5 z.toNat _ (g b);rw [show ((z.toNat:Nat):Int)=z by omega] at N;have T:q.countP (λy=>decide (y=z))<=nE z ((bN t).part i):=zN (f:=λq:List Int=>q.countP (λy=>decide (y=z))) (List.mem_of_getElem? c5);have O:nE z ((bN t).part i)<=(t.parts.map (nE z)).sum:=zN (List.mem_of_getElem? (I d));split at N<;>omega
  ·obtain ⟨C,b,D⟩:=(vg m).1 (J z U).1;obtain ⟨n,B,H,S⟩:=b0 (J z U).2.1 b;obtain ⟨y,f1,f2,f3⟩:=ve m b;have O:=(hQ z.toNat _ y (g b) f1).2.2.2.2.2.2.2.2.2.2.2.1 H;obtain ⟨n',Z,g2⟩:=O;rw [wW f3,B] at Z;cases Z;exact ⟨C,b,D,λh=>h,.inr ⟨H,n,B,g2,S⟩⟩
  ·cases q with
   | nil=>grind
   | cons a r=>obtain ⟨o,B,H,S⟩:=(J a (List.mem_cons_self ..)).2.2;refine ⟨o,B,by omega,λM=> ?_⟩;grind
 ·obtain ⟨y,f1,f2,f3⟩:=ve m b8;have J:=b7 r _ y (g b8) f1 i l L;refine ⟨Ia λz U=> ?_,λd0=> ?_,λw G=> ?_⟩
  ·obtain ⟨w,G,rfl⟩:=List.mem_map.1 U;obtain ⟨C,b,D⟩:=(vg m).1 (J w G).2.1;have N:=b5 w.proc.toNat _ (g b);rw [show ((w.proc.toNat:Nat):Int)=w.proc by omega] at N;have T:vC w.proc l<=nD w.proc ((bN t).proc r):=zN (List.mem_of_getElem? L);have O:nD w.proc ((bN t).proc r)<=(t.procs.map (nD w.proc)).sum:=zN (List.mem_of_getElem? (g b8));rw [wX] at T;split at N<;>omega
  ·cases d3:l.waiters with
   | nil=>grind
   | cons a ws=>obtain ⟨B,_,S,e4,_⟩:=J a (by grind);exact ⟨by omega,.inl (dm.2 S),e4⟩
  ·obtain ⟨B,H,_,_,e5⟩:=J w G;obtain ⟨C,b,D⟩:=(vg m).1 H;obtain ⟨n,Z,g2,g3,g4,g5⟩:=b0 e5 b;exact ⟨C,b,D,λh=>h,.inr ⟨g2,n,Z,g3,by simp [fA,List.getD,g4],by simp [fA,List.getD,g5]⟩⟩
 ·have T:=b5 p _ (g F);rw [if_pos (.inl N)] at T;have O:(t.procs.map (nD (p:Int))).sum=0:=by
   rw [List.sum_eq_zero_iff_forall_eq_nat];intro y hy;obtain ⟨x,P,rfl⟩:=List.mem_map.1 hy;obtain ⟨j,u,K⟩:=List.getElem_of_mem P;have v:j<nQ c:=by have:t.procs.length=nQ c:=hq;omega
   have e:x=(bN t).proc j:=by have A:=g v;rw [List.getElem?_eq_getElem u,K] at A;exact Option.some.inj A
   subst e;refine Di λl L w G ew=> ?_;obtain ⟨i,d,V⟩:=List.getElem_of_mem L;have:=c8 p F j v i l (by rw [List.getElem?_eq_getElem d,V]) w G ew;omega
  have E:(t.parts.map (nE (p:Int))).sum≠0:=by omega
  obtain ⟨x,P,b9⟩:=yR E;obtain ⟨j,u,K⟩:=List.getElem_of_mem P;have v:j<nP c:=by have:t.parts.length=nP c:=hp;omega
  have e:x=(bN t).part j:=by have A:=I v;rw [List.getElem?_eq_getElem u,K] at A;exact Option.some.inj A
  subst e;obtain ⟨q,X,d1⟩:=yR b9;obtain ⟨k,hk,V⟩:=List.getElem_of_mem X;have W:((bN t).part j).av[k]? =some q:=by rw [List.getElem?_eq_getElem hk,V]
  have M:(p:Int)∈q:=Classical.byContradiction λhn=>d1 (EZ hn);have h7:=((vg m).1 (b6 j _ (I v) k q W _ M).1).2.2;rw [Int.toNat_natCast] at h7;grind
 ·have T:=b5 p _ (g F);rw [if_pos (.inr h2)] at T;have O:(t.parts.map (nE (p:Int))).sum=0:=by
   rw [List.sum_eq_zero_iff_forall_eq_nat];intro y hy;obtain ⟨x,P,rfl⟩:=List.mem_map.1 hy;obtain ⟨j,u,K⟩:=List.getElem_of_mem P;have v:j<nP c:=by have:t.parts.length=nP c:=hp;omega
   have e:x=(bN t).part j:=by have A:=I v;rw [List.getElem?_eq_getElem u,K] at A;exact Option.some.inj A
   subst e;refine Dh λq X M=> ?_;have:=c7 p F j v q X M;omega
  have E:(t.procs.map (nD (p:Int))).sum≠0:=by omega
  obtain ⟨x,P,b9⟩:=yR E;obtain ⟨j,u,K⟩:=List.getElem_of_mem P;have v:j<nQ c:=by have:t.procs.length=nQ c:=hq;omega
  have e:x=(bN t).proc j:=by have A:=g v;rw [List.getElem?_eq_getElem u,K] at A;exact Option.some.inj A
  subst e;obtain ⟨l,c9,c0⟩:=yR b9;obtain ⟨i,d,V⟩:=List.getElem_of_mem c9;have W:((bN t).proc j).aj[i]? =some l:=by rw [List.getElem?_eq_getElem d,V]
  rw [wX] at c0;have M:(p:Int)∈l.waiters.map (·.proc):=Classical.byContradiction λhn=>c0 (EZ hn);obtain ⟨w,G,e⟩:=List.mem_map.1 M;obtain ⟨y,f1,f2,f3⟩:=ve m v;have h7:=((vg m).1 (b7 j _ y (g v) f1 i l W w G).2.1).2.2;rw [e,Int.toNat_natCast] at h7;grind
end
def rK (a c k:Hp):Hp:=λb=>match a b with | some d=>some d | none=>if c b=none then k b else none
theorem Kt {a d k:Hp} {b:Nat} {c:Obj} (e:a b=some c):rK a d k b=some c:=by unfold rK;rw [e]
theorem CI {a c k:Hp} {b:Nat} (e:a b=none):rK a c k b=if c b=none then k b else none:=by unfold rK;rw [e]
theorem ZC {P:Program} {g:FuncId} {args:List Value} {l K:Value->Hp->Prop} {f k:Hp} {A:dI} (o:Has f A k) (q:tI P g args l f) (r:∀v c p,l v c->Has c A p->K v p):tI P g args K k:=by
 intro w h;refine (q w (h.mono o.le)).mono ?_;rintro e y ⟨v,c,rfl,t,st⟩;obtain ⟨s,F,a,m⟩:=o;have key:∀b,F b->c b=none/\y.heap[b]? =w.heap[b]?:=λb hb=>by
  cases e:k b with
  | none=>exact absurd e (A.known a b hb)
  | some j=>have:=st.bK b (h.lt e) (m b hb);grind
 refine ⟨v,rK c f k,rfl,r v c _ t ⟨λb j e=>Kt e,F,A.same a λb hb=> ?_,λb hb=>(key b hb).1⟩,?_⟩
 ·rw [CI (key b hb).1,if_pos (m b hb)]
 ·refine ⟨λb j e=> ?_,st.size,λb hb n=> ?_,st.os,st.tape,st.output⟩
  ·cases i:c b with
   | some z=>rw [Kt i] at e;cases e;exact st.sub b _ i
   | none=>
    rw [CI i] at e;by_cases d:f b=none
    ·rw [if_pos d] at e;rw [(st.bK b (h.lt e) d).1];exact h b j e
    grind
  ·have d:f b=none:=uu s n;obtain ⟨u,x⟩:=st.bK b hb d;exact ⟨u,by rw [CI x,if_pos d];exact n⟩
theorem OF {P:Program} {g:FuncId} {args:List Value} {sh:Shape} {K0 K:sh.T->Hp->Prop} {c k:Hp} {A:dI} (o:Has c A k) (d:aa P g args sh K0 c) (f:∀x a b,K0 x a->Has a A b->K x b):aa P g args sh K k:=
 ZC o d λ_ a b ⟨x,e,h⟩ i=>⟨x,e,f x a b h i⟩
theorem CJ {P:Program} {g:FuncId} {args:List Value} {s1 s2 s3:Shape} {K0 K:s1.T->s2.T->s3.T->Hp->Prop} {c k:Hp} {A:dI} (o:Has c A k) (d:jm P g args s1 s2 s3 K0 c) (e:∀x y z a b,K0 x y z a->Has a A b->K x y z b):jm P g args s1 s2 s3 K k:=
 OF o d λp a b h f=>e p.1 p.2.1 p.2.2 a b h f
theorem pn {c:aE} (h:(fV c).1=0):cf c:=by obtain ⟨e,f,g,j,k,l,d,m,n,q,b⟩:=jI.1 h;obtain ⟨p,r,s⟩:=gU.1 e;have:=List.length_pos_iff.2 p;have:=List.length_pos_iff.2 n;refine ⟨⟨by unfold nP;omega,by unfold nP;omega⟩,⟨f,g,λi o=>by have:=j i o;unfold nP;omega⟩,k,l,d,m,⟨by unfold nQ;omega,by unfold nQ;omega⟩,λy a=>by have:=(b y a).1;unfold nP;omega,λy a=>(L8 d).1 (b y a).2⟩
section
variable {h0 k:Hp}
theorem Has.F6 {a e:Type} {sz:Nat} {enc:a->List Value} {c:e->List Value} {l:Sl} {d:List a} (f:a->e) (t:∀x,enc x=c (f x)) (o:Has h0 (dU sz enc l d) k):Has h0 (dU sz c l (d.map f)) k:=by refine o.map λu F h=> ?_;obtain ⟨s,q,r⟩:=h;refine ⟨by grind,q,r.imp id ?_⟩;rintro ⟨b,off,g,i,j,m,n,p⟩;refine ⟨b,off,g,i,j,m,n,by rw [p,List.flatMap_map];congr 1;grind⟩
theorem Xx {h:Hp} {t:Sl} {a:List Int} {n:Int} {Q:Option Addr->Int->Int->Hp->Prop} (r:Is h t a) (F:1<=n) (H:n<=8) (B:a≠ []) (J:a.length<=64) (I:∀x∈a,0<=x/\x<n)
  (D:∀p i s c,h<=c->bf c p [s.v,.int .i64 n]->Is c s a->Q (some p) 0 i c):LB prog t n Q h:=by
 unfold LB;have L:=r.1;have M:0<a.length:=List.length_pos_iff.2 B;intro b ty A;have l:=ni (o:=.cells (#[Value.int .i64 n]) ty (0,0)) A;have d:bf (h.set b (.cells (#[Value.int .i64 n]) ty (0,0))) ⟨b,0,none⟩ [.int .i64 n]:=Et (cs:=[Value.int .i64 n]);refine cT (sh:=af .i64) n d ?_;refine ⟨n,λ_=>d,?_⟩;refine aJ (aJ ?_);rw [if_neg (by simp;omega),if_neg (by simp;omega)];have y:(a.any λx=>decide (x<0) || decide (x>=n))=false:=by grind
 refine zhj (f:=⟨KC, #[], #[.pointer (some ⟨b,0,none⟩)]⟩) (I7 (p:=λx=>decide (x<0) || decide (x>=n)) (Rw.mono l r) (by omega) (λx _ k K m w=> ?_) λi c j z=> ?_)
 ·refine tv (g:=KC) rfl (zxc ?_);unfold YM;refine ⟨n,λ_=>pk m d,aJ (w k m)⟩
 ·dsimp only;rw [y] at z;rw [if_neg (λe=>by grind)];refine cT (sh:=af .i64) n (pk j d) ?_;refine Nu ?_;unfold EK;refine xA (enc:=λx:Int=>bp ((af .i64).enc x)) (bG.bO 23 tf rfl) (Rw.mono (Hp.le_trans l j) r) (by decide) (λ_=>rfl) (λ_=>rfl) rfl ⟨by omega,by omega⟩ λout G q C=> ?_;refine ⟨⟨pk (Hp.le_trans j q) d,trivial⟩,?_⟩;intro E t2 u;exact D _ _ out _ (Hp.le_trans (Hp.le_trans l j) (Hp.le_trans q (ni u))) (Et (cs:=[out.v,.int .i64 n])) (Rw.mono (ni u) (C.oH λ_=>rfl))
abbrev uF (R F G S T U:dI):dI:=(R.star (F.star G)).star (S.star (T.star U))
variable {R F G S T U:dI}
theorem Has.sR (o:Has h0 (uF R F G S T U) k):∃d,h0<=d/\Has d R k/\∀e f,Has d e f->Has h0 (uF e F G S T U) f:=by obtain ⟨d,a,b,_,c⟩:=o.fst;obtain ⟨i,a2,g,h⟩:=b.f1;exact ⟨i,Hp.le_trans a a2,g,λ_ _ j=>c _ _ (h _ _ j)⟩
theorem Has.sF (o:Has h0 (uF R F G S T U) k):∃d,h0<=d/\Has d F k/\∀e f,Has d e f->Has h0 (uF R e G S T U) f:=by obtain ⟨d,a,b,_,c⟩:=o.fst;obtain ⟨i,a2,g,h⟩:=b.f2;exact ⟨i,Hp.le_trans a a2,g,λ_ _ j=>c _ _ (h _ _ j)⟩
theorem Has.sG (o:Has h0 (uF R F G S T U) k):∃d,h0<=d/\Has d G k/\∀e f,Has d e f->Has h0 (uF R F e S T U) f:=by obtain ⟨d,a,b,_,c⟩:=o.fst;obtain ⟨i,a2,g,h⟩:=b.f3;exact ⟨i,Hp.le_trans a a2,g,λ_ _ j=>c _ _ (h _ _ j)⟩
theorem Has.sS (o:Has h0 (uF R F G S T U) k):∃d,h0<=d/\Has d S k/\∀e f,Has d e f->Has h0 (uF R F G e T U) f:=by obtain ⟨d,a,b,_,c⟩:=o.snd;obtain ⟨i,a2,g,h⟩:=b.f1;exact ⟨i,Hp.le_trans a a2,g,λ_ _ j=>c _ _ (h _ _ j)⟩
theorem Has.sT (o:Has h0 (uF R F G S T U) k):∃d,h0<=d/\Has d T k/\∀e f,Has d e f->Has h0 (uF R F G S e U) f:=by obtain ⟨d,a,b,_,c⟩:=o.snd;obtain ⟨i,a2,g,h⟩:=b.f2;exact ⟨i,Hp.le_trans a a2,g,λ_ _ j=>c _ _ (h _ _ j)⟩
theorem Has.sU (o:Has h0 (uF R F G S T U) k):∃d,h0<=d/\Has d U k/\∀e f,Has d e f->Has h0 (uF R F G S T e) f:=by obtain ⟨d,a,b,_,c⟩:=o.snd;obtain ⟨i,a2,g,h⟩:=b.f3;exact ⟨i,Hp.le_trans a a2,g,λ_ _ j=>c _ _ (h _ _ j)⟩
def kR (q:Addr) (own:Sl) (n:Nat) (y:dv) (b:Nat->Int):dI:=.some_ λx:bg=>.some_ λlp:Addr=>.some_ λa:Addr=>
 ((dk xu q x).star ((dU 3 Fy x.log y.log).star ((nB lp y.aB y.av).star (tH a b (2*n))))).star (.fact (x.procs=own/\x.ah=y.ah/\x.lost=y.lost/\x.forbidden=y.forbidden/\x.ae=some lp/\x.dY=some a))
def qk (q:Addr) (p i:Nat) (code:Sl) (room:Int) (y:ak):dI:=.some_ λz:aO=>.some_ λa:Addr=>
 ((dk bm q z).star (dX a room y.aj y.ah)).star (.fact (z.dG=(p:Int)/\z.part=(i:Int)/\z.code=code/\z.state=y.state/\gG (eu z)=y.core/\z.bL=y.bL/\z.post=some a))
theorem Has.Bg {q lp a:Addr} {x:bg} {n:Nat} {y:dv} {b:Nat->Int} (o:Has h0 ((((nB lp y.aB y.av).star (dU 3 Fy x.log y.log)).star (tH a b (2*n))).star (dk xu q x)) k)
  (e:x.ah=y.ah/\x.lost=y.lost/\x.forbidden=y.forbidden/\x.ae=some lp/\x.dY=some a):Has h0 (kR q x.procs n y b) k:=by
 refine Has.ex.2 ⟨x,Has.ex.2 ⟨lp,Has.ex.2 ⟨a,Has.fB ?_ ⟨rfl,e⟩⟩⟩⟩;refine o.map λc F h=> ?_;exact zm (λ_ h=>h) (λ_ h=>LU (zm (λ_ h=>E2 h) (λ_ h=>h) h)) (E2 h)
theorem Has.Bh {q a:Addr} {z:aO} {room:Int} {p i:Nat} {y:ak} (o:Has h0 ((dX a room y.aj y.ah).star (dk bm q z)) k)
  (e:z.dG=(p:Int)/\z.part=(i:Int)/\z.state=y.state/\gG (eu z)=y.core/\z.bL=y.bL/\z.post=some a):Has h0 (qk q p i z.code room y) k:=
 Has.ex.2 ⟨z,Has.ex.2 ⟨a,Has.fB o.comm ⟨e.1,e.2.1,rfl,e.2.2⟩⟩⟩
theorem Lt {q:Addr} {own:Sl} {n id:Nat} {y:dv} {a:Nat->Int} {v:Int} {g:FuncId} {args:List Value} {K:Hp->Prop} (o:Has h0 (kR q own n y a) k) (B:n<=1000) (hid:id<2*n) (C:a id=0) (hv:0<=v)
  (m:∀ {Q:Int->Hp->Prop},Q (id:Int) k->aa prog g args (af .i64) Q k) (c:∀b,Has h0 (kR q own n y (cp a id v)) b->K b):
  (if (decide (v>(0:Int)))=true then
 ai none (some q) λf=>
 aR none ag k (Addr.add f 6) λi=>
 aa prog g args (af .i64) (λu d=>
 (((bf d (Addr.add f 6) [(.pointer i)])/\(True/\True))/\aa prog xt [(.pointer i),(.int .i64 u),(.int .i64 v)] (af .i64) (λH l=>
 K l) d)) k
 else
 K k):=by
 by_cases h:v>0
 ·rw [if_pos (decide_eq_true h)];obtain ⟨x,o⟩:=Has.ex.1 o;obtain ⟨lp,o⟩:=Has.ex.1 o;obtain ⟨w,o⟩:=Has.ex.1 o;obtain ⟨o,e⟩:=o.j6;refine aP ((Has.left o).ld (shf:=ag) x.dY rfl ?_);refine m ⟨⟨(Has.left o).fb (off:=6) (n:=1) (vs:=[.pointer x.dY]) rfl,trivial,trivial⟩,?_⟩;obtain ⟨z,D,r,_,put⟩:=o.snd;obtain ⟨A,E,s,t⟩:=r.f3;rw [e.2.2.2.2.2];refine VJ (DL s (by omega) hid h λb p=>c b ?_);exact Has.ex.2 ⟨x,Has.ex.2 ⟨lp,Has.ex.2 ⟨w,(put _ _ (t _ _ p)).fB e⟩⟩⟩
 ·rw [if_neg (by simpa using h)];have:v=0:=by omega
  subst this;rw [show cp a id 0=a from funext λj=>by unfold cp;split<;>simp_all] at c;exact c k o
def At (c:aE) (i j:Nat):List Nat:=(List.range j).filter λq=>decide (az c q=i)
theorem MR {c:aE} {i j:Nat}:At c i (j+1)=if az c j=i then At c i j++ [j] else At c i j:=by unfold At;rw [List.range_succ,List.filter_append];grind
end
structure xF (c:aE) (t:fT):Prop where
 parts:t.parts.length=nP c
 procs:t.procs.length=nQ c
 part:∀x∈t.parts,Jv x.aB x.av/\x.log.length<=4096
 proc:∀x∈t.procs,x.aj.length=nP c+1/\(0<=x.ah/\x.ah<x.aj.length)/\(∀l∈x.aj,OJ c.lane l)/\0<=x.timer/\0<=x.cv
section
variable {h0 h1 k:Hp} {c:aE} {t:fT}
abbrev zO (c:aE) (t:fT) (g:List Addr) (own:Nat->Sl) (m:Nat->Nat->Int) (i:Nat):dI:=dI.first (λi=>kR (g.getD i a0) (own i) (nQ c) (t.parts.getD i lP) (m i)) i
abbrev Cc (c:aE) (t:fT) (u:List Addr) (code:Nat->Sl) (j:Nat):dI:=dI.first (λp=>qk (u.getD p a0) p (az c p) (code p) c.lane (t.procs.getD p oX)) j
abbrev yb (c:aE) (own:Nat->Sl) (j i:Nat):dI:=dI.first (λi=>dU 1 fE (own i) ((At c i j).map λ(q:Nat)=>(q:Int))) i
abbrev mu (c:aE) (t:fT) (pm:Addr) (x:aW) (g u:List Addr) (own code:Nat->Sl) (i j:Nat) (m:Nat->Nat->Int):dI:=
 uF (dk IY pm x) (zO c t g own m i) (Cc c t u code j) (dU 1 eP x.parts g) (dU 1 eP x.procs u) (yb c own j i)
def u7 (x:aW) (l:Sl):aW:={x with parts:=l}
def pX (x:aW) (l:Sl):aW:={x with procs:=l}
variable {pm:Addr} {x:aW} {g u:List Addr} {own code:Nat->Sl} {m:Nat->Nat->Int}
theorem MT {b:Type} {l:List b} {a d:b} {i:Nat} (h:i=l.length):(l++ [a]).getD i d=a:=by grind
theorem ZD {s:aD} {i:Nat} {Q:Hp->Prop} (b:dq h0 s t) (v:xF c t) (mc:cf c) (hi:i<nP c) (hp:g.length=i) (ex:x.procs=⟨none,0,0⟩)
  (o:Has h0 (mu c t pm x g [] (λ_=>⟨none,0,0⟩) code i 0 (λ_ _=>0)) k)
  (X:∀l a K,Has h0 (mu c t pm (u7 x l) (g++ [a]) [] (λ_=>⟨none,0,0⟩) code (i+1) 0 (λ_ _=>0)) K->Q K):
  ((bF s.bZ.base s.bZ.len (i:Int))/\aR none cg k (sat s.bZ.base 6 (i:Int)) λx=>
 bu prog Oq [x.eO.v,x.dO.v] ag (af .i64) (λr7 r8 F=>
 ai none (some pm) λd=>
 aR none au F (Addr.add d 10) λe=>
 aa prog If [x.Log.v] au (λr9 G=>
 (((bf G (Addr.add d 10) [e.v])/\(True/\(True/\(True/\True))))/\aa prog BK [] ag (λb7 C=>
 (((bf C (Addr.add d 10) [e.v])/\(True/\(True/\(True/\True))))/\bh [(.slice none 0 0),(.int .i64 x.Cursor),r9.v,(.int .i64 x.nX),(.int .i64 x.eN),(.pointer r7),(.pointer b7)] (λa1 D=>
 (((bf D (Addr.add d 10) [e.v])/\True)/\bh [(.pointer (some a1))] (λa2 E=>
 (((bf E (Addr.add d 10) [e.v])/\True)/\fu 1 8 [(.pointer none)] e ⟨(some a2),1,1⟩ (λb8 U=>
 ai none (some pm) λp3=>
 cJ U (Addr.add p3 10) [b8.v] (λV=>
 Q V)) E)) D)) C)) G)) F) k):=by
 obtain ⟨ps,Z,H⟩:=b.parts;have c1:=H.len;have e1:=v.parts;have c0:=mc.parts;refine pF (sh:=cg) (Rw.mono o.le Z) λ(y:cc) I=> ?_;rw [Int.toNat_natCast] at I;obtain ⟨z,J,f⟩:=H.get I;have b0:=List.mem_of_getElem? J;obtain ⟨lv,h⟩:=v.part z b0;have r:=f.mono o.le;obtain ⟨qs,a9,a8⟩:=r.av;refine UY (R7 lv r.aB a9 a8 λlp k2 L o2=> ?_);have on:=o.grow L;obtain ⟨g1,m1,p,j8⟩:=on.sR;refine aP (p.ld (shf:=au) x.parts rfl ?_);have R:=r.mono L;obtain ⟨T,W,Y⟩:=R.log;have b9:T.length=z.log.length:=by grind
 refine zdo ?_;unfold Qu;refine xA (enc:=λx=>bp (dK.enc x)) (bG.bO 83 Bz rfl) W (by decide) (λ_=>rfl) (λ_=>rfl) rfl ⟨by omega,by omega⟩ λh k3 A B=> ?_;refine ⟨⟨(p.grow A).fb (off:=10) (n:=1) (vs:=[x.parts.v]) rfl,trivial,trivial,trivial,trivial⟩,?_⟩;have B:Has k2 (dU 3 Fy h z.log) k3:=by rw [<-Y];exact B.vY.F6 AR λ_=>rfl
 refine U0 (Si (n:=2*nQ c) λP k4 M o4=> ?_);refine ⟨⟨((p.grow A).grow M).fb (off:=10) (n:=1) (vs:=[x.parts.v]) rfl,trivial,trivial,trivial,trivial⟩,?_⟩;refine se (sh:=xu) (⟨⟨none,0,0⟩,y.Cursor,h,y.nX,y.eN,some lp,some P⟩:bg) rfl λq k5 l5 o5=> ?_;refine ⟨⟨(((p.grow A).grow M).grow l5).fb (off:=10) (n:=1) (vs:=[x.parts.v]) rfl,trivial⟩,?_⟩;have oN:Has k (kR q ⟨none,0,0⟩ (nQ c) z (λ_=>0)) k5:=Has.Bg (x:=(⟨⟨none,0,0⟩,y.Cursor,h,y.nX,y.eN,some lp,some P⟩:bg)) (((o2.beside B).beside o4).beside o5) ⟨f.ah,f.lost,f.forbidden,rfl,rfl⟩;obtain ⟨g2,m2,oF,b3⟩:=o.sF;have O:=b3 _ _ (oF.beside oN);refine mL (enc:=eP) (xs:=[q]) rfl (λ_=>rfl) λa2 k6 N o6=> ?_;obtain ⟨g3,m3,b1,_⟩:=(O.grow N).sR;refine ⟨⟨b1.fb (off:=10) (n:=1) (vs:=[x.parts.v]) rfl,trivial⟩,?_⟩;obtain ⟨g4,m4,oS,b5⟩:=(O.grow N).sS;refine oS.app (o6.kM λ_=>rfl) (λ_=>rfl) (λ_=>rfl) rfl ⟨by rw [hp,List.length_singleton];omega,by rw [hp,List.length_singleton];omega⟩ λw k7 o7=> ?_;have oB:=b5 _ _ o7;obtain ⟨g5,m5,b2,b4⟩:=oB.sR;refine aP (b2.st (u7 x w) (off:=10) (new:=[w.v]) (by show 10+1<=12;omega) rfl λk8 o8=>X w q k8 ?_);have oC:=b4 _ _ o8;obtain ⟨g6,m6,oU,b6⟩:=oC.sU;have oD:=b6 _ _ (oU.beside (Has.ku (sz:=1) (enc:=fE) (Hp.le_refl _)));refine cast ?_ oD;congr 1;have S:(zO c t g (λ_=>⟨none,0,0⟩) (λ_ _=>0) i).star (kR q ⟨none,0,0⟩ (nQ c) z λ_=>0)=zO c t (g++ [q]) (λ_=>⟨none,0,0⟩) (λ_ _=>0) (i+1):=by show _=(dI.first (λi=>kR ((g++ [q]).getD i a0) ⟨none,0,0⟩ (nQ c) (t.parts.getD i lP) λ_=>0) i).star (kR ((g++ [q]).getD i a0) ⟨none,0,0⟩ (nQ c) (t.parts.getD i lP) λ_=>0);rw [MT hp.symm,nT J];congr 1;exact uq λj hj=>by grind
 rw [S];rfl
theorem ZE {s:aD} {co:an} {j:Nat} {ci:List aU} {Q:Hp->Prop} (b:dq h0 s t) (v:xF c t) (K:cf c) (R:j<nQ c) (hp:u.length=j) (i9:g.length=nP c)
  (c1:co.gH=c.lane) (c8:Rs h0 bA 2 x.gC ci) (b2:cZ (jY h0) ci c.procs) (c9:∀(p:Nat) y,ci[p]? =some y->code p=y.Code)
  (S:∀i id,i<nP c->m i id=if id / 2<j then nU c (bN t) i id else 0)
  (o:Has h0 (mu c t pm x g u own code (nP c) j m) k)
  (hk:∀l a e9 b5 k',(∀i id,i<nP c->b5 i id=if id / 2<j+1 then nU c (bN t) i id else 0)->Has h0 (mu c t pm (pX x l) g (u++ [a]) e9 code (nP c) (j+1) b5) k'->Q k'):
  ((bF s.aG.base s.aG.len (j:Int))/\aR none bB k (sat s.aG.base 15 (j:Int)) λx=>
 ai none (some pm) λp2=>
 aR none au k (Addr.add (Addr.add p2 0) 6) λY=>
 ((bF Y.base Y.len (j:Int))/\aR none bA k (sat Y.base 2 (j:Int)) λM=>
 bu prog OB [(.int .i64 co.gH),x.fL.v,(.int .i64 x.Cursor)] ag (af .i64) (λr7 r8 h9=>
 ai none (some pm) λW=>
 aR none au h9 (Addr.add W 11) λZ=>
 bh [(.int .i64 (j:Int)),(.int .i64 M.Part),M.Code.v,(.int .i64 x.State),(.int .i64 x.PC),(.int .i64 x.cw),(.int .i64 x.cx),(.int .i64 x.cC),(.int .i64 x.cD),(.int .i64 x.cE),(.int .i64 x.cF),(.int .i64 x.cG),(.int .i64 x.cH),(.bool x.km),(.pointer r7)] (λa1 a9=>
 (((bf a9 (Addr.add W 11) [Z.v])/\True)/\bh [(.pointer (some a1))] (λa2 b0=>
 (((bf b0 (Addr.add W 11) [Z.v])/\True)/\fu 1 8 [(.pointer none)] Z ⟨(some a2),1,1⟩ (λr9 c4=>
 ai none (some pm) λp4=>
 cJ c4 (Addr.add p4 11) [r9.v] (λI=>
 ai none (some pm) λp5=>
 aR none au I (Addr.add p5 10) λx4=>
 ((bF x4.base x4.len M.Part)/\aR none ag I (sat x4.base 1 M.Part) λN=>
 ai none N λp6=>
 aR none au I (Addr.add p6 0) λx6=>
 bh [(.int .i64 (j:Int))] (λa3 c5=>
 fu 1 8 [(.int .i64 (0:Int))] x6 ⟨(some a3),1,1⟩ (λh2 c6=>
 ai none N λp7=>
 cJ c6 (Addr.add p7 0) [h2.v] (λO=>
 cL (λk1=>
 (if (decide (x.Timer>(0:Int)))=true then
 ai none N λF=>
 aR none ag O (Addr.add F 6) λG=>
 aa prog xv [(.int .i64 (j:Int))] (af .i64) (λX C=>
 (((bf C (Addr.add F 6) [(.pointer G)])/\(True/\True))/\aa prog xt [(.pointer G),(.int .i64 X),(.int .i64 x.Timer)] (af .i64) (λh3 J=>
 k1 J) C)) O
 else
 k1 O))
 (λC=>
 (if (decide (x.n8>(0:Int)))=true then
 ai none N λF=>
 aR none ag C (Addr.add F 6) λG=>
 aa prog yn [(.int .i64 (j:Int))] (af .i64) (λX J=>
 (((bf J (Addr.add F 6) [(.pointer G)])/\(True/\True))/\aa prog xt [(.pointer G),(.int .i64 X),(.int .i64 x.n8)] (af .i64) (λh3 c7=>
 Q c7) J)) C
 else
 Q C)))) c5) I))) b0)) a9)) h9) k)):=by
 obtain ⟨ps,d4,b1⟩:=b.procs;have i6:=b1.len;have e1:=v.procs;have i5:=K.parts;have i7:=K.procs;refine pF (sh:=bB) (Rw.mono o.le d4) λ(y:br) hy=> ?_;rw [Int.toNat_natCast] at hy;obtain ⟨z,T,A⟩:=b1.get hy;have d5:=List.mem_of_getElem? T;obtain ⟨v1,v2,v3,v4,v5⟩:=v.proc z d5;obtain ⟨g1,m1,V,j8⟩:=o.sR;refine aP (V.ld (shf:=au) x.gC (off:=6) rfl ?_);have i1:=b2.len;have i3:nQ c=c.procs.length:=rfl;refine pF (sh:=bA) (Rw.mono o.le c8) λ(H:aU) P=> ?_;rw [Int.toNat_natCast] at P;obtain ⟨E,b3,b7,_⟩:=b2.get P;have d0:=List.mem_of_getElem? b3;have i4:=K.part E d0;have h5:az c j=E.part.toNat:=by unfold az;rw [b3];rfl
 have b9:=c9 j H P;rw [b7];have b6:=A.mono o.le;obtain ⟨ls,d3,d1⟩:=b6.aj;have d2:=K.lane;rw [c1,A.ah];refine Ws (Uh d2 (by omega) v2 d3 d1 v3 λa k2 l2 o2=> ?_);refine aP ((V.grow l2).ld (shf:=au) x.procs rfl ?_);refine se (sh:=bm) (⟨(j:Int),E.part,H.Code,y.State,y.PC,y.cw,y.cx,y.cC,y.cD,y.cE,y.cF,y.cG,y.cH,y.km,some a⟩:aO) rfl λq k3 l3 o3=> ?_;refine ⟨⟨((V.grow l2).grow l3).fb (off:=11) (n:=1) (vs:=[x.procs.v]) rfl,trivial⟩,?_⟩;have c0:gG (eu (⟨(j:Int),E.part,H.Code,y.State,y.PC,y.cw,y.cx,y.cC,y.cD,y.cE,y.cF,y.cG,y.cH,y.km,some a⟩:aO))=z.core:=by show (⟨y.PC,[y.cw,y.cx,y.cC,y.cD,y.cE,y.cF,y.cG,y.cH]⟩:Core)=⟨z.pc,z.bw⟩;rw [A.pc,A.bw]
 have oN:Has k (qk q j (az c j) (code j) c.lane z) k3:=by rw [b9];exact Has.Bh (z:=(⟨(j:Int),E.part,H.Code,y.State,y.PC,y.cw,y.cx,y.cC,y.cD,y.cE,y.cF,y.cG,y.cH,y.km,some a⟩:aO)) (o2.beside o3) ⟨rfl,by grind,A.state,c0,A.bL,rfl⟩
 obtain ⟨g2,m2,oG,f4⟩:=o.sG;have oA:=f4 _ _ (oG.beside oN);refine mL (enc:=eP) (xs:=[q]) rfl (λ_=>rfl) λa2 k4 l4 o4=> ?_;obtain ⟨g3,m3,e6,_⟩:=(oA.grow l4).sR;refine ⟨⟨e6.fb (off:=11) (n:=1) (vs:=[x.procs.v]) rfl,trivial⟩,?_⟩;obtain ⟨g4,m4,oT,f8⟩:=(oA.grow l4).sT;refine oT.app (o4.kM λ_=>rfl) (λ_=>rfl) (λ_=>rfl) rfl ⟨by rw [hp,List.length_singleton];omega,by rw [hp,List.length_singleton];omega⟩ λU k5 o5=> ?_;have oB:=f8 _ _ o5;obtain ⟨g5,m5,e7,f7⟩:=oB.sR;refine aP (e7.st (pX x U) (off:=11) (new:=[U.v]) (by show 11+1<=12;omega) rfl λk6 o6=> ?_);have L:=f7 _ _ o6;obtain ⟨g6,m6,e8,l6⟩:=L.sR;refine aP (e8.ld (shf:=au) x.parts rfl ?_);have D:az c j<nP c:=by omega
 obtain ⟨g7,m7,oS,_⟩:=L.sS;have rs:Rs k6 ag 1 x.parts (g.map some):=(oS.kM (λ_=>rfl)).map (f:=some) (enc:=λx=>bp (ag.enc x));refine rs.get (λ_=>rfl) (by omega) (by omega) (by grind) λ(w:Option Addr) hw=> ?_;have ew:w=some (g.getD (az c j) a0):=by grind
 subst ew;obtain ⟨g8,m8,oF,l1⟩:=L.sF;obtain ⟨g9,m9,d,_,l5⟩:=oF.one D;obtain ⟨px,d⟩:=Has.ex.1 d;obtain ⟨lp,d⟩:=Has.ex.1 d;obtain ⟨wp,d⟩:=Has.ex.1 d;obtain ⟨d,eP⟩:=d.j6;refine aP ((Has.left d).ld (shf:=au) (off:=0) px.procs rfl ?_);rw [eP.1];obtain ⟨h6,j0,oU,f9⟩:=L.sU;obtain ⟨h7,j1,oO,_,gx⟩:=oU.one D;have i2:((At c (az c j) j).map λ(q:Nat)=>(q:Int)).length<=j:=by rw [List.length_map];exact Nat.le_trans (List.length_filter_le ..) (by simp)
 refine oO.push (e:=(j:Int)) rfl (λ_=>rfl) (λ_=>rfl) rfl ⟨by omega,by omega⟩ λB k7 o7=> ?_;have oD:=f9 _ _ (gx _ _ o7);obtain ⟨h8,j2,d9,f0⟩:=oD.sF;obtain ⟨c3,k0,r,_,f5⟩:=d9.one D;obtain ⟨g0,r⟩:=Has.ex.1 r;obtain ⟨d7,r⟩:=Has.ex.1 r;obtain ⟨h4,r⟩:=Has.ex.1 r;obtain ⟨r,b8⟩:=r.j6;obtain ⟨i0,l0,e0,_,f6⟩:=r.fst;refine aP (e0.st ({g0 with procs:=B}:bg) (off:=0) (new:=[B.v]) (by show 0+1<=7;omega) rfl λk8 o8=> ?_);have oQ:Has c3 (kR (g.getD (az c j) a0) B (nQ c) (t.parts.getD (az c j) lP) (m (az c j))) k8:=Has.ex.2 ⟨_,Has.ex.2 ⟨d7,Has.ex.2 ⟨h4,(f6 _ _ o8).fB ⟨rfl,b8.2⟩⟩⟩⟩;have c2:=S (az c j);refine cL.direct ?_;rw [A.timer];refine Lt (id:=2*j) oQ (by omega) (by omega) (by grind) v4 (λh=>I0 (by unfold NZ;rw [aT];grind)) λk9 o9=> ?_;rw [A.cv];refine Lt (id:=2*j+1) o9 (by omega) (by omega) (by rw [kA (by omega),c2 _ D,if_neg (by omega)]) v5 (λh=>I1 (by unfold N0;rw [show yw (2*(j:Int))=2*(j:Int) from aT,aT];grind)) λd6 d8=> ?_;have oE:=f0 _ _ (f5 _ _ d8);have a8:(bN t).proc j=z:=nT T;refine hk U q (cp own (az c j) B) (cp m (az c j) (cp (cp (m (az c j)) (2*j) z.timer) (2*j+1) z.cv)) d6 (λi id b4=> ?_) ?_
 ·by_cases e:i=az c j
  ·subst e;rw [ki];by_cases e2:id=2*j+1
   ·subst e2;rw [ki,if_pos (by omega)];unfold nU;rw [show (2*j+1) / 2=j by omega,if_pos ⟨R,rfl⟩,if_neg (by omega),a8]
   ·rw [kA e2];by_cases e3:id=2*j
    ·subst e3;rw [ki,if_pos (by omega)];unfold nU;rw [show (2*j) / 2=j by omega,if_pos ⟨R,rfl⟩,if_pos (by omega),a8]
    ·rw [kA e3,S _ _ b4];omega
  ·rw [kA e,S _ _ b4];by_cases e4:id / 2<j
   ·omega
   ·rw [if_neg e4];split
    ·unfold nU;rw [if_neg ?_];rintro ⟨_,e5⟩;exact e (by rw [<-e5];congr 1;omega)
    ·rfl
 ·refine cast ?_ oE;congr 1;have eG:(Cc c t u code j).star (qk q j (az c j) (code j) c.lane z)=Cc c t (u++ [q]) code (j+1):=by show _=(dI.first (λp=>qk ((u++ [q]).getD p a0) p (az c p) (code p) c.lane (t.procs.getD p oX)) j).star (qk ((u++ [q]).getD j a0) j (az c j) (code j) c.lane (t.procs.getD j oX));rw [MT hp.symm,nT T];congr 1;exact uq λj R=>by grind
  have eU:dI.first (cp (λi=>dU 1 fE (own i) ((At c i j).map λ(q:Nat)=>(q:Int))) (az c j) (dU 1 fE B ((At c (az c j) j).map (λ(q:Nat)=>(q:Int))++ [(j:Int)]))) (nP c)=yb c (cp own (az c j) B) (j+1) (nP c):=by
   refine uq λi D=> ?_;by_cases e:i=az c j
   ·subst e;rw [ki,ki,MR,if_pos rfl,List.map_append];rfl
   ·rw [kA e,kA e,MR,if_neg (Ne.symm e)]
  have eF:dI.first (cp (λi=>kR (g.getD i a0) (own i) (nQ c) (t.parts.getD i lP) (m i)) (az c j) (kR (g.getD (az c j) a0) B (nQ c) (t.parts.getD (az c j) lP) (cp (cp (m (az c j)) (2*j) z.timer) (2*j+1) z.cv))) (nP c)=zO c t g (cp own (az c j) B) (cp m (az c j) (cp (cp (m (az c j)) (2*j) z.timer) (2*j+1) z.cv)) (nP c):=by
   refine uq λi D=> ?_;by_cases e:i=az c j
   ·subst e;rw [ki,ki,ki]
   ·rw [kA e,kA e,kA e]
  rw [eG,eU,eF];rfl
theorem U1 {x:an} {s:aD} {Q:Option Addr->Hp->Prop} (a:fo k x c) (b:dq k s t) (hu:∀l∈c.labels,kQ l) (I:(fV c).1=0) (v:xF c t)
  (hq:∀K pm m h1 d,K.c=c->dF h1 K->k<=h1->Has h1 (aF K pm (bN t) m) d->eR c m (bN t)->Q (some pm) d):Yi prog x s Q k:=by
 have G:=pn I;have hm:(jF c.labels).1=0:=by unfold fV at I;exact (jI.1 I).1
 unfold Yi;have d0:=G.parts;have d2:=G.procs;have b0:=G.table;have c8:nP c=c.labels.length:=rfl;have d1:nQ c=c.procs.length:=rfl;refine P6 (QF a (by omega) (by omega) (by omega) (λy L=>by have:=(G.code y L).1;omega) λr T o1 e1 e2 e3 e4=> ?_);refine ⟨⟨trivial,trivial⟩,?_⟩;obtain ⟨B,hB,_⟩:=(Ft o1 e1 e2 e3 e4).Z6;have U:=o1.le;have ar:fo T r c:=hB.rd;have a1:=a.mono U;have c9:x.aN.len=c.labels.length:=a.labels.1;refine se (sh:=IY) (⟨r.aN,r.Table,r.Fuel,r.gH,r.bQ,r.Log,r.aG,none,none,s.fg,⟨none,0,0⟩,⟨none,0,0⟩⟩:aW) rfl λpm k2 q o2=> ?_;refine CJ (s1:=ag) (s2:=af .i64) (s3:=af .i64) (K0:=λp _ _ z=>T<=z/\∃w,p=some w/\sC z w c.labels) o2 (UW (T9 a1.labels (λe=>absurd hm e) λ_ w z E ht=>⟨E,w,rfl,ht⟩)) ?_;rintro r1 r2 r3 h3 k3 ⟨l3,w,rfl,hT⟩ o3;refine aP (o3.st (⟨r.aN,r.Table,r.Fuel,r.gH,r.bQ,r.Log,r.aG,some w,none,s.fg,⟨none,0,0⟩,⟨none,0,0⟩⟩:aW) (off:=7) (new:=[.pointer (some w)]) (by show 7+1<=12;omega) rfl λk4 o4=> ?_);have a3:=a1.mono l3;refine CJ (s1:=ag) (s2:=af .i64) (s3:=af .i64) (K0:=λp _ _ z=>h3<=z/\∃sp,p=some sp/\∃(sl:Sl) (n:Int),bf z sp [sl.v,.int .i64 n]/\Is z sl c.table) o4 (H5 (Xx a3.table (n:=(x.aN.len:Int)) (by omega) (by omega) b0.1 b0.2.1 (λi J=>by grind) λsp i sl z E hl hs=>⟨E,sp,rfl,sl,_,hl,hs⟩)) ?_;rintro r4 r5 r6 A k5 ⟨l5,sp,rfl,sl,sn,hL,hS⟩ o5;refine aP (o5.st (⟨r.aN,r.Table,r.Fuel,r.gH,r.bQ,r.Log,r.aG,some w,some sp,s.fg,⟨none,0,0⟩,⟨none,0,0⟩⟩:aW) (off:=8) (new:=[.pointer (some sp)]) (by show 8+1<=12;omega) rfl λD o6=> ?_);have V:T<=A:=Hp.le_trans l3 l5;have H:dq A s t:=b.mono (Hp.le_trans U V);have Z:=ar.mono V;obtain ⟨ci,b4,P⟩:=Z.procs;obtain ⟨code,b6⟩:∃code:Nat->Sl,∀(p:Nat) y,ci[p]? =some y->code p=y.Code:=⟨λp=>((ci[p]?).map (·.Code)).getD ⟨none,0,0⟩,λp y h=>by grind⟩;obtain ⟨X,C⟩:∃X:aW,X=⟨r.aN,r.Table,r.Fuel,r.gH,r.bQ,r.Log,r.aG,some w,some sp,s.fg,⟨none,0,0⟩,⟨none,0,0⟩⟩:=⟨_,rfl⟩;rw [<-C] at o6;have c7:=P.len;have Bq:Has A (mu c t pm X [] [] (λ_=>⟨none,0,0⟩) code 0 0 (λ_ _=>0)) D:=by
  have f1:Has D (dI.fact True) D:=Has.fact trivial (Hp.le_refl _);have n1:Has D (dU 1 eP X.parts []) D:=by rw [C];exact Has.ku (Hp.le_refl _)
  have n2:Has D (dU 1 eP X.procs []) D:=by grind
  exact (o6.beside (f1.beside f1)).beside (n1.beside (n2.beside f1))
 obtain ⟨ps,c0,b3⟩:=H.parts;obtain ⟨qs,c2,c1⟩:=H.procs;have e5:=b3.len;have e6:=c1.len;have e7:=v.parts;have e8:=v.procs;have e9:s.bZ.len=ps.length:=c0.1;have c6:s.aG.len=qs.length:=c2.1;refine aA.intro (λ(i:Int) d=>0<=i/\i<=(nP c:Int)/\∃(l:Sl) (g:List Addr),g.length=i.toNat/\Has A (mu c t pm (u7 X l) g [] (λ_=>⟨none,0,0⟩) code i.toNat 0 (λ_ _=>0)) d) (λi _=>(nP c-i).toNat) ⟨by omega,by omega,X.parts,[],rfl,Bq⟩ ?_;rintro i k7 ⟨i0,i1,l,g,hp,o⟩;by_cases h:i<(nP c:Int)
 ·rw [if_pos (iV)];have a8:((i.toNat:Nat):Int)=i:=by omega
  have key:=ZD (x:=u7 X l) (i:=i.toNat) (Q:=λd=>(0<=yw (i+1)/\yw (i+1)<=(nP c:Int)/\∃(l:Sl) (g:List Addr),g.length=(yw (i+1)).toNat/\Has A (mu c t pm (u7 X l) g [] (λ_=>⟨none,0,0⟩) code (yw (i+1)).toNat 0 (λ_ _=>0)) d)/\(nP c-yw (i+1)).toNat<(nP c-i).toNat) H v G (by omega) hp (by rw [C];rfl) o λE N d W=>by rw [aT];refine ⟨⟨by omega,by omega,E,g++ [N],by rw [List.length_append,List.length_singleton];omega,?_⟩,by omega⟩;rw [show (i+1).toNat=i.toNat+1 by omega];exact W
  grind
 ·rw [if_neg (λe=>h (by grind))];have ei:i.toNat=nP c:=by omega
  rw [ei] at o hp;refine aA.intro (λ(j:Int) d=>0<=j/\j<=(nQ c:Int)/\∃(q:Sl) (u:List Addr) (own:Nat->Sl) (m:Nat->Nat->Int),u.length=j.toNat/\(∀i id,i<nP c->m i id=if id / 2<j.toNat then nU c (bN t) i id else 0)/\Has A (mu c t pm (pX (u7 X l) q) g u own code (nP c) j.toNat m) d) (λj _=>(nQ c-j).toNat) ⟨by omega,by omega,X.procs,[],λ_=>⟨none,0,0⟩,λ_ _=>0,rfl,λ_ _ _=>(by simp),o⟩ ?_;rintro j k8 ⟨j0,j1,q,u,own,m,R,S,o⟩;by_cases hj:j<(nQ c:Int)
  ·rw [if_pos (iV)];have a8:((j.toNat:Nat):Int)=j:=by omega
   refine cL.direct ?_;have key:=ZE (x:=pX (u7 X l) q) (j:=j.toNat) (Q:=λd=>(0<=yw (j+1)/\yw (j+1)<=(nQ c:Int)/\∃(q:Sl) (u:List Addr) (own:Nat->Sl) (m:Nat->Nat->Int),u.length=(yw (j+1)).toNat/\(∀i id,i<nP c->m i id=if id / 2<(yw (j+1)).toNat then nU c (bN t) i id else 0)/\Has A (mu c t pm (pX (u7 X l) q) g u own code (nP c) (yw (j+1)).toNat m) d)/\(nQ c-yw (j+1)).toNat<(nQ c-j).toNat) H v G (by omega) R hp a.lane (by rw [C];exact b4) P b6 S o λE N c4 c5 d c3 W=>by rw [aT,show (j+1).toNat=j.toNat+1 by omega];exact ⟨⟨by omega,by omega,E,u++ [N],c4,c5,by grind,c3,W⟩,by omega⟩
   rw [a8] at key;exact key
  ·rw [if_neg (λe=>hj (by grind))];have ej:j.toNat=nQ c:=by omega
   rw [ej] at o R S;obtain ⟨O,F,o9,⟨F2,b2,b8⟩,_⟩:=o.fst;have Y:Has A ((dU 1 eP (pX (u7 X l) q).parts g).star ((dU 1 eP (pX (u7 X l) q).procs u).star (yb c own (nQ c) (nP c)))) O:=⟨F,F2,b2,b8⟩;have b1:=Z.mono F;have a9:∀p:Nat,∃M:List aK,∀y,ci[p]? =some y->mV O y.Code M/\M.map bd=gF c p:=λp=>by
    cases L:ci[p]? with
    | none=>simp
    | some y=>obtain ⟨cz,b7,_,M,h1,h2⟩:=P.get L;refine ⟨M,λy' e=> ?_⟩;cases e;exact ⟨Rw.mono F h1,by rw [h2];unfold gF;rw [b7];rfl⟩
   obtain ⟨ins,a9⟩:=Classical.axiomOfChoice a9;refine hq ⟨c,pX (u7 X l) q,w,sp,g,u,own,code,ins⟩ pm m O k8 rfl ?_ (Hp.le_trans (Hp.le_trans U V) F) ?_ (λi id J=> ?_)
   ·refine ⟨I,hu,?_,by rw [C];rfl,hT.mono (Hp.le_trans l5 F),by rw [C];rfl,⟨sl,sn,pk F hL,Rw.mono F hS⟩,hp,(Y.left.kM λ_=>rfl).map (f:=some) (enc:=λx=>bp (ag.enc x)),R,(Y.right.left.kM λ_=>rfl).map (f:=some) (enc:=λx=>bp (ag.enc x)),λi J=> ?_,λp hp=> ?_,λp hp=>G.fi⟩
    ·rw [C];exact b1
    ·exact ((Y.right.right.at_ J).kM λ_=>rfl)
    ·have b9:p<ci.length:=by have:p<nQ c:=hp;omega
     have L:=List.getElem?_eq_getElem b9;grind
   ·have et:rX (pX (u7 X l) q) (bN t).tick=pX (u7 X l) q:=by
     have e:X.tick=(bN t).tick:=by rw [C];exact b.tick
     rw [<-e];rfl
    unfold aF;dsimp only;rw [et];exact o9
   ·rw [S i id J];split
    ·rfl
    ·unfold nU;omega
end
section
variable {c:aE} {fl:Nat->Nat->Bool} {t:fT} {T:Int}
theorem U3 (m:cf c) (g:Good c fl (bN t) No No T) (hp:t.parts.length=nP c) (H:t.procs.length=nQ c):xF c t:=by
 have v:=g.qU m;have B:∀i x,t.parts[i]? =some x->i<nP c/\(bN t).part i=x:=λi x h=>⟨by grind,nT h⟩;have C:∀i x,t.procs[i]? =some x->i<nQ c/\(bN t).proc i=x:=λi x h=>⟨by grind,nT h⟩;have R:=m.ae;refine ⟨hp,H,λx j=> ?_,λx j=> ?_⟩
 ·obtain ⟨i,b⟩:=List.mem_iff_getElem?.1 j;obtain ⟨a,rfl⟩:=B i x b;have sp:=v.part i a;have pm:=g.part i a;refine ⟨⟨⟨sp.ij,by have:=pm.ij;omega⟩,λo s=> ?_,λk o q s u=> ?_,λJ K q L n D S z d I=> ?_⟩,sp.kG⟩
  ·obtain ⟨k,E⟩:=List.mem_iff_getElem?.1 s;rcases g.own i a k o E with h | h<;>omega
  ·obtain ⟨w,y,A⟩:=g.jf i a k q u;refine ⟨sp.mR.2 q (List.mem_of_getElem? u),λe=> ?_,λz d=>⟨(y z d).1,λe=> ?_⟩,w⟩
   ·grind
   ·obtain ⟨W,n,_,Q⟩:=A (List.ne_nil_of_mem d);grind
  ·have M:=(g.jf i a J q n).2.1 z I;have N:=(g.jf i a K L D).2.1 z d;rcases M.2.2.2.2 with h | ⟨_,U,a1,_,a3⟩
   ·exact h
   ·rcases N.2.2.2.2 with h | ⟨_,V,O,_,P⟩
    ·exact h
    grind
 ·obtain ⟨p,G⟩:=List.mem_iff_getElem?.1 j;obtain ⟨f,rfl⟩:=C p x G;have sp:=v.proc p f;have pm:=g.proc p f;refine ⟨sp.len,sp.cur,λl r=> ?_,pm.nO.1,pm.nR.1⟩;obtain ⟨i,b⟩:=List.mem_iff_getElem?.1 r;have sl:=sp.dS l r;exact ⟨(pm.dS i l b).1,λF=>((g.dS p f i l b).2.1 F).2.2,sl.taken,sl.dropped,sl.nd,sl.waiters⟩
end
section
variable {h:Hp}
theorem Yn {P:Program} {n:Int} {Q:Int->Int->Hp->Prop} (b:0<=n/\n<=8) (a:Q 0 n h):WW P 1 n Q h:=by
 unfold WW;have:n=0\/n=1\/n=2\/n=3\/n=4\/n=5\/n=6\/n=7\/n=8:=by omega
 refine ⟨by decide,by decide,by decide,by decide,by decide,?_⟩;rcases this with rfl | rfl | rfl | rfl | rfl | rfl | rfl | rfl | rfl<;>exact a
theorem mi {v:Value}:∀ {n:Nat},fC [v] n=List.replicate n v
 | 0=>rfl
 | n+1=>by unfold fC;simp
theorem BZ :∀ {n:Nat} {v:Int},ji (List.replicate n (Value.int .i64 v))=true
 | 0,_=>rfl
 | n+1,v=>by rw [List.replicate_succ];show (ji [Value.int .i64 v]&&ji (List.replicate n (Value.int .i64 v)))=true;rw [BZ];rfl
theorem QJ {a:Addr} {v n:Int} {Q:Sl->Hp->Prop} (y:bf h a [.int .i64 v]) (w:0<=n/\n<=8) (p:∀l g,h<=g->Is g l (List.replicate n.toNat v)->Q l g):S3 prog ⟨some a,1,1⟩ n Q h:=by
 unfold S3;refine cL.direct ?_;rw [if_neg (by simp;omega)];refine QE ?_;unfold zyc;refine zzu ?_;rw [show IntKind.wrap .u64 (((⟨some a,1,1⟩:Sl).len:Nat):Int)=1 from rfl,show IntKind.wrap .u64 n=n from qD ⟨by omega,by omega⟩];refine Yn w (cL.direct ?_);refine aJ ?_;rw [show (decide ((0:Int)>0) || decide (n>9223372036854775807))=false by simp;omega,if_neg (by decide)];obtain ⟨m,rfl⟩:∃m:Nat,n=(m:Int):=⟨n.toNat,by omega⟩;rw [aT];rw [Int.toNat_natCast] at p;refine ⟨⟨by omega,by omega,by omega,by omega⟩,λb ty hb=> ?_⟩;rw [Int.toNat_natCast,mi];have q:=ni (o:=.cells (List.replicate m (Value.int .i64 0)).toArray ty (0,0)) hb;have B:fw (h.set b (.cells (List.replicate m (Value.int .i64 0)).toArray ty (0,0))) b (List.replicate m (Value.int .i64 0)):=⟨ty,nI⟩;have bK:∀ {k d:Hp},h<=k->Mv [b] k [b] d->h<=d:=λu m c s e=>m.bK c s (u c s e) λG=>by grind
 refine DW (sz:=1) B (x:=⟨some a,1,1⟩) (n:=min 1 m) (new:=List.replicate (min 1 m) (Value.int .i64 v)) rfl ⟨by simp,?_⟩ BZ (by simp;omega) λJ E C=> ?_
 ·by_cases e:m=0
  ·omega
  ·refine .inr ⟨a,rfl,?_⟩;rw [show min 1 m=1 by omega];exact pk q y
 ·refine aA.intro (λ(i:Int) d=>∃j:Nat,i=(j:Int)/\j<=m/\(1<=j\/m=0)/\h<=d/\fw d b (List.replicate j (Value.int .i64 v)++List.replicate (m-j) (Value.int .i64 0))) (λi _=>(m-i).toNat) ⟨min 1 m,rfl,by omega,by omega,bK q E,by simpa using C⟩ ?_;rintro i z ⟨j,rfl,H,I,r,f⟩;by_cases t:j<m
  ·rw [if_pos (decide_eq_true (by grind))];refine ⟨⟨by omega,by grind⟩,aJ ⟨⟨by omega,by grind⟩,aJ ?_⟩⟩;rw [Int.toNat_natCast];dsimp only;rw [uS (by omega),Js,Nat.zero_add,Nat.mul_one];refine DW (sz:=1) f (n:=min j (m-j)) (new:=List.replicate (min j (m-j)) (Value.int .i64 v)) rfl ?_ BZ (by simp;omega) λA F D=> ?_
   ·refine f.rd (by simp) ?_;grind
   ·rw [aT];refine ⟨⟨j+min j (m-j),by omega,by omega,by omega,bK r F,cast (congrArg (fw A b) ?_) D⟩,by omega⟩;rw [List.take_append_of_le_length (by simp),List.take_of_length_le (by simp),List.drop_append,List.drop_eq_nil_of_le (by simp),List.nil_append,List.drop_replicate,List.length_replicate,List.replicate_append_replicate];congr 2;omega
  ·rw [if_neg (λe=>t (by grind))];have:j=m:=by omega
   subst this;refine p _ z r ⟨by simp,by rw [List.flatMap_replicate];show (fC [Value.int .i64 v] j).length=_;rw [mi];simp,?_⟩;by_cases e:j=0
   ·grind
   ·refine .inr ⟨⟨b,0,none⟩,rfl,?_⟩;rw [Nat.sub_self] at f;refine f.df (off:=0) (n:=j) ?_;rw [List.drop_zero,List.replicate_zero,List.append_nil,List.take_of_length_le (by simp),List.flatMap_replicate];exact mi.symm
end
section
variable {h0 h1 k:Hp} {A:dI}
theorem Dj {h:Hp} {b c:Nat} {d:Obj} (a:c≠b):(h.set b d) c=h c:=by simp [Hp.set,a]
theorem Dl {cs:List Value} {K:Addr->Hp->Prop} (o:Has h1 A k) (m:∀a f i,h1<=f->bf f a cs->Has f A i->K a i):bh cs K k:=by
 intro b t hb;obtain ⟨h,F,a,l⟩:=o;have j:h1 b=none:=uu h hb;refine m _ (h1.set b (.cells cs.toArray t (0,0))) _ (ni j) Et ⟨λc n e=> ?_,F,A.same a λc d=> ?_,λc d=> ?_⟩
 ·by_cases g:c=b
  ·subst g;rw [nI] at e ⊢;exact e
  ·rw [Dj g] at e ⊢;exact h c n e
 ·have:c≠b:=λe=>A.known a c d (by rw [e];exact hb);exact Dj this
 ·have:c≠b:=λe=>A.known a c d (by rw [e];exact hb);rw [Dj this];exact l c d
theorem Ku {e:Type} {sz bytes:Nat} {enc:e->List Value} {zero:List Value} {z:e} {n:Int} {K:Sl->Hp->Prop} (o:Has h1 A k) (i:zero=enc z) (f:∀x,(enc x).length=sz) (p:0<=n/\n<=1000) (hb:bytes<=1000)
  (g:∀l d c,h1<=d->Rw d sz enc l (List.replicate n.toNat z)->Has d A c->K l c):dW bytes zero n n K k:=by
 have m:n.toNat*bytes<=1000*1000:=Nat.mul_le_mul (by omega) hb;refine ⟨⟨by omega,by omega,by omega,by omega⟩,λb t hb=> ?_⟩;refine Dl (cs:=fC zero n.toNat) (K:=λa c=>K ⟨some a,n.toNat,n.toNat⟩ c) o (λa d c l h j=>g _ d c l ⟨by simp,?_,.inr ⟨a,rfl,?_⟩⟩ j) b t hb
 ·rw [List.flatMap_replicate,List.length_flatten,List.map_replicate,f,List.sum_replicate_nat,List.length_replicate]
 ·rw [List.flatMap_replicate,<-i];exact h
theorem zr {d:Type} {sz bytes:Nat} {enc:d->List Value} {zero:List Value} {z:d} {n:Int} {K:Sl->Hp->Prop} (j:zero=enc z) (h:∀x,(enc x).length=sz) (o:0<=n/\n<=1000) (hb:bytes<=1000)
  (i:∀l a,k<=a->Has k (fU sz enc l (List.replicate n.toNat z)) a->K l a):dW bytes zero n n K k:=by
 have m:n.toNat*bytes<=1000*1000:=Nat.mul_le_mul (by omega) hb;refine ⟨⟨by omega,by omega,by omega,by omega⟩,λb t hb=> ?_⟩;have e:(List.replicate n.toNat z).flatMap enc=fC zero n.toNat:=by rw [List.flatMap_replicate,j];rfl
 have f:(fC zero n.toNat).length=n.toNat*sz:=by rw [<-e,List.flatMap_replicate,List.length_flatten,List.map_replicate,h,List.sum_replicate_nat]
 refine i _ _ (ni hb) ⟨ni hb,λc=>c=b,⟨[b],⟨by rw [List.length_replicate],Nat.le_refl _,.inr ⟨b,fC zero n.toNat,rfl,rfl,⟨t,nI⟩,f,?_⟩⟩,λc=>by simp⟩,λc g=>by rw [g];exact hb⟩;grind
end
abbrev eX :cc->List Value:=λx=>bp (cg.enc x)
abbrev eY :br->List Value:=λx=>bp (bB.enc x)
def zX :cc:=⟨0,⟨none,0,0⟩,0,0,⟨none,0,0⟩,⟨none,0,0⟩⟩
def zY :br:=⟨0,0,0,0,0,0,0,0,0,0,0,0,false,0,⟨none,0,0⟩⟩
def zL :cl:=⟨⟨none,0,0⟩,⟨none,0,0⟩,0,0⟩
def xf (ae:Int):dv:=⟨0,[],0,0,List.replicate ae.toNat (-1),List.replicate ae.toNat []⟩
def xg (n:Nat):ak:=⟨0,0,List.replicate 8 0,0,0,false,0,List.replicate n ⟨[],[],0,0⟩⟩
theorem DQ {c d:Type} {R:c->d->Prop} {a:c} {b:d} (h:R a b):∀ {n:Nat},cZ R (List.replicate n a) (List.replicate n b)
 | 0=>trivial
 | n+1=>⟨h,DQ h⟩
theorem M8 {c d:Type} {R:c->d->Prop} {a:c} {b:d} (h:R a b):∀ {l:List c} {m:List d},cZ R l m->cZ R (l++ [a]) (m++ [b])
 | [],[],_=>⟨h,trivial⟩
 | _::_,_::_,k=>⟨k.1,M8 h k.2⟩
section
variable {h0 hb k:Hp} {r r1:Sl} {i:Nat}
theorem Has.xn {sz:Nat} {sh:Shape} {l:Sl} {b:List sh.T} (o:Has h0 (fU sz (λx=>bp (sh.enc x)) l b) k) (a:∀x,(bp (sh.enc x)).length=sz) (c:0<sz) (d:i<b.length):bF l.base l.len (i:Int):=
 (Rs.get (sh:=sh) (K:=λ_=>True) (o.oH a) a c (by omega) (by omega) λ_ _=>trivial).1
theorem Xy {rows:List cc} {ae:Int} {K:Hp->Prop} {B:dI} (o:Has hb ((fU 6 eX r rows).star B) k) (hi:rows[i]? =some zX) (R:0<=ae/\ae<=8)
  (hk:∀x c b,hb<=c->gA c x (xf ae)->Has c ((fU 6 eX r (rows.set i x)).star B) b->K b):
  (bh [(.int .i64 (-1:Int))] (λa L=>
 ((True/\(True/\(True/\(True/\True))))/\(aa prog uo [(.slice (some a) 1 1),(.int .i64 ae)] au (λr2 G=>
 ((True/\(True/\(True/\True)))/\((bF r.base r.len (i:Int))/\(dW 24 [(.slice none 0 0)] ae ae (λE w=>
 ((True/\(True/\True))/\cJ w (Addr.add (sat r.base 6 (i:Int)) 4) [r2.v] (λy=>
 ((True/\True)/\((bF r.base r.len (i:Int))/\cJ y (Addr.add (sat r.base 6 (i:Int)) 5) [E.v] (λA=>
 K A)))))) G/\cJ G (Addr.add (sat r.base 6 (i:Int)) 4) [r2.v] (λw=>
 ((True/\(True/\True))/\dW 24 [(.slice none 0 0)] ae ae (λE y=>
 ((True/\(True/\True))/\((bF r.base r.len (i:Int))/\cJ y (Addr.add (sat r.base 6 (i:Int)) 5) [E.v] (λA=>
 K A)))) w)))))) L/\dW 24 [(.slice none 0 0)] ae ae (λr2 G=>
 ((True/\(True/\(True/\True)))/\aa prog uo [(.slice (some a) 1 1),(.int .i64 ae)] au (λE w=>
 ((True/\(True/\(True/\True)))/\((bF r.base r.len (i:Int))/\cJ w (Addr.add (sat r.base 6 (i:Int)) 4) [E.v] (λy=>
 ((True/\(True/\True))/\((bF r.base r.len (i:Int))/\cJ y (Addr.add (sat r.base 6 (i:Int)) 5) [r2.v] (λA=>
 K A))))))) G)) L))) k/\dW 24 [(.slice none 0 0)] ae ae (λr2 L=>
 ((True/\(True/\(True/\True)))/\bh [(.int .i64 (-1:Int))] (λa G=>
 ((True/\(True/\(True/\(True/\True))))/\aa prog uo [(.slice (some a) 1 1),(.int .i64 ae)] au (λE w=>
 ((True/\(True/\(True/\True)))/\((bF r.base r.len (i:Int))/\cJ w (Addr.add (sat r.base 6 (i:Int)) 4) [E.v] (λy=>
 ((True/\(True/\True))/\((bF r.base r.len (i:Int))/\cJ y (Addr.add (sat r.base 6 (i:Int)) 5) [r2.v] (λA=>
 K A))))))) G)) L)) k):=by
 have Q:i<rows.length:=(List.getElem?_eq_some_iff.1 hi).1;have fin:∀ {c b:Hp} {d g:Sl},hb<=c->Is c d (List.replicate ae.toNat (-1))->Rw c 1 (λx=>bp (au.enc x)) g (List.replicate ae.toNat (⟨none,0,0⟩:Sl))->Has c ((fU 6 eX r ((rows.set i {zX with eO:=d}).set i {zX with eO:=d,dO:=g})).star B) b->K b:=λ{c b d g} R m n h=>by rw [List.set_set] at h;exact hk _ c b R ⟨rfl,⟨[],Rw.nil rfl,rfl⟩,rfl,rfl,m,_,n,DQ (Rw.nil rfl)⟩ h
 have N:∀ {c b:Hp} {d:Sl} {f:Hp->Prop},Has c ((fU 6 eX r rows).star B) b->(∀p,Has c ((fU 6 eX r (rows.set i {zX with eO:=d})).star B) p->f p)->cJ b ((sat r.base 6 (i:Int)).add 4) [d.v] f:=λ{c b d f} h I=>by obtain ⟨m,_,W,_,put⟩:=h.fst;exact W.xZ (i:=i) (x':={zX with eO:=d}) (off:=4) (new:=[d.v]) (λ_=>rfl) hi (by simp) rfl λp V=>I p (put _ _ V)
 have O:∀ {c b:Hp} {d g:Sl} {f:Hp->Prop},Has c ((fU 6 eX r (rows.set i {zX with eO:=d})).star B) b->(∀p,Has c ((fU 6 eX r ((rows.set i {zX with eO:=d}).set i {zX with eO:=d,dO:=g})).star B) p->f p)->cJ b ((sat r.base 6 (i:Int)).add 5) [g.v] f:=λ{c b d g f} h I=>by obtain ⟨m,_,W,_,put⟩:=h.fst;exact W.xZ (i:=i) (x:={zX with eO:=d}) (x':={zX with eO:=d,dO:=g}) (off:=5) (new:=[g.v]) (λ_=>rfl) (List.getElem?_set_self Q) (by simp) rfl λp V=>I p (put _ _ V)
 have xn:∀ {c b:Hp} {a9:List cc},a9.length=rows.length->Has c ((fU 6 eX r a9).star B) b->bF r.base r.len (i:Int):=λe h=>(Has.left h).xn (sh:=cg) (λ_=>rfl) (by decide) (by omega);have mk:∀ {c b:Hp} {F:dI} {f:Sl->Hp->Prop},Has c F b->(∀l u b,c<=u->Rw u 1 (λx=>bp (au.enc x)) l (List.replicate ae.toNat (⟨none,0,0⟩:Sl))->Has u F b->f l b)->dW 24 [(.slice none 0 0)] ae ae f b:=λh I=>Ku (z:=(⟨none,0,0⟩:Sl)) (enc:=λx=>bp (au.enc x)) h rfl (λ_=>rfl) (by omega) (by omega) I;have X:∀ {c b:Hp} {F:dI} {a:Addr} {f:Sl->Hp->Prop},Has c F b->bf c a [.int .i64 (-1)]->(∀l u b,c<=u->Is u l (List.replicate ae.toNat (-1))->Has u F b->f l b)->aa prog uo [(.slice (some a) 1 1),(.int .i64 ae)] au f b:=λ{c b F a f} h H I=>by refine OF (sh:=au) (K0:=λl P=>c<=P/\Is P l (List.replicate ae.toNat (-1))) h (zsm (x:=⟨some a,1,1⟩) (QJ H R λl P b1 Q=>⟨b1,Q⟩)) ?_;grind
 refine ⟨?_,?_⟩
 ·refine Dl o λa b0 k1 J H M=> ?_;refine ⟨⟨trivial,trivial,trivial,trivial,trivial⟩,?_,?_⟩
  ·refine X M H λd Y k2 s m C=> ?_;refine ⟨⟨trivial,trivial,trivial,trivial⟩,xn rfl C,?_,?_⟩
   ·refine mk C λg Z S t n q=> ?_;refine ⟨⟨trivial,trivial,trivial⟩,N q λT j=>⟨⟨trivial,trivial⟩,xn (by simp) j,O j λU D=>fin (Hp.le_trans J (Hp.le_trans s t)) (Rw.mono t m) n D⟩⟩
   ·refine N C λS q=>⟨⟨trivial,trivial,trivial⟩,?_⟩;refine mk q λg b2 T a8 n j=> ?_;exact ⟨⟨trivial,trivial,trivial⟩,xn (by simp) j,O j λU D=>fin (Hp.le_trans J (Hp.le_trans s a8)) (Rw.mono a8 m) n D⟩
  ·refine mk M λg Y k2 s n C=> ?_;refine ⟨⟨trivial,trivial,trivial,trivial⟩,?_⟩;refine X C (pk s H) λd Z S t m q=> ?_;exact ⟨⟨trivial,trivial,trivial,trivial⟩,xn rfl q,N q λT j=>⟨⟨trivial,trivial,trivial⟩,xn (by simp) j,O j λU D=>fin (Hp.le_trans J (Hp.le_trans s t)) m (Rw.mono t n) D⟩⟩
 ·refine mk o λg b0 k1 J n M=> ?_;refine ⟨⟨trivial,trivial,trivial,trivial⟩,?_⟩;refine Dl M λa Y k2 s H C=> ?_;refine ⟨⟨trivial,trivial,trivial,trivial,trivial⟩,?_⟩;refine X C H λd Z S t m q=> ?_;exact ⟨⟨trivial,trivial,trivial,trivial⟩,xn rfl q,N q λT j=>⟨⟨trivial,trivial,trivial⟩,xn (by simp) j,O j λU D=>fin (Hp.le_trans J (Hp.le_trans s t)) m (Rw.mono t (Rw.mono s n)) D⟩⟩
theorem Xz {rows:List br} {n:Int} {K:Hp->Prop} {B:dI} (o:Has hb (B.star (fU 15 eY r1 rows)) k) (b:rows[i]? =some zY) (w:1<=n/\n<=100)
  (m:∀x a c,hb<=a->dj a x (xg n.toNat)->Has a (B.star (fU 15 eY r1 (rows.set i x))) c->K c):
  dW 64 [(.slice none 0 0),(.slice none 0 0),(.int .i64 (0:Int)),(.int .i64 (0:Int))] n n (λr2 f=>
 ((True/\True)/\((bF r1.base r1.len (i:Int))/\cJ f (Addr.add (sat r1.base 15 (i:Int)) 14) [r2.v] (λg=>
 K g)))) k:=by
 have j:i<rows.length:=(List.getElem?_eq_some_iff.1 b).1;refine Ku (sz:=4) (z:=zL) (enc:=λx=>bp (bR.enc x)) o rfl (λ_=>rfl) (by omega) (by omega) λl h y q e d=> ?_;refine ⟨⟨trivial,trivial⟩,(Has.right d).xn (sh:=bB) (λ_=>rfl) (by decide) j,?_⟩;obtain ⟨u,_,t,_,put⟩:=d.snd;refine t.xZ (i:=i) (x':={zY with fL:=l}) (off:=14) (new:=[l.v]) (λ_=>rfl) b (by simp) rfl λp s=>m _ h p q ⟨rfl,rfl,rfl,rfl,rfl,rfl,rfl,_,e,DQ ⟨Rw.nil rfl,⟨[],Rw.nil rfl,rfl⟩,rfl,rfl⟩⟩ (put _ _ s)
theorem IQ {x:an} {c:aE} {Q:aD->Hp->Prop} (a:fo h0 x c) (N:cf c) (o:Has h0 ((fU 6 eX r (List.replicate (nP c) zX)).star (fU 15 eY r1 (List.replicate (nQ c) zY))) k)
  (U:∀y d,h0<=d->dq d y ((qF c).list c)->Q y d):aA (α1:=Int) (λP b G=>
 (if (decide (b<((r.len:Nat):Int)))=true then
 cL (λk=>
 (bh [(.int .i64 (-1:Int))] (λa g=>
 ((True/\(True/\(True/\(True/\True))))/\(aa prog uo [(.slice (some a) 1 1),(.int .i64 x.bQ)] au (λr2 m=>
 ((True/\(True/\(True/\True)))/\((bF r.base r.len b)/\(dW 24 [(.slice none 0 0)] x.bQ x.bQ (λu l=>
 ((True/\(True/\True))/\cJ l (Addr.add (sat r.base 6 b) 4) [r2.v] (λq=>
 ((True/\True)/\((bF r.base r.len b)/\cJ q (Addr.add (sat r.base 6 b) 5) [u.v] (λs=>
 k s)))))) m/\cJ m (Addr.add (sat r.base 6 b) 4) [r2.v] (λl=>
 ((True/\(True/\True))/\dW 24 [(.slice none 0 0)] x.bQ x.bQ (λu q=>
 ((True/\(True/\True))/\((bF r.base r.len b)/\cJ q (Addr.add (sat r.base 6 b) 5) [u.v] (λs=>
 k s)))) l)))))) g/\dW 24 [(.slice none 0 0)] x.bQ x.bQ (λr2 m=>
 ((True/\(True/\(True/\True)))/\aa prog uo [(.slice (some a) 1 1),(.int .i64 x.bQ)] au (λu l=>
 ((True/\(True/\(True/\True)))/\((bF r.base r.len b)/\cJ l (Addr.add (sat r.base 6 b) 4) [u.v] (λq=>
 ((True/\(True/\True))/\((bF r.base r.len b)/\cJ q (Addr.add (sat r.base 6 b) 5) [r2.v] (λs=>
 k s))))))) m)) g))) G/\dW 24 [(.slice none 0 0)] x.bQ x.bQ (λr2 g=>
 ((True/\(True/\(True/\True)))/\bh [(.int .i64 (-1:Int))] (λa m=>
 ((True/\(True/\(True/\(True/\True))))/\aa prog uo [(.slice (some a) 1 1),(.int .i64 x.bQ)] au (λu l=>
 ((True/\(True/\(True/\True)))/\((bF r.base r.len b)/\cJ l (Addr.add (sat r.base 6 b) 4) [u.v] (λq=>
 ((True/\(True/\True))/\((bF r.base r.len b)/\cJ q (Addr.add (sat r.base 6 b) 5) [r2.v] (λs=>
 k s))))))) m)) g)) G))
 (λg=>
 P (yw (b+(1:Int))) g)
 else
 aA (α1:=Int) (λR E g=>
 (if (decide (E<((r1.len:Nat):Int)))=true then
 dW 64 [(.slice none 0 0),(.slice none 0 0),(.int .i64 (0:Int)),(.int .i64 (0:Int))] (yw (((x.aN.len:Nat):Int)+(1:Int))) (yw (((x.aN.len:Nat):Int)+(1:Int))) (λr2 m=>
 ((True/\True)/\((bF r1.base r1.len E)/\cJ m (Addr.add (sat r1.base 15 E) 14) [r2.v] (λl=>
 R (yw (E+(1:Int))) l)))) g
 else
 Q ⟨(0:Int),r,r1⟩ g)) (0:Int) G)) (0:Int) k:=by
 have a8:=N.parts;have a9:=N.procs;have Y:nP c=c.labels.length:=rfl;have Z:x.aN.len=c.labels.length:=a.labels.1;have W:r.len=nP c:=by have:=(Has.left o).vY.jh;grind
 have X:r1.len=nQ c:=by have:=(Has.right o).vY.jh;grind
 refine aA.intro (λ(t:Int) d=>0<=t/\t<=(nP c:Int)/\∃hb done,h0<=hb/\cZ (gA hb) done (List.replicate t.toNat (xf c.ae))/\Has hb ((fU 6 eX r (done++List.replicate (nP c-t.toNat) zX)).star (fU 15 eY r1 (List.replicate (nQ c) zY))) d) (λt _=>(nP c-t).toNat) ⟨by omega,by omega,h0,[],Hp.le_refl _,trivial,by simpa using o⟩ ?_;rintro t k1 ⟨t0,t1,hb,done,lb,hd,o1⟩;have O:=hd.len;rw [List.length_replicate] at O;by_cases h:t<(nP c:Int)
 ·rw [if_pos (iV)];have A:((t.toNat:Nat):Int)=t:=by omega
  refine cL.direct ?_;have J:(done++List.replicate (nP c-t.toNat) zX)[t.toNat]? =some zX:=by grind
  rw [a.ae];have key:=Xy (i:=t.toNat) (r:=r) (K:=λd=>(0<=yw (t+1)/\yw (t+1)<=(nP c:Int)/\∃hb done,h0<=hb/\cZ (gA hb) done (List.replicate (yw (t+1)).toNat (xf c.ae))/\Has hb ((fU 6 eX r (done++List.replicate (nP c-(yw (t+1)).toNat) zX)).star (fU 15 eY r1 (List.replicate (nQ c) zY))) d)/\(nP c-yw (t+1)).toNat<(nP c-t).toNat) o1 J N.ae λy H d w C D=>by
   rw [aT,show (t+1).toNat=t.toNat+1 by omega];refine ⟨⟨by omega,by omega,H,done++ [y],Hp.le_trans lb w,?_,?_⟩,by omega⟩
   ·rw [List.replicate_succ'];exact M8 C (hd.imp λ_ _ e=>e.mono w)
   ·rw [List.set_append_right _ _ (by omega),O,Nat.sub_self,show nP c-t.toNat=(nP c-(t.toNat+1))+1 by omega,List.replicate_succ,List.set_cons_zero] at D;grind
  rw [A] at key;exact key
 ·rw [if_neg (λe=>h (by grind))];have A:t.toNat=nP c:=by omega
  rw [A,Nat.sub_self,List.replicate_zero,List.append_nil] at o1;rw [A] at hd;refine aA.intro (λ(j:Int) d=>0<=j/\j<=(nQ c:Int)/\∃p f,hb<=p/\cZ (dj p) f (List.replicate j.toNat (xg (nP c+1)))/\Has p ((fU 6 eX r done).star (fU 15 eY r1 (f++List.replicate (nQ c-j.toNat) zY))) d) (λj _=>(nQ c-j).toNat) ⟨by omega,by omega,hb,[],Hp.le_refl _,trivial,by simpa using o1⟩ ?_;rintro j V ⟨j0,j1,p,f,L,B,z⟩;have I:=B.len;rw [List.length_replicate] at I;by_cases T:j<(nQ c:Int)
  ·rw [if_pos (iV)];have F:((j.toNat:Nat):Int)=j:=by omega
   have J:(f++List.replicate (nQ c-j.toNat) zY)[j.toNat]? =some zY:=by rw [List.getElem?_append_right (by omega),I,Nat.sub_self,List.getElem?_replicate,if_pos (by omega)]
   rw [wrap64 (n:=(x.aN.len:Int)+1) (by omega) (by omega)];have S:((x.aN.len:Int)+1).toNat=nP c+1:=by omega
   have key:=Xz (i:=j.toNat) (r1:=r1) (n:=(x.aN.len:Int)+1) (K:=λd=>(0<=yw (j+1)/\yw (j+1)<=(nQ c:Int)/\∃p f,hb<=p/\cZ (dj p) f (List.replicate (yw (j+1)).toNat (xg (nP c+1)))/\Has p ((fU 6 eX r done).star (fU 15 eY r1 (f++List.replicate (nQ c-(yw (j+1)).toNat) zY))) d)/\(nQ c-yw (j+1)).toNat<(nQ c-j).toNat) z J (by omega) λy H d w C D=>by
    rw [aT,show (j+1).toNat=j.toNat+1 by omega];refine ⟨⟨by omega,by omega,H,f++ [y],Hp.le_trans L w,?_,?_⟩,by omega⟩
    ·rw [List.replicate_succ'];rw [S] at C;exact M8 C (B.imp λ_ _ e=>e.mono w)
    ·rw [List.set_append_right _ _ (by omega),I,Nat.sub_self,show nQ c-j.toNat=(nQ c-(j.toNat+1))+1 by omega,List.replicate_succ,List.set_cons_zero] at D;rw [List.append_assoc];exact D
   grind
  ·rw [if_neg (λe=>T (by grind))];have F:j.toNat=nQ c:=by omega
   rw [F,Nat.sub_self,List.replicate_zero,List.append_nil] at z;rw [F] at B;have M:=z.le;refine U _ V (Hp.le_trans lb (Hp.le_trans L M)) ⟨rfl,⟨done,(Has.left z).oH λ_=>rfl,?_⟩,f,(Has.right z).oH λ_=>rfl,?_⟩
   ·have e:((qF c).list c).parts=List.replicate (nP c) (xf c.ae):=by show (List.range (nP c)).map (λ_=>xf c.ae)=_;rw [List.map_const',List.length_range]
    rw [e];exact hd.imp λ_ _ e=>e.mono (Hp.le_trans L M)
   ·have e:((qF c).list c).procs=List.replicate (nQ c) (xg (nP c+1)):=by show (List.range (nQ c)).map (λ_=>xg (nP c+1))=_;rw [List.map_const',List.length_range]
    rw [e];exact B.imp λ_ _ e=>e.mono M
theorem S0 {x:an} {c:aE} {Q:aD->Hp->Prop} (a:fo k x c) (e:cf c) (g:∀y f,k<=f->dq f y ((qF c).list c)->Q y f):XJ prog x Q k:=by
 unfold XJ;have v:=e.parts;have C:=e.procs;have t:nP c=c.labels.length:=rfl;have B:nQ c=c.procs.length:=rfl;have u:x.aN.len=c.labels.length:=a.labels.1;obtain ⟨s,j,h⟩:=a.procs;have w:=h.len;have A:x.aG.len=s.length:=j.1;refine ⟨?_,?_⟩
 ·refine zr (sz:=6) (z:=zX) (enc:=eX) rfl (λ_=>rfl) (by omega) (by omega) λl m o b=>⟨⟨trivial,trivial⟩,?_⟩;refine zr (sz:=15) (z:=zY) (enc:=eY) rfl (λ_=>rfl) (by omega) (by omega) λp n q d=> ?_;rw [show ((x.aN.len:Int)).toNat=nP c by omega] at b;rw [show ((x.aG.len:Int)).toNat=nQ c by omega] at d;exact IQ a e (b.beside d) g
 ·refine zr (sz:=15) (z:=zY) (enc:=eY) rfl (λ_=>rfl) (by omega) (by omega) λp m o b=>⟨⟨trivial,trivial⟩,?_⟩;refine zr (sz:=6) (z:=zX) (enc:=eX) rfl (λ_=>rfl) (by omega) (by omega) λl n q d=>⟨⟨trivial,trivial⟩,?_⟩;rw [show ((x.aN.len:Int)).toNat=nP c by omega] at d;rw [show ((x.aG.len:Int)).toNat=nQ c by omega] at b;exact IQ a e (b.beside d).comm g
end
end Lf
namespace Go.Proofs
open Go.RowKit Go.Shelf
attribute [local go_sem] Oper.semAt_some
def wo (cur len:Int) (j:Nat):Int:=(wrap64 (cur+(j:Int))).tmod len
abbrev Fp (len:Nat):={x:Int // 0<=x/\x<(len:Int)}
def xk {a:Type} (num:Nat->a) (k:Nat):List a:=(List.range k).map num
theorem kZ {a:Type} {num:Nat->a} {k:Nat}:xk num (k+1)=xk num k++ [num k]:=by simp [xk,List.range_succ]
theorem WI {a:Type} {num:Nat->a} {k:Nat}:(xk num k).length=k:=by simp [xk]
set_option maxHeartbeats 2000000 in
theorem QL (n:Nat) (hn:1<=n) (l A A1:Nat) (cur:Int) (len:Nat) (hlen:0<len) (hl2:len<=1000) (num:Nat->Fp len) (hnum:∀j,j<len->wo cur len j=(num j).1) (Kp:World->World->Prop) (hkp:∀W W',Kp W W'->W'.cell? ⟨A,0,none⟩=W.cell? ⟨A,0,none⟩/\W'.cell? ⟨A1,0,none⟩=W.cell? ⟨A1,0,none⟩) (J Jx:List (Fp len)->World->Prop)
  (hY:∀pre x W,J pre W->pre.length<len->YieldAt Fence.wide (n-1) Tryz.prog l #[.int .i64 x.1] W λe W'=>
   (e=.returned (.bool true)/\J (pre++ [x]) W'/\Kp W W')\/(e=.returned (.bool false)/\Jx (pre++ [x]) W'))
  (W:World) (hA:W.cell? ⟨A,0,none⟩=some (.int .i64 cur)) (hA1:W.cell? ⟨A1,0,none⟩=some (.int .i64 (len:Int))) (h0:J [] W):
  CallsIn Fence.wide n Tryz.prog 221 #[.func (.yield l) #[] #[],.pointer (some ⟨A1,0,none⟩),.pointer (some ⟨A,0,none⟩)] W λe W'=>(∃v,e=.returned v)/\
   ((∃ys,ys=xk num len/\J ys W')\/(∃pre,(∃k,k<=len/\pre=xk num k)/\Jx pre W')):=by
 refine callsIn_of_wp Tryz.func221 rfl trivial ?_ rfl;simp only [Tryz.ntmps221,List.size_toArray,List.length_cons,List.length_nil,Nat.reduceAdd,Nat.reduceSub,Array.replicate_succ,Array.replicate_zero,List.push_toArray,List.append_toArray,List.nil_append,List.cons_append]
 gi_wp2
 gi_loopw [6] (λi wr=>∃k:Nat,k<=len/\i=.int .i64 (k:Int)/\J (xk num k) wr/\wr.cell? ⟨A,0,none⟩=some (.int .i64 cur)/\wr.cell? ⟨A1,0,none⟩=some (.int .i64 (len:Int)))
  (λi _=>len-(intOf i).toNat)
 case atStart=>exact ⟨0,Nat.zero_le _,rfl,h0,hA,hA1⟩
 case round=>
  obtain ⟨k,hk,rfl,hJs,hcA,hcA1⟩:=hrel;by_cases hlt:k<len
  ·obtain ⟨fn,tmps,assign,body,hy,hR⟩:=hY _ (num k) wr hJs (by rw [WI];exact hlt);rw [<-hnum k hlt] at hy;unfold wo at hy
   gi_wp2
   refine hR.mono ?_;rintro e W3 (⟨rfl,hJ3,hk3⟩ | ⟨rfl,hJx3⟩)
   ·gi_wp2
    go_roundw
    case rel=>exact ⟨k+1,by omega,by simp,by rw [kZ];exact hJ3,(hkp _ _ hk3).1.trans hcA,(hkp _ _ hk3).2.trans hcA1⟩
    case measure=>simp [intOf];omega
   ·gi_wp2
    refine bodyPost_ret (results_none rfl _ _ _) rfl ?_;exact ⟨⟨_,rfl⟩,.inr ⟨_,⟨k+1,by omega,kZ.symm⟩,hJx3⟩⟩
  ·obtain rfl:k=len:=by omega
   gi_wp2
   go_end0
   exact ⟨⟨_,rfl⟩,.inl ⟨_,rfl,hJs⟩⟩
end Go.Proofs
namespace Lf
open Go Go.Proofs Tryz
noncomputable def mP :Code:=match w9 f183 with
 | .seq _ (.scope (.seq _ (.seq _ (.seq _ t))))=>t
 | _=>.skip
def uj :List Nat:=[1,3,4]
def AB :jC:=.sq .tt (.sq (.rg [(0,[]),(1,[]),(2,[]),(3,[]),(4,[]),(5,[]),(6,[]),(7,[]),(8,[]),(9,[]),(10,[]),(11,[])]) (.sq (.rg [(0,[]),(1,[]),(2,[]),(3,[]),(4,[]),(5,[]),(6,[]),(7,[]),(8,[]),(9,[]),(10,[]),(11,[]),(12,[]),(13,[]),(14,[]),(15,[]),(16,[])]) (.sq (.rg [(0,[]),(1,[]),(2,[]),(3,[]),(4,[]),(5,[]),(6,[2]),(7,[]),(8,[]),(9,[])]) .tt)))
noncomputable def wh :Ctx:=⟨prog,tb,uj⟩
def kX (p:Option Addr) (lane:Int):St where
 f:=λt=>match t with
  | 1=>some (.box 1 0,[])
  | 2=>some (.v (.int .i64 0),[])
  | 3=>some (.box 3 0,[])
  | 4=>some (.box 4 0,[])
  | 5=>some (.v (.bool false),[])
  | 6=>some (.v (.int .i64 0),[])
  | _=>none
 m:=λk=>match k with
  | 1=>some [.pointer p]
  | 3=>some [.int .i64 lane]
  | 4=>some [.int .i64 0,.int .i64 0]
  | _=>none
noncomputable def F7 (K:(bD tb f183.resultTypes.toList).T->Hp->Prop):Env:=λe s h=>match e with
 | .gE | .ret=>uN wh s h f183.results.toList f183.resultTypes.toList K
 | _=>False
noncomputable def rW (p:Option Addr) (lane:Int) (K:(bD tb f183.resultTypes.toList).T->Hp->Prop) (h:Hp):Prop:=
 liftM wh mP .full AB uj (kX p lane) (F7 K) h
end Lf
namespace Go.Proofs
open Go.RowKit Go.Shelf
attribute [local go_sem] Oper.semAt_some
theorem Fa {w:World} {o:Obj} {b:Nat}:(w.alloc o).heap[b]? =if b=w.heap.size then some o else w.heap[b]?:=by show (w.heap.push o)[b]? =_;grind
theorem Ej {W:World} {b i:Nat} {a:Array Value} {t:TypeId} (h:W.heap[b]? =some (.cells a t (0,0))):W.cell? ⟨b,i,none⟩=a[i]?:=by simp [World.cell?,h]
theorem yr {W a:World} {b i:Nat} (h:a.heap[b]? =W.heap[b]?):a.cell? ⟨b,i,none⟩=W.cell? ⟨b,i,none⟩:=by simp [World.cell?,h]
structure AX (B c:Nat) (W2:World) (v:Int) (W:World):Prop where
 same:∀b,b<B->b≠c->W.heap[b]? =W2.heap[b]?
 box:W.heap[c]? =some (.cells #[.int .i64 v] 3)
 size:B<=W.heap.size
 os:W.os=W2.os
 tape:W.tape=W2.tape
 output:W.output=W2.output
theorem AX.grown {B c:Nat} {f W d:World} {v:Int} {row:Option Nat} (g:AX B c f v W) (h:c<B) (a:W.grownBy d row) (j:∀r,row=some r->B<=r/\∃o:Obj,W.heap[r]? =some o/\o.isCells=false):AX B c f v d:=by
 have key:∀b,b<B->d.heap[b]? =W.heap[b]?:=λb hb=>a.block b (Nat.lt_of_lt_of_le hb g.size) λe=>by grind
 exact ⟨λb hb i=>(key b hb).trans (g.same b hb i),(key c h).trans g.box,Nat.le_trans g.size a.size,a.os.trans g.os,a.tape.trans g.tape,a.output.trans g.output⟩
theorem VX {n:Nat} {d:Nat->Nat} {s:Lf.St} {a:Act} {h:Lf.Hp} {w:World} {D:Nat} (r:Lf.Rel n d s a h w) (q:h D=none) (t:w.heap[D]? =some (.deferred (some []))) (o:Obj):Lf.Rel n d s a h (w.putObj D o) where
 sz:=r.sz
 sub:=λb p e=>by
  have c:b≠D:=λi=>by grind
  rw [World.putObj_heap_other c];exact r.sub b p e
 lt:=r.lt
 chain:=r.chain
 cur:=r.cur
 bO:=r.bO
 box:=λk f e m=>by
  obtain ⟨j,g,l⟩:=r.box k f e m;have c:d k≠D:=λi=>by grind
  exact ⟨j,g,by rw [World.putObj_heap_other c];exact l⟩
 inj:=r.inj
 lO:=r.lO
 kH:=r.kH
abbrev Cd (p:Addr) (w:World) (b c d a:Value):Array Value:= #[Value.pointer (some p),Value.pointer (some {block:=w.heap.size,off:=0}),Value.int IntKind.i64 0,Value.pointer (some {block:=w.heap.size+1,off:=0}),Value.pointer (some {block:=w.heap.size+1+1,off:=0}),Value.bool false,Value.int IntKind.i64 0,b,c,d,a,undef,undef,undef,undef,undef,undef,undef,undef,undef,undef,undef,undef,undef,undef,undef,undef,undef,undef,undef,undef,undef,undef,undef,undef,undef,undef,undef,undef,undef,undef,undef,undef,undef,undef,undef,undef,undef,undef,undef,undef,undef,undef]
theorem U5 {k:Lf.Hp} {p:Addr} {w W:World} {D:Nat} {v:Int} {Q R S P:Value} {K:(Lf.bD Lf.tb Tryz.f183.resultTypes.toList).T->Lf.Hp->Prop} (E:Lf.Sub k w)
  (s:Below w.heap.size w W) (b0:W.heap[w.heap.size]? =some (.cells #[.pointer (some p)] 153)) (b1:W.heap[w.heap.size+1]? =some (.cells #[.int .i64 v] 3)) (b2:W.heap[w.heap.size+2]? =some (.cells #[.int .i64 0,.int .i64 0] 192))
  (G:w.heap.size+3<=D) (H:W.heap[D]? =some (.deferred (some []))) (ht:Lf.rW (some p) v K k):
  Lf.mP.wp Tryz.prog (Exit.noGoto (bodyPostM Fence.wide 3 Tryz.prog Tryz.f183 λe y=>∃u g,e=.returned u/\(∃x,u=(Lf.bD Lf.tb Tryz.f183.resultTypes.toList).enc x/\K x g)/\Lf.Step k g w y))
   {tmps:=Cd p w Q R S P,defers:=[{target:=.collected D,args:= #[]}]} W:=by
 have b5:Lf.Sub k W:=λb o e=>(s.block b (E.lt e)).trans (E b o e);have b4:∀b,w.heap.size<=b->k b=none:=λb hb=>by
  cases e:k b with
  | none=>rfl
  | some o=>have:=E.lt e;omega
 have Z:Lf.Rel 53 (λk=>if k=1 then w.heap.size else if k=3 then w.heap.size+1 else w.heap.size+2) (Lf.kX (some p) v) {tmps:=Cd p w Q R S P,defers:=[{target:=.collected D,args:= #[]}]} k W:=by
  have O:∀(t:Nat) (l:Lf.LV) (c:Lf.aZ),(Lf.kX (some p) v).f t=some (l,c)->c=[]/\(t=1/\l=.box 1 0\/t=2/\l=.v (.int .i64 0)\/t=3/\l=.box 3 0\/t=4/\l=.box 4 0\/t=5/\l=.v (.bool false)\/t=6/\l=.v (.int .i64 0)):=λt l c e=>by unfold Lf.kX at e;dsimp only at e;split at e<;>cases e<;>simp
  have cell:∀(k:Nat) (d:List Value),(Lf.kX (some p) v).m k=some d->k=1/\d=[.pointer (some p)]\/k=3/\d=[.int .i64 v]\/k=4/\d=[.int .i64 0,.int .i64 0]:=λk d e=>by unfold Lf.kX at e;dsimp only at e;split at e<;>cases e<;>simp
  refine ⟨rfl,b5,λt l c e=> ?_,λt l c e q hq=> ?_,λt l c e _ _=> ?_,λt l c e _ I=> ?_,λa d e _=> ?_,λA B U V _ _ z=> ?_,λ_ e=>e.elim,λ_ e=>e.elim⟩
  ·grind
  ·grind
  ·obtain ⟨_,h | h | h | h | h | h⟩:=O t l c e<;>obtain ⟨rfl,rfl⟩:=h<;>exact ⟨rfl,λ_ _ _=>trivial⟩
  ·rw [(O t l c e).1] at I;exact absurd (Lf.bI _) I
  ·grind
  ·have c1:A=1\/A=3\/A=4:=by
    cases e:(Lf.kX (some p) v).m A with
    | none=>exact absurd e U
    | some d=>rcases cell A d e with h | h | h<;>simp [h.1]
   have c2:B=1\/B=3\/B=4:=by
    cases e:(Lf.kX (some p) v).m B with
    | none=>exact absurd e V
    | some d=>rcases cell B d e with h | h | h<;>simp [h.1]
   grind
 have C:∀a∈Lf.uj,∀b,b<w.heap.size\/w.heap.size+3<=b->(if a=1 then w.heap.size else if a=3 then w.heap.size+1 else w.heap.size+2)≠b:=λa _ b hb e=>by grind
 refine Lf.ot Lf.bG Lf.mP Lf.AB Lf.uj _ _ k (Lf.qo (n:=53) (by kernel_rfl)) ht _ _ W Z _ λe s' g b6 F y z Y r=> ?_;have su:D<W.heap.size:=Lf.ic H;have dn:k D=none:=b4 D (by omega);have N:y.heap[D]? =some (.deferred (some [])):=(r.bK D su dn λa j _=>C a j D (.inr G)).trans H;have X:g D=none:=r.xp D su dn λa j _=>C a j D (.inr G);have fin:Lf.uN Lf.wh s' g Tryz.f183.results.toList Tryz.f183.resultTypes.toList K->LeavesInM Fence.wide 3 Tryz.prog Tryz.f183 F.tmps (λe y=>∃u g,e=.returned u/\(∃x,u=(Lf.bD Lf.tb Tryz.f183.resultTypes.toList).enc x/\K x g)/\Lf.Step k g w y) F.defers .returning y:=λa8=>by
  rw [r.defers];refine ⟨by simp,.inl ⟨_,_,rfl,run_takeDeferred N,?_⟩⟩;have M:=VX Y X N (.deferred none);obtain ⟨x,vs,j,a9,b3⟩:=Lf.rS Lf.bG M a8;refine ⟨_,Lf.ny a9,_,g,rfl,⟨x,b3,j⟩,M.sub,?_,λb hb L=> ?_,?_,?_,?_⟩
  ·have:=r.size;have:=s.size;simp;omega
  ·have J:b<W.heap.size:=Nat.lt_of_lt_of_le hb s.size;refine ⟨?_,r.xp b J L λa j _=>C a j b (.inl hb)⟩;rw [World.putObj_heap_other (by omega),r.bK b J L λa j _=>C a j b (.inl hb)];exact s.block b hb
  ·exact r.os.trans s.os
  ·exact r.tape.trans s.tape
  ·exact r.output.trans s.output
 cases e with
 | gE=>exact fin z
 | ret=>exact fin z
 | ext i=>exact z.elim
 | kL i=>exact z.elim
end Go.Proofs
namespace Go.Proofs
open Go.RowKit Go.Shelf
attribute [local go_sem] Oper.semAt_some
theorem U7 {W:World} {b i:Nat} {a:Array Value} {t:TypeId} (h:W.heap[b]? =some (.cells a t (0,0))):W.frozen? ⟨b,i,none⟩=false:=by simp [World.frozen?,h]
theorem XA {W:World} {b c i:Nat} {v:Value} (h:b≠c):(W.setCell ⟨c,i,none⟩ v).heap[b]? =W.heap[b]?:=by show (W.heap.modify c _)[b]? =_;grind
theorem Yp {W:World} {c:Nat} {u v:Value} {t:TypeId} (h:W.heap[c]? =some (.cells #[u] t (0,0))):(W.setCell ⟨c,0,none⟩ v).heap[c]? =some (.cells #[v] t (0,0)):=by show (W.heap.modify c _)[c]? =_;grind
set_option maxHeartbeats 4000000 in
theorem U9 {k:Lf.Hp} {pb:Nat} {ah:Int} {len:Nat} {ptr:Nat->Addr} {eK:Nat->Nat} {w:World} {Kq:(Lf.bD Lf.tb Tryz.f183.resultTypes.toList).T->Lf.Hp->Prop} (hs:Lf.Sub k w)
  (hl:0<len/\len<=1000) (num:Nat->Fp len) (hnum:∀j,j<len->wo ah len j=(num j).1)
  (hround:∀W,Lf.Sub k W->Calls Tryz.prog 210 #[.pointer (some ⟨pb,0,none⟩)] W λe W'=>∃A A1:Nat,e=.returned (.func (.func 221) #[] #[.pointer (some ⟨A1,0,none⟩),.pointer (some ⟨A,0,none⟩)])/\(W.heap.size<=A/\A<W'.heap.size)/\(W.heap.size<=A1/\A1<W'.heap.size)/\
   W'.cell? ⟨A,0,none⟩=some (.int .i64 ah)/\W'.cell? ⟨A1,0,none⟩=some (.int .i64 (len:Int))/\Below W.heap.size W W')
  (lb:Nat) (lo lc:Nat) (hlane:∀W,Lf.Sub k W->W.cell? ⟨pb,0,none⟩=some (.slice (some ⟨lb,lo,none⟩) len lc))
  (hptr:∀j,j<len->∀W,Lf.Sub k W->W.cell? ⟨lb,lo+j,none⟩=some (.pointer (some (ptr j))))
  (hlen:∀j,j<len->∀W,Lf.Sub k W->Calls Tryz.prog 211 #[.pointer (some (ptr j))] W λe W'=>e=.returned (.int .i64 (eK j:Int))/\Below W.heap.size W W')
  (hno:(∀j,j<len->eK (num j).1.toNat=0)->Lf.rW (some ⟨pb,0,none⟩) (-1) Kq k)
  (hyes:∀j,j<len->(∀i,i<j->eK (num i).1.toNat=0)->eK (num j).1.toNat≠0->Lf.rW (some ⟨pb,0,none⟩) (num j).1 Kq k):
  Calls Tryz.prog 183 #[.pointer (some ⟨pb,0,none⟩)] w (λe w'=>∃u h',e=.returned u/\(∃x,u=(Lf.bD Lf.tb Tryz.f183.resultTypes.toList).enc x/\Kq x h')/\Lf.Step k h' w w'):=by
 refine callsIn_wide.1 (callsIn_of_wp_marks (n:=3) Tryz.func183 rfl trivial ?_ rfl);simp only [Tryz.ntmps183,List.size_toArray,List.length_cons,List.length_nil,Nat.reduceAdd,Nat.reduceSub,Array.replicate_succ,Array.replicate_zero,List.push_toArray,List.append_toArray,List.nil_append,List.cons_append]
 gi_wp2
 refine (show ∀T,T=Lf.mP->Code.wpIn Fence.wide 3 Tryz.prog (Code.scope (Code.seq _ (Code.seq _ (Code.seq (Code.seq _ (Code.block _ (Code.rangeFunc _ _ _ _))) T)))) _ _ _ from λT hT=> ?_) _ rfl;refine wpIn_wide.2 (wp_scope_straight ((wpIn_wide (n:=3)).1 (wpIn_seq_k λK1 hK1=> ?_)))
 gi_wp2
 rename_i K hK;refine wpIn_wide.2 (wp_label (hK _ _ ?_));clear hK;have hsz:(((w.alloc (Obj.cells #[Value.pointer (some ⟨pb,0,none⟩)] 153)).alloc (Obj.cells #[Value.int IntKind.i64 (-1)] 3)).alloc (Obj.cells #[Value.int IntKind.i64 0,Value.int IntKind.i64 0] 192)).heap.size=w.heap.size+3:=by simp
 obtain ⟨W0,hW0⟩:∃W0,((w.alloc (Obj.cells #[Value.pointer (some ⟨pb,0,none⟩)] 153)).alloc (Obj.cells #[Value.int IntKind.i64 (-1)] 3)).alloc (Obj.cells #[Value.int IntKind.i64 0,Value.int IntKind.i64 0] 192)=W0:=⟨_,rfl⟩;have b0:W0.heap[w.heap.size]? =some (.cells #[Value.pointer (some ⟨pb,0,none⟩)] 153):=by rw [<-hW0,Fa,if_neg (by simp;omega),Fa,if_neg (by simp),Fa,if_pos rfl]
 have b1:W0.heap[w.heap.size+1]? =some (.cells #[Value.int IntKind.i64 (-1)] 3):=by rw [<-hW0,Fa,if_neg (by simp),Fa,if_pos (by simp)]
 have b2:W0.heap[w.heap.size+2]? =some (.cells #[Value.int IntKind.i64 0,Value.int IntKind.i64 0] 192):=by rw [<-hW0,Fa,if_pos (by simp)]
 have bo:Below w.heap.size w W0:=by rw [<-hW0];exact (((Below.refl _ w).alloc (Nat.le_refl _) _).alloc (by simp) _).alloc (by simp;omega) _
 rw [hW0] at hsz ⊢;have c0:W0.cell? ⟨w.heap.size,0,none⟩=some (.pointer (some ⟨pb,0,none⟩)):=Ej b0;have hs0:Lf.Sub k W0:=λb o e=>(bo.block b (hs.lt e)).trans (hs b o e);have hr:=hround W0 hs0;refine wpIn_seq_k λK hK=> ?_
 gi_wp2_with (refine ⟨trivial,?_⟩;gi_at_call 210;refine (callsIn_wide.2 hr).mono ?_;rintro e W2 ⟨A,A1,rfl,hA,hA1,hcA,hcA1,hB⟩)
 clear hr hround;have cB:w.heap.size+1<W2.heap.size:=by omega
 have w0:W2.heap[w.heap.size]? =some (.cells #[Value.pointer (some ⟨pb,0,none⟩)] 153):=(hB.block _ (by omega)).trans b0;have w1:W2.heap[w.heap.size+1]? =some (.cells #[Value.int IntKind.i64 (-1)] 3):=(hB.block _ (by omega)).trans b1;have w2:W2.heap[w.heap.size+2]? =some (.cells #[Value.int IntKind.i64 0,Value.int IntKind.i64 0] 192):=(hB.block _ (by omega)).trans b2;have ww:Below w.heap.size w W2:=bo.trans (hB.mono (by omega));have subG:∀ {v W},AX W2.heap.size (w.heap.size+1) W2 v W->Lf.Sub k W/\Below w.heap.size w W/\W.heap[w.heap.size]? =some (.cells #[Value.pointer (some ⟨pb,0,none⟩)] 153)/\W.heap[w.heap.size+2]? =some (.cells #[Value.int IntKind.i64 0,Value.int IntKind.i64 0] 192):=λ{v W} g=>by have hb:Below w.heap.size w W:=⟨g.os.trans ww.os,g.tape.trans ww.tape,g.output.trans ww.output,by have:=g.size;omega,λb hb=>(g.same b (by omega) (by omega)).trans (ww.block b hb)⟩;exact ⟨λb o e=>(hb.block b (hs.lt e)).trans (hs b o e),hb,(g.same _ (by omega) (by omega)).trans w0,(g.same _ (by omega) (by omega)).trans w2⟩
 have tail:∀ {v W D} {x7 x8 x9 x10:Value},AX W2.heap.size (w.heap.size+1) W2 v W->W2.heap.size<=D->W.heap[D]? =some (.deferred (some []))->Lf.rW (some ⟨pb,0,none⟩) v Kq k->
   K {tmps:=Cd ⟨pb,0,none⟩ w x7 x8 x9 x10,defers:=[{target:=.collected D,args:= #[]}]} W:=λ{v W D x7 x8 x9 x10} g hD hK2 ht=>by
  obtain ⟨q1,q2,q3,q4⟩:=subG g;refine hK _ _ (wpIn_wide.2 ?_);rw [hT];exact U5 hs q2 q3 g.box q4 (by omega) hK2 ht
 refine wpIn_rangeFunc_ownF (α:=Fp len) rfl (by decide) (gf:=221) (lb:= #[Value.pointer (some ⟨A1,0,none⟩),Value.pointer (some ⟨A,0,none⟩)]) rfl trivial (enters_of Tryz.func221 (by kernel_rfl) rfl)
  (encs:=λx=> #[.int .i64 x.1]) (Kp:=λW W'=>W'.cell? ⟨A,0,none⟩=W.cell? ⟨A,0,none⟩/\W'.cell? ⟨A1,0,none⟩=W.cell? ⟨A1,0,none⟩)
  (S:=λys=>ys=xk num len) (Sp:=λpre=>∃k,k<=len/\pre=xk num k) (N:=len) (w0:=W2)
  (λl J Jx W hW _ _ hY h0=>QL 2 (by decide) l A A1 ah len hl.1 hl.2 num hnum _ (λ_ _ h=>h) J Jx hY W ((hW.cell (p:=⟨A,0,none⟩) hA.2).trans hcA) ((hW.cell (p:=⟨A1,0,none⟩) hA1.2).trans hcA1) h0)
  (λh1 h2=>⟨h2.1.trans h1.1,h2.2.trans h1.2⟩)
  (λW l o o' hl2 _ _ _=>⟨yr (World.putObj_heap_other (by omega)),yr (World.putObj_heap_other (by omega))⟩)
  (Below.refl _ _) (λ_=>rfl)
  (λpre W=>AX W2.heap.size (w.heap.size+1) W2 (-1) W/\∀y∈pre,eK y.1.toNat=0)
  (λc pre W=>c=.exit 0/\∃pre' x,pre=pre'++ [x]/\(∀y∈pre',eK y.1.toNat=0)/\eK x.1.toNat≠0/\AX W2.heap.size (w.heap.size+1) W2 x.1 W)
  (λs A B row hs hg hr=>⟨hs.1.grown cB hg hr,hs.2⟩)
  (λc s A B row hs hg hr=>by
   obtain ⟨e,pre',x,h1,h2,h3,h4⟩:=hs;exact ⟨e,pre',x,h1,h2,h3,h4.grown cB hg hr⟩)
  ⟨⟨λ_ _ _=>rfl,w1,Nat.le_refl _,rfl,rfl,rfl⟩,λy hy=>by cases hy⟩
  (λx=>{tmps:= #[Value.pointer (some ⟨pb,0,none⟩),Value.pointer (some ⟨w.heap.size,0,none⟩),Value.int IntKind.i64 0,Value.pointer (some ⟨w.heap.size+1,0,none⟩),Value.pointer (some ⟨w.heap.size+1+1,0,none⟩),Value.bool false,Value.int IntKind.i64 0,.int .i64 x.1,Value.pointer (some ⟨pb,0,none⟩),Value.func (Fn.func 221) #[] #[Value.pointer (some ⟨A1,0,none⟩),Value.pointer (some ⟨A,0,none⟩)],.int .i64 x.1,undef,undef,undef,undef,undef,undef,undef,undef,undef,undef,undef,undef,undef,undef,undef,undef,undef,undef,undef,undef,undef,undef,undef,undef,undef,undef,undef,undef,undef,undef,undef,undef,undef,undef,undef,undef,undef,undef,undef,undef,undef,undef],defers:=[]})
  ?assign ?body ?done ?stop
 case assign=>
  intro l x W K hK
  gi_wp2
  exact hK
 case body=>
  rintro l pre x W ⟨g,hz⟩ _;obtain ⟨q1,q2,q3,q4⟩:=subG g;have d0:W.cell? ⟨w.heap.size,0,none⟩=some (.pointer (some ⟨pb,0,none⟩)):=Ej q3;have d1:W.cell? ⟨pb,0,none⟩=some (.slice (some ⟨lb,lo,none⟩) len lc):=hlane W q1;have xl:x.1.toNat<len:=by have:=x.2;omega
  have x0:=x.2;have d2:W.cell? ⟨lb,lo+x.1.toNat,none⟩=some (.pointer (some (ptr x.1.toNat))):=hptr _ xl W q1;have hc:=hlen _ xl W q1;by_cases hv:eK x.1.toNat=0
  ·rw [hv] at hc
   gi_wp2_with (refine ⟨trivial,?_⟩;gi_at_call 211;refine (CallsIn.inRound l (callsIn_wide.2 hc)).mono ?_;rintro e W3 ⟨rfl,hB3⟩)
   have hlt:∀b o,W.heap[b]? =some o->W3.heap[b]? =some o:=λb o e=>(hB3.block b (Lf.ic e)).trans e;have gsz:=g.size;refine ⟨⟨hB3.size,λb o e _=>hlt b o e⟩,⟨yr (hB3.block _ (by omega)),yr (hB3.block _ (by omega))⟩,⟨λb hb hne=>(hB3.block b (by omega)).trans (g.same b hb hne),hlt _ _ g.box,Nat.le_trans g.size hB3.size,hB3.os.trans g.os,hB3.tape.trans g.tape,hB3.output.trans g.output⟩,λy hy=> ?_⟩;grind
  ·have hv2:0<eK x.1.toNat:=Nat.pos_of_ne_zero hv
   gi_wp2_with (refine ⟨trivial,?_⟩;gi_at_call 211;refine (CallsIn.inRound l (callsIn_wide.2 hc)).mono ?_;rintro e W3 ⟨rfl,hB3⟩;have hb3:=(hB3.block _ (Lf.ic g.box)).trans g.box;have hcb:W3.cell? ⟨w.heap.size+1,0,none⟩=some (.int .i64 (-1)):=Ej hb3;have hfb:W3.frozen? ⟨w.heap.size+1,0,none⟩=false:=U7 hb3)
   have gsz:=g.size;refine ⟨⟨Nat.le_trans hB3.size (KeepsOthers.setCell _ _ _).size,λb o e ho=>(KeepsOthers.setCell _ _ _).same b o ((hB3.block b (Lf.ic e)).trans e) ho⟩,rfl,pre,x,rfl,hz,hv,?_⟩;have hset:(W3.setCell ⟨w.heap.size+1,0,none⟩ (.int .i64 x.1))=(W3.setCell ⟨w.heap.size+1,0,none⟩ (.int .i64 x.1)):=rfl;refine ⟨λb hb hne=> ?_,?_,?_,hB3.os.trans g.os,hB3.tape.trans g.tape,hB3.output.trans g.output⟩
   ·rw [XA hne];exact (hB3.block b (by omega)).trans (g.same b hb hne)
   ·exact Yp hb3
   ·exact Nat.le_trans g.size (Nat.le_trans hB3.size (KeepsOthers.setCell _ _ _).size)
 case done=>
  rintro D ys W hD rfl ⟨g,hz⟩ hK2
  gi_wp2
  refine tail (x7:=undef) (x8:=Value.pointer (some ⟨pb,0,none⟩)) (x9:=Value.func (Fn.func 221) #[] #[Value.pointer (some ⟨A1,0,none⟩),Value.pointer (some ⟨A,0,none⟩)]) (x10:=undef) g hD hK2 (hno λj hj=>hz _ ?_);exact List.mem_map.2 ⟨j,List.mem_range.2 hj,rfl⟩
 case stop=>
  rintro D c pre W hD hSp ⟨rfl,pre',x,h1,h2,h3,g⟩ hK2
  gi_wp2
  obtain ⟨k1,hk1,e1⟩:=hSp;rw [h1] at e1;cases k1 with
  | zero=>simp [xk] at e1
  | succ j=>
   rw [kZ] at e1;obtain ⟨e2,e3⟩:=List.append_inj' e1 rfl;have e3:x=num j:=by simpa using e3
   refine tail (x7:=undef) (x8:=Value.pointer (some ⟨pb,0,none⟩)) (x9:=Value.func (Fn.func 221) #[] #[Value.pointer (some ⟨A1,0,none⟩),Value.pointer (some ⟨A,0,none⟩)]) (x10:=undef) g hD hK2 ?_;rw [e3];refine hyes j (by omega) (λi hi=> ?_) (by grind);exact h2 _ (by rw [e2];exact List.mem_map.2 ⟨i,List.mem_range.2 hi,rfl⟩)
end Go.Proofs
namespace Lf
open Go Go.Proofs Go.RowKit
def Ce (P:Program) (p:Option Addr) (lane:Int) (Q:(Int->(Int->(bJ->(Bool->(Int->(Hp->Prop))))))) (h:Hp):Prop:=
 (if (decide (lane<(0:Int)))=true then
 Q (0:Int) (0:Int) ⟨(0:Int),(0:Int)⟩ false (21:Int) h
 else
 ai none p λd=>
 aR none au h (Addr.add d 0) λx=>
 (((x.len:Nat):Int)≠(0:Int)/\ai none p λe=>
 cJ h (Addr.add e 1) [(.int .i64 (Int.tmod (yw (lane+(1:Int))) ((x.len:Nat):Int)))] (λa=>
 ai none p λf=>
 aR none au a (Addr.add f 0) λb=>
 ((bF b.base b.len lane)/\aR none ag a (sat b.base 1 lane) λj=>
 nV P Xj [(.pointer j)] (af .i64) aH bn (af .i64) (λr g r2 i c=>
 ((True/\True)/\Q r lane g r2 i c)) a))))
theorem IL (p:Option Addr) (lane:Int) (Q:Int->Int->bJ->Bool->Int->Hp->Prop) (h:Hp):rW p lane (λx a=>Q x.1 x.2.1 x.2.2.1 x.2.2.2.1 x.2.2.2.2 a) h=Ce Tryz.prog p lane Q h:=by kernel_rfl
section
variable {h0 k:Hp}
theorem MU {h:Hp} {a:Addr} {b:List Value} {i:Nat} {v:Value} (l:bf h a b) (e:b[i]? =some v):dd h (a.add i)=some v:=l i v e
theorem Yq {P:Program} {g:FuncId} {args:List Value} {sh:Shape} {K:sh.T->Hp->Prop} {w:World} (c:Sub k w) (f:aa P g args sh (λx a=>a=k/\K x a) k):Calls P g args.toArray w λe d=>∃x,e=.returned (sh.enc x)/\K x k/\Below w.heap.size w d:=by
 refine (f w c).mono ?_;rintro e d ⟨v,a,rfl,⟨x,rfl,rfl,h⟩,st⟩;refine ⟨x,rfl,h,st.os,st.tape,st.output,st.size,λb hb=> ?_⟩;cases e:a b with
 | none=>exact (st.bK b hb e).1
 | some o=>rw [st.sub b o e,c b o e]
theorem zt {a:Type} {l:List a} {i:Nat} {d:a} (h:i<l.length):l[i]? =some (l.getD i d):=by grind
theorem JN {b:Type} {f:b->Value}:∀ {l:List b},l.flatMap (λa=> [f a])=l.map f
 | []=>rfl
 | a::r=>by rw [List.flatMap_cons,JN,List.map_cons];rfl
theorem QN {a:Type} {n:Nat} {f:Nat->a} {q:a->Bool} (h:∀j,j<n->q (f j)=false):((List.range n).map f).find? q=none:=by grind
theorem QO {a:Type} {n:Nat} {f:Nat->a} {q:a->Bool} {j:Nat} (c:j<n) (h:∀i,i<j->q (f i)=false) (b:q (f j)=true):((List.range n).map f).find? q=some (f j):=by
 have e:List.range n=List.range j++j::(List.range (n-j-1)).map (λi=>j+1+i):=by rw [show n=j+(1+(n-j-1)) by omega,List.range_add,List.range_add];simp [Nat.add_assoc]
 grind
theorem S2 :yM:=by
 intro h0 k p room ah f Q o hl d0 c0 c5;obtain ⟨x,s,e1,H,C⟩:=o.oV;obtain ⟨q,rfl,c9,d1⟩:=(Has.left C).qT;have b9:=C.right.left.jh;have c3:Rw k 1 eP x.aj s:=C.right.left.kM λ_=>rfl;have U:0<f.length:=by omega
 obtain ⟨L,M,c8,b8⟩:∃L M,x.aj.base=some ⟨L,M,none⟩/\bf k ⟨L,M,none⟩ (s.flatMap eP):=by
  obtain ⟨_,F,⟨q1,q2,q3⟩,_⟩:=C.right.left;rcases q3 with ⟨h,_⟩ | ⟨b,off,cs,h1,_⟩
  ·omega
  ·rcases c3.2.2 with h | ⟨a,h3,h4⟩
   ·omega
   grind
 have b6:∀j,j<f.length->(s.flatMap eP)[j]? =some (.pointer (some (s.getD j a0))):=λj l=>by rw [show s.flatMap eP=s.map λa=>Value.pointer (some a) from JN,List.getElem?_map,zt (d:=a0) (by omega)];rfl
 have D:Has h0 (dk Oc ⟨q,0,none⟩ x) k:=Has.left C;have b7:dd k ⟨q,0,none⟩=some x.aj.v:=MU (i:=0) (D.fb (off:=0) (n:=2) (vs:=[x.aj.v,.int .i64 x.ah]) rfl) rfl;have c1:Has h0 (dX ⟨q,0,none⟩ room f ah) k:=C.kU e1 H;let num:Nat->Fp f.length:=λj=>⟨(((ah.toNat+j)%f.length:Nat):Int),by omega,by have:=Nat.mod_lt (ah.toNat+j) U;omega⟩;let eK:Nat->Nat:=λj=>(f.getD j mH).values.length;have S:∀j,j<f.length->((match f[(ah.toNat+j)%f.length]? with | some x=> !x.values.isEmpty | none=>false)=true↔eK (num j).1.toNat≠0):=λj l=>by have I:=Nat.mod_lt (ah.toNat+j) U;grind
 have key:tI Tryz.prog Xg [.pointer (some ⟨q,0,none⟩)] (λv g=>∃x,v=(bD tb Tryz.f183.resultTypes.toList).enc x/\(λ(x:(zy (af .i64) (af .i64) aH bn (af .i64)).T) g=>Q x.1 x.2.1 x.2.2.1 x.2.2.2.1 x.2.2.2.2 g) x g) k:=by
  intro w hs;refine U9 (len:=f.length) (ah:=ah) (ptr:=λj=>s.getD j a0) (eK:=eK) (num:=num) hs ⟨U,by omega⟩ (λj l=> ?_) (λW B=> ?_) L M x.aj.cap (λW B=> ?_) (λj l W B=> ?_) (λj l W B=> ?_) (λV=> ?_) (λj l V hv=> ?_)
  ·show (Go.RowKit.wrap64 (ah+(j:Int))).tmod (f.length:Int)=(((ah.toNat+j)%f.length:Nat):Int);have:Go.RowKit.wrap64 (ah+(j:Int))=((ah.toNat+j:Nat):Int):=by unfold Go.RowKit.wrap64;omega
   rw [this];rfl
  ·refine (show aa Tryz.prog zuo [ag.enc (some ⟨q,0,none⟩)] kf (λv g=>k<=g/\∃A u:Nat,k A=none/\k u=none/\v=⟨221, #[], #[.pointer (some ⟨u,0,none⟩),.pointer (some ⟨A,0,none⟩)]⟩/\bf g ⟨A,0,none⟩ [.int .i64 ah]/\bf g ⟨u,0,none⟩ [.int .i64 (f.length:Int)]) k from ?_) W B |>.mono ?_
   ·refine PD ?_;unfold zuq;refine aP (D.ld (shf:=af .i64) x.ah (off:=1) rfl ?_);refine aP (D.ld (shf:=au) x.aj (off:=0) rfl ?_);intro b ty hn;have J:=ni (o:=.cells #[Value.int .i64 0] ty (0,0)) hn;have hb:fw (k.set b (.cells #[Value.int .i64 0] ty (0,0))) b [.int .i64 0]:=⟨ty,nI⟩;refine ⟨⟨pk J (D.fb (off:=1) (n:=1) (vs:=[.int .i64 x.ah]) rfl),pk J (D.fb (off:=0) (n:=1) (vs:=[x.aj.v]) rfl),trivial⟩,?_⟩;refine u5 hb (off:=0) (new:=[.int .i64 x.ah]) (by simp) λh2 m b5=> ?_;have X:k<=h2:=λc ob e=>m.bK c ob (J c ob e) λhc=>by grind
    refine ⟨⟨pk X (D.fb (off:=0) (n:=1) (vs:=[x.aj.v]) rfl),trivial⟩,?_⟩;intro Z te b0;have l3:=ni (o:=.cells #[Value.int .i64 ((x.aj.len:Nat):Int)] te (0,0)) b0;refine ⟨Hp.le_trans X l3,b,Z,hn,uu X b0,rfl,pk l3 ?_,?_⟩
    ·rw [<-e1];exact b5.df (off:=0) (n:=1) rfl
    ·have:=Et (h:=h2) (b:=Z) (t:=te) (cs:=[Value.int .i64 ((x.aj.len:Nat):Int)]);grind
   ·rintro e W' ⟨v,g,rfl,⟨fv,rfl,kl,A,u,nA,c6,rfl,lA,b1⟩,st⟩;have O:∃o,g A=some o:=by
     have:=lA 0 _ rfl;cases e:g A with
     | some o=>simp
     | none=>simp [dd,e,Addr.add] at this
    have P:∃o,g u=some o:=by
     have:=b1 0 _ rfl;cases e:g u with
     | some o=>simp
     | none=>simp [dd,e,Addr.add] at this
    obtain ⟨oA,O⟩:=O;obtain ⟨d2,P⟩:=P;refine ⟨A,u,rfl,⟨Nat.le_of_not_lt λI=> ?_,st.sub.lt O⟩,⟨Nat.le_of_not_lt λI=> ?_,st.sub.lt P⟩,wT st.sub (lA 0 _ rfl),wT st.sub (b1 0 _ rfl),st.os,st.tape,st.output,st.size,λb hb=> ?_⟩
    ·have:=(st.bK A I nA).2;grind
    ·have:=(st.bK u I c6).2;grind
    ·cases e:k b with
     | none=>exact (st.bK b hb e).1
     | some o=>rw [st.sub b o (kl b o e),B b o e]
  ·rw [wT B b7];show some (Value.slice x.aj.base x.aj.len x.aj.cap)=_;grind
  ·have:=MU b8 (b6 j l);rw [kK] at this;exact wT B this
  ·obtain ⟨h1,J,Y,_⟩:=C.om (zt (d:=mH) l);refine (Yq (sh:=af .i64) (K:=λr _=>r=((f.getD j mH).values.length:Int)) B (QM (VN Y ⟨rfl,rfl⟩))).mono ?_;grind
  ·refine Eq.mpr (IL (some ⟨q,0,none⟩) (-1) Q k) ?_;unfold Ce;rw [if_pos (by decide)];refine c0 (QN λj l=> ?_) k c1;have:=S j l;rw [V j l] at this;exact Bool.eq_false_iff.2 λe=>this.1 e rfl
  ·refine Eq.mpr (IL (some ⟨q,0,none⟩) (num j).1 Q k) ?_;unfold Ce;have c4:=(num j).2;rw [if_neg (by simp;omega)];have R:pT ah f=some (num j).1.toNat:=by
    unfold pT;rw [QO l (λi E=> ?_) ((S j l).2 hv)]
    ·show some ((ah.toNat+j)%f.length)=some ((((ah.toNat+j)%f.length:Nat):Int)).toNat;rw [Int.toNat_natCast]
    ·have:=S i (by omega);rw [V i E] at this;exact Bool.eq_false_iff.2 λe=>this.1 e rfl
   generalize (num j).1=y at c4 R hv;obtain ⟨i,rfl⟩:∃i:Nat,y=(i:Int):=⟨y.toNat,by omega⟩;rw [Int.toNat_natCast] at R hv;have E:i<f.length:=by omega
   refine aP (D.ld (shf:=au) x.aj (off:=0) rfl ⟨by omega,?_⟩);obtain ⟨g1,_,oR,put⟩:=C.f1;have b4:Int.tmod (yw ((i:Int)+1)) ((x.aj.len:Nat):Int)=((i+1:Nat):Int)%(f.length:Int):=by rw [aT,b9,H];rfl
   rw [b4];refine aP (oR.st ({x with ah:=((i+1:Nat):Int)%(f.length:Int)}:db) (off:=1) (new:=[.int .i64 (((i+1:Nat):Int)%(f.length:Int))]) (by show 1+1<=2;omega) rfl λk2 o2=> ?_);have c7:=put _ _ o2;refine aP (o2.ld (shf:=au) x.aj (off:=0) rfl ?_);have b3:Has h0 (iB ⟨q,0,none⟩ {x with ah:=((i+1:Nat):Int)%(f.length:Int)} s room f) k2:=c7;refine b3.ptr H E ?_;obtain ⟨g2,_,Y,kI⟩:=b3.om (zt (d:=mH) E);have a8:=zt (d:=mH) E;have a9:=hl.2 _ (List.mem_of_getElem? a8);have c2:∀ {l' G},Has g2 (dL (s.getD i a0) room l') G->Has h0 (dX ⟨q,0,none⟩ room (f.set i l') (((i+1:Nat):Int)%(f.length:Int))) G:=λN=>(kI _ _ N).kU rfl (by rw [List.length_set];exact H);refine Qd (RE Y a9.1 a9.2 (λe=> ?_) (λv vs G e e' N=>⟨⟨trivial,trivial⟩,?_⟩) λv vs z zs G e e' N=>⟨⟨trivial,trivial⟩,?_⟩)
   ·exact absurd (congrArg List.length e) hv
   ·have:=c5 i _ v vs R a8 e G (c2 N);rw [e'] at this;exact this
   grind
 exact key
end
end Lf
namespace Lf
open Go Go.Proofs Tryz
theorem kF {len:Int} {n:Nat} (l:len=(n:Int)) (hb:n<=4611686018427387904) (I:Nat->Hp->Prop) {B:(Int->Hp->Prop)->Int->Hp->Prop} {X:Int->Hp->Prop} {b:Hp} (d:I 0 b)
  (g:∀i:Nat,i<n->∀h,I i h->∀K:Int->Hp->Prop,(∀a,I (i+1) a->K (yw ((i:Int)+1)) a)->B K (i:Int) h) (m:∀h,I n h->X (n:Int) h):
  aA (λc t h=>if decide (t<len)=true then B c t h else X t h) (0:Int) b:=by
 refine aA.intro (λt h=>∃i:Nat,t=(i:Int)/\i<=n/\I i h) (λt _=>(len-t).toNat) ⟨0,rfl,by omega,d⟩ ?_;rintro t h ⟨i,rfl,k,e⟩;by_cases f:i<n
 ·rw [if_pos (iV)];refine g i f h e _ λa j=> ?_;rw [aT];grind
 grind
section
end
theorem Dm {a:Type} {l:List a} {i:Nat} {x:a} (h:l[i]? =some x):l.drop i=x::l.drop (i+1):=by obtain ⟨b,rfl⟩:=List.getElem?_eq_some_iff.1 h;simp
section
end
def AW (c:aE) (s:fT):Prop:=vp c s λ(i:Nat) q=>fl c.labels (i:Int) q=true
section
variable {h0 h:Hp} {a:Nat} {bs:List UInt8}
theorem Vb {b:List (List UInt8)} {i:Nat} {e:List UInt8} (c:b[i]? =some e):(bs++(b.take i).flatten)++e=bs++(b.take (i+1)).flatten/\(bs++(b.take i).flatten).length+e.length<=bs.length+b.flatten.length:=by
 constructor
 ·rw [List.take_add_one,c];simp
 ·obtain ⟨d,rfl⟩:=List.getElem?_eq_some_iff.1 c;have:b.flatten=(b.take i).flatten++(b[i]++(b.drop (i+1)).flatten):=by have h:=congrArg List.flatten (List.take_append_drop i b);rw [List.flatten_append,List.drop_eq_getElem_cons d,List.flatten_cons] at h;exact h.symm
  rw [this];simp;omega
end
theorem zu {b:Type} {f:b->List UInt8} {B:Nat}:∀(l:List b),(∀x,(f x).length=B)->(l.map f).flatten.length=B*l.length
 | [],_=>by simp
 | x::l,a=>by simp only [List.map_cons,List.flatten_cons,List.length_append,a,zu l a,List.length_cons];rw [Nat.mul_add];omega
section
end
theorem mK {h:Hp} {cs:List Value} {K:Addr->Hp->Prop} (d:∀b a,h b=none->h<=a->fw a b cs->K ⟨b,0,none⟩ a):bh cs K h:=λb t c=>d b _ c (ni c) ⟨t,nI⟩
abbrev RS :Type:=Except (Int×Nat) Nat
def fI {a:Type} (r:RS) (d:D a) (b:List UInt8):Except (Int×Nat) (a×Nat):=match r with
 | .ok at_=>d b at_
 | .error e=>.error e
def Cn {a:Type} (b:List UInt8) (r:RS) (d:D a) (c:RS) (x:a):Prop:=∀(e:Type) (f:a->D e),fI r (D.bind d f) b=fI c (f x) b
section
variable {α β:Type} {bs:List UInt8} {r r1 r2:RS}
theorem yX {c:Type} (d:D α) (g:α->D β) (f:β->D c):D.bind (D.bind d g) f=D.bind d λx=>D.bind (g x) f:=by funext b a;unfold D.bind;grind
theorem S4 (x:α) (f:α->D β):D.bind (D.ret x) f=f x:=rfl
theorem Cn.ok {d:D α} {at_ a:Nat} {x:α} (h:d bs at_=.ok (x,a)):Cn bs (.ok at_) d (.ok a) x:=λβ f=>by show D.bind d f bs at_=f x bs a;unfold D.bind;rw [h]
theorem Cn.err {d:D α} {at_:Nat} {e:Int×Nat} {x:α} (h:d bs at_=.error e):Cn bs (.ok at_) d (.error e) x:=λβ f=>by show D.bind d f bs at_=.error e;unfold D.bind;rw [h]
theorem Cn.stay {d:D α} {e:Int×Nat} {x:α}:Cn bs (.error e) d (.error e) x:=λβ f=>rfl
theorem Cn.ret {x:α}:Cn bs r (D.ret x) r x:=λβ f=>by rw [S4]
theorem Cn.seq {d:D α} {g:α->D β} {x:α} {y:β} (a:Cn bs r d r1 x) (b:Cn bs r1 (g x) r2 y):Cn bs r (D.bind d g) r2 y:=λc f=>by rw [yX,a,b]
theorem Cn.done {d:D α} {x:α} (h:Cn bs r d r1 x):fI r d bs=match r1 with | .ok at_=>.ok (x,at_) | .error e=>.error e:=by
 have:=h α D.ret;have e:D.bind d D.ret=d:=by funext b a;unfold D.bind D.ret;grind
 rw [e] at this;rw [this];cases r1<;>rfl
theorem Cn.map {d:D α} {g:α->β} {x:α} (h:Cn bs r d r1 x):Cn bs r (D.map g d) r1 (g x):=Cn.seq h Cn.ret
end
theorem QP (l:List UInt8) (b:UInt8):il (l++ [b])=il l+256^l.length*b.toNat:=by
 induction l with
 | nil=>simp [il]
 | cons c l a=>simp only [List.cons_append,il,a,List.length_cons,Nat.pow_succ];grind
theorem Vc {n c i:Nat} (m:n<256^i) (k:i<8) (j:c<256):dM .or .u64 (n:Int) (qV .u64 (IntKind.wrap .u64 (c:Int)) (8*(i:Int)))=((n+256^i*c:Nat):Int):=by
 have a:(256:Nat)^i=2^(8*i):=by rw [show (256:Nat)=2^8 by rfl,<-Nat.pow_mul]
 have hp:256^i*256<=18446744073709551616:=by rw [<-Nat.pow_succ];exact Nat.pow_le_pow_right (by omega:256>0) (show i+1<=8 by omega)
 have l:256^i*c+256^i<=256^i*256:=by have:=Nat.mul_le_mul_left (256^i) (show c+1<=256 by omega);omega
 have b:IntKind.wrap .u64 (c:Int)=(c:Int):=qD ⟨by omega,by omega⟩;have d:qV .u64 (c:Int) (8*(i:Int))=((256^i*c:Nat):Int):=by
  unfold qV;have:min (8*(i:Int)).toNat (IntKind.bits .u64)=8*i:=by show min _ 64=_;omega
  rw [this,qD]
  ·rw [a,Int.natCast_mul,Int.mul_comm];norm_cast
  grind
 rw [b,d];unfold dM;have e:kQ (n:Int):=⟨by omega,by omega⟩;have f:kQ ((256^i*c:Nat):Int):=⟨by omega,by omega⟩;have g:IntKind.bits .u64=64:=rfl;dsimp only;rw [g,yo e,yo f,BitVec.toNat_or,Int.toNat_natCast,Int.toNat_natCast,BitVec.toNat_ofNat,BitVec.toNat_ofNat,Nat.mod_eq_of_lt (by omega),Nat.mod_eq_of_lt (by omega)];have h:n ||| 256^i*c=n+256^i*c:=by rw [Nat.or_comm,a,<-Nat.two_pow_add_eq_or_of_lt (by omega) c,Nat.add_comm]
 rw [h,qD ⟨by omega,by omega⟩]
theorem S6 {h:Hp} {y:Sl} {l:List UInt8} {K:Int->Hp->Prop} (hb:Bs h y l) (o:l.length<=8) (m:K (il l:Int) h):
  bT (α1:=Int) (α2:=Int) (λe n t a=>(if (decide (t<((y.len:Nat):Int)))=true then ((bF y.base y.len t)/\aR none (af .u8) a (sat y.base 1 t) λj=>
   ((0:Int)<=(yw ((8:Int)*t))/\e (dM .or .u64 n (qV .u64 (IntKind.wrap .u64 j) (yw ((8:Int)*t)))) (yw (t+(1:Int))) a)) else K n a)) (0:Int) (0:Int) h:=by
 have q:y.len=l.length:=hb.1;refine bT.intro (λn t c=>c=h/\∃i:Nat,t=(i:Int)/\i<=l.length/\n=(il (l.take i):Int)) (λ_ t _=>(l.length-t).toNat) ⟨rfl,0,rfl,by omega,rfl⟩ ?_;rintro n t c ⟨rfl,i,rfl,k,rfl⟩;by_cases p:i<l.length
 ·rw [if_pos (iV)];obtain ⟨f,x,b,g⟩:=Rw.read hb zK (by omega) (i:=(i:Int)) (by omega) (by omega);have b:l[i]? =some x:=b;refine ⟨f,(x.toNat:Int),g,?_⟩;rw [aT];refine ⟨by omega,?_⟩;have hv:=yZ (l.take i);have d:(l.take i).length=i:=by rw [List.length_take];omega
  rw [d] at hv;rw [Vc hv (by omega) x.toNat_lt,aT];refine ⟨⟨rfl,i+1,rfl,by omega,?_⟩,by omega⟩;rw [List.take_add_one,b];show _=((il (l.take i++ [x]):Nat):Int);rw [QP,d]
 grind
def pY (a:Sl) (at_ e b:Int):List Value:=[a.v,.int .i64 at_,.int .i64 e,.int .i64 b]
def ON (r:RS) (n at_ e c:Int):Prop:=match r with
 | .ok a=>at_=(a:Int)/\e=0/\(a:Int)<=n
 | .error (b,p)=>e=b/\b≠0/\c=(p:Int)
structure mQ (d h:Hp) (rb:Nat) (bl:Sl) (bs:List UInt8) (r:RS):Prop where
 le:d<=h
 out:d rb=none
 src:Bs d bl bs
 cap:bl.len<=bl.cap
 small:bs.length<=2097152
 iN:∃at_ e pl:Int,fw h rb (pY bl at_ e pl)/\ON r bs.length at_ e pl
section
variable {d h:Hp} {i:Nat} {j:Sl} {bs:List UInt8} {r:RS}
theorem mQ.mv (a:mQ d h i j bs r) {G f:List Nat} {b:Hp} (m:Mv G h f b) (l:i∉G) (g:∀c∈G,d c=none):mQ d b i j bs r:=by obtain ⟨p,e,o,k,n⟩:=a.iN;exact ⟨(m.le a.le g).1,a.out,a.src,a.cap,a.small,p,e,o,k.mv m l,n⟩
theorem mQ.grow (a:mQ d h i j bs r) {b:Hp} (c:h<=b):mQ d b i j bs r:=a.mv (Mv.of_le [] c) (by simp) (by simp)
theorem u3 {P:Program} {at_ e b:Int} (k:fw h i (pY j at_ e b)) {Q:Bool->Hp->Prop} (a:Q (e !=0) h):NR P (some ⟨i,0,none⟩) Q h:=by unfold NR;exact aP (cT (sh:=af .i64) e (k.df (off:=2) (n:=1) rfl) a)
theorem mQ.bad {P:Program} (a:mQ d h i j bs r) {Q:Bool->Hp->Prop} (f:∀b,(b=true↔∃e,r=.error e)->Q b h):NR P (some ⟨i,0,none⟩) Q h:=by
 obtain ⟨p,e,l,k,c⟩:=a.iN;refine u3 k (f _ ?_);cases r with
 | ok n=>rw [c.2.1];simp
 | error x=>obtain ⟨g,q⟩:=x;rw [c.1];simpa using c.2.1
theorem tq {at_ e pl l n:Int} (k:fw h i (pY j at_ e pl)) {Q:Hp->Prop}
  (g:∀m,Mv [i] h [i] m->fw m i (pY j at_ (if l≠0/\e=0 then l else e) (if l≠0/\e=0 then n else pl))->Q m):Wx prog (some ⟨i,0,none⟩) l n Q h:=by
 unfold Wx;refine vF (λb=>b=(e !=0)) false (λ_ p=>vc (u3 k (p _ rfl))) λb hb=>aJ ?_;by_cases a:l≠0
 ·have hb:b=(e !=0):=hb (by simpa using a);subst hb;by_cases f:e=0
  ·rw [if_pos (by simp [a,f])];rw [if_pos ⟨a,f⟩,if_pos ⟨a,f⟩] at g;refine aP (u5 (b:=i) (off:=2) k (by simp [pY]) λv t q=>aP (u5 (b:=i) (off:=3) q (by simp [pY]) λo u s=>g o (t.trans u) (by simpa [pY] using s)))
  ·rw [if_neg (by simp [f])];rw [if_neg (λc=>f c.2),if_neg (λc=>f c.2)] at g;exact g h (Mv.refl _ _) k
 ·rw [if_neg (by simp at a;simp [a])];rw [if_neg (λc=>a c.1),if_neg (λc=>a c.1)] at g;exact g h (Mv.refl _ _) k
theorem yv {k:Nat} {f:xm} {Q:Int->Hp->Prop} (a:mQ d h i j bs r) (a9:1<=k) (b0:k<=8) (W:Nat->Int)
  (T:∀n:Nat,n<256^k->∀K:Int->Hp->Prop,(∀o,h<=o->K (W n) o)->gK prog tb (.func (.func f.g) f.first f.captured) [.int .u64 (n:Int)] (af .i64) K h)
  (u:∀(v:Nat) J o,v<256^k->Mv [i] h [i] o->mQ d o i j bs J->Cn bs r (D.dH (D.num k) W) J v->Q (v:Int) o):VF prog (some ⟨i,0,none⟩) (k:Int) f Q h:=by
 unfold VF;obtain ⟨p,e,pl,l,A⟩:=a.iN;have P:j.len=bs.length:=a.src.1;have b1:=a.small;have F:0<256^k:=Nat.pow_pos (by omega);refine vc (u3 l ?_);cases r with
 | error x=>obtain ⟨X,q⟩:=x;rw [if_pos (by rw [A.1];simpa using A.2.1)];exact u 0 _ h F (Mv.refl _ _) a Cn.stay
 | ok n=>
  obtain ⟨rfl,rfl,R⟩:=A;have R:n<=bs.length:=by omega
  rw [lz];refine aP (cT (sh:=au) j (l.df (off:=0) (n:=1) rfl) (aP (cT (sh:=af .i64) (n:Int) (l.df (off:=1) (n:=1) rfl) ?_)));rw [aT];by_cases w:bs.length<n+k
  ·rw [if_pos (iV)];refine aP (cT (sh:=au) j (l.df (off:=0) (n:=1) rfl) (BX (tq l λo m G=> ?_)));rw [if_pos ⟨by decide,rfl⟩,if_pos ⟨by decide,rfl⟩] at G;refine u 0 (.error (5,bs.length)) o F m ⟨(m.le a.le λc z=>by rw [List.mem_singleton.1 z];exact a.out).1,a.out,a.src,a.cap,a.small,_,_,_,G,rfl,by decide,by rw [P]⟩ (Cn.err ?_);unfold D.dH D.num;rw [if_pos w]
  ·rw [if_neg (λe=>w (by have:=of_decide_eq_true e;omega))];refine aP (cT (sh:=au) j (l.df (off:=0) (n:=1) rfl) (aP (cT (sh:=af .i64) (n:Int) (l.df (off:=1) (n:=1) rfl) (aP (cT (sh:=af .i64) (n:Int) (l.df (off:=1) (n:=1) rfl) ?_)))));have a8:=a.cap;rw [aT];have S:(n:Int)<=(n:Int)+(k:Int):=by omega
   refine ⟨⟨by omega,S,by omega⟩,aJ ?_⟩;have L:((n:Int)+(k:Int)).toNat=n+k:=by omega
   have M:((n:Int)).toNat=n:=rfl;rw [L,M];have B:=(Rw.mono a.le a.src).cut (a:=n) (b:=n+k) (c:=j.cap) (n:=n+k-n) (m:=j.cap-n) zK (by omega) (by omega) (by omega) rfl;have N:n+k-n=k:=by omega
   rw [N] at B ⊢;have O:((bs.drop n).take k).length=k:=by rw [List.length_take,List.length_drop];omega
   have hv:=yZ ((bs.drop n).take k);rw [O] at hv;refine S6 B (by omega) ?_;refine aP (cT (sh:=af .i64) (n:Int) (l.df (off:=1) (n:=1) rfl) (T _ hv _ λY E=> ?_));have H:=l.le E;refine ⟨⟨H.df (off:=1) (n:=1) rfl,trivial⟩,BX (tq H λZ U I=> ?_)⟩;refine aP (cT (sh:=af .i64) (n:Int) (I.df (off:=1) (n:=1) rfl) (aP (u5 (b:=i) (off:=1) I (by simp [pY]) λy V s=> ?_)));have m:Mv [i] h [i] y:=(Mv.of_le [i] E).trans (U.trans V);have C:=(m.le a.le λc z=>by rw [List.mem_singleton.1 z];exact a.out).1;rw [aT] at s;simp only [pY,List.take,List.drop,List.length_cons,List.length_nil,List.cons_append,List.nil_append] at s;by_cases t:W (il ((bs.drop n).take k))=0
   ·simp only [ne_eq,t,not_true_eq_false,false_and,if_false] at s;refine u _ (.ok (n+k)) y hv m ⟨C,a.out,a.src,a.cap,a.small,_,_,_,s,by push_cast;rfl,rfl,by omega⟩ (Cn.ok ?_);unfold D.dH D.num;rw [if_neg w];dsimp only;rw [if_pos t]
   ·simp only [ne_eq,t,not_false_eq_true,and_self,if_true] at s;refine u _ (.error (W (il ((bs.drop n).take k)),n)) y hv m ⟨C,a.out,a.src,a.cap,a.small,_,_,_,s,rfl,t,rfl⟩ (Cn.err ?_);unfold D.dH D.num;rw [if_neg w];dsimp only;rw [if_neg t]
end
theorem JB (k:Nat) (W:Int->Int):D.dH (zD k) W=D.map wq (D.dH (D.num k) λn=>W (wq n)):=by
 funext b a;cases c:D.num k b a with
 | error e=>simp [D.dH,zD,D.map,D.bind,c]
 | ok x=>obtain ⟨n,a2⟩:=x;by_cases h:W (wq n)=0<;>simp [D.dH,zD,D.map,D.bind,c,h,D.ret]
section
variable {d h:Hp} {c:Nat} {e:Sl} {bs:List UInt8} {r:RS}
theorem zP {k:Nat} {f:xm} {Q:Int->Hp->Prop} (a:mQ d h c e bs r) (u:1<=k) (w:k<=4) (W:Int->Int)
  (z:∀n:Nat,n<256^k->∀j,h<=j->∀K:Int->Hp->Prop,(∀i,j<=i->K (W (n:Int)) i)->gK prog tb (.func (.func f.g) f.first f.captured) [.int .i64 (n:Int)] (af .i64) K j)
  (y:∀(v:Nat) l i,v<256^k->Mv [c] h [c] i->mQ d i c e bs l->Cn bs r (D.dH (zD k) W) l (v:Int)->Q (v:Int) i):WX prog (some ⟨c,0,none⟩) (k:Int) f Q h:=by
 unfold WX;have B:256^k<=4294967296:=Nat.pow_le_pow_right (by omega:256>0) w;refine mK λb j A o q=> ?_;refine Ny (wrong:=⟨V7, #[], #[.pointer (some ⟨b,0,none⟩)]⟩) (yv (a.grow o) u (by omega) (λn=>W (wq n)) (λn x K s=> ?_) λv l p hv m a2 t=> ?_)
 ·refine tv (g:=V7) rfl (zxk ?_);unfold zrp;refine cT (sh:=kf) f (q.df (off:=0) (n:=1) rfl) ?_;rw [aT];exact z n x j o _ s
 ·rw [aT];refine y v l p hv ((Mv.of_le [c] o).trans m) a2 ?_;rw [JB];exact t.map
theorem CK {iA:Int} {Q:Int->Hp->Prop} (a:mQ d h c e bs r)
  (t:∀(v:Nat) f i,v<256->Mv [c] h [c] i->mQ d i c e bs f->Cn bs r (D.dH (zD 1) (fJ iA)) f (v:Int)->Q (v:Int) i):Uu prog (some ⟨c,0,none⟩) iA Q h:=by
 unfold Uu;refine mK λb u w l o=> ?_;refine NG (wrong:=⟨SD, #[], #[.pointer (some ⟨b,0,none⟩)]⟩) (zP (k:=1) (a.grow l) (by omega) (by omega) (fJ iA) (λn x j s K p=> ?_) λv f j hv m a2 q=> ?_)
 ·refine tv (g:=SD) rfl (zsl ?_);unfold znm;exact cT (sh:=af .i64) iA (pk s (o.df (off:=0) (n:=1) rfl)) (Yw (Ed (p j (Hp.le_refl _))))
 ·exact t v f j hv ((Mv.of_le [c] l).trans m) a2 q
theorem QQ {part:Int} {k:Nat} {Q:Int->Hp->Prop} (a:mQ d h c e bs r) (s:1<=k) (x:k<=2)
  (u:∀(v:Nat) f i,v<256^k->Mv [c] h [c] i->mQ d i c e bs f->Cn bs r (D.dH (zD k) (pz part)) f (v:Int)->Q (v:Int) i):VB prog (some ⟨c,0,none⟩) part (k:Int) Q h:=by
 unfold VB;refine mK λb w y l o=> ?_;refine NG (wrong:=⟨Tt, #[], #[.pointer (some ⟨b,0,none⟩)]⟩) (zP (k:=k) (a.grow l) s (by omega) (pz part) (λn z j t K p=> ?_) λv f j hv m a2 q=> ?_)
 ·refine tv (g:=Tt) rfl (zts ?_);unfold zod;exact cT (sh:=af .i64) part (pk t (o.df (off:=0) (n:=1) rfl)) (zxb (Ld (p j (Hp.le_refl _))))
 ·exact u v f j hv ((Mv.of_le [c] l).trans m) a2 q
def mX (x:an):List Value:=bp (aQ.enc x)
theorem Jb {j:Nat} {x:an} {Q:Int->Hp->Prop} (a:mQ d h c e bs r) (kc:fw h j (mX x)) (B:x.aN.len<=1099511627776)
  (u:∀(v:Nat) i l,v<256->Mv [c] h [c] l->mQ d l c e bs i->Cn bs r (D.dH (zD 1) (dg 0 ((x.aN.len:Int)-1))) i (v:Int)->Q (v:Int) l):S1 prog (some ⟨c,0,none⟩) (some ⟨j,0,none⟩) Q h:=by
 unfold S1;refine mK λb w z p s=> ?_;refine NG (wrong:=⟨Rz, #[], #[.pointer (some ⟨b,0,none⟩)]⟩) (zP (k:=1) (a.grow p) (by omega) (by omega) (dg 0 ((x.aN.len:Int)-1)) (λn A o q K f=> ?_) λv i o hv m a2 t=> ?_)
 ·refine tv (g:=Rz) rfl (zqw ?_);unfold zlc;refine cT (sh:=ag) (some ⟨j,0,none⟩) (pk q (s.df (off:=0) (n:=1) rfl)) (aP (cT (sh:=au) x.aN (((kc.le p).le q).df (off:=0) (n:=1) rfl) ?_));have f:=f o (Hp.le_refl _);unfold dg at f;by_cases y:(n:Int)<(x.aN.len:Int)
  ·rw [if_neg (by simp;omega)];rw [if_pos (by rw [de];omega)] at f;exact f
  ·rw [if_pos (by simp;omega)];rw [if_neg (by rw [de];omega)] at f;exact f
 ·exact u v i o hv ((Mv.of_le [c] p).trans m) a2 t
end
structure CB (d h0:Hp) (rb cb:Nat) (bl:Sl) (bs:List UInt8) (k:Hp) (r:RS) (x:an) (c:aE) (B:List Nat):Prop where
 base:d<=h0
 kr:h0 rb≠none
 kc:h0 cb≠none
 ne:rb≠cb
 dc:d cb=none
 bK:∀b o,h0 b=some o->b≠rb->b≠cb->k b=some o
 rd:mQ d k rb bl bs r
 iN:fw k cb (mX x)
 own:rf x c k B
 nd:B.Nodup
 fresh:∀b∈B,h0 b=none
section
variable {d h0 k:Hp} {g f:Nat} {i:Sl} {bs:List UInt8} {r:RS} {x:an} {c:aE} {B:List Nat}
theorem CB.nr (s:CB d h0 g f i bs k r x c B):g∉B:=λh=>s.kr (s.fresh g h)
theorem CB.nc (s:CB d h0 g f i bs k r x c B):f∉B:=λh=>s.kc (s.fresh f h)
theorem CB.step (s:CB d h0 g f i bs k r x c B) {h:Hp} {l:RS} (m:Mv [g] k [g] h) (a:mQ d h g i bs l):CB d h0 g f i bs h l x c B where
 base:=s.base
 kr:=s.kr
 kc:=s.kc
 ne:=s.ne
 dc:=s.dc
 bK:=λb o e j n=>m.bK b o (s.bK b o e j n) λhb=>j (List.mem_singleton.1 hb)
 rd:=a
 iN:=s.iN.mv m λhb=>s.ne (List.mem_singleton.1 hb).symm
 own:=kz.same s.own (zj m (kz.known s.own) λb hb e=>s.nr (by rw [<-List.mem_singleton.1 e];exact hb))
 nd:=s.nd
 fresh:=s.fresh
theorem CB.grow (s:CB d h0 g f i bs k r x c B) {b:Hp} (a:k<=b):CB d h0 g f i bs b r x c B:=s.step (Mv.of_le [g] a) (s.rd.grow a)
theorem CB.Bn (s:CB d h0 g f i bs k r x c B):CB d (mY k B) g f i bs k r x c B where
 base:=VP s.rd.le λb hb=>by
  cases e:d b with
  | none=>rfl
  | some o=>have:=s.base b o e;rw [s.fresh b hb] at this;cases this
 kr:=λe=>by rw [tz s.nr] at e;obtain ⟨p,q,t,a,_⟩:=s.rd.iN;exact a.known e
 kc:=λe=>by rw [tz s.nc] at e;exact s.iN.known e
 ne:=s.ne
 dc:=s.dc
 bK:=λb o e _ _=>VO b o e
 rd:=s.rd
 iN:=s.iN
 own:=s.own
 nd:=s.nd
 fresh:=λb hb=>RL hb
theorem CB.back (s:CB d h0 g f i bs k r x c B) {p:Hp} {q:RS} {u:an} {m:aE} {l:List Nat} (t:CB d (mY k B) g f i bs p q u m l):CB d h0 g f i bs p q u m l where
 base:=s.base
 kr:=s.kr
 kc:=s.kc
 ne:=s.ne
 dc:=s.dc
 bK:=λb o e a j=>t.bK b o (by rw [tz λhb=>by rw [s.fresh b hb] at e;cases e];exact s.bK b o e a j) a j
 rd:=t.rd
 iN:=t.iN
 own:=t.own
 nd:=t.nd
 fresh:=λb hb=>by
  cases e:h0 b with
  | none=>rfl
  | some o=>
   have a:b≠g:=λh=>t.nr (h▸hb);have j:b≠f:=λh=>t.nc (h▸hb);have n:=t.fresh b hb;have v:b∉B:=λhb=>by rw [s.fresh b hb] at e;cases e
   rw [tz v,s.bK b o e a j] at n;cases n
theorem CB.fin (s:CB d h0 g f i bs k r x c B) {k3:Hp} {x':an} {c':aE} {B3:List Nat} {off:Nat} {v:Value} (l:∀b A,k b=some A->b∉B->k3 b=some A) (C:rf x' c' k3 B3) (J:B3.Nodup) (w:∀b∈B3,h0 b=none)
  (L:off<7) (H:mX x'=(mX x).take off++ [v]++(mX x).drop (off+1)):
  (∀b o,h0 b=some o->b≠g->b≠f->k3 b=some o)/\fw k3 f (mX x)/\∀m:Hp->Prop,(∀j,CB d h0 g f i bs j r x' c' B3->m j)->cJ k3 ⟨f,off,none⟩ [v] m:=by
 have y:fw k3 f (mX x):=by obtain ⟨t,e⟩:=s.iN;exact ⟨t,l f _ e s.nc⟩
 have z:∀b o,h0 b=some o->b≠g->b≠f->k3 b=some o:=λb o e n a=>l b o (s.bK b o e n a) λhb=>by rw [s.fresh b hb] at e;cases e
 refine ⟨z,y,λm D=> ?_⟩;refine u5 y (by show off+1<=7;omega) λj u E=>D j ?_;have F:f∉B3:=λh=>s.kc (w f h);have K:mQ d k3 g i bs r:=by obtain ⟨p,q,t,⟨ty,I⟩,G⟩:=s.rd.iN;refine ⟨λb o e=>l b o (s.rd.le b o e) λhb=> ?_,s.rd.out,s.rd.src,s.rd.cap,s.rd.small,p,q,t,⟨ty,l g _ I s.nr⟩,G⟩;have:=s.base b o e;rw [s.fresh b hb] at this;cases this
 exact {
  base:=s.base
  kr:=s.kr
  kc:=s.kc
  ne:=s.ne
  dc:=s.dc
  bK:=λb o e n a=>u.bK b o (z b o e n a) λhb=>a (List.mem_singleton.1 hb)
  rd:=K.mv u (λhb=>s.ne (List.mem_singleton.1 hb)) λb hb=>by rw [List.mem_singleton.1 hb];exact s.dc
  iN:=by rw [H];exact E
  own:=kz.same C (zj u (kz.known C) λb hb e=>F (by rw [<-List.mem_singleton.1 e];exact hb))
  nd:=J
  fresh:=w}
theorem CB.num (s:CB d h0 g f i bs k r x c B) {x':an} {c':aE} {off:Nat} {v:Value} (m:rf x c k B->rf x' c' k B) (j:off<7) (l:mX x'=(mX x).take off++ [v]++(mX x).drop (off+1)) {a:Hp->Prop}
  (h:∀b,CB d h0 g f i bs b r x' c' B->a b):cJ k ⟨f,off,none⟩ [v] a:=
 (s.fin (λ_ _ e _=>e) (m s.own) s.nd s.fresh j l).2.2 a h
end
theorem O4 {P M S a b:List Nat} {k:Hp} (nd:(P++(M++S)).Nodup) (d:a.Nodup) (e:∀c∈a,c∈M++b\/k c=none) (f:∀c∈P++S,k c≠none) (hb:∀c∈b,c∉P++S):(P++(a++S)).Nodup:=by grind
section
variable {d h0 k:Hp} {i g:Nat} {j:Sl} {bs:List UInt8} {r:RS} {x:an} {c:aE} {B:List Nat}
theorem CB.xX (s:CB d h0 i g j bs k r x c B) {b:Nat} (e:k b=none):h0 b=none:=by
 cases h:h0 b with
 | none=>rfl
 | some o=>
  have a:b≠i:=λh=>by obtain ⟨p,q,t,l,_⟩:=s.rd.iN;exact l.known (h▸e)
  have f:b≠g:=λh=>s.iN.known (h▸e);rw [s.bK b o h a f] at e;cases e
abbrev CB.Next (d h0:Hp) (i g:Nat) (j:Sl) (bs:List UInt8) (a:Hp) (r:RS) (x h:an) (f:aE) (off:Nat) (v:Value):Prop:=
 (∀b o,h0 b=some o->b≠i->b≠g->a b=some o)/\fw a g (mX x)/\∀Kf:Hp->Prop,(∀e B',CB d h0 i g j bs e r h f B'->Kf e)->cJ a ⟨g,off,none⟩ [v] Kf
theorem CB.labels (s:CB d h0 i g j bs k r x c B) {v:Int} {y:Sl} (D:Us k y [v]) (hb:c.labels.length<=1000000) {K:Sl->Hp->Prop}
  (L:∀l k3,CB.Next d h0 i g j bs k3 r x {x with aN:=l} {c with labels:=c.labels++ [v]} 0 l.v->K l k3):fu 1 8 [.int .u64 (0:Int)] x.aN y K k:=by
 obtain ⟨n,a,B3,eB,F,H,I,f⟩:=s.own;have nd:=s.nd;rw [eB] at nd;have u:∀b∈a++B3,k b≠none:=λb hb=>kz.known s.own b (by rw [eB];exact eA hb);refine wJ (fp.ok Eq) F (B':=[]) (v:=v) (p:=v) ⟨rfl,rfl⟩ (by rw [List.append_nil];exact (List.nodup_append.1 nd).1) D (λ_=>rfl) (λ_=>rfl) rfl (by omega) λl k3 m G E w q=> ?_;have A:∀b∈a++B3,b∉n:=λb hb z=>(List.nodup_append.1 nd).2.2 b z b hb rfl;have t:∀b∈a++B3,k3 b=k b:=λb hb=>by
  cases e:k b with
  | none=>exact absurd e (u b hb)
  | some o=>exact w b o e (A b hb)
 have h:=s.fin (k3:=k3) (x':={x with aN:=l}) (c':={c with labels:=c.labels++ [v]}) (B3:=m++(a++B3)) (off:=0) (v:=l.v) (λb J e C=>w b J e λh=>C (by rw [eB];exact fH h))
  ⟨m,a,B3,rfl,G,kW.same H λb hb=>t b (fH hb),ln.same I λb hb=>t b (eA hb),f⟩ (O4 (P:=[]) (M:=n) (S:=a++B3) nd E q u (λb hb=>by cases hb))
  (λb hb=>by
   rcases List.mem_append.1 hb with hb | hb
   ·rcases q b hb with hb | hb
    ·exact s.fresh b (by rw [eB];exact fH (by simpa using hb))
    ·exact s.xX hb
   ·exact s.fresh b (by rw [eB];exact eA hb)) (by omega) rfl
 grind
theorem CB.table (s:CB d h0 i g j bs k r x c B) {v:Int} {y:Sl} (C:Is k y [v]) (hb:c.table.length<=1000000) {K:Sl->Hp->Prop}
  (J:∀a k3,CB.Next d h0 i g j bs k3 r x {x with Table:=a} {c with table:=c.table++ [v]} 1 a.v->K a k3):fu 1 8 [.int .i64 (0:Int)] x.Table y K k:=by
 obtain ⟨l,z,B3,eB,E,G,H,f⟩:=s.own;have nd:=s.nd;rw [eB] at nd;have t:∀b∈l++B3,k b≠none:=λb hb=>kz.known s.own b (by
  rw [eB];rcases List.mem_append.1 hb with hb | hb
  ·exact fH hb
  ·exact eA (eA hb))
 have w:=List.nodup_append.1 (List.nodup_append.1 nd).2.1;refine wJ (fp.ok Eq) G (B':=[]) (v:=v) (p:=v) ⟨rfl,rfl⟩ (by rw [List.append_nil];exact w.1) C (λ_=>rfl) (λ_=>rfl) rfl (by omega) λa k3 m F D u n=> ?_;have q:∀b∈l++B3,k3 b=k b:=λb hb=>by
  cases e:k b with
  | none=>exact absurd e (t b hb)
  | some o=>
   refine u b o e λh=> ?_;rcases List.mem_append.1 hb with hb | hb
   ·exact (List.nodup_append.1 nd).2.2 b hb b (fH h) rfl
   ·exact w.2.2 b h b hb rfl
 have h:=s.fin (k3:=k3) (x':={x with Table:=a}) (c':={c with table:=c.table++ [v]}) (B3:=l++(m++B3)) (off:=1) (v:=a.v) (λb I e A=>u b I e λh=>A (by rw [eB];exact eA (fH h)))
  ⟨l,m,B3,rfl,sW.same E λb hb=>q b (fH hb),F,ln.same H λb hb=>q b (eA hb),f⟩ (O4 (M:=z) nd D n t (λb hb=>by cases hb))
  (λb hb=>by
   rcases List.mem_append.1 hb with hb | hb
   ·exact s.fresh b (by rw [eB];exact fH hb)
   rcases List.mem_append.1 hb with hb | hb
   ·rcases n b hb with hb | hb
    ·exact s.fresh b (by rw [eB];exact eA (fH (by simpa using hb)))
    ·exact s.xX hb
   ·exact s.fresh b (by rw [eB];exact eA (eA hb))) (by omega) rfl
 grind
theorem CB.procs (s:CB d h0 i g j bs k r x c B) {v:aU} {p:fG} {B':List Nat} (e:qj v p k B') (J:B'.Nodup) (q:∀b∈B',h0 b=none/\b∉B) {y:Sl} (H:Rs k bA 2 y [v]) (hb:c.procs.length<=1000000) {K:Sl->Hp->Prop}
  (T:∀l k3,CB.Next d h0 i g j bs k3 r x {x with aG:=l} {c with procs:=c.procs++ [p]} 6 l.v->K l k3):fu 2 32 [.int .i64 (0:Int),.slice none 0 0] x.aG y K k:=by
 obtain ⟨m,n,B3,eB,L,O,Q,f⟩:=s.own;have nd:=s.nd;rw [eB] at nd;have C:=List.nodup_append.1 nd;have D:=List.nodup_append.1 C.2.1;have z:∀b∈m++n,k b≠none:=λb hb=>kz.known s.own b (by
  rw [eB];rcases List.mem_append.1 hb with hb | hb
  ·exact fH hb
  ·exact eA (fH hb))
 refine wJ uY Q (v:=v) (p:=p) e (by
   rw [List.nodup_append];exact ⟨D.2.1,J,λa E b hb e=>(q b hb).2 (by rw [eB,<-e];exact eA (eA E))⟩) H (λ_=>rfl) (λ_=>rfl) rfl (by omega) λl k3 t N I A u=> ?_
 have w:∀b∈m++n,k3 b=k b:=λb hb=>by
  cases e:k b with
  | none=>exact absurd e (z b hb)
  | some o=>
   refine A b o e λh=> ?_;rcases List.mem_append.1 hb with hb | hb
   ·exact C.2.2 b hb b (eA h) rfl
   ·exact D.2.2 b hb b h rfl
 have F:=O4 (P:=m++n) (M:=B3) (S:=[]) (by simpa using nd) I u (by simpa using z) (λb hb h=>(q b hb).2 (by
  rw [eB];rw [List.append_nil] at h;rcases List.mem_append.1 h with h | h
  ·exact fH h
  ·exact eA (fH h)))
 have h:=s.fin (k3:=k3) (x':={x with aG:=l}) (c':={c with procs:=c.procs++ [p]}) (B3:=m++(n++t)) (off:=6) (v:=l.v) (λb R e G=>A b R e λh=>G (by rw [eB];exact eA (eA h)))
  ⟨m,n,t,rfl,sW.same L λb hb=>w b (fH hb),kW.same O λb hb=>w b (eA hb),N,f⟩ (by simpa using F)
  (λb hb=>by
   rcases List.mem_append.1 hb with hb | hb
   ·exact s.fresh b (by rw [eB];exact fH hb)
   rcases List.mem_append.1 hb with hb | hb
   ·exact s.fresh b (by rw [eB];exact eA (fH hb))
   rcases u b hb with hb | hb
   ·rcases List.mem_append.1 hb with hb | hb
    ·exact s.fresh b (by rw [eB];exact eA (eA hb))
    ·exact (q b hb).1
   ·exact s.xX hb) (by omega) rfl
 grind
end
theorem ZF {P:Program} {q f:Nat} {x:an} {b:List Int} {h:Hp} {a:Int} (m:bf h ⟨q,0,none⟩ [.pointer (some ⟨f,0,none⟩)]) (kc:fw h f (mX x)) (p:Us h x.aN b) (u:b.length<=1000)
  {Q:Int->Hp->Prop} (c:Q (nf b a) h):TG P a ⟨q,0,none⟩ Q h:=by
 unfold TG;have s:x.aN.len=b.length:=p.1;refine cT (sh:=ag) (some ⟨f,0,none⟩) m (aP (cT (sh:=au) x.aN (kc.df (off:=0) (n:=1) rfl) ?_));rw [s,aT];refine vR (sh:=ag) (some ⟨f,0,none⟩) m (aP (vR (sh:=au) x.aN (kc.df (off:=0) (n:=1) rfl) ?_));refine Rs.pL (sh:=af .u64) p (0:Int) (λ_=>rfl) (by omega) (λe=>by simp at e;omega) λ(i:Int) d=>aJ ?_;unfold nf at c;rw [List.getLast?_eq_getElem?] at c;by_cases v:b.length=0
 ·have l:decide (((b.length:Nat):Int)-1>=0)=false:=decide_eq_false (by omega);rw [List.getElem?_eq_none (by omega)] at c;rw [l,if_neg (by simp)];refine ⟨none,λe=>(by cases e),⟨f,0,none⟩,λe=>(by cases e),⟨none,0,0⟩,λe=>(by cases e),λe=>(by cases e),(0:Int),λe=>(by cases e),aJ ?_⟩;rw [lz];exact c
 ·have l:decide (((b.length:Nat):Int)-1>=0)=true:=iV;have o:b[b.length-1]? =some (b[b.length-1]'(by omega)):=List.getElem?_eq_getElem (by omega);have r:(((b.length:Nat):Int)-1).toNat=b.length-1:=by omega
  have d:=d l;rw [r,o] at d;have d:b[b.length-1]'(by omega)=i:=Option.some.inj d;rw [o,d] at c;have c:Q (if a=i then 8 else if a<i then 7 else 0) h:=c;rw [l,Bool.true_and];by_cases j:a=i
  ·rw [if_pos (by simpa using j)];rw [if_pos j] at c;exact c
  ·rw [if_neg (by simpa using j)];rw [if_neg j] at c;refine vR (sh:=ag) (some ⟨f,0,none⟩) m (aP (vR (sh:=au) x.aN (kc.df (off:=0) (n:=1) rfl) ?_));refine Rs.pL (sh:=af .u64) p (0:Int) (λ_=>rfl) (by omega) (λe=>by omega) λ(t:Int) g=>aJ ?_;have g:=g rfl;rw [r,o] at g;have g:b[b.length-1]'(by omega)=t:=Option.some.inj g;rw [<-g,d,Bool.true_and];by_cases k:a<i
   ·rw [if_pos (decide_eq_true k)];rw [if_pos k] at c;exact c
   ·rw [if_neg (λe=>k (of_decide_eq_true e))];rw [if_neg k] at c;exact c
abbrev xT (a:List Int):D Int:=D.dH (zD 8) (nf a)
section
variable {d h0 k:Hp} {l a:Nat} {m:Sl} {bs:List UInt8} {r:RS} {x:an} {c:aE} {B:List Nat}
theorem yx {e:Type} (g:List e->D e) (n:Nat) (b:List e):D.many g (n+1) b=D.bind (g b) λx=>D.many g n (b++ [x]):=rfl
theorem QR (s:CB d h0 l a m bs k r x c B) (hl:c.labels=[]) {Q:Hp->Prop}
  (hq:∀(xs:List Int) I X E G,xs.length<=255->CB d h0 l a m bs X I E {c with labels:=xs} G->
   (∀(F:Type) (f:Int->List Int->D F),fI r (D.bind (D.dH (zD 1) (fJ 8)) λnl=>D.bind (D.many xT nl.toNat []) λlabels=>f nl labels) bs=fI I (f xs.length xs) bs)->Q X):
  Vz prog (some ⟨l,0,none⟩) (some ⟨a,0,none⟩) Q k:=by
 unfold Vz;refine mK λu N M b7 a8=> ?_;have s1:=s.grow b7;have b0:u∉B:=λh=>kz.known s.own u h M;have R:u≠l:=λh=>by obtain ⟨p,q,t,kb,_⟩:=s.rd.iN;exact kb.known (h▸M)
 have P:u≠a:=λh=>s.iN.known (h▸M);have b4:∃o,mY N B u=some o/\∀y:Hp,y u=some o->bf y ⟨u,0,none⟩ [.pointer (some ⟨a,0,none⟩)]:=by obtain ⟨t,e⟩:=a8;refine ⟨_,by rw [tz b0];exact e,λy e2=>fw.df ⟨t,e2⟩ (off:=0) (n:=1) rfl⟩
 obtain ⟨oA,W,V⟩:=b4;refine Sh (CK s1.rd λv I k2 hv m2 a2 b1=> ?_);have s2:=s1.Bn.step m2 a2;refine aA.intro (λn A=>∃(i:Nat) (xs:List Int) (z:RS) (E:an) (G:List Nat),n=(i:Int)/\(i+xs.length=v)/\CB d (mY N B) l a m bs A z E {c with labels:=xs} G/\
   ∀(F:Type) (f:List Int->D F),fI I (D.bind (D.many xT v []) f) bs=fI z (D.bind (D.many xT i xs) f) bs) (λn _=>n.toNat)
  ⟨v,[],I,x,B,rfl,by simp,by have:=s2;rw [show c={c with labels:=[]} by rw [<-hl]] at this;exact this,λ_ _=>rfl⟩ ?_
 rintro n A ⟨i,xs,z,E,G,rfl,c0,C,S⟩;refine vF (λb=>b=true↔∃e,z=.error e) false (λ_ hk=>vc (C.rd.bad hk)) λb hb=>aJ ?_;have T:(i=0\/∃e,z=.error e)->Q A:=λb9=>by
  refine hq xs z A E G (by omega) (s1.back C) λF f=> ?_;rw [b1];have e:=S F λlabels=>f v labels;rw [show ((v:Int)).toNat=v from rfl,e];rcases b9 with rfl | ⟨e,rfl⟩
  ·have:v=xs.length:=by omega
   rw [this];rfl
  ·rfl
 by_cases U:i=0
 ·rw [if_neg (by simp [U])];exact T (.inl U)
 have hb:=hb (iV);cases b with
 | true=>rw [lz];exact T (.inr (hb.1 rfl))
 | false=>
  rw [if_pos (by simp;omega)];obtain ⟨j,rfl⟩:∃j,i=j+1:=⟨i-1,by omega⟩;have a9:Us A E.aN xs:=by obtain ⟨B1,B2,B3,_,o1,_⟩:=C.own;exact o1.rd
  refine Ny (wrong:=⟨Ts, #[], #[.pointer (some ⟨u,0,none⟩)]⟩) (yv (k:=8) C.rd (by omega) (by omega) (λn=>nf xs (wq n)) (λn c1 K hK=> ?_) λw r2 Y hw m4 a4 b2=> ?_)
  ·refine tv (g:=Ts) rfl (ztr ?_);exact ZF (V A (C.bK u oA W R P)) C.iN a9 (by omega) (hK A (Hp.le_refl _))
  ·have J:=C.step m4 a4;have b3:Cn bs z (xT xs) r2 (w:Int):=by show Cn bs z (D.dH (zD 8) (nf xs)) r2 (wq w);rw [JB];exact b2.map
   have H:∀y:Hp,(∀b o,mY N B b=some o->b≠l->b≠a->y b=some o)->bf y ⟨u,0,none⟩ [.pointer (some ⟨a,0,none⟩)]:=λy b6=>V y (b6 u oA W R P);refine cT (sh:=ag) (some ⟨a,0,none⟩) (H Y J.bK) (cT (sh:=ag) (some ⟨a,0,none⟩) (H Y J.bK) (aP (cT (sh:=au) E.aN (J.iN.df (off:=0) (n:=1) rfl) ?_)));refine sQ (xs:=[(w:Int)]) (enc:=λx=>bp ((af .u64).enc x)) (sz:=1) rfl (λ_=>rfl) λb5 Z _ b8 _ o5=> ?_;have L:=J.grow b8;refine ⟨⟨H Z L.bK,H Z L.bK,L.iN.df (off:=0) (n:=1) rfl,trivial⟩,?_⟩;refine L.labels (v:=(w:Int)) (o5.rw λ_=>rfl) (by show xs.length<=_;omega) λl' k6 O=> ?_;refine ⟨⟨H k6 O.1,trivial⟩,aP (O.2.2 _ λk7 B7 s7=> ?_)⟩;rw [aT];refine ⟨⟨j,xs++ [(w:Int)],r2,_,B7,by omega,by simp;omega,s7,λF f=> ?_⟩,by omega⟩;rw [S,yx,yX,b3]
theorem S7 (s:CB d h0 l a m bs k r x c B) (L:c.table=[]) (a9:c.labels.length<=255) {Q:Hp->Prop}
  (P:∀(xs:List Int) t E h q,xs.length<=255->CB d h0 l a m bs E t h {c with table:=xs} q->
   (∀(p:Type) (f:List Int->D p),fI r (D.bind (D.dH (zD 1) (fJ 64)) λT=>D.bind (D.many (λ_=>D.dH (zD 1) (dg 0 ((c.labels.length:Int)-1))) T.toNat []) λtable=>f table) bs=fI t (f xs) bs)->Q E):
  Wb prog (some ⟨l,0,none⟩) (some ⟨a,0,none⟩) Q k:=by
 unfold Wb;refine Sh (CK s.rd λv t k2 hv R a2 J=> ?_);have s2:=s.step R a2;refine aA.intro (λn u=>∃(i:Nat) (xs:List Int) (o:RS) (h:an) (q:List Nat),n=(i:Int)/\(i+xs.length=v)/\CB d h0 l a m bs u o h {c with table:=xs} q/\
   ∀(p:Type) (f:List Int->D p),fI t (D.bind (D.many (λ_=>D.dH (zD 1) (dg 0 ((c.labels.length:Int)-1))) v []) f) bs=fI o (D.bind (D.many (λ_=>D.dH (zD 1) (dg 0 ((c.labels.length:Int)-1))) i xs) f) bs) (λn _=>n.toNat)
  ⟨v,[],t,x,B,rfl,by simp,by have:=s2;rw [show c={c with table:=[]} by rw [<-L]] at this;exact this,λ_ _=>rfl⟩ ?_
 rintro n u ⟨i,xs,o,h,q,rfl,a8,g,z⟩;refine vF (λb=>b=true↔∃e,o=.error e) false (λ_ K=>vc (g.rd.bad K)) λb hb=>aJ ?_;have A:(i=0\/∃e,o=.error e)->Q u:=λO=>by
  refine P xs o u h q (by omega) g λp f=> ?_;rw [J];have e:=z p f;rw [show ((v:Int)).toNat=v from rfl,e];rcases O with rfl | ⟨e,rfl⟩
  ·rfl
  ·rfl
 by_cases C:i=0
 ·rw [if_neg (by simp [C])];exact A (.inl C)
 have hb:=hb (iV);cases b with
 | true=>rw [lz];exact A (.inr (hb.1 rfl))
 | false=>
  rw [if_pos (by simp;omega)];obtain ⟨j,rfl⟩:∃j,i=j+1:=⟨i-1,by omega⟩;have N:h.aN.len=c.labels.length:=by obtain ⟨X,Y,Z,_,U,_⟩:=g.own;exact U.len
  refine aP (cT (sh:=au) h.Table (g.iN.df (off:=1) (n:=1) rfl) ?_);refine zjz (Jb g.rd g.iN (by omega) λw r2 k4 hw S a4 y=> ?_);have F:=g.step S a4;rw [N] at y;refine ⟨⟨F.iN.df (off:=1) (n:=1) rfl,trivial⟩,?_⟩;refine sQ (xs:=[(w:Int)]) (enc:=λx=>bp ((af .i64).enc x)) (sz:=1) rfl (λ_=>rfl) λb5 k5 _ M _ V=> ?_;have G:=F.grow M;refine ⟨⟨G.iN.df (off:=1) (n:=1) rfl,trivial⟩,?_⟩;refine G.table (v:=(w:Int)) (V.rw λ_=>rfl) (by show xs.length<=_;omega) λl' k6 I=> ?_;refine aP (I.2.2 _ λk7 H W=> ?_);rw [aT];refine ⟨⟨j,xs++ [(w:Int)],r2,_,H,by omega,by simp;omega,W,λp f=> ?_⟩,by omega⟩;rw [z,yx,yX,y]
end
theorem S9 {v:Nat} (h:v<18446744073709551616):yw (v:Int)=i64 v:=by
 (try unfold yw);unfold IntKind.wrap i64
 simp only [IntKind.signed,IntKind.bits];simp;split<;>split<;>omega
theorem DR {has:Bool} {n:Int} (h:0<=n):di has n≠0↔((has&&decide (n>=8)) || ((!has)&&(n !=0)))=true:=by
 unfold di;cases has with
 | true=>
  rw [lz];by_cases a:n<0\/8<=n
  ·rw [if_pos a];simp;omega
  ·rw [if_neg a];simp;omega
 | false=>
  by_cases a:n≠0
  ·rw [if_pos ⟨rfl,a⟩];simpa using a
  ·rw [if_neg (λe=>a e.2),if_neg (by omega)];simpa using a
def uQ (x:cX):Int:=if di (iM x.op).1 x.a≠0 then 1 else if di (iM x.op).2.1 x.b≠0 then 2 else if di (iM x.op).2.2.1 x.c≠0 then 3 else 4
theorem Kv {x:cX} {n ae:Int} (h:(jj x n ae).1≠0):(jj x n ae).2=if (jj x n ae).1=9 then 0 else uQ x:=by
 have g:∀b m,di b m≠9:=λb m=>by
  unfold di;split
  ·decide
  ·split<;>decide
 unfold jj at h ⊢;unfold uQ;by_cases i:x.op<0\/34<=x.op
 ·rw [if_pos i] at h ⊢;rw [if_pos rfl]
 rw [if_neg i] at h ⊢;by_cases d:di (iM x.op).1 x.a≠0
 ·rw [if_pos d] at h ⊢;rw [if_neg (g _ _),if_pos d]
 rw [if_neg d] at h ⊢;rw [if_neg d];by_cases e:di (iM x.op).2.1 x.b≠0
 ·rw [if_pos e] at h ⊢;rw [if_neg (g _ _),if_pos e]
 rw [if_neg e] at h ⊢;rw [if_neg e];by_cases f:di (iM x.op).2.2.1 x.c≠0
 ·rw [if_pos f] at h ⊢;rw [if_neg (g _ _),if_pos f]
 rw [if_neg f] at h ⊢;rw [if_neg f];by_cases j:(iM x.op).2.2.2=false/\x.iQ≠0
 ·rw [if_pos j] at h ⊢;rfl
 rw [if_neg j] at h ⊢;by_cases k:(x.op=22\/x.op=23)/\(x.iQ<0\/n<x.iQ)
 ·rw [if_pos k] at h ⊢;rfl
 rw [if_neg k] at h ⊢;by_cases l:(x.op=29\/x.op=30)/\(x.iQ<0\/ae<=x.iQ)
 ·rw [if_pos l] at h ⊢;rfl
 rw [if_neg l] at h;exact absurd rfl h
theorem QS {h:Hp} {x:aK} {e:Int} {Q:Int->Hp->Prop} (v:0<=x.A) (hb:0<=x.B) (w:0<=x.C) (c:∀g,h<=g->Q (if e=9 then 0 else uQ (bd x)) g):YN prog x e Q h:=by
 unfold YN;by_cases k:e=9
 ·rw [if_pos (by simpa using k)];rw [if_pos k] at c;exact c h (Hp.le_refl _)
 rw [if_neg (by simpa using k)];rw [if_neg k] at c;refine zxe (IM λH E=> ?_);generalize y:iM x.Op=f at*;obtain ⟨f1,f2,f3,t⟩:=f;dsimp only;refine mK (cs:=[.bool f1,.int .i64 x.A,.bool f2,.int .i64 x.B,.bool f3,.int .i64 x.C]) λb u _ F m=> ?_;have c:=λg D=>c g (Hp.le_trans E (Hp.le_trans F D));have p:=DR (has:=f1) v;have q:=DR (has:=f2) hb;have r:=DR (has:=f3) w;have G:uQ (bd x)=if di f1 x.A≠0 then 1 else if di f2 x.B≠0 then 2 else if di f3 x.C≠0 then 3 else 4:=by unfold uQ;have e:iM (bd x).op=(f1,f2,f3,t):=y;rw [e];rfl
 rw [G] at c;refine kF (n:=3) rfl (by omega) (λi g=>g=u/\(1<=i->¬di f1 x.A≠0)/\(2<=i->¬di f2 x.B≠0)/\(3<=i->¬di f3 x.C≠0)) ⟨rfl,λh=>by omega,λh=>by omega,λh=>by omega⟩ ?_ ?_
 ·rintro i z d ⟨rfl,j,l,s⟩ K o;refine ⟨⟨by simp,by omega,by omega⟩,?_⟩
  match i,z with
  | 0,_=>
   refine cT (sh:=Iq) ⟨f1,x.A⟩ (m.df (off:=0) (n:=2) rfl) (aJ (aJ (aJ ?_)));dsimp only;by_cases a:di f1 x.A≠0
   ·rw [if_pos (p.1 a),aT];rw [if_pos a] at c;exact c d (Hp.le_refl _)
   ·rw [if_neg (λe=>a (p.2 e))];exact o d ⟨rfl,λ_=>a,λh=>by omega,λh=>by omega⟩
  | 1,_=>
   refine cT (sh:=Iq) ⟨f2,x.B⟩ (m.df (off:=2) (n:=2) rfl) (aJ (aJ (aJ ?_)));dsimp only;by_cases a:di f2 x.B≠0
   ·rw [if_pos (q.1 a),aT];rw [if_neg (j (by omega)),if_pos a] at c;exact c d (Hp.le_refl _)
   ·rw [if_neg (λe=>a (q.2 e))];exact o d ⟨rfl,λ_=>j (by omega),λ_=>a,λh=>by omega⟩
  | 2,_=>
   refine cT (sh:=Iq) ⟨f3,x.C⟩ (m.df (off:=4) (n:=2) rfl) (aJ (aJ (aJ ?_)));dsimp only;by_cases a:di f3 x.C≠0
   ·rw [if_pos (r.1 a),aT];rw [if_neg (j (by omega)),if_neg (l (by omega)),if_pos a] at c;exact c d (Hp.le_refl _)
   ·rw [if_neg (λe=>a (r.2 e))];exact o d ⟨rfl,λ_=>j (by omega),λ_=>l (by omega),λ_=>a⟩
 ·rintro d ⟨rfl,j,l,s⟩;rw [if_neg (j (by omega)),if_neg (l (by omega)),if_neg (s (by omega))] at c;exact c d (Hp.le_refl _)
def qf {b:Type} (d:D b):Prop:=∀a at_ e,d a at_=.error e->e=(5,a.length)
theorem wM (k:Nat):qf (D.num k):=λa at_ e h=>by unfold D.num at h;split at h<;>cases h;rfl
theorem xB {c j:Type} {d:D c} {f:c->D j} (g:qf d) (i:∀x,qf (f x)):qf (D.bind d f):=λa at_ e h=>by
 unfold D.bind at h;cases b:d a at_ with
 | error k=>rw [b] at h;cases h;exact g a at_ _ b
 | ok x=>rw [b] at h;exact i _ a _ e h
theorem Fb {a:Type} (x:a):qf (D.ret x):=λ_ _ _ h=>by cases h
theorem Tc :qf q7:=
 xB (xB (wM 1) λ_=>Fb _) λ_=>xB (xB (wM 1) λ_=>Fb _) λ_=>xB (xB (wM 1) λ_=>Fb _) λ_=>
  xB (xB (wM 1) λ_=>Fb _) λ_=>xB (xB (wM 8) λ_=>Fb _) λ_=>Fb _
theorem VY {c:Type} (d:D c):D.dH d (λ_=>0)=d:=by
 funext b a;unfold D.dH;cases d b a with
 | error e=>rfl
 | ok x=>rfl
section
variable {d h:Hp} {b:Nat} {f:Sl} {bs:List UInt8} {r:RS}
theorem wY {k:Nat} {Q:Int->Hp->Prop} (a:mQ d h b f bs r) (o:1<=k) (p:k<=8)
  (q:∀(v:Nat) c e,v<256^k->Mv [b] h [b] e->mQ d e b f bs c->Cn bs r (D.num k) c v->Q (v:Int) e):
  aa prog xr [(.pointer (some ⟨b,0,none⟩)),(.int .i64 (k:Int)),(.func (.func NI) #[] #[])] (af .u64) Q h:=by
 refine Ny (wrong:=⟨NI, #[], #[]⟩) (yv (k:=k) a o p (λ_=>0) (λn s K l=> ?_) λv c j hv m a2 i=> ?_)
 ·refine tv (g:=NI) rfl (zxl ?_);unfold zrq;exact l h (Hp.le_refl _)
 ·rw [VY] at i;exact q v c j hv m a2 i
theorem VZ {n ae:Int} {Q:aK->Hp->Prop} (a:mQ d h b f bs r) (u:∀(v:aK) M s,Mv [b] h [b] s->mQ d s b f bs M->Cn bs r (pM n ae) M (bd v)->Q v s):
  WY prog (some ⟨b,0,none⟩) n ae Q h:=by
 unfold WY;obtain ⟨p,e,pl,w,J⟩:=a.iN;have a8:f.len=bs.length:=a.src.1;have b1:=a.small;refine vc (u3 w ?_);cases r with
 | error x=>obtain ⟨er,q⟩:=x;rw [if_pos (by rw [J.1];simpa using J.2.1)];exact u _ _ h (Mv.refl _ _) a Cn.stay
 | ok at_=>
  obtain ⟨rfl,rfl,H⟩:=J;have H:at_<=bs.length:=by omega
  rw [lz];refine aP (cT (sh:=af .i64) (at_:Int) (w.df (off:=1) (n:=1) rfl) (aP (cT (sh:=au) f (w.df (off:=0) (n:=1) rfl) ?_)));rw [aT];by_cases a9:bs.length<at_+12
  ·rw [if_pos (iV)];refine aP (cT (sh:=au) f (w.df (off:=0) (n:=1) rfl) (BX (tq w λs m T=> ?_)));rw [if_pos ⟨by decide,rfl⟩,if_pos ⟨by decide,rfl⟩] at T;refine u _ (.error (5,bs.length)) s m ⟨(m.le a.le λc t=>by rw [List.mem_singleton.1 t];exact a.out).1,a.out,a.src,a.cap,a.small,_,_,_,T,rfl,by decide,by rw [a8]⟩ (Cn.err ?_);unfold pM D.jG;cases G:q7 bs at_ with
   | error e=>rw [Tc bs at_ e G]
   | ok y=>obtain ⟨y,a2⟩:=y;have N:=(qN.sound bs at_ y a2 G H).2.1;have h2:=qN.within G H;simp [mF,mh] at N;omega
  ·rw [if_neg (λe=>a9 (by have:=of_decide_eq_true e;omega))];refine wY (k:=1) a (by omega) (by omega) λv1 M N b3 m1 a1 V=> ?_;refine wY (k:=1) a1 (by omega) (by omega) λi r2 h2 b4 m2 a2 W=> ?_;refine wY (k:=1) a2 (by omega) (by omega) λj r3 h3 b5 m3 a3 X=> ?_;refine wY (k:=1) a3 (by omega) (by omega) λv4 r4 h4 b6 m4 a4 Y=> ?_;refine wY (k:=8) a4 (by omega) (by omega) λl E h5 b7 m5 a5 Z=> ?_;have m:=m1.trans (m2.trans (m3.trans (m4.trans m5)));have t:Cn bs (.ok at_) q7 E (bd ⟨(v1:Int),(i:Int),(j:Int),(v4:Int),i64 l⟩):=
    Cn.seq V.map (Cn.seq W.map (Cn.seq X.map (Cn.seq Y.map (Cn.seq Z.map Cn.ret))))
   rw [S9 (v:=l) (by omega)];rw [wrap64 (n:=(v1:Int)) (by omega) (by omega),wrap64 (n:=(i:Int)) (by omega) (by omega),wrap64 (n:=(j:Int)) (by omega) (by omega),wrap64 (n:=(v4:Int)) (by omega) (by omega)];have hx:(⟨(v1:Int),(i:Int),(j:Int),(v4:Int),i64 l⟩:aK).A=(i:Int):=rfl;refine XW (x:=⟨(v1:Int),(i:Int),(j:Int),(v4:Int),i64 l⟩) (DG λh6 R=> ?_);have hA:0<=(⟨(v1:Int),(i:Int),(j:Int),(v4:Int),i64 l⟩:aK).A:=by show (0:Int)<=(i:Int);omega
   have hB:0<=(⟨(v1:Int),(i:Int),(j:Int),(v4:Int),i64 l⟩:aK).B:=by show (0:Int)<=(j:Int);omega
   have hC:0<=(⟨(v1:Int),(i:Int),(j:Int),(v4:Int),i64 l⟩:aK).C:=by show (0:Int)<=(v4:Int);omega
   have g:=t.done;have U:=m.trans (Mv.of_le [b] R);have a6:=a5.grow R;have b0:(aV.enc ⟨(v1:Int),(i:Int),(j:Int),(v4:Int),i64 l⟩)=.agg #[.int .i64 (v1:Int),.int .i64 (i:Int),.int .i64 (j:Int),.int .i64 (v4:Int),.int .i64 (i64 l)]:=rfl;rw [<-b0];generalize (⟨(v1:Int),(i:Int),(j:Int),(v4:Int),i64 l⟩:aK)=y at*;by_cases o:(jj (bd y) n ae).1=0
   ·rw [if_neg (by simpa using o)];refine u y E h6 U a6 ?_;cases E with
    | ok a2=>refine Cn.ok ?_;have g:q7 bs at_=.ok (bd y,a2):=g;unfold pM D.jG;rw [g];dsimp only;rw [if_pos o]
    | error e=>refine Cn.err ?_;have g:q7 bs at_=.error e:=g;unfold pM D.jG;rw [g]
   ·rw [if_pos (by simpa using o)];refine Su (QS hA hB hC λh7 S=> ?_);rw [<-Kv (n:=n) (ae:=ae) o];have b2:0<=(jj (bd y) n ae).2/\(jj (bd y) n ae).2<=4:=by
     rw [Kv o];split
     ·omega
     ·unfold uQ;split
      ·omega
      ·split
       ·omega
       ·split<;>omega
    have a7:=a6.grow S;obtain ⟨p7,e7,b8,k7,K⟩:=a7.iN;rw [aT];refine BX (tq k7 λO m8 z=> ?_);have L:=(U.trans (Mv.of_le [b] S)).trans m8;have P:=(L.le a.le λc t=>by rw [List.mem_singleton.1 t];exact a.out).1;cases E with
    | ok a2=>have g:q7 bs at_=.ok (bd y,a2):=g;obtain ⟨rfl,rfl,K⟩:=K;simp only [ne_eq,o,not_false_eq_true,and_self,if_true] at z;refine u y (.error ((jj (bd y) n ae).1,at_+(jj (bd y) n ae).2.toNat)) O L ⟨P,a.out,a.src,a.cap,a.small,_,_,_,z,rfl,o,by push_cast;omega⟩ (Cn.err ?_);unfold pM D.jG;rw [g];dsimp only;rw [if_neg o]
    | error e=>have g:q7 bs at_=.error e:=g;obtain ⟨er,q⟩:=e;obtain ⟨rfl,I,rfl⟩:=K;rw [if_neg (λF=>I F.2),if_neg (λF=>I F.2)] at z;refine u y (.error (e7,q)) O L ⟨P,a.out,a.src,a.cap,a.small,_,_,_,z,rfl,I,rfl⟩ (Cn.err ?_);unfold pM D.jG;rw [g]
end
section
variable {d h0 k:Hp} {m l:Nat} {u:Sl} {bs:List UInt8} {r:RS} {x:an} {c:aE} {B:List Nat}
theorem CB.other (s:CB d h0 m l u bs k r x c B) {i:Hp} {a:List Nat} (bK:∀b o,k b=some o->b∉a->i b=some o) (f:∀b∈a,h0 b=none/\b∉B):CB d h0 m l u bs i r x c B:=by
 have w:m∉a:=λh=>s.kr (f m h).1;have v:l∉a:=λh=>s.kc (f l h).1;have g:∀b o,h0 b=some o->b∉a:=λb o e h=>by rw [(f b h).1] at e;cases e
 exact {
  base:=s.base
  kr:=s.kr
  kc:=s.kc
  ne:=s.ne
  dc:=s.dc
  bK:=λb o e j n=>bK b o (s.bK b o e j n) (g b o e)
  rd:=by obtain ⟨p,q,t,⟨ty,z⟩,y⟩:=s.rd.iN;exact ⟨λb o e=>bK b o (s.rd.le b o e) (g b o (s.base b o e)),s.rd.out,s.rd.src,s.rd.cap,s.rd.small,p,q,t,⟨ty,bK m _ z w⟩,y⟩
  iN:=by obtain ⟨t,e⟩:=s.iN;exact ⟨t,bK l _ e v⟩
  own:=kz.same s.own λb hb=>by
   cases e:k b with
   | none=>exact absurd e (kz.known s.own b hb)
   | some o=>exact bK b o e λh=>(f b h).2 hb
  nd:=s.nd
  fresh:=s.fresh}
theorem Te {P:Program} {n:Int} {Q:Int->Hp->Prop} {h:Hp} (b:Q (if 256<n then 3 else 0) h):VH P n Q h:=by
 unfold VH;by_cases a:256<n
 ·rw [if_pos a] at b;rw [if_pos (decide_eq_true a)];exact b
 ·rw [if_neg a] at b;rw [if_neg (λe=>a (of_decide_eq_true e))];exact b
theorem Tg (s:CB d h0 m l u bs k r x c B) (c6:c.labels.length<=255) (c5:c.procs.length<=255) {Q:Hp->Prop}
  (hq:∀p J W x' B',CB d h0 m l u bs W J x' {c with procs:=c.procs++ [p]} B'->Cn bs r (nw (c.labels.length:Int) c.ae) J p->Q W):
  Wz prog (some ⟨m,0,none⟩) (some ⟨l,0,none⟩) Q k:=by
 unfold Wz;have b4:x.aN.len=c.labels.length:=by obtain ⟨B1,B2,B3,_,o1,_⟩:=s.own;exact o1.len
 have b3:x.bQ=c.ae:=by obtain ⟨B1,B2,B3,_,_,_,_,_,_,e,_⟩:=s.own;exact e
 refine zjz (Jb s.rd s.iN (by omega) λpart J k1 c4 m1 a1 O=> ?_);rw [b4] at O;have s1:=s.step m1 a1;refine NG (wrong:=⟨Vn, #[], #[]⟩) (zP (k:=2) s1.rd (by omega) (by omega) (λn=>if 256<n then 3 else 0) (λn c3 h1 c2 K hK=>tv (g:=Vn) rfl (zwq (Te (hK h1 (Hp.le_refl _))))) λv r2 k2 hv m2 a2 b0=> ?_);have s2:=s1.step m2 a2;refine bT.intro (λi p z=>∃(j:Nat) (q:List cX) (A:RS) (t:List Nat),i=(j:Int)/\j=q.length/\j<=v/\CB d h0 m l u bs z A x c B/\p.Part=(part:Int)/\uB p.Code q z t/\t.Nodup/\(∀b∈t,h0 b=none/\b∉B)/\
   ∀(G:Type) (f:List cX->D G),fI r2 (D.bind (D.many (λ_=>pM (v:Int) c.ae) v []) f) bs=fI A (D.bind (D.many (λ_=>pM (v:Int) c.ae) (v-j) q) f) bs) (λi _ _=>(v-i).toNat)
  ⟨0,[],r2,[],rfl,rfl,by omega,s2,rfl,bM.nil,List.nodup_nil,λb hb=>by (cases hb),λ_ _=>rfl⟩ ?_
 rintro i p z ⟨j,q,A,t,rfl,b2,c1,w,V,E,a8,C,P⟩;refine vF (λb=>b=true↔∃e,A=.error e) false (λ_ hk=>vc (w.rd.bad hk)) λb hb=>aJ ?_;have R:(j=v\/∃e,A=.error e)->ai none (some ⟨l,0,none⟩) λp1=>aR none au z (Addr.add p1 6) λx=>bh [(.int .i64 p.Part),p.Code.v] (λa N=>(((bf N (Addr.add p1 6) [x.v])/\True)/\fu 2 32 [(.int .i64 (0:Int)),(.slice none 0 0)] x ⟨(some a),1,1⟩ (λL h6=>
   ai none (some ⟨l,0,none⟩) λp2=>cJ h6 (Addr.add p2 6) [L.v] (λh7=>Q h7)) N)) z:=λb7=>by
  refine aP (cT (sh:=au) x.aG (w.iN.df (off:=6) (n:=1) rfl) ?_);refine sQ (xs:=[p]) (enc:=λx=>bp (bA.enc x)) (sz:=2) rfl (λ_=>rfl) λb6 Y _ U _ I=> ?_;have F:=w.grow U;have H:uB p.Code q Y t:=mN.same E λb hb=>by
   cases e:z b with
   | none=>exact absurd e (mN.known E b hb)
   | some o=>exact U b o e
  refine ⟨⟨F.iN.df (off:=6) (n:=1) rfl,trivial⟩,?_⟩;refine F.procs (v:=p) (p:=⟨(part:Int),q⟩) ⟨V,H⟩ a8 C (I.rw λ_=>rfl) (by omega) λl' k7 hN=>aP (hN.2.2 _ λk8 B8 s8=> ?_);refine hq ⟨(part:Int),q⟩ A k8 _ B8 s8 λG f=> ?_;unfold nw;rw [yX,O,yX,b0,yX];have e:=P G λcode=>f ⟨(part:Int),code⟩;rcases b7 with rfl | ⟨e2,rfl⟩
  ·rw [Nat.sub_self] at e;exact e
  ·exact e
 by_cases S:j=v
 ·rw [if_neg (by simp [S])];exact R (.inl S)
 have hb:=hb (iV);cases b with
 | true=>rw [lz];exact R (.inr (hb.1 rfl))
 | false=>
  rw [if_pos (by simp;omega)];refine aP (cT (sh:=af .i64) x.bQ (w.iN.df (off:=4) (n:=1) rfl) ?_);rw [b3];refine zzv (VZ w.rd λy L X Z a4 b1=> ?_);have s4:=w.step Z a4;have o4:uB p.Code q X t:=mN.same E (zj Z (mN.known E) λb hb e=>w.kr (by rw [<-List.mem_singleton.1 e];exact (C b hb).1));refine ⟨⟨trivial,trivial⟩,?_⟩;refine sQ (xs:=[y]) (enc:=λx=>bp (aV.enc x)) (sz:=5) rfl (λ_=>rfl) λb5 k5 _ T _ c0=> ?_;have M:=s4.grow T;have H:uB p.Code q k5 t:=mN.same o4 λb hb=>by
   cases e:X b with
   | none=>exact absurd e (mN.known o4 b hb)
   | some o=>exact T b o e
  refine ⟨⟨trivial,trivial⟩,?_⟩;refine wJ (fp.ok _) H (v:=y) (p:=bd y) (B':=[]) ⟨rfl,rfl⟩ (by simpa using a8) (c0.rw λ_=>rfl) (λ_=>rfl) (λ_=>rfl) rfl (by omega) λl' Y B6 I b9 b8 a9=> ?_;have F:=M.other b8 C;rw [aT];refine ⟨⟨j+1,q++ [bd y],L,B6,by omega,by simp [b2],by omega,F,V,I,b9,λb hb=> ?_,λG f=> ?_⟩,by omega⟩
  ·rcases a9 b hb with hb | hb
   ·exact C b (by simpa using hb)
   ·exact ⟨M.xX hb,λh=>kz.known M.own b h hb⟩
  ·have e1:v-j=(v-(j+1))+1:=by omega
   rw [P,e1,yx,yX,b1]
end
section
variable {d h:Hp} {j:Nat} {l:Sl} {bs:List UInt8} {r:RS}
theorem ZG {P:Program} {e:Nat} {i:Nat} {n:Nat} {h:Hp} (p:i<5) (q:n<256) (m:bf h ⟨e,0,none⟩ [.int .i64 (i:Int)]) {c:UInt8} (o:([70,66,67,70,1]:List UInt8)[i]? =some c)
  {Q:Int->Hp->Prop} (a:Q (if n=c.toNat then 0 else 4) h):TE P (n:Int) ⟨e,0,none⟩ Q h:=by
 unfold TE;have k:(i:Int)<5:=by omega
 refine cT (sh:=af .i64) (i:Int) m ⟨⟨Int.natCast_nonneg i,k⟩,?_⟩;have f:IntKind.wrap .u8 (n:Int)=(n:Int):=by rw [qC,Kn];omega
 have g:List.getD [70,66,67,70,1] (Int.toNat (i:Int)) (0:UInt8)=c:=by rw [List.getD_eq_getElem?_getD,show (Int.toNat (i:Int))=i from rfl,o];rfl
 rw [f,g];by_cases b:n=c.toNat
 ·rw [if_pos b] at a;rw [if_neg (by simp [b])];exact a
 ·rw [if_neg b] at a;rw [if_pos (by rw [bne_iff_ne];omega)];exact a
theorem QT {Q:Hp->Prop} (a:mQ d h j l bs r) (P:∀I y,Mv [j] h [j] y->mQ d y j l bs I->Cn bs r (nv [70,66,67,70,1]) I ()->Q y):Vx prog (some ⟨j,0,none⟩) Q h:=by
 unfold Vx;refine kF (n:=5) rfl (by omega) (λi k=>∃s,Mv [j] h [j] k/\mQ d k j l bs s/\∀(E:Type) (f:Unit->D E),fI r (D.bind (nv [70,66,67,70,1]) f) bs=fI s (D.bind (nv (([70,66,67,70,1]:List UInt8).drop i)) f) bs) ⟨r,Mv.refl _ _,a,λ_ _=>rfl⟩ ?_ ?_
 ·rintro i x k ⟨s,m,u,B⟩ K z;refine mK λw V C F J=> ?_;have a1:=u.grow F;have M:j≠w:=λh=>by obtain ⟨p,q,t,S,_⟩:=u.iN;exact S.known (h▸C)
  refine u5 (b:=w) (off:=0) J (by simp) λG H L=> ?_;have a2:=a1.mv H (λh=>M (List.mem_singleton.1 h)) λb hb=>by rw [List.mem_singleton.1 hb];exact uu u.le C
  have T:bf G ⟨w,0,none⟩ [.int .i64 (i:Int)]:=by refine L.df (off:=0) (n:=1) ?_;simp
  have A:([70,66,67,70,1]:List UInt8)[i]? =some (([70,66,67,70,1]:List UInt8)[i]'(by simpa using x)):=List.getElem?_eq_getElem (by simpa using x);generalize ([70,66,67,70,1]:List UInt8)[i]'(by simpa using x)=c at A;refine Ny (wrong:=⟨Tr, #[], #[.pointer (some ⟨w,0,none⟩)]⟩) (yv (k:=1) a2 (by omega) (by omega) (λn=>if n=c.toNat then 0 else 4) (λn O K z=> ?_) λv r2 R hv U a3 N=> ?_)
  ·refine tv (g:=Tr) rfl (ztq ?_);exact ZG x (by simpa using O) T A (z G (Hp.le_refl _))
  ·refine z R ⟨r2,⟨λb o e hb=>U.bK b o (H.bK b o (F b o (m.bK b o e hb)) λh=> ?_) hb,λb hb=>.inl hb⟩,a3,λE f=> ?_⟩
   ·rw [List.mem_singleton.1 h] at e hb;have:=m.bK w o e hb;rw [C] at this;cases this
   ·rw [B,Dm A];show fI s (D.bind (D.bind (D.dH (D.num 1) λn=>if n=c.toNat then 0 else 4) λ_=>nv (([70,66,67,70,1]:List UInt8).drop (i+1))) f) bs=_;rw [yX,N]
 ·rintro k ⟨s,m,u,B⟩;exact P s k m u λE f=>by rw [B];rfl
end
theorem rp2 :pz 2=dg 1 256:=by funext n;simp [pz]
theorem rp3 :pz 3=dg 1 64:=by funext n;simp [pz]
theorem rp4 :pz 4=dg 0 8:=by funext n;simp [pz]
theorem rp5 :pz 5=dg 0 4096:=by funext n;simp [pz]
def Fs :an:=⟨⟨none,0,0⟩,⟨none,0,0⟩,0,0,0,0,⟨none,0,0⟩⟩
def xE (h g:Hp) (d f:Nat) (b:Sl) (a:List UInt8) (k:Hp):Prop:=
 (fw k d (pY b 0 22 1048576)/\h<=k/\tr a=.error (22,1048576))\/
 ∃(r:RS) (x:an) (c:aE) (B:List Nat),CB h g d f b a k r x c B/\match r with
  | .error e=>tr a=.error e
  | .ok _=>tr a=.ok c
theorem KZ {a:List UInt8} {e:Int×Nat} (b:a.length<=1048576) (h:fI (.ok 0) zQ a=.error e):tr a=.error e:=by unfold tr uX;rw [pN];have h:zQ a 0=.error e:=h;rw [h]
theorem Yr {b:List UInt8} {c:aE} {a:Nat} (d:b.length<=1048576) (h:fI (.ok 0) zQ b=.ok (c,a)):tr b=if a<b.length then .error (6,a) else .ok c:=by unfold tr uX;rw [pN];have h:zQ b 0=.ok (c,a):=h;rw [h]
theorem WJ {h:Hp} {b:Sl} {d:List UInt8} {Q:an->Int->Int->Hp->Prop} (hB:Bs h b d) (b3:b.len<=b.cap)
  (he:∀e p M,h<=M->tr d=.error (e,p)->e≠0->Q Fs e (p:Int) M) (f5:∀x c B M,h<=M->tr d=.ok c->rf x c M B->B.Nodup->(∀b∈B,h b=none)->Q x 0 0 M):
  YI prog b Q h:=by
 unfold YI;have g6:b.len=d.length:=hB.1;refine mK λt h1 e9 c3 b5=>mK λg u c6 c4 b2=> ?_;have b0:=Hp.le_trans c3 c4;have f0:g≠t:=λe=>b5.known (e▸c6);have R:h g=none:=uu c3 c6;have b6:=b5.le c4;refine cQ.intro (λ_ k=>xE h u g t b d k) ?_ ?_
 ·by_cases b7:1048576<d.length
  ·rw [if_pos (iV)];refine BX (tq (at_:=0) (e:=0) (pl:=0) b2 λh3 m3 k3=> ?_);rw [if_pos ⟨by decide,rfl⟩,if_pos ⟨by decide,rfl⟩] at k3;refine .inl ⟨k3,(m3.le b0 λc E=>by rw [List.mem_singleton.1 E];exact R).1,?_⟩;unfold tr uX;rw [if_pos b7]
  ·rw [if_neg (λe=>b7 (by have:=of_decide_eq_true e;omega))];have S:d.length<=1048576:=by omega
   have s0:CB h u g t b d u (.ok 0) Fs ⟨[],[],0,0,0,0,[]⟩ []:=
    ⟨b0,b2.known,b6.known,f0,e9,λb o e _ _=>e,⟨b0,R,hB,b3,by omega,0,0,0,b2,rfl,rfl,by omega⟩,b6,⟨[],[],[],rfl,bM.nil,bM.nil,bM.nil,rfl,rfl,rfl,rfl⟩,List.nodup_nil,λb hb=>by (cases hb)⟩
   refine zwn (QT s0.rd λr1 Y m1 a1 d1=> ?_);have s1:=s0.step m1 a1;have b8:fI (.ok 0) zQ d=_:=d1 aE _;refine vc (s1.rd.bad λq F=> ?_);cases q with
   | true=>rw [if_pos rfl];obtain ⟨e,rfl⟩:=F.1 rfl;exact .inr ⟨_,_,_,_,s1,KZ S b8⟩
   | false=>
   rw [lz];refine zwo (QR s1 rfl λG r2 k2 x2 z c5 s2 d7=> ?_);have b9:=b8.trans (d7 aE _);refine vc (s2.rd.bad λq F=> ?_);cases q with
   | true=>rw [if_pos rfl];obtain ⟨e,rfl⟩:=F.1 rfl;exact .inr ⟨_,_,_,_,s2,KZ S b9⟩
   | false=>
   rw [lz];refine zxh (S7 s2 rfl c5 λV r3 k3 x3 A g8 s3 d8=> ?_);have c0:=b9.trans (d8 aE _);refine vc (s3.rd.bad λq F=> ?_);cases q with
   | true=>rw [if_pos rfl];obtain ⟨e,rfl⟩:=F.1 rfl;exact .inr ⟨_,_,_,_,s3,KZ S c0⟩
   | false=>
   rw [lz];have num:∀ {k:Nat} {part:Int} {N lo:Int} {r:RS} {x:an} {c:aE} {B:List Nat} {l:Hp} {Q:Int->Hp->Prop},CB h u g t b d l r x c B->1<=k->k<=2->pz part=dg lo N->
     (∀(v:Nat) r1 Y,v<65536->CB h u g t b d Y r1 x c B->Cn d r (D.dH (zD k) (dg lo N)) r1 (v:Int)->Q (v:Int) Y)->aa prog EL [(.pointer (some ⟨g,0,none⟩)),(.int .i64 part),(.int .i64 (k:Int))] (af .i64) Q l:=
    λ{k part N lo r x c B l Q} s e7 c2 hp F=>zwp (QQ (k:=k) s.rd e7 c2 λv r1 Y hv m a E=>F v r1 Y (by
     have:256^k<=65536:=Nat.pow_le_pow_right (by omega:256>0) c2;omega) (s.step m a) (by rw [<-hp];exact E))
   refine num (k:=2) s3 (by omega) (by omega) rp2 λv4 r4 k4 h4 s4 d9=> ?_;have e1:=c0.trans (d9 aE _);refine s4.num (x':={x3 with Fuel:=(v4:Int)}) (c':=⟨G,V,(v4:Int),0,0,0,[]⟩) (off:=2) (λo=>by
    obtain ⟨C,z,A,e,H,I,J,f1,f2,f3,L⟩:=o;exact ⟨C,z,A,e,H,I,J,rfl,f2,f3,L⟩) (by omega) rfl λk5 s5=> ?_
   refine num (k:=1) s5 (by omega) (by omega) rp3 λv6 r6 k6 h5 s6 e2=> ?_;have e3:=e1.trans (e2 aE _);refine s6.num (x':={x3 with Fuel:=(v4:Int),gH:=(v6:Int)}) (c':=⟨G,V,(v4:Int),(v6:Int),0,0,[]⟩) (off:=3) (λo=>by
    obtain ⟨C,z,A,e,H,I,J,f1,f2,f3,L⟩:=o;exact ⟨C,z,A,e,H,I,J,f1,rfl,f3,L⟩) (by omega) rfl λk7 s7=> ?_
   refine num (k:=1) s7 (by omega) (by omega) rp4 λK r8 k8 h6 s8 e4=> ?_;have e5:=e3.trans (e4 aE _);refine s8.num (x':={x3 with Fuel:=(v4:Int),gH:=(v6:Int),bQ:=(K:Int)}) (c':=⟨G,V,(v4:Int),(v6:Int),(K:Int),0,[]⟩) (off:=4) (λo=>by
    obtain ⟨C,z,A,e,H,I,J,f1,f2,f3,L⟩:=o;exact ⟨C,z,A,e,H,I,J,f1,f2,rfl,L⟩) (by omega) rfl λk9 s9=> ?_
   refine num (k:=2) s9 (by omega) (by omega) rp5 λv10 i1 h7 g9 g0 d2=> ?_;have d3:=e5.trans (d2 aE _);refine g0.num (x':={x3 with Fuel:=(v4:Int),gH:=(v6:Int),bQ:=(K:Int),Log:=(v10:Int)}) (c':=⟨G,V,(v4:Int),(v6:Int),(K:Int),(v10:Int),[]⟩) (off:=5) (λo=>by
    obtain ⟨C,z,A,e,H,I,J,f1,f2,f3,L⟩:=o;exact ⟨C,z,A,e,H,I,J,f1,f2,f3,rfl⟩) (by omega) rfl λh8 c7=> ?_
   refine Sh (CK c7.rd λnp f8 h9 g7 f7 c9 d4=> ?_);have g1:=c7.step f7 c9;have d5:=d3.trans (d4 aE _);refine aA.intro (λn l=>∃(i:Nat) (T:List fG) (U:RS) (x':an) (B':List Nat),n=(i:Int)/\i+T.length=np/\CB h u g t b d l U x' ⟨G,V,(v4:Int),(v6:Int),(K:Int),(v10:Int),T⟩ B'/\
     fI (.ok 0) zQ d=fI U (D.bind (D.many (λ_=>nw (G.length:Int) (K:Int)) i T) λprocs=>D.ret (⟨G,V,(v4:Int),(v6:Int),(K:Int),(v10:Int),procs⟩:aE)) d) (λn _=>n.toNat)
    ⟨np,[],f8,_,_,rfl,by simp,g1,d5⟩ ?_
   rintro n l ⟨i,T,U,x',B',rfl,g5,y,a9⟩;refine vF (λb=>b=true↔∃e,U=.error e) false (λ_ hk=>vc (y.rd.bad hk)) λq b4=>aJ ?_;have c1:(i=0\/∃e,U=.error e)->ai none (some ⟨g,0,none⟩) λp=>aR none (af .i64) l (Addr.add p 1) λx=>
     (if (decide (x<((b.len:Nat):Int)))=true then
     ai none (some ⟨g,0,none⟩) λp1=>
     aR none (af .i64) l (Addr.add p1 1) λx1=>
     bC prog yf [(.pointer (some ⟨g,0,none⟩)),(.int .i64 (6:Int)),(.int .i64 x1)] (λb1=>xE h u g t b d b1) l
     else xE h u g t b d l):=λf6=>by
    obtain ⟨p,e,pl,f,X⟩:=y.rd.iN;refine aP (cT (sh:=af .i64) p (f.df (off:=1) (n:=1) rfl) ?_);cases U with
    | error e0=>
     obtain ⟨er,q0⟩:=e0;obtain ⟨rfl,P,rfl⟩:=X;have e6:xE h u g t b d l:=.inr ⟨_,_,_,_,y,KZ S a9⟩;by_cases O:p<((b.len:Nat):Int)
     ·rw [if_pos (decide_eq_true O)];refine aP (cT (sh:=af .i64) p (f.df (off:=1) (n:=1) rfl) (BX (tq f λb1 a8 Z=> ?_)));rw [if_neg (λhh=>P hh.2),if_neg (λhh=>P hh.2)] at Z;refine .inr ⟨.error (e,q0),_,_,_,y.step a8 ⟨(a8.le y.rd.le λc E=>by rw [List.mem_singleton.1 E];exact R).1,R,hB,b3,by omega,_,_,_,Z,rfl,P,rfl⟩,KZ S a9⟩
     ·rw [if_neg (λe=>O (of_decide_eq_true e))];exact e6
    | ok at_=>
     obtain ⟨rfl,rfl,g4⟩:=X;have W:i=0:=by
      rcases f6 with W | ⟨e,W⟩
      ·exact W
      ·cases W
     subst W;have w:=Yr S (a9:fI (.ok 0) zQ d=.ok (_,at_));by_cases O:at_<d.length
     ·have e8:(at_:Int)<((b.len:Nat):Int):=by omega
      rw [if_pos (decide_eq_true e8)];rw [if_pos O] at w;refine aP (cT (sh:=af .i64) (at_:Int) (f.df (off:=1) (n:=1) rfl) (BX (tq f λb1 a8 Z=> ?_)));rw [if_pos ⟨by decide,rfl⟩,if_pos ⟨by decide,rfl⟩] at Z;exact .inr ⟨.error (6,at_),_,_,_,y.step a8 ⟨(a8.le y.rd.le λc E=>by rw [List.mem_singleton.1 E];exact R).1,R,hB,b3,by omega,_,_,_,Z,rfl,by decide,rfl⟩,w⟩
     ·rw [if_neg (λe=>O (by have e:(at_:Int)<((b.len:Nat):Int):=of_decide_eq_true e;omega))];rw [if_neg O] at w;exact .inr ⟨_,_,_,_,y,w⟩
   by_cases N:i=0
   ·rw [if_neg (by simp [N])];exact c1 (.inl N)
   have b4:=b4 (iV);cases q with
   | true=>rw [lz];exact c1 (.inr (b4.1 rfl))
   | false=>rw [if_pos (by simp;omega)];obtain ⟨j,rfl⟩:∃j,i=j+1:=⟨i-1,by omega⟩;refine zyh (Tg y c5 (by show T.length<=255;omega) λp f9 i0 g3 c8 g2 d6=> ?_);rw [aT];refine ⟨⟨j,T++ [p],f9,g3,c8,by omega,by simp;omega,g2,?_⟩,by omega⟩;rw [a9,yx,yX,d6]
 ·intro t2 k hE;rcases hE with ⟨f,hl,w⟩ | ⟨r,x,c,B,s,w⟩
  ·refine vc (u3 f ?_);rw [if_pos (by simp)];refine aP (cT (sh:=af .i64) (22:Int) (f.df (off:=2) (n:=1) rfl) (aP (cT (sh:=af .i64) (1048576:Int) (f.df (off:=3) (n:=1) rfl) ?_)));exact ⟨⟨f.df (off:=2) (n:=1) rfl,f.df (off:=3) (n:=1) rfl,trivial⟩,he 22 1048576 k hl w (by decide)⟩
  ·obtain ⟨p,e,pl,f,X⟩:=s.rd.iN;refine vc (u3 f ?_);cases r with
   | error e0=>obtain ⟨er,q0⟩:=e0;obtain ⟨rfl,P,rfl⟩:=X;rw [if_pos (by simpa using P)];refine aP (cT (sh:=af .i64) e (f.df (off:=2) (n:=1) rfl) (aP (cT (sh:=af .i64) (q0:Int) (f.df (off:=3) (n:=1) rfl) ?_)));exact ⟨⟨f.df (off:=2) (n:=1) rfl,f.df (off:=3) (n:=1) rfl,trivial⟩,he e q0 k s.rd.le w P⟩
   | ok at_=>obtain ⟨rfl,rfl,_⟩:=X;rw [lz];refine cT (sh:=aQ) x (s.iN.df (off:=0) (n:=7) rfl) ?_;exact f5 x c B k s.rd.le w s.own s.nd λb' d0=>uu b0 (s.fresh b' d0)
theorem forA {a:Type} {len:Int} {n:Nat} (r:len=(n:Int)) (hb:n<=4611686018427387904) (I:Nat->a->Hp->Prop) {B:(a->Int->Hp->Prop)->a->Int->Hp->Prop} {X:a->Int->Hp->Prop} {j:a} {d:Hp} (l:I 0 j d)
  (o:∀i:Nat,i<n->∀x h,I i x h->∀K:a->Int->Hp->Prop,(∀c b,I (i+1) c b->K c (yw ((i:Int)+1)) b)->B K x (i:Int) h) (p:∀x h,I n x h->X x (n:Int) h):
  bT (λk x t h=>if decide (t<len)=true then B k x t h else X x t h) j (0:Int) d:=by
 refine bT.intro (λx t h=>∃i:Nat,t=(i:Int)/\i<=n/\I i x h) (λ_ t _=>(len-t).toNat) ⟨0,rfl,by omega,l⟩ ?_;rintro x t h ⟨i,rfl,q,f⟩;by_cases g:i<n
 ·rw [if_pos (iV)];refine o i g x h f _ λc b m=> ?_;rw [aT];exact ⟨⟨i+1,by omega,by omega,m⟩,by omega⟩
 ·rw [if_neg (λe=>g (by have:=of_decide_eq_true e;omega))];have:i=n:=by omega
  subst this;exact p x h f
section
end
section
end
theorem Ti (c:aE):(jF c.labels).1=0↔Ac c.labels:=gU
section
end
def Bq :aD:=⟨0,⟨none,0,0⟩,⟨none,0,0⟩⟩
theorem YV {P:Program} {t:Nat} {x y:Operand} {h:Hp} {a:Array Value} (L:List (Field×IntKind×Int)) (i:P.underlying t=some (.struct (L.map (·.1)).toArray)) (k:P.eqGuardType P.depth t=false) (hp:P.stoodInHeld t=false)
  (j:∀q∈L,q.1.name≠ "_" ∧P.underlying q.1.type=some (.int q.2.1)∧a[q.1.offset]? =some (.int q.2.1 q.2.2)):
  iC P (cS .neq t x y (.agg a) (.agg a)) h (.bool false):=by
 refine ES λw=> ?_;have g:P.fieldsOf t=(L.map (·.1)).toArray:=by unfold Program.fieldsOf;rw [i]
 have n:P.underlying t=some (.struct (P.fieldsOf t)):=by rw [g];exact i
 have e:=run_equalIn_struct (P:=P) w 9999 t a a n hp;rw [g] at e;have f:=Ng (P:=P) 9998 a a (L.map λq=>(q.1,q.2.1,q.2.2,q.2.2)) w λq l=>by obtain ⟨o,m,rfl⟩:=List.mem_map.1 l;obtain ⟨b,c,d⟩:=j o m;exact ⟨b,c,d,d⟩
 have b:(L.map λq=>(q.1,q.2.1,q.2.2,q.2.2)).map (·.1)=L.map (·.1):=by rw [List.map_map];rfl
 have c:((L.map λq=>(q.1,q.2.1,q.2.2,q.2.2)).all λq=>q.2.2.1==q.2.2.2)=true:=by simp
 rw [b,c] at f;unfold cS;simp only [Sem.run_bind,run_eqGuard_agg w .neq t x y a a k,Result.andThen_ok,run_neq_struct];rw [show (10000:Nat)=9999+1 from rfl,e];simp only [f,Result.andThen_ok,Bool.not_true]
theorem Z7 {P:Program} (d:Nat) {e:TypeId} (c:P.underlying e=some (.int .i64)) (b:Array Value):∀(a:List Nat) (w:World),(∀j∈a,∃n,b[j]? =some (.int .i64 n))->(Op.eqItems (d+1) e 1 b b a).run P w=.ok true w
 | [],w,_=>by simp [Op.eqItems]
 | j::a,w,h=>by
  obtain ⟨n,i⟩:=h j (List.mem_cons_self ..);have k:=Z7 d c b a w λl g=>h l (List.mem_cons_of_mem _ g);have f:(isAgg e).run P w=.ok false w:=by simp [isAgg,run_underlying c]
  simp only [Op.eqItems,Sem.run_bind,part,f,Result.andThen_ok,Bool.false_eq_true,if_false,Nat.mul_one,i,Sem.run_pure,run_equalIn_int w d e .i64 .i64 n n c];simp [k]
theorem XB {P:Program} {t e n:Nat} {x y:Operand} {h:Hp} {a:Array Value} (l:P.underlying t=some (.array n e)) (b:(P.info? e).isSome=true) (f:P.underlying e=some (.int .i64)) (d:P.cellsOf e=1) (g:P.eqGuardType P.depth t=false)
  (m:∀j,j<n->∃v,a[j]? =some (.int .i64 v)):iC P (cS .neq t x y (.agg a) (.agg a)) h (.bool false):=by
 obtain ⟨i,b⟩:=Option.isSome_iff_exists.1 b;refine ES λw=> ?_;have c:=run_equalIn_array (P:=P) (w:=w) 9999 a a l b;rw [d,Z7 9998 f a _ w λj k=>m j (List.mem_range.1 k)] at c;unfold cS;simp only [Sem.run_bind,run_eqGuard_agg w .neq t x y a a g,Result.andThen_ok,run_neq_struct];rw [show (10000:Nat)=9999+1 from rfl,c];simp only [Result.andThen_ok,Bool.not_true]
section
variable {P:Program} {h:Hp} {Q:Bool->Hp->Prop}
theorem Lw {a b:Sl} {c:List Int} (e:Is h a c) (f:Is h b c) (r:c.length<=140737488355328) (o:Q true h):Uw P a b Q h:=by
 unfold Uw;have g:a.len=c.length:=e.1;have j:b.len=c.length:=f.1;rw [if_neg (by rw [g,j];simp)];refine kF (n:=c.length) (by omega) (by omega) (λ_ l=>l=h) rfl ?_ ?_
 ·rintro i q k rfl K m;refine pF (sh:=af .i64) e λ(x:Int) p=> ?_;refine pF (sh:=af .i64) f λ(y:Int) d=> ?_;rw [p] at d;rw [if_neg (by simp [Option.some.inj d])];exact m k rfl
 ·rintro k rfl;exact o
theorem Ys {x y:fc} (h:AR x=AR y):x=y:=by cases x;cases y;simp [AR] at h;simp [h]
theorem XC {x y:bJ} (h:AP x=AP y):x=y:=by cases x;cases y;simp [AP] at h;simp [h]
theorem MV {c g:Type} {f:c->g} (d:∀ {x y},f x=f y->x=y) {l m:List c} (h:l.map f=m.map f):l=m:=by
 induction l generalizing m with
 | nil=>cases m with
  | nil=>rfl
  | cons b m=>cases h
 | cons a l e=>cases m with
  | nil=>cases h
  | cons b m=>simp only [List.map_cons,List.cons.injEq] at h;rw [d h.1,e h.2]
end
structure Ff (c:aE):Prop where
 labels:c.labels.length<=140737488355328
 table:c.table.length<=140737488355328
 procs:c.procs.length<=140737488355328
 code:∀p∈c.procs,p.code.length<=140737488355328
structure Cf (l:bq):Prop where
 values:l.values.length<=140737488355328
 waiters:l.waiters.length<=140737488355328
structure xL (s:fT):Prop where
 parts:s.parts.length<=140737488355328
 procs:s.procs.length<=140737488355328
 log:∀x∈s.parts,x.log.length<=140737488355328/\x.aB.length<=140737488355328/\x.av.length<=140737488355328/\∀q∈x.av,q.length<=140737488355328
 aj:∀x∈s.procs,x.aj.length<=140737488355328/\∀l∈x.aj,Cf l
section
variable {h:Hp} {Q:Bool->Hp->Prop}
theorem Yt {a b:cl} {l:bq} (c:jV h a l) (d:jV h b l) (o:Cf l) (g:Q true h):RM prog a b Q h:=by
 unfold RM;obtain ⟨e,s,r⟩:=c.waiters;obtain ⟨E,p,C⟩:=d.waiters;have:e=E:=MV XC (r.trans C.symm);subst this;have u:a.dZ.len=l.values.length:=c.values.1;have v:b.dZ.len=l.values.length:=d.values.1;have w:a.cM.len=e.length:=s.1;have z:b.cM.len=e.length:=p.1;have F:=o.values;have A:=o.waiters;rw [<-r,List.length_map] at A;refine aJ (aJ (aJ ?_));rw [if_neg (by rw [u,v,w,z,c.taken,d.taken,c.dropped,d.dropped];simp)];refine kF (n:=l.values.length) (by omega) (by omega) (λ_ f=>f=h) rfl ?_ ?_
 ·rintro i B k rfl K m;refine Rs.get (sh:=af .i64) c.values (λ_=>rfl) (by omega) (i:=(i:Int)) (by omega) (by omega) λ(x:Int) t=> ?_;refine Rs.get (sh:=af .i64) d.values (λ_=>rfl) (by omega) (i:=(i:Int)) (by omega) (by omega) λ(y:Int) j=> ?_;grind
 ·rintro k rfl;refine kF (n:=e.length) (by omega) (by omega) (λ_ f=>f=k) rfl ?_ ?_
  ·rintro i B D rfl K m;refine pF (sh:=aH) s λx t=> ?_;refine pF (sh:=aH) p λy j=> ?_;rw [t] at j;cases j;refine ⟨false,YV [(⟨ "Proc",3,0,false, "", "",0⟩,.i64,x.dp),(⟨ "Value",2,1,false, "", "",8⟩,.i64,x.fh)]
    (bG.bO 192 wv rfl) (by kernel_rfl) (by kernel_rfl) (λq g=> ?_),?_⟩
   ·simp only [List.mem_cons,List.not_mem_nil,or_false] at g;rcases g with rfl | rfl
    ·exact ⟨by simp,bG.bO 3 uO rfl,rfl⟩
    ·exact ⟨by simp,bG.bO 2 te rfl,rfl⟩
   ·dsimp only;rw [lz];exact m D rfl
  grind
theorem zR {b e:Type} {R S:b->e->Prop} {c d:List b} {a:List e} {i:Nat} {x y:b} (f:cZ R c a) (hb:cZ S d a) (g:c[i]? =some x) (j:d[i]? =some y):∃z,a[i]? =some z/\R x z/\S y z:=by obtain ⟨p,k,l⟩:=f.get g;obtain ⟨q,m,n⟩:=hb.get j;grind
theorem U8 {a b:br} {p:ak} (c:dj h a p) (d:dj h b p) (E:p.aj.length<=140737488355328/\∀l∈p.aj,Cf l) (T:Q true h):QX prog a b Q h:=by
 unfold QX;obtain ⟨H,m,f⟩:=c.aj;obtain ⟨I,o,g⟩:=d.aj;have r:=f.len;have s:=g.len;have t:a.fL.len=H.length:=m.1;have u:b.fL.len=I.length:=o.1;have q: [a.cw,a.cx,a.cC,a.cD,a.cE,a.cF,a.cG,a.cH]=[b.cw,b.cx,b.cC,b.cD,b.cE,b.cF,b.cG,b.cH]:=c.bw.trans d.bw.symm;simp only [List.cons.injEq,and_true] at q;obtain ⟨J,L,r2,M,N,O,P,R⟩:=q;refine aJ ⟨false,λ_=> ?_,?_⟩
 ·rw [J,L,r2,M,N,O,P,R];refine XB (n:=8) (e:=2) (bG.bO 88 HM rfl) (by kernel_rfl) (bG.bO 2 te rfl) (by kernel_rfl) (by kernel_rfl) λj D=> ?_
  match j,D with
  | 0,_=>exact ⟨_,rfl⟩
  | 1,_=>exact ⟨_,rfl⟩
  | 2,_=>exact ⟨_,rfl⟩
  | 3,_=>exact ⟨_,rfl⟩
  | 4,_=>exact ⟨_,rfl⟩
  | 5,_=>exact ⟨_,rfl⟩
  | 6,_=>exact ⟨_,rfl⟩
  | 7,_=>exact ⟨_,rfl⟩
 refine aJ (aJ (aJ (aJ (aJ (aJ ?_)))));rw [if_neg (by rw [c.state,d.state,c.pc,d.pc,c.ah,d.ah,c.timer,d.timer,c.bL,d.bL,c.cv,d.cv,t,u,r,s];simp)];refine kF (n:=p.aj.length) (by omega) (by omega) (λ_ v=>v=h) rfl ?_ ?_
 ·rintro i S k rfl K C;refine Rs.get (sh:=bR) m (λ_=>rfl) (by omega) (i:=(i:Int)) (by omega) (by omega) λx F=> ?_;refine Rs.get (sh:=bR) o (λ_=>rfl) (by omega) (i:=(i:Int)) (by omega) (by omega) λy G=> ?_;obtain ⟨z,w,A,B⟩:=zR f g F G;refine zqv (Yt A B (E.2 z (List.mem_of_getElem? w)) ?_);rw [lz];exact C k rfl
 grind
theorem Yu {a b:cc} {p:dv} (c:gA h a p) (d:gA h b p) (O:p.log.length<=140737488355328/\p.aB.length<=140737488355328/\p.av.length<=140737488355328/\∀q∈p.av,q.length<=140737488355328) (f:Q true h):RH prog a b Q h:=by
 unfold RH;obtain ⟨e,t,s⟩:=c.log;obtain ⟨H,u,M⟩:=d.log;have:e=H:=MV Ys (s.trans M.symm);subst this;obtain ⟨T,v,o⟩:=c.av;obtain ⟨U,w,r⟩:=d.av;have B:=o.len;have C:=r.len;have D:a.dO.len=T.length:=v.1;have E:b.dO.len=U.length:=w.1;have F:a.Log.len=e.length:=t.1;have G:b.Log.len=e.length:=u.1;obtain ⟨P,R,V,S⟩:=O;rw [<-s,List.length_map] at P;refine aJ (aJ (aJ (aJ ?_)));rw [if_neg (by rw [c.ah,d.ah,c.lost,d.lost,c.forbidden,d.forbidden,D,E,F,G,B,C];simp)];refine kF (n:=e.length) (by omega) (by omega) (λ_ j=>j=h) rfl ?_ ?_
 ·rintro i N k rfl K l;refine pF (sh:=dK) t λx m=> ?_;refine pF (sh:=dK) u λy g=> ?_;rw [m] at g;cases g;refine ⟨false,YV [(⟨ "Tick",2,0,false, "", "",0⟩,.i64,x.fg),(⟨ "Proc",3,1,false, "", "",8⟩,.i64,x.dp),(⟨ "Value",2,2,false, "", "",16⟩,.i64,x.fh)]
   (bG.bO 129 AD rfl) (by kernel_rfl) (by kernel_rfl) (λq f=> ?_),?_⟩
  ·simp only [List.mem_cons,List.not_mem_nil,or_false] at f;rcases f with rfl | rfl | rfl
   ·exact ⟨by simp,bG.bO 2 te rfl,rfl⟩
   ·exact ⟨by simp,bG.bO 3 uO rfl,rfl⟩
   ·exact ⟨by simp,bG.bO 2 te rfl,rfl⟩
  ·dsimp only;rw [lz];exact l k rfl
 ·rintro k rfl;refine kF (n:=p.av.length) (by omega) (by omega) (λ_ j=>j=k) rfl ?_ ?_
  ·rintro i N A rfl K l;refine Rs.get (sh:=au) v (λ_=>rfl) (by omega) (i:=(i:Int)) (by omega) (by omega) λx m=> ?_;refine Rs.get (sh:=au) w (λ_=>rfl) (by omega) (i:=(i:Int)) (by omega) (by omega) λy g=> ?_;obtain ⟨z,I,J,L⟩:=zR o r m g;refine zmj (Lw J L (S z (List.mem_of_getElem? I)) ?_);rw [lz];exact l A rfl
  ·rintro A rfl;exact zmj (Lw c.aB d.aB R f)
theorem Lx {a b:aD} {s:fT} (m:dq h a s) (o:dq h b s) (c:xL s) (S:Q true h):Un prog a b Q h:=by
 unfold Un;obtain ⟨N,v,q⟩:=m.parts;obtain ⟨P,A,t⟩:=o.parts;obtain ⟨O,w,r⟩:=m.procs;obtain ⟨R,B,u⟩:=o.procs;have C:=q.len;have D:=t.len;have E:=r.len;have F:=u.len;have G:a.bZ.len=N.length:=v.1;have H:b.bZ.len=P.length:=A.1;have I:a.aG.len=O.length:=w.1;have J:b.aG.len=R.length:=B.1;have T:=c.parts;have U:=c.procs;refine aJ (aJ ?_);rw [if_neg (by rw [m.tick,o.tick,G,H,I,J,C,D,E,F];simp)];refine kF (n:=s.parts.length) (by omega) (by omega) (λ_ d=>d=h) rfl ?_ ?_
 ·rintro i L k rfl K p;refine Rs.get (sh:=cg) v (λ_=>rfl) (by omega) (i:=(i:Int)) (by omega) (by omega) λx j=> ?_;refine Rs.get (sh:=cg) A (λ_=>rfl) (by omega) (i:=(i:Int)) (by omega) (by omega) λy l=> ?_;obtain ⟨z,e,f,g⟩:=zR q t j l;refine zqt (Yu f g (c.log z (List.mem_of_getElem? e)) ?_);grind
 ·rintro k rfl;refine kF (n:=s.procs.length) (by omega) (by omega) (λ_ d=>d=k) rfl ?_ ?_
  ·rintro i L M rfl K p;refine Rs.get (sh:=bB) w (λ_=>rfl) (by omega) (i:=(i:Int)) (by omega) (by omega) λx j=> ?_;refine Rs.get (sh:=bB) B (λ_=>rfl) (by omega) (i:=(i:Int)) (by omega) (by omega) λy l=> ?_;obtain ⟨z,e,f,g⟩:=zR r u j l;refine zpd (U8 f g (c.aj z (List.mem_of_getElem? e)) ?_);rw [lz];exact p M rfl
  grind
end
theorem fw.rows {d:Type} {h:Hp} {b:Nat} {a:List Value} {sz:Nat} {enc:d->List Value} (k:fw h b a) (c:List d) {n m:Nat} (e:a=c.flatMap enc) (g:n=c.length) (f:∀x,(enc x).length=sz):Rw h sz enc ⟨some ⟨b,0,none⟩,n,m⟩ c:=by refine ⟨g,by rw [jz f],.inr ⟨_,rfl,?_⟩⟩;refine k.df (off:=0) (n:=a.length) ?_;rw [List.drop_zero,List.take_length,e]
end Lf
namespace Lf
open Go Go.ChangeShapes Go.WideShapes Go.ChangeAt Go.RowKit
def whole (W:World):Hp:=λb=>W.heap[b]?
theorem QU (W:World):Sub (whole W) W:=λ_ _ e=>e
theorem Yv (W:World) (a:Addr):dd (whole W) a=W.cell? a:=rfl
theorem WK {W a:World} {b:Hp} (c:whole W<=b) (st:Step (whole W) b W a):Below W.heap.size W a:=
 ⟨st.os,st.tape,st.output,st.size,λk d=>by
  cases e:W.heap[k]? with
  | some o=>exact st.sub _ _ (c _ _ e)
  | none=>simp at e;omega⟩
theorem IV {H:Type} {enc:TypeId×Value->H} {P:Program} (i:laidOutB P=true) {W g:World} {sp:Nat->Bool} (hb:Below W.heap.size W g):∀ {c:List TypeId} {f:List Value} {e:List (DataW H)} {b:List MemPlace},
  (∀t∈c,P.readableRec t=true/\t<P.types.size)->DataW.TrodAll enc P W 0 (λ_=>true) true c f e b->(∀x∈b,x.block<W.heap.size)->(∀x∈b,sp x.block=true)->DataW.TrodAll enc P g 0 sp true c f e b
 | [],_,_,_,_,h,_,_=>by obtain ⟨rfl,rfl,rfl⟩:=trodAll_nil h;exact trodAll_mk0
 | t::c,_,_,_,k,h,j,l=>by
  obtain ⟨v,f,d,e,p,q,rfl,rfl,rfl,m,n⟩:=trodAll_cons h;obtain ⟨o,r⟩:=k t (List.mem_cons_self ..);exact ⟨p,q,WideElems.Trod_stays i o r m (λx a=>hb.same (j x (List.mem_append_left _ a))) (λx a=>l x (List.mem_append_left _ a)),
   IV i hb (λt s=>k t (List.mem_cons_of_mem _ s)) n (λx a=>j x (List.mem_append_right _ a)) (λx a=>l x (List.mem_append_right _ a)),rfl⟩
theorem Tk {H:Type} {enc:TypeId×Value->H} {P:Program} {f:Func} {s:ChangeSpec} {W d:World} {h:Hp} {args:Array Value} {a gs:List (DataW H)} {g:List MemPlace} {t:TypeId} (o:laidOutB P=true)
  (u:∀t∈f.params.toList,P.readableRec t=true/\t<P.types.size) (k:s.vars=[]) (v:f.resultTypes= #[t]) (w:P.underlying t=some .bool)
  (n:gs=[]->s.fn H (a++gs)={results:=[.lit (.bool true)],args:=a}) (b:DataW.Whole enc P f.params.toList s.vars false W args.toList a gs g) (r:whole W<=h) (st:Step (whole W) h W d):
  s.post enc P f false true false false W args (.bool true) d:=by
 have hb:=WK r st;have j:∀p∈g,p.block<W.heap.size:=λp hp=>b.lt p hp;have m:=b;obtain ⟨p,q,l,i,rfl,y,z⟩:=m;rw [k] at i;obtain ⟨rfl,rfl⟩:=trodVars_none i;rw [List.append_nil] at j;have c:=n rfl;refine ⟨a,[],p++ [],[],p,[],b,?_,?_,?_,Below.frame hb _,λe=>(by cases e)⟩
 ·rw [c,v];exact trodAll_mk1 (shut_bool w true)
 ·rw [c];exact IV o hb u l j (λx A=>by grind)
 ·rw [c,k];exact rfl
theorem rL {H:Type} {enc:TypeId×Value->H} {C:Checked} {os:Os} {f:FuncId} {fn:Func} {s:ChangeSpec} {t:TypeId} (own:ownKnob C.prog.godebug=none) (L:os.Started) (K:C.prog.inits.idxOf? f=none) (o:C.prog.funcs[f]? =some fn)
  (N:∃(w:World) (tape:Tape) (i:Input),w.os=os/\(w.forCall tape i).Shaped C.prog/\i.vars=[]/\Input.okWide C.prog (w.forCall tape i) .any w.heap.size f i/\
   s.pre6 enc C.prog fn [] false (w.forCall tape i).memory i.args/\({}:Assume).holds C.prog (lone (Frame.enter C.prog f i.args .normal) [] (w.forCall tape i)))
  (z:laidOutB C.prog=true) (B:∀t∈fn.params.toList,C.prog.readableRec t=true/\t<C.prog.types.size) (b:s.vars=[]) (D:fn.resultTypes= #[t]) (G:C.prog.underlying t=some .bool)
  (M:∀(W:World) (base:Nat) (args:Array Value) (a:List (DataW H)) (p:List MemPlace),(∀(j:Nat) t v,fn.params[j]? =some t->args[j]? =some v->Value.okWide C.prog W .any base t v)->DataW.TrodAll enc C.prog W 0 (λ_=>true) true fn.params.toList args.toList a p->
   (DataW.weightsEach C.prog fn.params.toList a).all (· <=reachBytes)=true->
   s.fn H a={results:=[.lit (.bool true)],args:=a}/\aa C.prog f args.toList bn (λr c=>r=true/\whole W<=c) (whole W)):
  ReturnsInHanded {} C os f .any (s.pre6 enc C.prog fn [] false) (s.post enc C.prog fn false true false false):=by
 refine returnsInHanded_of_change_sized own L K o N ?_;intro W base args a gs P I g Q k _;have m:=g;obtain ⟨p,q,l,d,_,R,S⟩:=m;have u:gs=[]:=by rw [b] at d;exact (trodVars_none d).1
 subst u;have J:s.plain.varTypes C.prog=[]:=by unfold ChangeSpec.plain DataSpec.varTypes;rw [b];rfl
 rw [J,List.append_nil,List.append_nil] at k;obtain ⟨E,n⟩:=M W base args a p I l k;have h:=n W (QU W);simp only [Array.toArray_toList] at h;refine h.mono λe O y=> ?_;obtain ⟨v,c,rfl,⟨x,rfl,rfl,A⟩,F⟩:=y;exact ⟨_,rfl,Tk z B b D G (λe=>by rw [e,List.append_nil];exact E) g A F⟩
theorem JC {x:Int} (h:(Lit.int .u64 x).wf=true):0<=x/\x<18446744073709551616:=by simp [Lit.wf,IntKind.min,IntKind.max,IntKind.signed,IntKind.bits] at h;omega
theorem V0 {x:Int} (h:(Lit.int .i64 x).wf=true): -9223372036854775808<=x/\x<=9223372036854775807:=by simp [Lit.wf,IntKind.min,IntKind.max,IntKind.signed,IntKind.bits] at h;omega
end Lf
namespace Lf
open Go Go.Proofs Go.ChangeShapes Go.WideShapes Go.ChangeAt Go.RowKit
section
variable {H:Type} {enc:TypeId×Value->H} {P:Program} {W:World}
def lu (enc:TypeId×Value->H) (P:Program) (W:World) (t:TypeId) (R:List Value->Prop):Prop:=
 ∀fuel a y,DataW.trod enc P W 0 (λ_=>true) true fuel t a=some y->(DataW.weights P t y.1).all (· <=reachBytes)=true->R a
theorem DS {t:TypeId} {k:IntKind} (b:P.underlying t=some (.int k)):lu enc P W t λa=>∃n,a=[.int k n]/\(Lit.int k n).wf=true:=λfuel a y h _=>by obtain ⟨n,c,_,d⟩:=DataW.trod_int b h;grind
theorem Ek {l m:List Nat} {p:Nat->Bool} (h:(l++m).all p=true):l.all p=true/\m.all p=true:=by grind
theorem HO {e:TypeId}:∀ {l:List (DataW H)} {d:DataW H},d∈l->(DataW.weightsAll P e l).all (· <=reachBytes)=true->(DataW.weights P e d).all (· <=reachBytes)=true
 | d::r,c,hm,h=>by
  rw [DataW.weightsAll] at h;obtain ⟨a,b⟩:=Ek h;rcases List.mem_cons.1 hm with rfl | hm
  ·exact a
  ·exact HO hm b
theorem wA :∀ {ts:List TypeId} {a:List (DataW H)} {i:Nat} {t:TypeId} {d:DataW H},ts[i]? =some t->a[i]? =some d->(DataW.weightsEach P ts a).all (· <=reachBytes)=true->(DataW.weights P t d).all (· <=reachBytes)=true
 | [],_,i,t,d,h,_,_=>by simp at h
 | _::_,[],i,t,d,_,h,_=>by simp at h
 | t::ts,d::a,0,f,e,b,c,h=>by simp at b c;subst b c;rw [DataW.weightsEach] at h;grind
 | t::ts,d::a,i+1,f,e,b,c,h=>by rw [DataW.weightsEach] at h;exact wA (by simpa using b) (by simpa using c) (Ek h).2
theorem pA {t:TypeId} {a:Array Field} {fuel:Nat} {c:List Value} {y:DataW H×List MemPlace} (e:P.underlying t=some (.struct a)) (h:DataW.trod enc P W 0 (λ_=>true) true fuel t c=some y) (b:(DataW.weights P t y.1).all (· <=reachBytes)=true)
  {i n off:Nat} {f:Field} {R:List Value->Prop} (k:a[i]? =some f) (p:f.offset=off) (j:P.cellsOf f.type=n) (g:lu enc P W f.type R):R ((c.drop off).take n):=by
 subst p;obtain ⟨q,m,_,rfl,r,s,l⟩:=DataW.trod_struct e h;have d:=l i f k;have o:i<q.length:=by grind
 rw [List.getElem?_eq_getElem o,j] at d;refine g m _ _ d ?_;dsimp only at b;rw [DataW.weights,e] at b;refine wA (i:=i) (ts:=a.toList.map (·.type)) ?_ ?_ b
 ·grind
 grind
theorem wZ {t:TypeId} {b:Array Field} {fuel:Nat} {a:List Value} {y:DataW H×List MemPlace} (d:P.underlying t=some (.struct b)) (h:DataW.trod enc P W 0 (λ_=>true) true fuel t a=some y):a.length=P.cellsOf t:=by obtain ⟨g,m,_,rfl,c,f,e⟩:=DataW.trod_struct d h;exact c
theorem pw {b a:List Value} {off n m:Nat} (h:(b.drop off).take n=a) (c:off+n=m):b.drop off=a++b.drop m:=by rw [<-c,<-h,<-List.drop_drop,List.take_append_drop]
structure pG {α:Type} (W:World) (sz:Nat) (en:α->List Value) (iz:α->Prop) (l:Sl) (xs:List α):Prop where
 Ay:Rw (whole W) sz en l xs
 cap:l.len<=l.cap
 iA:l.cap<=9223372036854775807
 mR:xs.length<=140737488355328
 all:∀x∈xs,iz x
theorem Mb {t e:TypeId} {u:Type} (E:P.underlying t=some (.slice e)) (f:u->List Value) (iz:u->Prop) {sz:Nat} (S:P.cellsOf e=sz) (hb:0<P.bytesOf e) (L:lu enc P W e λd=>∃x,d=f x/\iz x) (C:∀x,(f x).length=sz):
  lu enc P W t λd=>∃(l:Sl) (b:List u),d=[l.v]/\pG W sz f iz l b:=by
 intro fuel d y h o;subst S;rcases DataW.trod_slice E h with ⟨w,_⟩ | ⟨a,s,F,g,rest,n,_,w,K,Z,O,Q,b0,M,_,_⟩
 ·exact ⟨⟨none,0,0⟩,[],w,⟨⟨rfl,by simp,.inl (by simp)⟩,Nat.le_refl _,by simp,by simp,λx r=>by cases r⟩⟩
 ·subst K;dsimp only at o;rw [DataW.weights,E] at o;dsimp only at o;rw [List.all_cons,Bool.and_eq_true,decide_eq_true_eq] at o;obtain ⟨T,z⟩:=o;have z:=(Ek z).1;have I:∀i,i<s->∃x,iz x/\bf (whole W) (a.add (i*P.cellsOf e)) (f x):=by
   intro i N;have c:=M i N;have k:g[i]? =some g[i]:=List.getElem?_eq_getElem (by omega);rw [k] at c;cases B:W.cells? 0 (a.add (i*P.cellsOf e)) (P.cellsOf e) with
   | none=>grind
   | some d=>rw [B] at c;obtain ⟨_,a8,J⟩:=World.cells?_some B;obtain ⟨x,r,D⟩:=L n d _ c (HO (List.mem_map.2 ⟨g[i],List.mem_of_getElem? k,rfl⟩) z);refine ⟨x,D,λj v p=> ?_⟩;have a9:j<(f x).length:=(List.getElem?_eq_some_iff.1 p).1;rw [Yv,J j (by grind),r];exact p
  have build:∀m,m<=s->∃b:List u,b.length=m/\(∀x∈b,iz x)/\∀i x,b[i]? =some x->bf (whole W) (a.add (i*P.cellsOf e)) (f x):=by
   intro m
   induction m with
   | zero=>simp
   | succ m V=>
    intro b1;obtain ⟨b,c,k,A⟩:=V (by omega);obtain ⟨x,D,r⟩:=I m (by omega);refine ⟨b++ [x],by simp [c],λy U=> ?_,λi y U=> ?_⟩
    ·grind
    grind
  obtain ⟨b,c,k,A⟩:=build s (Nat.le_refl _);refine ⟨⟨some a,s,F⟩,b,w,⟨⟨c.symm,jz C b,.inr ⟨a,rfl,λi v hv=> ?_⟩⟩,O,Q,?_,k⟩⟩
  ·obtain ⟨q,x,j,R,p,G⟩:=Ic C b i v hv;rw [G];rw [<-tF];exact A q x R j v p
  ·have X:reachBytes<=140737488355328:=by decide
   rw [List.length_map,List.length_map] at T;have Y:g.length+rest.length<=(g.length+rest.length)*P.bytesOf e:=Nat.le_mul_of_pos_right _ hb;omega
end
section
variable {H:Type} {enc:TypeId×Value->H} {W:World}
theorem li :lu enc Tryz.prog W 3 λa=>∃n,a=[.int .i64 n]/\(Lit.int .i64 n).wf=true:=DS (bG.bO 3 uO rfl)
theorem FK :lu enc Tryz.prog W 2 λa=>∃n,a=[.int .i64 n]/\(Lit.int .i64 n).wf=true:=DS (bG.bO 2 te rfl)
theorem FL :lu enc Tryz.prog W 28 λa=>∃n,a=[.int .u64 n]/\(Lit.int .u64 n).wf=true:=DS (bG.bO 28 Hn rfl)
theorem zS {x:Int} (h:(Lit.int .i64 x).wf=true):pB x:=by have:=V0 h;unfold pB;omega
abbrev eI (x:Int):List Value:=bp ((af .i64).enc x)
abbrev eU (x:Int):List Value:=bp ((af .u64).enc x)
abbrev xQ (x:aK):List Value:=bp (aV.enc x)
abbrev tW (x:aU):List Value:=bp (bA.enc x)
theorem kn :Tryz.prog.cellsOf 3=1:=by kernel_rfl
theorem IS :Tryz.prog.cellsOf 2=1:=by kernel_rfl
theorem MW :Tryz.prog.cellsOf 28=1:=by kernel_rfl
theorem Ag :Tryz.prog.cellsOf 70=5:=by kernel_rfl
theorem V1 :Tryz.prog.cellsOf 62=1:=by kernel_rfl
theorem JD :Tryz.prog.cellsOf 64=2:=by kernel_rfl
theorem Ve :Tryz.prog.cellsOf 24=1:=by kernel_rfl
theorem OR :Tryz.prog.cellsOf 22=1:=by kernel_rfl
theorem OQ :Tryz.prog.cellsOf 23=1:=by kernel_rfl
theorem vA :Tryz.prog.cellsOf 26=7:=by kernel_rfl
theorem O2 :lu enc Tryz.prog W 23 λa=>∃(l:Sl) (d:List Int),a=[l.v]/\pG W 1 eI (λ_=>True) l d:=
 Mb (bG.bO 23 tf rfl) eI _ kn (by rw [show Tryz.prog.bytesOf 3=8 by kernel_rfl];omega) (λf a y h c=>by obtain ⟨n,b,_⟩:=li f a y h c;exact ⟨n,b,trivial⟩) λ_=>rfl
theorem O3 :lu enc Tryz.prog W 22 λa=>∃(l:Sl) (e:List Int),a=[l.v]/\pG W 1 eU kQ l e:=
 Mb (bG.bO 22 ye rfl) eU _ MW (by rw [show Tryz.prog.bytesOf 28=8 by kernel_rfl];omega) (λf a y h d=>by obtain ⟨n,b,c⟩:=FL f a y h d;exact ⟨n,b,JC c⟩) λ_=>rfl
theorem FI :lu enc Tryz.prog W 70 λc=>∃x,c=xQ x/\pB x.iU:=λf c y h b=>by have a:=bG.bO 70 Bx rfl;have d:=wZ a h;rw [Ag] at d;obtain ⟨a0,g,_⟩:=pA a h b (i:=0) (off:=0) rfl rfl kn li;obtain ⟨a1,j,_⟩:=pA a h b (i:=1) (off:=1) rfl rfl kn li;obtain ⟨a2,k,_⟩:=pA a h b (i:=2) (off:=2) rfl rfl kn li;obtain ⟨a3,l,_⟩:=pA a h b (i:=3) (off:=3) rfl rfl kn li;obtain ⟨a4,n,o⟩:=pA a h b (i:=4) (off:=4) rfl rfl IS FK;refine ⟨⟨a0,a1,a2,a3,a4⟩,?_,zS o⟩;have e:c=c.drop 0:=rfl;rw [e,pw (m:=1) g rfl,pw (m:=2) j rfl,pw (m:=3) k rfl,pw (m:=4) l rfl,pw (m:=5) n rfl,List.drop_of_length_le (Nat.le_of_eq d)];rfl
theorem V2 :lu enc Tryz.prog W 62 λa=>∃(l:Sl) (b:List aK),a=[l.v]/\pG W 5 xQ (λx=>pB x.iU) l b:=
 Mb (bG.bO 62 Bw rfl) xQ _ Ag (by rw [show Tryz.prog.bytesOf 70=40 by kernel_rfl];omega) FI λ_=>rfl
def yS (W:World) (q:aU):Prop:=∃a,pG W 5 xQ (λx=>pB x.iU) q.Code a
theorem V3 :lu enc Tryz.prog W 64 λa=>∃x,a=tW x/\yS W x:=λf a y h d=>by have b:=bG.bO 64 HL rfl;have c:=wZ b h;rw [JD] at c;obtain ⟨a0,j,_⟩:=pA b h d (i:=0) (off:=0) rfl rfl kn li;obtain ⟨l,n,k,g⟩:=pA b h d (i:=1) (off:=1) rfl rfl V1 V2;refine ⟨⟨a0,l⟩,?_,n,g⟩;have e:a=a.drop 0:=rfl;rw [e,pw (m:=1) j rfl,pw (m:=2) k rfl,List.drop_of_length_le (Nat.le_of_eq c)];rfl
theorem Vg :lu enc Tryz.prog W 24 λa=>∃(l:Sl) (b:List aU),a=[l.v]/\pG W 2 tW (yS W) l b:=
 Mb (bG.bO 24 Bu rfl) tW _ JD (by rw [show Tryz.prog.bytesOf 64=32 by kernel_rfl];omega) V3 λ_=>rfl
structure Aa (W:World) (x:an):Prop where
 labels:∃ls,pG W 1 eU kQ x.aN ls
 table:∃ts,pG W 1 eI (λ_=>True) x.Table ts
 procs:∃ps,pG W 2 tW (yS W) x.aG ps
theorem Ap :lu enc Tryz.prog W 26 λc=>∃x,c=mX x/\Aa W x:=λf c y h b=>by have a:=bG.bO 26 Hf rfl;have d:=wZ a h;rw [vA] at d;obtain ⟨t,w,l,g⟩:=pA a h b (i:=0) (off:=0) rfl rfl OR O3;obtain ⟨u,z,n,j⟩:=pA a h b (i:=1) (off:=1) rfl rfl OQ O2;obtain ⟨a2,o,_⟩:=pA a h b (i:=2) (off:=2) rfl rfl kn li;obtain ⟨a3,p,_⟩:=pA a h b (i:=3) (off:=3) rfl rfl kn li;obtain ⟨a4,q,_⟩:=pA a h b (i:=4) (off:=4) rfl rfl kn li;obtain ⟨a5,r,_⟩:=pA a h b (i:=5) (off:=5) rfl rfl kn li;obtain ⟨v,A,s,k⟩:=pA a h b (i:=6) (off:=6) rfl rfl Ve Vg;refine ⟨⟨t,u,a2,a3,a4,a5,v⟩,?_,⟨w,g⟩,⟨z,j⟩,A,k⟩;have e:c=c.drop 0:=rfl;rw [e,pw (m:=1) l rfl,pw (m:=2) n rfl,pw (m:=3) o rfl,pw (m:=4) p rfl,pw (m:=5) q rfl,pw (m:=6) r rfl,pw (m:=7) s rfl,List.drop_of_length_le (Nat.le_of_eq d)];rfl
end
theorem IT {b c:Type} {R:b->c->Prop} {G:c->Prop}:∀ {l:List b},(∀x∈l,∃p,R x p/\G p)->∃m,cZ R l m/\∀p∈m,G p
 | [],_=>⟨[],trivial,λp hp=>by cases hp⟩
 | a::l,h=>by obtain ⟨p,d,g⟩:=h a (List.mem_cons_self ..);obtain ⟨m,e,i⟩:=IT (l:=l) λx f=>h x (List.mem_cons_of_mem _ f);refine ⟨p::m,⟨d,e⟩,λq j=> ?_⟩;grind
section
variable {W:World}
theorem Vi {q:aU} (k:yS W q):∃p,jY (whole W) q p/\((∀x∈p.code,pB x.iQ)/\p.code.length<=140737488355328):=by
 obtain ⟨a,h⟩:=k;refine ⟨⟨q.Part,a.map bd⟩,⟨rfl,a,h.Ay,rfl⟩,λx b=> ?_,?_⟩
 ·obtain ⟨y,c,rfl⟩:=List.mem_map.1 b;exact h.all y c
 ·show (a.map bd).length<=_;rw [List.length_map];exact h.mR
theorem JF {x:an} (k:Aa W x):∃c,fo (whole W) x c/\Typed c/\Ff c:=by obtain ⟨j,b⟩:=k.labels;obtain ⟨n,e⟩:=k.table;obtain ⟨l,d⟩:=k.procs;obtain ⟨m,f,g⟩:=IT λq i=>Vi (d.all q i);have r:=f.len;have o:=d.mR;refine ⟨⟨j,n,x.Fuel,x.gH,x.bQ,x.Log,m⟩,⟨b.Ay,e.Ay,rfl,rfl,rfl,rfl,l,d.Ay,f⟩,⟨λa h=> ?_,λp hp=>(g p hp).1⟩,⟨b.mR,e.mR,by show m.length<=_;omega,λp hp=>(g p hp).2⟩⟩;have:=b.all a h;omega
end
section
variable {H:Type} {enc:TypeId×Value->H} {W:World}
theorem V4 {v:Value} {b:List Value} (h:v.cells.toList=b) (c:b.length≠1):v=.agg b.toArray:=by
 cases v with
 | agg a=>rw [<-h];rfl
 | _=>subst h;simp [Value.cells] at c
end
end Lf
namespace Lf
open Go Go.Proofs Tryz
theorem V6 {c:aE} (h:(fV c).1=0):Small c:=by obtain ⟨b,_,_,_,_,f,a,g,_,d,e⟩:=jI.1 h;exact ⟨(gU.1 b).2.1,d,f.2,a,g.2,λp hp=>((L8 ⟨a.1,a.2⟩).1 (e p hp).2).1⟩
theorem El {c:aE} (a:Typed c) (h:(fV c).1=0):vj c:=(RP (Ti c)).1 ⟨a,h⟩
theorem yy {c:aE} (a:Typed c) (h:(fV c).1=0):(mz c).length<=1048576:=by have:=T4 (V6 h) (El a h);omega
theorem MX {c:aE} (b:Typed c):∀l∈c.labels,kQ l:=λl a=>⟨(b.1 l a).1,(b.1 l a).2⟩
section
variable {c:aE} {t:fT} {s:MS}
theorem Tl (m:cf c):AW c t↔vp c t λi y=>iO c i y.toNat=true:=by
 have key:∀(p:Nat) x y,t.procs[p]? =some x->c.procs[p]? =some y->(tM c t (λ(i:Nat) q=>fl c.labels (i:Int) q=true) x y↔tM c t (λi y=>iO c i y.toNat=true) x y):=λp x y _ a=>by
  have hp:=(m.part y (List.mem_of_getElem? a)).1;have e:∀i:Nat,iO c i y.part.toNat=fl c.labels (i:Int) y.part:=λi=>by unfold iO;rw [show ((y.part.toNat:Nat):Int)=y.part by omega]
  unfold tM;simp only [e]
 unfold AW vp;constructor
 ·rintro ⟨d,f,g,h⟩;exact ⟨d,f,λp x y b a=>(key p x y b a).1 (g p x y b a),h⟩
 ·rintro ⟨d,f,g,h⟩;exact ⟨d,f,λp x y b a=>(key p x y b a).2 (g p x y b a),h⟩
theorem FV {h:Hp} {y:aD} (b:dq h y t):∀x∈t.procs,x.bw.length=8:=λx j=>by
 obtain ⟨d,_,e⟩:=b.procs;obtain ⟨i,f⟩:=List.mem_iff_getElem?.1 j;have:∃z,d[i]? =some z/\dj h z x:=by have k:=e.len;have l:=(List.getElem?_eq_some_iff.1 f).1;obtain ⟨z,g,a⟩:=e.get (i:=i) (List.getElem?_eq_getElem (show i<d.length by omega));rw [f] at g;cases g;exact ⟨_,List.getElem?_eq_getElem (show i<d.length by omega),a⟩
 obtain ⟨z,_,a⟩:=this;rw [<-a.bw];rfl
end
section
variable {k:Hp} {x:an} {y:aD} {c:aE} {t:fT}
structure sA (k:Hp) (c:aE) (t:fT) (pm:Addr) (k':Hp):Prop where
 ex:∃K tm h1,K.c=c/\dF h1 K/\k<=h1/\Has h1 (aF K pm (bN t) tm) k'/\eR c tm (bN t)
 iz:Good c (iO c) (bN t) No No t.tick
 parts:t.parts.length=nP c
 procs:t.procs.length=nQ c
theorem Vk {Q:Option Addr->Int->Hp->Prop} (a:fo k x c) (u:∀l∈c.labels,kQ l) (q:∀b,k<=b->(fV c).1≠0->Q none (fV c).1 b)
  (s:∀pm b,(fV c).1=0->k<=b->sA k c ((qF c).list c) pm b->Q (some pm) 0 b):YJ prog x Q k:=by
 unfold YJ;refine Wq (Zn a λv f=> ?_);by_cases d:(fV c).1=0
 ·rw [d,if_neg (by decide)];have e:=pn d;refine QC (S0 (a.mono f) e λr B w j=>⟨⟨trivial,trivial⟩,?_⟩);have hp:((qF c).list c).parts.length=nP c:=by show ((List.range (nP c)).map _).length=_;simp
  have i:((qF c).list c).procs.length=nQ c:=by show ((List.range (nQ c)).map _).length=_;simp
  have h:=Hp.le_trans f w;have g:=IJ e (Good.may e (Good.first (fl:=iO c) e) (by show (0:Int)<=_;decide)) (FV j);refine Rr (U1 (a.mono h) j u d (U3 e g hp i) λK pm A p b n mk m o z=>s pm b d (Hp.le_trans h (Hp.le_trans m o.le)) ⟨⟨K,A,p,n,mk,Hp.le_trans h m,o,z⟩,g,hp,i⟩)
 ·rw [if_pos (by simpa using d)];exact q v f d
end
end Lf
