/-
  Part 6 of the texts that the claim leans on.
-/
import Derived.RangeFuncFrom
import Derived.RangeFuncBound
import Derived.RangeFuncCalls
import Derived.RangeFuncLeaves
import Derived.Shelf.Abstract
import Derived.Shelf.RegionOpen
import Derived.WalkKit
import Derived.OwnWalkIn
import Derived.TacticsInMore
import Derived.LoopNIn
import Derived.LoopIn
import Derived.Test.YtakfmlcemmgllaaGreatProg
import Derived.Test.YtakfmlcemmgllaaGreatMgSgGoesOn4
set_option maxRecDepth 100000
namespace Lf
open Go Go.Proofs Tryz
abbrev Au (l:Sl) (a:List cJ):eD:=kC (bh.ok (sh:=bx) (sz:=6) kU) l a
abbrev xS (l:Sl) (a:List aj):eD:=kC (bh.ok (sh:=aI) (sz:=15) fY) l a
section
variable {h0 h1 k:Hp} {K:MK} {pm:Addr} {s:MS} {g:Nat->Nat->Int}
def toE (e:qS):eV:=⟨e.tick,e.proc,e.value⟩
theorem ac3 {i:Nat} {Ps:Sl} {ps:List cJ} {rest:Sl->Hp->Prop} (mc:cP K.c) (o:Has h0 ((aO K pm s g).star (Au Ps ps)) k) (sa:kN K.c s) (I:i<nP K.c) (c4:ps.length<=1000)
  (hk:∀z j,Has h0 ((aO K pm s g).star (Au z (ps++ [s.part i]))) j->rest z j):
 ah none (some (K.q i)) λp2=>
 aN none al k (Addr.add p2 5) λx3=>
 bt prog Q0 [(.pointer x3)] aw aw (λr N l=>
 ah none (some (K.q i)) λp3=>
 aN none (af .i64) l (Addr.add p3 1) λw=>
 ah none (some (K.q i)) λp4=>
 aN none aw l (Addr.add p4 2) λx5=>
 ah none (some (K.q i)) λp5=>
 aN none (af .i64) l (Addr.add p5 3) λx6=>
 ah none (some (K.q i)) λp6=>
 aN none (af .i64) l (Addr.add p6 4) λx7=>
 ae prog Ls [x5.v] aw (λr2 m=>
 ((True/\((aZ m (Addr.add p3 1) [(.int .i64 w)])/\((aZ m (Addr.add p5 3) [(.int .i64 x6)])/\((aZ m (Addr.add p6 4) [(.int .i64 x7)])/\True))))/\bc [(.int .i64 w),r2.v,(.int .i64 x6),(.int .i64 x7),r.v,N.v] (λa G=>
 ((True/\True)/\eC 6 96 [(.int .i64 (0:Int)),(.slice none 0 0),(.int .i64 (0:Int)),(.int .i64 (0:Int)),(.slice none 0 0),(.slice none 0 0)] ⟨Ps.base,Ps.len,Ps.cap⟩ ⟨(some a),1,1⟩ (λO h5=>
 rest O h5) G)) m)) l) k:=by
  have A:=sa.part i I;obtain ⟨V,lA,oM,_,hO⟩:=o.fst;obtain ⟨m,w,b0,c7,l4,a9,b8,ol,c0⟩:=oM.tI I;have el:w.ag=some b0:=a9.2.2.2.2.1;refine aJ (b8.ld (shf:=al) w.ag rfl ?_);rw [el];refine SU (TN ol ⟨by have:=A.mI.1;omega,A.mI.2⟩ A.iZ λP Q W o2=> ?_);have Y:Has V ((aO K pm s g).star ((wj P (s.part i).ax).star (Av Q (s.part i).au))) W:=o2.carry λj L=>by
   have G:=c0 _ _ j L;have e:s.dT i {s.part i with ax:=(s.part i).ax,au:=(s.part i).au}=s:=FI
   rwa [e] at G
  obtain ⟨hB,lB,b5,⟨F3,c2,c1⟩,c6⟩:=Y.fst;obtain ⟨h6,x,lp,wp,l6,J,u,b7,_⟩:=b5.Io I;refine aJ (u.ld (shf:=af .i64) x.ai rfl ?_);refine aJ (u.ld (shf:=aw) x.log rfl ?_);refine aJ (u.ld (shf:=af .i64) x.lost rfl ?_);refine aJ (u.ld (shf:=af .i64) x.forbidden rfl ?_);refine zea ?_;unfold TC;have c3:=A.lR;refine Aj (cD.cH 101 yD rfl) (b7.mO (λ_=>rfl)) (by decide) (λ_=>rfl) (λ_=>rfl) rfl ⟨by omega,by omega⟩ λR X a8 n3=> ?_;have M:=u.grow a8;refine ⟨⟨trivial,M.fG (n:=1) rfl,M.fG (n:=1) rfl,M.fG (n:=1) rfl,trivial⟩,?_⟩;have b1:Has W (kC (bh.ok (sh:=cW) (sz:=3) (dN.ok λx p=>Ap x=p)) R (s.part i).log) X:=n3.kq (f:=toE) (λ_=>rfl) λ_=>rfl;have Z:=Y.beside b1;have b6:Has V ((aO K pm s g).star (kC kU (⟨x.ai,R,x.lost,x.forbidden,P,Q⟩:bM) (s.part i))) X:=by
   obtain ⟨hC,lC,c5,_,_⟩:=Z.assoc.fst;refine Z.assoc.map λkk F hF=> ?_;refine HK (λ_ h=>h) (λF' h=> ?_) hF;obtain ⟨F1,F2,e,d,⟨F4,F5,B,d',⟨T,r2,b3,D⟩,⟨U,O,b4,E⟩⟩,⟨S,N,b2,C⟩⟩:=h;refine ⟨S++(T++U),⟨S,T,U,rfl,N,r2,O,J.2.1,J.2.2.1,J.2.2.2.1⟩,?_,λb=> ?_⟩
   ·rw [List.nodup_append,List.nodup_append];refine ⟨b2,⟨b3,b4,λa y b hb H=> ?_⟩,λa y b hb H=> ?_⟩
    ·subst H;exact d' a ((D a).2 y) ((E a).2 hb)
    ·subst H;rcases List.mem_append.1 hb with hb | hb
     ·exact d a ((B a).2 (.inl ((D a).2 hb))) ((C a).2 y)
     ·exact d a ((B a).2 (.inr ((E a).2 hb))) ((C a).2 y)
   ·rw [e b,B b,C b,D b,E b,List.mem_append,List.mem_append];constructor
    ·rintro ((h | h) | h)
     ·exact .inr (.inl h)
     ·exact .inr (.inr h)
     ·exact .inl h
    ·rintro (h | h | h)
     ·exact .inr h
     ·exact .inl (.inl h)
     ·exact .inl (.inr h)
  have oF:=(hO _ _ b6).assoc;obtain ⟨hD,lD,oD,_,b9⟩:=oF.snd;have key:=oD.comm.row (cs:=[(.int .i64 x.ai),R.v,(.int .i64 x.lost),(.int .i64 x.forbidden),P.v,Q.v]) (zero:=[(.int .i64 (0:Int)),(.slice none 0 0),(.int .i64 (0:Int)),(.int .i64 (0:Int)),(.slice none 0 0),(.slice none 0 0)]) (bytes:=96) rfl (λ_=>rfl) (λ_=>rfl) rfl ⟨by omega,by omega⟩ (K:=rest) λz j L=>hk z j (b9 _ _ L);exact λb t hb=>⟨⟨trivial,trivial⟩,key b t hb⟩
theorem ac4 {c:aL} {p:Nat} (hp:p<nQ c):pw c s (aG c p) (2*p)=(s.proc p).timer:=by unfold pw;grind
theorem adU {c:aL} {p:Nat} (hp:p<nQ c):pw c s (aG c p) (2*p+1)=(s.proc p).bP:=by unfold pw;grind
theorem ac5 {p:Nat} {Ps:Sl} {ps:List aj} {rest:Sl->Hp->Prop} (m:eh h0 K) (R:cP K.c) (o:Has h0 ((aO K pm s g).star (xS Ps ps)) k) (sa:kN K.c s) (td:fS K.c g s) (hp:p<nQ K.c) (c7:ps.length<=1000)
  (hk:∀M y,Has h0 ((aO K pm s g).star (xS M (ps++ [s.proc p]))) y->rest M y):
 ah none (some (K.p p)) λp3=>
 aN none al k (Addr.add p3 14) λx4=>
 bt prog Rd [(.pointer x4)] aw (af .i64) (λr r1 C=>
 ah none (some pm) λp4=>
 aN none aw C (Addr.add p4 10) λG=>
 ah none (some (K.p p)) λp5=>
 aN none (af .i64) C (Addr.add p5 1) λP=>
 ((bI G.base G.len P)/\aN none al C (sat G.base 1 P) λA=>
 ah none A λp6=>
 aN none al C (Addr.add p6 6) λx8=>
 ae prog Ae [(.int .i64 (p:Int))] (af .i64) (λr2 i=>
 (((aZ i (Addr.add p4 10) [G.v])/\((aZ i (Addr.add p5 1) [(.int .i64 P)])/\((aZ i (sat G.base 1 P) [(.pointer A)])/\((aZ i (Addr.add p6 6) [(.pointer x8)])/\True))))/\bt prog Hu [(.pointer x8),(.int .i64 r2)] (af .i64) bH (λr3 r4 D=>
 ah none (some pm) λp7=>
 aN none aw D (Addr.add p7 10) λH=>
 ah none (some (K.p p)) λp8=>
 aN none (af .i64) D (Addr.add p8 1) λO=>
 ((bI H.base H.len O)/\aN none al D (sat H.base 1 O) λa8=>
 ah none a8 λp9=>
 aN none al D (Addr.add p9 6) λa9=>
 ae prog Bb [(.int .i64 (p:Int))] (af .i64) (λr5 E=>
 (((aZ E (Addr.add p7 10) [H.v])/\((aZ E (Addr.add p8 1) [(.int .i64 O)])/\((aZ E (sat H.base 1 O) [(.pointer a8)])/\((aZ E (Addr.add p9 6) [(.pointer a9)])/\True))))/\bt prog Hu [(.pointer a9),(.int .i64 r5)] (af .i64) bH (λr6 r7 w=>
 ah none (some (K.p p)) λb5=>
 aN none (af .i64) w (Addr.add b5 3) λc1=>
 ah none (some (K.p p)) λb6=>
 aN none (af .i64) w (Addr.add (Addr.add b6 4) 0) λc2=>
 ah none (some (K.p p)) λb7=>
 aN none Af w (Addr.add (Addr.add b7 4) 1) λf=>
 ah none (some (K.p p)) λb8=>
 aN none bH w (Addr.add b8 13) λc3=>
 bc [(.int .i64 c1),(.int .i64 c2),(.int .i64 f.a0),(.int .i64 f.a1),(.int .i64 f.a2),(.int .i64 f.a3),(.int .i64 f.a4),(.int .i64 f.a5),(.int .i64 f.a6),(.int .i64 f.a7),(.int .i64 r1),(.int .i64 r3),(.bool c3),(.int .i64 r6),r.v] (λa h8=>
 ((True/\True)/\eC 15 136 [(.int .i64 (0:Int)),(.int .i64 (0:Int)),(.int .i64 (0:Int)),(.int .i64 (0:Int)),(.int .i64 (0:Int)),(.int .i64 (0:Int)),(.int .i64 (0:Int)),(.int .i64 (0:Int)),(.int .i64 (0:Int)),(.int .i64 (0:Int)),(.int .i64 (0:Int)),(.int .i64 (0:Int)),(.bool false),(.int .i64 (0:Int)),(.slice none 0 0)] ⟨Ps.base,Ps.len,Ps.cap⟩ ⟨(some a),1,1⟩ (λr8 h9=>
 rest r8 h9) h8)) w) E)) D)) i)) C)) k:=by
  have J:aG K.c p<nP K.c:=R.fP;have c6:=R.procs;have c5:=R.parts;have sp:=sa.proc p hp;have c4:=sp.len;obtain ⟨Y,lA,oM,_,hO⟩:=o.fst;obtain ⟨h1,z,a,l1,hz,oz,oq,put⟩:=oM.pY hp;have b0:z.post=some a:=hz.2.2.2.2.2.2;refine aJ (oz.ld (shf:=al) z.post rfl ?_);rw [b0];refine TO (VO oq ⟨by omega,λl Z=>⟨(sp.dP l Z).waiters,by have:=(sp.dP l Z).values;omega⟩⟩ λT k2 o2=> ?_);have o3:Has Y ((aO K pm s g).star (xL T (s.proc p).ak)) k2:=o2.carry λy S=>by
   have i:=put _ _ y S;have e:s.ba p {s.proc p with ak:=(s.proc p).ak,ai:=(s.proc p).ai}=s:=PM
   rwa [e] at i
  obtain ⟨hB,lB,j,_,_⟩:=o3.fst;have mB:=m.mono (Hp.le_trans lA lB);obtain ⟨h2,d,a2,l2,L,u,_⟩:=j.dX hp;obtain ⟨X,I⟩:=mB.wF j J;obtain ⟨w,A,c8,c0,l7,b3,N,ow,_⟩:=j.jY J;have W:A.eM=some c0:=b3.2.2.2.2.2;have V:d.part=(aG K.c p:Int):=L.2.1;refine aJ (j.fu.ld (shf:=aw) K.x.parts rfl ?_);refine aJ (u.ld (shf:=af .i64) d.part rfl ?_);have Q:=u.fG (off:=1) (n:=1) (vs:=[.int .i64 d.part]) rfl;rw [V] at Q ⊢;refine ⟨X,some (K.q (aG K.c p)),I,?_⟩;refine aJ (N.ld (shf:=al) A.eM rfl ?_);refine Mo (BJ (by omega) ?_);refine ⟨⟨j.fu.fG (n:=1) rfl,Q,I,N.fG (n:=1) rfl,trivial⟩,?_⟩;rw [W];refine zsl (Le ow λb1=> ?_);refine aJ (j.fu.ld (shf:=aw) K.x.parts rfl ?_);refine aJ (u.ld (shf:=af .i64) d.part rfl ?_);rw [V];refine ⟨X,some (K.q (aG K.c p)),I,?_⟩;refine aJ (N.ld (shf:=al) A.eM rfl ?_);refine Mq (BK (by omega) ?_);refine ⟨⟨j.fu.fG (n:=1) rfl,Q,I,N.fG (n:=1) rfl,trivial⟩,?_⟩;rw [W];refine zsl (Le ow λb2=> ?_);rw [td _ _ J,td _ _ J,ac4 hp,adU hp];refine aJ (u.ld (shf:=af .i64) d.state rfl (aJ ?_));rw [vV];refine u.ld (shf:=af .i64) d.kO rfl (aJ ?_);rw [vV];refine u.ld (shf:=Af) (rowOf (fb d)) rfl (aJ ?_);refine u.ld (shf:=bH) d.bB rfl ?_;have U:hH (fb d)=(s.proc p).core:=L.2.2.2.2.1;have b4:Has Y ((aO K pm s g).star (kC fY (⟨d.state,d.kO,d.gF,d.gG,d.gH,d.gI,d.gJ,d.gK,d.gL,d.gM,(s.proc p).ai,(s.proc p).timer,d.bB,(s.proc p).bP,T⟩:aK) (s.proc p))) k2:=by refine o3.map λkk F hF=> ?_;refine HK (λ_ h=>h) (λF' h=> ?_) hF;obtain ⟨B,r,nd,e⟩:=h;exact ⟨B,⟨r,L.2.2.2.1,congrArg Core.pc U,congrArg Core.aP U,rfl,rfl,L.2.2.2.2.2.1,rfl⟩,nd,e⟩
  have oF:=(hO _ _ b4).assoc;obtain ⟨hD,lD,oD,_,b9⟩:=oF.snd;have key:=oD.comm.row (cs:=[(.int .i64 d.state),(.int .i64 d.kO),(.int .i64 d.gF),(.int .i64 d.gG),(.int .i64 d.gH),(.int .i64 d.gI),(.int .i64 d.gJ),(.int .i64 d.gK),(.int .i64 d.gL),(.int .i64 d.gM),(.int .i64 (s.proc p).ai),(.int .i64 (s.proc p).timer),(.bool d.bB),(.int .i64 (s.proc p).bP),T.v]) (zero:=[(.int .i64 (0:Int)),(.int .i64 (0:Int)),(.int .i64 (0:Int)),(.int .i64 (0:Int)),(.int .i64 (0:Int)),(.int .i64 (0:Int)),(.int .i64 (0:Int)),(.int .i64 (0:Int)),(.int .i64 (0:Int)),(.int .i64 (0:Int)),(.int .i64 (0:Int)),(.int .i64 (0:Int)),(.bool false),(.int .i64 (0:Int)),(.slice none 0 0)]) (bytes:=136) rfl (λ_=>rfl) (λ_=>rfl) rfl ⟨by omega,by omega⟩ (K:=rest) λM y S=>hk M y (b9 _ _ S);exact λb t hb=>⟨⟨trivial,trivial⟩,key b t hb⟩
end
section
variable {h0 h1 k:Hp} {K:MK} {pm:Addr} {s:MS} {g:Nat->Nat->Int}
theorem OP {a:Type} {f:Nat->a} {t:Int} (h:0<=t):(List.range (t+1).toNat).map f=(List.range t.toNat).map f++ [f t.toNat]:=by rw [show (t+1).toNat=t.toNat+1 by omega,List.range_succ,List.map_append];rfl
theorem PU {Q:aH->Hp->Prop} (m:eh h0 K) (v:cP K.c) (o:Has h0 (aO K pm s g) k) (P:kN K.c s) (td:fS K.c g s)
  (W:∀r f,Has h0 ((aO K pm s g).star (kC nu r (s.list K.c))) f->Q r f):LP prog (some pm) Q k:=by
 unfold LP;have b5:=v.procs;have b3:=v.parts;have b4:=m.tK;have b6:=m.pZ;refine aJ (o.fu.ld (shf:=af .i64) s.tick rfl ?_);refine aJ (o.fu.ld (shf:=aw) K.x.parts rfl ?_);have b0:Has k (Au (⟨none,0,0⟩:Sl) ([]:List cJ)) k:=Has.pP (okQ:=kU) (Hp.le_refl _);refine bL.intro (λ(t:Int) (st:aH) f=>0<=t/\t<=(nP K.c:Int)/\st.eZ=s.tick/\st.aD=⟨none,0,0⟩/\Has h0 ((aO K pm s g).star (Au st.cS ((List.range t.toNat).map s.part))) f) (λt _ _=>(nP K.c-t).toNat) ⟨by omega,by omega,rfl,rfl,by simpa using o.beside b0⟩ ?_;rintro t st M ⟨t0,t1,I,G,w⟩;by_cases h:t<(nP K.c:Int)
 ·rw [if_pos (iW)];have n:t.toNat<nP K.c:=by omega
  have z:((t.toNat:Nat):Int)=t:=by omega
  obtain ⟨i,l⟩:=m.wF (Has.left w) n;rw [z] at i l;refine ⟨i,some (K.q t.toNat),l,?_⟩;refine ac3 (Ps:=st.cS) (ps:=(List.range t.toNat).map s.part) v w P n (by rw [List.length_map,List.length_range];omega) λZ f A=> ?_;rw [aV];refine ⟨⟨by omega,by omega,I,G,?_⟩,by omega⟩;rw [OP t0];exact A
 ·rw [if_neg (λe=>h (by have:=of_decide_eq_true e;omega))];have z:t.toNat=nP K.c:=by omega
  rw [z] at w;obtain ⟨L,lA,O,hP,b2⟩:=w.fst;have N:=m.mono lA;refine aJ (O.fu.ld (shf:=aw) K.x.procs rfl ?_);have b1:Has M (xS (⟨none,0,0⟩:Sl) ([]:List aj)) M:=Has.pP (okQ:=fY) (Hp.le_refl _);refine bL.intro (λ(j:Int) (s1:aH) f=>0<=j/\j<=(nQ K.c:Int)/\s1.eZ=s.tick/\s1.cS=st.cS/\Has L ((aO K pm s g).star (xS s1.aD ((List.range j.toNat).map s.proc))) f) (λj _ _=>(nQ K.c-j).toNat) ⟨by omega,by omega,I,rfl,by rw [G];simpa using O.beside b1⟩ ?_;rintro j s1 Y ⟨X,j1,J,H,y⟩;by_cases V:j<(nQ K.c:Int)
  ·rw [if_pos (iW)];have n:j.toNat<nQ K.c:=by omega
   have u:((j.toNat:Nat):Int)=j:=by omega
   obtain ⟨i,l⟩:=N.ptr (Has.left y) n;rw [u] at i l;refine ⟨i,some (K.p j.toNat),l,?_⟩;have key:=ac5 (Ps:=s1.aD) (ps:=(List.range j.toNat).map s.proc) (rest:=λr8 R=>(0<=yw (j+1)/\yw (j+1)<=(nQ K.c:Int)/\s1.eZ=s.tick/\s1.cS=st.cS/\Has L ((aO K pm s g).star (xS r8 ((List.range (yw (j+1)).toNat).map s.proc))) R)/\(nQ K.c-yw (j+1)).toNat<(nQ K.c-j).toNat) N v y P td n (by rw [List.length_map,List.length_range];omega) λZ f A=>by rw [aV];refine ⟨⟨by omega,by omega,J,H,?_⟩,by omega⟩;rw [OP X];exact A
   rw [u] at key;exact key
  ·rw [if_neg (λe=>V (by have:=of_decide_eq_true e;omega))];have u:j.toNat=nQ K.c:=by omega
   rw [u] at y;refine W s1 Y ?_;have o3:=(b2 _ _ y).assoc;refine o3.map λkk F S=> ?_;refine HK (λ_ h=>h) (λF' h=> ?_) S;obtain ⟨F1,F2,e,d,⟨C,r2,a9,E⟩,⟨B,r1,a8,D⟩⟩:=h;refine ⟨B++C,⟨B,C,rfl,by rw [H];exact r1,r2,J⟩,?_,λb=> ?_⟩
   ·rw [List.nodup_append];exact ⟨a8,a9,λa T b hb U=>by subst U;exact d a ((E a).2 hb) ((D a).2 T)⟩
   ·rw [e b,D b,E b,List.mem_append];exact ⟨λh=>h.symm,λh=>h.symm⟩
end
theorem AG {b c:Type} {R:b->c->Hp->List Nat->Prop} (ok:gA R):gA (qy R):=⟨λo a=>qy.same ok o a,λo=>qy.known ok o⟩
abbrev eQ :bR->List Value:=λx=>bA (bT.enc x)
section
variable {α:Type} {h:Hp} {sz:Nat} {enc:α->List Value} {l:Sl} {xs:List α}
theorem Y2 {b o:Nat} {i:Int}:sat (some ⟨b,o,none⟩) sz i=⟨b,o+i.toNat*sz,none⟩:=by unfold sat;rw [Option.getD_some,kE]
theorem dF.Sm {F:List Nat} (o:dF h sz enc l xs F) (e:∀x,(enc x).length=sz) {i:Nat} {x d:α} (q:xs[i]? =some x) {off:Nat} {new:List Value} (M:off+new.length<=sz) (z:enc d=(enc x).take off++new++(enc x).drop (off+new.length))
  {K:Hp->Prop} (w:∀c,dF c sz enc l (xs.set i d) F->Mv F h F c->K c):cX h ((sat l.base sz (i:Int)).add off) new K:=by
 have g:i<xs.length:=by grind
 obtain ⟨D,r,E⟩:=o;rcases E with ⟨_,H,_⟩ | ⟨b,a,j,rfl,B,u,f⟩
 ·omega
 ·rw [j,Y2,kE,show ((i:Int)).toNat=i from rfl,Nat.zero_add];have J:i*sz+sz<=l.len*sz:=by have:=Nat.mul_le_mul_right sz (show i+1<=l.len by omega);grind
  have L:l.len*sz<=l.cap*sz:=Nat.mul_le_mul_right sz r;refine qQ B (by rw [u];omega) λc C A=> ?_;refine w c ⟨by simp [D],r,.inr ⟨b,_,j,rfl,A,?_,?_⟩⟩ C
  ·grind
  ·have t1:a.take (i*sz)=(xs.take i).flatMap enc:=by rw [C5 e,<-f,List.take_take];congr 1;omega
   have t2:(a.drop (i*sz+sz)).take (l.len*sz-(i*sz+sz))=(xs.drop (i+1)).flatMap enc:=by rw [BU e,<-f,Nat.add_mul,Nat.one_mul,List.drop_take]
   have G:(a.drop (i*sz)).take sz=enc x:=by
    have k:(xs.drop i).flatMap enc=enc x++(xs.drop (i+1)).flatMap enc:=by rw [List.drop_eq_getElem_cons g,List.flatMap_cons];rw [List.getElem?_eq_getElem g] at q;rw [Option.some.inj q]
    have v:(xs.drop i).flatMap enc=(a.drop (i*sz)).take (l.len*sz-i*sz):=by rw [BU e,<-f,List.drop_take]
    rw [v] at k;have I:=congrArg (List.take sz) k;grind
   have m:a=a.take (i*sz)++(enc x++a.drop (i*sz+sz)):=by rw [<-G,<-List.drop_drop,List.take_append_drop,List.take_append_drop]
   have n:(a.take (i*sz)).length=i*sz:=by rw [List.length_take];omega
   have p:(enc x).length=sz:=e x;have s:a.take (i*sz+off)=a.take (i*sz)++(enc x).take off:=by
    conv=>lhs;rw [m]
    rw [List.take_append,n,List.take_of_length_le (by omega),List.take_append,p,show i*sz+off-i*sz=off by omega,show off-sz=0 by omega,List.take_zero,List.append_nil]
   have t:a.drop (i*sz+off+new.length)=(enc x).drop (off+new.length)++a.drop (i*sz+sz):=by
    conv=>lhs;rw [m]
    rw [List.drop_append,n,List.drop_eq_nil_of_le (by omega),List.nil_append,List.drop_append,p,show i*sz+off+new.length-i*sz=off+new.length by omega,show off+new.length-sz=0 by omega,List.drop_zero]
   rw [s,t,show a.take (i*sz)++(enc x).take off++new++((enc x).drop (off+new.length)++a.drop (i*sz+sz))=(a.take (i*sz)++enc d)++a.drop (i*sz+sz) by rw [z];simp];rw [FE d g];have y:(a.take (i*sz)++enc d).length=i*sz+sz:=by grind
   rw [List.take_append,y,t2,List.take_of_length_le (by omega),t1];simp
end
section
variable {h0 k:Hp}
theorem Has.AI {d:Type} {sz:Nat} {enc:d->List Value} {l:Sl} {c:List d} (o:Has h0 (gB sz enc l c) k) (n:∀x,(enc x).length=sz) {i:Nat} {x x':d} (u:c[i]? =some x) {off:Nat} {new:List Value} (t:off+new.length<=sz) (s:enc x'=(enc x).take off++new++(enc x).drop (off+new.length))
  {K:Hp->Prop} (q:∀a,Has h0 (gB sz enc l (c.set i x')) a->K a):cX k ((sat l.base sz (i:Int)).add off) new K:=by
 obtain ⟨r,F,⟨B,h,e⟩,p⟩:=o;refine h.Sm n u t s λa j m=>q a ⟨λb f g=>m.bO b f (r b f g) λhb=> ?_,F,⟨B,j,e⟩,p⟩;grind
theorem Has.pT {b:Type} {sz:Nat} {enc:b->List Value} {l:Sl} {a:List b} (o:Has h0 (gB sz enc l a) k) (c:∀x,(enc x).length=sz):Rw k sz enc l a:=by obtain ⟨f,F,⟨B,h,e⟩,d⟩:=o;exact h.rw c
theorem Has.rowsOf {m:Type} {sh:Shape} {sz:Nat} {Q:sh.T->m->Hp->List Nat->Prop} {okQ:gA Q} {l:Sl} {c:List sh.T} {j:List m} (o:Has h0 ((gB sz (λx=>bA (sh.enc x)) l c).star (kC (AG okQ) c j)) k):Has h0 (kC (bh.ok (sh:=sh) (sz:=sz) okQ) l j) k:=by
 refine o.map λw F h=> ?_;obtain ⟨u,v,e,d,⟨f,i,n⟩,⟨g,t,s,p⟩⟩:=h;refine ⟨f++g,⟨c,f,g,rfl,i,t⟩,?_,λb=> ?_⟩
 ·rw [List.nodup_append];exact ⟨i.nodup,s,λa q b hb r=>by subst r;exact d a ((n a).2 q) ((p a).2 hb)⟩
 grind
theorem PV {x:an} {c:aL} {Q:an->Hp->Prop} (a:eT k x c) (hl:c.labels.length<=1000) (ht:c.table.length<=1000) (hp:c.procs.length<=1000) (hc:∀y∈c.procs,y.code.length<=1000)
  (hq:∀r m,Has k ((kC uS r.aQ c.labels).star ((kC ft r.Table c.table).star (kC mi r.aD c.procs))) m->r.Fuel=c.fuel->r.fD=c.lane->r.bE=c.ag->r.Log=c.log->Q r m):zrv prog x Q k:=by
 unfold zrv;refine zgj ?_;unfold QL;refine Aj (enc:=λx:Int=>bA ((af .u64).enc x)) (cD.cH 22 AM rfl) a.labels (by decide) (λ_=>rfl) (λ_=>rfl) rfl ⟨by omega,by omega⟩ λll L l1 n1=> ?_;refine ⟨⟨trivial,trivial,trivial⟩,?_⟩;have a1:=a.mono l1;refine QO ?_;unfold Hq;refine Aj (enc:=λx:Int=>bA ((af .i64).enc x)) (cD.cH 23 uX rfl) a1.table (by decide) (λ_=>rfl) (λ_=>rfl) rfl ⟨by omega,by omega⟩ λlt w l2 n2=> ?_;refine ⟨⟨trivial,trivial⟩,?_⟩;have a2:=a1.mono l2;obtain ⟨g,b3,G⟩:=a2.procs;have b2:g.length=c.procs.length:=G.len;refine znl ?_;unfold zga;refine Aj (enc:=eQ) (cD.cH 24 DJ rfl) b3 (by decide) (λ_=>rfl) (λ_=>rfl) rfl ⟨by omega,by omega⟩ λlp M l3 N=> ?_;have b9:=(N.pT (λ_=>rfl)).1;have nil:Has M (kC (AG xj) ([]:List bR) ([]:List fI)) M:=Has.uR (B:=[]) (Hp.le_refl _) rfl .nil λ_ h=>by cases h
 refine aB.intro (λ(t:Int) m=>0<=t/\t<=(g.length:Int)/\∃j:List bR,j.length=t.toNat/\Has w ((gB 2 eQ lp (j++g.drop t.toNat)).star (kC (AG xj) j (c.procs.take t.toNat))) m) (λt _=>(g.length-t).toNat) ⟨by omega,by omega,[],rfl,by simpa using N.beside nil⟩ ?_;rintro t m ⟨S,t1,j,D,o⟩;by_cases h:t<(g.length:Int)
 ·rw [if_pos (iW)];have H:t.toNat<g.length:=by omega
  have b7:((t.toNat:Nat):Int)=t:=by omega
  obtain ⟨h5,l5,oO,_,gP⟩:=o.fst;have s:(j++g.drop t.toNat)[t.toNat]? =some g[t.toNat]:=by grind
  obtain ⟨pc,b1,C,u,I,a9⟩:=G.get (i:=t.toNat) (List.getElem?_eq_getElem H);generalize g[t.toNat]=y at s I C;have b8:u.length<=1000:=by grind
  refine Rs.get (sh:=bT) (oO.pT (λ_=>rfl)) (λ_=>rfl) (by omega) S (by rw [List.length_append,List.length_drop];omega) λ(y':bR) J=> ?_;rw [s] at J;cases J;refine zpd ?_;unfold zgt;refine Aj (enc:=λx=>bA (aT.enc x)) (cD.cH 75 DL rfl) (Rw.mono o.le I) (by decide) (λ_=>rfl) (λ_=>rfl) rfl ⟨by omega,by omega⟩ λn k6 l6 n6=> ?_;have X:∀l:List aS,dR (λx p=>bu x=p) l (l.map bu):=λl=>by
   induction l with
   | nil=>trivial
   | cons a r ih=>exact ⟨rfl,ih⟩
  have z:Has m (kC ns n pc.code) k6:=by rw [<-a9];obtain ⟨b0,F,⟨B,E,e⟩,hf⟩:=n6;exact Has.uR b0 ⟨u,B,[],by simp,E,Gh (X u)⟩ E.nodup λb hb=>hf b ((e b).2 hb)
  have oA:=(o.beside z).assoc;obtain ⟨h7,l7,P,_,b6⟩:=oA.fst;have Z:=(Rs.get (sh:=bT) (K:=λ_=>True) (P.pT (λ_=>rfl)) (λ_=>rfl) (by omega) S (by rw [List.length_append,List.length_drop];omega) λ_ _=>trivial).1;refine ⟨⟨trivial,trivial⟩,Z,?_⟩;have key:=P.AI (i:=t.toNat) (x':=(⟨y.Part,n⟩:bR)) (off:=1) (new:=[n.v]) (λ_=>rfl) s (by simp) rfl
   (K:=λW=>(0<=yw (t+1)/\yw (t+1)<=(g.length:Int)/\∃j:List bR,j.length=(yw (t+1)).toNat/\Has w ((gB 2 eQ lp (j++g.drop (yw (t+1)).toNat)).star (kC (AG xj) j (c.procs.take (yw (t+1)).toNat))) W)/\(g.length-yw (t+1)).toNat<(g.length-t).toNat) λk8 O=> ?_
  ·grind
  ·rw [aV];refine ⟨⟨by omega,by omega,j++ [⟨y.Part,n⟩],by rw [List.length_append,D,List.length_singleton];omega,?_⟩,by omega⟩;have q:(t+1).toNat=t.toNat+1:=by omega
   have U:(j++g.drop t.toNat).set t.toNat (⟨y.Part,n⟩:bR)=(j++ [⟨y.Part,n⟩])++g.drop (t.toNat+1):=by rw [List.set_append_right _ _ (by omega),D,Nat.sub_self,List.drop_eq_getElem_cons H,List.set_cons_zero,List.append_assoc];rfl
   rw [U] at O;have V:c.procs.take (t.toNat+1)=c.procs.take t.toNat++ [pc]:=by rw [List.take_add_one,b1];rfl
   rw [q,V];refine (b6 _ _ O).map λkk F Y=>HK (λ_ h=>h) (λF' h=> ?_) Y;obtain ⟨F1,F2,e,d,⟨T,r1,b4,f1⟩,⟨A,r2,b5,f2⟩⟩:=h;refine ⟨T++A,qy.snoc (R:=rf) (a:=(⟨y.Part,n⟩:bR)) (b:=pc) (B':=A) ⟨C,r2⟩ r1,?_,λb=> ?_⟩
   ·rw [List.nodup_append];exact ⟨b4,b5,λa ha b hb a8=>by subst a8;exact d a ((f1 a).2 ha) ((f2 a).2 hb)⟩
   grind
 ·rw [if_neg (λe=>h (by grind))];have q:t.toNat=g.length:=by omega
  rw [q,List.drop_length,List.append_nil,b2,List.take_length] at o;have o1:=o.rowsOf (sh:=bT) (okQ:=xj);have oU:Has k (kC uS ll c.labels) L:=n1.kq (f:=λx=>x) (λ_=>rfl) λ_=>rfl;have z:Has L (kC ft lt c.table) w:=n2.kq (f:=λx=>x) (λ_=>rfl) λ_=>rfl;exact hq _ m ((oU.beside z).beside o1).assoc a.fuel a.lane a.ag a.log
end
section
variable {h0 k:Hp} {K:MK} {pm:Addr} {s:MS} {f:Nat->Nat->Int}
theorem CD {r:an} {c:aL} (o:Has h0 ((kC uS r.aQ c.labels).star ((kC ft r.Table c.table).star (kC mi r.aD c.procs))) k) (q:r.Fuel=c.fuel) (t:r.fD=c.lane) (u:r.bE=c.ag) (v:r.Log=c.log):Has h0 (kC fp r c) k:=by
 refine o.map λG F h=> ?_;obtain ⟨B,C,e,d,⟨l,z,w,f1⟩,⟨D,E,i,p,⟨m,r2,x,f2⟩,⟨n,A,y,f3⟩⟩⟩:=h;refine ⟨l++(m++n),⟨l,m,n,rfl,z,r2,A,q,t,u,v⟩,?_,λb=> ?_⟩
 ·rw [List.nodup_append,List.nodup_append];refine ⟨w,⟨x,y,λa g b hb j=> ?_⟩,λa g b hb j=> ?_⟩
  ·subst j;exact p a ((f2 a).2 g) ((f3 a).2 hb)
  ·subst j;rcases List.mem_append.1 hb with hb | hb
   ·exact d a ((f1 a).2 g) ((i a).2 (.inl ((f2 a).2 hb)))
   ·exact d a ((f1 a).2 g) ((i a).2 (.inr ((f3 a).2 hb)))
 ·rw [e b,i b,f1 b,f2 b,f3 b,List.mem_append,List.mem_append]
theorem T0 {Q:an->Hp->Prop} (m:eh h0 K) (b:cP K.c) (o:Has h0 (aO K pm s f) k) (n:∀r a,Has h0 ((aO K pm s f).star (kC fp r K.c)) a->Q r a):QP prog (some pm) Q k:=by
 unfold QP;have i:=b.parts;have t:=b.table;have j:=b.procs;refine aJ (o.fu.ld (shf:=aA) (Dj K.x) rfl ?_);have l:K.c.labels.length<=1000:=by have:nP K.c<=8:=i.2;unfold nP at this;omega
 have hp:K.c.procs.length<=1000:=by have:nQ K.c<=32:=j.2;unfold nQ at this;omega
 refine zuh (PV (m.mono o.le).cfg l (by omega) hp (λy p=>by have:=(b.code y p).1;omega) λr a q d e g h=>n r a (o.beside (CD q d e g h)))
end
def nw :cJ:=⟨0,[],0,0,[],[]⟩
def rF :aj:=⟨0,0,[],0,0,false,0,[]⟩
def cI (t:aR):MS:=⟨t.tick,λi=>t.parts.getD i nw,λp=>t.procs.getD p rF⟩
theorem L8 {l:List Int} (h:∀z∈l,l.countP (λy=>decide (y=z))<=1):l.Nodup:=by
 induction l with
 | nil=>simp
 | cons a l d=>
  rw [List.nodup_cons];refine ⟨λb=> ?_,d λz e=> ?_⟩
  ·have c:=h a (List.mem_cons_self ..);rw [List.countP_cons] at c;have:0<l.countP (λy=>decide (y=a)):=List.countP_pos_iff.2 ⟨a,b,by simp⟩;simp at c;exact absurd b (by
    intro b;have:=c a b;exact this rfl)
  grind
theorem AQ {c:Type} {f:c->Nat} {l:List c} {a:c} (h:a∈l):f a<=(l.map f).sum:=by
 induction l with
 | nil=>cases h
 | cons b l d=>grind
theorem BL {b:Type} {f:b->Nat} {l:List b} (h:(l.map f).sum≠0):∃a∈l,f a≠0:=by refine Classical.byContradiction λc=>h ?_;rw [List.sum_eq_zero_iff_forall_eq_nat];grind
section
variable {c:aL} {fl:Nat->Nat->Bool} {t:aR}
theorem Br (hp:t.parts.length=nP c) (d:t.procs.length=nQ c):(cI t).list c=t:=by
 have a:(List.range (nP c)).map (cI t).part=t.parts:=by
  refine List.ext_getElem? λj=> ?_;rw [List.getElem?_map];by_cases h:j<nP c
  ·rw [List.getElem?_range h,List.getElem?_eq_getElem (by omega)];simp [cI,List.getD,List.getElem?_eq_getElem (show j<t.parts.length by omega)]
  grind
 have b:(List.range (nQ c)).map (cI t).proc=t.procs:=by
  refine List.ext_getElem? λj=> ?_;rw [List.getElem?_map];by_cases h:j<nQ c
  ·rw [List.getElem?_range h,List.getElem?_eq_getElem (by omega)];simp [cI,List.getD,List.getElem?_eq_getElem (show j<t.procs.length by omega)]
  grind
 unfold MS.list;rw [a,b];rfl
theorem LA (m:cP c) {i:Nat} {st:aR}:∀ {l:List qS} {last:Int},sW c st i last l->l.Pairwise (λa b=>a.tick<=b.tick)/\∀e∈l,last<=e.tick/\e.tick<st.tick/\0<=e.proc/\e.proc.toNat<nQ c/\aG c e.proc.toNat=i
 | [],_,_=>⟨List.Pairwise.nil,λe h=>by cases h⟩
 | e::r,last,h=>by
  obtain ⟨f,g,j,k⟩:=h;obtain ⟨a,b⟩:=LA m k;refine ⟨List.pairwise_cons.2 ⟨λd he'=>(b d he').1,a⟩,λd he'=> ?_⟩;rcases List.mem_cons.1 he' with rfl | he'
  ·exact ⟨f,g,(xD m).1 j⟩
  grind
theorem G9 (m:cP c) (h:wg c t λi y=>fl i y.toNat=true) (hr:∀x∈t.procs,x.aP.length=8):Good c fl (cI t) No No t.tick:=by
 obtain ⟨⟨hT,hp,hq⟩,hP,hQ,b6,b7,b5⟩:=h;have d2:=Br (c:=c) (t:=t) hp hq;have I:∀ {i},i<nP c->t.parts[i]? =some ((cI t).part i):=λ{i} d=>by have:=PT (c:=c) (s:=cI t) d;grind
 have g:∀ {i},i<nQ c->t.procs[i]? =some ((cI t).proc i):=λ{i} d=>by have:=Bq (c:=c) (s:=cI t) d;grind
 have c6:∀ {p:Int} {q:aj->Prop},Iy t p q->p.toNat<nQ c->q ((cI t).proc p.toNat):=λ{p q} h hp=>by obtain ⟨x,B,H⟩:=h;grind
 have b0:∀ {p:Int} {q:aj->df->Prop},HZ c t p q->p.toNat<nQ c->∃n,eo c p.toNat ((cI t).proc p.toNat)=some n/\q ((cI t).proc p.toNat) n:=λ{p q} h hp=>by obtain ⟨x,y,n,B,H,S,e4⟩:=h;rw [g hp] at B;cases B;obtain ⟨y',f1,f2,f3⟩:=xB m hp;rw [H] at f1;cases f1;exact ⟨n,by rw [<-zv f3];exact S,e4⟩
 have c8:∀p,p<nQ c->∀j,j<nQ c->∀(i:Nat) l,((cI t).proc j).ak[i]? =some l->∀w∈l.waiters,w.proc=(p:Int)->((cI t).proc p).state=2:=λp hp j u i l L w G e=>by obtain ⟨y,f1,f2,f3⟩:=xB m u;have O:=(b7 j _ y (g u) f1 i l L w G).2.2.2.2;obtain ⟨n,_,E,_⟩:=b0 O (by omega);rw [e,Int.toNat_natCast] at E;exact E
 have c7:∀p,p<nQ c->∀j,j<nP c->∀q∈((cI t).part j).au,(p:Int)∈q->((cI t).proc p).state=3:=λp hp j u q X M=>by
  obtain ⟨k,hk,K⟩:=List.getElem_of_mem X;have W:((cI t).part j).au[k]? =some q:=by grind
  obtain ⟨n,_,E,_⟩:=b0 (b6 j _ (I u) k q W _ M).2.1 (by omega);rw [Int.toNat_natCast] at E;exact E
 refine ⟨hT.1,λi d=> ?_,λp F=> ?_,λi d k o ho=> ?_,λi d k q c5=> ?_,λr b8 i l L=> ?_,λp F _ N=> ?_,λp F _ h2=> ?_⟩
 ·obtain ⟨⟨a1,a2,a3⟩,a4,a5,a6,a7,Y,a9,_⟩:=hP i _ (I d);obtain ⟨Q,R⟩:=LA m a4;exact ⟨⟨a1,by rw [M5 m] at a2;exact a2⟩,a3,⟨Q,R⟩,a5,a6,a7,Y,a9⟩
 ·obtain ⟨y,f1,f2,f3⟩:=xB m F;obtain ⟨a1,a2,a3,a4,a5,a6,a7,Y,a9,Q,R,b3,b4⟩:=hQ p _ y (g F) f1;rw [zv f3] at Q R b3 b4;rw [f3] at a2;refine ⟨a1,a2,a3,a4,a5,a6,.inr a7,λh=>⟨.inr (Y h).1,(Y h).2⟩,λi l L=> ?_,Q,R,b3,b4,hr _ (List.mem_of_getElem? (g F))⟩;obtain ⟨C,b,D,c4⟩:=a9 i l L;refine ⟨C,b,D,λhu d=> ?_⟩;have:=c4 hu d;rw [f2] at this;have this:fl i ((aG c p:Nat):Int).toNat=true:=this
  rwa [Int.toNat_natCast] at this
 ·by_cases e:o= -1
  ·exact .inl e
  ·obtain ⟨Q,R⟩:=(hP i _ (I d)).2.2.2.2.2.2.2 o (List.mem_of_getElem? ho) e;obtain ⟨C,b,D⟩:=(xD m).1 Q;exact .inr ⟨C,b,D,.inl (dH.2 (c6 R b))⟩
 ·have J:=b6 i _ (I d) k q c5;refine ⟨L8 λz U=> ?_,λz U=> ?_,λd0=> ?_⟩
  ·obtain ⟨C,b,D⟩:=(xD m).1 (J z U).1;have N:=b5 z.toNat _ (g b);rw [show ((z.toNat:Nat):Int)=z by omega] at N;have T:q.countP (λy=>decide (y=z))<=j5 z ((cI t).part i):=AQ (f:=λq:List Int=>q.countP (λy=>decide (y=z))) (List.mem_of_getElem? c5);have O:j5 z ((cI t).part i)<=(t.parts.map (j5 z)).sum:=AQ (List.mem_of_getElem? (I d));split at N<;>omega
  ·obtain ⟨C,b,D⟩:=(xD m).1 (J z U).1;obtain ⟨n,B,H,S⟩:=b0 (J z U).2.1 b;obtain ⟨y,f1,f2,f3⟩:=xB m b;have O:=(hQ z.toNat _ y (g b) f1).2.2.2.2.2.2.2.2.2.2.2.1 H;obtain ⟨n',Z,g2⟩:=O;rw [zv f3,B] at Z;cases Z;exact ⟨C,b,D,λh=>h,.inr ⟨H,n,B,g2,S⟩⟩
  ·cases q with
   | nil=>grind
   | cons a r=>obtain ⟨o,B,H,S⟩:=(J a (List.mem_cons_self ..)).2.2;refine ⟨o,B,by omega,λM=> ?_⟩;grind
 ·obtain ⟨y,f1,f2,f3⟩:=xB m b8;have J:=b7 r _ y (g b8) f1 i l L;refine ⟨L8 λz U=> ?_,λd0=> ?_,λw G=> ?_⟩
  ·obtain ⟨w,G,rfl⟩:=List.mem_map.1 U;obtain ⟨C,b,D⟩:=(xD m).1 (J w G).2.1;have N:=b5 w.proc.toNat _ (g b);rw [show ((w.proc.toNat:Nat):Int)=w.proc by omega] at N;have T:qC w.proc l<=j4 w.proc ((cI t).proc r):=AQ (List.mem_of_getElem? L);have O:j4 w.proc ((cI t).proc r)<=(t.procs.map (j4 w.proc)).sum:=AQ (List.mem_of_getElem? (g b8));rw [zw] at T;split at N<;>omega
  ·cases d3:l.waiters with
   | nil=>grind
   | cons a ws=>obtain ⟨B,_,S,e4,_⟩:=J a (by grind);exact ⟨by omega,.inl (dH.2 S),e4⟩
  ·obtain ⟨B,H,_,_,e5⟩:=J w G;obtain ⟨C,b,D⟩:=(xD m).1 H;obtain ⟨n,Z,g2,g3,g4,g5⟩:=b0 e5 b;exact ⟨C,b,D,λh=>h,.inr ⟨g2,n,Z,g3,by simp [fQ,List.getD,g4],by simp [fQ,List.getD,g5]⟩⟩
 ·have T:=b5 p _ (g F);rw [if_pos (.inl N)] at T;have O:(t.procs.map (j4 (p:Int))).sum=0:=by
   rw [List.sum_eq_zero_iff_forall_eq_nat];intro y hy;obtain ⟨x,P,rfl⟩:=List.mem_map.1 hy;obtain ⟨j,u,K⟩:=List.getElem_of_mem P;have v:j<nQ c:=by have:t.procs.length=nQ c:=hq;omega
   have e:x=(cI t).proc j:=by have A:=g v;rw [List.getElem?_eq_getElem u,K] at A;exact Option.some.inj A
   subst e;refine FL λl L w G ew=> ?_;obtain ⟨i,d,V⟩:=List.getElem_of_mem L;have:=c8 p F j v i l (by rw [List.getElem?_eq_getElem d,V]) w G ew;omega
  have E:(t.parts.map (j5 (p:Int))).sum≠0:=by omega
  obtain ⟨x,P,b9⟩:=BL E;obtain ⟨j,u,K⟩:=List.getElem_of_mem P;have v:j<nP c:=by have:t.parts.length=nP c:=hp;omega
  have e:x=(cI t).part j:=by have A:=I v;rw [List.getElem?_eq_getElem u,K] at A;exact Option.some.inj A
  subst e;obtain ⟨q,X,d1⟩:=BL b9;obtain ⟨k,hk,V⟩:=List.getElem_of_mem X;have W:((cI t).part j).au[k]? =some q:=by rw [List.getElem?_eq_getElem hk,V]
  have M:(p:Int)∈q:=Classical.byContradiction λhn=>d1 (HF hn);have h7:=((xD m).1 (b6 j _ (I v) k q W _ M).1).2.2;rw [Int.toNat_natCast] at h7;grind
 ·have T:=b5 p _ (g F);rw [if_pos (.inr h2)] at T;have O:(t.parts.map (j5 (p:Int))).sum=0:=by
   rw [List.sum_eq_zero_iff_forall_eq_nat];intro y hy;obtain ⟨x,P,rfl⟩:=List.mem_map.1 hy;obtain ⟨j,u,K⟩:=List.getElem_of_mem P;have v:j<nP c:=by have:t.parts.length=nP c:=hp;omega
   have e:x=(cI t).part j:=by have A:=I v;rw [List.getElem?_eq_getElem u,K] at A;exact Option.some.inj A
   subst e;refine FK λq X M=> ?_;have:=c7 p F j v q X M;omega
  have E:(t.procs.map (j4 (p:Int))).sum≠0:=by omega
  obtain ⟨x,P,b9⟩:=BL E;obtain ⟨j,u,K⟩:=List.getElem_of_mem P;have v:j<nQ c:=by have:t.procs.length=nQ c:=hq;omega
  have e:x=(cI t).proc j:=by have A:=g v;rw [List.getElem?_eq_getElem u,K] at A;exact Option.some.inj A
  subst e;obtain ⟨l,c9,c0⟩:=BL b9;obtain ⟨i,d,V⟩:=List.getElem_of_mem c9;have W:((cI t).proc j).ak[i]? =some l:=by rw [List.getElem?_eq_getElem d,V]
  rw [zw] at c0;have M:(p:Int)∈l.waiters.map (·.proc):=Classical.byContradiction λhn=>c0 (HF hn);obtain ⟨w,G,e⟩:=List.mem_map.1 M;obtain ⟨y,f1,f2,f3⟩:=xB m v;have h7:=((xD m).1 (b7 j _ y (g v) f1 i l W w G).2.1).2.2;rw [e,Int.toNat_natCast] at h7;grind
end
def tA (a c k:Hp):Hp:=λb=>match a b with | some d=>some d | none=>if c b=none then k b else none
theorem OQ {a d k:Hp} {b:Nat} {c:Obj} (e:a b=some c):tA a d k b=some c:=by unfold tA;rw [e]
theorem E6 {a c k:Hp} {b:Nat} (e:a b=none):tA a c k b=if c b=none then k b else none:=by unfold tA;rw [e]
theorem T2 {P:Program} {g:FuncId} {args:List Value} {l K:Value->Hp->Prop} {f k:Hp} {A:eD} (o:Has f A k) (q:vq P g args l f) (r:∀v c p,l v c->Has c A p->K v p):vq P g args K k:=by
 intro w h;refine (q w (h.mono o.le)).mono ?_;rintro e y ⟨v,c,rfl,t,st⟩;obtain ⟨s,F,a,m⟩:=o;have key:∀b,F b->c b=none/\y.heap[b]? =w.heap[b]?:=λb hb=>by
  cases e:k b with
  | none=>exact absurd e (A.known a b hb)
  | some j=>have:=st.bO b (h.lt e) (m b hb);grind
 refine ⟨v,tA c f k,rfl,r v c _ t ⟨λb j e=>OQ e,F,A.same a λb hb=> ?_,λb hb=>(key b hb).1⟩,?_⟩
 ·rw [E6 (key b hb).1,if_pos (m b hb)]
 ·refine ⟨λb j e=> ?_,st.size,λb hb n=> ?_,st.os,st.tape,st.output⟩
  ·cases i:c b with
   | some z=>rw [OQ i] at e;cases e;exact st.sub b _ i
   | none=>
    rw [E6 i] at e;by_cases d:f b=none
    ·rw [if_pos d] at e;rw [(st.bO b (h.lt e) d).1];exact h b j e
    grind
  ·have d:f b=none:=qj s n;obtain ⟨u,x⟩:=st.bO b hb d;exact ⟨u,by rw [E6 x,if_pos d];exact n⟩
theorem Bf {P:Program} {g:FuncId} {args:List Value} {sh:Shape} {K0 K:sh.T->Hp->Prop} {c k:Hp} {A:eD} (o:Has c A k) (d:ae P g args sh K0 c) (f:∀x a b,K0 x a->Has a A b->K x b):ae P g args sh K k:=
 T2 o d λ_ a b ⟨x,e,h⟩ i=>⟨x,e,f x a b h i⟩
theorem OR {P:Program} {g:FuncId} {args:List Value} {s1 s2 s3:Shape} {K0 K:s1.T->s2.T->s3.T->Hp->Prop} {c k:Hp} {A:eD} (o:Has c A k) (d:jz P g args s1 s2 s3 K0 c) (e:∀x y z a b,K0 x y z a->Has a A b->K x y z b):jz P g args s1 s2 s3 K k:=
 Bf o d λp a b h f=>e p.1 p.2.1 p.2.2 a b h f
theorem Cf {c:aL} (h:(fa c).1=0):cP c:=by obtain ⟨e,f,g,j,k,l,d,m,n,q,b⟩:=fA.1 h;obtain ⟨p,r,s⟩:=fN.1 e;have:=List.length_pos_iff.2 p;have:=List.length_pos_iff.2 n;refine ⟨⟨by unfold nP;omega,by unfold nP;omega⟩,⟨f,g,λi o=>by have:=j i o;unfold nP;omega⟩,k,l,d,m,⟨by unfold nQ;omega,by unfold nQ;omega⟩,λy a=>by have:=(b y a).1;unfold nP;omega,λy a=>(yZ d).1 (b y a).2⟩
section
variable {h0 k:Hp}
theorem Has.Ix {a e:Type} {sz:Nat} {enc:a->List Value} {c:e->List Value} {l:Sl} {d:List a} (f:a->e) (t:∀x,enc x=c (f x)) (o:Has h0 (ff sz enc l d) k):Has h0 (ff sz c l (d.map f)) k:=by refine o.map λu F h=> ?_;obtain ⟨s,q,r⟩:=h;refine ⟨by grind,q,r.imp id ?_⟩;rintro ⟨b,off,g,i,j,m,n,p⟩;refine ⟨b,off,g,i,j,m,n,by rw [p,List.flatMap_map];congr 1;grind⟩
theorem ac6 {h:Hp} {t:Sl} {a:List Int} {n:Int} {Q:Option Addr->Int->Int->Hp->Prop} (r:Is h t a) (F:1<=n) (H:n<=8) (B:a≠ []) (J:a.length<=64) (I:∀x∈a,0<=x/\x<n)
  (D:∀p i s c,h<=c->aZ c p [s.v,.int .i64 n]->Is c s a->Q (some p) 0 i c):Pq prog t n Q h:=by
 unfold Pq;have L:=r.1;have M:0<a.length:=List.length_pos_iff.2 B;intro b ty A;have l:=mY (o:=.cells (#[Value.int .i64 n]) ty (0,0)) A;have d:aZ (h.set b (.cells (#[Value.int .i64 n]) ty (0,0))) ⟨b,0,none⟩ [.int .i64 n]:=Hc (cs:=[Value.int .i64 n]);refine bg (sh:=af .i64) n d ?_;refine ⟨n,λ_=>d,?_⟩;refine aE (aE ?_);rw [if_neg (by simp;omega),if_neg (by simp;omega)];have y:(a.any λx=>decide (x<0) || decide (x>=n))=false:=by grind
 refine Ud (f:=⟨Oi, #[], #[.pointer (some ⟨b,0,none⟩)]⟩) (D0 (p:=λx=>decide (x<0) || decide (x>=n)) (Rw.mono l r) (by omega) (λx _ k K m w=> ?_) λi c j z=> ?_)
 ·refine xA (g:=Oi) rfl (KO ?_);unfold zyz;refine ⟨n,λ_=>nE m d,aE (w k m)⟩
 ·dsimp only;rw [y] at z;rw [if_neg (λe=>by grind)];refine bg (sh:=af .i64) n (nE j d) ?_;refine QO ?_;unfold Hq;refine Aj (enc:=λx:Int=>bA ((af .i64).enc x)) (cD.cH 23 uX rfl) (Rw.mono (Hp.le_trans l j) r) (by decide) (λ_=>rfl) (λ_=>rfl) rfl ⟨by omega,by omega⟩ λout G q C=> ?_;refine ⟨⟨nE (Hp.le_trans j q) d,trivial⟩,?_⟩;intro E t2 u;exact D _ _ out _ (Hp.le_trans (Hp.le_trans l j) (Hp.le_trans q (mY u))) (Hc (cs:=[out.v,.int .i64 n])) (Rw.mono (mY u) (C.pT λ_=>rfl))
abbrev wi (R F G S T U:eD):eD:=(R.star (F.star G)).star (S.star (T.star U))
variable {R F G S T U:eD}
theorem Has.sR (o:Has h0 (wi R F G S T U) k):∃d,h0<=d/\Has d R k/\∀e f,Has d e f->Has h0 (wi e F G S T U) f:=by obtain ⟨d,a,b,_,c⟩:=o.fst;obtain ⟨i,a2,g,h⟩:=b.f1;exact ⟨i,Hp.le_trans a a2,g,λ_ _ j=>c _ _ (h _ _ j)⟩
theorem Has.sF (o:Has h0 (wi R F G S T U) k):∃d,h0<=d/\Has d F k/\∀e f,Has d e f->Has h0 (wi R e G S T U) f:=by obtain ⟨d,a,b,_,c⟩:=o.fst;obtain ⟨i,a2,g,h⟩:=b.f2;exact ⟨i,Hp.le_trans a a2,g,λ_ _ j=>c _ _ (h _ _ j)⟩
theorem Has.sG (o:Has h0 (wi R F G S T U) k):∃d,h0<=d/\Has d G k/\∀e f,Has d e f->Has h0 (wi R F e S T U) f:=by obtain ⟨d,a,b,_,c⟩:=o.fst;obtain ⟨i,a2,g,h⟩:=b.f3;exact ⟨i,Hp.le_trans a a2,g,λ_ _ j=>c _ _ (h _ _ j)⟩
theorem Has.sS (o:Has h0 (wi R F G S T U) k):∃d,h0<=d/\Has d S k/\∀e f,Has d e f->Has h0 (wi R F G e T U) f:=by obtain ⟨d,a,b,_,c⟩:=o.snd;obtain ⟨i,a2,g,h⟩:=b.f1;exact ⟨i,Hp.le_trans a a2,g,λ_ _ j=>c _ _ (h _ _ j)⟩
theorem Has.sT (o:Has h0 (wi R F G S T U) k):∃d,h0<=d/\Has d T k/\∀e f,Has d e f->Has h0 (wi R F G S e U) f:=by obtain ⟨d,a,b,_,c⟩:=o.snd;obtain ⟨i,a2,g,h⟩:=b.f2;exact ⟨i,Hp.le_trans a a2,g,λ_ _ j=>c _ _ (h _ _ j)⟩
theorem Has.sU (o:Has h0 (wi R F G S T U) k):∃d,h0<=d/\Has d U k/\∀e f,Has d e f->Has h0 (wi R F G S T e) f:=by obtain ⟨d,a,b,_,c⟩:=o.snd;obtain ⟨i,a2,g,h⟩:=b.f3;exact ⟨i,Hp.le_trans a a2,g,λ_ _ j=>c _ _ (h _ _ j)⟩
def lK (q:Addr) (own:Sl) (n:Nat) (y:cJ) (b:Nat->Int):eD:=.some_ λx:bw=>.some_ λlp:Addr=>.some_ λa:Addr=>
 ((dZ Ad q x).star ((ff 3 H3 x.log y.log).star ((oH lp y.ax y.au).star (vp a b (2*n))))).star (.fact (x.procs=own/\x.ai=y.ai/\x.lost=y.lost/\x.forbidden=y.forbidden/\x.ag=some lp/\x.eM=some a))
def rh (q:Addr) (p i:Nat) (code:Sl) (room:Int) (y:aj):eD:=.some_ λz:aW=>.some_ λa:Addr=>
 ((dZ bK q z).star (eJ a room y.ak y.ai)).star (.fact (z.dY=(p:Int)/\z.part=(i:Int)/\z.code=code/\z.state=y.state/\hH (fb z)=y.core/\z.bB=y.bB/\z.post=some a))
theorem Has.Dy {q lp a:Addr} {x:bw} {n:Nat} {y:cJ} {b:Nat->Int} (o:Has h0 ((((oH lp y.ax y.au).star (ff 3 H3 x.log y.log)).star (vp a b (2*n))).star (dZ Ad q x)) k)
  (e:x.ai=y.ai/\x.lost=y.lost/\x.forbidden=y.forbidden/\x.ag=some lp/\x.eM=some a):Has h0 (lK q x.procs n y b) k:=by
 refine Has.ex.2 ⟨x,Has.ex.2 ⟨lp,Has.ex.2 ⟨a,Has.fV ?_ ⟨rfl,e⟩⟩⟩⟩;refine o.map λc F h=> ?_;exact HK (λ_ h=>h) (λ_ h=>Bc (HK (λ_ h=>HJ h) (λ_ h=>h) h)) (HJ h)
theorem Has.Dz {q a:Addr} {z:aW} {room:Int} {p i:Nat} {y:aj} (o:Has h0 ((eJ a room y.ak y.ai).star (dZ bK q z)) k)
  (e:z.dY=(p:Int)/\z.part=(i:Int)/\z.state=y.state/\hH (fb z)=y.core/\z.bB=y.bB/\z.post=some a):Has h0 (rh q p i z.code room y) k:=
 Has.ex.2 ⟨z,Has.ex.2 ⟨a,Has.fV o.comm ⟨e.1,e.2.1,rfl,e.2.2⟩⟩⟩
theorem PW {q:Addr} {own:Sl} {n id:Nat} {y:cJ} {a:Nat->Int} {v:Int} {g:FuncId} {args:List Value} {K:Hp->Prop} (o:Has h0 (lK q own n y a) k) (B:n<=1000) (hid:id<2*n) (C:a id=0) (hv:0<=v)
  (m:∀ {Q:Int->Hp->Prop},Q (id:Int) k->ae prog g args (af .i64) Q k) (c:∀b,Has h0 (lK q own n y (de a id v)) b->K b):
  (if (decide (v>(0:Int)))=true then
 ah none (some q) λf=>
 aN none al k (Addr.add f 6) λi=>
 ae prog g args (af .i64) (λu d=>
 (((aZ d (Addr.add f 6) [(.pointer i)])/\(True/\True))/\ae prog Ac [(.pointer i),(.int .i64 u),(.int .i64 v)] (af .i64) (λH l=>
 K l) d)) k
 else
 K k):=by
 by_cases h:v>0
 ·rw [if_pos (decide_eq_true h)];obtain ⟨x,o⟩:=Has.ex.1 o;obtain ⟨lp,o⟩:=Has.ex.1 o;obtain ⟨w,o⟩:=Has.ex.1 o;obtain ⟨o,e⟩:=o.kS;refine aJ ((Has.left o).ld (shf:=al) x.eM rfl ?_);refine m ⟨⟨(Has.left o).fG (off:=6) (n:=1) (vs:=[.pointer x.eM]) rfl,trivial,trivial⟩,?_⟩;obtain ⟨z,D,r,_,put⟩:=o.snd;obtain ⟨A,E,s,t⟩:=r.f3;rw [e.2.2.2.2.2];refine YG (Gl s (by omega) hid h λb p=>c b ?_);exact Has.ex.2 ⟨x,Has.ex.2 ⟨lp,Has.ex.2 ⟨w,(put _ _ (t _ _ p)).fV e⟩⟩⟩
 ·rw [if_neg (by simpa using h)];have:v=0:=by omega
  subst this;rw [show de a id 0=a from funext λj=>by unfold de;split<;>simp_all] at c;exact c k o
def CM (c:aL) (i j:Nat):List Nat:=(List.range j).filter λq=>decide (aG c q=i)
theorem LB {c:aL} {i j:Nat}:CM c i (j+1)=if aG c j=i then CM c i j++ [j] else CM c i j:=by unfold CM;rw [List.range_succ,List.filter_append];grind
end
structure As (c:aL) (t:aR):Prop where
 parts:t.parts.length=nP c
 procs:t.procs.length=nQ c
 part:∀x∈t.parts,Od x.ax x.au/\x.log.length<=4096
 proc:∀x∈t.procs,x.ak.length=nP c+1/\(0<=x.ai/\x.ai<x.ak.length)/\(∀l∈x.ak,RZ c.lane l)/\0<=x.timer/\0<=x.bP
section
variable {h0 h1 k:Hp} {c:aL} {t:aR}
abbrev AR (c:aL) (t:aR) (g:List Addr) (own:Nat->Sl) (m:Nat->Nat->Int) (i:Nat):eD:=eD.first (λi=>lK (g.getD i a0) (own i) (nQ c) (t.parts.getD i nw) (m i)) i
abbrev E8 (c:aL) (t:aR) (u:List Addr) (code:Nat->Sl) (j:Nat):eD:=eD.first (λp=>rh (u.getD p a0) p (aG c p) (code p) c.lane (t.procs.getD p rF)) j
abbrev wE (c:aL) (own:Nat->Sl) (j i:Nat):eD:=eD.first (λi=>ff 1 fX (own i) ((CM c i j).map λ(q:Nat)=>(q:Int))) i
abbrev nf (c:aL) (t:aR) (pm:Addr) (x:bf) (g u:List Addr) (own code:Nat->Sl) (i j:Nat) (m:Nat->Nat->Int):eD:=
 wi (dZ Mh pm x) (AR c t g own m i) (E8 c t u code j) (ff 1 eP x.parts g) (ff 1 eP x.procs u) (wE c own j i)
def xr (x:bf) (l:Sl):bf:={x with parts:=l}
def qN (x:bf) (l:Sl):bf:={x with procs:=l}
variable {pm:Addr} {x:bf} {g u:List Addr} {own code:Nat->Sl} {m:Nat->Nat->Int}
theorem LC {b:Type} {l:List b} {a d:b} {i:Nat} (h:i=l.length):(l++ [a]).getD i d=a:=by grind
theorem T4 {s:aH} {i:Nat} {Q:Hp->Prop} (b:dw h0 s t) (v:As c t) (mc:cP c) (hi:i<nP c) (hp:g.length=i) (ex:x.procs=⟨none,0,0⟩)
  (o:Has h0 (nf c t pm x g [] (λ_=>⟨none,0,0⟩) code i 0 (λ_ _=>0)) k)
  (X:∀l a K,Has h0 (nf c t pm (xr x l) (g++ [a]) [] (λ_=>⟨none,0,0⟩) code (i+1) 0 (λ_ _=>0)) K->Q K):
  ((bI s.cS.base s.cS.len (i:Int))/\aN none bx k (sat s.cS.base 6 (i:Int)) λx=>
 bt prog RT [x.cE.v,x.bQ.v] al (af .i64) (λr7 r8 F=>
 ah none (some pm) λd=>
 aN none aw F (Addr.add d 10) λe=>
 ae prog Ls [x.Log.v] aw (λr9 G=>
 (((aZ G (Addr.add d 10) [e.v])/\(True/\(True/\(True/\True))))/\ae prog Eg [] al (λb7 C=>
 (((aZ C (Addr.add d 10) [e.v])/\(True/\(True/\(True/\True))))/\bc [(.slice none 0 0),(.int .i64 x.Cursor),r9.v,(.int .i64 x.lu),(.int .i64 x.dp),(.pointer r7),(.pointer b7)] (λa1 D=>
 (((aZ D (Addr.add d 10) [e.v])/\True)/\bc [(.pointer (some a1))] (λa2 E=>
 (((aZ E (Addr.add d 10) [e.v])/\True)/\eC 1 8 [(.pointer none)] e ⟨(some a2),1,1⟩ (λb8 U=>
 ah none (some pm) λp3=>
 cX U (Addr.add p3 10) [b8.v] (λV=>
 Q V)) E)) D)) C)) G)) F) k):=by
 obtain ⟨ps,Z,H⟩:=b.parts;have c1:=H.len;have e1:=v.parts;have c0:=mc.parts;refine mE (sh:=bx) (Rw.mono o.le Z) λ(y:bM) I=> ?_;rw [Int.toNat_natCast] at I;obtain ⟨z,J,f⟩:=H.get I;have b0:=List.mem_of_getElem? J;obtain ⟨lv,h⟩:=v.part z b0;have r:=f.mono o.le;obtain ⟨qs,a9,a8⟩:=r.au;refine ZB (Yt lv r.ax a9 a8 λlp k2 L o2=> ?_);have on:=o.grow L;obtain ⟨g1,m1,p,kf⟩:=on.sR;refine aJ (p.ld (shf:=aw) x.parts rfl ?_);have R:=r.mono L;obtain ⟨T,W,Y⟩:=R.log;have b9:T.length=z.log.length:=by grind
 refine zea ?_;unfold TC;refine Aj (enc:=λx=>bA (cW.enc x)) (cD.cH 101 yD rfl) W (by decide) (λ_=>rfl) (λ_=>rfl) rfl ⟨by omega,by omega⟩ λh k3 A B=> ?_;refine ⟨⟨(p.grow A).fG (off:=10) (n:=1) (vs:=[x.parts.v]) rfl,trivial,trivial,trivial,trivial⟩,?_⟩;have B:Has k2 (ff 3 H3 h z.log) k3:=by rw [<-Y];exact B.ym.Ix Ap λ_=>rfl
 refine ZE (YH (n:=2*nQ c) λP k4 M o4=> ?_);refine ⟨⟨((p.grow A).grow M).fG (off:=10) (n:=1) (vs:=[x.parts.v]) rfl,trivial,trivial,trivial,trivial⟩,?_⟩;refine vk (sh:=Ad) (⟨⟨none,0,0⟩,y.Cursor,h,y.lu,y.dp,some lp,some P⟩:bw) rfl λq k5 l5 o5=> ?_;refine ⟨⟨(((p.grow A).grow M).grow l5).fG (off:=10) (n:=1) (vs:=[x.parts.v]) rfl,trivial⟩,?_⟩;have oN:Has k (lK q ⟨none,0,0⟩ (nQ c) z (λ_=>0)) k5:=Has.Dy (x:=(⟨⟨none,0,0⟩,y.Cursor,h,y.lu,y.dp,some lp,some P⟩:bw)) (((o2.beside B).beside o4).beside o5) ⟨f.ai,f.lost,f.forbidden,rfl,rfl⟩;obtain ⟨g2,m2,oF,b3⟩:=o.sF;have O:=b3 _ _ (oF.beside oN);refine oh (enc:=eP) (xs:=[q]) rfl (λ_=>rfl) λa2 k6 N o6=> ?_;obtain ⟨g3,m3,b1,_⟩:=(O.grow N).sR;refine ⟨⟨b1.fG (off:=10) (n:=1) (vs:=[x.parts.v]) rfl,trivial⟩,?_⟩;obtain ⟨g4,m4,oS,b5⟩:=(O.grow N).sS;refine oS.app (o6.mO λ_=>rfl) (λ_=>rfl) (λ_=>rfl) rfl ⟨by rw [hp,List.length_singleton];omega,by rw [hp,List.length_singleton];omega⟩ λw k7 o7=> ?_;have oB:=b5 _ _ o7;obtain ⟨g5,m5,b2,b4⟩:=oB.sR;refine aJ (b2.st (xr x w) (off:=10) (new:=[w.v]) (by show 10+1<=12;omega) rfl λk8 o8=>X w q k8 ?_);have oC:=b4 _ _ o8;obtain ⟨g6,m6,oU,b6⟩:=oC.sU;have oD:=b6 _ _ (oU.beside (Has.mJ (sz:=1) (enc:=fX) (Hp.le_refl _)));refine cast ?_ oD;congr 1;have S:(AR c t g (λ_=>⟨none,0,0⟩) (λ_ _=>0) i).star (lK q ⟨none,0,0⟩ (nQ c) z λ_=>0)=AR c t (g++ [q]) (λ_=>⟨none,0,0⟩) (λ_ _=>0) (i+1):=by show _=(eD.first (λi=>lK ((g++ [q]).getD i a0) ⟨none,0,0⟩ (nQ c) (t.parts.getD i nw) λ_=>0) i).star (lK ((g++ [q]).getD i a0) ⟨none,0,0⟩ (nQ c) (t.parts.getD i nw) λ_=>0);rw [LC hp.symm,rM J];congr 1;exact vR λj hj=>by grind
 rw [S];rfl
theorem T6 {s:aH} {co:an} {j:Nat} {ci:List bR} {Q:Hp->Prop} (b:dw h0 s t) (v:As c t) (K:cP c) (R:j<nQ c) (hp:u.length=j) (j2:g.length=nP c)
  (c1:co.fD=c.lane) (c8:Rs h0 bT 2 x.bW ci) (b2:dR (mU h0) ci c.procs) (c9:∀(p:Nat) y,ci[p]? =some y->code p=y.Code)
  (S:∀i id,i<nP c->m i id=if id / 2<j then pw c (cI t) i id else 0)
  (o:Has h0 (nf c t pm x g u own code (nP c) j m) k)
  (hk:∀l a e9 b5 k',(∀i id,i<nP c->b5 i id=if id / 2<j+1 then pw c (cI t) i id else 0)->Has h0 (nf c t pm (qN x l) g (u++ [a]) e9 code (nP c) (j+1) b5) k'->Q k'):
  ((bI s.aD.base s.aD.len (j:Int))/\aN none aI k (sat s.aD.base 15 (j:Int)) λx=>
 ah none (some pm) λp2=>
 aN none aw k (Addr.add (Addr.add p2 0) 6) λY=>
 ((bI Y.base Y.len (j:Int))/\aN none bT k (sat Y.base 2 (j:Int)) λM=>
 bt prog A6 [(.int .i64 co.fD),x.cR.v,(.int .i64 x.Cursor)] al (af .i64) (λr7 r8 h9=>
 ah none (some pm) λW=>
 aN none aw h9 (Addr.add W 11) λZ=>
 bc [(.int .i64 (j:Int)),(.int .i64 M.Part),M.Code.v,(.int .i64 x.State),(.int .i64 x.PC),(.int .i64 x.cl),(.int .i64 x.cm),(.int .i64 x.cn),(.int .i64 x.cp),(.int .i64 x.cq),(.int .i64 x.cv),(.int .i64 x.cw),(.int .i64 x.cC),(.bool x.fH),(.pointer r7)] (λa1 a9=>
 (((aZ a9 (Addr.add W 11) [Z.v])/\True)/\bc [(.pointer (some a1))] (λa2 b0=>
 (((aZ b0 (Addr.add W 11) [Z.v])/\True)/\eC 1 8 [(.pointer none)] Z ⟨(some a2),1,1⟩ (λr9 c4=>
 ah none (some pm) λp4=>
 cX c4 (Addr.add p4 11) [r9.v] (λI=>
 ah none (some pm) λp5=>
 aN none aw I (Addr.add p5 10) λx4=>
 ((bI x4.base x4.len M.Part)/\aN none al I (sat x4.base 1 M.Part) λN=>
 ah none N λp6=>
 aN none aw I (Addr.add p6 0) λx6=>
 bc [(.int .i64 (j:Int))] (λa3 c5=>
 eC 1 8 [(.int .i64 (0:Int))] x6 ⟨(some a3),1,1⟩ (λh2 c6=>
 ah none N λp7=>
 cX c6 (Addr.add p7 0) [h2.v] (λO=>
 da (λk1=>
 (if (decide (x.Timer>(0:Int)))=true then
 ah none N λF=>
 aN none al O (Addr.add F 6) λG=>
 ae prog Ae [(.int .i64 (j:Int))] (af .i64) (λX C=>
 (((aZ C (Addr.add F 6) [(.pointer G)])/\(True/\True))/\ae prog Ac [(.pointer G),(.int .i64 X),(.int .i64 x.Timer)] (af .i64) (λh3 J=>
 k1 J) C)) O
 else
 k1 O))
 (λC=>
 (if (decide (x.iU>(0:Int)))=true then
 ah none N λF=>
 aN none al C (Addr.add F 6) λG=>
 ae prog Bb [(.int .i64 (j:Int))] (af .i64) (λX J=>
 (((aZ J (Addr.add F 6) [(.pointer G)])/\(True/\True))/\ae prog Ac [(.pointer G),(.int .i64 X),(.int .i64 x.iU)] (af .i64) (λh3 c7=>
 Q c7) J)) C
 else
 Q C)))) c5) I))) b0)) a9)) h9) k)):=by
 obtain ⟨ps,d4,b1⟩:=b.procs;have j0:=b1.len;have e1:=v.procs;have i9:=K.parts;have j1:=K.procs;refine mE (sh:=aI) (Rw.mono o.le d4) λ(y:aK) hy=> ?_;rw [Int.toNat_natCast] at hy;obtain ⟨z,T,A⟩:=b1.get hy;have d5:=List.mem_of_getElem? T;obtain ⟨v1,v2,v3,v4,v5⟩:=v.proc z d5;obtain ⟨g1,m1,V,kf⟩:=o.sR;refine aJ (V.ld (shf:=aw) x.bW (off:=6) rfl ?_);have i4:=b2.len;have i6:nQ c=c.procs.length:=rfl;refine mE (sh:=bT) (Rw.mono o.le c8) λ(H:bR) P=> ?_;rw [Int.toNat_natCast] at P;obtain ⟨E,b3,b7,_⟩:=b2.get P;have d0:=List.mem_of_getElem? b3;have i7:=K.part E d0;have h5:aG c j=E.part.toNat:=by unfold aG;rw [b3];rfl
 have b9:=c9 j H P;rw [b7];have b6:=A.mono o.le;obtain ⟨ls,d3,d1⟩:=b6.ak;have d2:=K.lane;rw [c1,A.ai];refine abd (aaM d2 (by omega) v2 d3 d1 v3 λa k2 l2 o2=> ?_);refine aJ ((V.grow l2).ld (shf:=aw) x.procs rfl ?_);refine vk (sh:=bK) (⟨(j:Int),E.part,H.Code,y.State,y.PC,y.cl,y.cm,y.cn,y.cp,y.cq,y.cv,y.cw,y.cC,y.fH,some a⟩:aW) rfl λq k3 l3 o3=> ?_;refine ⟨⟨((V.grow l2).grow l3).fG (off:=11) (n:=1) (vs:=[x.procs.v]) rfl,trivial⟩,?_⟩;have c0:hH (fb (⟨(j:Int),E.part,H.Code,y.State,y.PC,y.cl,y.cm,y.cn,y.cp,y.cq,y.cv,y.cw,y.cC,y.fH,some a⟩:aW))=z.core:=by show (⟨y.PC,[y.cl,y.cm,y.cn,y.cp,y.cq,y.cv,y.cw,y.cC]⟩:Core)=⟨z.pc,z.aP⟩;rw [A.pc,A.aP]
 have oN:Has k (rh q j (aG c j) (code j) c.lane z) k3:=by rw [b9];exact Has.Dz (z:=(⟨(j:Int),E.part,H.Code,y.State,y.PC,y.cl,y.cm,y.cn,y.cp,y.cq,y.cv,y.cw,y.cC,y.fH,some a⟩:aW)) (o2.beside o3) ⟨rfl,by grind,A.state,c0,A.bB,rfl⟩
 obtain ⟨g2,m2,oG,f4⟩:=o.sG;have oA:=f4 _ _ (oG.beside oN);refine oh (enc:=eP) (xs:=[q]) rfl (λ_=>rfl) λa2 k4 l4 o4=> ?_;obtain ⟨g3,m3,e6,_⟩:=(oA.grow l4).sR;refine ⟨⟨e6.fG (off:=11) (n:=1) (vs:=[x.procs.v]) rfl,trivial⟩,?_⟩;obtain ⟨g4,m4,oT,f8⟩:=(oA.grow l4).sT;refine oT.app (o4.mO λ_=>rfl) (λ_=>rfl) (λ_=>rfl) rfl ⟨by rw [hp,List.length_singleton];omega,by rw [hp,List.length_singleton];omega⟩ λU k5 o5=> ?_;have oB:=f8 _ _ o5;obtain ⟨g5,m5,e7,f7⟩:=oB.sR;refine aJ (e7.st (qN x U) (off:=11) (new:=[U.v]) (by show 11+1<=12;omega) rfl λk6 o6=> ?_);have L:=f7 _ _ o6;obtain ⟨g6,m6,e8,l9⟩:=L.sR;refine aJ (e8.ld (shf:=aw) x.parts rfl ?_);have D:aG c j<nP c:=by omega
 obtain ⟨g7,m7,oS,_⟩:=L.sS;have rs:Rs k6 al 1 x.parts (g.map some):=(oS.mO (λ_=>rfl)).map (f:=some) (enc:=λx=>bA (al.enc x));refine rs.get (λ_=>rfl) (by omega) (by omega) (by grind) λ(w:Option Addr) hw=> ?_;have ew:w=some (g.getD (aG c j) a0):=by grind
 subst ew;obtain ⟨g8,m8,oF,l7⟩:=L.sF;obtain ⟨g9,m9,d,_,l8⟩:=oF.one D;obtain ⟨px,d⟩:=Has.ex.1 d;obtain ⟨lp,d⟩:=Has.ex.1 d;obtain ⟨wp,d⟩:=Has.ex.1 d;obtain ⟨d,eP⟩:=d.kS;refine aJ ((Has.left d).ld (shf:=aw) (off:=0) px.procs rfl ?_);rw [eP.1];obtain ⟨h6,k0,oU,f9⟩:=L.sU;obtain ⟨h7,l0,oO,_,gP⟩:=oU.one D;have i5:((CM c (aG c j) j).map λ(q:Nat)=>(q:Int)).length<=j:=by rw [List.length_map];exact Nat.le_trans (List.length_filter_le ..) (by simp)
 refine oO.push (e:=(j:Int)) rfl (λ_=>rfl) (λ_=>rfl) rfl ⟨by omega,by omega⟩ λB k7 o7=> ?_;have oD:=f9 _ _ (gP _ _ o7);obtain ⟨h8,l1,d9,f0⟩:=oD.sF;obtain ⟨c3,l5,r,_,f5⟩:=d9.one D;obtain ⟨g0,r⟩:=Has.ex.1 r;obtain ⟨d7,r⟩:=Has.ex.1 r;obtain ⟨h4,r⟩:=Has.ex.1 r;obtain ⟨r,b8⟩:=r.kS;obtain ⟨i3,l6,e0,_,f6⟩:=r.fst;refine aJ (e0.st ({g0 with procs:=B}:bw) (off:=0) (new:=[B.v]) (by show 0+1<=7;omega) rfl λk8 o8=> ?_);have oQ:Has c3 (lK (g.getD (aG c j) a0) B (nQ c) (t.parts.getD (aG c j) nw) (m (aG c j))) k8:=Has.ex.2 ⟨_,Has.ex.2 ⟨d7,Has.ex.2 ⟨h4,(f6 _ _ o8).fV ⟨rfl,b8.2⟩⟩⟩⟩;have c2:=S (aG c j);refine da.direct ?_;rw [A.timer];refine PW (id:=2*j) oQ (by omega) (by omega) (by grind) v4 (λh=>Mo (by unfold Rm;rw [aV];grind)) λk9 o9=> ?_;rw [A.bP];refine PW (id:=2*j+1) o9 (by omega) (by omega) (by rw [mn (by omega),c2 _ D,if_neg (by omega)]) v5 (λh=>Mq (by unfold Rn;rw [show yw (2*(j:Int))=2*(j:Int) from aV,aV];grind)) λd6 d8=> ?_;have oE:=f0 _ _ (f5 _ _ d8);have a8:(cI t).proc j=z:=rM T;refine hk U q (de own (aG c j) B) (de m (aG c j) (de (de (m (aG c j)) (2*j) z.timer) (2*j+1) z.bP)) d6 (λi id b4=> ?_) ?_
 ·by_cases e:i=aG c j
  ·subst e;rw [mz];by_cases e2:id=2*j+1
   ·subst e2;rw [mz,if_pos (by omega)];unfold pw;rw [show (2*j+1) / 2=j by omega,if_pos ⟨R,rfl⟩,if_neg (by omega),a8]
   ·rw [mn e2];by_cases e3:id=2*j
    ·subst e3;rw [mz,if_pos (by omega)];unfold pw;rw [show (2*j) / 2=j by omega,if_pos ⟨R,rfl⟩,if_pos (by omega),a8]
    ·rw [mn e3,S _ _ b4];omega
  ·rw [mn e,S _ _ b4];by_cases e4:id / 2<j
   ·omega
   ·rw [if_neg e4];split
    ·unfold pw;rw [if_neg ?_];rintro ⟨_,e5⟩;exact e (by rw [<-e5];congr 1;omega)
    ·rfl
 ·refine cast ?_ oE;congr 1;have eG:(E8 c t u code j).star (rh q j (aG c j) (code j) c.lane z)=E8 c t (u++ [q]) code (j+1):=by show _=(eD.first (λp=>rh ((u++ [q]).getD p a0) p (aG c p) (code p) c.lane (t.procs.getD p rF)) j).star (rh ((u++ [q]).getD j a0) j (aG c j) (code j) c.lane (t.procs.getD j rF));rw [LC hp.symm,rM T];congr 1;exact vR λj R=>by grind
  have eU:eD.first (de (λi=>ff 1 fX (own i) ((CM c i j).map λ(q:Nat)=>(q:Int))) (aG c j) (ff 1 fX B ((CM c (aG c j) j).map (λ(q:Nat)=>(q:Int))++ [(j:Int)]))) (nP c)=wE c (de own (aG c j) B) (j+1) (nP c):=by
   refine vR λi D=> ?_;by_cases e:i=aG c j
   ·subst e;rw [mz,mz,LB,if_pos rfl,List.map_append];rfl
   ·rw [mn e,mn e,LB,if_neg (Ne.symm e)]
  have eF:eD.first (de (λi=>lK (g.getD i a0) (own i) (nQ c) (t.parts.getD i nw) (m i)) (aG c j) (lK (g.getD (aG c j) a0) B (nQ c) (t.parts.getD (aG c j) nw) (de (de (m (aG c j)) (2*j) z.timer) (2*j+1) z.bP))) (nP c)=AR c t g (de own (aG c j) B) (de m (aG c j) (de (de (m (aG c j)) (2*j) z.timer) (2*j+1) z.bP)) (nP c):=by
   refine vR λi D=> ?_;by_cases e:i=aG c j
   ·subst e;rw [mz,mz,mz]
   ·rw [mn e,mn e,mn e]
  rw [eG,eU,eF];rfl
theorem M9 {x:an} {s:aH} {Q:Option Addr->Hp->Prop} (a:eT k x c) (b:dw k s t) (hu:∀l∈c.labels,qW l) (I:(fa c).1=0) (v:As c t)
  (hq:∀K pm m h1 d,K.c=c->eh h1 K->k<=h1->Has h1 (aO K pm (cI t) m) d->fS c m (cI t)->Q (some pm) d):zvs prog x s Q k:=by
 have G:=Cf I;have hm:(jH c.labels).1=0:=by unfold fa at I;exact (fA.1 I).1
 unfold zvs;have d0:=G.parts;have d2:=G.procs;have b0:=G.table;have c8:nP c=c.labels.length:=rfl;have d1:nQ c=c.procs.length:=rfl;refine zuh (PV a (by omega) (by omega) (by omega) (λy L=>by have:=(G.code y L).1;omega) λr T o1 e1 e2 e3 e4=> ?_);refine ⟨⟨trivial,trivial⟩,?_⟩;obtain ⟨B,hB,_⟩:=(CD o1 e1 e2 e3 e4).as_;have U:=o1.le;have ar:eT T r c:=hB.rd;have a1:=a.mono U;have c9:x.aQ.len=c.labels.length:=a.labels.1;refine vk (sh:=Mh) (⟨r.aQ,r.Table,r.Fuel,r.fD,r.bE,r.Log,r.aD,none,none,s.eZ,⟨none,0,0⟩,⟨none,0,0⟩⟩:bf) rfl λpm k2 q o2=> ?_;refine OR (s1:=al) (s2:=af .i64) (s3:=af .i64) (K0:=λp _ _ z=>T<=z/\∃w,p=some w/\uy z w c.labels) o2 (L4 (MW a1.labels (λe=>absurd hm e) λ_ w z E ht=>⟨E,w,rfl,ht⟩)) ?_;rintro r1 r2 r3 h3 k3 ⟨l3,w,rfl,hT⟩ o3;refine aJ (o3.st (⟨r.aQ,r.Table,r.Fuel,r.fD,r.bE,r.Log,r.aD,some w,none,s.eZ,⟨none,0,0⟩,⟨none,0,0⟩⟩:bf) (off:=7) (new:=[.pointer (some w)]) (by show 7+1<=12;omega) rfl λk4 o4=> ?_);have a3:=a1.mono l3;refine OR (s1:=al) (s2:=af .i64) (s3:=af .i64) (K0:=λp _ _ z=>h3<=z/\∃sp,p=some sp/\∃(sl:Sl) (n:Int),aZ z sp [sl.v,.int .i64 n]/\Is z sl c.table) o4 (L3 (ac6 a3.table (n:=(x.aQ.len:Int)) (by omega) (by omega) b0.1 b0.2.1 (λi J=>by grind) λsp i sl z E hl hs=>⟨E,sp,rfl,sl,_,hl,hs⟩)) ?_;rintro r4 r5 r6 A k5 ⟨l5,sp,rfl,sl,sn,hL,hS⟩ o5;refine aJ (o5.st (⟨r.aQ,r.Table,r.Fuel,r.fD,r.bE,r.Log,r.aD,some w,some sp,s.eZ,⟨none,0,0⟩,⟨none,0,0⟩⟩:bf) (off:=8) (new:=[.pointer (some sp)]) (by show 8+1<=12;omega) rfl λD o6=> ?_);have V:T<=A:=Hp.le_trans l3 l5;have H:dw A s t:=b.mono (Hp.le_trans U V);have Z:=ar.mono V;obtain ⟨ci,b4,P⟩:=Z.procs;obtain ⟨code,b6⟩:∃code:Nat->Sl,∀(p:Nat) y,ci[p]? =some y->code p=y.Code:=⟨λp=>((ci[p]?).map (·.Code)).getD ⟨none,0,0⟩,λp y h=>by grind⟩;obtain ⟨X,C⟩:∃X:bf,X=⟨r.aQ,r.Table,r.Fuel,r.fD,r.bE,r.Log,r.aD,some w,some sp,s.eZ,⟨none,0,0⟩,⟨none,0,0⟩⟩:=⟨_,rfl⟩;rw [<-C] at o6;have c7:=P.len;have CU:Has A (nf c t pm X [] [] (λ_=>⟨none,0,0⟩) code 0 0 (λ_ _=>0)) D:=by
  have f1:Has D (eD.fact True) D:=Has.fact trivial (Hp.le_refl _);have n1:Has D (ff 1 eP X.parts []) D:=by rw [C];exact Has.mJ (Hp.le_refl _)
  have n2:Has D (ff 1 eP X.procs []) D:=by grind
  exact (o6.beside (f1.beside f1)).beside (n1.beside (n2.beside f1))
 obtain ⟨ps,c0,b3⟩:=H.parts;obtain ⟨qs,c2,c1⟩:=H.procs;have e5:=b3.len;have e6:=c1.len;have e7:=v.parts;have e8:=v.procs;have e9:s.cS.len=ps.length:=c0.1;have c6:s.aD.len=qs.length:=c2.1;refine aB.intro (λ(i:Int) d=>0<=i/\i<=(nP c:Int)/\∃(l:Sl) (g:List Addr),g.length=i.toNat/\Has A (nf c t pm (xr X l) g [] (λ_=>⟨none,0,0⟩) code i.toNat 0 (λ_ _=>0)) d) (λi _=>(nP c-i).toNat) ⟨by omega,by omega,X.parts,[],rfl,CU⟩ ?_;rintro i k7 ⟨i0,i1,l,g,hp,o⟩;by_cases h:i<(nP c:Int)
 ·rw [if_pos (iW)];have a8:((i.toNat:Nat):Int)=i:=by omega
  have key:=T4 (x:=xr X l) (i:=i.toNat) (Q:=λd=>(0<=yw (i+1)/\yw (i+1)<=(nP c:Int)/\∃(l:Sl) (g:List Addr),g.length=(yw (i+1)).toNat/\Has A (nf c t pm (xr X l) g [] (λ_=>⟨none,0,0⟩) code (yw (i+1)).toNat 0 (λ_ _=>0)) d)/\(nP c-yw (i+1)).toNat<(nP c-i).toNat) H v G (by omega) hp (by rw [C];rfl) o λE N d W=>by rw [aV];refine ⟨⟨by omega,by omega,E,g++ [N],by rw [List.length_append,List.length_singleton];omega,?_⟩,by omega⟩;rw [show (i+1).toNat=i.toNat+1 by omega];exact W
  grind
 ·rw [if_neg (λe=>h (by grind))];have ei:i.toNat=nP c:=by omega
  rw [ei] at o hp;refine aB.intro (λ(j:Int) d=>0<=j/\j<=(nQ c:Int)/\∃(q:Sl) (u:List Addr) (own:Nat->Sl) (m:Nat->Nat->Int),u.length=j.toNat/\(∀i id,i<nP c->m i id=if id / 2<j.toNat then pw c (cI t) i id else 0)/\Has A (nf c t pm (qN (xr X l) q) g u own code (nP c) j.toNat m) d) (λj _=>(nQ c-j).toNat) ⟨by omega,by omega,X.procs,[],λ_=>⟨none,0,0⟩,λ_ _=>0,rfl,λ_ _ _=>(by simp),o⟩ ?_;rintro j k8 ⟨j0,j1,q,u,own,m,R,S,o⟩;by_cases hj:j<(nQ c:Int)
  ·rw [if_pos (iW)];have a8:((j.toNat:Nat):Int)=j:=by omega
   refine da.direct ?_;have key:=T6 (x:=qN (xr X l) q) (j:=j.toNat) (Q:=λd=>(0<=yw (j+1)/\yw (j+1)<=(nQ c:Int)/\∃(q:Sl) (u:List Addr) (own:Nat->Sl) (m:Nat->Nat->Int),u.length=(yw (j+1)).toNat/\(∀i id,i<nP c->m i id=if id / 2<(yw (j+1)).toNat then pw c (cI t) i id else 0)/\Has A (nf c t pm (qN (xr X l) q) g u own code (nP c) (yw (j+1)).toNat m) d)/\(nQ c-yw (j+1)).toNat<(nQ c-j).toNat) H v G (by omega) R hp a.lane (by rw [C];exact b4) P b6 S o λE N c4 c5 d c3 W=>by rw [aV,show (j+1).toNat=j.toNat+1 by omega];exact ⟨⟨by omega,by omega,E,u++ [N],c4,c5,by grind,c3,W⟩,by omega⟩
   rw [a8] at key;exact key
  ·rw [if_neg (λe=>hj (by grind))];have ej:j.toNat=nQ c:=by omega
   rw [ej] at o R S;obtain ⟨O,F,o9,⟨F2,b2,b8⟩,_⟩:=o.fst;have Y:Has A ((ff 1 eP (qN (xr X l) q).parts g).star ((ff 1 eP (qN (xr X l) q).procs u).star (wE c own (nQ c) (nP c)))) O:=⟨F,F2,b2,b8⟩;have b1:=Z.mono F;have a9:∀p:Nat,∃M:List aS,∀y,ci[p]? =some y->nG O y.Code M/\M.map bu=jq c p:=λp=>by
    cases L:ci[p]? with
    | none=>simp
    | some y=>obtain ⟨cz,b7,_,M,h1,h2⟩:=P.get L;refine ⟨M,λy' e=> ?_⟩;cases e;exact ⟨Rw.mono F h1,by rw [h2];unfold jq;rw [b7];rfl⟩
   obtain ⟨ins,a9⟩:=Classical.axiomOfChoice a9;refine hq ⟨c,qN (xr X l) q,w,sp,g,u,own,code,ins⟩ pm m O k8 rfl ?_ (Hp.le_trans (Hp.le_trans U V) F) ?_ (λi id J=> ?_)
   ·refine ⟨I,hu,?_,by rw [C];rfl,hT.mono (Hp.le_trans l5 F),by rw [C];rfl,⟨sl,sn,nE F hL,Rw.mono F hS⟩,hp,(Y.left.mO λ_=>rfl).map (f:=some) (enc:=λx=>bA (al.enc x)),R,(Y.right.left.mO λ_=>rfl).map (f:=some) (enc:=λx=>bA (al.enc x)),λi J=> ?_,λp hp=> ?_,λp hp=>G.fP⟩
    ·rw [C];exact b1
    ·exact ((Y.right.right.at_ J).mO λ_=>rfl)
    ·have b9:p<ci.length:=by have:p<nQ c:=hp;omega
     have L:=List.getElem?_eq_getElem b9;grind
   ·have et:tT (qN (xr X l) q) (cI t).tick=qN (xr X l) q:=by
     have e:X.tick=(cI t).tick:=by rw [C];exact b.tick
     rw [<-e];rfl
    unfold aO;dsimp only;rw [et];exact o9
   ·rw [S i id J];split
    ·rfl
    ·unfold pw;omega
end
section
variable {c:aL} {fl:Nat->Nat->Bool} {t:aR} {T:Int}
theorem Na (m:cP c) (g:Good c fl (cI t) No No T) (hp:t.parts.length=nP c) (H:t.procs.length=nQ c):As c t:=by
 have v:=g.qa m;have B:∀i x,t.parts[i]? =some x->i<nP c/\(cI t).part i=x:=λi x h=>⟨by grind,rM h⟩;have C:∀i x,t.procs[i]? =some x->i<nQ c/\(cI t).proc i=x:=λi x h=>⟨by grind,rM h⟩;have R:=m.ag;refine ⟨hp,H,λx j=> ?_,λx j=> ?_⟩
 ·obtain ⟨i,b⟩:=List.mem_iff_getElem?.1 j;obtain ⟨a,rfl⟩:=B i x b;have sp:=v.part i a;have pm:=g.part i a;refine ⟨⟨⟨sp.iZ,by have:=pm.iZ;omega⟩,λo s=> ?_,λk o q s u=> ?_,λJ K q L n D S z d I=> ?_⟩,sp.lR⟩
  ·obtain ⟨k,E⟩:=List.mem_iff_getElem?.1 s;rcases g.own i a k o E with h | h<;>omega
  ·obtain ⟨w,y,A⟩:=g.kW i a k q u;refine ⟨sp.mI.2 q (List.mem_of_getElem? u),λe=> ?_,λz d=>⟨(y z d).1,λe=> ?_⟩,w⟩
   ·grind
   ·obtain ⟨W,n,_,Q⟩:=A (List.ne_nil_of_mem d);grind
  ·have M:=(g.kW i a J q n).2.1 z I;have N:=(g.kW i a K L D).2.1 z d;rcases M.2.2.2.2 with h | ⟨_,U,a1,_,a3⟩
   ·exact h
   ·rcases N.2.2.2.2 with h | ⟨_,V,O,_,P⟩
    ·exact h
    grind
 ·obtain ⟨p,G⟩:=List.mem_iff_getElem?.1 j;obtain ⟨f,rfl⟩:=C p x G;have sp:=v.proc p f;have pm:=g.proc p f;refine ⟨sp.len,sp.cur,λl r=> ?_,pm.iQ.1,pm.jg.1⟩;obtain ⟨i,b⟩:=List.mem_iff_getElem?.1 r;have sl:=sp.dP l r;exact ⟨(pm.dP i l b).1,λF=>((g.dP p f i l b).2.1 F).2.2,sl.taken,sl.dropped,sl.nd,sl.waiters⟩
end
section
variable {h:Hp}
theorem adW {P:Program} {n:Int} {Q:Int->Int->Hp->Prop} (b:0<=n/\n<=8) (a:Q 0 n h):zqo P 1 n Q h:=by
 unfold zqo;have:n=0\/n=1\/n=2\/n=3\/n=4\/n=5\/n=6\/n=7\/n=8:=by omega
 refine ⟨by decide,by decide,by decide,by decide,by decide,?_⟩;rcases this with rfl | rfl | rfl | rfl | rfl | rfl | rfl | rfl | rfl<;>exact a
theorem mZ {v:Value}:∀ {n:Nat},fC [v] n=List.replicate n v
 | 0=>rfl
 | n+1=>by unfold fC;simp
theorem Ev :∀ {n:Nat} {v:Int},jL (List.replicate n (Value.int .i64 v))=true
 | 0,_=>rfl
 | n+1,v=>by rw [List.replicate_succ];show (jL [Value.int .i64 v]&&jL (List.replicate n (Value.int .i64 v)))=true;rw [Ev];rfl
theorem Wj {a:Addr} {v n:Int} {Q:Sl->Hp->Prop} (y:aZ h a [.int .i64 v]) (w:0<=n/\n<=8) (p:∀l g,h<=g->Is g l (List.replicate n.toNat v)->Q l g):VP prog ⟨some a,1,1⟩ n Q h:=by
 unfold VP;refine da.direct ?_;rw [if_neg (by simp;omega)];refine Vc ?_;unfold Lu;refine TZ ?_;rw [show IntKind.wrap .u64 (((⟨some a,1,1⟩:Sl).len:Nat):Int)=1 from rfl,show IntKind.wrap .u64 n=n from tW ⟨by omega,by omega⟩];refine adW w (da.direct ?_);refine aE ?_;rw [show (decide ((0:Int)>0) || decide (n>9223372036854775807))=false by simp;omega,if_neg (by decide)];obtain ⟨m,rfl⟩:∃m:Nat,n=(m:Int):=⟨n.toNat,by omega⟩;rw [aV];rw [Int.toNat_natCast] at p;refine ⟨⟨by omega,by omega,by omega,by omega⟩,λb ty hb=> ?_⟩;rw [Int.toNat_natCast,mZ];have q:=mY (o:=.cells (List.replicate m (Value.int .i64 0)).toArray ty (0,0)) hb;have B:eS (h.set b (.cells (List.replicate m (Value.int .i64 0)).toArray ty (0,0))) b (List.replicate m (Value.int .i64 0)):=⟨ty,nz⟩;have bO:∀ {k d:Hp},h<=k->Mv [b] k [b] d->h<=d:=λu m c s e=>m.bO c s (u c s e) λG=>by grind
 refine GC (sz:=1) B (x:=⟨some a,1,1⟩) (n:=min 1 m) (new:=List.replicate (min 1 m) (Value.int .i64 v)) rfl ⟨by simp,?_⟩ Ev (by simp;omega) λJ E C=> ?_
 ·by_cases e:m=0
  ·omega
  ·refine .inr ⟨a,rfl,?_⟩;rw [show min 1 m=1 by omega];exact nE q y
 ·refine aB.intro (λ(i:Int) d=>∃j:Nat,i=(j:Int)/\j<=m/\(1<=j\/m=0)/\h<=d/\eS d b (List.replicate j (Value.int .i64 v)++List.replicate (m-j) (Value.int .i64 0))) (λi _=>(m-i).toNat) ⟨min 1 m,rfl,by omega,by omega,bO q E,by simpa using C⟩ ?_;rintro i z ⟨j,rfl,H,I,r,f⟩;by_cases t:j<m
  ·rw [if_pos (decide_eq_true (by grind))];refine ⟨⟨by omega,by grind⟩,aE ⟨⟨by omega,by grind⟩,aE ?_⟩⟩;rw [Int.toNat_natCast];dsimp only;rw [xa (by omega),N2,Nat.zero_add,Nat.mul_one];refine GC (sz:=1) f (n:=min j (m-j)) (new:=List.replicate (min j (m-j)) (Value.int .i64 v)) rfl ?_ Ev (by simp;omega) λA F D=> ?_
   ·refine f.rd (by simp) ?_;grind
   ·rw [aV];refine ⟨⟨j+min j (m-j),by omega,by omega,by omega,bO r F,cast (congrArg (eS A b) ?_) D⟩,by omega⟩;rw [List.take_append_of_le_length (by simp),List.take_of_length_le (by simp),List.drop_append,List.drop_eq_nil_of_le (by simp),List.nil_append,List.drop_replicate,List.length_replicate,List.replicate_append_replicate];congr 2;omega
  ·rw [if_neg (λe=>t (by grind))];have:j=m:=by omega
   subst this;refine p _ z r ⟨by simp,by rw [List.flatMap_replicate];show (fC [Value.int .i64 v] j).length=_;rw [mZ];simp,?_⟩;by_cases e:j=0
   ·grind
   ·refine .inr ⟨⟨b,0,none⟩,rfl,?_⟩;rw [Nat.sub_self] at f;refine f.bU (off:=0) (n:=j) ?_;rw [List.drop_zero,List.replicate_zero,List.append_nil,List.take_of_length_le (by simp),List.flatMap_replicate];exact mZ.symm
end
section
variable {h0 h1 k:Hp} {A:eD}
theorem FM {h:Hp} {b c:Nat} {d:Obj} (a:c≠b):(h.set b d) c=h c:=by simp [Hp.set,a]
theorem FN {cs:List Value} {K:Addr->Hp->Prop} (o:Has h1 A k) (m:∀a f i,h1<=f->aZ f a cs->Has f A i->K a i):bc cs K k:=by
 intro b t hb;obtain ⟨h,F,a,l⟩:=o;have j:h1 b=none:=qj h hb;refine m _ (h1.set b (.cells cs.toArray t (0,0))) _ (mY j) Hc ⟨λc n e=> ?_,F,A.same a λc d=> ?_,λc d=> ?_⟩
 ·by_cases g:c=b
  ·subst g;rw [nz] at e ⊢;exact e
  ·rw [FM g] at e ⊢;exact h c n e
 ·have:c≠b:=λe=>A.known a c d (by rw [e];exact hb);exact FM this
 ·have:c≠b:=λe=>A.known a c d (by rw [e];exact hb);rw [FM this];exact l c d
theorem OS {e:Type} {sz bytes:Nat} {enc:e->List Value} {zero:List Value} {z:e} {n:Int} {K:Sl->Hp->Prop} (o:Has h1 A k) (i:zero=enc z) (f:∀x,(enc x).length=sz) (p:0<=n/\n<=1000) (hb:bytes<=1000)
  (g:∀l d c,h1<=d->Rw d sz enc l (List.replicate n.toNat z)->Has d A c->K l c):dU bytes zero n n K k:=by
 have m:n.toNat*bytes<=1000*1000:=Nat.mul_le_mul (by omega) hb;refine ⟨⟨by omega,by omega,by omega,by omega⟩,λb t hb=> ?_⟩;refine FN (cs:=fC zero n.toNat) (K:=λa c=>K ⟨some a,n.toNat,n.toNat⟩ c) o (λa d c l h j=>g _ d c l ⟨by simp,?_,.inr ⟨a,rfl,?_⟩⟩ j) b t hb
 ·rw [List.flatMap_replicate,List.length_flatten,List.map_replicate,f,List.sum_replicate_nat,List.length_replicate]
 ·rw [List.flatMap_replicate,<-i];exact h
theorem Cg {d:Type} {sz bytes:Nat} {enc:d->List Value} {zero:List Value} {z:d} {n:Int} {K:Sl->Hp->Prop} (j:zero=enc z) (h:∀x,(enc x).length=sz) (o:0<=n/\n<=1000) (hb:bytes<=1000)
  (i:∀l a,k<=a->Has k (gB sz enc l (List.replicate n.toNat z)) a->K l a):dU bytes zero n n K k:=by
 have m:n.toNat*bytes<=1000*1000:=Nat.mul_le_mul (by omega) hb;refine ⟨⟨by omega,by omega,by omega,by omega⟩,λb t hb=> ?_⟩;have e:(List.replicate n.toNat z).flatMap enc=fC zero n.toNat:=by rw [List.flatMap_replicate,j];rfl
 have f:(fC zero n.toNat).length=n.toNat*sz:=by rw [<-e,List.flatMap_replicate,List.length_flatten,List.map_replicate,h,List.sum_replicate_nat]
 refine i _ _ (mY hb) ⟨mY hb,λc=>c=b,⟨[b],⟨by rw [List.length_replicate],Nat.le_refl _,.inr ⟨b,fC zero n.toNat,rfl,rfl,⟨t,nz⟩,f,?_⟩⟩,λc=>by simp⟩,λc g=>by rw [g];exact hb⟩;grind
end
abbrev eX :bM->List Value:=λx=>bA (bx.enc x)
abbrev eY :aK->List Value:=λx=>bA (aI.enc x)
def zX :bM:=⟨0,⟨none,0,0⟩,0,0,⟨none,0,0⟩,⟨none,0,0⟩⟩
def zY :aK:=⟨0,0,0,0,0,0,0,0,0,0,0,0,false,0,⟨none,0,0⟩⟩
def zL :bF:=⟨⟨none,0,0⟩,⟨none,0,0⟩,0,0⟩
def zQ (ag:Int):cJ:=⟨0,[],0,0,List.replicate ag.toNat (-1),List.replicate ag.toNat []⟩
def zR (n:Nat):aj:=⟨0,0,List.replicate 8 0,0,0,false,0,List.replicate n ⟨[],[],0,0⟩⟩
theorem Gt {c d:Type} {R:c->d->Prop} {a:c} {b:d} (h:R a b):∀ {n:Nat},dR R (List.replicate n a) (List.replicate n b)
 | 0=>trivial
 | n+1=>⟨h,Gt h⟩
theorem FO {c d:Type} {R:c->d->Prop} {a:c} {b:d} (h:R a b):∀ {l:List c} {m:List d},dR R l m->dR R (l++ [a]) (m++ [b])
 | [],[],_=>⟨h,trivial⟩
 | _::_,_::_,k=>⟨k.1,FO h k.2⟩
section
variable {h0 hb k:Hp} {r r1:Sl} {i:Nat}
theorem Has.zU {sz:Nat} {sh:Shape} {l:Sl} {b:List sh.T} (o:Has h0 (gB sz (λx=>bA (sh.enc x)) l b) k) (a:∀x,(bA (sh.enc x)).length=sz) (c:0<sz) (d:i<b.length):bI l.base l.len (i:Int):=
 (Rs.get (sh:=sh) (K:=λ_=>True) (o.pT a) a c (by omega) (by omega) λ_ _=>trivial).1
theorem ac7 {rows:List bM} {ag:Int} {K:Hp->Prop} {B:eD} (o:Has hb ((gB 6 eX r rows).star B) k) (hi:rows[i]? =some zX) (R:0<=ag/\ag<=8)
  (hk:∀x c b,hb<=c->jB c x (zQ ag)->Has c ((gB 6 eX r (rows.set i x)).star B) b->K b):
  (bc [(.int .i64 (-1:Int))] (λa L=>
 ((True/\(True/\(True/\(True/\True))))/\(ae prog vQ [(.slice (some a) 1 1),(.int .i64 ag)] aw (λr2 G=>
 ((True/\(True/\(True/\True)))/\((bI r.base r.len (i:Int))/\(dU 24 [(.slice none 0 0)] ag ag (λE w=>
 ((True/\(True/\True))/\cX w (Addr.add (sat r.base 6 (i:Int)) 4) [r2.v] (λy=>
 ((True/\True)/\((bI r.base r.len (i:Int))/\cX y (Addr.add (sat r.base 6 (i:Int)) 5) [E.v] (λA=>
 K A)))))) G/\cX G (Addr.add (sat r.base 6 (i:Int)) 4) [r2.v] (λw=>
 ((True/\(True/\True))/\dU 24 [(.slice none 0 0)] ag ag (λE y=>
 ((True/\(True/\True))/\((bI r.base r.len (i:Int))/\cX y (Addr.add (sat r.base 6 (i:Int)) 5) [E.v] (λA=>
 K A)))) w)))))) L/\dU 24 [(.slice none 0 0)] ag ag (λr2 G=>
 ((True/\(True/\(True/\True)))/\ae prog vQ [(.slice (some a) 1 1),(.int .i64 ag)] aw (λE w=>
 ((True/\(True/\(True/\True)))/\((bI r.base r.len (i:Int))/\cX w (Addr.add (sat r.base 6 (i:Int)) 4) [E.v] (λy=>
 ((True/\(True/\True))/\((bI r.base r.len (i:Int))/\cX y (Addr.add (sat r.base 6 (i:Int)) 5) [r2.v] (λA=>
 K A))))))) G)) L))) k/\dU 24 [(.slice none 0 0)] ag ag (λr2 L=>
 ((True/\(True/\(True/\True)))/\bc [(.int .i64 (-1:Int))] (λa G=>
 ((True/\(True/\(True/\(True/\True))))/\ae prog vQ [(.slice (some a) 1 1),(.int .i64 ag)] aw (λE w=>
 ((True/\(True/\(True/\True)))/\((bI r.base r.len (i:Int))/\cX w (Addr.add (sat r.base 6 (i:Int)) 4) [E.v] (λy=>
 ((True/\(True/\True))/\((bI r.base r.len (i:Int))/\cX y (Addr.add (sat r.base 6 (i:Int)) 5) [r2.v] (λA=>
 K A))))))) G)) L)) k):=by
 have Q:i<rows.length:=(List.getElem?_eq_some_iff.1 hi).1;have fin:∀ {c b:Hp} {d g:Sl},hb<=c->Is c d (List.replicate ag.toNat (-1))->Rw c 1 (λx=>bA (aw.enc x)) g (List.replicate ag.toNat (⟨none,0,0⟩:Sl))->Has c ((gB 6 eX r ((rows.set i {zX with cE:=d}).set i {zX with cE:=d,bQ:=g})).star B) b->K b:=λ{c b d g} R m n h=>by rw [List.set_set] at h;exact hk _ c b R ⟨rfl,⟨[],Rw.nil rfl,rfl⟩,rfl,rfl,m,_,n,Gt (Rw.nil rfl)⟩ h
 have N:∀ {c b:Hp} {d:Sl} {f:Hp->Prop},Has c ((gB 6 eX r rows).star B) b->(∀p,Has c ((gB 6 eX r (rows.set i {zX with cE:=d})).star B) p->f p)->cX b ((sat r.base 6 (i:Int)).add 4) [d.v] f:=λ{c b d f} h I=>by obtain ⟨m,_,W,_,put⟩:=h.fst;exact W.AI (i:=i) (x':={zX with cE:=d}) (off:=4) (new:=[d.v]) (λ_=>rfl) hi (by simp) rfl λp V=>I p (put _ _ V)
 have O:∀ {c b:Hp} {d g:Sl} {f:Hp->Prop},Has c ((gB 6 eX r (rows.set i {zX with cE:=d})).star B) b->(∀p,Has c ((gB 6 eX r ((rows.set i {zX with cE:=d}).set i {zX with cE:=d,bQ:=g})).star B) p->f p)->cX b ((sat r.base 6 (i:Int)).add 5) [g.v] f:=λ{c b d g f} h I=>by obtain ⟨m,_,W,_,put⟩:=h.fst;exact W.AI (i:=i) (x:={zX with cE:=d}) (x':={zX with cE:=d,bQ:=g}) (off:=5) (new:=[g.v]) (λ_=>rfl) (List.getElem?_set_self Q) (by simp) rfl λp V=>I p (put _ _ V)
 have zU:∀ {c b:Hp} {a9:List bM},a9.length=rows.length->Has c ((gB 6 eX r a9).star B) b->bI r.base r.len (i:Int):=λe h=>(Has.left h).zU (sh:=bx) (λ_=>rfl) (by decide) (by omega);have mk:∀ {c b:Hp} {F:eD} {f:Sl->Hp->Prop},Has c F b->(∀l u b,c<=u->Rw u 1 (λx=>bA (aw.enc x)) l (List.replicate ag.toNat (⟨none,0,0⟩:Sl))->Has u F b->f l b)->dU 24 [(.slice none 0 0)] ag ag f b:=λh I=>OS (z:=(⟨none,0,0⟩:Sl)) (enc:=λx=>bA (aw.enc x)) h rfl (λ_=>rfl) (by omega) (by omega) I;have X:∀ {c b:Hp} {F:eD} {a:Addr} {f:Sl->Hp->Prop},Has c F b->aZ c a [.int .i64 (-1)]->(∀l u b,c<=u->Is u l (List.replicate ag.toNat (-1))->Has u F b->f l b)->ae prog vQ [(.slice (some a) 1 1),(.int .i64 ag)] aw f b:=λ{c b F a f} h H I=>by refine Bf (sh:=aw) (K0:=λl P=>c<=P/\Is P l (List.replicate ag.toNat (-1))) h (zus (x:=⟨some a,1,1⟩) (Wj H R λl P b1 Q=>⟨b1,Q⟩)) ?_;grind
 refine ⟨?_,?_⟩
 ·refine FN o λa b0 k1 J H M=> ?_;refine ⟨⟨trivial,trivial,trivial,trivial,trivial⟩,?_,?_⟩
  ·refine X M H λd Y k2 s m C=> ?_;refine ⟨⟨trivial,trivial,trivial,trivial⟩,zU rfl C,?_,?_⟩
   ·refine mk C λg Z S t n q=> ?_;refine ⟨⟨trivial,trivial,trivial⟩,N q λT j=>⟨⟨trivial,trivial⟩,zU (by simp) j,O j λU D=>fin (Hp.le_trans J (Hp.le_trans s t)) (Rw.mono t m) n D⟩⟩
   ·refine N C λS q=>⟨⟨trivial,trivial,trivial⟩,?_⟩;refine mk q λg b2 T a8 n j=> ?_;exact ⟨⟨trivial,trivial,trivial⟩,zU (by simp) j,O j λU D=>fin (Hp.le_trans J (Hp.le_trans s a8)) (Rw.mono a8 m) n D⟩
  ·refine mk M λg Y k2 s n C=> ?_;refine ⟨⟨trivial,trivial,trivial,trivial⟩,?_⟩;refine X C (nE s H) λd Z S t m q=> ?_;exact ⟨⟨trivial,trivial,trivial,trivial⟩,zU rfl q,N q λT j=>⟨⟨trivial,trivial,trivial⟩,zU (by simp) j,O j λU D=>fin (Hp.le_trans J (Hp.le_trans s t)) m (Rw.mono t n) D⟩⟩
 ·refine mk o λg b0 k1 J n M=> ?_;refine ⟨⟨trivial,trivial,trivial,trivial⟩,?_⟩;refine FN M λa Y k2 s H C=> ?_;refine ⟨⟨trivial,trivial,trivial,trivial,trivial⟩,?_⟩;refine X C H λd Z S t m q=> ?_;exact ⟨⟨trivial,trivial,trivial,trivial⟩,zU rfl q,N q λT j=>⟨⟨trivial,trivial,trivial⟩,zU (by simp) j,O j λU D=>fin (Hp.le_trans J (Hp.le_trans s t)) m (Rw.mono t (Rw.mono s n)) D⟩⟩
theorem ac8 {rows:List aK} {n:Int} {K:Hp->Prop} {B:eD} (o:Has hb (B.star (gB 15 eY r1 rows)) k) (b:rows[i]? =some zY) (w:1<=n/\n<=100)
  (m:∀x a c,hb<=a->eO a x (zR n.toNat)->Has a (B.star (gB 15 eY r1 (rows.set i x))) c->K c):
  dU 64 [(.slice none 0 0),(.slice none 0 0),(.int .i64 (0:Int)),(.int .i64 (0:Int))] n n (λr2 f=>
 ((True/\True)/\((bI r1.base r1.len (i:Int))/\cX f (Addr.add (sat r1.base 15 (i:Int)) 14) [r2.v] (λg=>
 K g)))) k:=by
 have j:i<rows.length:=(List.getElem?_eq_some_iff.1 b).1;refine OS (sz:=4) (z:=zL) (enc:=λx=>bA (bd.enc x)) o rfl (λ_=>rfl) (by omega) (by omega) λl h y q e d=> ?_;refine ⟨⟨trivial,trivial⟩,(Has.right d).zU (sh:=aI) (λ_=>rfl) (by decide) j,?_⟩;obtain ⟨u,_,t,_,put⟩:=d.snd;refine t.AI (i:=i) (x':={zY with cR:=l}) (off:=14) (new:=[l.v]) (λ_=>rfl) b (by simp) rfl λp s=>m _ h p q ⟨rfl,rfl,rfl,rfl,rfl,rfl,rfl,_,e,Gt ⟨Rw.nil rfl,⟨[],Rw.nil rfl,rfl⟩,rfl,rfl⟩⟩ (put _ _ s)
theorem MT {x:an} {c:aL} {Q:aH->Hp->Prop} (a:eT h0 x c) (N:cP c) (o:Has h0 ((gB 6 eX r (List.replicate (nP c) zX)).star (gB 15 eY r1 (List.replicate (nQ c) zY))) k)
  (U:∀y d,h0<=d->dw d y ((oZ c).list c)->Q y d):aB (α1:=Int) (λP b G=>
 (if (decide (b<((r.len:Nat):Int)))=true then
 da (λk=>
 (bc [(.int .i64 (-1:Int))] (λa g=>
 ((True/\(True/\(True/\(True/\True))))/\(ae prog vQ [(.slice (some a) 1 1),(.int .i64 x.bE)] aw (λr2 m=>
 ((True/\(True/\(True/\True)))/\((bI r.base r.len b)/\(dU 24 [(.slice none 0 0)] x.bE x.bE (λu l=>
 ((True/\(True/\True))/\cX l (Addr.add (sat r.base 6 b) 4) [r2.v] (λq=>
 ((True/\True)/\((bI r.base r.len b)/\cX q (Addr.add (sat r.base 6 b) 5) [u.v] (λs=>
 k s)))))) m/\cX m (Addr.add (sat r.base 6 b) 4) [r2.v] (λl=>
 ((True/\(True/\True))/\dU 24 [(.slice none 0 0)] x.bE x.bE (λu q=>
 ((True/\(True/\True))/\((bI r.base r.len b)/\cX q (Addr.add (sat r.base 6 b) 5) [u.v] (λs=>
 k s)))) l)))))) g/\dU 24 [(.slice none 0 0)] x.bE x.bE (λr2 m=>
 ((True/\(True/\(True/\True)))/\ae prog vQ [(.slice (some a) 1 1),(.int .i64 x.bE)] aw (λu l=>
 ((True/\(True/\(True/\True)))/\((bI r.base r.len b)/\cX l (Addr.add (sat r.base 6 b) 4) [u.v] (λq=>
 ((True/\(True/\True))/\((bI r.base r.len b)/\cX q (Addr.add (sat r.base 6 b) 5) [r2.v] (λs=>
 k s))))))) m)) g))) G/\dU 24 [(.slice none 0 0)] x.bE x.bE (λr2 g=>
 ((True/\(True/\(True/\True)))/\bc [(.int .i64 (-1:Int))] (λa m=>
 ((True/\(True/\(True/\(True/\True))))/\ae prog vQ [(.slice (some a) 1 1),(.int .i64 x.bE)] aw (λu l=>
 ((True/\(True/\(True/\True)))/\((bI r.base r.len b)/\cX l (Addr.add (sat r.base 6 b) 4) [u.v] (λq=>
 ((True/\(True/\True))/\((bI r.base r.len b)/\cX q (Addr.add (sat r.base 6 b) 5) [r2.v] (λs=>
 k s))))))) m)) g)) G))
 (λg=>
 P (yw (b+(1:Int))) g)
 else
 aB (α1:=Int) (λR E g=>
 (if (decide (E<((r1.len:Nat):Int)))=true then
 dU 64 [(.slice none 0 0),(.slice none 0 0),(.int .i64 (0:Int)),(.int .i64 (0:Int))] (yw (((x.aQ.len:Nat):Int)+(1:Int))) (yw (((x.aQ.len:Nat):Int)+(1:Int))) (λr2 m=>
 ((True/\True)/\((bI r1.base r1.len E)/\cX m (Addr.add (sat r1.base 15 E) 14) [r2.v] (λl=>
 R (yw (E+(1:Int))) l)))) g
 else
 Q ⟨(0:Int),r,r1⟩ g)) (0:Int) G)) (0:Int) k:=by
 have a8:=N.parts;have a9:=N.procs;have Y:nP c=c.labels.length:=rfl;have Z:x.aQ.len=c.labels.length:=a.labels.1;have W:r.len=nP c:=by have:=(Has.left o).ym.jR;grind
 have X:r1.len=nQ c:=by have:=(Has.right o).ym.jR;grind
 refine aB.intro (λ(t:Int) d=>0<=t/\t<=(nP c:Int)/\∃hb done,h0<=hb/\dR (jB hb) done (List.replicate t.toNat (zQ c.ag))/\Has hb ((gB 6 eX r (done++List.replicate (nP c-t.toNat) zX)).star (gB 15 eY r1 (List.replicate (nQ c) zY))) d) (λt _=>(nP c-t).toNat) ⟨by omega,by omega,h0,[],Hp.le_refl _,trivial,by simpa using o⟩ ?_;rintro t k1 ⟨t0,t1,hb,done,lb,hd,o1⟩;have O:=hd.len;rw [List.length_replicate] at O;by_cases h:t<(nP c:Int)
 ·rw [if_pos (iW)];have A:((t.toNat:Nat):Int)=t:=by omega
  refine da.direct ?_;have J:(done++List.replicate (nP c-t.toNat) zX)[t.toNat]? =some zX:=by grind
  rw [a.ag];have key:=ac7 (i:=t.toNat) (r:=r) (K:=λd=>(0<=yw (t+1)/\yw (t+1)<=(nP c:Int)/\∃hb done,h0<=hb/\dR (jB hb) done (List.replicate (yw (t+1)).toNat (zQ c.ag))/\Has hb ((gB 6 eX r (done++List.replicate (nP c-(yw (t+1)).toNat) zX)).star (gB 15 eY r1 (List.replicate (nQ c) zY))) d)/\(nP c-yw (t+1)).toNat<(nP c-t).toNat) o1 J N.ag λy H d w C D=>by
   rw [aV,show (t+1).toNat=t.toNat+1 by omega];refine ⟨⟨by omega,by omega,H,done++ [y],Hp.le_trans lb w,?_,?_⟩,by omega⟩
   ·rw [List.replicate_succ'];exact FO C (hd.imp λ_ _ e=>e.mono w)
   ·rw [List.set_append_right _ _ (by omega),O,Nat.sub_self,show nP c-t.toNat=(nP c-(t.toNat+1))+1 by omega,List.replicate_succ,List.set_cons_zero] at D;grind
  rw [A] at key;exact key
 ·rw [if_neg (λe=>h (by grind))];have A:t.toNat=nP c:=by omega
  rw [A,Nat.sub_self,List.replicate_zero,List.append_nil] at o1;rw [A] at hd;refine aB.intro (λ(j:Int) d=>0<=j/\j<=(nQ c:Int)/\∃p f,hb<=p/\dR (eO p) f (List.replicate j.toNat (zR (nP c+1)))/\Has p ((gB 6 eX r done).star (gB 15 eY r1 (f++List.replicate (nQ c-j.toNat) zY))) d) (λj _=>(nQ c-j).toNat) ⟨by omega,by omega,hb,[],Hp.le_refl _,trivial,by simpa using o1⟩ ?_;rintro j V ⟨j0,j1,p,f,L,B,z⟩;have I:=B.len;rw [List.length_replicate] at I;by_cases T:j<(nQ c:Int)
  ·rw [if_pos (iW)];have F:((j.toNat:Nat):Int)=j:=by omega
   have J:(f++List.replicate (nQ c-j.toNat) zY)[j.toNat]? =some zY:=by rw [List.getElem?_append_right (by omega),I,Nat.sub_self,List.getElem?_replicate,if_pos (by omega)]
   rw [wrap64 (n:=(x.aQ.len:Int)+1) (by omega) (by omega)];have S:((x.aQ.len:Int)+1).toNat=nP c+1:=by omega
   have key:=ac8 (i:=j.toNat) (r1:=r1) (n:=(x.aQ.len:Int)+1) (K:=λd=>(0<=yw (j+1)/\yw (j+1)<=(nQ c:Int)/\∃p f,hb<=p/\dR (eO p) f (List.replicate (yw (j+1)).toNat (zR (nP c+1)))/\Has p ((gB 6 eX r done).star (gB 15 eY r1 (f++List.replicate (nQ c-(yw (j+1)).toNat) zY))) d)/\(nQ c-yw (j+1)).toNat<(nQ c-j).toNat) z J (by omega) λy H d w C D=>by
    rw [aV,show (j+1).toNat=j.toNat+1 by omega];refine ⟨⟨by omega,by omega,H,f++ [y],Hp.le_trans L w,?_,?_⟩,by omega⟩
    ·rw [List.replicate_succ'];rw [S] at C;exact FO C (B.imp λ_ _ e=>e.mono w)
    ·rw [List.set_append_right _ _ (by omega),I,Nat.sub_self,show nQ c-j.toNat=(nQ c-(j.toNat+1))+1 by omega,List.replicate_succ,List.set_cons_zero] at D;rw [List.append_assoc];exact D
   grind
  ·rw [if_neg (λe=>T (by grind))];have F:j.toNat=nQ c:=by omega
   rw [F,Nat.sub_self,List.replicate_zero,List.append_nil] at z;rw [F] at B;have M:=z.le;refine U _ V (Hp.le_trans lb (Hp.le_trans L M)) ⟨rfl,⟨done,(Has.left z).pT λ_=>rfl,?_⟩,f,(Has.right z).pT λ_=>rfl,?_⟩
   ·have e:((oZ c).list c).parts=List.replicate (nP c) (zQ c.ag):=by show (List.range (nP c)).map (λ_=>zQ c.ag)=_;rw [List.map_const',List.length_range]
    rw [e];exact hd.imp λ_ _ e=>e.mono (Hp.le_trans L M)
   ·have e:((oZ c).list c).procs=List.replicate (nQ c) (zR (nP c+1)):=by show (List.range (nQ c)).map (λ_=>zR (nP c+1))=_;rw [List.map_const',List.length_range]
    rw [e];exact B.imp λ_ _ e=>e.mono M
theorem Y3 {x:an} {c:aL} {Q:aH->Hp->Prop} (a:eT k x c) (e:cP c) (g:∀y f,k<=f->dw f y ((oZ c).list c)->Q y f):zts prog x Q k:=by
 unfold zts;have v:=e.parts;have C:=e.procs;have t:nP c=c.labels.length:=rfl;have B:nQ c=c.procs.length:=rfl;have u:x.aQ.len=c.labels.length:=a.labels.1;obtain ⟨s,j,h⟩:=a.procs;have w:=h.len;have A:x.aD.len=s.length:=j.1;refine ⟨?_,?_⟩
 ·refine Cg (sz:=6) (z:=zX) (enc:=eX) rfl (λ_=>rfl) (by omega) (by omega) λl m o b=>⟨⟨trivial,trivial⟩,?_⟩;refine Cg (sz:=15) (z:=zY) (enc:=eY) rfl (λ_=>rfl) (by omega) (by omega) λp n q d=> ?_;rw [show ((x.aQ.len:Int)).toNat=nP c by omega] at b;rw [show ((x.aD.len:Int)).toNat=nQ c by omega] at d;exact MT a e (b.beside d) g
 ·refine Cg (sz:=15) (z:=zY) (enc:=eY) rfl (λ_=>rfl) (by omega) (by omega) λp m o b=>⟨⟨trivial,trivial⟩,?_⟩;refine Cg (sz:=6) (z:=zX) (enc:=eX) rfl (λ_=>rfl) (by omega) (by omega) λl n q d=>⟨⟨trivial,trivial⟩,?_⟩;rw [show ((x.aQ.len:Int)).toNat=nP c by omega] at d;rw [show ((x.aD.len:Int)).toNat=nQ c by omega] at b;exact MT a e (b.beside d).comm g
end
end Lf
namespace Go.Proofs
open Go.RowKit Go.Shelf
attribute [local go_sem] Oper.semAt_some
def yC (cur len:Int) (j:Nat):Int:=(wrap64 (cur+(j:Int))).tmod len
abbrev HX (len:Nat):={x:Int // 0<=x/\x<(len:Int)}
def qp {a:Type} (num:Nat->a) (k:Nat):List a:=(List.range k).map num
theorem lZ {a:Type} {num:Nat->a} {k:Nat}:qp num (k+1)=qp num k++ [num k]:=by simp [qp,List.range_succ]
theorem aca {a:Type} {num:Nat->a} {k:Nat}:(qp num k).length=k:=by simp [qp]
set_option maxHeartbeats 2000000 in
theorem Wl (n:Nat) (hn:1<=n) (l A A1:Nat) (cur:Int) (len:Nat) (hlen:0<len) (hl2:len<=1000) (num:Nat->HX len) (hnum:∀j,j<len->yC cur len j=(num j).1) (Kp:World->World->Prop) (hkp:∀W W',Kp W W'->W'.cell? ⟨A,0,none⟩=W.cell? ⟨A,0,none⟩/\W'.cell? ⟨A1,0,none⟩=W.cell? ⟨A1,0,none⟩) (J Jx:List (HX len)->World->Prop)
  (hY:∀pre x W,J pre W->pre.length<len->YieldAt Fence.wide (n-1) Tryz.prog l #[.int .i64 x.1] W λe W'=>
   (e=.returned (.bool true)/\J (pre++ [x]) W'/\Kp W W')\/(e=.returned (.bool false)/\Jx (pre++ [x]) W'))
  (W:World) (hA:W.cell? ⟨A,0,none⟩=some (.int .i64 cur)) (hA1:W.cell? ⟨A1,0,none⟩=some (.int .i64 (len:Int))) (h0:J [] W):
  CallsIn Fence.wide n Tryz.prog 312 #[.func (.yield l) #[] #[],.pointer (some ⟨A1,0,none⟩),.pointer (some ⟨A,0,none⟩)] W λe W'=>(∃v,e=.returned v)/\
   ((∃ys,ys=qp num len/\J ys W')\/(∃pre,(∃k,k<=len/\pre=qp num k)/\Jx pre W')):=by
 refine callsIn_of_wp Tryz.func312 rfl trivial ?_ rfl;simp only [Tryz.ntmps312,List.size_toArray,List.length_cons,List.length_nil,Nat.reduceAdd,Nat.reduceSub,Array.replicate_succ,Array.replicate_zero,List.push_toArray,List.append_toArray,List.nil_append,List.cons_append]
 gi_wp2
 gi_loopw [6] (λi wr=>∃k:Nat,k<=len/\i=.int .i64 (k:Int)/\J (qp num k) wr/\wr.cell? ⟨A,0,none⟩=some (.int .i64 cur)/\wr.cell? ⟨A1,0,none⟩=some (.int .i64 (len:Int)))
  (λi _=>len-(intOf i).toNat)
 case atStart=>exact ⟨0,Nat.zero_le _,rfl,h0,hA,hA1⟩
 case round=>
  obtain ⟨k,hk,rfl,hJs,hcA,hcA1⟩:=hrel;by_cases hlt:k<len
  ·obtain ⟨fn,tmps,assign,body,hy,hR⟩:=hY _ (num k) wr hJs (by rw [aca];exact hlt);rw [<-hnum k hlt] at hy;unfold yC at hy
   gi_wp2
   refine hR.mono ?_;rintro e W3 (⟨rfl,hJ3,hk3⟩ | ⟨rfl,hJx3⟩)
   ·gi_wp2
    go_roundw
    case rel=>exact ⟨k+1,by omega,by simp,by rw [lZ];exact hJ3,(hkp _ _ hk3).1.trans hcA,(hkp _ _ hk3).2.trans hcA1⟩
    case measure=>simp [intOf];omega
   ·gi_wp2
    refine bodyPost_ret (results_none rfl _ _ _) rfl ?_;exact ⟨⟨_,rfl⟩,.inr ⟨_,⟨k+1,by omega,lZ.symm⟩,hJx3⟩⟩
  ·obtain rfl:k=len:=by omega
   gi_wp2
   go_end0
   exact ⟨⟨_,rfl⟩,.inl ⟨_,rfl,hJs⟩⟩
end Go.Proofs
namespace Lf
open Go Go.Proofs Tryz
noncomputable def ny :Code:=match zB f214 with
 | .seq _ (.scope (.seq _ (.seq _ (.seq _ t))))=>t
 | _=>.skip
def vM :List Nat:=[1,3,4]
def CV :j3:=.sq .tt (.sq (.rg [(0,[]),(1,[]),(2,[]),(3,[]),(4,[]),(5,[]),(6,[]),(7,[]),(8,[]),(9,[]),(10,[]),(11,[])]) (.sq (.rg [(0,[]),(1,[]),(2,[]),(3,[]),(4,[]),(5,[]),(6,[]),(7,[]),(8,[]),(9,[]),(10,[]),(11,[]),(12,[]),(13,[]),(14,[]),(15,[]),(16,[])]) (.sq (.rg [(0,[]),(1,[]),(2,[]),(3,[]),(4,[]),(5,[]),(6,[2]),(7,[]),(8,[]),(9,[])]) .tt)))
noncomputable def yz :Ctx:=⟨prog,tb,vM⟩
def lX (p:Option Addr) (lane:Int):St where
 f:=λt=>match t with
  | 1=>some (.box 1 0,[])
  | 2=>some (.v (.int .i64 0),[])
  | 3=>some (.box 3 0,[])
  | 4=>some (.box 4 0,[])
  | 5=>some (.v (.bool false),[])
  | 6=>some (.v (.int .i64 0),[])
  | _=>none
 m:=λk=>match k with
  | 1=>some [.pointer p]
  | 3=>some [.int .i64 lane]
  | 4=>some [.int .i64 0,.int .i64 0]
  | _=>none
noncomputable def Iz (K:(bC tb f214.resultTypes.toList).T->Hp->Prop):Env:=λe s h=>match e with
 | .gZ | .ret=>wH yz s h f214.results.toList f214.resultTypes.toList K
 | _=>False
noncomputable def tQ (p:Option Addr) (lane:Int) (K:(bC tb f214.resultTypes.toList).T->Hp->Prop) (h:Hp):Prop:=
 liftM yz ny .full CV vM (lX p lane) (Iz K) h
end Lf
namespace Go.Proofs
open Go.RowKit Go.Shelf
attribute [local go_sem] Oper.semAt_some
theorem wP {w:World} {o:Obj} {b:Nat}:(w.alloc o).heap[b]? =if b=w.heap.size then some o else w.heap[b]?:=by show (w.heap.push o)[b]? =_;grind
theorem Hb {W:World} {b i:Nat} {a:Array Value} {t:TypeId} (h:W.heap[b]? =some (.cells a t (0,0))):W.cell? ⟨b,i,none⟩=a[i]?:=by simp [World.cell?,h]
theorem Bt {W a:World} {b i:Nat} (h:a.heap[b]? =W.heap[b]?):a.cell? ⟨b,i,none⟩=W.cell? ⟨b,i,none⟩:=by simp [World.cell?,h]
structure Df (B c:Nat) (W2:World) (v:Int) (W:World):Prop where
 same:∀b,b<B->b≠c->W.heap[b]? =W2.heap[b]?
 box:W.heap[c]? =some (.cells #[.int .i64 v] 3)
 size:B<=W.heap.size
 os:W.os=W2.os
 tape:W.tape=W2.tape
 output:W.output=W2.output
theorem Df.grown {B c:Nat} {f W d:World} {v:Int} {row:Option Nat} (g:Df B c f v W) (h:c<B) (a:W.grownBy d row) (j:∀r,row=some r->B<=r/\∃o:Obj,W.heap[r]? =some o/\o.isCells=false):Df B c f v d:=by
 have key:∀b,b<B->d.heap[b]? =W.heap[b]?:=λb hb=>a.block b (Nat.lt_of_lt_of_le hb g.size) λe=>by grind
 exact ⟨λb hb i=>(key b hb).trans (g.same b hb i),(key c h).trans g.box,Nat.le_trans g.size a.size,a.os.trans g.os,a.tape.trans g.tape,a.output.trans g.output⟩
theorem aco {n:Nat} {d:Nat->Nat} {s:Lf.St} {a:Act} {h:Lf.Hp} {w:World} {D:Nat} (r:Lf.Rel n d s a h w) (q:h D=none) (t:w.heap[D]? =some (.deferred (some []))) (o:Obj):Lf.Rel n d s a h (w.putObj D o) where
 sz:=r.sz
 sub:=λb p e=>by
  have c:b≠D:=λi=>by grind
  rw [World.putObj_heap_other c];exact r.sub b p e
 lt:=r.lt
 chain:=r.chain
 cur:=r.cur
 cH:=r.cH
 box:=λk f e m=>by
  obtain ⟨j,g,l⟩:=r.box k f e m;have c:d k≠D:=λi=>by grind
  exact ⟨j,g,by rw [World.putObj_heap_other c];exact l⟩
 inj:=r.inj
 mL:=r.mL
 ly:=r.ly
abbrev Fa (p:Addr) (w:World) (b c d a:Value):Array Value:= #[Value.pointer (some p),Value.pointer (some {block:=w.heap.size,off:=0}),Value.int IntKind.i64 0,Value.pointer (some {block:=w.heap.size+1,off:=0}),Value.pointer (some {block:=w.heap.size+1+1,off:=0}),Value.bool false,Value.int IntKind.i64 0,b,c,d,a,undef,undef,undef,undef,undef,undef,undef,undef,undef,undef,undef,undef,undef,undef,undef,undef,undef,undef,undef,undef,undef,undef,undef,undef,undef,undef,undef,undef,undef,undef,undef,undef,undef,undef,undef,undef,undef,undef,undef,undef,undef,undef]
theorem abe {k:Lf.Hp} {p:Addr} {w W:World} {D:Nat} {v:Int} {Q R S P:Value} {K:(Lf.bC Lf.tb Tryz.f214.resultTypes.toList).T->Lf.Hp->Prop} (E:Lf.Sub k w)
  (s:Below w.heap.size w W) (b0:W.heap[w.heap.size]? =some (.cells #[.pointer (some p)] 126)) (b1:W.heap[w.heap.size+1]? =some (.cells #[.int .i64 v] 3)) (b2:W.heap[w.heap.size+2]? =some (.cells #[.int .i64 0,.int .i64 0] 254))
  (G:w.heap.size+3<=D) (H:W.heap[D]? =some (.deferred (some []))) (ht:Lf.tQ (some p) v K k):
  Lf.ny.wp Tryz.prog (Exit.noGoto (bodyPostM Fence.wide 3 Tryz.prog Tryz.f214 λe y=>∃u g,e=.returned u/\(∃x,u=(Lf.bC Lf.tb Tryz.f214.resultTypes.toList).enc x/\K x g)/\Lf.Step k g w y))
   {tmps:=Fa p w Q R S P,defers:=[{target:=.collected D,args:= #[]}]} W:=by
 have b5:Lf.Sub k W:=λb o e=>(s.block b (E.lt e)).trans (E b o e);have b4:∀b,w.heap.size<=b->k b=none:=λb hb=>by
  cases e:k b with
  | none=>rfl
  | some o=>have:=E.lt e;omega
 have Z:Lf.Rel 53 (λk=>if k=1 then w.heap.size else if k=3 then w.heap.size+1 else w.heap.size+2) (Lf.lX (some p) v) {tmps:=Fa p w Q R S P,defers:=[{target:=.collected D,args:= #[]}]} k W:=by
  have O:∀(t:Nat) (l:Lf.LV) (c:Lf.bp),(Lf.lX (some p) v).f t=some (l,c)->c=[]/\(t=1/\l=.box 1 0\/t=2/\l=.v (.int .i64 0)\/t=3/\l=.box 3 0\/t=4/\l=.box 4 0\/t=5/\l=.v (.bool false)\/t=6/\l=.v (.int .i64 0)):=λt l c e=>by unfold Lf.lX at e;dsimp only at e;split at e<;>cases e<;>simp
  have cell:∀(k:Nat) (d:List Value),(Lf.lX (some p) v).m k=some d->k=1/\d=[.pointer (some p)]\/k=3/\d=[.int .i64 v]\/k=4/\d=[.int .i64 0,.int .i64 0]:=λk d e=>by unfold Lf.lX at e;dsimp only at e;split at e<;>cases e<;>simp
  refine ⟨rfl,b5,λt l c e=> ?_,λt l c e q hq=> ?_,λt l c e _ _=> ?_,λt l c e _ I=> ?_,λa d e _=> ?_,λA B U V _ _ z=> ?_,λ_ e=>e.elim,λ_ e=>e.elim⟩
  ·grind
  ·grind
  ·obtain ⟨_,h | h | h | h | h | h⟩:=O t l c e<;>obtain ⟨rfl,rfl⟩:=h<;>exact ⟨rfl,λ_ _ _=>trivial⟩
  ·rw [(O t l c e).1] at I;exact absurd (Lf.bY _) I
  ·grind
  ·have c1:A=1\/A=3\/A=4:=by
    cases e:(Lf.lX (some p) v).m A with
    | none=>exact absurd e U
    | some d=>rcases cell A d e with h | h | h<;>simp [h.1]
   have c2:B=1\/B=3\/B=4:=by
    cases e:(Lf.lX (some p) v).m B with
    | none=>exact absurd e V
    | some d=>rcases cell B d e with h | h | h<;>simp [h.1]
   grind
 have C:∀a∈Lf.vM,∀b,b<w.heap.size\/w.heap.size+3<=b->(if a=1 then w.heap.size else if a=3 then w.heap.size+1 else w.heap.size+2)≠b:=λa _ b hb e=>by grind
 refine Lf.pN Lf.cD Lf.ny Lf.CV Lf.vM _ _ k (Lf.rj (n:=53) (by kernel_rfl)) ht _ _ W Z _ λe s' g b6 F y z Y r=> ?_;have uz:D<W.heap.size:=Lf.iH H;have dn:k D=none:=b4 D (by omega);have N:y.heap[D]? =some (.deferred (some [])):=(r.bO D uz dn λa j _=>C a j D (.inr G)).trans H;have X:g D=none:=r.zW D uz dn λa j _=>C a j D (.inr G);have fin:Lf.wH Lf.yz s' g Tryz.f214.results.toList Tryz.f214.resultTypes.toList K->LeavesInM Fence.wide 3 Tryz.prog Tryz.f214 F.tmps (λe y=>∃u g,e=.returned u/\(∃x,u=(Lf.bC Lf.tb Tryz.f214.resultTypes.toList).enc x/\K x g)/\Lf.Step k g w y) F.defers .returning y:=λa8=>by
  rw [r.defers];refine ⟨by simp,.inl ⟨_,_,rfl,run_takeDeferred N,?_⟩⟩;have M:=aco Y X N (.deferred none);obtain ⟨x,vs,j,a9,b3⟩:=Lf.tM Lf.cD M a8;refine ⟨_,Lf.oj a9,_,g,rfl,⟨x,b3,j⟩,M.sub,?_,λb hb L=> ?_,?_,?_,?_⟩
  ·have:=r.size;have:=s.size;simp;omega
  ·have J:b<W.heap.size:=Nat.lt_of_lt_of_le hb s.size;refine ⟨?_,r.zW b J L λa j _=>C a j b (.inl hb)⟩;rw [World.putObj_heap_other (by omega),r.bO b J L λa j _=>C a j b (.inl hb)];exact s.block b hb
  ·exact r.os.trans s.os
  ·exact r.tape.trans s.tape
  ·exact r.output.trans s.output
 cases e with
 | gZ=>exact fin z
 | ret=>exact fin z
 | ext i=>exact z.elim
 | lG i=>exact z.elim
end Go.Proofs
namespace Go.Proofs
open Go.RowKit Go.Shelf
attribute [local go_sem] Oper.semAt_some
theorem abh {W:World} {b i:Nat} {a:Array Value} {t:TypeId} (h:W.heap[b]? =some (.cells a t (0,0))):W.frozen? ⟨b,i,none⟩=false:=by simp [World.frozen?,h]
theorem ac9 {W:World} {b c i:Nat} {v:Value} (h:b≠c):(W.setCell ⟨c,i,none⟩ v).heap[b]? =W.heap[b]?:=by show (W.heap.modify c _)[b]? =_;grind
theorem adX {W:World} {c:Nat} {u v:Value} {t:TypeId} (h:W.heap[c]? =some (.cells #[u] t (0,0))):(W.setCell ⟨c,0,none⟩ v).heap[c]? =some (.cells #[v] t (0,0)):=by show (W.heap.modify c _)[c]? =_;grind
set_option maxHeartbeats 4000000 in
theorem abk {k:Lf.Hp} {pb:Nat} {ai:Int} {len:Nat} {ptr:Nat->Addr} {fk:Nat->Nat} {w:World} {Kq:(Lf.bC Lf.tb Tryz.f214.resultTypes.toList).T->Lf.Hp->Prop} (hs:Lf.Sub k w)
  (hl:0<len/\len<=1000) (num:Nat->HX len) (hnum:∀j,j<len->yC ai len j=(num j).1)
  (hround:∀W,Lf.Sub k W->Calls Tryz.prog 274 #[.pointer (some ⟨pb,0,none⟩)] W λe W'=>∃A A1:Nat,e=.returned (.func (.func 312) #[] #[.pointer (some ⟨A1,0,none⟩),.pointer (some ⟨A,0,none⟩)])/\(W.heap.size<=A/\A<W'.heap.size)/\(W.heap.size<=A1/\A1<W'.heap.size)/\
   W'.cell? ⟨A,0,none⟩=some (.int .i64 ai)/\W'.cell? ⟨A1,0,none⟩=some (.int .i64 (len:Int))/\Below W.heap.size W W')
  (lb:Nat) (lo lc:Nat) (hlane:∀W,Lf.Sub k W->W.cell? ⟨pb,0,none⟩=some (.slice (some ⟨lb,lo,none⟩) len lc))
  (hptr:∀j,j<len->∀W,Lf.Sub k W->W.cell? ⟨lb,lo+j,none⟩=some (.pointer (some (ptr j))))
  (hlen:∀j,j<len->∀W,Lf.Sub k W->Calls Tryz.prog 275 #[.pointer (some (ptr j))] W λe W'=>e=.returned (.int .i64 (fk j:Int))/\Below W.heap.size W W')
  (hno:(∀j,j<len->fk (num j).1.toNat=0)->Lf.tQ (some ⟨pb,0,none⟩) (-1) Kq k)
  (hyes:∀j,j<len->(∀i,i<j->fk (num i).1.toNat=0)->fk (num j).1.toNat≠0->Lf.tQ (some ⟨pb,0,none⟩) (num j).1 Kq k):
  Calls Tryz.prog 214 #[.pointer (some ⟨pb,0,none⟩)] w (λe w'=>∃u h',e=.returned u/\(∃x,u=(Lf.bC Lf.tb Tryz.f214.resultTypes.toList).enc x/\Kq x h')/\Lf.Step k h' w w'):=by
 refine callsIn_wide.1 (callsIn_of_wp_marks (n:=3) Tryz.func214 rfl trivial ?_ rfl);simp only [Tryz.ntmps214,List.size_toArray,List.length_cons,List.length_nil,Nat.reduceAdd,Nat.reduceSub,Array.replicate_succ,Array.replicate_zero,List.push_toArray,List.append_toArray,List.nil_append,List.cons_append]
 gi_wp2
 refine (show ∀T,T=Lf.ny->Code.wpIn Fence.wide 3 Tryz.prog (Code.scope (Code.seq _ (Code.seq _ (Code.seq (Code.seq _ (Code.block _ (Code.rangeFunc _ _ _ _))) T)))) _ _ _ from λT hT=> ?_) _ rfl;refine wpIn_wide.2 (wp_scope_straight ((wpIn_wide (n:=3)).1 (wpIn_seq_k λK1 hK1=> ?_)))
 gi_wp2
 rename_i K hK;refine wpIn_wide.2 (wp_label (hK _ _ ?_));clear hK;have hsz:(((w.alloc (Obj.cells #[Value.pointer (some ⟨pb,0,none⟩)] 126)).alloc (Obj.cells #[Value.int IntKind.i64 (-1)] 3)).alloc (Obj.cells #[Value.int IntKind.i64 0,Value.int IntKind.i64 0] 254)).heap.size=w.heap.size+3:=by simp
 obtain ⟨W0,hW0⟩:∃W0,((w.alloc (Obj.cells #[Value.pointer (some ⟨pb,0,none⟩)] 126)).alloc (Obj.cells #[Value.int IntKind.i64 (-1)] 3)).alloc (Obj.cells #[Value.int IntKind.i64 0,Value.int IntKind.i64 0] 254)=W0:=⟨_,rfl⟩;have b0:W0.heap[w.heap.size]? =some (.cells #[Value.pointer (some ⟨pb,0,none⟩)] 126):=by rw [<-hW0,wP,if_neg (by simp;omega),wP,if_neg (by simp),wP,if_pos rfl]
 have b1:W0.heap[w.heap.size+1]? =some (.cells #[Value.int IntKind.i64 (-1)] 3):=by rw [<-hW0,wP,if_neg (by simp),wP,if_pos (by simp)]
 have b2:W0.heap[w.heap.size+2]? =some (.cells #[Value.int IntKind.i64 0,Value.int IntKind.i64 0] 254):=by rw [<-hW0,wP,if_pos (by simp)]
 have bo:Below w.heap.size w W0:=by rw [<-hW0];exact (((Below.refl _ w).alloc (Nat.le_refl _) _).alloc (by simp) _).alloc (by simp;omega) _
 rw [hW0] at hsz ⊢;have c0:W0.cell? ⟨w.heap.size,0,none⟩=some (.pointer (some ⟨pb,0,none⟩)):=Hb b0;have hs0:Lf.Sub k W0:=λb o e=>(bo.block b (hs.lt e)).trans (hs b o e);have hr:=hround W0 hs0;refine wpIn_seq_k λK hK=> ?_
 gi_wp2_with (refine ⟨trivial,?_⟩;gi_at_call 274;refine (callsIn_wide.2 hr).mono ?_;rintro e W2 ⟨A,A1,rfl,hA,hA1,hcA,hcA1,hB⟩)
 clear hr hround;have cB:w.heap.size+1<W2.heap.size:=by omega
 have w0:W2.heap[w.heap.size]? =some (.cells #[Value.pointer (some ⟨pb,0,none⟩)] 126):=(hB.block _ (by omega)).trans b0;have w1:W2.heap[w.heap.size+1]? =some (.cells #[Value.int IntKind.i64 (-1)] 3):=(hB.block _ (by omega)).trans b1;have w2:W2.heap[w.heap.size+2]? =some (.cells #[Value.int IntKind.i64 0,Value.int IntKind.i64 0] 254):=(hB.block _ (by omega)).trans b2;have ww:Below w.heap.size w W2:=bo.trans (hB.mono (by omega));have subG:∀ {v W},Df W2.heap.size (w.heap.size+1) W2 v W->Lf.Sub k W/\Below w.heap.size w W/\W.heap[w.heap.size]? =some (.cells #[Value.pointer (some ⟨pb,0,none⟩)] 126)/\W.heap[w.heap.size+2]? =some (.cells #[Value.int IntKind.i64 0,Value.int IntKind.i64 0] 254):=λ{v W} g=>by have hb:Below w.heap.size w W:=⟨g.os.trans ww.os,g.tape.trans ww.tape,g.output.trans ww.output,by have:=g.size;omega,λb hb=>(g.same b (by omega) (by omega)).trans (ww.block b hb)⟩;exact ⟨λb o e=>(hb.block b (hs.lt e)).trans (hs b o e),hb,(g.same _ (by omega) (by omega)).trans w0,(g.same _ (by omega) (by omega)).trans w2⟩
 have tail:∀ {v W D} {x7 x8 x9 x10:Value},Df W2.heap.size (w.heap.size+1) W2 v W->W2.heap.size<=D->W.heap[D]? =some (.deferred (some []))->Lf.tQ (some ⟨pb,0,none⟩) v Kq k->
   K {tmps:=Fa ⟨pb,0,none⟩ w x7 x8 x9 x10,defers:=[{target:=.collected D,args:= #[]}]} W:=λ{v W D x7 x8 x9 x10} g hD hK2 ht=>by
  obtain ⟨q1,q2,q3,q4⟩:=subG g;refine hK _ _ (wpIn_wide.2 ?_);rw [hT];exact abe hs q2 q3 g.box q4 (by omega) hK2 ht
 refine wpIn_rangeFunc_ownF (α:=HX len) rfl (by decide) (gf:=312) (lb:= #[Value.pointer (some ⟨A1,0,none⟩),Value.pointer (some ⟨A,0,none⟩)]) rfl trivial (enters_of Tryz.func312 (by kernel_rfl) rfl)
  (encs:=λx=> #[.int .i64 x.1]) (Kp:=λW W'=>W'.cell? ⟨A,0,none⟩=W.cell? ⟨A,0,none⟩/\W'.cell? ⟨A1,0,none⟩=W.cell? ⟨A1,0,none⟩)
  (S:=λys=>ys=qp num len) (Sp:=λpre=>∃k,k<=len/\pre=qp num k) (N:=len) (w0:=W2)
  (λl J Jx W hW _ _ hY h0=>Wl 2 (by decide) l A A1 ai len hl.1 hl.2 num hnum _ (λ_ _ h=>h) J Jx hY W ((hW.cell (p:=⟨A,0,none⟩) hA.2).trans hcA) ((hW.cell (p:=⟨A1,0,none⟩) hA1.2).trans hcA1) h0)
  (λh1 h2=>⟨h2.1.trans h1.1,h2.2.trans h1.2⟩)
  (λW l o o' hl2 _ _ _=>⟨Bt (World.putObj_heap_other (by omega)),Bt (World.putObj_heap_other (by omega))⟩)
  (Below.refl _ _) (λ_=>rfl)
  (λpre W=>Df W2.heap.size (w.heap.size+1) W2 (-1) W/\∀y∈pre,fk y.1.toNat=0)
  (λc pre W=>c=.exit 0/\∃pre' x,pre=pre'++ [x]/\(∀y∈pre',fk y.1.toNat=0)/\fk x.1.toNat≠0/\Df W2.heap.size (w.heap.size+1) W2 x.1 W)
  (λs A B row hs hg hr=>⟨hs.1.grown cB hg hr,hs.2⟩)
  (λc s A B row hs hg hr=>by
   obtain ⟨e,pre',x,h1,h2,h3,h4⟩:=hs;exact ⟨e,pre',x,h1,h2,h3,h4.grown cB hg hr⟩)
  ⟨⟨λ_ _ _=>rfl,w1,Nat.le_refl _,rfl,rfl,rfl⟩,λy hy=>by cases hy⟩
  (λx=>{tmps:= #[Value.pointer (some ⟨pb,0,none⟩),Value.pointer (some ⟨w.heap.size,0,none⟩),Value.int IntKind.i64 0,Value.pointer (some ⟨w.heap.size+1,0,none⟩),Value.pointer (some ⟨w.heap.size+1+1,0,none⟩),Value.bool false,Value.int IntKind.i64 0,.int .i64 x.1,Value.pointer (some ⟨pb,0,none⟩),Value.func (Fn.func 312) #[] #[Value.pointer (some ⟨A1,0,none⟩),Value.pointer (some ⟨A,0,none⟩)],.int .i64 x.1,undef,undef,undef,undef,undef,undef,undef,undef,undef,undef,undef,undef,undef,undef,undef,undef,undef,undef,undef,undef,undef,undef,undef,undef,undef,undef,undef,undef,undef,undef,undef,undef,undef,undef,undef,undef,undef,undef,undef,undef,undef,undef],defers:=[]})
  ?assign ?body ?done ?stop
 case assign=>
  intro l x W K hK
  gi_wp2
  exact hK
 case body=>
  rintro l pre x W ⟨g,hz⟩ _;obtain ⟨q1,q2,q3,q4⟩:=subG g;have d0:W.cell? ⟨w.heap.size,0,none⟩=some (.pointer (some ⟨pb,0,none⟩)):=Hb q3;have d1:W.cell? ⟨pb,0,none⟩=some (.slice (some ⟨lb,lo,none⟩) len lc):=hlane W q1;have xl:x.1.toNat<len:=by have:=x.2;omega
  have x0:=x.2;have d2:W.cell? ⟨lb,lo+x.1.toNat,none⟩=some (.pointer (some (ptr x.1.toNat))):=hptr _ xl W q1;have hc:=hlen _ xl W q1;by_cases hv:fk x.1.toNat=0
  ·rw [hv] at hc
   gi_wp2_with (refine ⟨trivial,?_⟩;gi_at_call 275;refine (CallsIn.inRound l (callsIn_wide.2 hc)).mono ?_;rintro e W3 ⟨rfl,hB3⟩)
   have hlt:∀b o,W.heap[b]? =some o->W3.heap[b]? =some o:=λb o e=>(hB3.block b (Lf.iH e)).trans e;have gsz:=g.size;refine ⟨⟨hB3.size,λb o e _=>hlt b o e⟩,⟨Bt (hB3.block _ (by omega)),Bt (hB3.block _ (by omega))⟩,⟨λb hb hne=>(hB3.block b (by omega)).trans (g.same b hb hne),hlt _ _ g.box,Nat.le_trans g.size hB3.size,hB3.os.trans g.os,hB3.tape.trans g.tape,hB3.output.trans g.output⟩,λy hy=> ?_⟩;grind
  ·have hv2:0<fk x.1.toNat:=Nat.pos_of_ne_zero hv
   gi_wp2_with (refine ⟨trivial,?_⟩;gi_at_call 275;refine (CallsIn.inRound l (callsIn_wide.2 hc)).mono ?_;rintro e W3 ⟨rfl,hB3⟩;have hb3:=(hB3.block _ (Lf.iH g.box)).trans g.box;have hcb:W3.cell? ⟨w.heap.size+1,0,none⟩=some (.int .i64 (-1)):=Hb hb3;have hfb:W3.frozen? ⟨w.heap.size+1,0,none⟩=false:=abh hb3)
   have gsz:=g.size;refine ⟨⟨Nat.le_trans hB3.size (KeepsOthers.setCell _ _ _).size,λb o e ho=>(KeepsOthers.setCell _ _ _).same b o ((hB3.block b (Lf.iH e)).trans e) ho⟩,rfl,pre,x,rfl,hz,hv,?_⟩;have hset:(W3.setCell ⟨w.heap.size+1,0,none⟩ (.int .i64 x.1))=(W3.setCell ⟨w.heap.size+1,0,none⟩ (.int .i64 x.1)):=rfl;refine ⟨λb hb hne=> ?_,?_,?_,hB3.os.trans g.os,hB3.tape.trans g.tape,hB3.output.trans g.output⟩
   ·rw [ac9 hne];exact (hB3.block b (by omega)).trans (g.same b hb hne)
   ·exact adX hb3
   ·exact Nat.le_trans g.size (Nat.le_trans hB3.size (KeepsOthers.setCell _ _ _).size)
 case done=>
  rintro D ys W hD rfl ⟨g,hz⟩ hK2
  gi_wp2
  refine tail (x7:=undef) (x8:=Value.pointer (some ⟨pb,0,none⟩)) (x9:=Value.func (Fn.func 312) #[] #[Value.pointer (some ⟨A1,0,none⟩),Value.pointer (some ⟨A,0,none⟩)]) (x10:=undef) g hD hK2 (hno λj hj=>hz _ ?_);exact List.mem_map.2 ⟨j,List.mem_range.2 hj,rfl⟩
 case stop=>
  rintro D c pre W hD hSp ⟨rfl,pre',x,h1,h2,h3,g⟩ hK2
  gi_wp2
  obtain ⟨k1,hk1,e1⟩:=hSp;rw [h1] at e1;cases k1 with
  | zero=>simp [qp] at e1
  | succ j=>
   rw [lZ] at e1;obtain ⟨e2,e3⟩:=List.append_inj' e1 rfl;have e3:x=num j:=by simpa using e3
   refine tail (x7:=undef) (x8:=Value.pointer (some ⟨pb,0,none⟩)) (x9:=Value.func (Fn.func 312) #[] #[Value.pointer (some ⟨A1,0,none⟩),Value.pointer (some ⟨A,0,none⟩)]) (x10:=undef) g hD hK2 ?_;rw [e3];refine hyes j (by omega) (λi hi=> ?_) (by grind);exact h2 _ (by rw [e2];exact List.mem_map.2 ⟨i,List.mem_range.2 hi,rfl⟩)
end Go.Proofs
namespace Lf
open Go Go.Proofs Go.RowKit
def Fb (P:Program) (p:Option Addr) (lane:Int) (Q:(Int->(Int->(bN->(Bool->(Int->(Hp->Prop))))))) (h:Hp):Prop:=
 (if (decide (lane<(0:Int)))=true then
 Q (0:Int) (0:Int) ⟨(0:Int),(0:Int)⟩ false (21:Int) h
 else
 ah none p λd=>
 aN none aw h (Addr.add d 0) λx=>
 (((x.len:Nat):Int)≠(0:Int)/\ah none p λe=>
 cX h (Addr.add e 1) [(.int .i64 (Int.tmod (yw (lane+(1:Int))) ((x.len:Nat):Int)))] (λa=>
 ah none p λf=>
 aN none aw a (Addr.add f 0) λb=>
 ((bI b.base b.len lane)/\aN none al a (sat b.base 1 lane) λj=>
 lJ P zru [(.pointer j)] (af .i64) aC bH (af .i64) (λr g r2 i c=>
 ((True/\True)/\Q r lane g r2 i c)) a))))
theorem Nc (p:Option Addr) (lane:Int) (Q:Int->Int->bN->Bool->Int->Hp->Prop) (h:Hp):tQ p lane (λx a=>Q x.1 x.2.1 x.2.2.1 x.2.2.2.1 x.2.2.2.2 a) h=Fb Tryz.prog p lane Q h:=by kernel_rfl
section
variable {h0 k:Hp}
theorem LD {h:Hp} {a:Addr} {b:List Value} {i:Nat} {v:Value} (l:aZ h a b) (e:b[i]? =some v):dy h (a.add i)=some v:=l i v e
theorem adY {P:Program} {g:FuncId} {args:List Value} {sh:Shape} {K:sh.T->Hp->Prop} {w:World} (c:Sub k w) (f:ae P g args sh (λx a=>a=k/\K x a) k):Calls P g args.toArray w λe d=>∃x,e=.returned (sh.enc x)/\K x k/\Below w.heap.size w d:=by
 refine (f w c).mono ?_;rintro e d ⟨v,a,rfl,⟨x,rfl,rfl,h⟩,st⟩;refine ⟨x,rfl,h,st.os,st.tape,st.output,st.size,λb hb=> ?_⟩;cases e:a b with
 | none=>exact (st.bO b hb e).1
 | some o=>rw [st.sub b o e,c b o e]
theorem Ch {a:Type} {l:List a} {i:Nat} {d:a} (h:i<l.length):l[i]? =some (l.getD i d):=by grind
theorem NM {b:Type} {f:b->Value}:∀ {l:List b},l.flatMap (λa=> [f a])=l.map f
 | []=>rfl
 | a::r=>by rw [List.flatMap_cons,NM,List.map_cons];rfl
theorem Wp {a:Type} {n:Nat} {f:Nat->a} {q:a->Bool} (h:∀j,j<n->q (f j)=false):((List.range n).map f).find? q=none:=by grind
theorem Ws {a:Type} {n:Nat} {f:Nat->a} {q:a->Bool} {j:Nat} (c:j<n) (h:∀i,i<j->q (f i)=false) (b:q (f j)=true):((List.range n).map f).find? q=some (f j):=by
 have e:List.range n=List.range j++j::(List.range (n-j-1)).map (λi=>j+1+i):=by rw [show n=j+(1+(n-j-1)) by omega,List.range_add,List.range_add];simp [Nat.add_assoc]
 grind
theorem LF :BI:=by
 intro h0 k p room ai f Q o hl d0 c0 c5;obtain ⟨x,s,e1,H,C⟩:=o.pX;obtain ⟨q,rfl,c9,d1⟩:=(Has.left C).sr;have b9:=C.right.left.jR;have c3:Rw k 1 eP x.ak s:=C.right.left.mO λ_=>rfl;have U:0<f.length:=by omega
 obtain ⟨L,M,c8,b8⟩:∃L M,x.ak.base=some ⟨L,M,none⟩/\aZ k ⟨L,M,none⟩ (s.flatMap eP):=by
  obtain ⟨_,F,⟨q1,q2,q3⟩,_⟩:=C.right.left;rcases q3 with ⟨h,_⟩ | ⟨b,off,cs,h1,_⟩
  ·omega
  ·rcases c3.2.2 with h | ⟨a,h3,h4⟩
   ·omega
   grind
 have b6:∀j,j<f.length->(s.flatMap eP)[j]? =some (.pointer (some (s.getD j a0))):=λj l=>by rw [show s.flatMap eP=s.map λa=>Value.pointer (some a) from NM,List.getElem?_map,Ch (d:=a0) (by omega)];rfl
 have D:Has h0 (dZ RG ⟨q,0,none⟩ x) k:=Has.left C;have b7:dy k ⟨q,0,none⟩=some x.ak.v:=LD (i:=0) (D.fG (off:=0) (n:=2) (vs:=[x.ak.v,.int .i64 x.ai]) rfl) rfl;have c1:Has h0 (eJ ⟨q,0,none⟩ room f ai) k:=C.lU e1 H;let num:Nat->HX f.length:=λj=>⟨(((ai.toNat+j)%f.length:Nat):Int),by omega,by have:=Nat.mod_lt (ai.toNat+j) U;omega⟩;let fk:Nat->Nat:=λj=>(f.getD j nm).values.length;have S:∀j,j<f.length->((match f[(ai.toNat+j)%f.length]? with | some x=> !x.values.isEmpty | none=>false)=true↔fk (num j).1.toNat≠0):=λj l=>by have I:=Nat.mod_lt (ai.toNat+j) U;grind
 have key:vq Tryz.prog zrr [.pointer (some ⟨q,0,none⟩)] (λv g=>∃x,v=(bC tb Tryz.f214.resultTypes.toList).enc x/\(λ(x:(Co (af .i64) (af .i64) aC bH (af .i64)).T) g=>Q x.1 x.2.1 x.2.2.1 x.2.2.2.1 x.2.2.2.2 g) x g) k:=by
  intro w hs;refine abk (len:=f.length) (ai:=ai) (ptr:=λj=>s.getD j a0) (fk:=fk) (num:=num) hs ⟨U,by omega⟩ (λj l=> ?_) (λW B=> ?_) L M x.ak.cap (λW B=> ?_) (λj l W B=> ?_) (λj l W B=> ?_) (λV=> ?_) (λj l V hv=> ?_)
  ·show (Go.RowKit.wrap64 (ai+(j:Int))).tmod (f.length:Int)=(((ai.toNat+j)%f.length:Nat):Int);have:Go.RowKit.wrap64 (ai+(j:Int))=((ai.toNat+j:Nat):Int):=by unfold Go.RowKit.wrap64;omega
   rw [this];rfl
  ·refine (show ae Tryz.prog zxa [al.enc (some ⟨q,0,none⟩)] gX (λv g=>k<=g/\∃A u:Nat,k A=none/\k u=none/\v=⟨312, #[], #[.pointer (some ⟨u,0,none⟩),.pointer (some ⟨A,0,none⟩)]⟩/\aZ g ⟨A,0,none⟩ [.int .i64 ai]/\aZ g ⟨u,0,none⟩ [.int .i64 (f.length:Int)]) k from ?_) W B |>.mono ?_
   ·refine T3 ?_;unfold zxd;refine aJ (D.ld (shf:=af .i64) x.ai (off:=1) rfl ?_);refine aJ (D.ld (shf:=aw) x.ak (off:=0) rfl ?_);intro b ty hn;have J:=mY (o:=.cells #[Value.int .i64 0] ty (0,0)) hn;have hb:eS (k.set b (.cells #[Value.int .i64 0] ty (0,0))) b [.int .i64 0]:=⟨ty,nz⟩;refine ⟨⟨nE J (D.fG (off:=1) (n:=1) (vs:=[.int .i64 x.ai]) rfl),nE J (D.fG (off:=0) (n:=1) (vs:=[x.ak.v]) rfl),trivial⟩,?_⟩;refine qQ hb (off:=0) (new:=[.int .i64 x.ai]) (by simp) λh2 m b5=> ?_;have X:k<=h2:=λc ob e=>m.bO c ob (J c ob e) λhc=>by grind
    refine ⟨⟨nE X (D.fG (off:=0) (n:=1) (vs:=[x.ak.v]) rfl),trivial⟩,?_⟩;intro Z wJ b0;have l3:=mY (o:=.cells #[Value.int .i64 ((x.ak.len:Nat):Int)] wJ (0,0)) b0;refine ⟨Hp.le_trans X l3,b,Z,hn,qj X b0,rfl,nE l3 ?_,?_⟩
    ·rw [<-e1];exact b5.bU (off:=0) (n:=1) rfl
    ·have:=Hc (h:=h2) (b:=Z) (t:=wJ) (cs:=[Value.int .i64 ((x.ak.len:Nat):Int)]);grind
   ·rintro e W' ⟨v,g,rfl,⟨fv,rfl,kl,A,u,nA,c6,rfl,lA,b1⟩,st⟩;have O:∃o,g A=some o:=by
     have:=lA 0 _ rfl;cases e:g A with
     | some o=>simp
     | none=>simp [dy,e,Addr.add] at this
    have P:∃o,g u=some o:=by
     have:=b1 0 _ rfl;cases e:g u with
     | some o=>simp
     | none=>simp [dy,e,Addr.add] at this
    obtain ⟨oA,O⟩:=O;obtain ⟨d2,P⟩:=P;refine ⟨A,u,rfl,⟨Nat.le_of_not_lt λI=> ?_,st.sub.lt O⟩,⟨Nat.le_of_not_lt λI=> ?_,st.sub.lt P⟩,zj st.sub (lA 0 _ rfl),zj st.sub (b1 0 _ rfl),st.os,st.tape,st.output,st.size,λb hb=> ?_⟩
    ·have:=(st.bO A I nA).2;grind
    ·have:=(st.bO u I c6).2;grind
    ·cases e:k b with
     | none=>exact (st.bO b hb e).1
     | some o=>rw [st.sub b o (kl b o e),B b o e]
  ·rw [zj B b7];show some (Value.slice x.ak.base x.ak.len x.ak.cap)=_;grind
  ·have:=LD b8 (b6 j l);rw [kE] at this;exact zj B this
  ·obtain ⟨h1,J,Y,_⟩:=C.pK (Ch (d:=nm) l);refine (adY (sh:=af .i64) (K:=λr _=>r=((f.getD j nm).values.length:Int)) B (Vl (ab4 Y ⟨rfl,rfl⟩))).mono ?_;grind
  ·refine Eq.mpr (Nc (some ⟨q,0,none⟩) (-1) Q k) ?_;unfold Fb;rw [if_pos (by decide)];refine c0 (Wp λj l=> ?_) k c1;have:=S j l;rw [V j l] at this;exact Bool.eq_false_iff.2 λe=>this.1 e rfl
  ·refine Eq.mpr (Nc (some ⟨q,0,none⟩) (num j).1 Q k) ?_;unfold Fb;have c4:=(num j).2;rw [if_neg (by simp;omega)];have R:qm ai f=some (num j).1.toNat:=by
    unfold qm;rw [Ws l (λi E=> ?_) ((S j l).2 hv)]
    ·show some ((ai.toNat+j)%f.length)=some ((((ai.toNat+j)%f.length:Nat):Int)).toNat;rw [Int.toNat_natCast]
    ·have:=S i (by omega);rw [V i E] at this;exact Bool.eq_false_iff.2 λe=>this.1 e rfl
   generalize (num j).1=y at c4 R hv;obtain ⟨i,rfl⟩:∃i:Nat,y=(i:Int):=⟨y.toNat,by omega⟩;rw [Int.toNat_natCast] at R hv;have E:i<f.length:=by omega
   refine aJ (D.ld (shf:=aw) x.ak (off:=0) rfl ⟨by omega,?_⟩);obtain ⟨g1,_,oR,put⟩:=C.f1;have b4:Int.tmod (yw ((i:Int)+1)) ((x.ak.len:Nat):Int)=((i+1:Nat):Int)%(f.length:Int):=by rw [aV,b9,H];rfl
   rw [b4];refine aJ (oR.st ({x with ai:=((i+1:Nat):Int)%(f.length:Int)}:dA) (off:=1) (new:=[.int .i64 (((i+1:Nat):Int)%(f.length:Int))]) (by show 1+1<=2;omega) rfl λk2 o2=> ?_);have c7:=put _ _ o2;refine aJ (o2.ld (shf:=aw) x.ak (off:=0) rfl ?_);have b3:Has h0 (jb ⟨q,0,none⟩ {x with ai:=((i+1:Nat):Int)%(f.length:Int)} s room f) k2:=c7;refine b3.ptr H E ?_;obtain ⟨g2,_,Y,lz⟩:=b3.pK (Ch (d:=nm) E);have a8:=Ch (d:=nm) E;have a9:=hl.2 _ (List.mem_of_getElem? a8);have c2:∀ {l' G},Has g2 (ee (s.getD i a0) room l') G->Has h0 (eJ ⟨q,0,none⟩ room (f.set i l') (((i+1:Nat):Int)%(f.length:Int))) G:=λN=>(lz _ _ N).lU rfl (by rw [List.length_set];exact H);refine UL (XW Y a9.1 a9.2 (λe=> ?_) (λv vs G e e' N=>⟨⟨trivial,trivial⟩,?_⟩) λv vs z zs G e e' N=>⟨⟨trivial,trivial⟩,?_⟩)
   ·exact absurd (congrArg List.length e) hv
   ·have:=c5 i _ v vs R a8 e G (c2 N);rw [e'] at this;exact this
   grind
 exact key
end
end Lf
namespace Lf
open Go Go.Proofs Tryz
def vr (c:aL) (part:Int) (i:Nat) (l:aX):Prop:=(l.values.length:Int)<=c.lane/\ji l.taken/\ji l.dropped/\(rX l->i<c.labels.length->fl c.labels (i:Int) part=true)
section
variable {h:Hp} {a:be} {c:aL} {s:aR}
theorem T8 (k:iJ h a c s) {p:Nat} {x:aj} {y:fI} (F:s.procs[p]? =some x) (G:c.procs[p]? =some y) {Q:Bool->Hp->Prop}
  (m:∀b,(b=true↔nZ c s (λ(i:Nat) q=>fl c.labels (i:Int) q=true) x y)->Q b h):Yq prog a (p:Int) Q h:=by
 unfold Yq;obtain ⟨ps,d3,c2⟩:=k.cfg.procs;obtain ⟨qs,d6,c3⟩:=k.st.procs;obtain ⟨⟨f4,f5⟩, -, -,⟨e8,e9⟩,⟨f6,f7⟩, -⟩:=k.bounds;obtain ⟨⟨f8,f9⟩, -, -⟩:=k.tO;obtain ⟨q,d4,d5,is,c6,d2⟩:=c2.get' G;obtain ⟨z,c1,g⟩:=c3.get' F;have l1:=(List.getElem?_eq_some_iff.1 d4).1;have l2:=(List.getElem?_eq_some_iff.1 c1).1;obtain ⟨V,b7,b2⟩:=g.ak;have d0:z.cR.len=V.length:=b7.1;have d1:=b2.len;have b6:a.dq.len=c.labels.length:=k.cfg.labels.1;have c4:q.Code.len=y.code.length:=by rw [<-d2,List.length_map];exact c6.1
 have e6:a.kg=s.tick:=k.st.tick;have c8:a.gC=c.lane:=k.cfg.lane;obtain ⟨t,e0,e5⟩:=k.tab;refine mE (sh:=aI) d6 λz' U=> ?_;have U:qs[p]? =some z':=U;rw [c1] at U;cases U;have d7:=Rs.get (sh:=bT) d3 (λ_=>rfl) (by omega) (i:=(p:Int)) (by omega) (by omega) (K:=λv=>v=q) λq' g7=>by grind
 obtain ⟨c5,v,hv,rfl⟩:=d7;refine ⟨c5,v,hv,?_⟩;have f0:¬((0<=x.state/\x.state<=6)/\(0<=x.pc/\x.pc<=y.code.length)/\x.ak.length=c.labels.length+1/\(0<=x.ai/\x.ai<x.ak.length))->Q false h:=λf=>m _ ⟨λe=>(by cases e),λd=>absurd ⟨d.1,d.2.1,d.2.2.1,d.2.2.2.1⟩ f⟩;refine ⟨⟨trivial,hv,trivial⟩,?_⟩;refine dj.intro (λt A=>A=h/\(t=true↔¬((0<=x.state/\x.state<=6)/\(0<=x.pc/\x.pc<=y.code.length)/\x.ak.length=c.labels.length+1/\(0<=x.ai/\x.ai<x.ak.length)))) ?_ ?_
 ·refine aE ?_;rw [g.state];by_cases hb:0<=x.state/\x.state<=6
  ·rw [if_neg (by simp;omega)];refine aE ?_;rw [g.pc,c4];by_cases B:0<=x.pc/\x.pc<=y.code.length
   ·rw [if_neg (by simp;omega)];rw [b6,aV,d0,d1];by_cases b3:x.ak.length=c.labels.length+1
    ·rw [if_neg (by simp;omega)];refine aE ⟨rfl,?_⟩;rw [g.ai];simp only [Bool.or_eq_true,decide_eq_true_eq];constructor
     ·intro e d;omega
     ·intro f;refine Classical.byContradiction λg0=>f ⟨hb,B,b3,by omega⟩
    ·rw [if_pos (by simp;omega)];exact ⟨rfl,⟨λ_ d=>b3 d.2.2.1,λ_=>by simp;omega⟩⟩
   ·rw [if_pos (by simp;omega)];exact ⟨rfl,⟨λ_ d=>B d.2.1,λ_=>by simp;omega⟩⟩
  grind
 ·rintro t0 h1 ⟨rfl,d9⟩;by_cases b4:t0=true
  ·grind
  rw [if_neg b4];have O:=Classical.not_not.1 λf=>b4 (d9.2 f);refine dj.intro (λt A=>A=h1/\(t=true↔¬((0<=x.timer/\x.timer<=s.tick+1099511627776)/\(0<=x.bP/\x.bP<=s.tick+1099511627776)/\(0<x.bP↔x.state=4)))) ?_ ?_
  ·refine aE ?_;rw [g.timer,g.bP,g.state,e6,aV];by_cases hb:0<=x.timer/\x.timer<=s.tick+1099511627776
   ·rw [if_neg (by simp;omega)];refine aE ?_;by_cases B:0<=x.bP/\x.bP<=s.tick+1099511627776
    ·rw [if_neg (by simp;omega)];refine ⟨rfl,?_⟩;by_cases hw:0<x.bP<;>by_cases hs:x.state=4<;>simp [hw,hs,hb,B]
    ·rw [if_pos (by simp;omega)];exact ⟨rfl,⟨λ_ d=>B d.2.1,λ_=>by simp;omega⟩⟩
   grind
  ·rintro t2 N ⟨rfl,b9⟩;by_cases S:t2=true
   ·rw [if_pos S];exact m _ ⟨λe=>(by cases e),λd=>absurd ⟨d.2.2.2.2.1,d.2.2.2.2.2.1,d.2.2.2.2.2.2.1⟩ (b9.1 S)⟩
   rw [if_neg S];have a8:=Classical.not_not.1 λf=>S (b9.2 f);refine Ht (Gg λr hr=> ?_);refine aE (aE ?_);rw [g.state] at hr;rw [g.timer,g.bB];have b1:((!r)&&((x.timer !=(0:Int)) || x.bB))=true↔¬(x.state=5\/x.state=6->x.timer=0/\x.bB=false):=by grind
   by_cases P:x.state=5\/x.state=6->x.timer=0/\x.bB=false
   ·rw [if_neg (λe=>b1.1 e P)];refine bL.intro (λsome_ j A=>A=N/\0<=j/\j<=(V.length:Int)/\(∀(i:Nat) l,(i:Int)<j->x.ak[i]? =some l->vr c y.part i l)/\(some_=true↔∃(i:Nat) (l:aX),(i:Int)<j/\x.ak[i]? =some l/\l.values≠ [])) (λ_ j _=>(V.length-j).toNat)
     ⟨rfl,by omega,by omega,λi l C=>by omega,⟨λe=>(by cases e),λ⟨i,l,C,_⟩=>by omega⟩⟩ ?_
    rintro some_ j h4 ⟨rfl,h0,hj,hI,hS⟩;by_cases b8:j<(V.length:Int)
    ·rw [if_pos (iW)];refine Rs.get (sh:=bd) b7 (λ_=>rfl) (by omega) h0 b8 λL hL=> ?_;obtain ⟨l,b5,a9⟩:=b2.get hL;have e7:L.cF.len=l.values.length:=a9.values.1;refine aE (aE ?_);rw [e7,a9.taken,a9.dropped,c8,b6];refine lO (λb=>b=true↔ji l.taken) false (λ_ D=>Rc (RW D)) λr1 T=>aE ?_;refine lO (λb=>b=true↔ji l.dropped) false (λ_ D=>Rc (RW D)) λr2 E=>aE (aE ?_);refine lO (λb=>b=fl c.labels j y.part) false (λ_ D=> ?_) λr3 w=>aE (aE ?_)
     ·rw [e0,d5];exact zpv (NL e5 k.inU (D _ rfl))
     have c7:((j.toNat:Nat):Int)=j:=by omega
     have hu:((decide (((l.values.length:Nat):Int)>0) || decide (l.taken>0)) || decide (l.dropped>0))=true↔rX l:=by unfold rX;simp only [Bool.or_eq_true,decide_eq_true_eq,ne_eq,<-List.length_eq_zero_iff];omega
     have c0:(((decide (((l.values.length:Nat):Int)>c.lane) || !r1) || !r2) || ((((decide (((l.values.length:Nat):Int)>0) || decide (l.taken>0)) || decide (l.dropped>0))&&decide (j<((c.labels.length:Nat):Int)))&& !r3))=true↔¬vr c y.part j.toNat l:=by
      generalize ((decide (((l.values.length:Nat):Int)>0) || decide (l.taken>0)) || decide (l.dropped>0))=u at hu w ⊢;by_cases Z:((l.values.length:Nat):Int)<=c.lane
      ·have W:decide (((l.values.length:Nat):Int)>c.lane)=false:=by simp;omega
       rw [W] at T E w ⊢;have T:=T rfl;by_cases I:ji l.taken
       ·have X:=T.2 I;rw [X] at E w ⊢;have E:=E rfl;by_cases J:ji l.dropped
        ·have Y:=E.2 J;rw [Y] at w ⊢;simp only [Bool.false_or,Bool.not_true,Bool.or_false,Bool.not_false,Bool.true_and] at w ⊢;by_cases M:u=true/\j<(c.labels.length:Int)
         ·have H:(u&&decide (j<((c.labels.length:Nat):Int)))=true:=by rw [M.1,Bool.true_and];exact decide_eq_true M.2
          rw [w H,H,Bool.true_and,Bool.not_eq_true',<-Bool.not_eq_true];refine not_congr ⟨λe=>⟨Z,I,J,λ_ _=>by rw [c7];exact e⟩,λd=> ?_⟩;have:=d.2.2.2 (hu.1 M.1) (by omega);grind
         ·have H:(u&&decide (j<((c.labels.length:Nat):Int)))=false:=by rw [<-Bool.not_eq_true];intro e;rw [Bool.and_eq_true,decide_eq_true_eq] at e;exact M e
          rw [H];refine ⟨λe=>(by cases e),λf=>absurd ⟨Z,I,J,λhU o=> ?_⟩ f⟩;grind
        ·have Y:r2=false:=by grind
         rw [Y];exact ⟨λ_ d=>J d.2.2.1,λ_=>by simp⟩
       ·have X:r1=false:=by grind
        rw [X];exact ⟨λ_ d=>I d.2.1,λ_=>by simp⟩
      ·have W:decide (((l.values.length:Nat):Int)>c.lane)=true:=iW;rw [W];exact ⟨λ_ d=>Z d.1,λ_=>by simp⟩
     by_cases hg:vr c y.part j.toNat l
     ·rw [if_neg (λe=>c0.1 e hg)];rw [aV];refine aE ⟨⟨rfl,by omega,by omega,λi l' C g6=> ?_,?_⟩,by omega⟩
      ·grind
      ·rw [Bool.or_eq_true,hS,decide_eq_true_eq];constructor
       ·grind
       ·rintro ⟨i,l',h1,N,h3⟩;by_cases g5:(i:Int)<j
        ·grind
        ·have:i=j.toNat:=by omega
         subst this;rw [b5] at N;cases N;have:=List.length_pos_iff.2 h3;omega
     ·rw [if_pos (c0.2 hg)];refine m _ ⟨λe=>(by cases e),λd=>absurd ?_ hg⟩;exact d.2.2.2.2.2.2.2.2.1 j.toNat l b5
    ·rw [if_neg (λe=>b8 (by have:=of_decide_eq_true e;omega))];have c9:∀(i:Nat) l,x.ak[i]? =some l->vr c y.part i l:=λi l o=>hI i l (by have:=(List.getElem?_eq_some_iff.1 o).1;omega) o;have d8:some_=false↔∀l∈x.ak,l.values=[]:=by
      rw [<-Bool.not_eq_true,hS];constructor
      ·intro f l o;obtain ⟨i,C⟩:=List.getElem?_of_mem o;exact Classical.byContradiction λb0=>f ⟨i,l,by have:=(List.getElem?_eq_some_iff.1 C).1;omega,C,b0⟩
      ·rintro d ⟨i,l,_,o,b0⟩;exact b0 (d l (List.mem_of_getElem? o))
     have R:nZ c s (λ(i:Nat) q=>fl c.labels (i:Int) q=true) x y↔((x.state=1->(∃n,jE y x.pc=some n/\n.op=25)/\(∀l∈x.ak,l.values=[])/\x.bB=false)/\
       (x.state=2->∃n,jE y x.pc=some n/\n.op=24)/\(x.state=3->∃n,jE y x.pc=some n/\n.op=29)/\(x.state=4->∃n,jE y x.pc=some n/\n.op=28)):=
      ⟨λd=>⟨d.2.2.2.2.2.2.2.2.2.1,d.2.2.2.2.2.2.2.2.2.2⟩,λd=>⟨O.1,O.2.1,O.2.2.1,O.2.2.2,a8.1,a8.2.1,a8.2.2,P,c9,d.1,d.2⟩⟩
     rw [g.state];by_cases s1:x.state=1
     ·rw [if_pos (by simpa using s1)];refine QX (BF k (p:=(p:Int)) (by omega) F G λn f=>aE (aE (m _ ?_)));rw [R,Bool.and_eq_true,Bool.and_eq_true,beq_iff_eq,f 25 (by omega),Bool.not_eq_true',d8,Bool.not_eq_true'];constructor
      ·intro d;exact ⟨λ_=>⟨d.1.1,d.1.2,d.2⟩,λe=>by omega,λe=>by omega,λe=>by omega⟩
      ·intro d;exact ⟨⟨(d.1 s1).1,(d.1 s1).2.1⟩,(d.1 s1).2.2⟩
     rw [if_neg (by simpa using s1)];by_cases s2:x.state=2
     ·rw [if_pos (by simpa using s2)];refine QX (BF k (p:=(p:Int)) (by omega) F G λn f=>m _ ?_);rw [R,beq_iff_eq,f 24 (by omega)];exact ⟨λd=>⟨λe=>by omega,λ_=>d,λe=>by omega,λe=>by omega⟩,λd=>d.2.1 s2⟩
     rw [if_neg (by simpa using s2)];by_cases s3:x.state=3
     ·rw [if_pos (by simpa using s3)];refine QX (BF k (p:=(p:Int)) (by omega) F G λn f=>m _ ?_);rw [R,beq_iff_eq,f 29 (by omega)];exact ⟨λd=>⟨λe=>by omega,λe=>by omega,λ_=>d,λe=>by omega⟩,λd=>d.2.2.1 s3⟩
     rw [if_neg (by simpa using s3)];by_cases s4:x.state=4
     ·rw [if_pos (by simpa using s4)];refine QX (BF k (p:=(p:Int)) (by omega) F G λn f=>m _ ?_);rw [R,beq_iff_eq,f 28 (by omega)];exact ⟨λd=>⟨λe=>by omega,λe=>by omega,λe=>by omega,λ_=>d⟩,λd=>d.2.2.2 s4⟩
     grind
   ·rw [if_pos (b1.2 P)];exact m _ ⟨λe=>(by cases e),λd=>absurd d.2.2.2.2.2.2.2.1 P⟩
end
theorem gh {len:Int} {n:Nat} (l:len=(n:Int)) (hb:n<=4611686018427387904) (I:Nat->Hp->Prop) {B:(Int->Hp->Prop)->Int->Hp->Prop} {X:Int->Hp->Prop} {b:Hp} (d:I 0 b)
  (j:∀i:Nat,i<n->∀h,I i h->∀K:Int->Hp->Prop,(∀a,I (i+1) a->K (yw ((i:Int)+1)) a)->B K (i:Int) h) (m:∀h,I n h->X (n:Int) h):
  aB (λc t h=>if decide (t<len)=true then B c t h else X t h) (0:Int) b:=by
 refine aB.intro (λt h=>∃i:Nat,t=(i:Int)/\i<=n/\I i h) (λt _=>(len-t).toNat) ⟨0,rfl,by omega,d⟩ ?_;rintro t h ⟨i,rfl,k,e⟩;by_cases g:i<n
 ·rw [if_pos (iW)];refine j i g h e _ λa f=> ?_;rw [aV];exact ⟨⟨i+1,by omega,by omega,f⟩,by omega⟩
 grind
theorem PX {d:Type} {b h:Hp} {sz:Nat} {enc:d->List Value} {l:Sl} {c:List d} (s:b<=h) (o:Own b h sz enc l c) (k:∀x,(enc x).length=sz) {i:Int} (p:0<=i) (q:i<(c.length:Int)) (x:d) {K:Hp->Prop}
  (r:∀a,b<=a->Own b a sz enc l (c.set i.toNat x)->K a):bI l.base l.len i/\cX h (sat l.base sz i) (enc x) K:=by
 obtain ⟨F,g,n⟩:=o.wE;refine g.store k p q x λa j m=> ?_;obtain ⟨e,f⟩:=m.le s n;exact r a e (j.own f)
def zT (x:Int):List Value:=bA ((af .i64).enc x)
def gU (n:Nat) (E:List Int):List Int:=(List.range n).map λ(p:Nat)=>((E.countP λz=>decide (z=(p:Int)):Nat):Int)
theorem sx (n:Nat) (E:List Int):(gU n E).length=n:=by simp [gU]
theorem zx {n:Nat} {E:List Int} {p:Nat} (hp:p<n):(gU n E)[p]? =some ((E.countP λz=>decide (z=(p:Int)):Nat):Int):=by unfold gU;grind
theorem LG {n:Nat} {E:List Int} {p:Int} (b:0<=p):(gU n E).set p.toNat (((E.countP λz=>decide (z=((p.toNat:Nat):Int)):Nat):Int)+1)=gU n (E++ [p]):=by
 refine List.ext_getElem? λi=> ?_;by_cases a:i<n
 ·rw [zx a];by_cases e:p.toNat=i
  ·subst e;rw [List.getElem?_set_self (by rw [sx];exact a),List.countP_append];grind
  ·rw [List.getElem?_set_ne e,zx a,List.countP_append];grind
 ·rw [List.getElem?_eq_none (by simp [sx];omega),List.getElem?_eq_none (by simp [sx];omega)]
theorem Y4 {h:Hp} {n:Nat} {m:Int} {K:Sl->Hp->Prop} (d:m=(n:Int)) (f:n<=1000000) (c:∀l a,h<=a->Own h a 1 zT l (gU n [])->K l a):dU 8 [.int .i64 (0:Int)] m m K h:=by
 subst d;refine ⟨⟨by omega,by omega,by omega,by omega⟩,λb t hb=> ?_⟩;have e:(gU n []).flatMap zT=fC [Value.int .i64 0] n:=by
  have:gU n []=List.replicate n 0:=by unfold gU;rw [List.eq_replicate_iff];simp
  rw [this];unfold fC;rw [List.flatMap_replicate];rfl
 refine c _ _ (mY hb) ⟨by simp [sx],Nat.le_refl _,.inr ⟨b,fC [.int .i64 0] n,t,rfl,nz,?_,?_,hb⟩⟩
 ·simp [fC]
 ·rw [e,List.take_of_length_le];simp [fC]
theorem LH (x:aK) {n:Nat} (a:n<8):List.get?Internal (α:=Value) [(.int .i64 x.State),(.int .i64 x.PC),(.int .i64 x.cl),(.int .i64 x.cm),(.int .i64 x.cn),(.int .i64 x.cp),(.int .i64 x.cq),(.int .i64 x.cv),(.int .i64 x.cw),(.int .i64 x.cC),(.int .i64 x.Cursor),(.int .i64 x.Timer),(.bool x.fH),(.int .i64 x.iU),x.cR.v] (2+(n*1))=
  some (.int .i64 (([x.cl,x.cm,x.cn,x.cp,x.cq,x.cv,x.cw,x.cC]:List Int).getD n 0)):=by
 match n,a with
 | 0,_=>rfl
 | 1,_=>rfl
 | 2,_=>rfl
 | 3,_=>rfl
 | 4,_=>rfl
 | 5,_=>rfl
 | 6,_=>rfl
 | 7,_=>rfl
section
variable {h:Hp} {a:be} {c:aL} {s:aR}
theorem Gu (k:iJ h a c s) {p:Int} {i:Nat} (f:qF c p i):0<=p/\p.toNat<c.procs.length/\∃x y,s.procs[p.toNat]? =some x/\c.procs[p.toNat]? =some y/\y.part=(i:Int):=by
 obtain ⟨e,y,d,hp⟩:=f;have b:=(List.getElem?_eq_some_iff.1 d).1;have:p.toNat<s.procs.length:=by rw [k.tO.2.2];exact b
 exact ⟨e,b,_,y,List.getElem?_eq_getElem this,d,hp⟩
theorem Wu (k:iJ h a c s) {p:Nat} {y:fI} (q:c.procs[p]? =some y) {pc:Int} {n:df} (d:jE y pc=some n) (l:n.op=24):(0<=n.b/\n.b<8)/\(0<=n.c/\n.c<8):=by
 obtain ⟨-, -, -, -, -,g⟩:=k.bounds;have o:=(g y (List.mem_of_getElem? q)).2.2;have j:n∈y.code:=by
  unfold jE at d;by_cases f:0<=pc
  ·rw [if_pos f] at d;exact List.mem_of_getElem? d
  ·rw [if_neg f] at d;cases d
 have:=o n j;have i:iI n.op=(true,true,true,false):=by rw [l];decide
 unfold ja at this;rw [i] at this;have r:∀m,du true m=0->0<=m/\m<8:=λm e=>by
  unfold du at e;rw [jO] at e;by_cases f:m<0\/8<=m
  ·rw [if_pos f] at e;cases e
  ·omega
 grind
theorem adZ (k:iJ h a c s) {w:bN} {i r:Nat} (R:qF c w.cU i) {Q:Bool->Hp->Prop} (L:∀b,(b=true↔xg c s w.cU w.dt r)->Q b h):XB prog a w (r:Int) Q h:=by
 unfold XB;obtain ⟨M,U,x,y,F,G, -⟩:=Gu k R;obtain ⟨Y,S,N⟩:=k.st.procs;obtain ⟨z,T,t⟩:=N.get' F;have W:=(List.getElem?_eq_some_iff.1 T).1;obtain ⟨P,v,hv,rfl⟩:=Rs.get (sh:=aI) S (λ_=>rfl) (by omega) (i:=w.cU) (by omega) (by omega) (K:=λv=>v=z) λX V=>by grind
 refine ⟨P,v,hv,WQ (FF k M F G λn d=> ?_)⟩;refine ⟨⟨trivial,trivial,hv,trivial⟩,aE ?_⟩;rw [t.state];have q:=t.aP;have H:xg c s w.cU w.dt r↔∃m,jE y x.pc=some m/\x.state=2/\m.op=24/\x.aP[m.b.toNat]? =some (r:Int)/\x.aP[m.c.toNat]? =some w.dt:=by
  constructor
  ·rintro ⟨Z,y',m,f,j,l⟩;grind
  ·rintro ⟨m,l⟩;exact ⟨x,y,m,F,G,l⟩
 by_cases g:x.state=2/\n.Op=24
 ·rcases d with d | ⟨-,rfl⟩
  ·obtain ⟨⟨u,A⟩,D,E⟩:=Wu k G d g.2;have u:0<=n.B:=u;have A:n.B<8:=A;have D:0<=n.C:=D;have E:n.C<8:=E;have I:x.aP[n.B.toNat]? =some (x.aP.getD n.B.toNat 0):=by
    have:n.B.toNat<x.aP.length:=by rw [<-q];simp;omega
    rw [List.getElem?_eq_getElem this,List.getD_eq_getElem?_getD,List.getElem?_eq_getElem this];rfl
   have J:x.aP[n.C.toNat]? =some (x.aP.getD n.C.toNat 0):=by
    have:n.C.toNat<x.aP.length:=by rw [<-q];simp;omega
    rw [List.getElem?_eq_getElem this,List.getD_eq_getElem?_getD,List.getElem?_eq_getElem this];rfl
   refine ⟨λ_=>⟨u,A⟩,x.aP.getD n.B.toNat 0,λ_=> ?_,aE ⟨λ_=>⟨D,E⟩,x.aP.getD n.C.toNat 0,λ_=> ?_,aE (L _ ?_)⟩⟩
   ·rw [<-q,<-t.state];exact LH v (by omega)
   ·rw [<-q,<-t.state];exact LH v (by omega)
   ·rw [H];simp only [Bool.and_eq_true,beq_iff_eq];constructor
    ·rintro ⟨⟨-,f⟩,j⟩;exact ⟨_,d,g.1,g.2,by show x.aP[n.B.toNat]? =_;rw [I,f],by show x.aP[n.C.toNat]? =_;rw [J,j]⟩
    ·rintro ⟨m,f,j,l,o,p⟩;rw [d] at f;cases f;have o:x.aP[n.B.toNat]? =some (r:Int):=o;have p:x.aP[n.C.toNat]? =some w.dt:=p;rw [I] at o;rw [J] at p;exact ⟨⟨g,Option.some.inj o⟩,Option.some.inj p⟩
  grind
 ·have O:((x.state==(2:Int))&&(n.Op==(24:Int)))=false:=by rw [<-Bool.not_eq_true];intro e;simp only [Bool.and_eq_true,beq_iff_eq] at e;exact g e
  rw [O];refine ⟨λe=>(by cases e),0,λe=>(by cases e),aE ⟨λe=>(by cases e),0,λe=>(by cases e),aE (L _ ?_)⟩⟩;rw [H];refine ⟨λe=>(by cases e),?_⟩;rintro ⟨m,f,j,l, -⟩;refine absurd ⟨j,?_⟩ g;rcases d with d | ⟨d, -⟩
  ·rw [d] at f;cases f;exact l
  grind
end
def wu (x:cJ):List Int:=x.au.flatten
def vF (x:aj):List Int:=x.ak.flatMap λl=>l.waiters.map λw=>w.proc
def sK (s:aR):List Int:=s.parts.flatMap wu++s.procs.flatMap vF
theorem abn (s:aR) (p:Int):(sK s).countP (λz=>decide (z=p))=(s.parts.map (j5 p)).sum+(s.procs.map (j4 p)).sum:=by
 unfold sK;rw [List.countP_append,List.countP_flatMap,List.countP_flatMap];congr 1
 ·congr 1;refine List.map_congr_left λx _=> ?_;show List.countP _ (wu x)=_;unfold wu j5;simp
 ·congr 1;refine List.map_congr_left λx _=> ?_;show List.countP _ (vF x)=_;unfold vF j4 qC;rw [List.countP_flatMap];congr 1;refine List.map_congr_left λl _=> ?_;show List.countP _ (l.waiters.map _)=_;rw [List.countP_map];rfl
def GQ (c:aL) (s:aR) (i:Nat) (x:cJ) (k:Nat) (p:Int):Prop:=qF c p i/\(HZ c s p λz n=>z.state=3/\n.gR=(k:Int))/\∃o,x.ax[k]? =some o/\0<=o/\o≠p
def GW (c:aL) (s:aR) (r:Nat) (x:aj) (y:fI) (i:Nat) (l:aX) (w:cd):Prop:=(i:Int)=y.part/\qF c w.proc i/\(x.state≠5/\x.state≠6)/\(l.values.length:Int)=c.lane/\xg c s w.proc w.value r
theorem Ak {a:Type} {l:List a} {i:Nat} {x:a} (h:l[i]? =some x):l.drop i=x::l.drop (i+1):=by obtain ⟨b,rfl⟩:=List.getElem?_eq_some_iff.1 h;simp
section
variable {h:Hp} {a:be} {c:aL} {s:aR}
theorem ad1 (k:iJ h a c s) (i9:∀(i:Nat) x,s.parts[i]? =some x->(x.ax.length:Int)=c.ag/\(x.au.length:Int)=c.ag) (e8:∀(p:Nat) x y,s.procs[p]? =some x->c.procs[p]? =some y->x.ak.length=c.labels.length+1/\(x.state=3->∃n,jE y x.pc=some n))
  (hE:(sK s).length<=1152921504606846976) {Q:Bool->Hp->Prop} (hq:∀b f,h<=f->(b=true↔xh c s)->Q b f):Xy prog a Q h:=by
 unfold Xy;obtain ⟨ps,g8,e9⟩:=k.cfg.procs;obtain ⟨qs,c7,c0⟩:=k.st.procs;obtain ⟨pa,has,f4⟩:=k.st.parts;obtain ⟨⟨l9,m0⟩,⟨l7,l8⟩, -,⟨l5,l6⟩,⟨m1,m2⟩, -⟩:=k.bounds;obtain ⟨-,o3,o4⟩:=k.tO;have e1:=e9.len;have e2:=c0.len;have e3:=f4.len;have m8:a.bW.len=ps.length:=g8.1;have m9:a.cT.len=qs.length:=c7.1;have m5:a.gz.len=pa.length:=has.1;have k2:a.gC=c.lane:=k.cfg.lane;refine Y4 (n:=s.procs.length) (by omega) (by omega) λr v k3 k9=> ?_;refine gh (n:=pa.length) (by omega) (by omega) (λi f=>h<=f/\(∀(B:Nat) x',B<i->s.parts[B]? =some x'->∀(k:Nat) q,x'.au[k]? =some q->∀p∈q,GQ c s B x' k p)/\
  ∃E,Own h f 1 zT r (gU s.procs.length E)/\E++((s.parts.drop i).flatMap wu++s.procs.flatMap vF)=sK s) ⟨k3,λB x' hi=>by omega,[],k9,rfl⟩ ?_ ?_
 ·rintro i hi W ⟨c4,f7,E,d7,d1⟩ K hK;refine mE (sh:=bx) (Rw.mono c4 has) λy V=> ?_;have V:pa[i]? =some y:=V;obtain ⟨x,t,c9⟩:=f4.get V;obtain ⟨n5,o1⟩:=i9 i x t;obtain ⟨ys,i4,f5⟩:=c9.au;have e4:=f5.len;have n3:y.bQ.len=ys.length:=i4.1;rw [Ak t] at d1;refine gh (n:=ys.length) (by omega) (by omega) (λm f=>h<=f/\(∀(k:Nat) q,k<m->x.au[k]? =some q->∀p∈q,GQ c s i x k p)/\
   ∃E,Own h f 1 zT r (gU s.procs.length E)/\E++((x.au.drop m).flatten++((s.parts.drop (i+1)).flatMap wu++s.procs.flatMap vF))=sK s)
   ⟨c4,λk q H=>by omega,E,d7,by rw [<-d1];simp [wu]⟩ ?_ ?_
  ·rintro m hm C ⟨N,c2,E3,b8,Y⟩ K3 e7;refine mE (sh:=aw) (Rw.mono N i4) λq' d8=> ?_;have d8:ys[m]? =some q':=d8;obtain ⟨q,e0,g9⟩:=f5.get d8;have n1:Sl.len q'=q.length:=g9.1;rw [Ak e0] at Y;have j0:q.length<=1152921504606846976:=by have:=congrArg List.length Y;simp at this;omega
   refine gh (n:=q.length) (by show ((Sl.len q':Nat):Int)=_;omega) (by omega) (λj f=>h<=f/\(∀p∈q.take j,GQ c s i x m p)/\
    ∃E,Own h f 1 zT r (gU s.procs.length E)/\E++(q.drop j++((x.au.drop (m+1)).flatten++((s.parts.drop (i+1)).flatMap wu++s.procs.flatMap vF)))=sK s)
    ⟨N,λp hp=>by simp at hp,E3,b8,by rw [<-Y];simp⟩ ?_ ?_
   ·rintro j hj G ⟨A,S,F,b3,J⟩ K4 b6;have k4:=k.mono A;refine mE (sh:=af .i64) (Rw.mono A g9) λ(p:Int) hp=> ?_;have hp:q[j]? =some p:=hp;rw [Ak hp] at J;have M:¬GQ c s i x m p->Q false G:=λO=>hq _ _ A ⟨λe=>(by cases e),λd=>absurd (d.1 i x t m q e0 p (List.mem_of_getElem? hp)) O⟩;refine QW (BE k4 λb1 f6=> ?_);cases b1 with
    | false=>
     have O:¬qF c p i:=λe=>by have:=f6.2 e;cases this
     refine ⟨λe=>(by cases e),(0:Int),λe=>(by cases e),aE ⟨λe=>(by cases e),λ_=>⟨⟨0,0,0,0,0⟩,aE ⟨λe=>(by cases e),(0:Int),λe=>(by cases e),aE ⟨λe=>(by cases e),(0:Int),λe=>(by cases e),aE ?_⟩⟩⟩⟩⟩;rw [if_pos (by rfl)];exact M λd=>O d.1
    | true=>
     have ho:=f6.1 rfl;obtain ⟨U,l0,z,w,u,D,o6⟩:=Gu k ho;refine Rw.AB (Rw.mono A c7) (λ_=>rfl) (by omega) (sh:=af .i64) (λq=>q.State) (λ_=>rfl) (0:Int) (λ_=>by omega) λx3 b4=> ?_;obtain ⟨z',l3,b4⟩:=b4 rfl;obtain ⟨o7,i5,l4⟩:=c0.get l3;rw [u] at i5;cases i5;rw [l4.state] at b4;have b4:x3=z.state:=b4;subst b4;refine aE (lO (λn:aS=>jE w z.pc=some (bu n)\/(jE w z.pc=none/\n=⟨-1,0,0,0,0⟩)) ⟨0,0,0,0,0⟩ (λ_ H=>WQ (FF k4 U u D H)) λn O=>aE ?_);obtain ⟨-, -, -, -, -,m3⟩:=k.bounds;by_cases P:z.state=3
     ·have g6:=O (by simp [P]);have k7:m<x.ax.length:=by omega
      have hl:=c9.ax.1;refine Rs.pH (Rw.mono A c9.ax) (0:Int) (λ_=>rfl) (by omega) (λ_=>by omega) λ(o:Int) a8=>aE ?_;refine Rs.pH (Rw.mono A c9.ax) (0:Int) (λ_=>rfl) (by omega) (λ_=>by omega) λ(o':Int) a9=>aE ?_;have n4:x.ax[m]? =some x.ax[m]:=List.getElem?_eq_getElem k7;have hG:(((((!true) || (z.state !=(3:Int))) || (n.jM !=(m:Int))) || (decide (o<(0:Int)))) || (o'==p))=true↔¬GQ c s i x m p:=by
       by_cases c3:n.jM=(m:Int)
       ·have c1:(((!true) || (z.state !=(3:Int))) || (n.jM !=(m:Int)))=false:=by simp [P,c3]
        rw [c1] at a8 a9 ⊢;have a8:x.ax[m]? =some o:=a8 rfl;rw [Bool.false_or] at a9 ⊢;by_cases g7:o<0
        ·rw [decide_eq_true g7];refine ⟨λ_ d=> ?_,λ_=>by simp⟩;obtain ⟨_,_,o2,v,W,_⟩:=d;rw [a8] at v;cases v;omega
        ·rw [decide_eq_false g7] at a9 ⊢;have a9:x.ax[m]? =some o':=a9 rfl;rw [a8] at a9;cases a9;rw [Bool.false_or,beq_iff_eq];constructor
         ·rintro rfl d;obtain ⟨_,_,o2,v,W,C⟩:=d;rw [a8] at v;cases v;exact C rfl
         ·intro d;refine Classical.byContradiction λd6=>d ⟨ho,?_,o,a8,by omega,d6⟩;rcases g6 with T | ⟨T,_⟩
          ·exact ⟨z,w,_,u,D,T,P,c3⟩
          ·obtain ⟨n2,k8⟩:=(e8 _ _ _ u D).2 P;rw [k8] at T;cases T
       ·have c1:(n.jM !=(m:Int))=true:=by simpa using c3
        rw [c1];refine ⟨λ_ d=> ?_,λ_=>by simp⟩;obtain ⟨_,⟨z2,w2,n2,v,W,C,G,X⟩,_⟩:=d;rw [u] at v;cases v;rw [D] at W;cases W;rcases g6 with T | ⟨T,_⟩
        ·rw [T] at C;cases C;exact c3 X
        ·rw [T] at C;cases C
      by_cases b2:GQ c s i x m p
      ·rw [if_neg (λe=>hG.1 e b2)];refine Rs.get (sh:=af .i64) (b3.rw (λ_=>rfl)) (λ_=>rfl) (by omega) U (by rw [sx];omega) λ(I:Int) g=> ?_;have g:(gU s.procs.length F)[p.toNat]? =some I:=g;rw [zx (by omega)] at g;have g:I=((F.countP λz=>decide (z=((p.toNat:Nat):Int)):Nat):Int):=(Option.some.inj g).symm;have k6:F.length<=1152921504606846976:=by have:=congrArg List.length J;simp at this;omega
       have j1:=List.countP_le_length (p:=λz=>decide (z=((p.toNat:Nat):Int))) (l:=F);rw [g,aV];refine PX (enc:=zT) A b3 (λ_=>rfl) U (by rw [sx];omega) (((F.countP λz=>decide (z=((p.toNat:Nat):Int)):Nat):Int)+1) λh7 d5 b7=> ?_;rw [LG U] at b7;refine b6 h7 ⟨d5,λp' (hp':p'∈q.take (j+1))=> ?_,F++ [p],b7,by rw [<-J];simp⟩;rw [List.take_add_one,hp] at hp';rcases List.mem_append.1 hp' with hp' | hp'
       ·exact S p' hp'
       ·have e:p'=p:=by simpa using hp'
        rw [e];exact b2
      ·rw [if_pos (hG.2 b2)];exact M b2
     ·have d6:(z.state !=(3:Int))=true:=by simpa using P
      have b2:¬GQ c s i x m p:=by rintro ⟨_,⟨z2,w2,n2,v,W,C,G,X⟩,_⟩;rw [u] at v;cases v;exact P G
      simp only [d6,Bool.or_true,Bool.true_or];refine ⟨λe=>(by cases e),(0:Int),λe=>(by cases e),aE ⟨λe=>(by cases e),(0:Int),λe=>(by cases e),aE ?_⟩⟩;rw [if_pos (by rfl)];exact M b2
   ·rintro G ⟨A,S,F,b3,J⟩;refine e7 G ⟨A,λk q2 H d9 p hp=> ?_,F,b3,by rw [<-J];simp⟩;by_cases k1:k<m
    ·exact c2 k q2 k1 d9 p hp
    ·have:k=m:=by omega
     subst this;rw [e0] at d9;cases d9;exact S p (by rw [List.take_of_length_le (Nat.le_refl _)];exact hp)
  grind
 ·rintro W ⟨c4,f7,E,d7,d1⟩;have hA:∀(i:Nat) x,s.parts[i]? =some x->∀(k:Nat) q,x.au[k]? =some q->∀p∈q,GQ c s i x k p:=λi x t=>f7 i x (by grind) t;refine gh (n:=qs.length) (by omega) (by omega) (λn f=>h<=f/\(∀(r':Nat) x y,r'<n->s.procs[r']? =some x->c.procs[r']? =some y->∀(i:Nat) l,x.ak[i]? =some l->∀w∈l.waiters,GW c s r' x y i l w)/\
   ∃E,Own h f 1 zT r (gU s.procs.length E)/\E++(s.procs.drop n).flatMap vF=sK s) ⟨c4,λr' x y hr=>by omega,E,d7,by grind⟩ ?_ ?_
  ·rintro n O C ⟨N,c2,E3,b8,Y⟩ K3 e7;refine mE (sh:=aI) (Rw.mono N c7) λz u=> ?_;have u:qs[n]? =some z:=u;obtain ⟨x,t,d0⟩:=c0.get u;have j2:n<c.procs.length:=by omega
   have V:=List.getElem?_eq_getElem j2;generalize c.procs[n]=y at V;obtain ⟨yq,i3,l2, -⟩:=e9.get' V;have o0:=(List.getElem?_eq_some_iff.1 i3).1;obtain ⟨m6, -⟩:=e8 n x y t V;obtain ⟨ls,g0,f0⟩:=d0.ak;have e5:=f0.len;have m7:z.cR.len=ls.length:=g0.1;rw [Ak t] at Y;refine gh (n:=ls.length) (by omega) (by omega) (λi f=>h<=f/\(∀(B:Nat) l,B<i->x.ak[B]? =some l->∀w∈l.waiters,GW c s n x y B l w)/\
    ∃E,Own h f 1 zT r (gU s.procs.length E)/\E++((x.ak.drop i).flatMap (λl=>l.waiters.map λw=>w.proc)++(s.procs.drop (n+1)).flatMap vF)=sK s)
    ⟨N,λk q H=>by omega,E3,b8,by rw [<-Y];simp [vF]⟩ ?_ ?_
   ·rintro i hi G ⟨A,S,F,b3,J⟩ K4 b6;refine mE (sh:=bd) (Rw.mono A g0) λL hL=> ?_;have hL:ls[i]? =some L:=hL;obtain ⟨l,d4,f9⟩:=f0.get hL;obtain ⟨ws,h8,h6⟩:=f9.waiters;have o5:L.bJ.len=ws.length:=h8.1;have h0:l.waiters.length=ws.length:=by rw [<-h6,List.length_map]
    have l1:L.cF.len=l.values.length:=f9.values.1;rw [Ak d4] at J;have j0:ws.length<=1152921504606846976:=by have:=congrArg List.length J;simp at this;omega
    refine gh (n:=ws.length) (by omega) (by omega) (λj f=>h<=f/\(∀w∈l.waiters.take j,GW c s n x y i l w)/\
     ∃E,Own h f 1 zT r (gU s.procs.length E)/\E++((l.waiters.drop j).map (λw=>w.proc)++((x.ak.drop (i+1)).flatMap (λl=>l.waiters.map λw=>w.proc)++(s.procs.drop (n+1)).flatMap vF))=sK s)
     ⟨A,λp hp=>by simp at hp,F,b3,by rw [<-J];simp⟩ ?_ ?_
    ·rintro j hj X ⟨Z,d2,R,c5,b5⟩ K5 i7;have k5:=k.mono Z;refine mE (sh:=aC) (Rw.mono Z h8) λw D=> ?_;have D:ws[j]? =some w:=D;have e6:l.waiters[j]? =some (vT w):=by rw [<-h6,List.getElem?_map,D];rfl
     rw [Ak e6] at b5;have M:¬GW c s n x y i l (vT w)->Q false X:=λO=>hq _ _ Z ⟨λe=>(by cases e),λd=>absurd (d.2.1 n x y t V i l d4 _ (List.mem_of_getElem? e6)) O⟩;refine Rw.wv (Rw.mono Z g8) (λ_=>rfl) (by omega) (sh:=af .i64) (λq=>q.Part) (λ_=>rfl) (by omega) (by omega) λq c6=> ?_;have c6:ps[n]? =some q:=c6;rw [i3] at c6;cases c6;rw [l2];refine lO (λb=>b=true↔qF c w.cU i) false (λ_ H=>QW (BE k5 H)) λr1 b9=>aE ?_;refine lO (λb=>b=true↔z.State≠5/\z.State≠6) false (λ_ H=>Ht (Gg H)) λr2 b0=>aE (aE ?_);rw [d0.state] at b0;rw [l1,k2];by_cases g1:(i:Int)=y.part
     ·have e1:((i:Int) !=y.part)=false:=by simpa using g1
      rw [e1] at b9 b0 ⊢;have b9:=b9 rfl;by_cases g2:qF c w.cU i
      ·have e2:=b9.2 g2;rw [e2] at b0 ⊢;have b0:=b0 rfl;by_cases g3:x.state≠5/\x.state≠6
       ·have e3:=b0.2 g3;rw [e3];by_cases g4:(l.values.length:Int)=c.lane
        ·have e4:(((l.values.length:Nat):Int) !=c.lane)=false:=by simpa using g4
         rw [e4];refine lO (λb=>b=true↔xg c s w.cU w.dt n) false (λ_ H=>zxk (adZ k5 g2 H)) λr3 c8=>aE ?_;have c8:=c8 rfl;by_cases g5:xg c s w.cU w.dt n
         ·rw [c8.2 g5,if_neg (by simp)];obtain ⟨U,l0, -⟩:=Gu k5 g2;refine Rs.get (sh:=af .i64) (c5.rw (λ_=>rfl)) (λ_=>rfl) (by omega) U (by rw [sx];omega) λ(I:Int) g=> ?_;have g:(gU s.procs.length R)[w.cU.toNat]? =some I:=g;rw [zx (by omega)] at g;have g:I=((R.countP λz=>decide (z=((w.cU.toNat:Nat):Int)):Nat):Int):=(Option.some.inj g).symm;have k6:R.length<=1152921504606846976:=by have:=congrArg List.length b5;simp at this;omega
          have j1:=List.countP_le_length (p:=λz=>decide (z=((w.cU.toNat:Nat):Int))) (l:=R);rw [g,aV];refine PX (enc:=zT) Z c5 (λ_=>rfl) U (by rw [sx];omega) (((R.countP λz=>decide (z=((w.cU.toNat:Nat):Int)):Nat):Int)+1) λh7 d5 b7=> ?_;rw [LG U] at b7;refine i7 h7 ⟨d5,λp' hp'=> ?_,R++ [w.cU],b7,by rw [<-b5];simp [vT]⟩;rw [List.take_add_one,e6] at hp';rcases List.mem_append.1 hp' with hp' | hp'
          ·exact d2 p' hp'
          ·have e:p'=vT w:=by simpa using hp'
           rw [e];exact ⟨g1,g2,g3,g4,g5⟩
         ·rw [show r3=false by rw [<-Bool.not_eq_true,c8];exact g5,if_pos (by simp)];exact M λd=>g5 d.2.2.2.2
        ·have e4:(((l.values.length:Nat):Int) !=c.lane)=true:=by simpa using g4
         rw [e4];refine ⟨λe=>(by cases e),λ_=>⟨false,aE ?_⟩⟩;rw [if_pos (by rfl)];exact M λd=>g4 d.2.2.2.1
       ·rw [show r2=false by rw [<-Bool.not_eq_true,b0];exact g3];refine ⟨λe=>(by cases e),λ_=>⟨false,aE ?_⟩⟩;rw [if_pos (by rfl)];exact M λd=>g3 d.2.2.1
      ·rw [show r1=false by rw [<-Bool.not_eq_true,b9];exact g2];refine ⟨λe=>(by cases e),λ_=>⟨false,aE ?_⟩⟩;rw [if_pos (by rfl)];exact M λd=>g2 d.2.1
     ·have e1:((i:Int) !=y.part)=true:=by simpa using g1
      rw [e1];refine ⟨λe=>(by cases e),λ_=>⟨false,aE ?_⟩⟩;rw [if_pos (by rfl)];exact M λd=>g1 d.1
    ·rintro X ⟨Z,d2,R,c5,b5⟩;refine b6 X ⟨Z,λB l' m4 d3 w D=> ?_,R,c5,by rw [<-b5,List.drop_eq_nil_iff.2 (Nat.le_of_eq h0)];simp⟩;by_cases k0:B<i
     ·exact S B l' k0 d3 w D
     ·have:B=i:=by omega
      subst this;rw [d4] at d3;cases d3;exact d2 w (by rw [List.take_of_length_le (Nat.le_of_eq h0)];exact D)
   grind
  ·rintro C ⟨N,c2,E3,b8,Y⟩;have hB:∀(r:Nat) x y,s.procs[r]? =some x->c.procs[r]? =some y->∀(i:Nat) l,x.ak[i]? =some l->∀w∈l.waiters,GW c s r x y i l w:=λr x y t=>c2 r x y (by grind) t;have i6:E3=sK s:=by grind
   subst i6;refine gh (n:=qs.length) (by omega) (by omega) (λn f=>f=C/\∀(p:Nat) x,p<n->s.procs[p]? =some x->(s.parts.map (j5 (p:Int))).sum+(s.procs.map (j4 (p:Int))).sum=if x.state=3\/x.state=2 then 1 else 0) ⟨rfl,λp x hp=>by omega⟩ ?_ ?_
   ·rintro n O G ⟨rfl,S⟩ K4 b6;refine mE (sh:=aI) (Rw.mono N c7) λz u=> ?_;have u:qs[n]? =some z:=u;obtain ⟨x,t,d0⟩:=c0.get u;refine dj.intro (λcQ f=>f=G/\cQ=if x.state=3\/x.state=2 then 1 else 0) ?_ ?_
    ·refine aE ?_;rw [d0.state];by_cases P:x.state=3\/x.state=2
     ·rw [if_pos (by simpa using P)];exact ⟨rfl,by rw [if_pos P]⟩
     grind
    ·rintro cQ X ⟨rfl,rfl⟩;refine Rs.get (sh:=af .i64) (b8.rw (λ_=>rfl)) (λ_=>rfl) (by omega) (by omega) (by rw [sx];omega) λ(I:Int) g=> ?_;have g:(gU s.procs.length (sK s))[n]? =some I:=g;rw [zx (by omega),abn] at g;have g:I=(((s.parts.map (j5 (n:Int))).sum+(s.procs.map (j4 (n:Int))).sum:Nat):Int):=(Option.some.inj g).symm;have f8:I=(if x.state=3\/x.state=2 then 1 else 0)↔(s.parts.map (j5 (n:Int))).sum+(s.procs.map (j4 (n:Int))).sum=if x.state=3\/x.state=2 then 1 else 0:=by rw [g];split<;>omega
     by_cases hg:I=(if x.state=3\/x.state=2 then 1 else 0)
     ·rw [if_neg (by simpa using hg)];refine b6 _ ⟨rfl,λp x' hp h9=> ?_⟩;by_cases n6:p<n
      ·grind
      ·have:p=n:=by omega
       subst this;rw [t] at h9;cases h9;exact f8.1 hg
     ·rw [if_pos (by simpa using hg)];exact hq _ _ N ⟨λe=>(by cases e),λd=>absurd (f8.2 (d.2.2 n x t)) hg⟩
   ·rintro G ⟨rfl,S⟩;refine hq _ _ N ⟨λ_=>⟨hA,hB,λp x t=>S p x (by grind) t⟩,λ_=>rfl⟩
end
def kh (c:aL) (s:aR):Prop:=wg c s λ(i:Nat) q=>fl c.labels (i:Int) q=true
theorem E7 {h:Hp} {x:an} {y:aH} {c:aL} {s:aR} {Q:Int->Hp->Prop} (a:eT h x c) (b:dw h y s) (hu:∀l∈c.labels,qW l) (M:s.parts.length<=8->(∀x∈s.parts,x.au.length<=8)->s.procs.length<=32->(∀x∈s.procs,x.ak.length<=9)->(sK s).length<=1152921504606846976)
  (h0:(fa c).1≠0->∀f,h<=f->Q (fa c).1 f) (m:(fa c).1=0->∀n f,h<=f->(n=0/\kh c s\/n=4/\¬kh c s)->Q n f):Ry prog x y Q h:=by
 unfold Ry;refine zzh (EZ a λh2 T=> ?_);by_cases o:(fa c).1≠0
 ·grind
 rw [if_neg (by simpa using o)];have o:(fa c).1=0:=Classical.not_not.1 o;have m:=m o;have hm:(jH c.labels).1=0:=by unfold fa at o;exact (fA.1 o).1
 refine L4 (MW (Rw.mono T a.labels) (λe=>absurd hm e) λ_ t N b1 Y=> ?_);have C:=Hp.le_trans T b1;have a3:=a.mono C;have I:=b.mono C;have c3:=a3.procs;obtain ⟨ps,b4,Z⟩:=a3.procs;obtain ⟨X,b5,a9⟩:=I.procs;obtain ⟨W,has,a8⟩:=I.parts;have e1:=Z.len;have e2:=a9.len;have e3:=a8.len;have c7:x.aD.len=ps.length:=b4.1;have c8:y.aD.len=X.length:=b5.1;have c5:y.cS.len=W.length:=has.1;have c6:x.aQ.len=c.labels.length:=a.labels.1;refine aE (aE (aE ?_));have ht:=b.tick;by_cases G:Ez c s
 ·have b6:=G;obtain ⟨⟨t0,t1⟩,s1,s2⟩:=b6;rw [if_neg (by simp;omega)];have k:iJ N ⟨x.aQ,x.Table,x.Fuel,x.fD,x.bE,x.Log,x.aD,y.eZ,y.cS,y.aD,some t⟩ c s:=⟨a3,I,⟨t,rfl,Y⟩,o,G,hu⟩;have F:(Value.agg #[x.aQ.v,x.Table.v,(.int .i64 x.Fuel),(.int .i64 x.fD),(.int .i64 x.bE),(.int .i64 x.Log),x.aD.v,(.int .i64 y.eZ),y.cS.v,y.aD.v,(.pointer (some t))])=bz.enc ⟨x.aQ,x.Table,x.Fuel,x.fD,x.bE,x.Log,x.aD,y.eZ,y.cS,y.aD,some t⟩:=rfl;rw [F];generalize (⟨x.aQ,x.Table,x.Fuel,x.fD,x.bE,x.Log,x.aD,y.eZ,y.cS,y.aD,some t⟩:be)=A at k;obtain ⟨⟨b9,c0⟩, -, -, -,⟨c1,c2⟩, -⟩:=k.bounds;refine gh (n:=W.length) (by omega) (by omega) (λi f=>N<=f/\∀(E:Nat) z,E<i->s.parts[E]? =some z->vu c s E z) ⟨Hp.le_refl _,λE z g=>by omega⟩ ?_ ?_
  ·rintro i g O ⟨j,R⟩ K P;have B:i<s.parts.length:=by omega
   have d:=List.getElem?_eq_getElem B;generalize s.parts[i]=z at d;refine zzk (a:=A) (TK (k.mono j) d λr J U D=> ?_);cases r with
   | true=>rw [jO];refine P J ⟨Hp.le_trans j U,λE z' c4 c9=> ?_⟩;grind
   | false=>rw [if_pos (by simp)];refine m _ _ (Hp.le_trans C (Hp.le_trans j U)) (.inr ⟨rfl,λu=> ?_⟩);have:=D.2 (u.2.1 i z d);cases this
  ·rintro O ⟨j,R⟩;have F:∀(i:Nat) z,s.parts[i]? =some z->vu c s i z:=λi z d=>R i z (by grind) d;refine gh (n:=X.length) (by omega) (by omega) (λi f=>f=O/\∀(p:Nat) z w,p<i->s.procs[p]? =some z->c.procs[p]? =some w->nZ c s (λ(i:Nat) q=>fl c.labels (i:Int) q=true) z w) ⟨rfl,λE z w g=>by omega⟩ ?_ ?_
   ·rintro i g J ⟨rfl,S⟩ K P;have B:i<s.procs.length:=by omega
    have d:=List.getElem?_eq_getElem B;generalize s.procs[i]=z at d;have B:i<c.procs.length:=by omega
    have H:=List.getElem?_eq_getElem B;generalize c.procs[i]=w at H;refine zzl (a:=A) (T8 (k.mono j) d H λr D=> ?_);cases r with
    | true=>grind
    | false=>rw [if_pos (by simp)];refine m _ _ (Hp.le_trans C j) (.inr ⟨rfl,λu=> ?_⟩);have:=D.2 (u.2.2.1 i z w d H);cases this
   ·rintro J ⟨rfl,S⟩;obtain ⟨-,⟨b7,b8⟩, -, -, -, -⟩:=k.bounds;have L:∀(p:Nat) z w,s.procs[p]? =some z->c.procs[p]? =some w->nZ c s (λ(i:Nat) q=>fl c.labels (i:Int) q=true) z w:=λp z w d=>S p z w (by grind) d;have M:=M (by omega) (λz d=>by
     obtain ⟨i,g⟩:=List.getElem?_of_mem d;have:=(F i z g).2.2.2.2.2.2.1;omega) (by omega) (λz d=>by
     obtain ⟨i,g⟩:=List.getElem?_of_mem d;have B:=(List.getElem?_eq_some_iff.1 g).1;have:=(L i z _ g (List.getElem?_eq_getElem (show i<c.procs.length by omega))).2.2.1;omega)
    refine zxj (a:=A) (ad1 (k.mono j) (λi z d=> ?_) (λp z w d H=> ?_) M λr h6 b2 D=> ?_)
    ·have:=F i z d;exact ⟨this.2.2.2.2.2.1,this.2.2.2.2.2.2.1⟩
    ·have:=L p z w d H;exact ⟨this.2.2.1,λe=>by obtain ⟨n,hn,_⟩:=this.2.2.2.2.2.2.2.2.2.2.2.1 e;exact ⟨n,hn⟩⟩
    ·have V:=Hp.le_trans C (Hp.le_trans j b2);cases r with
     | true=>rw [jO];exact m _ _ V (.inl ⟨rfl,G,F,L,D.1 rfl⟩)
     | false=>rw [if_pos (by simp)];refine m _ _ V (.inr ⟨rfl,λu=> ?_⟩);have:=D.2 u.2.2.2;cases this
 ·rw [if_pos ?_]
  ·exact m _ _ C (.inr ⟨rfl,λu=>G u.1⟩)
  ·refine Classical.byContradiction λb0=>G ?_;simp at b0;refine ⟨by omega,by omega,by omega⟩
def Wr (a h:Hp) (b:Nat) (bs:List UInt8):Prop:=
 ∃(l:Sl) (F:List Nat),eS h b [l.v]/\a b=none/\a<=h/\(dF h 1 eB l bs F\/F=[]/\Bs a l bs/\l.len=l.cap/\bs.length<=5)/\b∉F/\∀c∈F,a c=none
section
variable {h0 h:Hp} {a:Nat} {bs:List UInt8}
theorem Wr.le (w:Wr h0 h a bs):h0<=h:=by obtain ⟨l,F,_,_,b,_⟩:=w;exact b
theorem Ol (w:Wr h0 h a bs):∃l:Sl,aZ h ⟨a,0,none⟩ (bA (aw.enc l))/\∀i,h<=i->∀(x:Sl) (k:List UInt8) (g:Addr->Addr),g ⟨a,0,none⟩=⟨a,0,none⟩->Rw i 1 eB x k->k≠ []->bs.length+k.length<=1099511627776->∀K:Hp->Prop,
  (∀y,Wr h0 y a (bs++k)->K y)->eC 1 1 [.int .u8 0] l x (λr d=>ah none (some ⟨a,0,none⟩) λu=>cX d (g u) [r.v] K) i:=by
 obtain ⟨l,F,hb,D,q,m,z,M⟩:=w;refine ⟨l,hb.bU (off:=0) (n:=1) rfl,λi j x k g R G S Z K O=> ?_⟩;have p:=hb.le j;have A:∀(r:Sl) (d:Hp) (f:List Nat),eS d a [l.v]->h0<=d->dF d 1 eB r (bs++k) f->a∉f->(∀c∈f,h0 c=none)->ah none (some ⟨a,0,none⟩) λu=>cX d (g u) [r.v] K:=λr d f T U V H W=>by refine aJ ?_;rw [R];refine qQ T (by simp) λJ I X=> ?_;refine O J ⟨r,f,by simpa using X,D,(I.le U λb hb=>by rw [List.mem_singleton.1 hb];exact D).1,.inl (V.mv I λb hb e=> ?_),H,W⟩;rw [List.mem_singleton.1 e] at hb;exact H hb
 rcases m with m | ⟨rfl,L,Q, -⟩
 ·have N:dF i 1 eB l bs F:=m.same λb hb=>by
   cases e:h b with
   | none=>exact absurd e (m.known b hb)
   | some o=>exact j b o e
  refine xV N G sQ tn rfl (by omega) λr d f s t=> ?_;have C:=t.le (Hp.le_trans q j) M;refine A r d f (p.mv t z) C.1 s (λe=> ?_) C.2;rcases t.from_ a e with e | e
  ·exact z e
  ·exact p.known e
 ·refine K8 (h0:=i) (Hp.le_refl _) (Rw.mono (Hp.le_trans q j) L) Q G S sQ tn rfl (by omega) λr d B Y _=> ?_;obtain ⟨f,s,E⟩:=Y.wE;refine A r d f (p.le B) (Hp.le_trans q (Hp.le_trans j B)) s (λe=>p.known (E a e)) λc P=>qj (Hp.le_trans q j) (E c P)
theorem BW {P:Program} {n m:Int} {k:Nat} {Q:Hp->Prop} (w:Wr h0 h a bs) (y:m=(k:Int)) (x:k<=8) (hb:bs.length+k<=1099511627776) (v:∀c,Wr h0 c a (bs++bG n k)->Q c):ZV P (some ⟨a,0,none⟩) n m Q h:=by
 unfold ZV;refine gh (n:=k) y (by omega) (λi c=>Wr h0 c a (bs++(bG n k).take i)) (by simpa using w) (λi u C A K s=> ?_) λc j=> ?_
 ·obtain ⟨l,f,t⟩:=Ol A;obtain ⟨d,o⟩:=KZ (IntKind.wrap .u64 n) (i:=(i:Int)) (by omega) (by omega);refine aJ (bg l f ⟨by rw [d];omega,?_⟩);rw [d,o];have e:=GS (IntKind.wrap .u64 n) k i u;rw [ze x] at e;refine lT (xs:=[UInt8.ofNat ((IntKind.wrap .u64 n / ((256^(i:Int).toNat:Nat):Int))%256).toNat]) (enc:=eB) (sz:=1) rfl sQ λb q _ g _ z=> ?_;refine ⟨⟨nE g f,trivial⟩,?_⟩;refine t q g _ _ (λp=>p.add 0) rfl (z.rw sQ) (by simp) (by simp;omega) _ λr B=>s r ?_;rw [List.take_add_one,e,<-List.append_assoc];exact B
 ·rw [List.take_of_length_le (by rw [eN];omega)] at j;exact v c j
theorem sN {n m:Int} {k:Nat} {Q:Hp->Prop} (w:Wr h0 h a bs) (e:m=(k:Int)) (d:k<=8) (hb:bs.length+k<=1099511627776) (c:∀b,Wr h0 b a (bs++bG n k)->Q b):Ym prog (some ⟨a,0,none⟩) n m Q h:=by unfold Ym;exact AO (BW w e d hb c)
theorem Ni {b:List (List UInt8)} {i:Nat} {e:List UInt8} (c:b[i]? =some e):(bs++(b.take i).flatten)++e=bs++(b.take (i+1)).flatten/\(bs++(b.take i).flatten).length+e.length<=bs.length+b.flatten.length:=by
 constructor
 ·rw [List.take_add_one,c];simp
 ·obtain ⟨d,rfl⟩:=List.getElem?_eq_some_iff.1 c;have:b.flatten=(b.take i).flatten++(b[i]++(b.drop (i+1)).flatten):=by have h:=congrArg List.flatten (List.take_append_drop i b);rw [List.flatten_append,List.drop_eq_getElem_cons d,List.flatten_cons] at h;exact h.symm
  rw [this];simp;omega
end
theorem om {c h:Hp} {d:Nat} {bs:List UInt8} {sh:Shape} {sz:Nat} {src:Sl} {f:List sh.T} {es:List (List UInt8)} (B:Int->sh.T->(Hp->Prop)->Hp->Prop) {X:Hp->Prop} (q:∀x,(bA (sh.enc x)).length=sz) (v:0<sz)
  (r:Rs c sh sz src f) (w:Wr c h d bs) (A:es.length=f.length) (hb:bs.length+es.flatten.length<=1099511627776) (s:f.length<=4611686018427387904)
  (u:∀(i:Nat) x e j b k,f[i]? =some x->es[i]? =some e->Wr c b d j->j.length+e.length<=1099511627776->(∀a,Wr c a d (j++e)->k a)->B (i:Int) x k b)
  (y:∀a,Wr c a d (bs++es.flatten)->X a):
  aB (α1:=Int) (λo t b=>(if (decide (t<((src.len:Nat):Int)))=true then ((bI src.base src.len t)/\aN none sh b (sat src.base sz t) λx=>B t x (λa=>o (yw (t+(1:Int))) a) b) else X b)) (0:Int) h:=by
 have D:=r.1;refine gh (n:=f.length) (by omega) s (λi a=>Wr c a d (bs++(es.take i).flatten)) (by simpa using w) (λi C b m K p=> ?_) λa g=> ?_
 ·refine Rs.get (sh:=sh) (Rw.mono m.le r) q v (by omega) (by omega) λx z=> ?_;have l:es[i]? =some (es[i]'(by omega)):=List.getElem?_eq_getElem (by omega);obtain ⟨s1,s2⟩:=Ni (bs:=bs) l;refine u i x _ _ b _ z l m (by omega) λa g=>p a ?_;rw [<-s1];exact g
 ·rw [List.take_of_length_le (by omega)] at g;exact y a g
theorem Wx {n:Int} {k:Nat} (b:k<=8):bG (yw n) k=bG n k:=by
 refine Pz ?_;have a:∃q:Int,yw n=n+q*18446744073709551616:=by
  (try unfold yw);unfold IntKind.wrap
  simp only [IntKind.signed,IntKind.bits];refine ⟨if n%18446744073709551616<9223372036854775808 then -(n / 18446744073709551616) else -(n / 18446744073709551616)-1,?_⟩;simp;split<;>split<;>omega
 obtain ⟨q,c⟩:=a;rw [c]
 match k,b with
 | 0,_=>omega
 | 1,_=>omega
 | 2,_=>omega
 | 3,_=>omega
 | 4,_=>omega
 | 5,_=>omega
 | 6,_=>omega
 | 7,_=>omega
 | 8,_=>omega
theorem wX {b:Type} {f:b->List UInt8} {B:Nat}:∀(l:List b),(∀x,(f x).length=B)->(l.map f).flatten.length=B*l.length
 | [],_=>by simp
 | x::l,a=>by simp only [List.map_cons,List.flatten_cons,List.length_append,a,wX l a,List.length_cons];rw [Nat.mul_add];omega
section
variable {h0 h:Hp} {b:Nat} {bs:List UInt8} {Q:Hp->Prop}
theorem Wz {x:bF} {p:aX} (w:Wr h0 h b bs) (a:jA h0 x p) (hb:bs.length+(fU p).length<=1099511627776) (C:∀s,Wr h0 s b (bs++fU p)->Q s):Z6 prog (some ⟨b,0,none⟩) x Q h:=by
 unfold Z6;obtain ⟨A,z,u⟩:=a.waiters;have F:x.cF.len=p.values.length:=a.values.1;have G:x.bJ.len=A.length:=z.1;have y:p.waiters.length=A.length:=by rw [<-u,List.length_map]
 have O:(fU p).length=6+(p.values.map λv=>bG v 8).flatten.length+(p.waiters.map zP).flatten.length:=by simp only [fU,List.length_append,eN,List.flatMap_def];omega
 have P:(p.values.map λv=>bG v 8).flatten.length=8*p.values.length:=wX _ λ_=>eN _ _;have R:(p.waiters.map zP).flatten.length=9*p.waiters.length:=wX _ λ_=>by simp [zP,eN]
 refine aJ (sL (sN (k:=1) w rfl (by omega) (by omega) λM K=> ?_));refine om (sh:=af .i64) (es:=p.values.map λv=>bG v 8) (λ_ (f:Int) k g=>ah none (some ⟨b,0,none⟩) λH=>aM prog u4 [(.pointer (some (Addr.add H 0))),(.int .i64 f),(.int .i64 (8:Int))] k g)
  (λ_=>rfl) (by omega) a.values K (by simp) (by simp only [List.length_append,eN];omega) (by omega) (λi v e r g k hv c n B D=> ?_) λg n=> ?_
 ·rw [List.getElem?_map,hv] at c;cases c;exact aJ (AO (BW (k:=8) n rfl (by omega) (by simpa [eN] using B) D))
 refine aJ (sL (sN (k:=1) n rfl (by omega) (by simp only [List.length_append,eN];omega) λN L=> ?_));refine om (sh:=aC) (es:=p.waiters.map zP) (λ_ f k j=>ah none (some ⟨b,0,none⟩) λI=>
   aM prog ou [(.pointer (some (Addr.add I 0))),(.int .i64 f.cU),(.int .i64 (1:Int))] (λl=>
   ah none (some ⟨b,0,none⟩) λJ=>aM prog u4 [(.pointer (some (Addr.add J 0))),(.int .i64 f.dt),(.int .i64 (8:Int))] k l) j)
  (λ_=>rfl) (by omega) z L (by simp [y]) (by simp only [List.length_append,eN];omega) (by omega) (λi v e r j k hv c o t E=> ?_) λj o=> ?_
 ·rw [<-u,List.map_map,List.getElem?_map,hv] at c;cases c;have t:r.length+9<=1099511627776:=by simpa [zP,eN] using t
  refine aJ (sL (sN (k:=1) o rfl (by omega) (by omega) λl q=> ?_));refine aJ (AO (BW (k:=8) q rfl (by omega) (by simp only [List.length_append,eN];omega) λm d=>E m ?_));rw [List.append_assoc] at d;exact d
 refine aJ (sL (sN (k:=2) o rfl (by omega) (by simp only [List.length_append,eN];omega) λl q=> ?_));refine aJ (sL (sN (k:=2) q rfl (by omega) (by simp only [List.length_append,eN];omega) λm d=>C m ?_));rw [F,G,<-y,a.taken,a.dropped] at d;simpa [fU,List.append_assoc,List.flatMap_def] using d
end
section
variable {h0 h:Hp} {b:Nat} {bs:List UInt8} {Q:Hp->Prop}
theorem abq {a c:Type} {l:List a} {m:List c} {i:Nat} {z:a×c} (h:(l.zip m)[i]? =some z):l[i]? =some z.1/\m[i]? =some z.2:=by rw [List.getElem?_zip_eq_some] at h;exact h
theorem WB {x:bM} {p:cJ} (w:Wr h0 h b bs) (a:jB h0 x p) (c3:p.ax.length=p.au.length) (hb:bs.length+(jf p).length<=1099511627776) (hk:∀T,Wr h0 T b (bs++jf p)->Q T):ZX prog (some ⟨b,0,none⟩) x Q h:=by
 unfold ZX;obtain ⟨es,X,Y⟩:=a.log;obtain ⟨L,G,U⟩:=a.au;have b3:x.Log.len=es.length:=X.1;have c2:x.cE.len=p.ax.length:=a.ax.1;have c4:x.bQ.len=L.length:=G.1;have c5:=U.len;have a8:p.log.length=es.length:=by rw [<-Y,List.length_map]
 have c1:(p.log.map qk).flatten.length=17*p.log.length:=wX _ λ_=>by simp [qk,eN]
 have a9:(p.ax.zip p.au).length=p.ax.length:=by rw [List.length_zip];omega
 have hL:(jf p).length=7+(p.log.map qk).flatten.length+((p.ax.zip p.au).map iN).flatten.length:=by simp only [jf,List.length_append,eN,List.flatMap_def];omega
 have b9:p.ax.length<=((p.ax.zip p.au).map iN).flatten.length:=by
  rw [<-a9];generalize p.ax.zip p.au=z
  induction z with
  | nil=>simp
  | cons y z ih=>
   have:0<(iN y).length:=by simp [iN,eN];omega
   simp only [List.map_cons,List.flatten_cons,List.length_append,List.length_cons];omega
 refine aJ (sL (sN (k:=1) w rfl (by omega) (by omega) λh1 w1=> ?_));refine aJ (sL (sN (k:=2) w1 rfl (by omega) (by simp only [List.length_append,eN];omega) λh2 w2=> ?_));refine om (sh:=cW) (es:=p.log.map qk) (λ_ m k A=>ah none (some ⟨b,0,none⟩) λp2=>
   aM prog u4 [(.pointer (some (Addr.add p2 0))),(.int .i64 m.eZ),(.int .i64 (8:Int))] (λB=>
   ah none (some ⟨b,0,none⟩) λp3=>
   aM prog ou [(.pointer (some (Addr.add p3 0))),(.int .i64 m.cU),(.int .i64 (1:Int))] (λC=>
   ah none (some ⟨b,0,none⟩) λI=>
   aM prog u4 [(.pointer (some (Addr.add I 0))),(.int .i64 m.dt),(.int .i64 (8:Int))] k C) B) A)
  (λ_=>rfl) (by omega) X w2 (by simp [a8]) (by simp only [List.length_append,eN];omega) (by omega) (λi v e S A k hv f M V b4=> ?_) λA M=> ?_
 ·rw [<-Y,List.map_map,List.getElem?_map,hv] at f;cases f;have V:S.length+17<=1099511627776:=by simpa [qk,eN] using V
  refine aJ (AO (BW (k:=8) M rfl (by omega) (by omega) λB N=> ?_));refine aJ (sL (sN (k:=1) N rfl (by omega) (by simp only [List.length_append,eN];omega) λC O=> ?_));refine aJ (AO (BW (k:=8) O rfl (by omega) (by simp only [List.length_append,eN];omega) λl g=>b4 l ?_));rw [List.append_assoc,List.append_assoc] at g;exact g
 refine aJ (sL (sN (k:=2) M rfl (by omega) (by simp only [List.length_append,eN];omega) λB N=> ?_));refine aJ (sL (sN (k:=2) N rfl (by omega) (by simp only [List.length_append,eN];omega) λC O=> ?_));refine om (sh:=af .i64) (es:=(p.ax.zip p.au).map iN) (λt (m:Int) k l=>ah none (some ⟨b,0,none⟩) λI=>
   aM prog ou [(.pointer (some (Addr.add I 0))),(.int .i64 (yw (m+(1:Int)))),(.int .i64 (1:Int))] (λD=>
   ah none (some ⟨b,0,none⟩) λp5=>
   ((bI x.bQ.base x.bQ.len t)/\aN none aw D (sat x.bQ.base 1 t) λx2=>
   aM prog ou [(.pointer (some (Addr.add p5 0))),(.int .i64 ((x2.len:Nat):Int)),(.int .i64 (1:Int))] (λE=>
   ((bI x.bQ.base x.bQ.len t)/\aN none aw E (sat x.bQ.base 1 t) λs=>
   aB (α1:=Int) (λb0 n d=>
   (if (decide (n<((s.len:Nat):Int)))=true then
   ((bI s.base s.len n)/\aN none (af .i64) d (sat s.base 1 n) λR=>
   ah none (some ⟨b,0,none⟩) λJ=>
   aM prog ou [(.pointer (some (Addr.add J 0))),(.int .i64 R),(.int .i64 (1:Int))] (λb1=>
   b0 (yw (n+(1:Int))) b1) d)
   else k d)) (0:Int) E)) D)) l)
  (λ_=>rfl) (by omega) a.ax O (by rw [List.length_map,a9]) (by simp only [List.length_append,eN];omega) (by omega) (λi o e S l k ho f g b8 b5=> ?_) λl g=> ?_
 ·rw [List.getElem?_map] at f;cases H:(p.ax.zip p.au)[i]? with
  | none=>rw [H] at f;cases f
  | some z=>
   rw [H] at f;cases f;obtain ⟨u,z2⟩:=abq H;rw [ho] at u;have u:o=z.1:=Option.some.inj u;obtain ⟨q,F,Z⟩:=U.get' z2;have hi:=(List.getElem?_eq_some_iff.1 F).1;have c6:Sl.len q=z.2.length:=Z.1;have c7:(z.2.map λp=>bG p 1).flatten.length=1*z.2.length:=wX _ λ_=>eN _ _;have c0:(iN z).length=2+(z.2.map λp=>bG p 1).flatten.length:=by simp only [iN,List.length_append,eN,List.flatMap_def];omega
   refine aJ (sL (sN (k:=1) g rfl (by omega) (by omega) λD P=> ?_));rw [Wx (by omega)] at P;refine aJ ?_;refine mE (sh:=aw) (Rw.mono P.le G) λK c=> ?_;have c:L[i]? =some K:=c;rw [F] at c;cases c;refine sL (sN (k:=1) P rfl (by omega) (by simp only [List.length_append,eN];omega) λE w8=> ?_);refine mE (sh:=aw) (Rw.mono w8.le G) λK c=> ?_;have c:L[i]? =some K:=c;rw [F] at c;cases c;refine om (sh:=af .i64) (es:=z.2.map λp=>bG p 1) (λ_ (R:Int) k d=>ah none (some ⟨b,0,none⟩) λJ=>
     aM prog ou [(.pointer (some (Addr.add J 0))),(.int .i64 R),(.int .i64 (1:Int))] k d)
    (λ_=>rfl) (by omega) Z w8 (by simp) (by simp only [List.length_append,eN];omega) (by omega) (λj v e b7 d k9 hv W r b2 b6=> ?_) λd r=>b5 d ?_
   ·rw [List.getElem?_map,hv] at W;cases W;exact aJ (sL (sN (k:=1) r rfl (by omega) (by simpa [eN] using b2) b6))
   ·have e1:(Sl.len q:Int)=(z.2.length:Int):=by omega
    rw [u,e1] at r;simpa [iN,List.append_assoc,List.flatMap_def] using r
 ·refine hk l ?_;rw [a.ai,b3,<-a8,a.lost,a.forbidden] at g;simpa [jf,List.append_assoc,List.flatMap_def] using g
theorem WD {x:aK} {p:aj} (w:Wr h0 h b bs) (a:eO h0 x p) (hb:bs.length+(uw p).length<=1099511627776) (E:∀c,Wr h0 c b (bs++uw p)->Q c):ZZ prog (some ⟨b,0,none⟩) x Q h:=by
 unfold ZZ;obtain ⟨L,t,s⟩:=a.ak;have a9:x.cR.len=L.length:=t.1;have I:=s.len;have b0:(p.aP.map λv=>bG v 8).flatten.length=8*p.aP.length:=wX _ λ_=>eN _ _;have J:p.aP.length=8:=by rw [<-a.aP];rfl
 have Z:(uw p).length=21+(p.aP.map λv=>bG v 8).flatten.length+(p.ak.map fU).flatten.length:=by simp only [uw,List.length_append,eN,List.flatMap_def];omega
 have a8:p.ak.length<=(p.ak.map fU).flatten.length:=by
  generalize p.ak=z
  induction z with
  | nil=>simp
  | cons y z ih=>
   have:0<(fU y).length:=by simp [fU,eN];omega
   simp only [List.map_cons,List.flatten_cons,List.length_append,List.length_cons];omega
 refine aJ (sL (sN (k:=1) w rfl (by omega) (by omega) λU M=> ?_));refine aJ (sL (sN (k:=2) M rfl (by omega) (by simp only [List.length_append,eN];omega) λV N=> ?_));refine gh (n:=8) rfl (by omega) (λi c=>Wr h0 c b ((bs++bG x.State 1++bG x.PC 2)++((p.aP.map λv=>bG v 8).take i).flatten)) (by simpa using N) (λi hi u j K B=> ?_) λu j=> ?_
 ·have o:p.aP[i]? =some (p.aP[i]'(by omega)):=List.getElem?_eq_getElem (by omega);generalize p.aP[i]'(by omega)=v at o;have D:([x.cl,x.cm,x.cn,x.cp,x.cq,x.cv,x.cw,x.cC]:List Int)[i]? =some v:=by rw [a.aP];exact o
  have g:(p.aP.map λv=>bG v 8)[i]? =some (bG v 8):=by rw [List.getElem?_map,o];rfl
  obtain ⟨s1,s2⟩:=Ni (bs:=bs++bG x.State 1++bG x.PC 2) g;simp only [List.length_append,eN] at s2;refine ⟨⟨by omega,by omega⟩,v,?_,aJ (AO (BW (k:=8) j rfl (by omega) (by simp only [List.length_append,eN];omega) λr q=>B r ?_))⟩
  ·rw [Nk,Nat.mul_one];have:=congrArg (Option.map λn:Int=>Value.int .i64 n) D;rw [<-List.getElem?_map] at this;exact this
  ·rw [<-s1];exact q
 rw [List.take_of_length_le (by simp [J])] at j;refine aJ (sL (sN (k:=1) j rfl (by omega) (by simp only [List.length_append,eN];omega) λr q=> ?_));refine aJ (AO (BW (k:=8) q rfl (by omega) (by simp only [List.length_append,eN];omega) λA O=> ?_));refine dj.intro (λf c=>c=A/\f=uh p.bB) ?_ ?_
 ·rw [a.bB];cases p.bB with
  | true=>rw [if_pos rfl];exact ⟨rfl,rfl⟩
  | false=>rw [jO];exact ⟨rfl,rfl⟩
 rintro f W ⟨rfl,rfl⟩;refine aJ (sL (sN (k:=1) O rfl (by omega) (by simp only [List.length_append,eN];omega) λX P=> ?_));refine aJ (AO (BW (k:=8) P rfl (by omega) (by simp only [List.length_append,eN];omega) λY R=> ?_));refine om (sh:=bd) (es:=p.ak.map fU) (λ_ S k d=>aM prog Ra [(.pointer (some ⟨b,0,none⟩)),S.v] k d)
  (λ_=>rfl) (by omega) t R (by simp [I]) (by simp only [List.length_append,eN];omega) (by omega) (λi v e T d k hv g m C F=> ?_) λd m=>E d ?_
 ·obtain ⟨l,G,H⟩:=s.get hv;rw [List.getElem?_map,G] at g;cases g;exact S6 (Wz m H C F)
 ·rw [a.state,a.pc,a.ai,a.timer,a.bP] at m;simpa [uw,List.append_assoc,List.flatMap_def] using m
end
theorem ln {h:Hp} {cs:List Value} {K:Addr->Hp->Prop} (d:∀b a,h b=none->h<=a->eS a b cs->K ⟨b,0,none⟩ a):bc cs K h:=λb t c=>d b _ c (mY c) ⟨t,nz⟩
def nX (c:aL) (s:aR) (e:Int):Prop:=((fa c).1≠0/\e=(fa c).1)\/((fa c).1=0/\(e=0/\kh c s\/e=4/\¬kh c s))
theorem Y6 (c:aL):fg c≠ []:=by simp [fg]
theorem MV {h:Hp} {x:an} {y:aH} {c:aL} {s:aR} {Q:Sl->Int->Hp->Prop} (a:eT h x c) (b:dw h y s) (hu:∀l∈c.labels,qW l) (Z:s.parts.length<=8->(∀x∈s.parts,x.au.length<=8)->s.procs.length<=32->(∀x∈s.procs,x.ak.length<=9)->(sK s).length<=1152921504606846976)
  (O:(fa c).1=0->kh c s->(iO c s).length<=1048576) (M:∀e f,h<=f->e≠0->nX c s e->Q ⟨none,0,0⟩ e f)
  (X:(fa c).1=0->kh c s->∀out f,h<=f->ki h f out (iO c s)->Q out 0 f):zyq prog x y Q h:=by
 unfold zyq;refine zsd (E7 a b hu Z (λd E g=> ?_) λd n E g hn=> ?_)
 ·rw [if_pos (by simpa using d)];exact M _ E g d (.inl ⟨d,rfl⟩)
 rcases hn with ⟨rfl,o⟩ | ⟨rfl,o⟩
 case inr=>rw [if_pos (by rfl)];exact M _ E g (by decide) (.inr ⟨d,.inr ⟨rfl,o⟩⟩)
 rw [jO];have O:=O d o;have a8:=o;have a1:=a.mono g;have R:=b.mono g;refine WX (abO a1 (λb4=>absurd d b4) λ_ out k2 G o2=> ?_);rw [jO];refine GY [70,66,83,78,1] rfl rfl λam k3 w S=> ?_;refine ln (cs:=[(.slice (some am) 5 5)]) λA k4 b6 b9 Y=> ?_;have w4:Wr k3 k4 A [70,66,83,78,1]:=⟨⟨some am,5,5⟩,[],Y,b6,b9,.inr ⟨rfl,S,rfl,by simp⟩,by simp,by simp⟩;have a3:=(a1.mono G).mono w;have I:=(R.mono G).mono w;obtain ⟨qs,b8,L⟩:=I.procs;obtain ⟨pa,has,K⟩:=I.parts;have U:=L.len;have V:=K.len;have J:=(o2.rw sQ).mono w;have b7:out.len=(fg c).length:=J.1;obtain ⟨⟨-,c2,c3⟩,a9, -⟩:=o;have hL:(iO c s).length=17+(fg c).length+(s.parts.map jf).flatten.length+(s.procs.map uw).flatten.length:=by simp only [iO,List.length_append,eN,List.flatMap_def,List.length_cons,List.length_nil];omega
 obtain ⟨_,_,_,_,_,_,_,_,_,c0,_⟩:=fA.1 d;have b5:(jH c.labels).1=0:=(fA.1 d).1;have c1:=(fN.1 b5).2.1;refine aJ (sL (sN (k:=4) w4 rfl (by omega) (by simp) λk5 P=> ?_));obtain ⟨l,hl,b2⟩:=Ol P;refine aJ (bg l hl (b2 _ (Hp.le_refl _) ⟨out.base,out.len,out.cap⟩ (fg c) (λp=>(p.add 0).add 0) rfl (J.mono P.le) (Y6 c) (by simp [eN];omega) _ λk6 w6=> ?_));refine aJ (AO (BW (k:=8) w6 rfl (by omega) (by simp [eN];omega) λk7 w7=> ?_));refine om (sh:=bx) (es:=s.parts.map jf) (λ_ H k m=>aM prog Q7 [(.pointer (some ⟨A,0,none⟩)),H.v] k m)
  (λ_=>rfl) (by omega) has w7 (by simp [V]) (by simp only [List.length_append,eN,List.length_cons,List.length_nil];omega) (by omega) (λi v e T m k hv q j B C=> ?_) λk8 w8=> ?_
 ·obtain ⟨z,u,D⟩:=K.get hv;rw [List.getElem?_map,u] at q;cases q;have hp:=a9 i z u;exact S3 (WB j D (by have:=hp.2.2.2.2.2.1;have:=hp.2.2.2.2.2.2.1;omega) B C)
 refine om (sh:=aI) (es:=s.procs.map uw) (λ_ H k m=>aM prog Q8 [(.pointer (some ⟨A,0,none⟩)),H.v] k m)
  (λ_=>rfl) (by omega) b8 w8 (by simp [U]) (by simp only [List.length_append,eN,List.length_cons,List.length_nil];omega) (by omega) (λi v e T m k hv q j B C=> ?_) λk9 j=> ?_
 ·obtain ⟨z,u,D⟩:=L.get hv;rw [List.getElem?_map,u] at q;cases q;exact S4 (WD j D B C)
 have e:iO c s=[70,66,83,78,1]++bG (out.len:Int) 4++fg c++bG y.eZ 8++(s.parts.map jf).flatten++(s.procs.map uw).flatten:=by rw [b7,b.tick];simp [iO,List.append_assoc,List.flatMap_def]
 rw [<-e] at j;obtain ⟨r,F,f1,f2,f3,t,f5,W⟩:=j;refine aJ (bg r (f1.bU (off:=0) (n:=1) rfl) ?_);have N:=Hp.le_trans g (Hp.le_trans G w);rcases t with t | ⟨_,_,_,t⟩
 ·exact X d a8 r k9 (Hp.le_trans N f3) (t.own λc d=>qj N (W c d))
 ·omega
abbrev RS :Type:=Except (Int×Nat) Nat
def cM {a:Type} (r:RS) (d:D a) (b:List UInt8):Except (Int×Nat) (a×Nat):=match r with
 | .ok at_=>d b at_
 | .error e=>.error e
def Cn {a:Type} (b:List UInt8) (r:RS) (d:D a) (c:RS) (x:a):Prop:=∀(e:Type) (f:a->D e),cM r (D.bind d f) b=cM c (f x) b
section
variable {α β:Type} {bs:List UInt8} {r r1 r2:RS}
theorem jh {c:Type} (d:D α) (g:α->D β) (f:β->D c):D.bind (D.bind d g) f=D.bind d λx=>D.bind (g x) f:=by funext b a;unfold D.bind;grind
theorem Y8 (x:α) (f:α->D β):D.bind (D.ret x) f=f x:=rfl
theorem Cn.ok {d:D α} {at_ a:Nat} {x:α} (h:d bs at_=.ok (x,a)):Cn bs (.ok at_) d (.ok a) x:=λβ f=>by show D.bind d f bs at_=f x bs a;unfold D.bind;rw [h]
theorem Cn.err {d:D α} {at_:Nat} {e:Int×Nat} {x:α} (h:d bs at_=.error e):Cn bs (.ok at_) d (.error e) x:=λβ f=>by show D.bind d f bs at_=.error e;unfold D.bind;rw [h]
theorem Cn.stay {d:D α} {e:Int×Nat} {x:α}:Cn bs (.error e) d (.error e) x:=λβ f=>rfl
theorem Cn.ret {x:α}:Cn bs r (D.ret x) r x:=λβ f=>by rw [Y8]
theorem Cn.seq {d:D α} {g:α->D β} {x:α} {y:β} (a:Cn bs r d r1 x) (b:Cn bs r1 (g x) r2 y):Cn bs r (D.bind d g) r2 y:=λc f=>by rw [jh,a,b]
theorem Cn.done {d:D α} {x:α} (h:Cn bs r d r1 x):cM r d bs=match r1 with | .ok at_=>.ok (x,at_) | .error e=>.error e:=by
 have:=h α D.ret;have e:D.bind d D.ret=d:=by funext b a;unfold D.bind D.ret;grind
 rw [e] at this;rw [this];cases r1<;>rfl
theorem Cn.map {d:D α} {g:α->β} {x:α} (h:Cn bs r d r1 x):Cn bs r (D.map g d) r1 (g x):=Cn.seq h Cn.ret
end
theorem WG (l:List UInt8) (b:UInt8):iR (l++ [b])=iR l+256^l.length*b.toNat:=by
 induction l with
 | nil=>simp [iR]
 | cons c l a=>simp only [List.cons_append,iR,a,List.length_cons,Nat.pow_succ];grind
theorem abu {n c i:Nat} (m:n<256^i) (k:i<8) (j:c<256):eK .or .u64 (n:Int) (qJ .u64 (IntKind.wrap .u64 (c:Int)) (8*(i:Int)))=((n+256^i*c:Nat):Int):=by
 have a:(256:Nat)^i=2^(8*i):=by rw [show (256:Nat)=2^8 by rfl,<-Nat.pow_mul]
 have hp:256^i*256<=18446744073709551616:=by rw [<-Nat.pow_succ];exact Nat.pow_le_pow_right (by omega:256>0) (show i+1<=8 by omega)
 have l:256^i*c+256^i<=256^i*256:=by have:=Nat.mul_le_mul_left (256^i) (show c+1<=256 by omega);omega
 have b:IntKind.wrap .u64 (c:Int)=(c:Int):=tW ⟨by omega,by omega⟩;have d:qJ .u64 (c:Int) (8*(i:Int))=((256^i*c:Nat):Int):=by
  unfold qJ;have:min (8*(i:Int)).toNat (IntKind.bits .u64)=8*i:=by show min _ 64=_;omega
  rw [this,tW]
  ·rw [a,Int.natCast_mul,Int.mul_comm];norm_cast
  grind
 rw [b,d];unfold eK;have e:qW (n:Int):=⟨by omega,by omega⟩;have f:qW ((256^i*c:Nat):Int):=⟨by omega,by omega⟩;have g:IntKind.bits .u64=64:=rfl;dsimp only;rw [g,Bl e,Bl f,BitVec.toNat_or,Int.toNat_natCast,Int.toNat_natCast,BitVec.toNat_ofNat,BitVec.toNat_ofNat,Nat.mod_eq_of_lt (by omega),Nat.mod_eq_of_lt (by omega)];have h:n ||| 256^i*c=n+256^i*c:=by rw [Nat.or_comm,a,<-Nat.two_pow_add_eq_or_of_lt (by omega) c,Nat.add_comm]
 rw [h,tW ⟨by omega,by omega⟩]
theorem LI {h:Hp} {y:Sl} {l:List UInt8} {K:Int->Hp->Prop} (hb:Bs h y l) (o:l.length<=8) (m:K (iR l:Int) h):
  bL (α1:=Int) (α2:=Int) (λe n t a=>(if (decide (t<((y.len:Nat):Int)))=true then ((bI y.base y.len t)/\aN none (af .u8) a (sat y.base 1 t) λj=>
   ((0:Int)<=(yw ((8:Int)*t))/\e (eK .or .u64 n (qJ .u64 (IntKind.wrap .u64 j) (yw ((8:Int)*t)))) (yw (t+(1:Int))) a)) else K n a)) (0:Int) (0:Int) h:=by
 have q:y.len=l.length:=hb.1;refine bL.intro (λn t c=>c=h/\∃i:Nat,t=(i:Int)/\i<=l.length/\n=(iR (l.take i):Int)) (λ_ t _=>(l.length-t).toNat) ⟨rfl,0,rfl,by omega,rfl⟩ ?_;rintro n t c ⟨rfl,i,rfl,k,rfl⟩;by_cases p:i<l.length
 ·rw [if_pos (iW)];obtain ⟨f,x,b,g⟩:=Rw.read hb sQ (by omega) (i:=(i:Int)) (by omega) (by omega);have b:l[i]? =some x:=b;refine ⟨f,(x.toNat:Int),g,?_⟩;rw [aV];refine ⟨by omega,?_⟩;have hv:=zt (l.take i);have d:(l.take i).length=i:=by rw [List.length_take];omega
  rw [d] at hv;rw [abu hv (by omega) x.toNat_lt,aV];refine ⟨⟨rfl,i+1,rfl,by omega,?_⟩,by omega⟩;rw [List.take_add_one,b];show _=((iR (l.take i++ [x]):Nat):Int);rw [WG,d]
 grind
def nV (a:Sl) (at_ e b:Int):List Value:=[a.v,.int .i64 at_,.int .i64 e,.int .i64 b]
def HT (r:RS) (n at_ e c:Int):Prop:=match r with
 | .ok a=>at_=(a:Int)/\e=0/\(a:Int)<=n
 | .error (b,p)=>e=b/\b≠0/\c=(p:Int)
structure nB (d h:Hp) (rb:Nat) (bl:Sl) (bs:List UInt8) (r:RS):Prop where
 le:d<=h
 out:d rb=none
 src:Bs d bl bs
 cap:bl.len<=bl.cap
 small:bs.length<=2097152
 fW:∃at_ e pl:Int,eS h rb (nV bl at_ e pl)/\HT r bs.length at_ e pl
section
variable {d h:Hp} {i:Nat} {j:Sl} {bs:List UInt8} {r:RS}
theorem nB.mv (a:nB d h i j bs r) {G f:List Nat} {b:Hp} (m:Mv G h f b) (l:i∉G) (g:∀c∈G,d c=none):nB d b i j bs r:=by obtain ⟨p,e,o,k,n⟩:=a.fW;exact ⟨(m.le a.le g).1,a.out,a.src,a.cap,a.small,p,e,o,k.mv m l,n⟩
theorem nB.grow (a:nB d h i j bs r) {b:Hp} (c:h<=b):nB d b i j bs r:=a.mv (Mv.of_le [] c) (by simp) (by simp)
theorem xm {P:Program} {at_ e b:Int} (k:eS h i (nV j at_ e b)) {Q:Bool->Hp->Prop} (a:Q (e !=0) h):Ri P (some ⟨i,0,none⟩) Q h:=by unfold Ri;exact aJ (bg (sh:=af .i64) e (k.bU (off:=2) (n:=1) rfl) a)
theorem nB.bad {P:Program} (a:nB d h i j bs r) {Q:Bool->Hp->Prop} (f:∀b,(b=true↔∃e,r=.error e)->Q b h):Ri P (some ⟨i,0,none⟩) Q h:=by
 obtain ⟨p,e,l,k,c⟩:=a.fW;refine xm k (f _ ?_);cases r with
 | ok n=>rw [c.2.1];simp
 | error x=>obtain ⟨g,q⟩:=x;rw [c.1];simpa using c.2.1
theorem vc {at_ e pl l n:Int} (k:eS h i (nV j at_ e pl)) {Q:Hp->Prop}
  (g:∀m,Mv [i] h [i] m->eS m i (nV j at_ (if l≠0/\e=0 then l else e) (if l≠0/\e=0 then n else pl))->Q m):zoz prog (some ⟨i,0,none⟩) l n Q h:=by
 unfold zoz;refine lO (λb=>b=(e !=0)) false (λ_ p=>xx (xm k (p _ rfl))) λb hb=>aE ?_;by_cases a:l≠0
 ·have hb:b=(e !=0):=hb (by simpa using a);subst hb;by_cases f:e=0
  ·rw [if_pos (by simp [a,f])];rw [if_pos ⟨a,f⟩,if_pos ⟨a,f⟩] at g;refine aJ (qQ (b:=i) (off:=2) k (by simp [nV]) λv t q=>aJ (qQ (b:=i) (off:=3) q (by simp [nV]) λo u s=>g o (t.trans u) (by simpa [nV] using s)))
  ·rw [if_neg (by simp [f])];rw [if_neg (λc=>f c.2),if_neg (λc=>f c.2)] at g;exact g h (Mv.refl _ _) k
 ·rw [if_neg (by simp at a;simp [a])];rw [if_neg (λc=>a c.1),if_neg (λc=>a c.1)] at g;exact g h (Mv.refl _ _) k
theorem Bu {k:Nat} {f:xK} {Q:Int->Hp->Prop} (a:nB d h i j bs r) (a9:1<=k) (b0:k<=8) (W:Nat->Int)
  (T:∀n:Nat,n<256^k->∀K:Int->Hp->Prop,(∀o,h<=o->K (W n) o)->iK prog tb (.func (.func f.g) f.first f.captured) [.int .u64 (n:Int)] (af .i64) K h)
  (u:∀(v:Nat) J o,v<256^k->Mv [i] h [i] o->nB d o i j bs J->Cn bs r (D.cQ (D.num k) W) J v->Q (v:Int) o):YC prog (some ⟨i,0,none⟩) (k:Int) f Q h:=by
 unfold YC;obtain ⟨p,e,pl,l,A⟩:=a.fW;have P:j.len=bs.length:=a.src.1;have b1:=a.small;have F:0<256^k:=Nat.pow_pos (by omega);refine xx (xm l ?_);cases r with
 | error x=>obtain ⟨X,q⟩:=x;rw [if_pos (by rw [A.1];simpa using A.2.1)];exact u 0 _ h F (Mv.refl _ _) a Cn.stay
 | ok n=>
  obtain ⟨rfl,rfl,R⟩:=A;have R:n<=bs.length:=by omega
  rw [jO];refine aJ (bg (sh:=aw) j (l.bU (off:=0) (n:=1) rfl) (aJ (bg (sh:=af .i64) (n:Int) (l.bU (off:=1) (n:=1) rfl) ?_)));rw [aV];by_cases w:bs.length<n+k
  ·rw [if_pos (iW)];refine aJ (bg (sh:=aw) j (l.bU (off:=0) (n:=1) rfl) (D2 (vc l λo m G=> ?_)));rw [if_pos ⟨by decide,rfl⟩,if_pos ⟨by decide,rfl⟩] at G;refine u 0 (.error (5,bs.length)) o F m ⟨(m.le a.le λc z=>by rw [List.mem_singleton.1 z];exact a.out).1,a.out,a.src,a.cap,a.small,_,_,_,G,rfl,by decide,by rw [P]⟩ (Cn.err ?_);unfold D.cQ D.num;rw [if_pos w]
  ·rw [if_neg (λe=>w (by have:=of_decide_eq_true e;omega))];refine aJ (bg (sh:=aw) j (l.bU (off:=0) (n:=1) rfl) (aJ (bg (sh:=af .i64) (n:Int) (l.bU (off:=1) (n:=1) rfl) (aJ (bg (sh:=af .i64) (n:Int) (l.bU (off:=1) (n:=1) rfl) ?_)))));have a8:=a.cap;rw [aV];have S:(n:Int)<=(n:Int)+(k:Int):=by omega
   refine ⟨⟨by omega,S,by omega⟩,aE ?_⟩;have L:((n:Int)+(k:Int)).toNat=n+k:=by omega
   have M:((n:Int)).toNat=n:=rfl;rw [L,M];have B:=(Rw.mono a.le a.src).cut (a:=n) (b:=n+k) (c:=j.cap) (n:=n+k-n) (m:=j.cap-n) sQ (by omega) (by omega) (by omega) rfl;have N:n+k-n=k:=by omega
   rw [N] at B ⊢;have O:((bs.drop n).take k).length=k:=by rw [List.length_take,List.length_drop];omega
   have hv:=zt ((bs.drop n).take k);rw [O] at hv;refine LI B (by omega) ?_;refine aJ (bg (sh:=af .i64) (n:Int) (l.bU (off:=1) (n:=1) rfl) (T _ hv _ λY E=> ?_));have H:=l.le E;refine ⟨⟨H.bU (off:=1) (n:=1) rfl,trivial⟩,D2 (vc H λZ U I=> ?_)⟩;refine aJ (bg (sh:=af .i64) (n:Int) (I.bU (off:=1) (n:=1) rfl) (aJ (qQ (b:=i) (off:=1) I (by simp [nV]) λy V s=> ?_)));have m:Mv [i] h [i] y:=(Mv.of_le [i] E).trans (U.trans V);have C:=(m.le a.le λc z=>by rw [List.mem_singleton.1 z];exact a.out).1;rw [aV] at s;simp only [nV,List.take,List.drop,List.length_cons,List.length_nil,List.cons_append,List.nil_append] at s;by_cases t:W (iR ((bs.drop n).take k))=0
   ·simp only [ne_eq,t,not_true_eq_false,false_and,if_false] at s;refine u _ (.ok (n+k)) y hv m ⟨C,a.out,a.src,a.cap,a.small,_,_,_,s,by push_cast;rfl,rfl,by omega⟩ (Cn.ok ?_);unfold D.cQ D.num;rw [if_neg w];dsimp only;rw [if_pos t]
   ·simp only [ne_eq,t,not_false_eq_true,and_self,if_true] at s;refine u _ (.error (W (iR ((bs.drop n).take k)),n)) y hv m ⟨C,a.out,a.src,a.cap,a.small,_,_,_,s,rfl,t,rfl⟩ (Cn.err ?_);unfold D.cQ D.num;rw [if_neg w];dsimp only;rw [if_neg t]
end
theorem Oo (k:Nat) (W:Int->Int):D.cQ (zD k) W=D.map vN (D.cQ (D.num k) λn=>W (vN n)):=by
 funext b a;cases c:D.num k b a with
 | error e=>simp [D.cQ,zD,D.map,D.bind,c]
 | ok x=>obtain ⟨n,a2⟩:=x;by_cases h:W (vN n)=0<;>simp [D.cQ,zD,D.map,D.bind,c,h,D.ret]
section
variable {d h:Hp} {c:Nat} {e:Sl} {bs:List UInt8} {r:RS}
theorem AS {k:Nat} {f:xK} {Q:Int->Hp->Prop} (a:nB d h c e bs r) (u:1<=k) (w:k<=4) (W:Int->Int)
  (z:∀n:Nat,n<256^k->∀j,h<=j->∀K:Int->Hp->Prop,(∀i,j<=i->K (W (n:Int)) i)->iK prog tb (.func (.func f.g) f.first f.captured) [.int .i64 (n:Int)] (af .i64) K j)
  (y:∀(v:Nat) l i,v<256^k->Mv [c] h [c] i->nB d i c e bs l->Cn bs r (D.cQ (zD k) W) l (v:Int)->Q (v:Int) i):zqt prog (some ⟨c,0,none⟩) (k:Int) f Q h:=by
 unfold zqt;have B:256^k<=4294967296:=Nat.pow_le_pow_right (by omega:256>0) w;refine ln λb j A o q=> ?_;refine QR (wrong:=⟨Zc, #[], #[.pointer (some ⟨b,0,none⟩)]⟩) (Bu (a.grow o) u (by omega) (λn=>W (vN n)) (λn x K s=> ?_) λv l p hv m a2 t=> ?_)
 ·refine xA (g:=Zc) rfl (S0 ?_);unfold zue;refine bg (sh:=gX) f (q.bU (off:=0) (n:=1) rfl) ?_;rw [aV];exact z n x j o _ s
 ·rw [aV];refine y v l p hv ((Mv.of_le [c] o).trans m) a2 ?_;rw [Oo];exact t.map
theorem E9 {dS:Int} {Q:Int->Hp->Prop} (a:nB d h c e bs r)
  (t:∀(v:Nat) f i,v<256->Mv [c] h [c] i->nB d i c e bs f->Cn bs r (D.cQ (zD 1) (gg dS)) f (v:Int)->Q (v:Int) i):XD prog (some ⟨c,0,none⟩) dS Q h:=by
 unfold XD;refine ln λb u w l o=> ?_;refine QZ (wrong:=⟨VI, #[], #[.pointer (some ⟨b,0,none⟩)]⟩) (AS (k:=1) (a.grow l) (by omega) (by omega) (gg dS) (λn x j s K p=> ?_) λv f j hv m a2 q=> ?_)
 ·refine xA (g:=VI) rfl (zuw ?_);unfold zpb;exact bg (sh:=af .i64) dS (nE s (o.bU (off:=0) (n:=1) rfl)) (zwa (GX (p j (Hp.le_refl _))))
 ·exact t v f j hv ((Mv.of_le [c] l).trans m) a2 q
theorem WI {part:Int} {k:Nat} {Q:Int->Hp->Prop} (a:nB d h c e bs r) (s:1<=k) (x:k<=2)
  (u:∀(v:Nat) f i,v<256^k->Mv [c] h [c] i->nB d i c e bs f->Cn bs r (D.cQ (zD k) (qw part)) f (v:Int)->Q (v:Int) i):YA prog (some ⟨c,0,none⟩) part (k:Int) Q h:=by
 unfold YA;refine ln λb w y l o=> ?_;refine QZ (wrong:=⟨Wn, #[], #[.pointer (some ⟨b,0,none⟩)]⟩) (AS (k:=k) (a.grow l) s (by omega) (qw part) (λn z j t K p=> ?_) λv f j hv m a2 q=> ?_)
 ·refine xA (g:=Wn) rfl (zwg ?_);unfold zps;exact bg (sh:=af .i64) part (nE t (o.bU (off:=0) (n:=1) rfl)) (KM (PE (p j (Hp.le_refl _))))
 ·exact u v f j hv ((Mv.of_le [c] l).trans m) a2 q
def jD (x:an):List Value:=bA (aA.enc x)
theorem Nn {j:Nat} {x:an} {Q:Int->Hp->Prop} (a:nB d h c e bs r) (kc:eS h j (jD x)) (B:x.aQ.len<=1099511627776)
  (u:∀(v:Nat) i l,v<256->Mv [c] h [c] l->nB d l c e bs i->Cn bs r (D.cQ (zD 1) (dD 0 ((x.aQ.len:Int)-1))) i (v:Int)->Q (v:Int) l):V2 prog (some ⟨c,0,none⟩) (some ⟨j,0,none⟩) Q h:=by
 unfold V2;refine ln λb w z p s=> ?_;refine QZ (wrong:=⟨UT, #[], #[.pointer (some ⟨b,0,none⟩)]⟩) (AS (k:=1) (a.grow p) (by omega) (by omega) (dD 0 ((x.aQ.len:Int)-1)) (λn A o q K f=> ?_) λv i o hv m a2 t=> ?_)
 ·refine xA (g:=UT) rfl (ztc ?_);unfold zmi;refine bg (sh:=al) (some ⟨j,0,none⟩) (nE q (s.bU (off:=0) (n:=1) rfl)) (aJ (bg (sh:=aw) x.aQ (((kc.le p).le q).bU (off:=0) (n:=1) rfl) ?_));have f:=f o (Hp.le_refl _);unfold dD at f;by_cases y:(n:Int)<(x.aQ.len:Int)
  ·rw [if_neg (by simp;omega)];rw [if_pos (by rw [dC];omega)] at f;exact f
  ·rw [if_pos (by simp;omega)];rw [if_neg (by rw [dC];omega)] at f;exact f
 ·exact u v i o hv ((Mv.of_le [c] p).trans m) a2 t
end
structure CB (d h0:Hp) (rb cb:Nat) (bl:Sl) (bs:List UInt8) (k:Hp) (r:RS) (x:an) (c:aL) (B:List Nat):Prop where
 base:d<=h0
 kr:h0 rb≠none
 kc:h0 cb≠none
 ne:rb≠cb
 dc:d cb=none
 bO:∀b o,h0 b=some o->b≠rb->b≠cb->k b=some o
 rd:nB d k rb bl bs r
 fW:eS k cb (jD x)
 own:mo x c k B
 nd:B.Nodup
 fresh:∀b∈B,h0 b=none
section
variable {d h0 k:Hp} {g f:Nat} {i:Sl} {bs:List UInt8} {r:RS} {x:an} {c:aL} {B:List Nat}
theorem CB.nr (s:CB d h0 g f i bs k r x c B):g∉B:=λh=>s.kr (s.fresh g h)
theorem CB.nc (s:CB d h0 g f i bs k r x c B):f∉B:=λh=>s.kc (s.fresh f h)
theorem CB.step (s:CB d h0 g f i bs k r x c B) {h:Hp} {l:RS} (m:Mv [g] k [g] h) (a:nB d h g i bs l):CB d h0 g f i bs h l x c B where
 base:=s.base
 kr:=s.kr
 kc:=s.kc
 ne:=s.ne
 dc:=s.dc
 bO:=λb o e j n=>m.bO b o (s.bO b o e j n) λhb=>j (List.mem_singleton.1 hb)
 rd:=a
 fW:=s.fW.mv m λhb=>s.ne (List.mem_singleton.1 hb).symm
 own:=fp.same s.own (vb m (fp.known s.own) λb hb e=>s.nr (by rw [<-List.mem_singleton.1 e];exact hb))
 nd:=s.nd
 fresh:=s.fresh
theorem CB.grow (s:CB d h0 g f i bs k r x c B) {b:Hp} (a:k<=b):CB d h0 g f i bs b r x c B:=s.step (Mv.of_le [g] a) (s.rd.grow a)
theorem CB.DE (s:CB d h0 g f i bs k r x c B):CB d (mq k B) g f i bs k r x c B where
 base:=N6 s.rd.le λb hb=>by
  cases e:d b with
  | none=>rfl
  | some o=>have:=s.base b o e;rw [s.fresh b hb] at this;cases this
 kr:=λe=>by rw [um s.nr] at e;obtain ⟨p,q,t,a,_⟩:=s.rd.fW;exact a.known e
 kc:=λe=>by rw [um s.nc] at e;exact s.fW.known e
 ne:=s.ne
 dc:=s.dc
 bO:=λb o e _ _=>N4 b o e
 rd:=s.rd
 fW:=s.fW
 own:=s.own
 nd:=s.nd
 fresh:=λb hb=>KY hb
theorem CB.back (s:CB d h0 g f i bs k r x c B) {p:Hp} {q:RS} {u:an} {m:aL} {l:List Nat} (t:CB d (mq k B) g f i bs p q u m l):CB d h0 g f i bs p q u m l where
 base:=s.base
 kr:=s.kr
 kc:=s.kc
 ne:=s.ne
 dc:=s.dc
 bO:=λb o e a j=>t.bO b o (by rw [um λhb=>by rw [s.fresh b hb] at e;cases e];exact s.bO b o e a j) a j
 rd:=t.rd
 fW:=t.fW
 own:=t.own
 nd:=t.nd
 fresh:=λb hb=>by
  cases e:h0 b with
  | none=>rfl
  | some o=>
   have a:b≠g:=λh=>t.nr (h▸hb);have j:b≠f:=λh=>t.nc (h▸hb);have n:=t.fresh b hb;have v:b∉B:=λhb=>by rw [s.fresh b hb] at e;cases e
   rw [um v,s.bO b o e a j] at n;cases n
theorem CB.fin (s:CB d h0 g f i bs k r x c B) {k3:Hp} {x':an} {c':aL} {B3:List Nat} {off:Nat} {v:Value} (l:∀b A,k b=some A->b∉B->k3 b=some A) (C:mo x' c' k3 B3) (J:B3.Nodup) (w:∀b∈B3,h0 b=none)
  (L:off<7) (H:jD x'=(jD x).take off++ [v]++(jD x).drop (off+1)):
  (∀b o,h0 b=some o->b≠g->b≠f->k3 b=some o)/\eS k3 f (jD x)/\∀m:Hp->Prop,(∀j,CB d h0 g f i bs j r x' c' B3->m j)->cX k3 ⟨f,off,none⟩ [v] m:=by
 have y:eS k3 f (jD x):=by obtain ⟨t,e⟩:=s.fW;exact ⟨t,l f _ e s.nc⟩
 have z:∀b o,h0 b=some o->b≠g->b≠f->k3 b=some o:=λb o e n a=>l b o (s.bO b o e n a) λhb=>by rw [s.fresh b hb] at e;cases e
 refine ⟨z,y,λm D=> ?_⟩;refine qQ y (by show off+1<=7;omega) λj u E=>D j ?_;have F:f∉B3:=λh=>s.kc (w f h);have K:nB d k3 g i bs r:=by obtain ⟨p,q,t,⟨ty,I⟩,G⟩:=s.rd.fW;refine ⟨λb o e=>l b o (s.rd.le b o e) λhb=> ?_,s.rd.out,s.rd.src,s.rd.cap,s.rd.small,p,q,t,⟨ty,l g _ I s.nr⟩,G⟩;have:=s.base b o e;rw [s.fresh b hb] at this;cases this
 exact {
  base:=s.base
  kr:=s.kr
  kc:=s.kc
  ne:=s.ne
  dc:=s.dc
  bO:=λb o e n a=>u.bO b o (z b o e n a) λhb=>a (List.mem_singleton.1 hb)
  rd:=K.mv u (λhb=>s.ne (List.mem_singleton.1 hb)) λb hb=>by rw [List.mem_singleton.1 hb];exact s.dc
  fW:=by rw [H];exact E
  own:=fp.same C (vb u (fp.known C) λb hb e=>F (by rw [<-List.mem_singleton.1 e];exact hb))
  nd:=J
  fresh:=w}
theorem CB.num (s:CB d h0 g f i bs k r x c B) {x':an} {c':aL} {off:Nat} {v:Value} (m:mo x c k B->mo x' c' k B) (j:off<7) (l:jD x'=(jD x).take off++ [v]++(jD x).drop (off+1)) {a:Hp->Prop}
  (h:∀b,CB d h0 g f i bs b r x' c' B->a b):cX k ⟨f,off,none⟩ [v] a:=
 (s.fin (λ_ _ e _=>e) (m s.own) s.nd s.fresh j l).2.2 a h
end
theorem Ih {P M S a b:List Nat} {k:Hp} (nd:(P++(M++S)).Nodup) (d:a.Nodup) (e:∀c∈a,c∈M++b\/k c=none) (f:∀c∈P++S,k c≠none) (hb:∀c∈b,c∉P++S):(P++(a++S)).Nodup:=by grind
section
variable {d h0 k:Hp} {i g:Nat} {j:Sl} {bs:List UInt8} {r:RS} {x:an} {c:aL} {B:List Nat}
theorem CB.sk (s:CB d h0 i g j bs k r x c B) {b:Nat} (e:k b=none):h0 b=none:=by
 cases h:h0 b with
 | none=>rfl
 | some o=>
  have a:b≠i:=λh=>by obtain ⟨p,q,t,l,_⟩:=s.rd.fW;exact l.known (h▸e)
  have f:b≠g:=λh=>s.fW.known (h▸e);rw [s.bO b o h a f] at e;cases e
abbrev CB.Next (d h0:Hp) (i g:Nat) (j:Sl) (bs:List UInt8) (a:Hp) (r:RS) (x h:an) (f:aL) (off:Nat) (v:Value):Prop:=
 (∀b o,h0 b=some o->b≠i->b≠g->a b=some o)/\eS a g (jD x)/\∀Kf:Hp->Prop,(∀e B',CB d h0 i g j bs e r h f B'->Kf e)->cX a ⟨g,off,none⟩ [v] Kf
theorem CB.labels (s:CB d h0 i g j bs k r x c B) {v:Int} {y:Sl} (D:Us k y [v]) (hb:c.labels.length<=1000000) {K:Sl->Hp->Prop}
  (L:∀l k3,CB.Next d h0 i g j bs k3 r x {x with aQ:=l} {c with labels:=c.labels++ [v]} 0 l.v->K l k3):eC 1 8 [.int .u64 (0:Int)] x.aQ y K k:=by
 obtain ⟨n,a,B3,eB,F,H,I,f⟩:=s.own;have nd:=s.nd;rw [eB] at nd;have u:∀b∈a++B3,k b≠none:=λb hb=>fp.known s.own b (by rw [eB];exact cc hb);refine C8 (dN.ok Eq) F (B':=[]) (v:=v) (p:=v) ⟨rfl,rfl⟩ (by rw [List.append_nil];exact (List.nodup_append.1 nd).1) D (λ_=>rfl) (λ_=>rfl) rfl (by omega) λl k3 m G E w q=> ?_;have A:∀b∈a++B3,b∉n:=λb hb z=>(List.nodup_append.1 nd).2.2 b z b hb rfl;have t:∀b∈a++B3,k3 b=k b:=λb hb=>by
  cases e:k b with
  | none=>exact absurd e (u b hb)
  | some o=>exact w b o e (A b hb)
 have h:=s.fin (k3:=k3) (x':={x with aQ:=l}) (c':={c with labels:=c.labels++ [v]}) (B3:=m++(a++B3)) (off:=0) (v:=l.v) (λb J e C=>w b J e λh=>C (by rw [eB];exact cg h))
  ⟨m,a,B3,rfl,G,ft.same H λb hb=>t b (cg hb),mi.same I λb hb=>t b (cc hb),f⟩ (Ih (P:=[]) (M:=n) (S:=a++B3) nd E q u (λb hb=>by cases hb))
  (λb hb=>by
   rcases List.mem_append.1 hb with hb | hb
   ·rcases q b hb with hb | hb
    ·exact s.fresh b (by rw [eB];exact cg (by simpa using hb))
    ·exact s.sk hb
   ·exact s.fresh b (by rw [eB];exact cc hb)) (by omega) rfl
 grind
theorem CB.table (s:CB d h0 i g j bs k r x c B) {v:Int} {y:Sl} (C:Is k y [v]) (hb:c.table.length<=1000000) {K:Sl->Hp->Prop}
  (J:∀a k3,CB.Next d h0 i g j bs k3 r x {x with Table:=a} {c with table:=c.table++ [v]} 1 a.v->K a k3):eC 1 8 [.int .i64 (0:Int)] x.Table y K k:=by
 obtain ⟨l,z,B3,eB,E,G,H,f⟩:=s.own;have nd:=s.nd;rw [eB] at nd;have t:∀b∈l++B3,k b≠none:=λb hb=>fp.known s.own b (by
  rw [eB];rcases List.mem_append.1 hb with hb | hb
  ·exact cg hb
  ·exact cc (cc hb))
 have w:=List.nodup_append.1 (List.nodup_append.1 nd).2.1;refine C8 (dN.ok Eq) G (B':=[]) (v:=v) (p:=v) ⟨rfl,rfl⟩ (by rw [List.append_nil];exact w.1) C (λ_=>rfl) (λ_=>rfl) rfl (by omega) λa k3 m F D u n=> ?_;have q:∀b∈l++B3,k3 b=k b:=λb hb=>by
  cases e:k b with
  | none=>exact absurd e (t b hb)
  | some o=>
   refine u b o e λh=> ?_;rcases List.mem_append.1 hb with hb | hb
   ·exact (List.nodup_append.1 nd).2.2 b hb b (cg h) rfl
   ·exact w.2.2 b h b hb rfl
 have h:=s.fin (k3:=k3) (x':={x with Table:=a}) (c':={c with table:=c.table++ [v]}) (B3:=l++(m++B3)) (off:=1) (v:=a.v) (λb I e A=>u b I e λh=>A (by rw [eB];exact cc (cg h)))
  ⟨l,m,B3,rfl,uS.same E λb hb=>q b (cg hb),F,mi.same H λb hb=>q b (cc hb),f⟩ (Ih (M:=z) nd D n t (λb hb=>by cases hb))
  (λb hb=>by
   rcases List.mem_append.1 hb with hb | hb
   ·exact s.fresh b (by rw [eB];exact cg hb)
   rcases List.mem_append.1 hb with hb | hb
   ·rcases n b hb with hb | hb
    ·exact s.fresh b (by rw [eB];exact cc (cg (by simpa using hb)))
    ·exact s.sk hb
   ·exact s.fresh b (by rw [eB];exact cc (cc hb))) (by omega) rfl
 grind
theorem CB.procs (s:CB d h0 i g j bs k r x c B) {v:bR} {p:fI} {B':List Nat} (e:rf v p k B') (J:B'.Nodup) (q:∀b∈B',h0 b=none/\b∉B) {y:Sl} (H:Rs k bT 2 y [v]) (hb:c.procs.length<=1000000) {K:Sl->Hp->Prop}
  (T:∀l k3,CB.Next d h0 i g j bs k3 r x {x with aD:=l} {c with procs:=c.procs++ [p]} 6 l.v->K l k3):eC 2 32 [.int .i64 (0:Int),.slice none 0 0] x.aD y K k:=by
 obtain ⟨m,n,B3,eB,L,O,Q,f⟩:=s.own;have nd:=s.nd;rw [eB] at nd;have C:=List.nodup_append.1 nd;have D:=List.nodup_append.1 C.2.1;have z:∀b∈m++n,k b≠none:=λb hb=>fp.known s.own b (by
  rw [eB];rcases List.mem_append.1 hb with hb | hb
  ·exact cg hb
  ·exact cc (cg hb))
 refine C8 xj Q (v:=v) (p:=p) e (by
   rw [List.nodup_append];exact ⟨D.2.1,J,λa E b hb e=>(q b hb).2 (by rw [eB,<-e];exact cc (cc E))⟩) H (λ_=>rfl) (λ_=>rfl) rfl (by omega) λl k3 t N I A u=> ?_
 have w:∀b∈m++n,k3 b=k b:=λb hb=>by
  cases e:k b with
  | none=>exact absurd e (z b hb)
  | some o=>
   refine A b o e λh=> ?_;rcases List.mem_append.1 hb with hb | hb
   ·exact C.2.2 b hb b (cc h) rfl
   ·exact D.2.2 b hb b h rfl
 have F:=Ih (P:=m++n) (M:=B3) (S:=[]) (by simpa using nd) I u (by simpa using z) (λb hb h=>(q b hb).2 (by
  rw [eB];rw [List.append_nil] at h;rcases List.mem_append.1 h with h | h
  ·exact cg h
  ·exact cc (cg h)))
 have h:=s.fin (k3:=k3) (x':={x with aD:=l}) (c':={c with procs:=c.procs++ [p]}) (B3:=m++(n++t)) (off:=6) (v:=l.v) (λb R e G=>A b R e λh=>G (by rw [eB];exact cc (cc h)))
  ⟨m,n,t,rfl,uS.same L λb hb=>w b (cg hb),ft.same O λb hb=>w b (cc hb),N,f⟩ (by simpa using F)
  (λb hb=>by
   rcases List.mem_append.1 hb with hb | hb
   ·exact s.fresh b (by rw [eB];exact cg hb)
   rcases List.mem_append.1 hb with hb | hb
   ·exact s.fresh b (by rw [eB];exact cc (cg hb))
   rcases u b hb with hb | hb
   ·rcases List.mem_append.1 hb with hb | hb
    ·exact s.fresh b (by rw [eB];exact cc (cc hb))
    ·exact (q b hb).1
   ·exact s.sk hb) (by omega) rfl
 grind
end
theorem T9 {P:Program} {q f:Nat} {x:an} {b:List Int} {h:Hp} {a:Int} (m:aZ h ⟨q,0,none⟩ [.pointer (some ⟨f,0,none⟩)]) (kc:eS h f (jD x)) (p:Us h x.aQ b) (u:b.length<=1000)
  {Q:Int->Hp->Prop} (c:Q (nL b a) h):WL P a ⟨q,0,none⟩ Q h:=by
 unfold WL;have s:x.aQ.len=b.length:=p.1;refine bg (sh:=al) (some ⟨f,0,none⟩) m (aJ (bg (sh:=aw) x.aQ (kc.bU (off:=0) (n:=1) rfl) ?_));rw [s,aV];refine pM (sh:=al) (some ⟨f,0,none⟩) m (aJ (pM (sh:=aw) x.aQ (kc.bU (off:=0) (n:=1) rfl) ?_));refine Rs.pH (sh:=af .u64) p (0:Int) (λ_=>rfl) (by omega) (λe=>by simp at e;omega) λ(i:Int) d=>aE ?_;unfold nL at c;rw [List.getLast?_eq_getElem?] at c;by_cases v:b.length=0
 ·have l:decide (((b.length:Nat):Int)-1>=0)=false:=decide_eq_false (by omega);rw [List.getElem?_eq_none (by omega)] at c;rw [l,if_neg (by simp)];refine ⟨none,λe=>(by cases e),⟨f,0,none⟩,λe=>(by cases e),⟨none,0,0⟩,λe=>(by cases e),λe=>(by cases e),(0:Int),λe=>(by cases e),aE ?_⟩;rw [jO];exact c
 ·have l:decide (((b.length:Nat):Int)-1>=0)=true:=iW;have o:b[b.length-1]? =some (b[b.length-1]'(by omega)):=List.getElem?_eq_getElem (by omega);have r:(((b.length:Nat):Int)-1).toNat=b.length-1:=by omega
  have d:=d l;rw [r,o] at d;have d:b[b.length-1]'(by omega)=i:=Option.some.inj d;rw [o,d] at c;have c:Q (if a=i then 8 else if a<i then 7 else 0) h:=c;rw [l,Bool.true_and];by_cases j:a=i
  ·rw [if_pos (by simpa using j)];rw [if_pos j] at c;exact c
  ·rw [if_neg (by simpa using j)];rw [if_neg j] at c;refine pM (sh:=al) (some ⟨f,0,none⟩) m (aJ (pM (sh:=aw) x.aQ (kc.bU (off:=0) (n:=1) rfl) ?_));refine Rs.pH (sh:=af .u64) p (0:Int) (λ_=>rfl) (by omega) (λe=>by omega) λ(t:Int) g=>aE ?_;have g:=g rfl;rw [r,o] at g;have g:b[b.length-1]'(by omega)=t:=Option.some.inj g;rw [<-g,d,Bool.true_and];by_cases k:a<i
   ·rw [if_pos (decide_eq_true k)];rw [if_pos k] at c;exact c
   ·rw [if_neg (λe=>k (of_decide_eq_true e))];rw [if_neg k] at c;exact c
abbrev AD (a:List Int):D Int:=D.cQ (zD 8) (nL a)
section
variable {d h0 k:Hp} {l a:Nat} {m:Sl} {bs:List UInt8} {r:RS} {x:an} {c:aL} {B:List Nat}
theorem wV {e:Type} (g:List e->D e) (n:Nat) (b:List e):D.many g (n+1) b=D.bind (g b) λx=>D.many g n (b++ [x]):=rfl
theorem WK (s:CB d h0 l a m bs k r x c B) (hl:c.labels=[]) {Q:Hp->Prop}
  (hq:∀(xs:List Int) I X E G,xs.length<=255->CB d h0 l a m bs X I E {c with labels:=xs} G->
   (∀(F:Type) (f:Int->List Int->D F),cM r (D.bind (D.cQ (zD 1) (gg 8)) λnl=>D.bind (D.many AD nl.toNat []) λlabels=>f nl labels) bs=cM I (f xs.length xs) bs)->Q X):
  Yy prog (some ⟨l,0,none⟩) (some ⟨a,0,none⟩) Q k:=by
 unfold Yy;refine ln λu N M b7 a8=> ?_;have s1:=s.grow b7;have b0:u∉B:=λh=>fp.known s.own u h M;have R:u≠l:=λh=>by obtain ⟨p,q,t,kb,_⟩:=s.rd.fW;exact kb.known (h▸M)
 have P:u≠a:=λh=>s.fW.known (h▸M);have b4:∃o,mq N B u=some o/\∀y:Hp,y u=some o->aZ y ⟨u,0,none⟩ [.pointer (some ⟨a,0,none⟩)]:=by obtain ⟨t,e⟩:=a8;refine ⟨_,by rw [um b0];exact e,λy e2=>eS.bU ⟨t,e2⟩ (off:=0) (n:=1) rfl⟩
 obtain ⟨oA,W,V⟩:=b4;refine Vn (E9 s1.rd λv I k2 hv m2 a2 b1=> ?_);have s2:=s1.DE.step m2 a2;refine aB.intro (λn A=>∃(i:Nat) (xs:List Int) (z:RS) (E:an) (G:List Nat),n=(i:Int)/\(i+xs.length=v)/\CB d (mq N B) l a m bs A z E {c with labels:=xs} G/\
   ∀(F:Type) (f:List Int->D F),cM I (D.bind (D.many AD v []) f) bs=cM z (D.bind (D.many AD i xs) f) bs) (λn _=>n.toNat)
  ⟨v,[],I,x,B,rfl,by simp,by have:=s2;rw [show c={c with labels:=[]} by rw [<-hl]] at this;exact this,λ_ _=>rfl⟩ ?_
 rintro n A ⟨i,xs,z,E,G,rfl,c0,C,S⟩;refine lO (λb=>b=true↔∃e,z=.error e) false (λ_ hk=>xx (C.rd.bad hk)) λb hb=>aE ?_;have T:(i=0\/∃e,z=.error e)->Q A:=λb9=>by
  refine hq xs z A E G (by omega) (s1.back C) λF f=> ?_;rw [b1];have e:=S F λlabels=>f v labels;rw [show ((v:Int)).toNat=v from rfl,e];rcases b9 with rfl | ⟨e,rfl⟩
  ·have:v=xs.length:=by omega
   rw [this];rfl
  ·rfl
 by_cases U:i=0
 ·rw [if_neg (by simp [U])];exact T (.inl U)
 have hb:=hb (iW);cases b with
 | true=>rw [jO];exact T (.inr (hb.1 rfl))
 | false=>
  rw [if_pos (by simp;omega)];obtain ⟨j,rfl⟩:∃j,i=j+1:=⟨i-1,by omega⟩;have a9:Us A E.aQ xs:=by obtain ⟨B1,B2,B3,_,o1,_⟩:=C.own;exact o1.rd
  refine QR (wrong:=⟨Wm, #[], #[.pointer (some ⟨u,0,none⟩)]⟩) (Bu (k:=8) C.rd (by omega) (by omega) (λn=>nL xs (vN n)) (λn c1 K hK=> ?_) λw r2 Y hw m4 a4 b2=> ?_)
  ·refine xA (g:=Wm) rfl (zwf ?_);exact T9 (V A (C.bO u oA W R P)) C.fW a9 (by omega) (hK A (Hp.le_refl _))
  ·have J:=C.step m4 a4;have b3:Cn bs z (AD xs) r2 (w:Int):=by show Cn bs z (D.cQ (zD 8) (nL xs)) r2 (vN w);rw [Oo];exact b2.map
   have H:∀y:Hp,(∀b o,mq N B b=some o->b≠l->b≠a->y b=some o)->aZ y ⟨u,0,none⟩ [.pointer (some ⟨a,0,none⟩)]:=λy b6=>V y (b6 u oA W R P);refine bg (sh:=al) (some ⟨a,0,none⟩) (H Y J.bO) (bg (sh:=al) (some ⟨a,0,none⟩) (H Y J.bO) (aJ (bg (sh:=aw) E.aQ (J.fW.bU (off:=0) (n:=1) rfl) ?_)));refine lT (xs:=[(w:Int)]) (enc:=λx=>bA ((af .u64).enc x)) (sz:=1) rfl (λ_=>rfl) λb5 Z _ b8 _ o5=> ?_;have L:=J.grow b8;refine ⟨⟨H Z L.bO,H Z L.bO,L.fW.bU (off:=0) (n:=1) rfl,trivial⟩,?_⟩;refine L.labels (v:=(w:Int)) (o5.rw λ_=>rfl) (by show xs.length<=_;omega) λl' k6 O=> ?_;refine ⟨⟨H k6 O.1,trivial⟩,aJ (O.2.2 _ λk7 B7 s7=> ?_)⟩;rw [aV];refine ⟨⟨j,xs++ [(w:Int)],r2,_,B7,by omega,by simp;omega,s7,λF f=> ?_⟩,by omega⟩;rw [S,wV,jh,b3]
theorem Zb (s:CB d h0 l a m bs k r x c B) (L:c.table=[]) (a9:c.labels.length<=255) {Q:Hp->Prop}
  (P:∀(xs:List Int) t E h q,xs.length<=255->CB d h0 l a m bs E t h {c with table:=xs} q->
   (∀(p:Type) (f:List Int->D p),cM r (D.bind (D.cQ (zD 1) (gg 64)) λT=>D.bind (D.many (λ_=>D.cQ (zD 1) (dD 0 ((c.labels.length:Int)-1))) T.toNat []) λtable=>f table) bs=cM t (f xs) bs)->Q E):
  ZJ prog (some ⟨l,0,none⟩) (some ⟨a,0,none⟩) Q k:=by
 unfold ZJ;refine Vn (E9 s.rd λv t k2 hv R a2 J=> ?_);have s2:=s.step R a2;refine aB.intro (λn u=>∃(i:Nat) (xs:List Int) (o:RS) (h:an) (q:List Nat),n=(i:Int)/\(i+xs.length=v)/\CB d h0 l a m bs u o h {c with table:=xs} q/\
   ∀(p:Type) (f:List Int->D p),cM t (D.bind (D.many (λ_=>D.cQ (zD 1) (dD 0 ((c.labels.length:Int)-1))) v []) f) bs=cM o (D.bind (D.many (λ_=>D.cQ (zD 1) (dD 0 ((c.labels.length:Int)-1))) i xs) f) bs) (λn _=>n.toNat)
  ⟨v,[],t,x,B,rfl,by simp,by have:=s2;rw [show c={c with table:=[]} by rw [<-L]] at this;exact this,λ_ _=>rfl⟩ ?_
 rintro n u ⟨i,xs,o,h,q,rfl,a8,g,z⟩;refine lO (λb=>b=true↔∃e,o=.error e) false (λ_ K=>xx (g.rd.bad K)) λb hb=>aE ?_;have A:(i=0\/∃e,o=.error e)->Q u:=λO=>by
  refine P xs o u h q (by omega) g λp f=> ?_;rw [J];have e:=z p f;rw [show ((v:Int)).toNat=v from rfl,e];rcases O with rfl | ⟨e,rfl⟩
  ·rfl
  ·rfl
 by_cases C:i=0
 ·rw [if_neg (by simp [C])];exact A (.inl C)
 have hb:=hb (iW);cases b with
 | true=>rw [jO];exact A (.inr (hb.1 rfl))
 | false=>
  rw [if_pos (by simp;omega)];obtain ⟨j,rfl⟩:∃j,i=j+1:=⟨i-1,by omega⟩;have N:h.aQ.len=c.labels.length:=by obtain ⟨X,Y,Z,_,U,_⟩:=g.own;exact U.len
  refine aJ (bg (sh:=aw) h.Table (g.fW.bU (off:=1) (n:=1) rfl) ?_);refine zlf (Nn g.rd g.fW (by omega) λw r2 k4 hw S a4 y=> ?_);have F:=g.step S a4;rw [N] at y;refine ⟨⟨F.fW.bU (off:=1) (n:=1) rfl,trivial⟩,?_⟩;refine lT (xs:=[(w:Int)]) (enc:=λx=>bA ((af .i64).enc x)) (sz:=1) rfl (λ_=>rfl) λb5 k5 _ M _ V=> ?_;have G:=F.grow M;refine ⟨⟨G.fW.bU (off:=1) (n:=1) rfl,trivial⟩,?_⟩;refine G.table (v:=(w:Int)) (V.rw λ_=>rfl) (by show xs.length<=_;omega) λl' k6 I=> ?_;refine aJ (I.2.2 _ λk7 H W=> ?_);rw [aV];refine ⟨⟨j,xs++ [(w:Int)],r2,_,H,by omega,by simp;omega,W,λp f=> ?_⟩,by omega⟩;rw [z,wV,jh,y]
end
theorem LJ {v:Nat} (h:v<18446744073709551616):yw (v:Int)=i64 v:=by
 (try unfold yw);unfold IntKind.wrap i64
 simp only [IntKind.signed,IntKind.bits];simp;split<;>split<;>omega
theorem Gv {has:Bool} {n:Int} (h:0<=n):du has n≠0↔((has&&decide (n>=8)) || ((!has)&&(n !=0)))=true:=by
 unfold du;cases has with
 | true=>
  rw [jO];by_cases a:n<0\/8<=n
  ·rw [if_pos a];simp;omega
  ·rw [if_neg a];simp;omega
 | false=>
  by_cases a:n≠0
  ·rw [if_pos ⟨rfl,a⟩];simpa using a
  ·rw [if_neg (λe=>a e.2),if_neg (by omega)];simpa using a
def wY (x:df):Int:=if du (iI x.op).1 x.a≠0 then 1 else if du (iI x.op).2.1 x.b≠0 then 2 else if du (iI x.op).2.2.1 x.c≠0 then 3 else 4
theorem OT {x:df} {n ag:Int} (h:(ja x n ag).1≠0):(ja x n ag).2=if (ja x n ag).1=9 then 0 else wY x:=by
 have g:∀b m,du b m≠9:=λb m=>by
  unfold du;split
  ·decide
  ·split<;>decide
 unfold ja at h ⊢;unfold wY;by_cases i:x.op<0\/34<=x.op
 ·rw [if_pos i] at h ⊢;rw [if_pos rfl]
 rw [if_neg i] at h ⊢;by_cases d:du (iI x.op).1 x.a≠0
 ·rw [if_pos d] at h ⊢;rw [if_neg (g _ _),if_pos d]
 rw [if_neg d] at h ⊢;rw [if_neg d];by_cases e:du (iI x.op).2.1 x.b≠0
 ·rw [if_pos e] at h ⊢;rw [if_neg (g _ _),if_pos e]
 rw [if_neg e] at h ⊢;rw [if_neg e];by_cases f:du (iI x.op).2.2.1 x.c≠0
 ·rw [if_pos f] at h ⊢;rw [if_neg (g _ _),if_pos f]
 rw [if_neg f] at h ⊢;rw [if_neg f];by_cases j:(iI x.op).2.2.2=false/\x.gR≠0
 ·rw [if_pos j] at h ⊢;rfl
 rw [if_neg j] at h ⊢;by_cases k:(x.op=22\/x.op=23)/\(x.gR<0\/n<x.gR)
 ·rw [if_pos k] at h ⊢;rfl
 rw [if_neg k] at h ⊢;by_cases l:(x.op=29\/x.op=30)/\(x.gR<0\/ag<=x.gR)
 ·rw [if_pos l] at h ⊢;rfl
 rw [if_neg l] at h;exact absurd rfl h
theorem WM {h:Hp} {x:aS} {e:Int} {Q:Int->Hp->Prop} (v:0<=x.A) (hb:0<=x.B) (w:0<=x.C) (c:∀g,h<=g->Q (if e=9 then 0 else wY (bu x)) g):zzf prog x e Q h:=by
 unfold zzf;by_cases k:e=9
 ·rw [if_pos (by simpa using k)];rw [if_pos k] at c;exact c h (Hp.le_refl _)
 rw [if_neg (by simpa using k)];rw [if_neg k] at c;refine KS (MN λH E=> ?_);generalize y:iI x.Op=f at*;obtain ⟨f1,f2,f3,t⟩:=f;dsimp only;refine ln (cs:=[.bool f1,.int .i64 x.A,.bool f2,.int .i64 x.B,.bool f3,.int .i64 x.C]) λb u _ F m=> ?_;have c:=λg D=>c g (Hp.le_trans E (Hp.le_trans F D));have p:=Gv (has:=f1) v;have q:=Gv (has:=f2) hb;have r:=Gv (has:=f3) w;have G:wY (bu x)=if du f1 x.A≠0 then 1 else if du f2 x.B≠0 then 2 else if du f3 x.C≠0 then 3 else 4:=by unfold wY;have e:iI (bu x).op=(f1,f2,f3,t):=y;rw [e];rfl
 rw [G] at c;refine gh (n:=3) rfl (by omega) (λi g=>g=u/\(1<=i->¬du f1 x.A≠0)/\(2<=i->¬du f2 x.B≠0)/\(3<=i->¬du f3 x.C≠0)) ⟨rfl,λh=>by omega,λh=>by omega,λh=>by omega⟩ ?_ ?_
 ·rintro i z d ⟨rfl,j,l,s⟩ K o;refine ⟨⟨by simp,by omega,by omega⟩,?_⟩
  match i,z with
  | 0,_=>
   refine bg (sh:=LN) ⟨f1,x.A⟩ (m.bU (off:=0) (n:=2) rfl) (aE (aE (aE ?_)));dsimp only;by_cases a:du f1 x.A≠0
   ·rw [if_pos (p.1 a),aV];rw [if_pos a] at c;exact c d (Hp.le_refl _)
   ·rw [if_neg (λe=>a (p.2 e))];exact o d ⟨rfl,λ_=>a,λh=>by omega,λh=>by omega⟩
  | 1,_=>
   refine bg (sh:=LN) ⟨f2,x.B⟩ (m.bU (off:=2) (n:=2) rfl) (aE (aE (aE ?_)));dsimp only;by_cases a:du f2 x.B≠0
   ·rw [if_pos (q.1 a),aV];rw [if_neg (j (by omega)),if_pos a] at c;exact c d (Hp.le_refl _)
   ·rw [if_neg (λe=>a (q.2 e))];exact o d ⟨rfl,λ_=>j (by omega),λ_=>a,λh=>by omega⟩
  | 2,_=>
   refine bg (sh:=LN) ⟨f3,x.C⟩ (m.bU (off:=4) (n:=2) rfl) (aE (aE (aE ?_)));dsimp only;by_cases a:du f3 x.C≠0
   ·rw [if_pos (r.1 a),aV];rw [if_neg (j (by omega)),if_neg (l (by omega)),if_pos a] at c;exact c d (Hp.le_refl _)
   ·rw [if_neg (λe=>a (r.2 e))];exact o d ⟨rfl,λ_=>j (by omega),λ_=>l (by omega),λ_=>a⟩
 ·rintro d ⟨rfl,j,l,s⟩;rw [if_neg (j (by omega)),if_neg (l (by omega)),if_neg (s (by omega))] at c;exact c d (Hp.le_refl _)
def qY {b:Type} (d:D b):Prop:=∀a at_ e,d a at_=.error e->e=(5,a.length)
theorem zh (k:Nat):qY (D.num k):=λa at_ e h=>by unfold D.num at h;split at h<;>cases h;rfl
theorem Al {c j:Type} {d:D c} {f:c->D j} (g:qY d) (i:∀x,qY (f x)):qY (D.bind d f):=λa at_ e h=>by
 unfold D.bind at h;cases b:d a at_ with
 | error k=>rw [b] at h;cases h;exact g a at_ _ b
 | ok x=>rw [b] at h;exact i _ a _ e h
theorem wQ {a:Type} (x:a):qY (D.ret x):=λ_ _ _ h=>by cases h
theorem Ze :qY sD:=
 Al (Al (zh 1) λ_=>wQ _) λ_=>Al (Al (zh 1) λ_=>wQ _) λ_=>Al (Al (zh 1) λ_=>wQ _) λ_=>
  Al (Al (zh 1) λ_=>wQ _) λ_=>Al (Al (zh 8) λ_=>wQ _) λ_=>wQ _
theorem acq {c:Type} (d:D c):D.cQ d (λ_=>0)=d:=by
 funext b a;unfold D.cQ;cases d b a with
 | error e=>rfl
 | ok x=>rfl
section
variable {d h:Hp} {b:Nat} {f:Sl} {bs:List UInt8} {r:RS}
theorem zy {k:Nat} {Q:Int->Hp->Prop} (a:nB d h b f bs r) (o:1<=k) (p:k<=8)
  (q:∀(v:Nat) c e,v<256^k->Mv [b] h [b] e->nB d e b f bs c->Cn bs r (D.num k) c v->Q (v:Int) e):
  ae prog Aa [(.pointer (some ⟨b,0,none⟩)),(.int .i64 (k:Int)),(.func (.func Q5) #[] #[])] (af .u64) Q h:=by
 refine QR (wrong:=⟨Q5, #[], #[]⟩) (Bu (k:=k) a o p (λ_=>0) (λn s K l=> ?_) λv c j hv m a2 i=> ?_)
 ·refine xA (g:=Q5) rfl (S2 ?_);unfold zuf;exact l h (Hp.le_refl _)
 ·rw [acq] at i;exact q v c j hv m a2 i
theorem acu {n ag:Int} {Q:aS->Hp->Prop} (a:nB d h b f bs r) (u:∀(v:aS) M s,Mv [b] h [b] s->nB d s b f bs M->Cn bs r (pJ n ag) M (bu v)->Q v s):
  zqu prog (some ⟨b,0,none⟩) n ag Q h:=by
 unfold zqu;obtain ⟨p,e,pl,w,J⟩:=a.fW;have a8:f.len=bs.length:=a.src.1;have b1:=a.small;refine xx (xm w ?_);cases r with
 | error x=>obtain ⟨er,q⟩:=x;rw [if_pos (by rw [J.1];simpa using J.2.1)];exact u _ _ h (Mv.refl _ _) a Cn.stay
 | ok at_=>
  obtain ⟨rfl,rfl,H⟩:=J;have H:at_<=bs.length:=by omega
  rw [jO];refine aJ (bg (sh:=af .i64) (at_:Int) (w.bU (off:=1) (n:=1) rfl) (aJ (bg (sh:=aw) f (w.bU (off:=0) (n:=1) rfl) ?_)));rw [aV];by_cases a9:bs.length<at_+12
  ·rw [if_pos (iW)];refine aJ (bg (sh:=aw) f (w.bU (off:=0) (n:=1) rfl) (D2 (vc w λs m T=> ?_)));rw [if_pos ⟨by decide,rfl⟩,if_pos ⟨by decide,rfl⟩] at T;refine u _ (.error (5,bs.length)) s m ⟨(m.le a.le λc t=>by rw [List.mem_singleton.1 t];exact a.out).1,a.out,a.src,a.cap,a.small,_,_,_,T,rfl,by decide,by rw [a8]⟩ (Cn.err ?_);unfold pJ D.iv;cases G:sD bs at_ with
   | error e=>rw [Ze bs at_ e G]
   | ok y=>obtain ⟨y,a2⟩:=y;have N:=(pg.sound bs at_ y a2 G H).2.1;have h2:=pg.within G H;simp [nk,eN] at N;omega
  ·rw [if_neg (λe=>a9 (by have:=of_decide_eq_true e;omega))];refine zy (k:=1) a (by omega) (by omega) λv1 M N b3 m1 a1 V=> ?_;refine zy (k:=1) a1 (by omega) (by omega) λi r2 h2 b4 m2 a2 W=> ?_;refine zy (k:=1) a2 (by omega) (by omega) λj r3 h3 b5 m3 a3 X=> ?_;refine zy (k:=1) a3 (by omega) (by omega) λv4 r4 h4 b6 m4 a4 Y=> ?_;refine zy (k:=8) a4 (by omega) (by omega) λl E h5 b7 m5 a5 Z=> ?_;have m:=m1.trans (m2.trans (m3.trans (m4.trans m5)));have t:Cn bs (.ok at_) sD E (bu ⟨(v1:Int),(i:Int),(j:Int),(v4:Int),i64 l⟩):=
    Cn.seq V.map (Cn.seq W.map (Cn.seq X.map (Cn.seq Y.map (Cn.seq Z.map Cn.ret))))
   rw [LJ (v:=l) (by omega)];rw [wrap64 (n:=(v1:Int)) (by omega) (by omega),wrap64 (n:=(i:Int)) (by omega) (by omega),wrap64 (n:=(j:Int)) (by omega) (by omega),wrap64 (n:=(v4:Int)) (by omega) (by omega)];have hx:(⟨(v1:Int),(i:Int),(j:Int),(v4:Int),i64 l⟩:aS).A=(i:Int):=rfl;refine zuj (x:=⟨(v1:Int),(i:Int),(j:Int),(v4:Int),i64 l⟩) (Gf λh6 R=> ?_);have hA:0<=(⟨(v1:Int),(i:Int),(j:Int),(v4:Int),i64 l⟩:aS).A:=by show (0:Int)<=(i:Int);omega
   have hB:0<=(⟨(v1:Int),(i:Int),(j:Int),(v4:Int),i64 l⟩:aS).B:=by show (0:Int)<=(j:Int);omega
   have hC:0<=(⟨(v1:Int),(i:Int),(j:Int),(v4:Int),i64 l⟩:aS).C:=by show (0:Int)<=(v4:Int);omega
   have g:=t.done;have U:=m.trans (Mv.of_le [b] R);have a6:=a5.grow R;have b0:(aT.enc ⟨(v1:Int),(i:Int),(j:Int),(v4:Int),i64 l⟩)=.agg #[.int .i64 (v1:Int),.int .i64 (i:Int),.int .i64 (j:Int),.int .i64 (v4:Int),.int .i64 (i64 l)]:=rfl;rw [<-b0];generalize (⟨(v1:Int),(i:Int),(j:Int),(v4:Int),i64 l⟩:aS)=y at*;by_cases o:(ja (bu y) n ag).1=0
   ·rw [if_neg (by simpa using o)];refine u y E h6 U a6 ?_;cases E with
    | ok a2=>refine Cn.ok ?_;have g:sD bs at_=.ok (bu y,a2):=g;unfold pJ D.iv;rw [g];dsimp only;rw [if_pos o]
    | error e=>refine Cn.err ?_;have g:sD bs at_=.error e:=g;unfold pJ D.iv;rw [g]
   ·rw [if_pos (by simpa using o)];refine Xa (WM hA hB hC λh7 S=> ?_);rw [<-OT (n:=n) (ag:=ag) o];have b2:0<=(ja (bu y) n ag).2/\(ja (bu y) n ag).2<=4:=by
     rw [OT o];split
     ·omega
     ·unfold wY;split
      ·omega
      ·split
       ·omega
       ·split<;>omega
    have a7:=a6.grow S;obtain ⟨p7,e7,b8,k7,K⟩:=a7.fW;rw [aV];refine D2 (vc k7 λO m8 z=> ?_);have L:=(U.trans (Mv.of_le [b] S)).trans m8;have P:=(L.le a.le λc t=>by rw [List.mem_singleton.1 t];exact a.out).1;cases E with
    | ok a2=>have g:sD bs at_=.ok (bu y,a2):=g;obtain ⟨rfl,rfl,K⟩:=K;simp only [ne_eq,o,not_false_eq_true,and_self,if_true] at z;refine u y (.error ((ja (bu y) n ag).1,at_+(ja (bu y) n ag).2.toNat)) O L ⟨P,a.out,a.src,a.cap,a.small,_,_,_,z,rfl,o,by push_cast;omega⟩ (Cn.err ?_);unfold pJ D.iv;rw [g];dsimp only;rw [if_neg o]
    | error e=>have g:sD bs at_=.error e:=g;obtain ⟨er,q⟩:=e;obtain ⟨rfl,I,rfl⟩:=K;rw [if_neg (λF=>I F.2),if_neg (λF=>I F.2)] at z;refine u y (.error (e7,q)) O L ⟨P,a.out,a.src,a.cap,a.small,_,_,_,z,rfl,I,rfl⟩ (Cn.err ?_);unfold pJ D.iv;rw [g]
end
section
variable {d h0 k:Hp} {m l:Nat} {u:Sl} {bs:List UInt8} {r:RS} {x:an} {c:aL} {B:List Nat}
theorem CB.other (s:CB d h0 m l u bs k r x c B) {i:Hp} {a:List Nat} (bO:∀b o,k b=some o->b∉a->i b=some o) (f:∀b∈a,h0 b=none/\b∉B):CB d h0 m l u bs i r x c B:=by
 have w:m∉a:=λh=>s.kr (f m h).1;have v:l∉a:=λh=>s.kc (f l h).1;have g:∀b o,h0 b=some o->b∉a:=λb o e h=>by rw [(f b h).1] at e;cases e
 exact {
  base:=s.base
  kr:=s.kr
  kc:=s.kc
  ne:=s.ne
  dc:=s.dc
  bO:=λb o e j n=>bO b o (s.bO b o e j n) (g b o e)
  rd:=by obtain ⟨p,q,t,⟨ty,z⟩,y⟩:=s.rd.fW;exact ⟨λb o e=>bO b o (s.rd.le b o e) (g b o (s.base b o e)),s.rd.out,s.rd.src,s.rd.cap,s.rd.small,p,q,t,⟨ty,bO m _ z w⟩,y⟩
  fW:=by obtain ⟨t,e⟩:=s.fW;exact ⟨t,bO l _ e v⟩
  own:=fp.same s.own λb hb=>by
   cases e:k b with
   | none=>exact absurd e (fp.known s.own b hb)
   | some o=>exact bO b o e λh=>(f b h).2 hb
  nd:=s.nd
  fresh:=s.fresh}
theorem Zh {P:Program} {n:Int} {Q:Int->Hp->Prop} {h:Hp} (b:Q (if 256<n then 3 else 0) h):YE P n Q h:=by
 unfold YE;by_cases a:256<n
 ·rw [if_pos a] at b;rw [if_pos (decide_eq_true a)];exact b
 ·rw [if_neg a] at b;rw [if_neg (λe=>a (of_decide_eq_true e))];exact b
theorem Zk (s:CB d h0 m l u bs k r x c B) (c6:c.labels.length<=255) (c5:c.procs.length<=255) {Q:Hp->Prop}
  (hq:∀p J W x' B',CB d h0 m l u bs W J x' {c with procs:=c.procs++ [p]} B'->Cn bs r (nx (c.labels.length:Int) c.ag) J p->Q W):
  zpa prog (some ⟨m,0,none⟩) (some ⟨l,0,none⟩) Q k:=by
 unfold zpa;have b4:x.aQ.len=c.labels.length:=by obtain ⟨B1,B2,B3,_,o1,_⟩:=s.own;exact o1.len
 have b3:x.bE=c.ag:=by obtain ⟨B1,B2,B3,_,_,_,_,_,_,e,_⟩:=s.own;exact e
 refine zlf (Nn s.rd s.fW (by omega) λpart J k1 c4 m1 a1 O=> ?_);rw [b4] at O;have s1:=s.step m1 a1;refine QZ (wrong:=⟨Yd, #[], #[]⟩) (AS (k:=2) s1.rd (by omega) (by omega) (λn=>if 256<n then 3 else 0) (λn c3 h1 c2 K hK=>xA (g:=Yd) rfl (zzs (Zh (hK h1 (Hp.le_refl _))))) λv r2 k2 hv m2 a2 b0=> ?_);have s2:=s1.step m2 a2;refine bL.intro (λi p z=>∃(j:Nat) (q:List df) (A:RS) (t:List Nat),i=(j:Int)/\j=q.length/\j<=v/\CB d h0 m l u bs z A x c B/\p.Part=(part:Int)/\wc p.Code q z t/\t.Nodup/\(∀b∈t,h0 b=none/\b∉B)/\
   ∀(G:Type) (f:List df->D G),cM r2 (D.bind (D.many (λ_=>pJ (v:Int) c.ag) v []) f) bs=cM A (D.bind (D.many (λ_=>pJ (v:Int) c.ag) (v-j) q) f) bs) (λi _ _=>(v-i).toNat)
  ⟨0,[],r2,[],rfl,rfl,by omega,s2,rfl,bh.nil,List.nodup_nil,λb hb=>by (cases hb),λ_ _=>rfl⟩ ?_
 rintro i p z ⟨j,q,A,t,rfl,b2,c1,w,V,E,a8,C,P⟩;refine lO (λb=>b=true↔∃e,A=.error e) false (λ_ hk=>xx (w.rd.bad hk)) λb hb=>aE ?_;have R:(j=v\/∃e,A=.error e)->ah none (some ⟨l,0,none⟩) λp1=>aN none aw z (Addr.add p1 6) λx=>bc [(.int .i64 p.Part),p.Code.v] (λa N=>(((aZ N (Addr.add p1 6) [x.v])/\True)/\eC 2 32 [(.int .i64 (0:Int)),(.slice none 0 0)] x ⟨(some a),1,1⟩ (λL h6=>
   ah none (some ⟨l,0,none⟩) λp2=>cX h6 (Addr.add p2 6) [L.v] (λh7=>Q h7)) N)) z:=λb7=>by
  refine aJ (bg (sh:=aw) x.aD (w.fW.bU (off:=6) (n:=1) rfl) ?_);refine lT (xs:=[p]) (enc:=λx=>bA (bT.enc x)) (sz:=2) rfl (λ_=>rfl) λb6 Y _ U _ I=> ?_;have F:=w.grow U;have H:wc p.Code q Y t:=ns.same E λb hb=>by
   cases e:z b with
   | none=>exact absurd e (ns.known E b hb)
   | some o=>exact U b o e
  refine ⟨⟨F.fW.bU (off:=6) (n:=1) rfl,trivial⟩,?_⟩;refine F.procs (v:=p) (p:=⟨(part:Int),q⟩) ⟨V,H⟩ a8 C (I.rw λ_=>rfl) (by omega) λl' k7 hN=>aJ (hN.2.2 _ λk8 B8 s8=> ?_);refine hq ⟨(part:Int),q⟩ A k8 _ B8 s8 λG f=> ?_;unfold nx;rw [jh,O,jh,b0,jh];have e:=P G λcode=>f ⟨(part:Int),code⟩;rcases b7 with rfl | ⟨e2,rfl⟩
  ·rw [Nat.sub_self] at e;exact e
  ·exact e
 by_cases S:j=v
 ·rw [if_neg (by simp [S])];exact R (.inl S)
 have hb:=hb (iW);cases b with
 | true=>rw [jO];exact R (.inr (hb.1 rfl))
 | false=>
  rw [if_pos (by simp;omega)];refine aJ (bg (sh:=af .i64) x.bE (w.fW.bU (off:=4) (n:=1) rfl) ?_);rw [b3];refine T7 (acu w.rd λy L X Z a4 b1=> ?_);have s4:=w.step Z a4;have o4:wc p.Code q X t:=ns.same E (vb Z (ns.known E) λb hb e=>w.kr (by rw [<-List.mem_singleton.1 e];exact (C b hb).1));refine ⟨⟨trivial,trivial⟩,?_⟩;refine lT (xs:=[y]) (enc:=λx=>bA (aT.enc x)) (sz:=5) rfl (λ_=>rfl) λb5 k5 _ T _ c0=> ?_;have M:=s4.grow T;have H:wc p.Code q k5 t:=ns.same o4 λb hb=>by
   cases e:X b with
   | none=>exact absurd e (ns.known o4 b hb)
   | some o=>exact T b o e
  refine ⟨⟨trivial,trivial⟩,?_⟩;refine C8 (dN.ok _) H (v:=y) (p:=bu y) (B':=[]) ⟨rfl,rfl⟩ (by simpa using a8) (c0.rw λ_=>rfl) (λ_=>rfl) (λ_=>rfl) rfl (by omega) λl' Y B6 I b9 b8 a9=> ?_;have F:=M.other b8 C;rw [aV];refine ⟨⟨j+1,q++ [bu y],L,B6,by omega,by simp [b2],by omega,F,V,I,b9,λb hb=> ?_,λG f=> ?_⟩,by omega⟩
  ·rcases a9 b hb with hb | hb
   ·exact C b (by simpa using hb)
   ·exact ⟨M.sk hb,λh=>fp.known M.own b h hb⟩
  ·have e1:v-j=(v-(j+1))+1:=by omega
   rw [P,e1,wV,jh,b1]
end
section
variable {d h:Hp} {j:Nat} {l:Sl} {bs:List UInt8} {r:RS}
theorem Ua {P:Program} {e:Nat} {i:Nat} {n:Nat} {h:Hp} (p:i<5) (q:n<256) (m:aZ h ⟨e,0,none⟩ [.int .i64 (i:Int)]) {c:UInt8} (o:([70,66,67,70,1]:List UInt8)[i]? =some c)
  {Q:Int->Hp->Prop} (a:Q (if n=c.toNat then 0 else 4) h):WJ P (n:Int) ⟨e,0,none⟩ Q h:=by
 unfold WJ;have k:(i:Int)<5:=by omega
 refine bg (sh:=af .i64) (i:Int) m ⟨⟨Int.natCast_nonneg i,k⟩,?_⟩;have f:IntKind.wrap .u8 (n:Int)=(n:Int):=by rw [mP,EY];omega
 have g:List.getD [70,66,67,70,1] (Int.toNat (i:Int)) (0:UInt8)=c:=by rw [List.getD_eq_getElem?_getD,show (Int.toNat (i:Int))=i from rfl,o];rfl
 rw [f,g];by_cases b:n=c.toNat
 ·rw [if_pos b] at a;rw [if_neg (by simp [b])];exact a
 ·rw [if_neg b] at a;rw [if_pos (by rw [bne_iff_ne];omega)];exact a
theorem WO {Q:Hp->Prop} (a:nB d h j l bs r) (P:∀I y,Mv [j] h [j] y->nB d y j l bs I->Cn bs r (jU [70,66,67,70,1]) I ()->Q y):Yw prog (some ⟨j,0,none⟩) Q h:=by
 unfold Yw;refine gh (n:=5) rfl (by omega) (λi k=>∃s,Mv [j] h [j] k/\nB d k j l bs s/\∀(E:Type) (f:Unit->D E),cM r (D.bind (jU [70,66,67,70,1]) f) bs=cM s (D.bind (jU (([70,66,67,70,1]:List UInt8).drop i)) f) bs) ⟨r,Mv.refl _ _,a,λ_ _=>rfl⟩ ?_ ?_
 ·rintro i x k ⟨s,m,u,B⟩ K z;refine ln λw V C F J=> ?_;have a1:=u.grow F;have M:j≠w:=λh=>by obtain ⟨p,q,t,S,_⟩:=u.fW;exact S.known (h▸C)
  refine qQ (b:=w) (off:=0) J (by simp) λG H L=> ?_;have a2:=a1.mv H (λh=>M (List.mem_singleton.1 h)) λb hb=>by rw [List.mem_singleton.1 hb];exact qj u.le C
  have T:aZ G ⟨w,0,none⟩ [.int .i64 (i:Int)]:=by refine L.bU (off:=0) (n:=1) ?_;simp
  have A:([70,66,67,70,1]:List UInt8)[i]? =some (([70,66,67,70,1]:List UInt8)[i]'(by simpa using x)):=List.getElem?_eq_getElem (by simpa using x);generalize ([70,66,67,70,1]:List UInt8)[i]'(by simpa using x)=c at A;refine QR (wrong:=⟨Wk, #[], #[.pointer (some ⟨w,0,none⟩)]⟩) (Bu (k:=1) a2 (by omega) (by omega) (λn=>if n=c.toNat then 0 else 4) (λn O K z=> ?_) λv r2 R hv U a3 N=> ?_)
  ·refine xA (g:=Wk) rfl (zwe ?_);exact Ua x (by simpa using O) T A (z G (Hp.le_refl _))
  ·refine z R ⟨r2,⟨λb o e hb=>U.bO b o (H.bO b o (F b o (m.bO b o e hb)) λh=> ?_) hb,λb hb=>.inl hb⟩,a3,λE f=> ?_⟩
   ·rw [List.mem_singleton.1 h] at e hb;have:=m.bO w o e hb;rw [C] at this;cases this
   ·rw [B,Ak A];show cM s (D.bind (D.bind (D.cQ (D.num 1) λn=>if n=c.toNat then 0 else 4) λ_=>jU (([70,66,67,70,1]:List UInt8).drop (i+1))) f) bs=_;rw [jh,N]
 ·rintro k ⟨s,m,u,B⟩;exact P s k m u λE f=>by rw [B];rfl
end
theorem rp2 :qw 2=dD 1 256:=by funext n;simp [qw]
theorem rp3 :qw 3=dD 1 64:=by funext n;simp [qw]
theorem rp4 :qw 4=dD 0 8:=by funext n;simp [qw]
theorem rp5 :qw 5=dD 0 4096:=by funext n;simp [qw]
def mV :an:=⟨⟨none,0,0⟩,⟨none,0,0⟩,0,0,0,0,⟨none,0,0⟩⟩
def Ar (h g:Hp) (d f:Nat) (b:Sl) (a:List UInt8) (k:Hp):Prop:=
 (eS k d (nV b 0 22 1048576)/\h<=k/\ve a=.error (22,1048576))\/
 ∃(r:RS) (x:an) (c:aL) (B:List Nat),CB h g d f b a k r x c B/\match r with
  | .error e=>ve a=.error e
  | .ok _=>ve a=.ok c
theorem OX {a:List UInt8} {e:Int×Nat} (b:a.length<=1048576) (h:cM (.ok 0) An a=.error e):ve a=.error e:=by unfold ve oy;rw [qt];have h:An a 0=.error e:=h;rw [h]
theorem ad3 {b:List UInt8} {c:aL} {a:Nat} (d:b.length<=1048576) (h:cM (.ok 0) An b=.ok (c,a)):ve b=if a<b.length then .error (6,a) else .ok c:=by unfold ve oy;rw [qt];have h:An b 0=.ok (c,a):=h;rw [h]
theorem ack {h:Hp} {b:Sl} {d:List UInt8} {Q:an->Int->Int->Hp->Prop} (hB:Bs h b d) (b3:b.len<=b.cap)
  (he:∀e p M,h<=M->ve d=.error (e,p)->e≠0->Q mV e (p:Int) M) (f5:∀x c B M,h<=M->ve d=.ok c->mo x c M B->B.Nodup->(∀b∈B,h b=none)->Q x 0 0 M):
  zzb prog b Q h:=by
 unfold zzb;have g6:b.len=d.length:=hB.1;refine ln λt h1 e9 c3 b5=>ln λg u c6 c4 b2=> ?_;have b0:=Hp.le_trans c3 c4;have f0:g≠t:=λe=>b5.known (e▸c6);have R:h g=none:=qj c3 c6;have b6:=b5.le c4;refine dj.intro (λ_ k=>Ar h u g t b d k) ?_ ?_
 ·by_cases b7:1048576<d.length
  ·rw [if_pos (iW)];refine D2 (vc (at_:=0) (e:=0) (pl:=0) b2 λh3 m3 k3=> ?_);rw [if_pos ⟨by decide,rfl⟩,if_pos ⟨by decide,rfl⟩] at k3;refine .inl ⟨k3,(m3.le b0 λc E=>by rw [List.mem_singleton.1 E];exact R).1,?_⟩;unfold ve oy;rw [if_pos b7]
  ·rw [if_neg (λe=>b7 (by have:=of_decide_eq_true e;omega))];have S:d.length<=1048576:=by omega
   have s0:CB h u g t b d u (.ok 0) mV ⟨[],[],0,0,0,0,[]⟩ []:=
    ⟨b0,b2.known,b6.known,f0,e9,λb o e _ _=>e,⟨b0,R,hB,b3,by omega,0,0,0,b2,rfl,rfl,by omega⟩,b6,⟨[],[],[],rfl,bh.nil,bh.nil,bh.nil,rfl,rfl,rfl,rfl⟩,List.nodup_nil,λb hb=>by (cases hb)⟩
   refine zzp (WO s0.rd λr1 Y m1 a1 d1=> ?_);have s1:=s0.step m1 a1;have b8:cM (.ok 0) An d=_:=d1 aL _;refine xx (s1.rd.bad λq F=> ?_);cases q with
   | true=>rw [if_pos rfl];obtain ⟨e,rfl⟩:=F.1 rfl;exact .inr ⟨_,_,_,_,s1,OX S b8⟩
   | false=>
   rw [jO];refine zzq (WK s1 rfl λG r2 k2 x2 z c5 s2 d7=> ?_);have b9:=b8.trans (d7 aL _);refine xx (s2.rd.bad λq F=> ?_);cases q with
   | true=>rw [if_pos rfl];obtain ⟨e,rfl⟩:=F.1 rfl;exact .inr ⟨_,_,_,_,s2,OX S b9⟩
   | false=>
   rw [jO];refine SY (Zb s2 rfl c5 λV r3 k3 x3 A g8 s3 d8=> ?_);have c0:=b9.trans (d8 aL _);refine xx (s3.rd.bad λq F=> ?_);cases q with
   | true=>rw [if_pos rfl];obtain ⟨e,rfl⟩:=F.1 rfl;exact .inr ⟨_,_,_,_,s3,OX S c0⟩
   | false=>
   rw [jO];have num:∀ {k:Nat} {part:Int} {N lo:Int} {r:RS} {x:an} {c:aL} {B:List Nat} {l:Hp} {Q:Int->Hp->Prop},CB h u g t b d l r x c B->1<=k->k<=2->qw part=dD lo N->
     (∀(v:Nat) r1 Y,v<65536->CB h u g t b d Y r1 x c B->Cn d r (D.cQ (zD k) (dD lo N)) r1 (v:Int)->Q (v:Int) Y)->ae prog Hr [(.pointer (some ⟨g,0,none⟩)),(.int .i64 part),(.int .i64 (k:Int))] (af .i64) Q l:=
    λ{k part N lo r x c B l Q} s e7 c2 hp F=>zzr (WI (k:=k) s.rd e7 c2 λv r1 Y hv m a E=>F v r1 Y (by
     have:256^k<=65536:=Nat.pow_le_pow_right (by omega:256>0) c2;omega) (s.step m a) (by rw [<-hp];exact E))
   refine num (k:=2) s3 (by omega) (by omega) rp2 λv4 r4 k4 h4 s4 d9=> ?_;have e1:=c0.trans (d9 aL _);refine s4.num (x':={x3 with Fuel:=(v4:Int)}) (c':=⟨G,V,(v4:Int),0,0,0,[]⟩) (off:=2) (λo=>by
    obtain ⟨C,z,A,e,H,I,J,f1,f2,f3,L⟩:=o;exact ⟨C,z,A,e,H,I,J,rfl,f2,f3,L⟩) (by omega) rfl λk5 s5=> ?_
   refine num (k:=1) s5 (by omega) (by omega) rp3 λv6 r6 k6 h5 s6 e2=> ?_;have e3:=e1.trans (e2 aL _);refine s6.num (x':={x3 with Fuel:=(v4:Int),fD:=(v6:Int)}) (c':=⟨G,V,(v4:Int),(v6:Int),0,0,[]⟩) (off:=3) (λo=>by
    obtain ⟨C,z,A,e,H,I,J,f1,f2,f3,L⟩:=o;exact ⟨C,z,A,e,H,I,J,f1,rfl,f3,L⟩) (by omega) rfl λk7 s7=> ?_
   refine num (k:=1) s7 (by omega) (by omega) rp4 λK r8 k8 h6 s8 e4=> ?_;have e5:=e3.trans (e4 aL _);refine s8.num (x':={x3 with Fuel:=(v4:Int),fD:=(v6:Int),bE:=(K:Int)}) (c':=⟨G,V,(v4:Int),(v6:Int),(K:Int),0,[]⟩) (off:=4) (λo=>by
    obtain ⟨C,z,A,e,H,I,J,f1,f2,f3,L⟩:=o;exact ⟨C,z,A,e,H,I,J,f1,f2,rfl,L⟩) (by omega) rfl λk9 s9=> ?_
   refine num (k:=2) s9 (by omega) (by omega) rp5 λv10 i4 h7 g9 g0 d2=> ?_;have d3:=e5.trans (d2 aL _);refine g0.num (x':={x3 with Fuel:=(v4:Int),fD:=(v6:Int),bE:=(K:Int),Log:=(v10:Int)}) (c':=⟨G,V,(v4:Int),(v6:Int),(K:Int),(v10:Int),[]⟩) (off:=5) (λo=>by
    obtain ⟨C,z,A,e,H,I,J,f1,f2,f3,L⟩:=o;exact ⟨C,z,A,e,H,I,J,f1,f2,f3,rfl⟩) (by omega) rfl λh8 c7=> ?_
   refine Vn (E9 c7.rd λnp f8 h9 g7 f7 c9 d4=> ?_);have g1:=c7.step f7 c9;have d5:=d3.trans (d4 aL _);refine aB.intro (λn l=>∃(i:Nat) (T:List fI) (U:RS) (x':an) (B':List Nat),n=(i:Int)/\i+T.length=np/\CB h u g t b d l U x' ⟨G,V,(v4:Int),(v6:Int),(K:Int),(v10:Int),T⟩ B'/\
     cM (.ok 0) An d=cM U (D.bind (D.many (λ_=>nx (G.length:Int) (K:Int)) i T) λprocs=>D.ret (⟨G,V,(v4:Int),(v6:Int),(K:Int),(v10:Int),procs⟩:aL)) d) (λn _=>n.toNat)
    ⟨np,[],f8,_,_,rfl,by simp,g1,d5⟩ ?_
   rintro n l ⟨i,T,U,x',B',rfl,g5,y,a9⟩;refine lO (λb=>b=true↔∃e,U=.error e) false (λ_ hk=>xx (y.rd.bad hk)) λq b4=>aE ?_;have c1:(i=0\/∃e,U=.error e)->ah none (some ⟨g,0,none⟩) λp=>aN none (af .i64) l (Addr.add p 1) λx=>
     (if (decide (x<((b.len:Nat):Int)))=true then
     ah none (some ⟨g,0,none⟩) λp1=>
     aN none (af .i64) l (Addr.add p1 1) λx1=>
     aM prog AW [(.pointer (some ⟨g,0,none⟩)),(.int .i64 (6:Int)),(.int .i64 x1)] (λb1=>Ar h u g t b d b1) l
     else Ar h u g t b d l):=λf6=>by
    obtain ⟨p,e,pl,f,X⟩:=y.rd.fW;refine aJ (bg (sh:=af .i64) p (f.bU (off:=1) (n:=1) rfl) ?_);cases U with
    | error e0=>
     obtain ⟨er,q0⟩:=e0;obtain ⟨rfl,P,rfl⟩:=X;have e6:Ar h u g t b d l:=.inr ⟨_,_,_,_,y,OX S a9⟩;by_cases O:p<((b.len:Nat):Int)
     ·rw [if_pos (decide_eq_true O)];refine aJ (bg (sh:=af .i64) p (f.bU (off:=1) (n:=1) rfl) (D2 (vc f λb1 a8 Z=> ?_)));rw [if_neg (λhh=>P hh.2),if_neg (λhh=>P hh.2)] at Z;refine .inr ⟨.error (e,q0),_,_,_,y.step a8 ⟨(a8.le y.rd.le λc E=>by rw [List.mem_singleton.1 E];exact R).1,R,hB,b3,by omega,_,_,_,Z,rfl,P,rfl⟩,OX S a9⟩
     ·rw [if_neg (λe=>O (of_decide_eq_true e))];exact e6
    | ok at_=>
     obtain ⟨rfl,rfl,g4⟩:=X;have W:i=0:=by
      rcases f6 with W | ⟨e,W⟩
      ·exact W
      ·cases W
     subst W;have w:=ad3 S (a9:cM (.ok 0) An d=.ok (_,at_));by_cases O:at_<d.length
     ·have e8:(at_:Int)<((b.len:Nat):Int):=by omega
      rw [if_pos (decide_eq_true e8)];rw [if_pos O] at w;refine aJ (bg (sh:=af .i64) (at_:Int) (f.bU (off:=1) (n:=1) rfl) (D2 (vc f λb1 a8 Z=> ?_)));rw [if_pos ⟨by decide,rfl⟩,if_pos ⟨by decide,rfl⟩] at Z;exact .inr ⟨.error (6,at_),_,_,_,y.step a8 ⟨(a8.le y.rd.le λc E=>by rw [List.mem_singleton.1 E];exact R).1,R,hB,b3,by omega,_,_,_,Z,rfl,by decide,rfl⟩,w⟩
     ·rw [if_neg (λe=>O (by have e:(at_:Int)<((b.len:Nat):Int):=of_decide_eq_true e;omega))];rw [if_neg O] at w;exact .inr ⟨_,_,_,_,y,w⟩
   by_cases N:i=0
   ·rw [if_neg (by simp [N])];exact c1 (.inl N)
   have b4:=b4 (iW);cases q with
   | true=>rw [jO];exact c1 (.inr (b4.1 rfl))
   | false=>rw [if_pos (by simp;omega)];obtain ⟨j,rfl⟩:∃j,i=j+1:=⟨i-1,by omega⟩;refine Ta (Zk y c5 (by show T.length<=255;omega) λp f9 i3 g3 c8 g2 d6=> ?_);rw [aV];refine ⟨⟨j,T++ [p],f9,g3,c8,by omega,by simp;omega,g2,?_⟩,by omega⟩;rw [a9,wV,jh,d6]
 ·intro t2 k hE;rcases hE with ⟨f,hl,w⟩ | ⟨r,x,c,B,s,w⟩
  ·refine xx (xm f ?_);rw [if_pos (by simp)];refine aJ (bg (sh:=af .i64) (22:Int) (f.bU (off:=2) (n:=1) rfl) (aJ (bg (sh:=af .i64) (1048576:Int) (f.bU (off:=3) (n:=1) rfl) ?_)));exact ⟨⟨f.bU (off:=2) (n:=1) rfl,f.bU (off:=3) (n:=1) rfl,trivial⟩,he 22 1048576 k hl w (by decide)⟩
  ·obtain ⟨p,e,pl,f,X⟩:=s.rd.fW;refine xx (xm f ?_);cases r with
   | error e0=>obtain ⟨er,q0⟩:=e0;obtain ⟨rfl,P,rfl⟩:=X;rw [if_pos (by simpa using P)];refine aJ (bg (sh:=af .i64) e (f.bU (off:=2) (n:=1) rfl) (aJ (bg (sh:=af .i64) (q0:Int) (f.bU (off:=3) (n:=1) rfl) ?_)));exact ⟨⟨f.bU (off:=2) (n:=1) rfl,f.bU (off:=3) (n:=1) rfl,trivial⟩,he e q0 k s.rd.le w P⟩
   | ok at_=>obtain ⟨rfl,rfl,_⟩:=X;rw [jO];refine bg (sh:=aA) x (s.fW.bU (off:=0) (n:=7) rfl) ?_;exact f5 x c B k s.rd.le w s.own s.nd λb' d0=>qj b0 (s.fresh b' d0)
structure mf (d h:Hp) (rb:Nat) (bl:Sl) (bs:List UInt8) (r:RS) (x:an):Prop where
 le:d<=h
 out:d rb=none
 src:Bs d bl bs
 cap:bl.len<=bl.cap
 small:bs.length<=2097152
 fW:∃at_ e pl:Int,eS h rb (nV bl at_ e pl++jD x)/\HT r bs.length at_ e pl
section
variable {d h:Hp} {f:Nat} {g:Sl} {bs:List UInt8} {r:RS} {x:an}
theorem mf.mv (a:mf d h f g bs r x) {G i:List Nat} {b:Hp} (m:Mv G h i b) (l:f∉G) (j:∀c∈G,d c=none):mf d b f g bs r x:=by obtain ⟨p,e,o,k,n⟩:=a.fW;exact ⟨(m.le a.le j).1,a.out,a.src,a.cap,a.small,p,e,o,k.mv m l,n⟩
theorem mf.grow (a:mf d h f g bs r x) {b:Hp} (c:h<=b):mf d b f g bs r x:=a.mv (Mv.of_le [] c) (by simp) (by simp)
theorem mf.known (a:mf d h f g bs r x):h f≠none:=by obtain ⟨p,e,pl,k,b⟩:=a.fW;exact k.known
theorem mf.cfg (a:mf d h f g bs r x) {j n:Nat} {b:List Value} (hv:((jD x).drop j).take n=b):aZ h ⟨f,4+j,none⟩ b:=by obtain ⟨p,e,i,k,c⟩:=a.fW;exact k.bU (off:=4+j) (n:=n) (by rw [<-hv,Nat.add_comm];rfl)
theorem Da {P:Program} {o:List Value} {at_ e m j l:Int} (k:eS h f (nV g at_ e m++o)) {Q:Hp->Prop}
  (c:∀i,Mv [f] h [f] i->eS i f (nV g at_ (if e=0 then j else e) (if e=0 then l else m)++o)->Q i):Rb P (some ⟨f,0,none⟩) j l Q h:=by
 unfold Rb;refine aJ (bg (sh:=af .i64) e (k.bU (off:=2) (n:=1) rfl) ?_);by_cases a:e=0
 ·rw [if_pos (by simpa using a)];rw [if_pos a,if_pos a] at c;refine aJ (qQ (b:=f) (off:=2) k (by simp [nV]) λv t q=>aJ (qQ (b:=f) (off:=3) q (by simp [nV]) λp u s=>c p (t.trans u) (by simpa [nV] using s)))
 ·rw [if_neg (by simpa using a)];rw [if_neg a,if_neg a] at c;exact c h (Mv.refl _ _) k
theorem qO {k:Nat} {Q:Int->Hp->Prop} (a:mf d h f g bs r x) (T:1<=k) (L:k<=8)
  (t:∀(n:Nat) v j,n<256^k->Mv [f] h [f] j->mf d j f g bs v x->Cn bs r (D.num k) v n->((∃e,v=.error e)->n=0)->Q (i64 n) j):zqj prog (some ⟨f,0,none⟩) (k:Int) Q h:=by
 unfold zqj;obtain ⟨p,e,P,i,u⟩:=a.fW;have M:g.len=bs.length:=a.src.1;have V:=a.small;have A:0<256^k:=Nat.pow_pos (by omega);have U:256^k<=18446744073709551616:=Nat.pow_le_pow_right (by omega:256>0) L;refine aJ (bg (sh:=af .i64) e (i.bU (off:=2) (n:=1) rfl) ?_);cases r with
 | error y=>obtain ⟨R,q⟩:=y;rw [if_pos (by rw [bne_iff_ne,u.1];exact u.2.1)];exact t 0 _ h A (Mv.refl _ _) a Cn.stay λ_=>rfl
 | ok n=>
  obtain ⟨rfl,rfl,N⟩:=u;have N:n<=bs.length:=by omega
  rw [jO];refine aJ (bg (sh:=aw) g (i.bU (off:=0) (n:=1) rfl) (aJ (bg (sh:=af .i64) (n:Int) (i.bU (off:=1) (n:=1) rfl) ?_)));rw [aV];by_cases B:bs.length<n+k
  ·have s:((g.len:Nat):Int)-(n:Int)<(k:Int):=by omega
   rw [if_pos (decide_eq_true s)];refine aJ (bg (sh:=aw) g (i.bU (off:=0) (n:=1) rfl) (AP (Da i λj m C=> ?_)));rw [if_pos rfl,if_pos rfl] at C;refine t 0 (.error (5,bs.length)) j A m ⟨(m.le a.le λc o=>by rw [List.mem_singleton.1 o];exact a.out).1,a.out,a.src,a.cap,a.small,_,_,_,C,rfl,by decide,by rw [M]⟩ (Cn.err ?_) λ_=>rfl;unfold D.num;rw [if_pos B]
  ·have s:¬((g.len:Nat):Int)-(n:Int)<(k:Int):=by omega
   rw [if_neg (λe=>s (of_decide_eq_true e))];refine aJ (bg (sh:=aw) g (i.bU (off:=0) (n:=1) rfl) (aJ (bg (sh:=af .i64) (n:Int) (i.bU (off:=1) (n:=1) rfl) (aJ (bg (sh:=af .i64) (n:Int) (i.bU (off:=1) (n:=1) rfl) ?_)))));have S:=a.cap;rw [aV];have O:(n:Int)<=(n:Int)+(k:Int):=by omega
   refine ⟨⟨by omega,O,by omega⟩,aE ?_⟩;have F:((n:Int)+(k:Int)).toNat=n+k:=by omega
   have G:((n:Int)).toNat=n:=rfl;rw [F,G];have z:=(Rw.mono a.le a.src).cut (a:=n) (b:=n+k) (c:=g.cap) (n:=n+k-n) (m:=g.cap-n) sQ (by omega) (by omega) (by omega) rfl;have H:n+k-n=k:=by omega
   rw [H] at z ⊢;have J:((bs.drop n).take k).length=k:=by rw [List.length_take,List.length_drop];omega
   have hv:=zt ((bs.drop n).take k);rw [J] at hv;refine LI z (by omega) ?_;refine aJ (bg (sh:=af .i64) (n:Int) (i.bU (off:=1) (n:=1) rfl) (aJ (qQ (b:=f) (off:=1) i (by simp [nV]) λw E l=> ?_)));have I:=(E.le a.le λc o=>by rw [List.mem_singleton.1 o];exact a.out).1;rw [aV] at l;rw [LJ (by omega)];have l:eS w f (nV g ((n:Int)+(k:Int)) 0 P++jD x):=by simpa [nV] using l
   refine t _ (.ok (n+k)) w hv E ⟨I,a.out,a.src,a.cap,a.small,_,_,_,l,by push_cast;rfl,rfl,by omega⟩ (Cn.ok ?_) (by rintro ⟨e,K⟩;cases K);unfold D.num;rw [if_neg B]
theorem PY {n:Nat} (h:n<4294967296):i64 n=(n:Int):=by unfold i64;rw [if_pos (by omega)]
theorem vf {k:Nat} {Q:Int->Hp->Prop} (a:mf d h f g bs r x) (l:1<=k) (o:k<=4)
  (q:∀(n:Nat) c b,n<256^k->Mv [f] h [f] b->mf d b f g bs c x->Cn bs r (zD k) c (n:Int)->((∃e,c=.error e)->n=0)->Q (n:Int) b):ZD prog (some ⟨f,0,none⟩) (k:Int) Q h:=by
 unfold ZD;have t:256^k<=4294967296:=Nat.pow_le_pow_right (by omega:256>0) o;refine Ab (qO a l (by omega) λn c b p m i j s=> ?_);rw [PY (by omega)];exact q n c b p m i j.map s
theorem Ci {k:Nat} {dS:Int} {Q:Int->Hp->Prop} (a:mf d h f g bs r x) (N:1<=k) (O:k<=4)
  (w:∀(n:Nat) l C,n<256^k->Mv [f] h [f] C->mf d C f g bs l x->Cn bs r (D.cQ (zD k) (fK dS)) l (n:Int)->Q (n:Int) C):zox prog (some ⟨f,0,none⟩) (k:Int) dS Q h:=by
 unfold zox;obtain ⟨p,e,X,T,R⟩:=a.fW;have A:0<256^k:=Nat.pow_pos (by omega);refine aJ (bg (sh:=af .i64) p (T.bU (off:=1) (n:=1) rfl) ?_);refine u3 (vf a N O λn l J P H a1 u S=> ?_);obtain ⟨W,s,Y,K,v⟩:=a1.fW;by_cases z:dS<(n:Int)
 ·rw [if_pos (decide_eq_true z)];refine AP (Da K λE U j=> ?_);have m:=H.trans U;have G:=(m.le a.le λc u=>by rw [List.mem_singleton.1 u];exact a.out).1;cases r with
  | error y=>
   have:=u.done;cases l with
   | ok t=>cases this
   | error o=>
    obtain ⟨B,q⟩:=o;obtain ⟨rfl,i,rfl⟩:=v;rw [if_neg i,if_neg i] at j;refine aJ (bg (sh:=af .i64) s (j.bU (off:=2) (n:=1) rfl) ?_);rw [if_pos (by simpa using i)];refine w 0 (.error (s,q)) E A m ⟨G,a.out,a.src,a.cap,a.small,_,_,_,j,rfl,i,rfl⟩ ?_;have L:y=(s,q):=by have:(Except.error y:Except (Int×Nat) (Int×Nat))=.error (s,q):=this;exact Except.error.inj this
    rw [L];exact Cn.stay
  | ok at_=>
   obtain ⟨rfl,rfl,V⟩:=R;have b:=u.done;cases l with
   | ok t=>
    obtain ⟨rfl,rfl,M⟩:=v;have b:zD k bs at_=.ok ((n:Int),t):=b;rw [if_pos rfl,if_pos rfl] at j;refine aJ (bg (sh:=af .i64) (3:Int) (j.bU (off:=2) (n:=1) rfl) ?_);rw [if_pos (by simp)];refine w 0 (.error (3,at_)) E A m ⟨G,a.out,a.src,a.cap,a.small,_,_,_,j,rfl,by decide,rfl⟩ (Cn.err ?_);unfold D.cQ;rw [b];dsimp only;have I:fK dS (n:Int)=3:=by unfold fK;rw [if_pos z]
    rw [if_neg (by rw [I];decide),I]
   | error o=>obtain ⟨B,q⟩:=o;have b:zD k bs at_=.error (B,q):=b;obtain ⟨rfl,i,rfl⟩:=v;rw [if_neg i,if_neg i] at j;refine aJ (bg (sh:=af .i64) s (j.bU (off:=2) (n:=1) rfl) ?_);rw [if_pos (by simpa using i)];refine w 0 (.error (s,q)) E A m ⟨G,a.out,a.src,a.cap,a.small,_,_,_,j,rfl,i,rfl⟩ (Cn.err ?_);unfold D.cQ;rw [b]
 ·rw [if_neg (λe=>z (of_decide_eq_true e))];refine aJ (bg (sh:=af .i64) s (K.bU (off:=2) (n:=1) rfl) ?_);have F:Cn bs r (D.cQ (zD k) (fK dS)) l (n:Int):=by
   cases r with
   | error y=>
    have b:=u.done;cases l with
    | ok t=>cases b
    | error o=>have b:(Except.error y:Except (Int×Nat) (Int×Nat))=.error o:=b;cases b;exact Cn.stay
   | ok at_=>
    have b:=u.done;cases l with
    | ok t=>have b:zD k bs at_=.ok ((n:Int),t):=b;refine Cn.ok ?_;unfold D.cQ;rw [b];dsimp only;rw [if_pos (by unfold fK;rw [if_neg z])]
    | error o=>have b:zD k bs at_=.error o:=b;refine Cn.err ?_;unfold D.cQ;rw [b]
  cases l with
  | ok t=>obtain ⟨rfl,rfl,M⟩:=v;rw [jO];exact w n _ J P H a1 F
  | error o=>obtain ⟨B,q⟩:=o;have i:=v.2.1;rw [<-v.1] at i;rw [if_pos (by simpa using i)];rw [S ⟨_,rfl⟩] at F;exact w 0 _ J A H a1 F
end
theorem wy {a:Type} {len:Int} {n:Nat} (r:len=(n:Int)) (hb:n<=4611686018427387904) (I:Nat->a->Hp->Prop) {B:(Int->a->Hp->Prop)->Int->a->Hp->Prop} {X:Int->a->Hp->Prop} {j:a} {d:Hp} (l:I 0 j d)
  (o:∀i:Nat,i<n->∀x h,I i x h->∀K:Int->a->Hp->Prop,(∀c b,I (i+1) c b->K (yw ((i:Int)+1)) c b)->B K (i:Int) x h) (p:∀x h,I n x h->X (n:Int) x h):
  bL (λk t x h=>if decide (t<len)=true then B k t x h else X t x h) (0:Int) j d:=by
 refine bL.intro (λt x h=>∃i:Nat,t=(i:Int)/\i<=n/\I i x h) (λt _ _=>(len-t).toNat) ⟨0,rfl,by omega,l⟩ ?_;rintro t x h ⟨i,rfl,q,f⟩;by_cases g:i<n
 ·rw [if_pos (iW)];refine o i g x h f _ λc b m=> ?_;rw [aV];exact ⟨⟨i+1,by omega,by omega,m⟩,by omega⟩
 ·rw [if_neg (λe=>g (by have:=of_decide_eq_true e;omega))];have:i=n:=by omega
  subst this;exact p x h f
theorem forA {a:Type} {len:Int} {n:Nat} (r:len=(n:Int)) (hb:n<=4611686018427387904) (I:Nat->a->Hp->Prop) {B:(a->Int->Hp->Prop)->a->Int->Hp->Prop} {X:a->Int->Hp->Prop} {j:a} {d:Hp} (l:I 0 j d)
  (o:∀i:Nat,i<n->∀x h,I i x h->∀K:a->Int->Hp->Prop,(∀c b,I (i+1) c b->K c (yw ((i:Int)+1)) b)->B K x (i:Int) h) (p:∀x h,I n x h->X x (n:Int) h):
  bL (λk x t h=>if decide (t<len)=true then B k x t h else X x t h) j (0:Int) d:=by
 refine bL.intro (λx t h=>∃i:Nat,t=(i:Int)/\i<=n/\I i x h) (λ_ t _=>(len-t).toNat) ⟨0,rfl,by omega,l⟩ ?_;rintro x t h ⟨i,rfl,q,f⟩;by_cases g:i<n
 ·rw [if_pos (iW)];refine o i g x h f _ λc b m=> ?_;rw [aV];exact ⟨⟨i+1,by omega,by omega,m⟩,by omega⟩
 ·rw [if_neg (λe=>g (by have:=of_decide_eq_true e;omega))];have:i=n:=by omega
  subst this;exact p x h f
structure SB (d h0:Hp) (rb:Nat) (bl:Sl) (bs:List UInt8) (x:an) (k:Hp) (r:RS) (B:List Nat):Prop where
 kr:h0 rb≠none
 bO:∀b o,h0 b=some o->b≠rb->k b=some o
 rd:mf d k rb bl bs r x
 nd:B.Nodup
 fresh:∀b∈B,h0 b=none
section
variable {d h0 k:Hp} {c:Nat} {f:Sl} {bs:List UInt8} {r:RS} {x:an} {B:List Nat}
theorem SB.init (a:mf d k c f bs r x):SB d k c f bs x k r []:=⟨a.known,λ_ _ e _=>e,a,List.nodup_nil,λb hb=>by cases hb⟩
theorem SB.nr (s:SB d h0 c f bs x k r B):c∉B:=λh=>s.kr (s.fresh c h)
theorem SB.sk (s:SB d h0 c f bs x k r B) {b:Nat} (e:k b=none):h0 b=none:=by
 cases h:h0 b with
 | none=>rfl
 | some o=>have a:b≠c:=λh=>s.rd.known (h▸e);rw [s.bO b o h a] at e;cases e
theorem SB.andThen (s:SB d h0 c f bs x k r B) (m:∀b∈B,k b≠none) {h:Hp} {i:RS} {j:an} {B':List Nat} (t:SB d k c f bs j h i B'):SB d h0 c f bs j h i (B++B') where
 kr:=s.kr
 bO:=λb o e g=>t.bO b o (s.bO b o e g) g
 rd:=t.rd
 nd:=by rw [List.nodup_append];exact ⟨s.nd,t.nd,λa l b hb e=>m a l (by rw [e];exact t.fresh b hb)⟩
 fresh:=λb hb=>by
  rcases List.mem_append.1 hb with hb | hb
  ·exact s.fresh b hb
  ·exact s.sk (t.fresh b hb)
theorem SB.kept (s:SB d h0 c f bs x k r B) (g:∀b∈B,k b≠none) {a:Hp} {i:RS} {j:an} {B':List Nat} (t:SB d k c f bs j a i B'):∀b∈B,a b=k b:=λb hb=>by
 cases e:k b with
 | none=>exact absurd e (g b hb)
 | some o=>exact t.bO b o e λh=>s.nr (h▸hb)
theorem SB.step {i:RS} {g:Hp} (l:k c≠none) (m:Mv [c] k [c] g) (a:mf d g c f bs i x):SB d k c f bs x g i []:=
 ⟨l,λb o e j=>m.bO b o e λh=>j (List.mem_singleton.1 h),a,List.nodup_nil,λb hb=>by cases hb⟩
theorem SB.grow (s:SB d h0 c f bs x k r B) {g:Hp} (a:k<=g):SB d h0 c f bs x g r B:=
 ⟨s.kr,λb o e h1=>a b o (s.bO b o e h1),s.rd.grow a,s.nd,s.fresh⟩
theorem xp {k a:Hp} (h:k<=a) {B:List Nat} (g:∀b∈B,k b≠none):∀b∈B,a b=k b:=λb hb=>by
 cases e:k b with
 | none=>exact absurd e (g b hb)
 | some o=>exact h b o e
theorem SB.fin (s:SB d h0 c f bs x k r B) {k3:Hp} {B3:List Nat} (a:∀b o,k b=some o->b∉B->k3 b=some o) (l:B3.Nodup) (g:∀b∈B3,b∈B\/k b=none) (m:∀b∈B,d b=none):SB d h0 c f bs x k3 r B3 where
 kr:=s.kr
 bO:=λb o e h=>a b o (s.bO b o e h) λhb=>by rw [s.fresh b hb] at e;cases e
 rd:=by obtain ⟨p,q,t,⟨ty,j⟩,i⟩:=s.rd.fW;exact ⟨λb o e=>a b o (s.rd.le b o e) λhb=>(by grind),s.rd.out,s.rd.src,s.rd.cap,s.rd.small,p,q,t,⟨ty,a c _ j s.nr⟩,i⟩
 nd:=l
 fresh:=λb hb=>by
  rcases g b hb with hb | hb
  ·exact s.fresh b hb
  ·exact s.sk hb
end
section
variable {d h:Hp} {c:Nat} {g:Sl} {bs:List UInt8} {r:RS} {x:an}
theorem rA :iD=D.map i64 (D.num 8):=rfl
theorem Zn {Q:bF->Hp->Prop} (a:mf d h c g bs r x)
  (hq:∀(v:bF) (p:aX) J B' Y,SB d h c g bs x Y J B'->pz v p Y B'->Cn bs r (oa x.fD (x.aD.len:Int)) J p->Q v Y):zoy prog (some ⟨c,0,none⟩) Q h:=by
 unfold zoy;have hd:∀ {B:List Nat},(∀b∈B,h b=none)->∀b∈B,d b=none:=λhB b hb=>qj a.le (hB b hb);refine aJ (aJ (bg (sh:=af .i64) x.fD (a.cfg (j:=3) (n:=1) rfl) ?_));refine QY (Ci (k:=1) a (by omega) (by omega) λn J h1 hn m1 a1 c3=> ?_);have s1:SB d h c g bs x h1 J []:=SB.step a.known m1 a1;refine wy (n:=n) rfl (by omega) (λi (y:bF) k=>∃(E:List Int) (C:RS) (B:List Nat),E.length=i/\y.bJ=⟨none,0,0⟩/\SB d h c g bs x k C B/\we y.cF E k B/\
  ∀(F:Type) (f:List Int->D F),cM J (D.bind (D.many (λ_=>iD) n []) f) bs=cM C (D.bind (D.many (λ_=>iD) (n-i) E) f) bs) ⟨[],J,[],rfl,rfl,s1,bh.nil,λ_ _=>rfl⟩ ?_ ?_
 ·rintro i hi y k ⟨E,C,B,b8,hy,s,o,L⟩ K Z;have q:=ft.known o;refine aJ (Ab (qO (k:=8) s.rd (by omega) (by omega) λw r2 k2 hw m2 a2 a8 _=> ?_));have t2:SB d k c g bs x k2 r2 []:=SB.step s.rd.known m2 a2;have s2:=s.andThen q t2;rw [List.append_nil] at s2;have A:=ft.same o (s.kept q t2);refine ⟨⟨trivial,trivial⟩,?_⟩;refine lT (xs:=[i64 w]) (enc:=λx=>bA ((af .i64).enc x)) (sz:=1) rfl (λ_=>rfl) λb3 k3 _ b4 _ o3=>⟨⟨trivial,trivial⟩,?_⟩;have s3:=s2.grow b4;have oo:=ft.same A (xp b4 (ft.known A));refine C8 (dN.ok _) oo (v:=i64 w) (p:=i64 w) (B':=[]) ⟨rfl,rfl⟩ (by simpa using s3.nd) (o3.rw λ_=>rfl) (λ_=>rfl) (λ_=>rfl) rfl (by omega) λl' I B4 o4 c6 c5 c1=> ?_;refine Z _ I ⟨E++ [i64 w],r2,B4,by simp [b8],hy,s3.fin c5 c6 (λb hb=>by simpa using c1 b hb) (hd s3.fresh),o4,λF f=> ?_⟩;have H:n-i=(n-(i+1))+1:=by omega
  rw [L,H,wV,jh,rA,a8.map]
 ·rintro y k ⟨E,C,B,b8,hy,s,o,L⟩;have q:=ft.known o;refine aJ (aJ (bg (sh:=aw) x.aD (s.rd.cfg (j:=6) (n:=1) rfl) ?_));refine QY (Ci (k:=1) s.rd (by omega) (by omega) λO r2 k2 c9 m2 a2 a8=> ?_);have t2:SB d k c g bs x k2 r2 []:=SB.step s.rd.known m2 a2;have s2:=s.andThen q t2;rw [List.append_nil] at s2;have A:=ft.same o (s.kept q t2);have W:gA (bh aC 2 (dN λx p=>vT x=p)):=bh.ok (dN.ok _);refine wy (n:=O) rfl (by omega) (λi (z:bF) k=>∃(G:List cd) (C:RS) (l t:List Nat),G.length=i/\SB d h c g bs x k C (l++t)/\we z.cF E k l/\bh aC 2 (dN λx p=>vT x=p) z.bJ G k t/\
   ∀(F:Type) (f:List cd->D F),cM r2 (D.bind (D.many (λ_=>tY) O []) f) bs=cM C (D.bind (D.many (λ_=>tY) (O-i) G) f) bs) ⟨[],r2,B,[],rfl,by simpa using s2,A,by rw [hy];exact bh.nil,λ_ _=>rfl⟩ ?_ ?_
  ·rintro i hi z k ⟨G,C,l,t,b9,s,R,A,L⟩ K Z;have q:∀b∈l++t,k b≠none:=λb hb=>by
    rcases List.mem_append.1 hb with hb | hb
    ·exact ft.known R b hb
    ·exact W.known A b hb
   refine aJ (aJ (u3 (vf (k:=1) s.rd (by omega) (by omega) λu r3 k3 hu m3 a3 a9 _=>⟨⟨trivial,trivial⟩,?_⟩)));refine Ab (qO (k:=8) a3 (by omega) (by omega) λw T I hw m4 a4 b0 _=>⟨⟨trivial,trivial⟩,?_⟩);have V:SB d k c g bs x I T []:=SB.step s.rd.known (m3.trans m4) a4;have U:=s.andThen q V;rw [List.append_nil] at U;have N:=s.kept q V;refine lT (xs:=[(⟨(u:Int),i64 w⟩:bN)]) (enc:=λx=>bA (aC.enc x)) (sz:=2) rfl (λ_=>rfl) λb5 k5 _ b6 _ o5=>⟨⟨trivial,trivial⟩,?_⟩;have X:=U.grow b6;have b7:∀b∈l++t,k5 b=k b:=λb hb=>by rw [<-N b hb];exact xp b6 (λb hb=>by rw [N b hb];exact q b hb) b hb
   have b1:=ft.same R λb hb=>b7 b (cg hb);have c8:=W.same A λb hb=>b7 b (cc hb);have nd:=List.nodup_append.1 X.nd;refine C8 (dN.ok _) c8 (v:=⟨(u:Int),i64 w⟩) (p:=⟨(u:Int),i64 w⟩) (B':=[]) ⟨rfl,rfl⟩ (by simpa using nd.2.1) (o5.rw λ_=>rfl) (λ_=>rfl) (λ_=>rfl) rfl (by omega) λl' k6 B6 o6 c7 c0 b2=> ?_;have c2:∀b∈l,k6 b=k5 b:=λb hb=>by
    cases e:k5 b with
    | none=>exact absurd e (ft.known b1 b hb)
    | some o=>exact c0 b o e λh=>nd.2.2 b hb b h rfl
   refine Z _ k6 ⟨G++ [⟨(u:Int),i64 w⟩],T,l,B6,by simp [b9],X.fin (λb o e hn=>c0 b o e λh=>hn (cc h)) ?_ (λb hb=> ?_) (hd X.fresh),ft.same b1 c2,o6,λF f=> ?_⟩
   ·have:=Ih (P:=l) (M:=t) (S:=[]) (by simpa using X.nd) c7 b2 (by simpa using ft.known b1) (λb hb=>by cases hb);simpa using this
   ·rcases List.mem_append.1 hb with hb | hb
    ·exact .inl (cg hb)
    ·rcases b2 b hb with hb | hb
     ·exact .inl (cc (by simpa using hb))
     ·exact .inr hb
   ·have H:O-i=(O-(i+1))+1:=by omega
    rw [L,H,wV,jh];unfold tY;rw [jh,a9,jh,rA,b0.map];rfl
  ·rintro z k ⟨G,C,l,t,b9,s,R,A,c4⟩;have q:∀b∈l++t,k b≠none:=λb hb=>by
    rcases List.mem_append.1 hb with hb | hb
    ·exact ft.known R b hb
    ·exact W.known A b hb
   refine aJ (aJ (u3 (vf (k:=2) s.rd (by omega) (by omega) λu r3 k3 hu m3 a3 a9 _=> ?_)));refine u3 (vf (k:=2) a3 (by omega) (by omega) λw T I hw m4 a4 b0 _=> ?_);have V:SB d k c g bs x I T []:=SB.step s.rd.known (m3.trans m4) a4;have U:=s.andThen q V;rw [List.append_nil] at U;have N:=s.kept q V;refine hq _ ⟨E,G,(u:Int),(w:Int)⟩ T (l++t) I U ⟨l,t,rfl,ft.same R λb hb=>N b (cg hb),W.same A λb hb=>N b (cc hb),rfl,rfl⟩ λF f=> ?_;unfold oa;rw [jh,c3,jh];have H:=L F λvalues=>D.bind (D.bind (D.cQ (zD 1) (fK (x.aD.len:Int))) λm=>D.bind (D.many (λ_=>tY) m.toNat []) λwaiters=>D.bind (zD 2) λtaken=>D.bind (zD 2) λdropped=>D.ret (⟨values,waiters,taken,dropped⟩:aX)) f;rw [Nat.sub_self] at H;refine H.trans ?_;show cM _ (D.bind (D.bind (D.cQ (zD 1) (fK (x.aD.len:Int))) _) f) bs=_;rw [jh,a8,jh];have e2:=c4 F λwaiters=>D.bind (D.bind (zD 2) λtaken=>D.bind (zD 2) λdropped=>D.ret (⟨E,waiters,taken,dropped⟩:aX)) f;rw [Nat.sub_self] at e2;refine e2.trans ?_;show cM _ (D.bind (D.bind (zD 2) _) f) bs=_;rw [jh,a9,jh,b0];rfl
end
section
variable {d h0 k:Hp} {c:Nat} {f:Sl} {bs:List UInt8} {r:RS} {x:an}
theorem vd {n:Type} {sh:Shape} {sz:Nat} {R:sh.T->n->Hp->List Nat->Prop} {l:Sl} {m:List n} {P M S B':List Nat} (ok:gA R) (E:d<=h0) (s:SB d h0 c f bs x k r ((P++(M++S))++B')) (o:bh sh sz R l m k M) {v:sh.T} {p:n} (e:R v p k B')
  (z:∀b∈P++S,k b≠none) {y:Sl} (L:Rs k sh sz y [v]) (F:∀x,(bA (sh.enc x)).length=sz) (I:∀x,jL (bA (sh.enc x))=true) {zero:List Value} {bytes:Nat} (N:zero.length=sz)
  (hb:m.length+1<=140737488355328/\(m.length+1)*bytes<=140737488355328) {K:Sl->Hp->Prop}
  (G:∀j g i,SB d h0 c f bs x g r (P++(i++S))->bh sh sz R j (m++ [p]) g i->(∀b∈P++S,g b=k b)->K j g):eC sz bytes zero l y K k:=by
 have nd:=List.nodup_append.1 s.nd;have B:=List.nodup_append.1 nd.1;have A:=List.nodup_append.1 B.2.1;have C:∀b∈P++S,b∉M:=λb hb u=>by
  rcases List.mem_append.1 hb with hb | hb
  ·exact B.2.2 b hb b (cg u) rfl
  ·exact A.2.2 b u b hb rfl
 have t:∀b∈B',b∉P++(M++S):=λb hb h=>nd.2.2 b h b hb rfl;refine C8 ok o e (by
  rw [List.nodup_append];exact ⟨A.1,nd.2.1,λa D b hb e=>t b hb (e▸cc (cg D))⟩) L F I N hb λj g i Q O w q=> ?_
 have J:∀b∈P++S,g b=k b:=λb hb=>by
  cases e:k b with
  | none=>exact absurd e (z b hb)
  | some o=>exact w b o e (C b hb)
 refine G j g i (s.fin (λb o e H=>w b o e λh=>H (cg (cc (cg h)))) (Ih nd.1 O q z λb hb h=>t b hb ?_) (λb hb=> ?_) (λb hb=>qj E (s.fresh b hb))) Q J
 ·rcases List.mem_append.1 h with h | h
  ·exact cg h
  ·exact cc (cc h)
 ·rcases List.mem_append.1 hb with hb | hb
  ·exact .inl (cg (cg hb))
  ·rcases List.mem_append.1 hb with hb | hb
   ·rcases q b hb with hb | hb
    ·rcases List.mem_append.1 hb with hb | hb
     ·exact .inl (cg (cc (cg hb)))
     ·exact .inl (cc hb)
    ·exact .inr hb
   ·exact .inl (cg (cc (cc hb)))
end
abbrev Dd (l:Sl) (a:List qS) (h:Hp) (B:List Nat):Prop:=bh cW 3 (dN λx p=>Ap x=p) l a h B
abbrev QsO (l:Sl) (a:List (List Int)) (h:Hp) (B:List Nat):Prop:=bh aw 1 we l a h B
theorem jX :gA Dd:=bh.ok (dN.ok _)
theorem wD :gA QsO:=bh.ok ft
section
variable {d h:Hp} {c:Nat} {e:Sl} {bs:List UInt8} {r:RS} {x:an}
theorem SB.next {i k:Hp} {B:List Nat} (s:SB d i c e bs x k r B) (j:∀b∈B,k b≠none) {f:Hp} {g:RS} (m:Mv [c] k [c] f) (a:mf d f c e bs g x):SB d i c e bs x f g B/\∀b∈B,f b=k b:=by have t:SB d k c e bs x f g []:=SB.step s.rd.known m a;have s2:=s.andThen j t;rw [List.append_nil] at s2;exact ⟨s2,s.kept j t⟩
theorem Zq {Q:bM->Hp->Prop} (a:mf d h c e bs r x) (i9:0<=x.bE/\x.bE<=1000)
  (hq:∀(v:bM) (p:cJ) r1 B' h',SB d h c e bs x h' r1 B'->q7 v p h' B'->Cn bs r (pU x.Log x.bE (x.aD.len:Int)) r1 p->Q v h'):Z8 prog (some ⟨c,0,none⟩) Q h:=by
 unfold Z8;refine aJ (u3 (vf (k:=1) a (by omega) (by omega) λcur r1 h1 i6 m1 a1 f5 _=> ?_));refine aJ (aJ (bg (sh:=af .i64) x.Log (a1.cfg (j:=5) (n:=1) rfl) ?_));refine QY (Ci (k:=2) a1 (by omega) (by omega) λn r2 h2 hn m2 a2 f7=> ?_);have s2:SB d h c e bs x h2 r2 []:=SB.step a.known (m1.trans m2) a2;refine wy (n:=n) rfl (by omega) (λi (y:bM) k=>∃(G:List qS) (F:RS) (B:List Nat),G.length=i/\(y.Cursor=(cur:Int)/\y.cE=⟨none,0,0⟩/\y.bQ=⟨none,0,0⟩)/\SB d h c e bs x k F B/\Dd y.Log G k B/\
  ∀(t:Type) (f:List qS->D t),cM r2 (D.bind (D.many (λ_=>vj) n []) f) bs=cM F (D.bind (D.many (λ_=>vj) (n-i) G) f) bs) ⟨[],r2,[],rfl,⟨rfl,rfl,rfl⟩,s2,bh.nil,λ_ _=>rfl⟩ ?_ ?_
 ·rintro i hi y k ⟨G,F,B,d0,hy,s,o,Y⟩ K hK;have V:=jX.known o;refine aJ (aJ (aJ (Ab (qO (k:=8) s.rd (by omega) (by omega) λw1 r3 k3 j2 m3 a3 b7 _=>⟨⟨trivial,trivial⟩,?_⟩))));refine u3 (vf (k:=1) a3 (by omega) (by omega) λw2 r4 k4 k0 m4 a4 b8 _=>⟨⟨trivial,trivial⟩,?_⟩);refine Ab (qO (k:=8) a4 (by omega) (by omega) λw3 r5 k5 k1 m5 a5 b9 _=>⟨⟨trivial,trivial⟩,?_⟩);obtain ⟨s5,b2⟩:=s.next V (m3.trans (m4.trans m5)) a5;have o5:=jX.same o b2;refine lT (xs:=[(⟨i64 w1,(w2:Int),i64 w3⟩:eV)]) (enc:=λx=>bA (cW.enc x)) (sz:=3) rfl (λ_=>rfl) λb6 k6 _ a9 _ o6=>⟨⟨trivial,trivial⟩,?_⟩;have s6:=s5.grow a9;have oo:=jX.same o5 (xp a9 (jX.known o5));refine vd (P:=[]) (S:=[]) (B':=[]) (dN.ok _) a.le (by simpa using s6) oo (v:=⟨i64 w1,(w2:Int),i64 w3⟩) (p:=⟨i64 w1,(w2:Int),i64 w3⟩) ⟨rfl,rfl⟩ (by simp) (o6.rw λ_=>rfl) (λ_=>rfl) (λ_=>rfl) rfl (by omega) λl' k7 B7 s7 o7 _=> ?_;refine hK _ k7 ⟨G++ [⟨i64 w1,(w2:Int),i64 w3⟩],r5,B7,by simp [d0],hy,by simpa using s7,o7,λt f=> ?_⟩;have L:n-i=(n-(i+1))+1:=by omega
  rw [Y,L,wV,jh];unfold vj;rw [jh,rA,b7.map,jh,b8,jh,b9.map];rfl
 ·rintro y k ⟨G,F,B,d0,⟨g3,g4,g5⟩,s,o,Y⟩;have V:=jX.known o;refine aJ (aJ (u3 (vf (k:=2) s.rd (by omega) (by omega) λlost r3 k3 j0 m3 a3 b7 _=> ?_)));refine u3 (vf (k:=2) a3 (by omega) (by omega) λkm r4 k4 i7 m4 a4 b8 _=> ?_);obtain ⟨s4,g1⟩:=s.next V (m3.trans m4) a4;have o4:=jX.same o g1;refine aJ (bg (sh:=af .i64) x.bE (s4.rd.cfg (j:=4) (n:=1) rfl) ?_);have e6:SB d h c e bs x k4 r4 (B++([]++ [])):=by simpa using s4
  have g0:∀(N:Nat),(0<=x.bE->x.bE=(N:Int))->(x.bE<0->N=0)->N<=1000->
    bL (α1:=Int) (α2:=bM) (λd9 d6 A h6=>
     (if (decide (d6<(N:Int)))=true then
     ah none (some ⟨c,0,none⟩) λp6=>
     ae prog sM [(.pointer (some (Addr.add p6 0))),(.int .i64 (1:Int))] (af .i64) (λr5 h7=>
     ((True/\True)/\bc [(.int .i64 (yw (r5-(1:Int))))] (λa h8=>
     ((True/\True)/\eC 1 8 [(.int .i64 (0:Int))] ⟨A.cE.base,A.cE.len,A.cE.cap⟩ ⟨(some a),1,1⟩ (λr6 h9=>
     ah none (some ⟨c,0,none⟩) λp7=>
     ah none (some ⟨c,0,none⟩) λp8=>
     aN none aw h9 (Addr.add (Addr.add p8 4) 6) λx4=>
     ae prog Hs [(.pointer (some (Addr.add p7 0))),(.int .i64 (1:Int)),(.int .i64 ((x4.len:Nat):Int))] (af .i64) (λr7 e4=>
     bL (α1:=Sl) (α2:=Int) (λe0 q d7 c9=>
     (if (decide (d7<r7))=true then
     ah none (some ⟨c,0,none⟩) λp9=>
     ae prog sM [(.pointer (some (Addr.add p9 0))),(.int .i64 (1:Int))] (af .i64) (λW b4=>
     bc [(.int .i64 W)] (λa1 b5=>
     eC 1 8 [(.int .i64 (0:Int))] ⟨q.base,q.len,q.cap⟩ ⟨(some a1),1,1⟩ (λU e5=>
     e0 U (yw (d7+(1:Int))) e5) b5) b4) c9
     else
     bc [q.v] (λa1 b4=>
     eC 1 24 [(.slice none 0 0)] ⟨A.bQ.base,A.bQ.len,A.bQ.cap⟩ ⟨(some a1),1,1⟩ (λW b5=>
     d9 (yw (d6+(1:Int))) ⟨A.Cursor,A.Log,A.lu,A.dp,r6,W⟩ b5) b4) c9)) ⟨none,0,0⟩ (0:Int) e4) h9) h8)) h7)) h6
     else
     Q A h6)) (0:Int) ⟨y.Cursor,y.Log,(lost:Int),(km:Int),y.cE,y.bQ⟩ k4:=by
   intro N e8 e9 i5;have f0:x.bE.toNat=N:=by
    by_cases h0:0<=x.bE
    ·have:=e8 h0;omega
    ·have:=e9 (by omega);omega
   refine wy (n:=N) rfl (by omega) (λi (z:bM) k=>∃(I:List (Int×List Int)) (F:RS) (g J m:List Nat),I.length=i/\(z.Cursor=(cur:Int)/\z.lu=(lost:Int)/\z.dp=(km:Int))/\SB d h c e bs x k F (g++(J++m))/\
     Dd z.Log G k g/\we z.cE (I.map Prod.fst) k J/\QsO z.bQ (I.map Prod.snd) k m/\
     ∀(t:Type) (f:List (Int×List Int)->D t),cM r4 (D.bind (D.many (λ_=>od (x.aD.len:Int)) N []) f) bs=cM F (D.bind (D.many (λ_=>od (x.aD.len:Int)) (N-i) I) f) bs)
    ⟨[],r4,B,[],[],rfl,⟨g3,rfl,rfl⟩,e6,o4,by rw [g4];exact bh.nil,by rw [g5];exact bh.nil,λ_ _=>rfl⟩ ?_ ?_
   ·rintro i hi z k ⟨I,F,g,J,m,d4,hz,s,o1,o2,o3,Y⟩ K hK;have V:∀b∈g++(J++m),k b≠none:=λb hb=>by
     rcases List.mem_append.1 hb with hb | hb
     ·exact jX.known o1 b hb
     ·rcases List.mem_append.1 hb with hb | hb
      ·exact ft.known o2 b hb
      ·exact wD.known o3 b hb
    refine aJ (u3 (vf (k:=1) s.rd (by omega) (by omega) λu r5 k5 hu m5 a5 b9 _=>⟨⟨trivial,trivial⟩,?_⟩));obtain ⟨s5,b2⟩:=s.next V m5 a5;rw [aV];refine lT (xs:=[(u:Int)-1]) (enc:=λx=>bA ((af .i64).enc x)) (sz:=1) rfl (λ_=>rfl) λb6 k6 _ a9 _ o6=>⟨⟨trivial,trivial⟩,?_⟩;have s6:=s5.grow a9;have c1:∀b∈g++(J++m),k6 b=k b:=λb hb=>by rw [<-b2 b hb];exact xp a9 (λb hb=>by rw [b2 b hb];exact V b hb) b hb
    have p1:=jX.same o1 λb hb=>c1 b (cg hb);have p2:=ft.same o2 λb hb=>c1 b (cc (cg hb));have p3:=wD.same o3 λb hb=>c1 b (cc (cc hb));have g9:∀b∈g++m,k6 b≠none:=λb hb=>by
     rcases List.mem_append.1 hb with hb | hb
     ·exact jX.known p1 b hb
     ·exact wD.known p3 b hb
    refine vd (P:=g) (M:=J) (S:=m) (B':=[]) (dN.ok _) a.le (by simpa using s6) p2 (v:=(u:Int)-1) (p:=(u:Int)-1) ⟨rfl,rfl⟩ g9 (o6.rw λ_=>rfl) (λ_=>rfl) (λ_=>rfl) rfl (by simp;omega) λl7 k7 E s7 o7 d2=> ?_;have q1:=jX.same p1 λb hb=>d2 b (cg hb);have q3:=wD.same p3 λb hb=>d2 b (cc hb);refine aJ (aJ (bg (sh:=aw) x.aD (s7.rd.cfg (j:=6) (n:=1) rfl) ?_));have c4:∀b∈g++(E++m),k7 b≠none:=λb hb=>by
     rcases List.mem_append.1 hb with hb | hb
     ·exact jX.known q1 b hb
     ·rcases List.mem_append.1 hb with hb | hb
      ·exact ft.known o7 b hb
      ·exact wD.known q3 b hb
    refine QY (Ci (k:=1) s7.rd (by omega) (by omega) λnq W k8 j1 m8 a8 f8=> ?_);obtain ⟨s8,g2⟩:=s7.next c4 m8 a8;refine forA (n:=nq) rfl (by omega) (λj (q:Sl) H=>∃(R:List Int) (U:RS) (C:List Nat),R.length=j/\SB d h c e bs x H U ((g++(E++m))++C)/\(∀b∈g++(E++m),H b=k7 b)/\we q R H C/\
      ∀(t:Type) (f:List Int->D t),cM W (D.bind (D.many (λ_=>zD 1) nq []) f) bs=cM U (D.bind (D.many (λ_=>zD 1) (nq-j) R) f) bs) ⟨[],W,[],rfl,by simpa using s8,g2,bh.nil,λ_ _=>rfl⟩ ?_ ?_
    ·rintro j hj q H ⟨R,U,C,d3,s9,T,o9,c0⟩ K9 e7;have b0:∀b∈(g++(E++m))++C,H b≠none:=λb hb=>by
      rcases List.mem_append.1 hb with hb | hb
      ·rw [T b hb];exact c4 b hb
      ·exact ft.known o9 b hb
     refine aJ (u3 (vf (k:=1) s9.rd (by omega) (by omega) λw h5 k2 hw h3 d8 f6 _=> ?_));obtain ⟨i3,d1⟩:=s9.next b0 h3 d8;refine lT (xs:=[(w:Int)]) (enc:=λx=>bA ((af .i64).enc x)) (sz:=1) rfl (λ_=>rfl) λe3 c2 _ Z _ c5=> ?_;have c7:=i3.grow Z;have O:∀b∈(g++(E++m))++C,c2 b=H b:=λb hb=>by rw [<-d1 b hb];exact xp Z (λb hb=>by rw [d1 b hb];exact b0 b hb) b hb
     have h4:=ft.same o9 λb hb=>O b (cc hb);refine vd (P:=g++(E++m)) (M:=C) (S:=[]) (B':=[]) (dN.ok _) a.le (by simpa using c7) h4 (v:=(w:Int)) (p:=(w:Int)) ⟨rfl,rfl⟩ (λb hb=>by
      rw [List.append_nil] at hb;rw [O b (cg hb)];exact b0 b (cg hb)) (c5.rw λ_=>rfl) (λ_=>rfl) (λ_=>rfl) rfl (by omega) λd5 c3 b3 c8 c6 b1=> ?_
     refine e7 d5 c3 ⟨R++ [(w:Int)],h5,b3,by simp [d3],by simpa using c8,λb hb=> ?_,c6,λt f=> ?_⟩
     ·rw [b1 b (by rw [List.append_nil];exact hb),O b (cg hb),T b hb]
     ·have L:nq-j=(nq-(j+1))+1:=by omega
      rw [c0,L,wV,jh,f6]
    ·rintro q H ⟨R,U,C,d3,s9,T,o9,c0⟩;have b0:∀b∈(g++(E++m))++C,H b≠none:=λb hb=>by
      rcases List.mem_append.1 hb with hb | hb
      ·rw [T b hb];exact c4 b hb
      ·exact ft.known o9 b hb
     refine lT (xs:=[q]) (enc:=λx=>bA (aw.enc x)) (sz:=1) rfl (λ_=>rfl) λe3 c2 _ Z _ c5=> ?_;have c7:=s9.grow Z;have O:∀b∈(g++(E++m))++C,c2 b=H b:=xp Z b0;have f1:=jX.same q1 λb hb=>(O b (cg (cg hb))).trans (T b (cg hb));have f2:=ft.same o7 λb hb=>(O b (cg (cc (cg hb)))).trans (T b (cc (cg hb)));have f3:=wD.same q3 λb hb=>(O b (cg (cc (cc hb)))).trans (T b (cc (cc hb)));have f4:=ft.same o9 λb hb=>O b (cc hb);refine vd (P:=g++E) (M:=m) (S:=[]) (B':=C) ft a.le (by simpa [List.append_assoc] using c7) f3 (v:=q) (p:=R) f4 (λb hb=>by
      rw [List.append_nil] at hb;rcases List.mem_append.1 hb with hb | hb
      ·exact jX.known f1 b hb
      ·exact ft.known f2 b hb) (c5.rw λ_=>rfl) (λ_=>rfl) (λ_=>rfl) rfl (by simp;omega) λd5 c3 b3 c8 c6 b1=> ?_
     refine hK _ c3 ⟨I++ [((u:Int)-1,R)],U,g,E,b3,by simp [d4],hz,by simpa [List.append_assoc] using c8,jX.same f1 λb hb=>b1 b (by rw [List.append_nil];exact cg hb),?_,?_,λt f=> ?_⟩
     ·rw [List.map_append];exact ft.same f2 λb hb=>b1 b (by rw [List.append_nil];exact cc hb)
     ·rw [List.map_append];exact c6
     ·have L:N-i=(N-(i+1))+1:=by omega
      rw [Y,L,wV,jh];unfold od;rw [jh,b9.map,jh,f8,jh];have X:=c0 t λq=>D.bind (D.ret ((less (u:Int),q):Int×List Int)) λi4=>D.bind (D.many (λ_=>od (x.aD.len:Int)) (N-(i+1)) (I++ [i4])) f;rw [Nat.sub_self] at X;exact X
   ·rintro z k ⟨I,F,g,J,m,d4,⟨g6,g7,g8⟩,s,o1,o2,o3,f9⟩;refine hq z (ui (cur:Int) G (lost:Int) (km:Int) I) F _ k s ⟨g,J,m,rfl,o1,o2,o3,g6,g7,g8⟩ λt f=> ?_;unfold pU;rw [jh,f5,jh,f7,jh];have L:=Y t λlog=>D.bind (D.bind (zD 2) λlost=>D.bind (zD 2) λforbidden=>D.bind (D.many (λ_=>od (x.aD.len:Int)) x.bE.toNat []) λl=>D.ret (ui (cur:Int) log lost forbidden l)) f;rw [Nat.sub_self] at L;refine L.trans ?_;show cM _ (D.bind (D.bind (zD 2) _) f) bs=_;rw [jh,b7,jh,b8,jh,f0];have X:=f9 t λl=>D.bind (D.ret (ui (cur:Int) G (lost:Int) (km:Int) l)) f;rw [Nat.sub_self] at X;exact X
  have:=g0 x.bE.toNat (λ_=>by omega) (λh=>by omega) (by omega);rw [show ((x.bE.toNat:Nat):Int)=x.bE by omega] at this;exact this
end
end Lf
