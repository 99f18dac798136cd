/-
  Part 7 of the texts that the claim leans on.
-/
import Derived.ChangeKeysEq
import Derived.ProofKit
import Derived.SizedLaws
import Derived.OpenShut
import Derived.Laws.IdiomStrings
import Derived.Test.YtakfmlcemmgllaaGreatMgSgGoesOn5
set_option maxRecDepth 100000
namespace Lf
open Go Go.Proofs Tryz
section
variable {d h h1:Hp} {b:Nat} {f:Sl} {bs:List UInt8} {r r1:RS} {x:an}
theorem PZ {P:Program} {o:Type} {g:D o} {W:o->Int} {n:o} {e p:Int} (a1:mf d h1 b f bs r1 x) (s:Cn bs r g r1 n) (hp:∀a,r=.ok a->p=(a:Int)) (E:W n=e) (C:e≠0) {Q:Hp->Prop}
  (u:∀r2 j,Mv [b] h1 [b] j->mf d j b f bs r2 x->Cn bs r (D.cQ g W) r2 n->Q j):Rb P (some ⟨b,0,none⟩) e p Q h1:=by
 subst E;obtain ⟨H,A,I,F,v⟩:=a1.fW;refine Da F λj m l=> ?_;have t:=(m.le a1.le λc s=>by rw [List.mem_singleton.1 s];exact a1.out).1;have i:=s.done;cases r with
 | error y=>
  cases r1 with
  | ok z=>cases i
  | error w=>have i:(Except.error y:Except (Int×Nat) (o×Nat))=.error w:=i;cases i;obtain ⟨B,q⟩:=y;obtain ⟨rfl,k,rfl⟩:=v;rw [if_neg k,if_neg k] at l;exact u (.error (A,q)) j m ⟨t,a1.out,a1.src,a1.cap,a1.small,_,_,_,l,rfl,k,rfl⟩ Cn.stay
 | ok at_=>
  have hp:=hp at_ rfl;subst hp;cases r1 with
  | ok z=>obtain ⟨rfl,rfl,G⟩:=v;have i:g bs at_=.ok (n,z):=i;rw [if_pos rfl,if_pos rfl] at l;refine u (.error (W n,at_)) j m ⟨t,a1.out,a1.src,a1.cap,a1.small,_,_,_,l,rfl,C,rfl⟩ (Cn.err ?_);unfold D.cQ;rw [i];dsimp only;rw [if_neg C]
  | error w=>obtain ⟨B,q⟩:=w;have i:g bs at_=.error (B,q):=i;obtain ⟨rfl,k,rfl⟩:=v;rw [if_neg k,if_neg k] at l;refine u (.error (A,q)) j m ⟨t,a1.out,a1.src,a1.cap,a1.small,_,_,_,l,rfl,k,rfl⟩ (Cn.err ?_);unfold D.cQ;rw [i]
theorem P0 {c:Type} {g:D c} {W:c->Int} {n:c} (k:Cn bs r g r1 n) (j:W n=0):Cn bs r (D.cQ g W) r1 n:=by
 have a:=k.done;cases r with
 | error y=>
  cases r1 with
  | ok i=>cases a
  | error e=>have a:(Except.error y:Except (Int×Nat) (c×Nat))=.error e:=a;cases a;exact Cn.stay
 | ok at_=>
  cases r1 with
  | ok i=>have a:g bs at_=.ok (n,i):=a;refine Cn.ok ?_;unfold D.cQ;rw [a];dsimp only;rw [if_pos j]
  | error e=>have a:g bs at_=.error e:=a;refine Cn.err ?_;unfold D.cQ;rw [a]
end
def mM (v:aK):List Value:=bA (aI.enc v)
def AT (v:aK):List Int:=[v.cl,v.cm,v.cn,v.cp,v.cq,v.cv,v.cw,v.cC]
def vo (v:aK) (n:Nat) (w:Int):aK:=match n with
 | 0=>{v with cl:=w}
 | 1=>{v with cm:=w}
 | 2=>{v with cn:=w}
 | 3=>{v with cp:=w}
 | 4=>{v with cq:=w}
 | 5=>{v with cv:=w}
 | 6=>{v with cw:=w}
 | _=>{v with cC:=w}
theorem ad5 (v:aK) {n:Nat} (a:n<8) (w:Int):AT (vo v n w)=(AT v).set n w:=by
 match n,a with
 | 0,_=>rfl
 | 1,_=>rfl
 | 2,_=>rfl
 | 3,_=>rfl
 | 4,_=>rfl
 | 5,_=>rfl
 | 6,_=>rfl
 | 7,_=>rfl
theorem ada (v:aK) {n:Nat} (a:n<8) (w:Int):mM (vo v n w)=(mM v).take (2+n)++ [.int .i64 w]++(mM v).drop (2+n+1):=by
 match n,a with
 | 0,_=>rfl
 | 1,_=>rfl
 | 2,_=>rfl
 | 3,_=>rfl
 | 4,_=>rfl
 | 5,_=>rfl
 | 6,_=>rfl
 | 7,_=>rfl
theorem ad6 (v:aK) {n:Nat} (a:n<8) (w:Int):(vo v n w).State=v.State/\(vo v n w).PC=v.PC/\(vo v n w).cR=v.cR:=by
 match n,a with
 | 0,_=>exact ⟨rfl,rfl,rfl⟩
 | 1,_=>exact ⟨rfl,rfl,rfl⟩
 | 2,_=>exact ⟨rfl,rfl,rfl⟩
 | 3,_=>exact ⟨rfl,rfl,rfl⟩
 | 4,_=>exact ⟨rfl,rfl,rfl⟩
 | 5,_=>exact ⟨rfl,rfl,rfl⟩
 | 6,_=>exact ⟨rfl,rfl,rfl⟩
 | 7,_=>exact ⟨rfl,rfl,rfl⟩
theorem abw (a:List Int) {i:Nat} (b:a.length=i) (c:i<8) (w:Int):(a++List.replicate (8-i) 0).set i w=(a++ [w])++List.replicate (8-(i+1)) 0:=by
 have e:8-i=(8-(i+1))+1:=by omega
 rw [e,List.replicate_succ,<-b,List.set_append_right _ _ (Nat.le_refl _),Nat.sub_self,List.set_cons_zero];simp
abbrev Ot (l:Sl) (a:List aX) (h:Hp) (B:List Nat):Prop:=bh bd 4 pz l a h B
theorem jm :gA Ot:=bh.ok jI
structure sX (d h0:Hp) (rb:Nat) (bl:Sl) (bs:List UInt8) (x:an) (pb:Nat) (k:Hp) (r:RS) (v:aK) (ls:List aX) (B:List Nat):Prop where
 sb:SB d h0 rb bl bs x k r ([pb]++B)
 fW:eS k pb (mM v)
 own:Ot v.cR ls k B
section
variable {d h0 k:Hp} {f c:Nat} {g:Sl} {bs:List UInt8} {r:RS} {x:an} {v:aK} {i:List aX} {B:List Nat}
theorem sX.known (s:sX d h0 f g bs x c k r v i B):∀b∈ [c]++B,k b≠none:=λb hb=>by
 rcases List.mem_append.1 hb with hb | hb
 ·rw [List.mem_singleton.1 hb];exact s.fW.known
 ·exact jm.known s.own b hb
theorem sX.pn (s:sX d h0 f g bs x c k r v i B):c∉B:=λh=>(List.nodup_append.1 s.sb.nd).2.2 c (List.mem_singleton.2 rfl) c h rfl
theorem sX.next (s:sX d h0 f g bs x c k r v i B) {e:Hp} {j:RS} (m:Mv [f] k [f] e) (a:mf d e f g bs j x):sX d h0 f g bs x c e j v i B:=by obtain ⟨s2,l⟩:=s.sb.next s.known m a;exact ⟨s2,s.fW.mv m λh=>s.sb.nr (cg (by rw [List.mem_singleton.1 h];exact List.mem_singleton.2 rfl)),jm.same s.own λb hb=>l b (cc hb)⟩
theorem sX.store (m:d<=h0) (s:sX d h0 f g bs x c k r v i B) {v':aK} {off:Nat} {val:Value} (u:off<15) (p:v'.cR=v.cR) (hv:mM v'=(mM v).take off++ [val]++(mM v).drop (off+1)) {K:Hp->Prop}
  (n:∀a,sX d h0 f g bs x c a r v' i B->K a):cX k ⟨c,off,none⟩ [val] K:=by
 refine qQ s.fW (by show off+1<=15;omega) λt j l=>n t ?_;refine ⟨s.sb.fin (λb o e q=>j.bO b o e λh=>q (cg h)) s.sb.nd (λb hb=>.inl hb) (λb hb=>qj m (s.sb.fresh b hb)),by rw [hv];exact l,?_⟩;rw [p];exact jm.same s.own (vb j (jm.known s.own) λb hb e=>s.pn (by rw [<-List.mem_singleton.1 e];exact hb))
theorem sX.grow (s:sX d h0 f g bs x c k r v i B) {b:Hp} (a:k<=b):sX d h0 f g bs x c b r v i B:=
 ⟨s.sb.grow a,s.fW.le a,jm.same s.own (xp a (jm.known s.own))⟩
end
section
variable {d h:Hp} {c:Nat} {g:Sl} {bs:List UInt8} {r:RS} {x:an}
theorem Zt {Q:aK->Hp->Prop} (a:mf d h c g bs r x) (g7:x.aQ.len<=1000)
  (hq:∀(v:aK) (p:aj) r1 B' V,SB d h c g bs x V r1 B'->kj v p V B'->Cn bs r (uj x.aQ.len x.fD (x.aD.len:Int)) r1 p->Q v V):zou prog (some ⟨c,0,none⟩) Q h:=by
 unfold zou;refine aJ (aJ (u3 (vf (k:=1) a (by omega) (by omega) λst r1 H g9 m1 a1 d4 _=> ?_)));refine u3 (vf (k:=2) a1 (by omega) (by omega) λpc r2 h2 g8 m2 a2 d7 _=> ?_);have s2:SB d h c g bs x h2 r2 []:=SB.step a.known (m1.trans m2) a2;refine ln λq h3 e0 d9 Y=> ?_;have Y:eS h3 q (mM ⟨(st:Int),(pc:Int),0,0,0,0,0,0,0,0,0,0,false,0,⟨none,0,0⟩⟩):=Y;have p3:sX d h c g bs x q h3 r2 ⟨(st:Int),(pc:Int),0,0,0,0,0,0,0,0,0,0,false,0,⟨none,0,0⟩⟩ [] []:=by
  have s3:=s2.grow d9;exact ⟨⟨s3.kr,s3.bO,s3.rd,by simp,λb hb=>by
   rw [List.append_nil] at hb;rw [List.mem_singleton.1 hb];exact s2.sk e0⟩,Y,bh.nil⟩
 refine gh (n:=8) rfl (by omega) (λi k=>∃(A:List Int) (z:RS) (v:aK),A.length=i/\(v.State=(st:Int)/\v.PC=(pc:Int)/\v.cR=⟨none,0,0⟩)/\AT v=A++List.replicate (8-i) 0/\sX d h c g bs x q k z v [] []/\
  ∀(E:Type) (f:List Int->D E),cM r2 (D.bind (D.many (λ_=>iD) 8 []) f) bs=cM z (D.bind (D.many (λ_=>iD) (8-i) A) f) bs) ⟨[],r2,_,rfl,⟨rfl,rfl,rfl⟩,rfl,p3,λ_ _=>rfl⟩ ?_ ?_
 ·rintro i I k ⟨A,z,v,b5,hv,J,s,b1⟩ K X;refine aJ (Ab (qO (k:=8) s.sb.rd (by omega) (by omega) λw r4 k4 hw m4 a4 Z _=>⟨⟨by omega,by omega⟩,?_⟩));have s4:=s.next m4 a4;have d1:(Addr.add (Addr.add ⟨q,0,none⟩ 2) ((Int.toNat (i:Int))*1))=⟨q,2+i,none⟩:=by rw [Nat.mul_one,show Int.toNat (i:Int)=i from rfl,kE,kE,Nat.zero_add]
  rw [d1];obtain ⟨C,O,e3⟩:=ad6 v I (i64 w);refine s4.store a.le (v':=vo v i (i64 w)) (off:=2+i) (by omega) e3 (ada v I _) λk5 T=>X k5 ⟨A++ [i64 w],r4,vo v i (i64 w),by simp [b5],⟨C.trans hv.1,O.trans hv.2.1,e3.trans hv.2.2⟩,?_,T,λE f=> ?_⟩
  ·rw [ad5 v I,J,abw A b5 I]
  ·have C:8-i=(8-(i+1))+1:=by omega
   rw [b1,C,wV,jh,rA,Z.map]
 ·rintro k ⟨A,z,v,b5,⟨e8,e9,b4⟩,J,s,b1⟩;have J:AT v=A:=by rw [J];simp
  refine aJ (u3 (vf (k:=1) s.sb.rd (by omega) (by omega) λcur r4 k4 g5 m4 a4 Z _=> ?_));refine (s.next m4 a4).store a.le (v':={v with Cursor:=(cur:Int)}) (off:=10) (by omega) rfl rfl λk5 T=> ?_;refine aJ (Ab (qO (k:=8) T.sb.rd (by omega) (by omega) λiQ r6 k6 h0 m6 a6 d8 _=> ?_));refine (T.next m6 a6).store a.le (v':={v with Cursor:=(cur:Int),Timer:=i64 iQ}) (off:=11) (by omega) rfl rfl λk7 s7=> ?_;obtain ⟨p7,e7,h9,f7,c2⟩:=s7.sb.rd.fW;refine aJ (bg (sh:=af .i64) p7 (f7.bU (off:=1) (n:=1) rfl) ?_);refine aJ (u3 (vf (k:=1) s7.sb.rd (by omega) (by omega) λu r8 k8 g6 m8 a8 b9 _=> ?_));have s8:=s7.next m8 a8;refine da.intro (λF=>∃L,sX d h c g bs x q F L {v with Cursor:=(cur:Int),Timer:=i64 iQ} [] []/\Cn bs r6 (D.cQ (zD 1) sv) L (u:Int)) ?_ ?_
  ·have e4:∀U,r6=.ok U->p7=(U:Int):=λU e=>by rw [e] at c2;exact c2.1
   by_cases H:(1:Int)<(u:Int)
   ·rw [if_pos (decide_eq_true H)];refine aJ (AP (PZ (W:=sv) (n:=(u:Int)) s8.sb.rd b9 e4 (by unfold sv;rw [if_pos H]) (by decide) λL k9 m9 a9 b0=>⟨L,s8.next m9 a9,b0⟩))
   ·rw [if_neg (λe=>H (of_decide_eq_true e))];exact ⟨r8,s8,P0 b9 (by unfold sv;rw [if_neg H])⟩
  rintro k9 ⟨L,s9,b0⟩;refine s9.store a.le (v':={v with Cursor:=(cur:Int),Timer:=i64 iQ,fH:=((u:Int)==(1:Int))}) (off:=12) (by omega) rfl rfl λh6 c7=> ?_;refine aJ (Ab (qO (k:=8) c7.sb.rd (by omega) (by omega) λjg c6 h7 h5 f9 d0 d5 _=> ?_));refine (c7.next f9 d0).store a.le (v':={v with Cursor:=(cur:Int),Timer:=i64 iQ,fH:=((u:Int)==(1:Int)),iU:=i64 jg}) (off:=13) (by omega) rfl rfl λh8 c8=> ?_;refine aJ (bg (sh:=aw) x.aQ (c8.sb.rd.cfg (j:=0) (n:=1) rfl) ?_);have h4:v={v with cR:=⟨none,0,0⟩}:=by cases v;simp only at b4;rw [b4]
  rw [aV];refine gh (n:=x.aQ.len+1) (by push_cast;rfl) (by omega) (λi F=>∃(G:List aX) (z:RS) (l:Sl) (B:List Nat),G.length=i/\sX d h c g bs x q F z {v with Cursor:=(cur:Int),Timer:=i64 iQ,fH:=((u:Int)==(1:Int)),iU:=i64 jg,cR:=l} G B/\
    ∀(E:Type) (f:List aX->D E),cM c6 (D.bind (D.many (λ_=>oa x.fD (x.aD.len:Int)) (x.aQ.len+1) []) f) bs=cM z (D.bind (D.many (λ_=>oa x.fD (x.aD.len:Int)) (x.aQ.len+1-i) G) f) bs)
   ⟨[],c6,⟨none,0,0⟩,[],rfl,by
    have:=c8;rw [show ({v with Cursor:=(cur:Int),Timer:=i64 iQ,fH:=((u:Int)==(1:Int)),iU:=i64 jg}:aK)={v with Cursor:=(cur:Int),Timer:=i64 iQ,fH:=((u:Int)==(1:Int)),iU:=i64 jg,cR:=⟨none,0,0⟩} by rw [<-b4]] at this;exact this,λ_ _=>rfl⟩ ?_ ?_
  ·rintro i I F ⟨G,z,l,B,c0,m,b2⟩ K X;refine bg (sh:=aw) l (m.fW.bU (off:=14) (n:=1) rfl) ?_;refine S9 (Zn m.sb.rd λy p g1 B' f0 c9 c4 d6=> ?_);have g2:=m.sb.andThen m.known c9;have b3:=m.sb.kept m.known c9;have b7:eS f0 q (mM {v with Cursor:=(cur:Int),Timer:=i64 iQ,fH:=((u:Int)==(1:Int)),iU:=i64 jg,cR:=l}):=by obtain ⟨t,e⟩:=m.fW;exact ⟨t,by rw [b3 q (cg (List.mem_singleton.2 rfl))];exact e⟩
   refine ⟨⟨b7.bU (off:=14) (n:=1) rfl,trivial⟩,?_⟩;refine lT (xs:=[y]) (enc:=λx=>bA (bd.enc x)) (sz:=4) rfl (λ_=>rfl) λg4 f4 _ R _ g0=> ?_;have b8:=b7.le R;refine ⟨⟨b8.bU (off:=14) (n:=1) rfl,trivial⟩,?_⟩;have g3:=g2.grow R;have c1:∀b∈ [q]++B,f4 b=F b:=λb hb=>by rw [<-b3 b hb];exact xp R (λb hb=>by rw [b3 b hb];exact m.known b hb) b hb
   have ow:=jm.same m.own λb hb=>c1 b (cc hb);have oe:=jI.same c4 (xp R (jI.known c4));refine vd (P:=[q]) (M:=B) (S:=[]) (B':=B') jI a.le (by simpa using g3) ow (v:=y) (p:=p) oe (λb hb=>by
    rw [List.append_nil] at hb;rw [c1 b (cg hb)];exact m.known b (cg hb)) (g0.rw λ_=>rfl) (λ_=>rfl) (λ_=>rfl) rfl (by omega) λf8 f5 b6 N c5 e6=> ?_
   rw [List.append_nil] at N;have d2:eS f5 q (mM {v with Cursor:=(cur:Int),Timer:=i64 iQ,fH:=((u:Int)==(1:Int)),iU:=i64 jg,cR:=l}):=by obtain ⟨t,e⟩:=b8;exact ⟨t,by rw [e6 q (by simp)];exact e⟩
   have e5:q∉b6:=λh=>(List.nodup_append.1 N.nd).2.2 q (List.mem_singleton.2 rfl) q h rfl;refine qQ (off:=14) d2 (by show 14+1<=15;omega) λf6 c3 d3=>X f6 ⟨G++ [p],g1,f8,b6,by simp [c0],⟨?_,d3,?_⟩,λE f=> ?_⟩
   ·exact N.fin (λb o e hn=>c3.bO b o e λh=>hn (cg h)) N.nd (λb hb=>.inl hb) (λb hb=>qj a.le (N.fresh b hb))
   ·exact jm.same c5 (vb c3 (jm.known c5) λb hb e=>e5 (by have e:b=q:=List.mem_singleton.1 e;exact e▸hb))
   ·have C:x.aQ.len+1-i=(x.aQ.len+1-(i+1))+1:=by omega
    rw [b2,C,wV,jh,d6]
  ·rintro F ⟨G,z,l,B,c0,m,b2⟩;refine bg (sh:=aI) {v with Cursor:=(cur:Int),Timer:=i64 iQ,fH:=((u:Int)==(1:Int)),iU:=i64 jg,cR:=l} (m.fW.bU (off:=0) (n:=15) rfl) ?_;refine hq _ ⟨(st:Int),(pc:Int),A,(cur:Int),i64 iQ,n9 (u:Int),i64 jg,G⟩ z B F ⟨m.sb.kr,m.sb.bO,m.sb.rd,(List.nodup_append.1 m.sb.nd).2.1,λb hb=>m.sb.fresh b (cc hb)⟩
    ⟨m.own,e8,e9,J,rfl,rfl,?_,rfl⟩ λE f=> ?_
   ·show ((u:Int)==(1:Int))=n9 (u:Int);unfold n9;rfl
   ·unfold uj;rw [jh,d4,jh,d7,jh];have C:=b1 E λaP=>D.bind (D.bind (zD 1) λai=>D.bind iD λtimer=>D.bind (D.map n9 (D.cQ (zD 1) sv)) λbB=>D.bind iD λbP=>D.bind (D.many (λ_=>oa x.fD (x.aD.len:Int)) (x.aQ.len+1) []) λak=>
     D.ret (⟨(st:Int),(pc:Int),aP,ai,timer,bB,bP,ak⟩:aj)) f
    rw [Nat.sub_self] at C;refine C.trans ?_;show cM _ (D.bind (D.bind (zD 1) _) f) bs=_;rw [jh,Z,jh,rA,d8.map,jh,b0.map,jh,d5.map,jh];have O:=b2 E λak=>D.bind (D.ret (⟨(st:Int),(pc:Int),A,(cur:Int),i64 iQ,n9 (u:Int),i64 jg,ak⟩:aj)) f;rw [Nat.sub_self] at O;exact O
end
end Lf
namespace Lf
open D (many cQ iv)
def Pl {b:Type} (d:D b):Prop:=∀a at_,at_<=a.length->(∀e,d a at_=.error e->e.2<=a.length)/\∀z,d a at_=.ok z->at_<=z.2/\z.2<=a.length
section
variable {α β:Type}
theorem wb (x:α):Pl (D.ret x):=λc at_ h=>⟨λe a=>(by cases a),λz b=>by cases b;omega⟩
theorem AU (k:Nat):Pl (D.num k):=λa at_ h=>by unfold D.num;grind
theorem ik {d:D α} {f:α->D β} (c:Pl d) (g:∀x,Pl (f x)):Pl (D.bind d f):=λa at_ h=>by
 obtain ⟨k,l⟩:=c a at_ h;unfold D.bind;cases b:d a at_ with
 | error e=>exact ⟨λn i=>by cases i;exact k _ b,λz j=>by cases j⟩
 | ok z=>obtain ⟨x,a2⟩:=z;obtain ⟨o,m⟩:=l _ b;obtain ⟨p,r2⟩:=g x a a2 m;grind
theorem AV {d:D α} (f:α->β) (h:Pl d):Pl (D.map f d):=ik h λ_=>wb _
theorem uu {d:D α} (w:α->Int) (h:Pl d):Pl (cQ d w):=λa at_ b=>by obtain ⟨c,e⟩:=h a at_ b;unfold cQ;grind
theorem WR {d:D α} {w:α->Int×Int} (h:Pl d) (c:∀a at_ x a2,at_<=a.length->d a at_=.ok (x,a2)->at_+(w x).2.toNat<=a2):Pl (iv d w):=λa at_ b=>by obtain ⟨e,f⟩:=h a at_ b;unfold iv;grind
theorem vZ {g:List α->D α} (h:∀l,Pl (g l)):∀(n:Nat) (l:List α),Pl (many g n l)
 | 0,l=>wb l
 | n+1,l=>ik (h l) λx=>vZ h n (l++ [x])
end
theorem gv (k:Nat):Pl (zD k):=AV _ (AU k)
theorem sm :Pl (D.map i64 (D.num 8)):=AV _ (AU 8)
theorem Hd :∀m:List UInt8,Pl (jU m)
 | []=>wb ()
 | _::r=>ik (uu _ (AU 1)) λ_=>Hd r
theorem ad7 (x:df) (n ag:Int):(ja x n ag).2.toNat<=4:=by unfold ja;grind
theorem acw (n ag:Int):Pl (pJ n ag):=by refine WR (ik (gv 1) λ_=>ik (gv 1) λ_=>ik (gv 1) λ_=>ik (gv 1) λ_=>ik sm λ_=>wb _) λa at_ x a2 c d=> ?_;have b:=(pg.sound a at_ x a2 d c).2.1;have e:=ad7 x n ag;simp [nk,eN] at b;omega
theorem aby (parts ag:Int):Pl (nx parts ag):=
 ik (uu _ (gv 1)) λ_=>ik (uu _ (gv 2)) λn=>ik (vZ (λ_=>acw n ag) _ _) λ_=>wb _
theorem WU :Pl An:=
 ik (Hd _) λ_=>ik (uu _ (gv 1)) λnl=>ik (vZ (λ_=>uu _ (gv 8)) _ _) λ_=>
 ik (uu _ (gv 1)) λa=>ik (vZ (λ_=>uu _ (gv 1)) _ _) λ_=>
 ik (uu _ (gv 2)) λ_=>ik (uu _ (gv 1)) λ_=>ik (uu _ (gv 1)) λag=>ik (uu _ (gv 2)) λ_=>
 ik (uu _ (gv 1)) λnp=>ik (vZ (λ_=>aby _ _) _ _) λ_=>wb _
theorem NN {f:Type} {d:D f} (h:Pl d) {a:List UInt8} {e:Int} {p:Nat} (b:oy d a=.error (e,p)):p<=a.length:=by
 unfold oy at b;by_cases c:1048576<a.length
 ·grind
 ·rw [if_neg c] at b;obtain ⟨g,i⟩:=h a 0 (Nat.zero_le _);grind
theorem Ma {a:List UInt8} {e:Int} {p:Nat} (h:ve a=.error (e,p)):p<=a.length:=NN WU h
theorem acz :Pl va:=λa at_ b=>by
 obtain ⟨k,h⟩:=AU 4 a at_ b;unfold va;cases f:D.num 4 a at_ with
 | error e=>grind
 | ok z=>
  obtain ⟨n,a2⟩:=z;obtain ⟨i,j⟩:=h _ f;dsimp only at i j ⊢;by_cases g:a.length<a2+n
  ·grind
  ·rw [if_neg g];cases d:ve ((a.drop a2).take n) with
   | error e=>obtain ⟨e,p⟩:=e;have hp:=Ma d;grind
   | ok c=>grind
theorem Zw :Pl vj:=ik sm λ_=>ik (gv 1) λ_=>ik sm λ_=>wb _
theorem WW :Pl tY:=ik (gv 1) λ_=>ik sm λ_=>wb _
theorem abA (lane np:Int):Pl (oa lane np):=
 ik (uu _ (gv 1)) λ_=>ik (vZ (λ_=>sm) _ _) λ_=>ik (uu _ (gv 1)) λ_=>ik (vZ (λ_=>WW) _ _) λ_=>ik (gv 2) λ_=>ik (gv 2) λ_=>wb _
theorem abC (np:Int):Pl (od np):=ik (AV _ (gv 1)) λ_=>ik (uu _ (gv 1)) λ_=>ik (vZ (λ_=>gv 1) _ _) λ_=>wb _
theorem abE (dS ag np:Int):Pl (pU dS ag np):=
 ik (gv 1) λ_=>ik (uu _ (gv 2)) λ_=>ik (vZ (λ_=>Zw) _ _) λ_=>ik (gv 2) λ_=>ik (gv 2) λ_=>ik (vZ (λ_=>abC np) _ _) λ_=>wb _
theorem Zz (nl:Nat) (lane np:Int):Pl (uj nl lane np):=
 ik (gv 1) λ_=>ik (gv 2) λ_=>ik (vZ (λ_=>sm) _ _) λ_=>ik (gv 1) λ_=>ik sm λ_=>ik (AV _ (uu _ (gv 1))) λ_=>ik sm λ_=>
 ik (vZ (λ_=>abA lane np) _ _) λ_=>wb _
theorem ZC (c:aL):Pl (zJ c):=ik sm λ_=>ik (vZ (λ_=>abE _ _ _) _ _) λ_=>ik (vZ (λ_=>Zz _ _ _) _ _) λ_=>wb _
theorem abF :Pl iP:=ik (Hd _) λ_=>ik acz λc=>ik (ZC c) λ_=>wb _
end Lf
namespace Lf
open Go Go.Proofs Tryz
def qq :aL:=⟨[],[],0,0,0,0,[]⟩
theorem Gw {h:Hp}:mo mV qq h []:=⟨[],[],[],rfl,bh.nil,bh.nil,bh.nil,rfl,rfl,rfl,rfl⟩
structure Hk (c:aL):Prop where
 nl:c.labels.length<=8
 np:c.procs.length<=32
 lane:c.lane<=64
 ag:0<=c.ag/\c.ag<=8
 log:c.log<=4096
theorem Ov (m:Int) {c:aL} (a:m=0↔xM c.labels) (h:nF c):Hk c:=by obtain ⟨_,i⟩:=(BA a).2 h;obtain ⟨b,_,_,_,_,e,f,g,_,d,_⟩:=fA.1 i;exact ⟨(a.1 b).2.1,d,e.2,f,g.2⟩
theorem zi (c:aL):(jH c.labels).1=0↔xM c.labels:=fN
section
variable {d h:Hp} {g:Nat} {f:Sl} {bs:List UInt8} {r:RS}
theorem Ub {Q:Hp->Prop} (a:mf d h g f bs r mV)
  (H:∀t x c B O,SB d h g f bs x O t B->mo x c O B->Hk c->((∃n,t=.ok n)->nF c)->Cn bs r va t c->Q O):Ys prog (some ⟨g,0,none⟩) Q h:=by
 unfold Ys;have N:Hk qq:=⟨by simp [qq],by simp [qq],by simp [qq],by simp [qq],by simp [qq]⟩;have b2:f.len=bs.length:=a.src.1;have b6:=a.small;refine aJ (u3 (vf (k:=4) a (by omega) (by omega) λn t u A K a1 R _=> ?_));have s1:SB d h g f bs mV u t []:=SB.step a.known K a1;obtain ⟨p,e,pl,l,U⟩:=a1.fW;refine aJ (bg (sh:=af .i64) e (l.bU (off:=2) (n:=1) rfl) ?_);have b1:∀e,t=.error e->Cn bs r va t qq:=λe he=>by
  subst he;have j:=R.done;cases r with
  | error y=>have j:(Except.error y:Except (Int×Nat) (Int×Nat))=.error e:=j;cases j;exact Cn.stay
  | ok at_=>
   have j:zD 4 bs at_=.error e:=j;refine Cn.err ?_;unfold va;unfold zD D.map D.bind at j;cases G:D.num 4 bs at_ with
   | error M=>rw [G] at j;cases j;rfl
   | ok y=>rw [G] at j;cases j
 cases t with
 | error y=>obtain ⟨er,q⟩:=y;rw [if_pos (by rw [bne_iff_ne,U.1];exact U.2.1)];exact H _ mV qq [] u s1 Gw N (by rintro ⟨n,A⟩;cases A) (b1 _ rfl)
 | ok i=>
  obtain ⟨rfl,rfl,a9⟩:=U;have a9:i<=bs.length:=by omega
  rw [jO];obtain ⟨at_,rfl⟩:∃at_,r=.ok at_:=by
   cases r with
   | ok at_=>exact ⟨at_,rfl⟩
   | error y=>exact absurd R.done (by intro h;cases h)
  have T:D.num 4 bs at_=.ok (n,i):=by
   have j:zD 4 bs at_=.ok ((n:Int),i):=R.done;unfold zD D.map D.bind at j;cases G:D.num 4 bs at_ with
   | error M=>rw [G] at j;cases j
   | ok y=>
    obtain ⟨y,a2⟩:=y;rw [G] at j;have j:(Except.ok (vN y,a2):Except (Int×Nat) (Int×Nat))=.ok ((n:Int),i):=j;have u:=Except.ok.inj j;have w:vN y=(n:Int):=congrArg Prod.fst u;have z:a2=i:=congrArg Prod.snd u;unfold vN at w;have:y=n:=by omega
    rw [this,z]
  refine aJ (bg (sh:=aw) f (l.bU (off:=0) (n:=1) rfl) (aJ (bg (sh:=af .i64) (i:Int) (l.bU (off:=1) (n:=1) rfl) ?_)));rw [aV];by_cases V:bs.length<i+n
  ·have S:((f.len:Nat):Int)-(i:Int)<(n:Int):=by omega
   rw [if_pos (decide_eq_true S)];refine aJ (aJ (bg (sh:=aw) f (l.bU (off:=0) (n:=1) rfl) (AP (Da l λw m2 Z=> ?_))));rw [if_pos rfl,if_pos rfl] at Z;have a2:mf d w g f bs (.error (5,bs.length)) mV:=⟨(m2.le a1.le λc C=>by rw [List.mem_singleton.1 C];exact a.out).1,a.out,a.src,a.cap,a.small,_,_,_,Z,rfl,by decide,by rw [b2]⟩;refine H _ mV qq [] w (SB.step a.known (K.trans m2) a2) Gw N (by rintro ⟨n,A⟩;cases A) (Cn.err ?_);unfold va;rw [T];dsimp only;rw [if_pos V]
  ·have S:¬((f.len:Nat):Int)-(i:Int)<(n:Int):=by omega
   rw [if_neg (λe=>S (of_decide_eq_true e))];refine aJ (bg (sh:=aw) f (l.bU (off:=0) (n:=1) rfl) (aJ (bg (sh:=af .i64) (i:Int) (l.bU (off:=1) (n:=1) rfl) (aJ (bg (sh:=af .i64) (i:Int) (l.bU (off:=1) (n:=1) rfl) ?_)))));have b5:=a.cap;rw [wrap64 (by omega)  (by omega)];have b3:(i:Int)<=(i:Int)+(n:Int):=by omega
   refine ⟨⟨Int.natCast_nonneg _,b3,by omega⟩,aE ?_⟩;have L:((i:Int)+(n:Int)).toNat=i+n:=by omega
   have M:((i:Int)).toNat=i:=rfl;rw [L,M];have X:=(Rw.mono a1.le a.src).cut (a:=i) (b:=i+n) (c:=f.cap) (n:=i+n-i) (m:=f.cap-i) sQ (by omega) (by omega) (by omega) rfl;have e3:i+n-i=n:=by omega
   rw [e3] at X ⊢;refine W4 (ack X (by show n<=f.cap-i;omega) (λe p w F E Y=> ?_) λy c B w F E own nd fresh=> ?_)
   ·have J:=l.le F;rw [if_pos (by simpa using Y)];refine aJ (aJ (bg (sh:=af .i64) (i:Int) (J.bU (off:=1) (n:=1) rfl) ?_));refine AP (Da J λz W s=> ?_);rw [if_pos rfl,if_pos rfl] at s;have hp:=Ma E;rw [List.length_take,List.length_drop] at hp;rw [aV] at s;have m:=(K.trans (Mv.of_le [g] F)).trans W;have a3:mf d z g f bs (.error (e,i+p)) mV:=⟨(m.le a.le λc C=>by rw [List.mem_singleton.1 C];exact a.out).1,a.out,a.src,a.cap,a.small,_,_,_,s,rfl,Y,by push_cast;rfl⟩;refine H _ mV qq [] z (SB.step a.known m a3) Gw N (by rintro ⟨n,A⟩;cases A) (Cn.err ?_);unfold va;rw [T];dsimp only;rw [if_neg V,E]
   ·have J:=l.le F;rw [jO];refine aJ (qQ (b:=g) (off:=4) J (by simp [nV,jD,bA]) λz W s=> ?_);have s:eS z g (nV f (i:Int) 0 pl++jD y):=by simpa [nV,jD,bA,Sl.v] using s
    refine aJ (bg (sh:=af .i64) (i:Int) (s.bU (off:=1) (n:=1) rfl) (aJ (qQ (b:=g) (off:=1) s (by simp [nV]) λP m4 I=> ?_)));rw [aV] at I;have I:eS P g (nV f ((i:Int)+(n:Int)) 0 pl++jD y):=by simpa [nV,jD,bA,Sl.v] using I
    have a8:=W.trans m4;have m:=(K.trans (Mv.of_le [g] F)).trans a8;have b0:=(m.le a.le λc C=>by rw [List.mem_singleton.1 C];exact a.out).1;have a4:mf d P g f bs (.ok (i+n)) y:=⟨b0,a.out,a.src,a.cap,a.small,_,_,_,I,by push_cast;rfl,rfl,by push_cast;omega⟩;have b4:g∉B:=λhb=>l.known (fresh g hb);have hv:=(Et EW E).1;refine H _ y c B P ⟨a.known,λb o L u=>m.bO b o L λhb=>u (List.mem_singleton.1 hb),a4,nd,λb hb=>s1.sk (fresh b hb)⟩
     (fp.same own (vb a8 (fp.known own) λb hb e=>b4 (by have e:b=g:=List.mem_singleton.1 e;exact e▸hb))) (Ov _ (zi c) hv) (λ_=>hv) (Cn.ok ?_)
    unfold va;rw [T];dsimp only;rw [if_neg V,E]
end
abbrev Fc (l:Sl) (a:List cJ) (h:Hp) (B:List Nat):Prop:=bh bx 6 q7 l a h B
abbrev Np (l:Sl) (a:List aj) (h:Hp) (B:List Nat):Prop:=bh aI 15 kj l a h B
theorem kV :gA Fc:=bh.ok kU
theorem pR :gA Np:=bh.ok fY
theorem W1 {b:Type} {d:D b} {a:List UInt8} {e:Int×Nat} (c:a.length<=1048576) (h:cM (.ok 0) d a=.error e):oy d a=.error e:=by unfold oy;rw [qt];have h:d a 0=.error e:=h;rw [h]
theorem ZF {e:Type} {d:D e} {b:List UInt8} {c:e} {a:Nat} (f:b.length<=1048576) (h:cM (.ok 0) d b=.ok (c,a)):oy d b=if a<b.length then .error (6,a) else .ok c:=by unfold oy;rw [qt];have h:d b 0=.ok (c,a):=h;rw [h]
section
variable {d h:Hp} {l:Nat} {g:Sl} {bs:List UInt8}
def HL (bs:List UInt8) (r:RS) (c:aL) (s:aR):Prop:=match r with
 | .error e=>oy iP bs=.error e
 | .ok _=>oy iP bs=.ok (c,s)/\nF c
theorem W5 {Q:aH->Hp->Prop} (a:mf d h l g bs (.ok 0) mV) (c9:bs.length<=1048576)
  (hq:∀(v:aH) (s:aR) (x:an) (c:aL) r1 r m h',SB d h l g bs x h' r1 (r++m)->mo x c h' r->lL v s h' m->HL bs r1 c s->Q v h'):Zl prog (some ⟨l,0,none⟩) Q h:=by
 unfold Zl;refine gh (n:=5) rfl (by omega) (λi k=>∃z,SB d h l g bs mV k z []/\∀(C:Type) (f:Unit->D C),cM (.ok 0) (D.bind (jU [70,66,83,78,1]) f) bs=cM z (D.bind (jU (([70,66,83,78,1]:List UInt8).drop i)) f) bs) ⟨_,SB.init a,λ_ _=>rfl⟩ ?_ ?_
 ·rintro i Y k ⟨z,s,X⟩ K V;have L:([70,66,83,78,1]:List UInt8)[i]? =some (([70,66,83,78,1]:List UInt8)[i]'(by simpa using Y)):=List.getElem?_eq_getElem (by simpa using Y);generalize ([70,66,83,78,1]:List UInt8)[i]'(by simpa using Y)=c at L;have d5:List.getD [70,66,83,78,1] (Int.toNat (i:Int)) (0:UInt8)=c:=by rw [List.getD_eq_getElem?_getD,show (Int.toNat (i:Int))=i from rfl,L];rfl
  refine da.intro (λk2=>∃r2 n,SB d h l g bs mV k2 r2 []/\Cn bs z (D.cQ (D.num 1) λn=>if n=c.toNat then 0 else 4) r2 n) ?_ ?_
  ·obtain ⟨p,e,pl,G,Z⟩:=s.rd.fW;refine aJ (bg (sh:=af .i64) p (G.bU (off:=1) (n:=1) rfl) (aJ (Ab (qO (k:=1) s.rd (by omega) (by omega) λn r2 k2 hn m2 a2 O _=>⟨⟨by omega,by omega⟩,?_⟩))));have hp:∀aa,z=.ok aa->p=(aa:Int):=λaa e=>by rw [e] at Z;exact Z.1
   have s2:=(s.next (λb hb=>by cases hb) m2 a2).1;have hn:n<256:=by simpa using hn
   rw [d5,PY (by omega)];have E:IntKind.wrap .u8 (n:Int)=(n:Int):=by rw [mP,EY];omega
   rw [E];by_cases h1:n=c.toNat
   ·rw [if_neg (by simp [h1])];exact ⟨r2,n,s2,P0 O (by rw [if_pos h1])⟩
   ·rw [if_pos (by rw [bne_iff_ne];omega)];exact aJ (AP (PZ (W:=λn=>if n=c.toNat then 0 else 4) (n:=n) a2 O hp (by rw [if_neg h1]) (by decide) λr3 k3 m3 a3 b4=>⟨r3,n,(s2.next (λb hb=>by cases hb) m3 a3).1,b4⟩))
  ·rintro k2 ⟨r2,n,s2,O⟩;refine V k2 ⟨r2,s2,λC f=> ?_⟩;rw [X,Ak L];show cM z (D.bind (D.bind (D.cQ (D.num 1) λn=>if n=c.toNat then 0 else 4) λ_=>jU (([70,66,83,78,1]:List UInt8).drop (i+1))) f) bs=_;rw [jh,O]
 ·rintro k ⟨r1,s1,d2⟩;refine zzm (Ub s1.rd λr2 x c r k2 t2 own mI e6 O=> ?_);have s2:=s1.andThen (λb hb=>by cases hb) t2;rw [List.nil_append] at s2;have d9:∀(C:Type) (f:aL->D C),cM (.ok 0) (D.bind (jU [70,66,83,78,1]) λ_=>D.bind va f) bs=cM r2 (f c) bs:=λC f=>by rw [d2];show cM r1 (D.bind va f) bs=_;rw [O]
  have d6:x.aQ.len=c.labels.length:=by obtain ⟨C1,C2,C3,_,o1,_⟩:=own;exact o1.len
  have c4:x.aD.len=c.procs.length:=by obtain ⟨C1,C2,C3,_,_,_,o3,_⟩:=own;exact o3.len
  obtain ⟨d0,c1,d1⟩:x.fD=c.lane/\x.bE=c.ag/\x.Log=c.log:=by obtain ⟨C1,C2,C3,_,_,_,_,f1,f2,f3,f4⟩:=own;exact ⟨f2,f3,f4⟩
  have f1:=mI.nl;have f2:=mI.np;have f3:=mI.ag;have e3:=fp.known own;refine aJ (Ab (qO (k:=8) s2.rd (by omega) (by omega) λtick r3 k3 e8 m3 a3 b4 _=> ?_));obtain ⟨s3,d8⟩:=s2.next e3 m3 a3;have e4:=fp.same own d8;refine aJ (bg (sh:=aw) x.aQ (s3.rd.cfg (j:=0) (n:=1) rfl) ?_);refine wy (n:=c.labels.length) (by omega) (by omega) (λi (v:aH) o=>∃(t:List cJ) (z:RS) (m:List Nat),t.length=i/\(v.eZ=i64 tick/\v.aD=⟨none,0,0⟩)/\SB d h l g bs x o z (r++m)/\mo x c o r/\Fc v.cS t o m/\
    ∀(C:Type) (f:List cJ->D C),cM r3 (D.bind (D.many (λ_=>pU c.log c.ag (c.procs.length:Int)) c.labels.length []) f) bs=cM z (D.bind (D.many (λ_=>pU c.log c.ag (c.procs.length:Int)) (c.labels.length-i) t) f) bs)
   ⟨[],r3,[],rfl,⟨rfl,rfl⟩,by simpa using s3,e4,bh.nil,λ_ _=>rfl⟩ ?_ ?_
  ·rintro i Y v o ⟨t,z,m,c5,hv,U,b2,o4,X⟩ K V;have b1:∀b∈r++m,o b≠none:=λb hb=>by
    rcases List.mem_append.1 hb with hb | hb
    ·exact fp.known b2 b hb
    ·exact kV.known o4 b hb
   refine S7 (Zq U.rd (by rw [c1];omega) λy p J B' k5 t5 H c2=>⟨⟨trivial,trivial⟩,?_⟩);have A:=U.andThen b1 t5;have c7:=U.kept b1 t5;refine lT (xs:=[y]) (enc:=λx=>bA (bx.enc x)) (sz:=6) rfl (λ_=>rfl) λb6 F _ b5 _ o6=>⟨⟨trivial,trivial⟩,?_⟩;have N:=A.grow b5;have B:∀b∈r++m,F b=o b:=λb hb=>by rw [<-c7 b hb];exact xp b5 (λb hb=>by rw [c7 b hb];exact b1 b hb) b hb
   have oe:=kU.same H (xp b5 (kU.known H));refine vd (P:=r) (M:=m) (S:=[]) (B':=B') kU a.le (by simpa using N) (kV.same o4 λb hb=>B b (cc hb)) (v:=y) (p:=p) oe (λb hb=>by
    rw [List.append_nil] at hb;rw [B b (cg hb)];exact b1 b (cg hb)) (o6.rw λ_=>rfl) (λ_=>rfl) (λ_=>rfl) rfl (by omega) λl7 k7 M7 s7 o7 a8=> ?_
   rw [List.append_nil] at s7;refine V _ k7 ⟨t++ [p],J,M7,by simp [c5],hv,s7,fp.same b2 λb hb=>(a8 b (by rw [List.append_nil];exact hb)).trans (B b (cg hb)),o7,λC f=> ?_⟩;have E:c.labels.length-i=(c.labels.length-(i+1))+1:=by omega
   rw [d1,c1,c4] at c2;rw [X,E,wV,jh,c2]
  ·rintro v o ⟨t,z,m,c5,⟨e0,c0⟩,U,b2,o4,d3⟩;refine aJ (bg (sh:=aw) x.aD (U.rd.cfg (j:=6) (n:=1) rfl) ?_);refine wy (n:=c.procs.length) (by omega) (by omega) (λi (v:aH) o=>∃(u:List aj) (J:RS) (m w:List Nat),u.length=i/\v.eZ=i64 tick/\SB d h l g bs x o J (r++(m++w))/\mo x c o r/\Fc v.cS t o m/\Np v.aD u o w/\
     ∀(C:Type) (f:List aj->D C),cM z (D.bind (D.many (λ_=>uj c.labels.length c.lane (c.procs.length:Int)) c.procs.length []) f) bs=cM J (D.bind (D.many (λ_=>uj c.labels.length c.lane (c.procs.length:Int)) (c.procs.length-i) u) f) bs)
    ⟨[],z,m,[],rfl,e0,by simpa using U,b2,o4,by rw [c0];exact bh.nil,λ_ _=>rfl⟩ ?_ ?_
   ·rintro i Y v o ⟨u,J,m,w,c6,hv,A,I,H,q5,X⟩ K V;have T:∀b∈r++(m++w),o b≠none:=λb hb=>by
     rcases List.mem_append.1 hb with hb | hb
     ·exact fp.known I b hb
     ·rcases List.mem_append.1 hb with hb | hb
      ·exact kV.known H b hb
      ·exact pR.known q5 b hb
    refine S8 (Zt A.rd (by omega) λy p r6 B' F t6 o6 c3=>⟨⟨trivial,trivial⟩,?_⟩);have N:=A.andThen T t6;have B:=A.kept T t6;refine lT (xs:=[y]) (enc:=λx=>bA (aI.enc x)) (sz:=15) rfl (λ_=>rfl) λb7 k7 _ b8 _ o7=>⟨⟨trivial,trivial⟩,?_⟩;have s7:=N.grow b8;have a8:∀b∈r++(m++w),k7 b=o b:=λb hb=>by rw [<-B b hb];exact xp b8 (λb hb=>by rw [B b hb];exact T b hb) b hb
    have oe:=fY.same o6 (xp b8 (fY.known o6));have w1:=fp.same I λb hb=>a8 b (cg hb);have w2:=kV.same H λb hb=>a8 b (cc (cg hb));have w3:=pR.same q5 λb hb=>a8 b (cc (cc hb));refine vd (P:=r++m) (M:=w) (S:=[]) (B':=B') fY a.le (by simpa [List.append_assoc] using s7) w3 (v:=y) (p:=p) oe (λb hb=>by
     rw [List.append_nil] at hb;rcases List.mem_append.1 hb with hb | hb
     ·exact fp.known w1 b hb
     ·exact kV.known w2 b hb) (o7.rw λ_=>rfl) (λ_=>rfl) (λ_=>rfl) rfl (by omega) λl8 k8 M8 s8 o8 c8=> ?_
    refine V _ k8 ⟨u++ [p],r6,m,M8,by simp [c6],hv,by simpa [List.append_assoc] using s8,fp.same w1 λb hb=>c8 b (by rw [List.append_nil];exact cg hb),kV.same w2 λb hb=>c8 b (by rw [List.append_nil];exact cc hb),o8,λC f=> ?_⟩;have E:c.procs.length-i=(c.procs.length-(i+1))+1:=by omega
    rw [d6,d0,c4] at c3;rw [X,E,wV,jh,c3]
   ·rintro v o ⟨u,J,m,w,c6,hv,A,I,H,q5,d4⟩;have T:∀b∈r++(m++w),o b≠none:=λb hb=>by
     rcases List.mem_append.1 hb with hb | hb
     ·exact fp.known I b hb
     ·rcases List.mem_append.1 hb with hb | hb
      ·exact kV.known H b hb
      ·exact pR.known q5 b hb
    have b3:cM (.ok 0) iP bs=cM J (D.ret (c,(⟨i64 tick,t,u⟩:aR))) bs:=by unfold iP;rw [d9];unfold zJ;rw [jh,rA,b4.map,jh];have E:=d3 _ λparts=>D.bind (D.bind (D.many (λ_=>uj c.labels.length c.lane (c.procs.length:Int)) c.procs.length []) λprocs=>D.ret (⟨i64 tick,parts,procs⟩:aR)) λs=>D.ret (c,s);rw [Nat.sub_self] at E;refine E.trans ?_;show cM _ (D.bind (D.bind (D.many _ _ _) _) _) bs=_;rw [jh];have e2:=d4 _ λprocs=>D.bind (D.ret (⟨i64 tick,t,procs⟩:aR)) λs=>D.ret (c,s);rw [Nat.sub_self] at e2;exact e2
    have b0:lL v ⟨i64 tick,t,u⟩ o (m++w):=⟨m,w,rfl,H,q5,hv⟩;obtain ⟨p,e,pl,G,Z⟩:=A.rd.fW;have e7:g.len=bs.length:=a.src.1;refine aJ (bg (sh:=af .i64) p (G.bU (off:=1) (n:=1) rfl) (aJ (bg (sh:=aw) g (G.bU (off:=0) (n:=1) rfl) ?_)));cases J with
    | error y=>
     obtain ⟨er,q⟩:=y;have hE:HL bs (.error (er,q)) c ⟨i64 tick,t,u⟩:=W1 c9 b3;by_cases R:p<((g.len:Nat):Int)
     ·rw [if_pos (decide_eq_true R)];refine aJ (aJ (bg (sh:=af .i64) p (G.bU (off:=1) (n:=1) rfl) (AP (Da G λF m6 a9=> ?_))));obtain ⟨rfl,b9,rfl⟩:=Z;rw [if_neg b9,if_neg b9] at a9;have a6:mf d F l g bs (.error (e,q)) x:=⟨(m6.le A.rd.le λc L=>by rw [List.mem_singleton.1 L];exact a.out).1,a.out,a.src,a.cap,a.small,_,_,_,a9,rfl,b9,rfl⟩;obtain ⟨N,B⟩:=A.next T m6 a6;exact hq v ⟨i64 tick,t,u⟩ x c _ r (m++w) F N (fp.same I λb hb=>B b (cg hb)) (nu.same b0 λb hb=>B b (cc hb)) hE
     ·rw [if_neg (λe=>R (of_decide_eq_true e))];exact hq v ⟨i64 tick,t,u⟩ x c _ r (m++w) o A I b0 hE
    | ok at_=>
     obtain ⟨rfl,rfl,e5⟩:=Z;have hw:=ZF c9 (b3:cM (.ok 0) iP bs=.ok ((c,⟨i64 tick,t,u⟩),at_));by_cases R:at_<bs.length
     ·have d7:(at_:Int)<((g.len:Nat):Int):=by omega
      rw [if_pos (decide_eq_true d7)];rw [if_pos R] at hw;refine aJ (aJ (bg (sh:=af .i64) (at_:Int) (G.bU (off:=1) (n:=1) rfl) (AP (Da G λF m6 a9=> ?_))));rw [if_pos rfl,if_pos rfl] at a9;have a6:mf d F l g bs (.error (6,at_)) x:=⟨(m6.le A.rd.le λc L=>by rw [List.mem_singleton.1 L];exact a.out).1,a.out,a.src,a.cap,a.small,_,_,_,a9,rfl,by decide,rfl⟩;obtain ⟨N,B⟩:=A.next T m6 a6;exact hq v ⟨i64 tick,t,u⟩ x c _ r (m++w) F N (fp.same I λb hb=>B b (cg hb)) (nu.same b0 λb hb=>B b (cc hb)) hw
     ·rw [if_neg (λe=>R (by have e:(at_:Int)<((g.len:Nat):Int):=of_decide_eq_true e;omega))];rw [if_neg R] at hw;refine hq v ⟨i64 tick,t,u⟩ x c _ r (m++w) o A I b0 ⟨hw,?_⟩;have c0:=(pL.sound bs 0 _ _ (b3:iP bs 0=.ok ((c,⟨i64 tick,t,u⟩),at_)) (Nat.zero_le _)).1;exact c0.1.1
end
theorem Ck {b d:Type} {f:b->List d} {B:Nat}:∀(l:List b),(∀x∈l,(f x).length<=B)->(l.flatMap f).length<=l.length*B
 | [],_=>by simp
 | x::l,a=>by have e:=a x (List.mem_cons_self ..);have g:=Ck l λy c=>a y (List.mem_cons_of_mem _ c);rw [List.flatMap_cons,List.length_append,List.length_cons,Nat.add_mul,Nat.one_mul];omega
theorem He {f g:Type}:∀ {l:List f} {m:List g},l.length=m.length->∀q∈m,∃z∈l.zip m,z.2=q
 | [],[],_,q,h=>by cases h
 | a::l,b::m,e,q,h=>by
  rcases List.mem_cons.1 h with rfl | h
  ·exact ⟨(a,q),List.mem_cons_self ..,rfl⟩
  ·obtain ⟨z,c,d⟩:=He (l:=l) (m:=m) (by simpa using e) q h;exact ⟨z,List.mem_cons_of_mem _ c,d⟩
 | [],_::_,e,_,_=>by cases e
 | _::_,[],e,_,_=>by cases e
theorem abG {c:aL} {s:aR} (mI:Hk c) (h:lM c s):(sK s).length<=200000:=by
 obtain ⟨_,a1,a2,_⟩:=h;obtain ⟨t,k⟩:=zz a1;obtain ⟨u,m⟩:=zz a2;have f1:=mI.nl;have f2:=mI.np;have f3:=mI.ag;have v:(s.parts.flatMap wu).length<=s.parts.length*2048:=Ck _ λx e=>by
  obtain ⟨_,_,_,_,_,⟨j,a,n,b⟩,f⟩:=k x e;rw [List.nil_append] at a;have b:=(zl (V:=nW (c.procs.length:Int)) j []).1 b;have g:x.au.length=j.length:=by rw [<-a,List.length_zip,f];simp
  have o:(wu x).length<=x.au.length*256:=by unfold wu;rw [<-List.flatMap_id];refine Ck _ λq g=> ?_;obtain ⟨z,i,r⟩:=He f q g;rw [a] at i;obtain ⟨_,⟨⟨_,d⟩,_⟩,_⟩:=b z i;have d:((z.2.length:Nat):Int)<256:=d;rw [<-r];show z.2.length<=256;omega
  have:x.au.length*256<=8*256:=Nat.mul_le_mul_right _ (by omega);omega
 have w:(s.procs.flatMap vF).length<=s.procs.length*2304:=Ck _ λx e=>by
  obtain ⟨_,_,_,_,_,_,_,a,_⟩:=m x e;obtain ⟨n,b⟩:=zz a;have o:(vF x).length<=x.ak.length*256:=by refine Ck _ λl p=> ?_;obtain ⟨_,_,⟨⟨_,d⟩,_⟩,_⟩:=b l p;have d:((l.waiters.length:Nat):Int)<256:=d;rw [List.length_map];omega
  have:x.ak.length*256<=9*256:=Nat.mul_le_mul_right _ (by omega);omega
 unfold sK;rw [List.length_append];have y:s.parts.length*2048<=8*2048:=Nat.mul_le_mul_right _ (by omega);have A:s.procs.length*2304<=32*2304:=Nat.mul_le_mul_right _ (by omega);omega
def CU :aH:=⟨0,⟨none,0,0⟩,⟨none,0,0⟩⟩
def iG (a:List UInt8) (e:Int) (p:Nat):Prop:=oy iP a=.error (e,p)\/∃c s,oy iP a=.ok (c,s)/\p=0/\nX c s e
theorem DO {h:Hp} {b:Sl} {a:List UInt8} {Q:an->aH->Int->Int->Hp->Prop} (K:Bs h b a) (a8:b.len<=b.cap)
  (L:∀e p j,h<=j->e≠0->iG a e p->Q mV CU e (p:Int) j)
  (b2:∀x v c s f g j,h<=j->oy iP a=.ok (c,s)->(fa c).1=0->kh c s->mo x c j f->lL v s j g->(f++g).Nodup->(∀b∈f++g,h b=none)->Q x v 0 0 j):
  zyr prog b Q h:=by
 unfold zyr;have b6:b.len=a.length:=K.1;by_cases N:1048576<a.length
 ·rw [if_pos (iW)];exact L 22 1048576 h (Hp.le_refl _) (by decide) (.inl (by unfold oy;rw [if_pos N]))
 rw [if_neg (λe=>N (by have:=of_decide_eq_true e;omega))];refine ln λt A U S Z=> ?_;have a1:mf h A t b a (.ok 0) mV:=⟨S,U,K,a8,by omega,0,0,0,Z,rfl,rfl,by omega⟩;refine SW (W5 a1 (by omega) λv s x c r1 f g B s2 I J M=> ?_);have b0:∀b∈f++g,h b=none:=λb hb=>qj S (s2.fresh b hb);obtain ⟨p,e,r,i,V⟩:=s2.rd.fW;refine da.intro (λk=>h<=k/\∃at_ e r:Int,eS k t (nV b at_ e r++jD x)/\((e≠0/\∃q:Nat,r=(q:Int)/\iG a e q)\/(e=0/\oy iP a=.ok (c,s)/\(fa c).1=0/\kh c s/\mo x c k f/\lL v s k g))) ?_ ?_
 ·refine aJ (bg (sh:=af .i64) e (i.bU (off:=2) (n:=1) rfl) ?_);cases r1 with
  | error y=>obtain ⟨er,q⟩:=y;obtain ⟨rfl,u,rfl⟩:=V;rw [if_neg (by simpa using u)];exact ⟨s2.rd.le,p,e,q,i,.inl ⟨u,q,rfl,.inl M⟩⟩
  | ok at_=>
   obtain ⟨rfl,rfl,b5⟩:=V;obtain ⟨w,O⟩:=M;have b3:=(Et pL w).1;have mI:=Ov _ (zi c) O;have b4:=((BA (zi c)).2 O).1;rw [if_pos (by simp)];refine aJ (aJ (bg (sh:=aA) x (i.bU (off:=4) (n:=7) rfl) ?_));have P:∀n k,B<=k->nX c s n->(n=0->(fa c).1=0/\kh c s)->aM prog yO [(.pointer (some (Addr.add ⟨t,0,none⟩ 0))),(.int .i64 n),(.int .i64 (0:Int))] (λC=>h<=C/\∃at_ e r:Int,eS C t (nV b at_ e r++jD x)/\
     ((e≠0/\∃q:Nat,r=(q:Int)/\iG a e q)\/(e=0/\oy iP a=.ok (c,s)/\(fa c).1=0/\kh c s/\mo x c C f/\lL v s C g))) k:=λn k d Y z=>by
    refine AP (Da (i.le d) λk4 X W=> ?_);rw [if_pos rfl,if_pos rfl] at W;refine ⟨(X.le (Hp.le_trans s2.rd.le d) λc m=>by rw [List.mem_singleton.1 m];exact U).1,_,_,_,W,?_⟩;by_cases F:n=0
    ·obtain ⟨D,E⟩:=z F;have R:∀b∈f++g,k4 b=B b:=λb hb=>by
      have b1:B b≠none:=by
       rcases List.mem_append.1 hb with hb | hb
       ·exact fp.known I b hb
       ·exact nu.known J b hb
      cases e:B b with
      | none=>exact absurd e b1
      | some o=>exact X.bO b o (d b o e) λhr=>s2.nr (by rw [<-List.mem_singleton.1 hr];exact hb)
     exact .inr ⟨F,w,D,E,fp.same I λb hb=>R b (cg hb),nu.same J λb hb=>R b (cc hb)⟩
    ·exact .inl ⟨F,0,rfl,.inr ⟨c,s,w,rfl,Y⟩⟩
   refine zsd (E7 I.rd J.rd (λl hl=> ?_) (λ_ _ _ _=>Nat.le_trans (abG mI b3.2) (by decide)) (λm k d=>P _ k d (.inl ⟨m,rfl⟩) λz=>absurd z m) λm n k d T=>P n k d (.inr ⟨m,T⟩) λz=> ?_)
   ·have:=b4.1 l hl;exact ⟨this.1,this.2⟩
   ·rcases T with ⟨_,A⟩ | ⟨A,_⟩
    ·exact ⟨m,A⟩
    ·omega
 ·rintro k ⟨d,at_,e,r,i,a9⟩;refine aJ (bg (sh:=af .i64) e (i.bU (off:=2) (n:=1) rfl) ?_);rcases a9 with ⟨u,q,rfl,hS⟩ | ⟨rfl,w,D,E,o1,o2⟩
  ·rw [if_pos (by simpa using u)];have G:aZ k ⟨t,2,none⟩ [.int .i64 e]:=i.bU (off:=2) (n:=1) rfl;have H:aZ k ⟨t,3,none⟩ [.int .i64 (q:Int)]:=i.bU (off:=3) (n:=1) rfl;exact aJ (bg (sh:=af .i64) e G (aJ (bg (sh:=af .i64) (q:Int) H ⟨⟨G,H,trivial⟩,⟨G,H,trivial⟩,L e q k d u hS⟩)))
  ·rw [jO];exact aJ (bg (sh:=aA) x (i.bU (off:=4) (n:=7) rfl) ⟨⟨trivial,trivial⟩,b2 x v c s f g k d w D E o1 o2 s2.nd b0⟩)
theorem DP {P:Program} {t:Nat} {x y:Operand} {h:Hp} {a:Array Value} (L:List (Field×IntKind×Int)) (i:P.underlying t=some (.struct (L.map (·.1)).toArray)) (k:P.eqGuardType P.depth t=false) (hp:P.stoodInHeld t=false)
  (j:∀q∈L,q.1.name≠ "_" ∧P.underlying q.1.type=some (.int q.2.1)∧a[q.1.offset]? =some (.int q.2.1 q.2.2)):
  kY P (dx .neq t x y (.agg a) (.agg a)) h (.bool false):=by
 refine OW λw=> ?_;have g:P.fieldsOf t=(L.map (·.1)).toArray:=by unfold Program.fieldsOf;rw [i]
 have n:P.underlying t=some (.struct (P.fieldsOf t)):=by rw [g];exact i
 have e:=run_equalIn_struct (P:=P) w 9999 t a a n hp;rw [g] at e;have f:=Sa (P:=P) 9998 a a (L.map λq=>(q.1,q.2.1,q.2.2,q.2.2)) w λq l=>by obtain ⟨o,m,rfl⟩:=List.mem_map.1 l;obtain ⟨b,c,d⟩:=j o m;exact ⟨b,c,d,d⟩
 have b:(L.map λq=>(q.1,q.2.1,q.2.2,q.2.2)).map (·.1)=L.map (·.1):=by rw [List.map_map];rfl
 have c:((L.map λq=>(q.1,q.2.1,q.2.2,q.2.2)).all λq=>q.2.2.1==q.2.2.2)=true:=by simp
 rw [b,c] at f;unfold dx;simp only [Sem.run_bind,run_eqGuard_agg w .neq t x y a a k,Result.andThen_ok,run_neq_struct];rw [show (10000:Nat)=9999+1 from rfl,e];simp only [f,Result.andThen_ok,Bool.not_true]
theorem eqI {P:Program} (d:Nat) {e:TypeId} (c:P.underlying e=some (.int .i64)) (b:Array Value):∀(a:List Nat) (w:World),(∀j∈a,∃n,b[j]? =some (.int .i64 n))->(Op.eqItems (d+1) e 1 b b a).run P w=.ok true w
 | [],w,_=>by simp [Op.eqItems]
 | j::a,w,h=>by
  obtain ⟨n,i⟩:=h j (List.mem_cons_self ..);have k:=eqI d c b a w λl g=>h l (List.mem_cons_of_mem _ g);have f:(isAgg e).run P w=.ok false w:=by simp [isAgg,run_underlying c]
  simp only [Op.eqItems,Sem.run_bind,part,f,Result.andThen_ok,Bool.false_eq_true,if_false,Nat.mul_one,i,Sem.run_pure,run_equalIn_int w d e .i64 .i64 n n c];simp [k]
theorem adb {P:Program} {t e n:Nat} {x y:Operand} {h:Hp} {a:Array Value} (l:P.underlying t=some (.array n e)) (b:(P.info? e).isSome=true) (f:P.underlying e=some (.int .i64)) (d:P.cellsOf e=1) (g:P.eqGuardType P.depth t=false)
  (m:∀j,j<n->∃v,a[j]? =some (.int .i64 v)):kY P (dx .neq t x y (.agg a) (.agg a)) h (.bool false):=by
 obtain ⟨i,b⟩:=Option.isSome_iff_exists.1 b;refine OW λw=> ?_;have c:=run_equalIn_array (P:=P) (w:=w) 9999 a a l b;rw [d,eqI 9998 f a _ w λj k=>m j (List.mem_range.1 k)] at c;unfold dx;simp only [Sem.run_bind,run_eqGuard_agg w .neq t x y a a g,Result.andThen_ok,run_neq_struct];rw [show (10000:Nat)=9999+1 from rfl,c];simp only [Result.andThen_ok,Bool.not_true]
section
variable {P:Program} {h:Hp} {Q:Bool->Hp->Prop}
theorem ad9 {a b:Sl} {c:List Int} (e:Is h a c) (f:Is h b c) (r:c.length<=140737488355328) (o:Q true h):UY P a b Q h:=by
 unfold UY;have g:a.len=c.length:=e.1;have j:b.len=c.length:=f.1;rw [if_neg (by rw [g,j];simp)];refine gh (n:=c.length) (by omega) (by omega) (λ_ l=>l=h) rfl ?_ ?_
 ·rintro i q k rfl K m;refine mE (sh:=af .i64) e λ(x:Int) p=> ?_;refine mE (sh:=af .i64) f λ(y:Int) d=> ?_;rw [p] at d;rw [if_neg (by simp [Option.some.inj d])];exact m k rfl
 ·rintro k rfl;exact o
theorem acs {a b:Sl} {c:List Int} (e:Us h a c) (f:Us h b c) (r:c.length<=140737488355328) (o:Q true h):Uq P a b Q h:=by
 unfold Uq;have g:a.len=c.length:=e.1;have j:b.len=c.length:=f.1;rw [if_neg (by rw [g,j];simp)];refine gh (n:=c.length) (by omega) (by omega) (λ_ l=>l=h) rfl ?_ ?_
 ·rintro i q k rfl K m;refine mE (sh:=af .u64) e λ(x:Int) p=> ?_;refine mE (sh:=af .u64) f λ(y:Int) d=> ?_;rw [p] at d;rw [if_neg (by simp [Option.some.inj d])];exact m k rfl
 ·rintro k rfl;exact o
theorem P1 {a b:Sl} {c:List Int} (e:Is h a c) (f:Is h b c) (r:c.length<=140737488355328) (o:Q true h):Xu P a b Q h:=by
 unfold Xu;have g:a.len=c.length:=e.1;have j:b.len=c.length:=f.1;rw [if_neg (by rw [g,j];simp)];refine gh (n:=c.length) (by omega) (by omega) (λ_ l=>l=h) rfl ?_ ?_
 ·rintro i q k rfl K m;refine mE (sh:=af .i64) e λ(x:Int) p=> ?_;refine mE (sh:=af .i64) f λ(y:Int) d=> ?_;rw [p] at d;rw [if_neg (by simp [Option.some.inj d])];exact m k rfl
 ·rintro k rfl;exact o
theorem W7 {x y:aS} (h:bu x=bu y):x=y:=by cases x;cases y;simp [bu] at h;simp [h]
theorem aea {x y:eV} (h:Ap x=Ap y):x=y:=by cases x;cases y;simp [Ap] at h;simp [h]
theorem ade {x y:bN} (h:vT x=vT y):x=y:=by cases x;cases y;simp [vT] at h;simp [h]
theorem Gx {c g:Type} {f:c->g} (d:∀ {x y},f x=f y->x=y) {l m:List c} (h:l.map f=m.map f):l=m:=by
 induction l generalizing m with
 | nil=>cases m with
  | nil=>rfl
  | cons b m=>cases h
 | cons a l e=>cases m with
  | nil=>cases h
  | cons b m=>simp only [List.map_cons,List.cons.injEq] at h;rw [d h.1,e h.2]
theorem W9 {a b:Sl} {c:List aS} (f:nG h a c) (g:nG h b c) (s:c.length<=140737488355328) {Q:Bool->Hp->Prop} (d:Q true h):Xw prog a b Q h:=by
 unfold Xw;have j:a.len=c.length:=f.1;have l:b.len=c.length:=g.1;rw [if_neg (by rw [j,l];simp)];refine gh (n:=c.length) (by omega) (by omega) (λ_ m=>m=h) rfl ?_ ?_
 ·rintro i r k rfl K o;refine mE (sh:=aT) f λx p=> ?_;refine mE (sh:=aT) g λy e=> ?_;rw [p] at e;cases e;refine ⟨false,DP [(⟨ "Op",3,0,false, "", "",0⟩,.i64,x.Op),(⟨ "A",3,1,false, "", "",8⟩,.i64,x.A),(⟨ "B",3,2,false, "", "",16⟩,.i64,x.B),(⟨ "C",3,3,false, "", "",24⟩,.i64,x.C),(⟨ "Imm",2,4,false, "", "",32⟩,.i64,x.jM)]
   (cD.cH 87 DM rfl) (by kernel_rfl) (by kernel_rfl) (λq d=> ?_),?_⟩
  ·simp only [List.mem_cons,List.not_mem_nil,or_false] at d;rcases d with rfl | rfl | rfl | rfl | rfl
   ·exact ⟨by simp,cD.cH 3 zV rfl,rfl⟩
   ·exact ⟨by simp,cD.cH 3 zV rfl,rfl⟩
   ·exact ⟨by simp,cD.cH 3 zV rfl,rfl⟩
   ·exact ⟨by simp,cD.cH 3 zV rfl,rfl⟩
   ·exact ⟨by simp,cD.cH 2 wJ rfl,rfl⟩
  ·dsimp only;rw [jO];exact o k rfl
 ·rintro k rfl;exact d
end
structure sV (c:aL):Prop where
 labels:c.labels.length<=140737488355328
 table:c.table.length<=140737488355328
 procs:c.procs.length<=140737488355328
 code:∀p∈c.procs,p.code.length<=140737488355328
structure Fe (l:aX):Prop where
 values:l.values.length<=140737488355328
 waiters:l.waiters.length<=140737488355328
structure te (s:aR):Prop where
 parts:s.parts.length<=140737488355328
 procs:s.procs.length<=140737488355328
 log:∀x∈s.parts,x.log.length<=140737488355328/\x.ax.length<=140737488355328/\x.au.length<=140737488355328/\∀q∈x.au,q.length<=140737488355328
 ak:∀x∈s.procs,x.ak.length<=140737488355328/\∀l∈x.ak,Fe l
section
variable {h:Hp} {Q:Bool->Hp->Prop}
theorem aec {a b:an} {c:aL} (d:eT h a c) (f:eT h b c) (g:sV c) (C:Q true h):UU prog a b Q h:=by
 unfold UU;obtain ⟨G,m,j⟩:=d.procs;obtain ⟨H,r,l⟩:=f.procs;have s:=j.len;have t:=l.len;have u:a.aD.len=G.length:=m.1;have v:b.aD.len=H.length:=r.1;have J:=g.procs;refine zrk (acs d.labels f.labels g.labels ?_);refine ⟨λ_=>zsz (ad9 d.table f.table g.table ?_),λe=>(by cases e)⟩;refine aE (aE (aE (aE (aE (aE ?_)))));rw [if_neg (by rw [d.fuel,f.fuel,d.lane,f.lane,d.ag,f.ag,d.log,f.log,u,v,s,t];simp)];refine gh (n:=c.procs.length) (by omega) (by omega) (λ_ w=>w=h) rfl ?_ ?_
 ·rintro i I k rfl K z;refine Rw.wv m (λ_=>rfl) (by omega) (sh:=af .i64) (λq=>q.Part) (λ_=>rfl) (by omega) (by omega) λx E=> ?_;refine Rw.wv r (λ_=>rfl) (by omega) (sh:=af .i64) (λq=>q.Part) (λ_=>rfl) (by omega) (by omega) λy F=> ?_;obtain ⟨p,A,B,_⟩:=j.get E;obtain ⟨q,o,D,_⟩:=l.get F;rw [A] at o;cases o;rw [if_neg (by rw [B,D];simp)];exact z k rfl
 ·rintro k rfl;exact C
theorem Xb {a b:an} {c:aL} (n:eT h a c) (o:eT h b c) (d:sV c) (v:Q true h):Xs prog a b Q h:=by
 unfold Xs;obtain ⟨D,l,e⟩:=n.procs;obtain ⟨M,w,f⟩:=o.procs;have E:=e.len;have F:=f.len;have G:a.aD.len=D.length:=l.1;have K:=d.procs;refine zsx (aec n o d ?_);refine bL.intro (λok t k=>k=h/\ok=true/\∃i:Nat,t=(i:Int)/\i<=c.procs.length) (λ_ t _=>(c.procs.length-t).toNat) ⟨rfl,rfl,0,rfl,by omega⟩ ?_;rintro ok t k ⟨rfl,rfl,i,rfl,H⟩;refine aE ?_;by_cases I:i<c.procs.length
 ·rw [if_pos (by simp;omega)];refine Rw.wv l (λ_=>rfl) (by omega) (sh:=aw) (λq=>q.Code) (λ_=>rfl) (by omega) (by omega) λx z=> ?_;refine Rw.wv w (λ_=>rfl) (by omega) (sh:=aw) (λq=>q.Code) (λ_=>rfl) (by omega) (by omega) λy A=> ?_;obtain ⟨p,j,J,B,r,g⟩:=e.get z;obtain ⟨q,m,L,C,u,s⟩:=f.get A;rw [j] at m;cases m;have:B=C:=Gx W7 (g.trans s.symm);subst this;refine zxi (W9 r u (by have:=d.code p (List.mem_of_getElem? j);rw [<-g,List.length_map] at this;exact this) ?_);rw [aV];exact ⟨⟨rfl,rfl,i+1,by omega,by omega⟩,by omega⟩
 ·rw [if_neg (by simp;omega)];exact v
theorem aee {a b:bF} {l:aX} (c:jA h a l) (d:jA h b l) (o:Fe l) (g:Q true h):U0 prog a b Q h:=by
 unfold U0;obtain ⟨e,s,r⟩:=c.waiters;obtain ⟨E,p,C⟩:=d.waiters;have:e=E:=Gx ade (r.trans C.symm);subst this;have u:a.cF.len=l.values.length:=c.values.1;have v:b.cF.len=l.values.length:=d.values.1;have w:a.bJ.len=e.length:=s.1;have z:b.bJ.len=e.length:=p.1;have F:=o.values;have A:=o.waiters;rw [<-r,List.length_map] at A;refine aE (aE (aE ?_));rw [if_neg (by rw [u,v,w,z,c.taken,d.taken,c.dropped,d.dropped];simp)];refine gh (n:=l.values.length) (by omega) (by omega) (λ_ f=>f=h) rfl ?_ ?_
 ·rintro i B k rfl K m;refine Rs.get (sh:=af .i64) c.values (λ_=>rfl) (by omega) (i:=(i:Int)) (by omega) (by omega) λ(x:Int) t=> ?_;refine Rs.get (sh:=af .i64) d.values (λ_=>rfl) (by omega) (i:=(i:Int)) (by omega) (by omega) λ(y:Int) j=> ?_;grind
 ·rintro k rfl;refine gh (n:=e.length) (by omega) (by omega) (λ_ f=>f=k) rfl ?_ ?_
  ·rintro i B D rfl K m;refine mE (sh:=aC) s λx t=> ?_;refine mE (sh:=aC) p λy j=> ?_;rw [t] at j;cases j;refine ⟨false,DP [(⟨ "Proc",3,0,false, "", "",0⟩,.i64,x.cU),(⟨ "Value",2,1,false, "", "",8⟩,.i64,x.dt)]
    (cD.cH 254 yG rfl) (by kernel_rfl) (by kernel_rfl) (λq g=> ?_),?_⟩
   ·simp only [List.mem_cons,List.not_mem_nil,or_false] at g;rcases g with rfl | rfl
    ·exact ⟨by simp,cD.cH 3 zV rfl,rfl⟩
    ·exact ⟨by simp,cD.cH 2 wJ rfl,rfl⟩
   ·dsimp only;rw [jO];exact m D rfl
  grind
theorem AX {b e:Type} {R S:b->e->Prop} {c d:List b} {a:List e} {i:Nat} {x y:b} (f:dR R c a) (hb:dR S d a) (g:c[i]? =some x) (j:d[i]? =some y):∃z,a[i]? =some z/\R x z/\S y z:=by obtain ⟨p,k,l⟩:=f.get g;obtain ⟨q,m,n⟩:=hb.get j;grind
theorem ZQ {a b:aK} {p:aj} (c:eO h a p) (d:eO h b p) (E:p.ak.length<=140737488355328/\∀l∈p.ak,Fe l) (T:Q true h):Ul prog a b Q h:=by
 unfold Ul;obtain ⟨H,m,f⟩:=c.ak;obtain ⟨I,o,g⟩:=d.ak;have r:=f.len;have s:=g.len;have t:a.cR.len=H.length:=m.1;have u:b.cR.len=I.length:=o.1;have q: [a.cl,a.cm,a.cn,a.cp,a.cq,a.cv,a.cw,a.cC]=[b.cl,b.cm,b.cn,b.cp,b.cq,b.cv,b.cw,b.cC]:=c.aP.trans d.aP.symm;simp only [List.cons.injEq,and_true] at q;obtain ⟨J,L,r2,M,N,O,P,R⟩:=q;refine aE ⟨false,λ_=> ?_,?_⟩
 ·rw [J,L,r2,M,N,O,P,R];refine adb (n:=8) (e:=2) (cD.cH 79 Ky rfl) (by kernel_rfl) (cD.cH 2 wJ rfl) (by kernel_rfl) (by kernel_rfl) λj D=> ?_
  match j,D with
  | 0,_=>exact ⟨_,rfl⟩
  | 1,_=>exact ⟨_,rfl⟩
  | 2,_=>exact ⟨_,rfl⟩
  | 3,_=>exact ⟨_,rfl⟩
  | 4,_=>exact ⟨_,rfl⟩
  | 5,_=>exact ⟨_,rfl⟩
  | 6,_=>exact ⟨_,rfl⟩
  | 7,_=>exact ⟨_,rfl⟩
 refine aE (aE (aE (aE (aE (aE ?_)))));rw [if_neg (by rw [c.state,d.state,c.pc,d.pc,c.ai,d.ai,c.timer,d.timer,c.bB,d.bB,c.bP,d.bP,t,u,r,s];simp)];refine gh (n:=p.ak.length) (by omega) (by omega) (λ_ v=>v=h) rfl ?_ ?_
 ·rintro i S k rfl K C;refine Rs.get (sh:=bd) m (λ_=>rfl) (by omega) (i:=(i:Int)) (by omega) (by omega) λx F=> ?_;refine Rs.get (sh:=bd) o (λ_=>rfl) (by omega) (i:=(i:Int)) (by omega) (by omega) λy G=> ?_;obtain ⟨z,w,A,B⟩:=AX f g F G;refine zta (aee A B (E.2 z (List.mem_of_getElem? w)) ?_);rw [jO];exact C k rfl
 grind
theorem aeg {a b:bM} {p:cJ} (c:jB h a p) (d:jB h b p) (O:p.log.length<=140737488355328/\p.ax.length<=140737488355328/\p.au.length<=140737488355328/\∀q∈p.au,q.length<=140737488355328) (f:Q true h):UX prog a b Q h:=by
 unfold UX;obtain ⟨e,t,s⟩:=c.log;obtain ⟨H,u,M⟩:=d.log;have:e=H:=Gx aea (s.trans M.symm);subst this;obtain ⟨T,v,o⟩:=c.au;obtain ⟨U,w,r⟩:=d.au;have B:=o.len;have C:=r.len;have D:a.bQ.len=T.length:=v.1;have E:b.bQ.len=U.length:=w.1;have F:a.Log.len=e.length:=t.1;have G:b.Log.len=e.length:=u.1;obtain ⟨P,R,V,S⟩:=O;rw [<-s,List.length_map] at P;refine aE (aE (aE (aE ?_)));rw [if_neg (by rw [c.ai,d.ai,c.lost,d.lost,c.forbidden,d.forbidden,D,E,F,G,B,C];simp)];refine gh (n:=e.length) (by omega) (by omega) (λ_ j=>j=h) rfl ?_ ?_
 ·rintro i N k rfl K l;refine mE (sh:=cW) t λx m=> ?_;refine mE (sh:=cW) u λy g=> ?_;rw [m] at g;cases g;refine ⟨false,DP [(⟨ "Tick",2,0,false, "", "",0⟩,.i64,x.eZ),(⟨ "Proc",3,1,false, "", "",8⟩,.i64,x.cU),(⟨ "Value",2,2,false, "", "",16⟩,.i64,x.dt)]
   (cD.cH 121 CW rfl) (by kernel_rfl) (by kernel_rfl) (λq f=> ?_),?_⟩
  ·simp only [List.mem_cons,List.not_mem_nil,or_false] at f;rcases f with rfl | rfl | rfl
   ·exact ⟨by simp,cD.cH 2 wJ rfl,rfl⟩
   ·exact ⟨by simp,cD.cH 3 zV rfl,rfl⟩
   ·exact ⟨by simp,cD.cH 2 wJ rfl,rfl⟩
  ·dsimp only;rw [jO];exact l k rfl
 ·rintro k rfl;refine gh (n:=p.au.length) (by omega) (by omega) (λ_ j=>j=k) rfl ?_ ?_
  ·rintro i N A rfl K l;refine Rs.get (sh:=aw) v (λ_=>rfl) (by omega) (i:=(i:Int)) (by omega) (by omega) λx m=> ?_;refine Rs.get (sh:=aw) w (λ_=>rfl) (by omega) (i:=(i:Int)) (by omega) (by omega) λy g=> ?_;obtain ⟨z,I,J,L⟩:=AX o r m g;refine znr (P1 J L (S z (List.mem_of_getElem? I)) ?_);rw [jO];exact l A rfl
  ·rintro A rfl;exact znr (P1 c.ax d.ax R f)
theorem P2 {a b:aH} {s:aR} (m:dw h a s) (o:dw h b s) (c:te s) (S:Q true h):Xo prog a b Q h:=by
 unfold Xo;obtain ⟨N,v,q⟩:=m.parts;obtain ⟨P,A,t⟩:=o.parts;obtain ⟨O,w,r⟩:=m.procs;obtain ⟨R,B,u⟩:=o.procs;have C:=q.len;have D:=t.len;have E:=r.len;have F:=u.len;have G:a.cS.len=N.length:=v.1;have H:b.cS.len=P.length:=A.1;have I:a.aD.len=O.length:=w.1;have J:b.aD.len=R.length:=B.1;have T:=c.parts;have U:=c.procs;refine aE (aE ?_);rw [if_neg (by rw [m.tick,o.tick,G,H,I,J,C,D,E,F];simp)];refine gh (n:=s.parts.length) (by omega) (by omega) (λ_ d=>d=h) rfl ?_ ?_
 ·rintro i L k rfl K p;refine Rs.get (sh:=bx) v (λ_=>rfl) (by omega) (i:=(i:Int)) (by omega) (by omega) λx j=> ?_;refine Rs.get (sh:=bx) A (λ_=>rfl) (by omega) (i:=(i:Int)) (by omega) (by omega) λy l=> ?_;obtain ⟨z,e,f,g⟩:=AX q t j l;refine zsy (aeg f g (c.log z (List.mem_of_getElem? e)) ?_);grind
 ·rintro k rfl;refine gh (n:=s.procs.length) (by omega) (by omega) (λ_ d=>d=k) rfl ?_ ?_
  ·rintro i L M rfl K p;refine Rs.get (sh:=aI) w (λ_=>rfl) (by omega) (i:=(i:Int)) (by omega) (by omega) λx j=> ?_;refine Rs.get (sh:=aI) B (λ_=>rfl) (by omega) (i:=(i:Int)) (by omega) (by omega) λy l=> ?_;obtain ⟨z,e,f,g⟩:=AX r u j l;refine zqv (ZQ f g (c.ak z (List.mem_of_getElem? e)) ?_);rw [jO];exact p M rfl
  grind
end
theorem nX.uniq {c:aL} {s:aR} {e g:Int} (h:nX c s e) (i:nX c s g):e=g:=by
 rcases h with ⟨d,rfl⟩ | ⟨d,j⟩
 ·rcases i with ⟨_,rfl⟩ | ⟨f,_⟩
  ·rfl
  ·exact absurd f d
 ·rcases i with ⟨f,_⟩ | ⟨_,k⟩
  ·exact absurd d f
  ·rcases j with ⟨rfl,a⟩ | ⟨rfl,a⟩<;>rcases k with ⟨rfl,b⟩ | ⟨rfl,b⟩
   ·rfl
   ·exact absurd a b
   ·exact absurd b a
   ·rfl
theorem iG.uniq {b:List UInt8} {e d:Int} {p f:Nat} (h:iG b e p) (a:iG b d f):e=d/\p=f:=by
 rcases h with h | ⟨c,s,h,rfl,g⟩<;>rcases a with a | ⟨j,k,a,rfl,i⟩
 ·rw [h] at a;cases a;exact ⟨rfl,rfl⟩
 ·rw [h] at a;cases a
 ·rw [h] at a;cases a
 ·rw [h] at a;cases a;exact ⟨g.uniq i,rfl⟩
theorem iG.yi {b:List UInt8} {e:Int} {p:Nat} {c:aL} {s:aR} (h:iG b e p) (g:e≠0) (a:oy iP b=.ok (c,s)) (d:(fa c).1=0) (f:kh c s):False:=by
 rcases h with h | ⟨j,k,h,rfl,i⟩
 ·rw [h] at a;cases a
 ·rw [h] at a;cases a;exact g (i.uniq (.inr ⟨d,.inl ⟨rfl,f⟩⟩))
theorem Hk.le {c:aL} (h:nF c):sV c:=by obtain ⟨_,e⟩:=(BA (zi c)).2 h;obtain ⟨b,_,i,_,_,_,a,_,_,g,d⟩:=fA.1 e;have f:=(fN.1 b).2.1;exact ⟨by omega,by omega,by omega,λp hp=>by have:=((yZ ⟨a.1,a.2⟩).1 (d p hp).2).1;omega⟩
theorem lM.le {c:aL} {s:aR} (mI:Hk c) (h:lM c s):te s:=by
 obtain ⟨_,a1,a2,_⟩:=h;obtain ⟨t,m⟩:=zz a1;obtain ⟨u,n⟩:=zz a2;have f1:=mI.nl;have f2:=mI.np;have f3:=mI.ag;refine ⟨by omega,by omega,λx e=> ?_,λx e=> ?_⟩
 ·obtain ⟨_,⟨⟨_,d⟩,_⟩,_,_,_,⟨xs,a,o,b⟩,f⟩:=m x e;rw [List.nil_append] at a;have b:=(zl (V:=nW (c.procs.length:Int)) xs []).1 b;have j:x.au.length=xs.length:=by rw [<-a,List.length_zip,f];simp
  have d:((x.log.length:Nat):Int)<65536:=d;refine ⟨by omega,by omega,by omega,λq j=> ?_⟩;obtain ⟨z,k,r⟩:=He f q j;rw [a] at k;obtain ⟨_,⟨⟨_,i⟩,_⟩,_⟩:=b z k;have i:((z.2.length:Nat):Int)<256:=i;rw [<-r];omega
 ·obtain ⟨_,_,_,_,_,_,_,a,_⟩:=n x e;obtain ⟨o,b⟩:=zz a;refine ⟨by omega,λl p=> ?_⟩;obtain ⟨⟨⟨_,g⟩,_⟩,_,⟨⟨_,d⟩,_⟩,_⟩:=b l p;have g:((l.values.length:Nat):Int)<256:=g;have d:((l.waiters.length:Nat):Int)<256:=d;exact ⟨by omega,by omega⟩
def sE :aL:=⟨[0],[0],1,1,0,0,[⟨0,[]⟩]⟩
def yT :aX:=⟨[],[],0,0⟩
def sH :aR:=⟨0,[⟨0,[],0,0,[],[]⟩],[⟨0,0,[0,0,0,0,0,0,0,0],0,0,false,0,[yT,yT]⟩]⟩
theorem wZ {a:Type} {x y:a} {i:Nat} (h: [x][i]? =some y):i=0/\y=x:=by
 cases i with
 | zero=>simp at h;exact ⟨rfl,h.symm⟩
 | succ i=>simp at h
theorem P3 :(fa sE).1=0:=by decide
theorem P4 :kh sE sH:=by
 refine ⟨⟨⟨by decide,by decide⟩,rfl,rfl⟩,λi x a=> ?_,λp x y a c=> ?_,?_,?_,?_⟩
 ·obtain ⟨rfl,rfl⟩:=wZ a;exact ⟨⟨by decide,by decide,by decide⟩,trivial,⟨by decide,by decide⟩,⟨by decide,by decide⟩,by decide,by decide,by decide,λp hp=>by cases hp⟩
 ·obtain ⟨rfl,rfl⟩:=wZ a;obtain ⟨_,rfl⟩:=wZ c;refine ⟨by decide,by decide,rfl,by decide,by decide,by decide,by decide,by decide,λi l b=> ?_,λe=>absurd e (by decide),λe=>absurd e (by decide),λe=>absurd e (by decide),λe=>absurd e (by decide)⟩;have:l=yT:=by have:=List.mem_of_getElem? b;simpa using this
  subst this;refine ⟨by decide,⟨by decide,by decide⟩,⟨by decide,by decide⟩,λhu=> ?_⟩;rcases hu with hu | hu | hu
  ·exact absurd rfl hu
  ·exact absurd hu (by decide)
  ·exact absurd hu (by decide)
 ·intro i x a k q d;obtain ⟨rfl,rfl⟩:=wZ a;simp at d
 ·intro r x y a c i l b w f;obtain ⟨rfl,rfl⟩:=wZ a;have:l=yT:=by have:=List.mem_of_getElem? b;simpa using this
  subst this;cases f
 ·intro p x a;obtain ⟨rfl,rfl⟩:=wZ a;decide
theorem P5 :(iO sE sH).length=147:=by decide+kernel
theorem OU :oy iP (iO sE sH)=.ok (sE,sH):=by kernel_rfl
theorem P6 :oy iP [70,66,83,78,2]=.error (4,4):=by kernel_rfl
theorem rE {h:Hp} {c:List Value} {K:Addr->Hp->Prop} (d:∀b a,h<=a->eS a b c->K ⟨b,0,none⟩ a):bc c K h:=λb t e=>d b _ (mY e) ⟨t,nz⟩
theorem eS.rows {d:Type} {h:Hp} {b:Nat} {a:List Value} {sz:Nat} {enc:d->List Value} (k:eS h b a) (c:List d) {n m:Nat} (e:a=c.flatMap enc) (g:n=c.length) (f:∀x,(enc x).length=sz):Rw h sz enc ⟨some ⟨b,0,none⟩,n,m⟩ c:=by refine ⟨g,by rw [jv f],.inr ⟨_,rfl,?_⟩⟩;refine k.bU (off:=0) (n:=a.length) ?_;rw [List.drop_zero,List.take_length,e]
theorem wR {a:Type} {h:Hp} {sz:Nat} {enc:a->List Value}:Rw h sz enc ⟨none,0,0⟩ ([]:List a):=⟨rfl,by simp,.inl (by simp)⟩
def tB :bF:=⟨⟨none,0,0⟩,⟨none,0,0⟩,0,0⟩
theorem LL {h:Hp}:jA h tB yT:=⟨wR,⟨[],wR,rfl⟩,rfl,rfl⟩
theorem ZI {P:Program} {h:Hp} {Q:an->aH->Hp->Prop} (k:∀x y d,h<=d->eT d x sE->dw d y sH->Q x y d):Wt P Q h:=by
 unfold Wt;refine rE λa z r l=>rE λa1 A i m=>rE λa2 B f n=>rE λa3 C e o=>rE λa4 D c p=>rE λa5 g b q=> ?_;have s:=(((((l.le i).le f).le e).le c).le b);have t:=((((m.le f).le e).le c).le b);have u:=(((n.le e).le c).le b);have v:=((o.le c).le b);have w:=(p.le b);have j:h<=g:=Hp.le_trans r (Hp.le_trans i (Hp.le_trans f (Hp.le_trans e (Hp.le_trans c b))));refine k _ _ g j ⟨?_,?_,rfl,rfl,rfl,rfl,[⟨0,⟨none,0,0⟩⟩],?_,⟨rfl,[],wR,rfl⟩,trivial⟩ ⟨rfl,⟨[⟨0,⟨none,0,0⟩,0,0,⟨none,0,0⟩,⟨none,0,0⟩⟩],?_,⟨rfl,⟨[],wR,rfl⟩,rfl,rfl,wR,[],wR,trivial⟩,trivial⟩,
  [⟨0,0,0,0,0,0,0,0,0,0,0,0,false,0,⟨some ⟨a4,0,none⟩,2,2⟩⟩],?_,⟨rfl,rfl,rfl,rfl,rfl,rfl,rfl,[tB,tB],?_,LL,LL,trivial⟩,trivial⟩
 ·exact s.rows [(0:Int)] rfl rfl λ_=>rfl
 ·exact t.rows [(0:Int)] rfl rfl λ_=>rfl
 ·exact u.rows [(⟨0,⟨none,0,0⟩⟩:bR)] rfl rfl λ_=>rfl
 ·exact v.rows [(⟨0,⟨none,0,0⟩,0,0,⟨none,0,0⟩,⟨none,0,0⟩⟩:bM)] rfl rfl λ_=>rfl
 ·exact q.rows [(⟨0,0,0,0,0,0,0,0,0,0,0,0,false,0,⟨some ⟨a4,0,none⟩,2,2⟩⟩:aK)] rfl rfl λ_=>rfl
 ·exact w.rows [tB,tB] rfl rfl λ_=>rfl
theorem Uc {h:Hp} {Q:Bool->Hp->Prop} (g:∀m,h<=m->Q true m):Wo prog Q h:=by
 unfold Wo;refine zvy (ZI λx y P L k A=> ?_);have H:(sK sH).length<=1152921504606846976:=by decide+kernel
 refine KL (MV k A (λl a=>by simp [sE] at a;subst a;exact ⟨by decide,by decide⟩) (λ_ _ _ _=>H) (λ_ _=>by rw [P5];decide) (λe E _ f I=> ?_) λ_ _ out E M w=> ?_)
 ·exact absurd (I.uniq (.inr ⟨P3,.inl ⟨rfl,P4⟩⟩)) f
 have z:=w.rw sQ;have J:out.len=147:=by rw [z.1,P5]
 refine zsc (DO z w.2.1 (λe p F _ f i=>(i.yi f OU P3 P4).elim) λu v c s B C F N b _ _ O os _ _=> ?_);rw [OU] at b;cases b;refine GY [70,66,83,78,2] rfl rfl λam R r D=> ?_;refine zsc (DO D (by simp) (λe p n t f i=> ?_) λS T c s B C n _ b _ _ _ _ _ _=>by rw [P6] at b;cases b);obtain ⟨rfl,rfl⟩:=i.uniq (.inl P6);refine aE (aE (aE ?_));rw [J];have j:=Hp.le_trans M (Hp.le_trans N (Hp.le_trans r t));have o:=Hp.le_trans r t;have G:sV sE:=⟨by decide,by decide,by decide,λp hp=>by simp [sE] at hp;subst hp;decide⟩;have K:te sH:=by
  refine ⟨by decide,by decide,λx d=> ?_,λx d=> ?_⟩
  ·simp [sH] at d;subst d;exact ⟨by decide,by decide,by decide,λq g=>by cases g⟩
  ·simp [sH] at d;subst d;refine ⟨by decide,λl a=> ?_⟩;simp at a;subst a;exact ⟨by decide,by decide⟩
 refine ⟨λ_=>zxg (Xb (k.mono j) (O.rd.mono o) G ?_),λe=>(by simp at e)⟩;refine aE ⟨λ_=>znq (P2 (A.mono j) (os.rd.mono o) K ?_),λe=>(by simp at e)⟩;refine aE (aE (aE ?_));exact g n (Hp.le_trans L j)
end Lf
namespace Lf
open Go Go.ChangeShapes Go.WideShapes Go.ChangeAt Go.RowKit
def whole (W:World):Hp:=λb=>W.heap[b]?
theorem Xc (W:World):Sub (whole W) W:=λ_ _ e=>e
theorem aei (W:World) (a:Addr):dy (whole W) a=W.cell? a:=rfl
theorem acy {W a:World} {b:Hp} (c:whole W<=b) (st:Step (whole W) b W a):Below W.heap.size W a:=
 ⟨st.os,st.tape,st.output,st.size,λk d=>by
  cases e:W.heap[k]? with
  | some o=>exact st.sub _ _ (c _ _ e)
  | none=>simp at e;omega⟩
theorem MX {H:Type} {enc:TypeId×Value->H} {P:Program} (i:laidOutB P=true) {W g:World} {sp:Nat->Bool} (hb:Below W.heap.size W g):∀ {c:List TypeId} {f:List Value} {e:List (DataW H)} {b:List MemPlace},
  (∀t∈c,P.readableRec t=true/\t<P.types.size)->DataW.TrodAll enc P W 0 (λ_=>true) true c f e b->(∀x∈b,x.block<W.heap.size)->(∀x∈b,sp x.block=true)->DataW.TrodAll enc P g 0 sp true c f e b
 | [],_,_,_,_,h,_,_=>by obtain ⟨rfl,rfl,rfl⟩:=trodAll_nil h;exact trodAll_mk0
 | t::c,_,_,_,k,h,j,l=>by
  obtain ⟨v,f,d,e,p,q,rfl,rfl,rfl,m,n⟩:=trodAll_cons h;obtain ⟨o,r⟩:=k t (List.mem_cons_self ..);exact ⟨p,q,WideElems.Trod_stays i o r m (λx a=>hb.same (j x (List.mem_append_left _ a))) (λx a=>l x (List.mem_append_left _ a)),
   MX i hb (λt s=>k t (List.mem_cons_of_mem _ s)) n (λx a=>j x (List.mem_append_right _ a)) (λx a=>l x (List.mem_append_right _ a)),rfl⟩
theorem ZL {H:Type} {enc:TypeId×Value->H} {P:Program} {f:Func} {s:ChangeSpec} {W d:World} {h:Hp} {args:Array Value} {a gs:List (DataW H)} {g:List MemPlace} {t:TypeId} (o:laidOutB P=true)
  (u:∀t∈f.params.toList,P.readableRec t=true/\t<P.types.size) (k:s.vars=[]) (v:f.resultTypes= #[t]) (w:P.underlying t=some .bool)
  (n:gs=[]->s.fn H (a++gs)={results:=[.lit (.bool true)],args:=a}) (b:DataW.Whole enc P f.params.toList s.vars false W args.toList a gs g) (r:whole W<=h) (st:Step (whole W) h W d):
  s.post enc P f false true false false W args (.bool true) d:=by
 have hb:=acy r st;have j:∀p∈g,p.block<W.heap.size:=λp hp=>b.lt p hp;have m:=b;obtain ⟨p,q,l,i,rfl,y,z⟩:=m;rw [k] at i;obtain ⟨rfl,rfl⟩:=trodVars_none i;rw [List.append_nil] at j;have c:=n rfl;refine ⟨a,[],p++ [],[],p,[],b,?_,?_,?_,Below.frame hb _,λe=>(by cases e)⟩
 ·rw [c,v];exact trodAll_mk1 (shut_bool w true)
 ·rw [c];exact MX o hb u l j (λx A=>by grind)
 ·rw [c,k];exact rfl
theorem tC {H:Type} {enc:TypeId×Value->H} {C:Checked} {os:Os} {f:FuncId} {fn:Func} {s:ChangeSpec} {t:TypeId} (own:ownKnob C.prog.godebug=none) (L:os.Started) (K:C.prog.inits.idxOf? f=none) (o:C.prog.funcs[f]? =some fn)
  (N:∃(w:World) (tape:Tape) (i:Input),w.os=os/\(w.forCall tape i).Shaped C.prog/\i.vars=[]/\Input.okWide C.prog (w.forCall tape i) .any w.heap.size f i/\
   s.pre6 enc C.prog fn [] false (w.forCall tape i).memory i.args/\({}:Assume).holds C.prog (lone (Frame.enter C.prog f i.args .normal) [] (w.forCall tape i)))
  (z:laidOutB C.prog=true) (B:∀t∈fn.params.toList,C.prog.readableRec t=true/\t<C.prog.types.size) (b:s.vars=[]) (D:fn.resultTypes= #[t]) (G:C.prog.underlying t=some .bool)
  (M:∀(W:World) (base:Nat) (args:Array Value) (a:List (DataW H)) (p:List MemPlace),(∀(j:Nat) t v,fn.params[j]? =some t->args[j]? =some v->Value.okWide C.prog W .any base t v)->DataW.TrodAll enc C.prog W 0 (λ_=>true) true fn.params.toList args.toList a p->
   (DataW.weightsEach C.prog fn.params.toList a).all (· <=reachBytes)=true->
   s.fn H a={results:=[.lit (.bool true)],args:=a}/\ae C.prog f args.toList bH (λr c=>r=true/\whole W<=c) (whole W)):
  ReturnsInHanded {} C os f .any (s.pre6 enc C.prog fn [] false) (s.post enc C.prog fn false true false false):=by
 refine returnsInHanded_of_change_sized own L K o N ?_;intro W base args a gs P I g Q k _;have m:=g;obtain ⟨p,q,l,d,_,R,S⟩:=m;have u:gs=[]:=by rw [b] at d;exact (trodVars_none d).1
 subst u;have J:s.plain.varTypes C.prog=[]:=by unfold ChangeSpec.plain DataSpec.varTypes;rw [b];rfl
 rw [J,List.append_nil,List.append_nil] at k;obtain ⟨E,n⟩:=M W base args a p I l k;have h:=n W (Xc W);simp only [Array.toArray_toList] at h;refine h.mono λe O y=> ?_;obtain ⟨v,c,rfl,⟨x,rfl,rfl,A⟩,F⟩:=y;exact ⟨_,rfl,ZL z B b D G (λe=>by rw [e,List.append_nil];exact E) g A F⟩
theorem acB {x:Int} (h:(Lit.int .u64 x).wf=true):0<=x/\x<18446744073709551616:=by simp [Lit.wf,IntKind.min,IntKind.max,IntKind.signed,IntKind.bits] at h;omega
theorem acD {x:Int} (h:(Lit.int .i64 x).wf=true): -9223372036854775808<=x/\x<=9223372036854775807:=by simp [Lit.wf,IntKind.min,IntKind.max,IntKind.signed,IntKind.bits] at h;omega
end Lf
namespace Lf
open Go Go.Proofs Go.ChangeShapes Go.WideShapes Go.ChangeAt Go.RowKit
section
variable {H:Type} {enc:TypeId×Value->H} {P:Program} {W:World}
def mT (enc:TypeId×Value->H) (P:Program) (W:World) (t:TypeId) (R:List Value->Prop):Prop:=
 ∀fuel a y,DataW.trod enc P W 0 (λ_=>true) true fuel t a=some y->(DataW.weights P t y.1).all (· <=reachBytes)=true->R a
theorem Gy {t:TypeId} {k:IntKind} (b:P.underlying t=some (.int k)):mT enc P W t λa=>∃n,a=[.int k n]/\(Lit.int k n).wf=true:=λfuel a y h _=>by obtain ⟨n,c,_,d⟩:=DataW.trod_int b h;grind
theorem Hf {l m:List Nat} {p:Nat->Bool} (h:(l++m).all p=true):l.all p=true/\m.all p=true:=by grind
theorem KB {e:TypeId}:∀ {l:List (DataW H)} {d:DataW H},d∈l->(DataW.weightsAll P e l).all (· <=reachBytes)=true->(DataW.weights P e d).all (· <=reachBytes)=true
 | d::r,c,hm,h=>by
  rw [DataW.weightsAll] at h;obtain ⟨a,b⟩:=Hf h;rcases List.mem_cons.1 hm with rfl | hm
  ·exact a
  ·exact KB hm b
theorem tV :∀ {ts:List TypeId} {a:List (DataW H)} {i:Nat} {t:TypeId} {d:DataW H},ts[i]? =some t->a[i]? =some d->(DataW.weightsEach P ts a).all (· <=reachBytes)=true->(DataW.weights P t d).all (· <=reachBytes)=true
 | [],_,i,t,d,h,_,_=>by simp at h
 | _::_,[],i,t,d,_,h,_=>by simp at h
 | t::ts,d::a,0,f,e,b,c,h=>by simp at b c;subst b c;rw [DataW.weightsEach] at h;grind
 | t::ts,d::a,i+1,f,e,b,c,h=>by rw [DataW.weightsEach] at h;exact tV (by simpa using b) (by simpa using c) (Hf h).2
theorem uv {t:TypeId} {a:Array Field} {fuel:Nat} {d:List Value} {y:DataW H×List MemPlace} (g:P.underlying t=some (.struct a)) (h:DataW.trod enc P W 0 (λ_=>true) true fuel t d=some y) (c:(DataW.weights P t y.1).all (· <=reachBytes)=true)
  {i n off:Nat} {f:Field} {R:List Value->Prop} (b:a[i]? =some f) (q:f.offset=off) (k:P.cellsOf f.type=n) (j:mT enc P W f.type R):R ((d.drop off).take n):=by
 subst q;obtain ⟨r,m,_,rfl,s,p,l⟩:=DataW.trod_struct g h;have e:=l i f b;have o:i<r.length:=by rw [p];exact (Array.getElem?_eq_some_iff.1 b).1
 rw [List.getElem?_eq_getElem o,k] at e;refine j m _ _ e ?_;dsimp only at c;rw [DataW.weights,g] at c;refine tV (i:=i) (ts:=a.toList.map (·.type)) ?_ ?_ c
 ·rw [List.getElem?_map,Array.getElem?_toList,b];rfl
 grind
theorem Cj {t:TypeId} {b:Array Field} {fuel:Nat} {a:List Value} {y:DataW H×List MemPlace} (d:P.underlying t=some (.struct b)) (h:DataW.trod enc P W 0 (λ_=>true) true fuel t a=some y):a.length=P.cellsOf t:=by obtain ⟨g,m,_,rfl,c,f,e⟩:=DataW.trod_struct d h;exact c
theorem uc {b a:List Value} {off n m:Nat} (h:(b.drop off).take n=a) (c:off+n=m):b.drop off=a++b.drop m:=by rw [<-c,<-h,<-List.drop_drop,List.take_append_drop]
structure qz {α:Type} (W:World) (sz:Nat) (en:α->List Value) (gV:α->Prop) (l:Sl) (xs:List α):Prop where
 CR:Rw (whole W) sz en l xs
 cap:l.len<=l.cap
 dS:l.cap<=9223372036854775807
 mI:xs.length<=140737488355328
 all:∀x∈xs,gV x
theorem Qh {t e:TypeId} {u:Type} (E:P.underlying t=some (.slice e)) (f:u->List Value) (gV:u->Prop) {sz:Nat} (S:P.cellsOf e=sz) (hb:0<P.bytesOf e) (L:mT enc P W e λd=>∃x,d=f x/\gV x) (D:∀x,(f x).length=sz):
  mT enc P W t λd=>∃(l:Sl) (b:List u),d=[l.v]/\qz W sz f gV l b:=by
 intro fuel d y h o;subst S;rcases DataW.trod_slice E h with ⟨w,_⟩ | ⟨a,s,F,k,rest,n,_,w,K,Y,O,Q,a9,M,_,_⟩
 ·exact ⟨⟨none,0,0⟩,[],w,⟨⟨rfl,by simp,.inl (by simp)⟩,Nat.le_refl _,by simp,by simp,λx r=>by cases r⟩⟩
 ·subst K;dsimp only at o;rw [DataW.weights,E] at o;dsimp only at o;rw [List.all_cons,Bool.and_eq_true,decide_eq_true_eq] at o;obtain ⟨T,A⟩:=o;have A:=(Hf A).1;have I:∀i,i<s->∃x,gV x/\aZ (whole W) (a.add (i*P.cellsOf e)) (f x):=by
   intro i N;have c:=M i N;have g:k[i]? =some k[i]:=List.getElem?_eq_getElem (by omega);rw [g] at c;cases C:W.cells? 0 (a.add (i*P.cellsOf e)) (P.cellsOf e) with
   | none=>grind
   | some d=>rw [C] at c;obtain ⟨_,Z,J⟩:=World.cells?_some C;obtain ⟨x,r,z⟩:=L n d _ c (KB (List.mem_map.2 ⟨k[i],List.mem_of_getElem? g,rfl⟩) A);refine ⟨x,z,λj v p=> ?_⟩;have a8:j<(f x).length:=(List.getElem?_eq_some_iff.1 p).1;rw [aei,J j (by grind),r];exact p
  have build:∀m,m<=s->∃b:List u,b.length=m/\(∀x∈b,gV x)/\∀i x,b[i]? =some x->aZ (whole W) (a.add (i*P.cellsOf e)) (f x):=by
   intro m
   induction m with
   | zero=>simp
   | succ m U=>
    intro b0;obtain ⟨b,c,g,B⟩:=U (by omega);obtain ⟨x,z,r⟩:=I m (by omega);refine ⟨b++ [x],by simp [c],λy hy=> ?_,λi y hy=> ?_⟩
    ·rcases List.mem_append.1 hy with hy | hy
     ·exact g y hy
     ·rw [List.mem_singleton.1 hy];exact z
    grind
  obtain ⟨b,c,g,B⟩:=build s (Nat.le_refl _);refine ⟨⟨some a,s,F⟩,b,w,⟨⟨c.symm,jv D b,.inr ⟨a,rfl,λi v hv=> ?_⟩⟩,O,Q,?_,g⟩⟩
  ·obtain ⟨q,x,j,R,p,G⟩:=MA D b i v hv;rw [G];rw [<-vV];exact B q x R j v p
  ·have V:reachBytes<=140737488355328:=by decide
   rw [List.length_map,List.length_map] at T;have X:k.length+rest.length<=(k.length+rest.length)*P.bytesOf e:=Nat.le_mul_of_pos_right _ hb;omega
end
section
variable {H:Type} {enc:TypeId×Value->H} {W:World}
theorem li :mT enc Tryz.prog W 3 λa=>∃n,a=[.int .i64 n]/\(Lit.int .i64 n).wf=true:=Gy (cD.cH 3 zV rfl)
theorem Ig :mT enc Tryz.prog W 2 λa=>∃n,a=[.int .i64 n]/\(Lit.int .i64 n).wf=true:=Gy (cD.cH 2 wJ rfl)
theorem Sk :mT enc Tryz.prog W 28 λa=>∃n,a=[.int .u64 n]/\(Lit.int .u64 n).wf=true:=Gy (cD.cH 28 JP rfl)
theorem AY {x:Int} (h:(Lit.int .i64 x).wf=true):cN x:=by have:=acD h;unfold cN;omega
abbrev eI (x:Int):List Value:=bA ((af .i64).enc x)
abbrev eU (x:Int):List Value:=bA ((af .u64).enc x)
abbrev Az (x:aS):List Value:=bA (aT.enc x)
abbrev vD (x:bR):List Value:=bA (bT.enc x)
theorem kZ :Tryz.prog.cellsOf 3=1:=by kernel_rfl
theorem Nq :Tryz.prog.cellsOf 2=1:=by kernel_rfl
theorem ZN :Tryz.prog.cellsOf 28=1:=by kernel_rfl
theorem CC :Tryz.prog.cellsOf 87=5:=by kernel_rfl
theorem acG :Tryz.prog.cellsOf 75=1:=by kernel_rfl
theorem Ox :Tryz.prog.cellsOf 77=2:=by kernel_rfl
theorem abI :Tryz.prog.cellsOf 24=1:=by kernel_rfl
theorem R6 :Tryz.prog.cellsOf 22=1:=by kernel_rfl
theorem R5 :Tryz.prog.cellsOf 23=1:=by kernel_rfl
theorem H0 :Tryz.prog.cellsOf 26=7:=by kernel_rfl
theorem Si :mT enc Tryz.prog W 23 λa=>∃(l:Sl) (d:List Int),a=[l.v]/\qz W 1 eI (λ_=>True) l d:=
 Qh (cD.cH 23 uX rfl) eI _ kZ (by rw [show Tryz.prog.bytesOf 3=8 by kernel_rfl];omega) (λf a y h c=>by obtain ⟨n,b,_⟩:=li f a y h c;exact ⟨n,b,trivial⟩) λ_=>rfl
theorem Sj :mT enc Tryz.prog W 22 λa=>∃(l:Sl) (e:List Int),a=[l.v]/\qz W 1 eU qW l e:=
 Qh (cD.cH 22 AM rfl) eU _ ZN (by rw [show Tryz.prog.bytesOf 28=8 by kernel_rfl];omega) (λf a y h d=>by obtain ⟨n,b,c⟩:=Sk f a y h d;exact ⟨n,b,acB c⟩) λ_=>rfl
theorem Ie :mT enc Tryz.prog W 87 λc=>∃x,c=Az x/\cN x.jM:=λf c y h b=>by have a:=cD.cH 87 DM rfl;have d:=Cj a h;rw [CC] at d;obtain ⟨a0,g,_⟩:=uv a h b (i:=0) (off:=0) rfl rfl kZ li;obtain ⟨a1,j,_⟩:=uv a h b (i:=1) (off:=1) rfl rfl kZ li;obtain ⟨a2,k,_⟩:=uv a h b (i:=2) (off:=2) rfl rfl kZ li;obtain ⟨a3,l,_⟩:=uv a h b (i:=3) (off:=3) rfl rfl kZ li;obtain ⟨a4,n,o⟩:=uv a h b (i:=4) (off:=4) rfl rfl Nq Ig;refine ⟨⟨a0,a1,a2,a3,a4⟩,?_,AY o⟩;have e:c=c.drop 0:=rfl;rw [e,uc (m:=1) g rfl,uc (m:=2) j rfl,uc (m:=3) k rfl,uc (m:=4) l rfl,uc (m:=5) n rfl,List.drop_of_length_le (Nat.le_of_eq d)];rfl
theorem acH :mT enc Tryz.prog W 75 λa=>∃(l:Sl) (b:List aS),a=[l.v]/\qz W 5 Az (λx=>cN x.jM) l b:=
 Qh (cD.cH 75 DL rfl) Az _ CC (by rw [show Tryz.prog.bytesOf 87=40 by kernel_rfl];omega) Ie λ_=>rfl
def BM (W:World) (q:bR):Prop:=∃a,qz W 5 Az (λx=>cN x.jM) q.Code a
theorem acI :mT enc Tryz.prog W 77 λa=>∃x,a=vD x/\BM W x:=λf a y h d=>by have b:=cD.cH 77 Kx rfl;have c:=Cj b h;rw [Ox] at c;obtain ⟨a0,j,_⟩:=uv b h d (i:=0) (off:=0) rfl rfl kZ li;obtain ⟨l,n,k,g⟩:=uv b h d (i:=1) (off:=1) rfl rfl acG acH;refine ⟨⟨a0,l⟩,?_,n,g⟩;have e:a=a.drop 0:=rfl;rw [e,uc (m:=1) j rfl,uc (m:=2) k rfl,List.drop_of_length_le (Nat.le_of_eq c)];rfl
theorem abJ :mT enc Tryz.prog W 24 λa=>∃(l:Sl) (b:List bR),a=[l.v]/\qz W 2 vD (BM W) l b:=
 Qh (cD.cH 24 DJ rfl) vD _ Ox (by rw [show Tryz.prog.bytesOf 77=32 by kernel_rfl];omega) acI λ_=>rfl
structure xH (W:World) (x:an):Prop where
 labels:∃ls,qz W 1 eU qW x.aQ ls
 table:∃ts,qz W 1 eI (λ_=>True) x.Table ts
 procs:∃ps,qz W 2 vD (BM W) x.aD ps
theorem Ic :mT enc Tryz.prog W 26 λc=>∃x,c=jD x/\xH W x:=λf c y h b=>by have a:=cD.cH 26 JI rfl;have d:=Cj a h;rw [H0] at d;obtain ⟨t,w,l,g⟩:=uv a h b (i:=0) (off:=0) rfl rfl R6 Sj;obtain ⟨u,z,n,j⟩:=uv a h b (i:=1) (off:=1) rfl rfl R5 Si;obtain ⟨a2,o,_⟩:=uv a h b (i:=2) (off:=2) rfl rfl kZ li;obtain ⟨a3,p,_⟩:=uv a h b (i:=3) (off:=3) rfl rfl kZ li;obtain ⟨a4,q,_⟩:=uv a h b (i:=4) (off:=4) rfl rfl kZ li;obtain ⟨a5,r,_⟩:=uv a h b (i:=5) (off:=5) rfl rfl kZ li;obtain ⟨v,A,s,k⟩:=uv a h b (i:=6) (off:=6) rfl rfl abI abJ;refine ⟨⟨t,u,a2,a3,a4,a5,v⟩,?_,⟨w,g⟩,⟨z,j⟩,A,k⟩;have e:c=c.drop 0:=rfl;rw [e,uc (m:=1) l rfl,uc (m:=2) n rfl,uc (m:=3) o rfl,uc (m:=4) p rfl,uc (m:=5) q rfl,uc (m:=6) r rfl,uc (m:=7) s rfl,List.drop_of_length_le (Nat.le_of_eq d)];rfl
end
theorem Nr {b c:Type} {R:b->c->Prop} {G:c->Prop}:∀ {l:List b},(∀x∈l,∃p,R x p/\G p)->∃m,dR R l m/\∀p∈m,G p
 | [],_=>⟨[],trivial,λp hp=>by cases hp⟩
 | a::l,h=>by obtain ⟨p,d,g⟩:=h a (List.mem_cons_self ..);obtain ⟨m,e,i⟩:=Nr (l:=l) λx f=>h x (List.mem_cons_of_mem _ f);refine ⟨p::m,⟨d,e⟩,λq j=> ?_⟩;grind
section
variable {W:World}
theorem abL {q:bR} (k:BM W q):∃p,mU (whole W) q p/\((∀x∈p.code,cN x.gR)/\p.code.length<=140737488355328):=by
 obtain ⟨a,h⟩:=k;refine ⟨⟨q.Part,a.map bu⟩,⟨rfl,a,h.CR,rfl⟩,λx b=> ?_,?_⟩
 ·obtain ⟨y,c,rfl⟩:=List.mem_map.1 b;exact h.all y c
 ·show (a.map bu).length<=_;rw [List.length_map];exact h.mI
theorem Dk {x:an} (k:xH W x):∃c,eT (whole W) x c/\Typed c/\sV c:=by obtain ⟨j,b⟩:=k.labels;obtain ⟨n,e⟩:=k.table;obtain ⟨l,d⟩:=k.procs;obtain ⟨m,f,g⟩:=Nr λq i=>abL (d.all q i);have r:=f.len;have o:=d.mI;refine ⟨⟨j,n,x.Fuel,x.fD,x.bE,x.Log,m⟩,⟨b.CR,e.CR,rfl,rfl,rfl,rfl,l,d.CR,f⟩,⟨λa h=> ?_,λp hp=>(g p hp).1⟩,⟨b.mI,e.mI,by show m.length<=_;omega,λp hp=>(g p hp).2⟩⟩;have:=b.all a h;omega
end
theorem Oz {s:aR} (k:te s) (b:s.parts.length<=8) (c:∀x∈s.parts,x.au.length<=8) (d:s.procs.length<=32) (f:∀x∈s.procs,x.ak.length<=9):(sK s).length<=1152921504606846976:=by
 have i:(s.parts.flatMap wu).length<=s.parts.length*1125899906842624:=Ck _ λx a=>by
  have e:(wu x).length<=x.au.length*140737488355328:=by unfold wu;rw [<-List.flatMap_id];exact Ck _ λq h=>(k.log x a).2.2.2 q h
  have:=Nat.mul_le_mul_right 140737488355328 (c x a);omega
 have j:(s.procs.flatMap vF).length<=s.procs.length*1266637395197952:=Ck _ λx a=>by
  have e:(vF x).length<=x.ak.length*140737488355328:=Ck _ λl g=>by rw [List.length_map];exact ((k.ak x a).2 l g).waiters
  have:=Nat.mul_le_mul_right 140737488355328 (f x a);omega
 have m:=Nat.mul_le_mul_right 1125899906842624 b;have n:=Nat.mul_le_mul_right 1266637395197952 d;unfold sK;grind
section
variable {H:Type} {enc:TypeId×Value->H} {W:World}
theorem acJ {v:Value} {b:List Value} (h:v.cells.toList=b) (c:b.length≠1):v=.agg b.toArray:=by
 cases v with
 | agg a=>rw [<-h];rfl
 | _=>subst h;simp [Value.cells] at c
theorem Aw {v:Value} {d:DataW H} {f:List MemPlace} (h:DataW.Trod enc Tryz.prog W 0 (λ_=>true) true 26 v d f) (c:(DataW.weights Tryz.prog 26 d).all (· <=reachBytes)=true):
  ∃x:an,v=aA.enc x/\xH W x:=by
 obtain ⟨fuel,a⟩:=h;obtain ⟨x,e,b⟩:=Ic fuel _ _ a c;exact ⟨x,acJ e (by simp),b⟩
end
end Lf
namespace Lf
open Go Go.Proofs Tryz
theorem AZ {c:aL} (h:(fa c).1=0):Small c:=by obtain ⟨b,_,_,_,_,f,a,g,_,d,e⟩:=fA.1 h;exact ⟨(fN.1 b).2.1,d,f.2,a,g.2,λp hp=>((yZ ⟨a.1,a.2⟩).1 (e p hp).2).1⟩
theorem Hg {c:aL} (a:Typed c) (h:(fa c).1=0):nF c:=(BA (zi c)).1 ⟨a,h⟩
theorem Xd {c:aL} (a:Typed c) (h:(fa c).1=0):(fg c).length<=1048576:=by have:=MR (AZ h) (Hg a h);omega
theorem Ue {c:aL} {s:aR} (a:Typed c) (d:zN s) (h:(fa c).1=0) (b:kh c s):(nF c/\(fg c).length<=1048576)/\lM c s:=⟨⟨Hg a h,Xd a h⟩,Pf (AZ h) d b⟩
theorem Uf {c:aL} {s:aR} (d:Typed c) (b:zN s) (h:(fa c).1=0) (a:kh c s):(iO c s).length<1048576:=X8 (AZ h) (Hg d h) (Pf (AZ h) b a)
theorem ZP {c:aL} (b:Typed c):∀l∈c.labels,qW l:=λl a=>⟨(b.1 l a).1,(b.1 l a).2⟩
theorem Ug {h:Hp} {x:an} {y:aH} {c:aL} {s:aR} {Q:Int->Hp->Prop} (a:eT h x c) (b:dw h y s) (m:∀l∈c.labels,qW l) (j:te s) (i:∀e d,h<=d->nX c s e->Q e d):Ry prog x y Q h:=
 E7 a b m (Oz j) (λf d g=>i _ d g (.inl ⟨f,rfl⟩)) λf n d g k=>i n d g (.inr ⟨f,k⟩)
theorem iG.place {a:List UInt8} {e:Int} {p:Nat} (h:iG a e p):p<=a.length:=by
 rcases h with h | ⟨_,_,_,rfl,_⟩
 ·exact NN abF h
 ·omega
section
variable {c:aL} {t:aR} {s:MS}
theorem LM (m:cP c):kh c t↔wg c t λi y=>j9 c i y.toNat=true:=by
 have key:∀(p:Nat) x y,t.procs[p]? =some x->c.procs[p]? =some y->(nZ c t (λ(i:Nat) q=>fl c.labels (i:Int) q=true) x y↔nZ c t (λi y=>j9 c i y.toNat=true) x y):=λp x y _ a=>by
  have hp:=(m.part y (List.mem_of_getElem? a)).1;have e:∀i:Nat,j9 c i y.part.toNat=fl c.labels (i:Int) y.part:=λi=>by unfold j9;rw [show ((y.part.toNat:Nat):Int)=y.part by omega]
  unfold nZ;simp only [e]
 unfold kh wg;constructor
 ·rintro ⟨d,f,g,h⟩;exact ⟨d,f,λp x y b a=>(key p x y b a).1 (g p x y b a),h⟩
 ·rintro ⟨d,f,g,h⟩;exact ⟨d,f,λp x y b a=>(key p x y b a).2 (g p x y b a),h⟩
theorem Uh (h:kh c t):t.parts.length=nP c/\t.procs.length=nQ c:=⟨h.1.2.1,h.1.2.2⟩
theorem CQ {h:Hp} {y:aH} (b:dw h y t):∀x∈t.procs,x.aP.length=8:=λx j=>by
 obtain ⟨d,_,e⟩:=b.procs;obtain ⟨i,f⟩:=List.mem_iff_getElem?.1 j;have:∃z,d[i]? =some z/\eO h z x:=by have k:=e.len;have l:=(List.getElem?_eq_some_iff.1 f).1;obtain ⟨z,g,a⟩:=e.get (i:=i) (List.getElem?_eq_getElem (show i<d.length by omega));rw [f] at g;cases g;exact ⟨_,List.getElem?_eq_getElem (show i<d.length by omega),a⟩
 obtain ⟨z,_,a⟩:=this;rw [<-a.aP];rfl
end
section
variable {k:Hp} {x:an} {y:aH} {c:aL} {t:aR}
structure pD (k:Hp) (c:aL) (t:aR) (pm:Addr) (k':Hp):Prop where
 ex:∃K tm h1,K.c=c/\eh h1 K/\k<=h1/\Has h1 (aO K pm (cI t) tm) k'/\fS c tm (cI t)
 gV:Good c (j9 c) (cI t) No No t.tick
 parts:t.parts.length=nP c
 procs:t.procs.length=nQ c
theorem abN {Q:Option Addr->Int->Hp->Prop} (a:eT k x c) (b:dw k y t) (r:∀l∈c.labels,qW l) (w:te t) (v:∀e d,k<=d->e≠0->nX c t e->Q none e d)
  (z:∀pm d,(fa c).1=0->kh c t->k<=d->pD k c t pm d->Q (some pm) 0 d):zys prog x y Q k:=by
 unfold zys;refine zsd (Ug a b r w λe A h q=> ?_);by_cases n:e=0
 ·subst n;rw [if_neg (by decide)];obtain ⟨j,m⟩:(fa c).1=0/\kh c t:=by
   rcases q with ⟨f,h2⟩ | ⟨f,h2 | h2⟩
   ·exact absurd h2.symm f
   ·exact ⟨f,h2.2⟩
   ·omega
  have p:=Cf j;have i:=Uh m;have g:=G9 p ((LM p).1 m) (CQ b);refine zxe (M9 (a.mono h) (b.mono h) r j (Na p g i.1 i.2) λK pm C f d u mk s o B=>z pm d j m (Hp.le_trans h (Hp.le_trans s o.le)) ⟨⟨K,C,f,u,mk,Hp.le_trans h s,o,B⟩,g,i.1,i.2⟩)
 ·rw [if_pos (by simpa using n)];exact v e A h n q
theorem abP {Q:Option Addr->Int->Hp->Prop} (a:eT k x c) (u:∀l∈c.labels,qW l) (q:∀b,k<=b->(fa c).1≠0->Q none (fa c).1 b)
  (s:∀pm b,(fa c).1=0->k<=b->pD k c ((oZ c).list c) pm b->Q (some pm) 0 b):zyp prog x Q k:=by
 unfold zyp;refine zzh (EZ a λv f=> ?_);by_cases d:(fa c).1=0
 ·rw [d,if_neg (by decide)];have e:=Cf d;refine Vb (Y3 (a.mono f) e λr B w j=>⟨⟨trivial,trivial⟩,?_⟩);have hp:((oZ c).list c).parts.length=nP c:=by show ((List.range (nP c)).map _).length=_;simp
  have i:((oZ c).list c).procs.length=nQ c:=by show ((List.range (nQ c)).map _).length=_;simp
  have h:=Hp.le_trans f w;have g:=G9 e (Good.may e (Good.first (fl:=j9 c) e) (by show (0:Int)<=_;decide)) (CQ j);refine zxe (M9 (a.mono h) j u d (Na e g hp i) λK pm A p b n mk m o z=>s pm b d (Hp.le_trans h (Hp.le_trans m o.le)) ⟨⟨K,A,p,n,mk,Hp.le_trans h m,o,z⟩,g,hp,i⟩)
 ·rw [if_pos (by simpa using d)];exact q v f d
end
section
variable {c:aL} {s:MS} {t:aR}
theorem abQ {i:Nat} (a:i<nP c):(cI (s.list c)).part i=s.part i:=by show ((List.range (nP c)).map s.part).getD i nw=_;grind
theorem Ns {i:Nat} (a:i<nQ c):(cI (s.list c)).proc i=s.proc i:=by show ((List.range (nQ c)).map s.proc).getD i rF=_;grind
theorem Ui :(s.list c).parts.length=nP c:=by show ((List.range (nP c)).map _).length=_;simp
theorem Uk :(s.list c).procs.length=nQ c:=by show ((List.range (nQ c)).map _).length=_;simp
theorem OV {K:MK} {pm:Addr} {a:Nat->Nat->Int} (e:K.c=c):aO K pm (cI (s.list c)) a=aO K pm s a:=by
 subst e;unfold aO;have d:eD.first (λi=>qZ K i ((cI (s.list K.c)).part i) (a i)) (nP K.c)=eD.first (λi=>qZ K i (s.part i) (a i)) (nP K.c):=vR λi b=>by rw [abQ b]
 have f:eD.first (λp=>re K p ((cI (s.list K.c)).proc p)) (nQ K.c)=eD.first (λp=>re K p (s.proc p)) (nQ K.c):=vR λi b=>by rw [Ns b]
 rw [d,f];rfl
theorem P7 {a:Nat->Nat->Int} (d:fS c a s):fS c a (cI (s.list c)):=λi id b=>by
 rw [d i id b];unfold pw;by_cases h:id / 2<nQ c/\aG c (id / 2)=i
 ·rw [if_pos h,if_pos h,Ns h.1]
 omega
theorem abR (g:kN c (cI t)) (m:cP c) (hp:t.parts.length=nP c) (f:t.procs.length=nQ c):te t:=by
 have j:=m.parts;have k:=m.procs;refine ⟨by omega,by omega,λx b=> ?_,λx b=> ?_⟩
 ·obtain ⟨i,a⟩:=List.mem_iff_getElem?.1 b;have h:=(List.getElem?_eq_some_iff.1 a).1;have e:(cI t).part i=x:=rM a;have sp:=g.part i (by omega);rw [e] at sp;have:=sp.lR;have:=sp.iZ;have:=sp.mI.1;exact ⟨by omega,by omega,by omega,λq f=>by have:=sp.mI.2 q f;omega⟩
 ·obtain ⟨i,a⟩:=List.mem_iff_getElem?.1 b;have h:=(List.getElem?_eq_some_iff.1 a).1;have e:(cI t).proc i=x:=rM a;have sp:=g.proc i (by omega);rw [e] at sp;have:=sp.len;exact ⟨by omega,λl d=>⟨by have:=(sp.dP l d).values;omega,by have:=(sp.dP l d).waiters;omega⟩⟩
end
def Im (a:MK) (n:Option Addr) (t2:aR) (b:Nat->Nat->Int):eD:=match n with
 | none=>.fact True
 | some p=>aO a p (cI t2) b
structure dG (h k:Hp) (c:aL) (t1 t2:aR) (pm:Addr) (n:Option Addr):Prop where
 ex:∃K tm K2 tm2,K.c=c/\eh h K/\fS c tm (cI t1)/\(n≠none->K2.c=c/\eh h K2/\fS c tm2 (cI t2))/\Has h ((aO K pm (cI t1) tm).star (Im K2 n t2 tm2)) k
section
variable {h k:Hp} {c:aL} {t1 t2 t:aR} {pm a:Addr} {n:Option Addr}
theorem dG.le (q:dG h k c t1 t2 pm n):h<=k:=by obtain ⟨_,_,_,_,_,_,_,_,o⟩:=q.ex;exact o.le
theorem pD.pair (q:pD k c t pm h):∃b,k<=b/\dG b h c t t pm none:=by obtain ⟨K,d,b,e,mk,l,o,g⟩:=q.ex;exact ⟨b,l,⟨K,d,K,d,e,mk,g,λf=>absurd rfl f,o.beside (Has.fact trivial (Hp.le_refl _))⟩⟩
theorem dG.one (q:dG h k c t1 t2 pm n):∃K f b,K.c=c/\eh b K/\fS c f (cI t1)/\h<=b/\Has b (aO K pm (cI t1) f) k/\∀d g i,Has b (aO K pm d g) i->fS c g d->dG h i c (d.list c) t2 pm n:=by obtain ⟨K,f,l,v,e,mk,s,m,o⟩:=q.ex;obtain ⟨b,j,r,_,put⟩:=o.fst;refine ⟨K,f,b,e,mk.mono j,s,j,r,λd g i p u=>⟨K,g,l,v,e,mk,P7 u,m,?_⟩⟩;rw [OV e];exact put _ _ p
theorem dG.two (q:dG h k c t1 t2 pm (some a)):∃K f b,K.c=c/\eh b K/\fS c f (cI t2)/\h<=b/\Has b (aO K a (cI t2) f) k/\∀d g j,Has b (aO K a d g) j->fS c g d->dG h j c t1 (d.list c) pm (some a):=by obtain ⟨K,f,l,y,e,mk,v,r,o⟩:=q.ex;obtain ⟨i,p,x⟩:=r (by simp);obtain ⟨b,m,u,_,put⟩:=o.snd;refine ⟨l,y,b,i,p.mono m,x,m,u,λd g j s w=>⟨K,f,l,g,e,mk,v,λ_=>⟨i,p,P7 w⟩,?_⟩⟩;unfold Im;dsimp only;rw [OV i];exact put _ _ s
theorem dG.base {P:Program} {g:FuncId} {args:List Value} {sh:Shape} {K0 K:sh.T->Hp->Prop} (q:dG h k c t1 t2 pm n) (p:ae P g args sh (λx b=>h<=b/\K0 x b) h) (r:∀x b d,h<=b->K0 x b->dG b d c t1 t2 pm n->K x d):ae P g args sh K k:=by obtain ⟨j,v,m,w,e,mk,u,f,o⟩:=q.ex;refine Bf o p ?_;rintro x b d ⟨l,h0⟩ s;exact r x b d l h0 ⟨j,v,m,w,e,mk.mono l,u,λi=>⟨(f i).1,(f i).2.1.mono l,(f i).2.2⟩,s⟩
theorem dG.grow {b:Hp} (q:dG h k c t1 t2 pm n) (l:k<=b):dG h b c t1 t2 pm n:=by obtain ⟨d,j,f,m,e,mk,i,g,o⟩:=q.ex;exact ⟨d,j,f,m,e,mk,i,g,o.grow l⟩
theorem dG.alone (q:dG h k c t1 t2 pm n):dG h k c t1 t1 pm none:=by obtain ⟨b,d,i,l,e,mk,g,j,o⟩:=q.ex;exact ⟨b,d,b,d,e,mk,g,λf=>absurd rfl f,(Has.left o).beside (Has.fact trivial (Hp.le_refl _))⟩
theorem dG.lay {P:Program} {g:FuncId} {args:List Value} {K:Option Addr->Int->Hp->Prop} (q:dG h k c t1 t1 pm none) (u:bt P g args al (af .i64) (λr e b=>∃a,r=some a/\e=0/\pD h c t a b) h)
  (v:∀a b d,h<=b->dG b d c t1 t pm (some a)->K (some a) 0 d):bt P g args al (af .i64) K k:=by
 obtain ⟨l,B,D,F,e,mk,z,_,o⟩:=q.ex;refine Bf (Has.left o) u ?_;rintro ⟨r,E⟩ b d ⟨a,f,i,st⟩ x;dsimp only at f i;subst f i;obtain ⟨m,C,s,p,w,j,y,A⟩:=st.ex;exact v a s d j ⟨l,B,m,C,e,mk.mono j,z,λ_=>⟨p,w,A⟩,(y.beside x).comm⟩
theorem P8 {s:MS} {p v:Int}:TW (uA c s p v).1=TW s:=by
 unfold uA;split
 ·rfl
 ·split
  ·exact ur rfl
  ·exact G7 rfl
end
section
variable {h k:Hp} {c:aL} {t1 t2 t:aR} {pm a:Addr} {n:Option Addr}
theorem dG.yy {Q:aH->Hp->Prop} (q:dG h k c t1 t2 pm n) (j:cP c) (g:Good c (j9 c) (cI t1) No No t1.tick) (hp:t1.parts.length=nP c) (w:t1.procs.length=nQ c)
  (v:∀r d b,h<=d->dw d r t1->dG d b c t1 t2 pm n->Q r b):LP prog (some pm) Q k:=by
 obtain ⟨K,C,p,D,rfl,mk,m,e,o⟩:=q.ex;obtain ⟨E,x,y,_,put⟩:=o.fst;refine PU (mk.mono x) j y (g.qa j) m λr b l=> ?_;rw [Br hp w] at l;have z:=Has.carry (put _) l;obtain ⟨s,i,A,⟨F,⟨B,u,_⟩,_⟩,_⟩:=z.fst;exact v r s b i u.rd ⟨K,C,p,D,rfl,mk.mono i,m,λf=>⟨(e f).1,(e f).2.1.mono i,(e f).2.2⟩,A⟩
theorem dG.DH {Q:aH->Hp->Prop} (q:dG h k c t1 t2 pm (some a)) (f:cP c) (g:Good c (j9 c) (cI t2) No No t2.tick) (hp:t2.parts.length=nP c) (j:t2.procs.length=nQ c)
  (x:∀r d b,h<=d->dw d r t2->dG d b c t1 t2 pm (some a)->Q r b):LP prog (some a) Q k:=by
 obtain ⟨K,E,s,G,rfl,mk,D,u,o⟩:=q.ex;obtain ⟨i,l,p⟩:=u (by simp);obtain ⟨H,y,z,_,put⟩:=o.snd;rw [<-i] at f g p hp j;refine PU (l.mono y) f z (g.qa f) p λr b m=> ?_;rw [Br hp j] at m;have A:=Has.carry (put _) m;obtain ⟨v,e,C,⟨F,⟨B,w,_⟩,_⟩,_⟩:=A.fst;exact x r v b e w.rd ⟨K,E,s,G,rfl,mk.mono e,D,λ_=>⟨i,l.mono e,by grind⟩,C⟩
def rJ (c:aL) (t:aR):aR:=(lY c fF (j9 c) (cI t)).list c
def wB (c:aL) (t:aR) (p v:Int):aR:=(uA c (cI t) p v).1.list c
def rC (c:aL) (t:aR) (p:Int):aR:=(jF c (cI t) p).1.list c
theorem dG.IA {Q:Int->Hp->Prop} (q:dG h k c t1 t2 pm n) (f:cP c) (g:Good c (j9 c) (cI t1) No No t1.tick) (e:t1.tick<4611686018427387904) (d:∀b,dG h b c (rJ c t1) t2 pm n->Q (nT c t1.tick:Int) b):LS prog (some pm) Q k:=by obtain ⟨K,r,o,rfl,mk,l,p,j,put⟩:=q.one;exact Ly LF mk f j g e l λs b i m=>d b (put _ _ _ i m)
theorem dG.IB {Q:Int->Hp->Prop} (q:dG h k c t1 t2 pm (some a)) (f:cP c) (g:Good c (j9 c) (cI t2) No No t2.tick) (e:t2.tick<4611686018427387904) (d:∀b,dG h b c t1 (rJ c t2) pm (some a)->Q (nT c t2.tick:Int) b):LS prog (some a) Q k:=by obtain ⟨K,r,o,rfl,mk,l,p,j,put⟩:=q.two;exact Ly LF mk f j g e l λs b i m=>d b (put _ _ _ i m)
theorem dG.Se {p v:Int} {Q:Int->Hp->Prop} (q:dG h k c t1 t2 pm n) (d:cP c) (g:Good c (j9 c) (cI t1) No No t1.tick) (e:∀b,dG h b c (wB c t1 p v) t2 pm n->Q (uA c (cI t1) p v).2 b):LO prog (some pm) p v Q k:=by obtain ⟨K,l,m,rfl,mk,j,o,i,put⟩:=q.one;exact ON mk d i (g.qa d) λb f=>e b (put _ l _ f (j.bO P8))
theorem dG.Sf {p v:Int} {Q:Int->Hp->Prop} (q:dG h k c t1 t2 pm (some a)) (d:cP c) (g:Good c (j9 c) (cI t2) No No t2.tick) (e:∀b,dG h b c t1 (wB c t2 p v) pm (some a)->Q (uA c (cI t2) p v).2 b):LO prog (some a) p v Q k:=by obtain ⟨K,l,m,rfl,mk,j,o,i,put⟩:=q.two;exact ON mk d i (g.qa d) λb f=>e b (put _ l _ f (j.bO P8))
theorem dG.Ia {p:Int} {Q:Int->Hp->Prop} (q:dG h k c t1 t2 pm n) (d:cP c) (g:Good c (j9 c) (cI t1) No No t1.tick) (e:∀b,dG h b c (rC c t1 p) t2 pm n->Q (jF c (cI t1) p).2 b):LU prog (some pm) p Q k:=by obtain ⟨K,r,m,rfl,mk,j,o,i,put⟩:=q.one;exact Lx mk d i (g.qa d) j λs b f l=>e b (put _ _ _ f l)
theorem dG.Ib {p:Int} {Q:Int->Hp->Prop} (q:dG h k c t1 t2 pm (some a)) (d:cP c) (g:Good c (j9 c) (cI t2) No No t2.tick) (e:∀b,dG h b c t1 (rC c t2 p) pm (some a)->Q (jF c (cI t2) p).2 b):LU prog (some a) p Q k:=by obtain ⟨K,r,m,rfl,mk,j,o,i,put⟩:=q.two;exact Lx mk d i (g.qa d) j λs b f l=>e b (put _ _ _ f l)
end
section
variable {P:Program} {h:Hp}
theorem tz {a:Type} {v:a} {A:(a->Hp->Prop)->Prop} {B:a->Hp->Prop} (c:∀k:a->Hp->Prop,k v h->A k) (d:B v h):dj A B:=dj.intro (λx b=>x=v/\b=h) (c _ ⟨rfl,rfl⟩) (by grind)
def Fg (op:Int) (k:Bool->Hp->Prop) (h:Hp):List Int->Prop
 | []=>True
 | [a]=>k (op==a) h
 | a::b::r=>if (op==a)=true then k (op==a) h else Fg op k h (b::r)
theorem wS {op:Int} {k:Bool->Hp->Prop}:∀l:List Int,l≠ []->k (decide (op∈l)) h->Fg op k h l
 | [],d,_=>absurd rfl d
 | [a],_,c=>by
  have:(op==a)=decide (op∈ [a]):=by rw [Bool.eq_iff_iff];simp
  show k (op==a) h;grind
 | a::b::r,_,c=>by
  show if (op==a)=true then k (op==a) h else Fg op k h (b::r)
  by_cases e:op=a
  ·grind
  ·rw [if_neg (by simpa using e)];refine wS (b::r) (by simp) ?_;grind
theorem adl {op:Int} {Q:Bool->Bool->Bool->Bool->Hp->Prop} (a:Q (iI op).1 (iI op).2.1 (iI op).2.2.1 (iI op).2.2.2 h):V0 P op Q h:=by
 unfold V0;unfold iI at a;by_cases c:op=1
 ·rw [if_pos c] at a;rw [if_pos (by simpa using c)];exact a
 rw [if_neg c] at a;rw [if_neg (by simpa using c)];refine tz (h:=h) (v:=decide (op∈ [2,20,21,25,26])) (λk b=>wS [2,20,21,25,26] (by simp) b) ?_;by_cases d:op∈ [2,20,21,25,26]
 ·rw [if_pos (decide_eq_true d)];rw [if_pos (by simpa using d)] at a;exact a
 rw [if_neg (λe=>d (of_decide_eq_true e))];rw [if_neg (by simpa using d)] at a;refine tz (h:=h) (v:=decide (op∈ [3,4,5,6,7,8,9,10,11,12,13,14])) (λk b=>wS [3,4,5,6,7,8,9,10,11,12,13,14] (by simp) b) ?_;by_cases f:op∈ [3,4,5,6,7,8,9,10,11,12,13,14]
 ·rw [if_pos (decide_eq_true f)];rw [if_pos (Or.inl (by simp at f;omega))] at a;exact a
 rw [if_neg (λe=>f (of_decide_eq_true e))];refine tz (h:=h) (v:=decide (op∈ [15,16,17,18,19,24])) (λk b=>wS [15,16,17,18,19,24] (by simp) b) ?_;by_cases g:op∈ [15,16,17,18,19,24]
 ·rw [if_pos (decide_eq_true g)];rw [if_pos (Or.inr (by simp at g;omega))] at a;exact a
 rw [if_neg (λe=>g (of_decide_eq_true e))];rw [if_neg (by simp at f g;omega)] at a;refine tz (h:=h) (v:=decide (op∈ [22,29,30])) (λk b=>wS [22,29,30] (by simp) b) ?_;by_cases i:op∈ [22,29,30]
 ·rw [if_pos (decide_eq_true i)];rw [if_pos (by simpa using i)] at a;exact a
 rw [if_neg (λe=>i (of_decide_eq_true e))];rw [if_neg (by simpa using i)] at a;by_cases j:op=23
 ·rw [if_pos j] at a;rw [if_pos (by simpa using j)];exact a
 rw [if_neg j] at a;rw [if_neg (by simpa using j)];refine tz (h:=h) (v:=decide (op∈ [27,28,31,32,33])) (λk b=>wS [27,28,31,32,33] (by simp) b) ?_;grind
theorem zwm {has:Bool} {n:Int} {Q:Int->Hp->Prop} (b:Q (du has n) h):U4 P n has Q h:=by
 unfold U4;unfold du at b;refine aE ?_;by_cases a:has=false/\n≠0
 ·rw [if_pos a] at b;rw [if_pos (by simp [a.1,a.2])];exact b
 rw [if_neg a] at b;rw [if_neg (by intro e;simp at e;exact a e)];refine aE (aE ?_);grind
theorem aem {x:aS} {n ag:Int} {Q:Int->Int->Hp->Prop} (a:Q (ja (bu x) n ag).1 (ja (bu x) n ag).2 h):WE prog x n ag Q h:=by
 obtain ⟨o,A,B,C,I⟩:=x;have a:Q (ja ⟨o,A,B,C,I⟩ n ag).1 (ja ⟨o,A,B,C,I⟩ n ag).2 h:=a;unfold WE;unfold ja at a;refine aE ?_;by_cases i:o<0\/34<=o
 ·rw [if_pos i] at a;rw [if_pos (by simp;omega)];exact a
 rw [if_neg i] at a;rw [if_neg (by simp;omega)];refine zuv (adl ?_);dsimp only;refine Un (zwm ?_);by_cases c:du (iI o).1 A≠0
 ·rw [if_pos c] at a;rw [if_pos (by simpa using c)];exact a
 rw [if_neg c] at a;rw [if_neg (by simpa using c)];refine Un (zwm ?_);by_cases d:du (iI o).2.1 B≠0
 ·rw [if_pos d] at a;rw [if_pos (by simpa using d)];exact a
 rw [if_neg d] at a;rw [if_neg (by simpa using d)];refine Un (zwm ?_);by_cases f:du (iI o).2.2.1 C≠0
 ·rw [if_pos f] at a;rw [if_pos (by simpa using f)];exact a
 rw [if_neg f] at a;rw [if_neg (by simpa using f)];refine aE ?_;by_cases b:(iI o).2.2.2=false/\I≠0
 ·rw [if_pos b] at a;rw [if_pos (by simp [b.1,b.2])];exact a
 rw [if_neg b] at a;rw [if_neg (by intro e;simp at e;exact b e)];refine aE (aE (aE ?_));by_cases g:(o=22\/o=23)/\(I<0\/n<I)
 ·rw [if_pos g] at a;rw [if_pos (by simp;exact g)];exact a
 rw [if_neg g] at a;rw [if_neg (by intro e;simp at e;exact g e)];refine aE (aE (aE ?_));grind
theorem aeo {x:aS} {n ag:Int} {Q:Int->Hp->Prop} (a:Q (ja (bu x) n ag).1 h):WC prog x n ag Q h:=by unfold WC;exact zwc (aem a)
theorem acF {l:Sl} {a:List aS} {ag:Int} {Q:Int->Int->Hp->Prop} (r:nG h l a) (b:∀at_,Q (je (a.map bu) ag).1 at_ h):Yj prog l ag Q h:=by
 unfold Yj;have p:l.len=a.length:=r.1;unfold je at b;rw [List.length_map] at b;refine aE ?_;by_cases f:ag<0\/8<ag
 ·grind
 rw [if_neg f] at b;rw [if_neg (by simp;omega)];by_cases g:256<a.length
 ·grind
 rw [if_neg g] at b;rw [if_neg (by simp;omega)];refine gh (n:=a.length) (by omega) (by omega) (λi e=>e=h/\(lf (a.length:Int) ag ((a.map bu).drop i) i).1=(lf (a.length:Int) ag (a.map bu) 0).1) ⟨rfl,rfl⟩ ?_ ?_
 ·rintro i o k ⟨rfl,c⟩ K m;refine mE (sh:=aT) r λx d=> ?_;have d:a[i]? =some x:=d;have j:(a.map bu).drop i=bu x::(a.map bu).drop (i+1):=Ak (by rw [List.getElem?_map,d];rfl);rw [j,lf] at c;refine zwb (aeo ?_);grind
 ·rintro k ⟨rfl,c⟩;rw [List.drop_of_length_le (by simp),lf] at c;grind
theorem HA {n a b:Int} {Q:Bool->Hp->Prop} (c:Q (within n a b) h):VN P n a b Q h:=by unfold VN;exact aE c
end
section
variable {h:Hp}
theorem adm {l:Sl} {a:List Int} {n:Nat} {Q:Int->Hp->Prop} (r:Is h l a) (t:n<=8) (b:Q (if a=[] then 1 else if 64<a.length then 3 else if (a.all λp=>within p 0 ((n:Int)-1))=false then 2 else 0) h):VL prog l (n:Int) Q h:=by
 unfold VL;have q:l.len=a.length:=r.1;by_cases f:a=[]
 ·rw [if_pos f] at b;rw [if_pos (by rw [q,f];rfl)];exact b
 rw [if_neg f] at b;have hp:=List.length_pos_iff.2 f;rw [if_neg (by rw [beq_iff_eq];omega)];by_cases g:64<a.length
 ·rw [if_pos g] at b;rw [if_pos (iW)];exact b
 rw [if_neg g] at b;rw [if_neg (λe=>g (by have:=of_decide_eq_true e;omega))];rw [wrap64 (n:=(n:Int)-1) (by omega) (by omega)];refine gh (n:=a.length) (by omega) (by omega) (λi j=>j=h/\∀x∈a.take i,within x 0 ((n:Int)-1)=true) ⟨rfl,λx d=>by simp at d⟩ ?_ ?_
 ·rintro i s k ⟨rfl,o⟩ K m;refine mE (sh:=af .i64) r λ(x:Int) d=> ?_;have d:a[i]? =some x:=d;refine Ho (HA ?_);by_cases c:within x 0 ((n:Int)-1)=true
  ·rw [if_neg (by rw [c];simp)];refine m k ⟨rfl,λy hy=> ?_⟩;rw [List.take_add_one,d] at hy;rcases List.mem_append.1 hy with hy | hy
   ·exact o y hy
   ·have:y=x:=by simpa using hy
    rw [this];exact c
  ·have c:within x 0 ((n:Int)-1)=false:=by simpa using c
   rw [if_pos (by rw [c];rfl)];rw [if_pos (List.all_eq_false.2 ⟨x,List.mem_of_getElem? d,by rw [c];simp⟩)] at b;exact b
 grind
theorem Xe {P:Program} {l:Sl} {a:List Int} {Q:Int->Int->Hp->Prop} (r:Us h l a) (b:Q (jH a).1 (jH a).2 h):zsk P l Q h:=GV (P:=P) r b
theorem ZR (a b c d:Bool) {i:Nat} (e:i<4):List.get?Internal (α:=Value) [.bool a,.bool b,.bool c,.bool d] (0+(i*1))=some (.bool (([a,b,c,d]:List Bool).getD i false)):=by
 match i,e with
 | 0,_=>rfl
 | 1,_=>rfl
 | 2,_=>rfl
 | 3,_=>rfl
theorem adn {x:an} {c:aL} {Q:Int->Int->Hp->Prop} (a:eT h x c) (b:∀at_,Q (fa c).1 at_ h):Yg prog x Q h:=by
 unfold Yg;have G:x.aQ.len=c.labels.length:=a.labels.1;unfold fa uK at b;refine zzi (Xe a.labels ?_);dsimp only;by_cases l:(jH c.labels).1≠0
 ·grind
 rw [if_neg l] at b;rw [if_neg (by simpa using l)];obtain ⟨R,F,_⟩:=fN.1 (Classical.not_not.1 l);rw [G];refine zur (adm a.table F ?_);by_cases A:c.table=[]
 ·grind
 rw [if_neg A] at b ⊢;by_cases B:64<c.table.length
 ·grind
 rw [if_neg B] at b ⊢;by_cases C:(c.table.all λp=>within p 0 (c.labels.length-1))=false
 ·grind
 rw [if_neg C] at b ⊢;rw [jO];refine Ho (HA ⟨⟨trivial,trivial,trivial,trivial⟩,Ho (HA ⟨⟨trivial,trivial,trivial⟩,Ho (HA ⟨⟨trivial,trivial⟩,Ho (HA ?_)⟩)⟩)⟩);rw [a.fuel,a.lane,a.ag,a.log];refine gh (n:=4) rfl (by omega) (λi z=>z=h/\(1<=i->within c.fuel 1 256=true)/\(2<=i->within c.lane 1 64=true)/\(3<=i->within c.ag 0 8=true)/\(4<=i->within c.log 0 4096=true)) ⟨rfl,λe=>by omega,λe=>by omega,λe=>by omega,λe=>by omega⟩ ?_ ?_
 ·rintro i u k ⟨rfl,N,w,y,O⟩ K D;refine ⟨⟨by omega,by omega⟩,_,ZR _ _ _ _ u,?_⟩;grind
 ·rintro k ⟨rfl,N,w,y,O⟩;rw [if_neg (by grind),if_neg (by rw [w (by omega)];simp),if_neg (by rw [y (by omega)];simp),if_neg (by grind)] at b;obtain ⟨j,o,t⟩:=a.procs;have S:x.aD.len=j.length:=o.1;have T:=t.len;by_cases r:c.procs=[]
  ·grind
  rw [if_neg r] at b;have V:0<c.procs.length:=List.length_pos_iff.2 r;rw [if_neg (by grind)];by_cases s:32<c.procs.length
  ·grind
  rw [if_neg s] at b;rw [if_neg (λe=>s (by grind))];refine gh (n:=j.length) (by omega) (by omega) (λi J=>J=k/\(wa c.labels.length c.ag (c.procs.drop i) i).1=(wa c.labels.length c.ag c.procs 0).1) ⟨rfl,rfl⟩ ?_ ?_
  ·rintro i u L ⟨rfl,d⟩ K D;refine Rw.wv o (λ_=>rfl) (by omega) (sh:=af .i64) (λq=>q.Part) (λ_=>rfl) (by omega) (by omega) λq g=> ?_;have g:j[i]? =some q:=g;obtain ⟨v,H,I,X,E,U⟩:=t.get g;rw [Ak H,wa] at d;rw [wrap64 (n:=(c.labels.length:Int)-1) (by omega) (by omega)];refine Ho (HA ?_);rw [I];by_cases m:within v.part 0 ((c.labels.length:Int)-1)=false
   ·rw [if_pos m] at d;rw [if_pos (by rw [m];rfl)];rw [<-d] at b;exact b _
   rw [if_neg m] at d;rw [if_neg (by cases W:within v.part 0 ((c.labels.length:Int)-1)<;>simp_all)];refine Rw.wv o (λ_=>rfl) (by omega) (sh:=aw) (λq=>q.Code) (λ_=>rfl) (by omega) (by omega) λM f=> ?_;have f:j[i]? =some M:=f;rw [g] at f;cases f;refine zzj (acF E λP=> ?_);grind
  ·rintro L ⟨rfl,d⟩;rw [List.drop_of_length_le (by omega),wa] at d;grind
end
section
variable {c:aL} {s:MS} {t:aR}
structure GT (c:aL) (t:aR):Prop where
 gV:Good c (j9 c) (cI t) No No t.tick
 parts:t.parts.length=nP c
 procs:t.procs.length=nQ c
theorem GT.of (m:cP c) (g:Good c (j9 c) s No No s.tick) (a:s.tick<=4611686018427387904):GT c (s.list c):=
 ⟨G9 m (Good.may m g a) λx b=>by
  obtain ⟨p,hp,rfl⟩:=List.mem_map.1 b;exact (g.proc p (List.mem_range.1 hp)).aP,Ui,Uk⟩
theorem P9 {D:Int->Int->Int->Int} (m:cP c) {fl:Nat->Nat->Bool} (g:Good c fl s No No s.tick):(lY c D fl s).tick=s.tick+1:=by have b:=(g.yL (T':=s.tick+1) (by omega)).due (i:=nT c s.tick);obtain ⟨_,a⟩:=Good.turns (D:=D) m (m.nO (t:=s.tick)) c.fuel.toNat b rfl;have a:(pv c D fl (nT c s.tick) c.fuel.toNat (j6 c s (nT c s.tick))).tick=s.tick:=a;show (pv c D fl (nT c s.tick) c.fuel.toNat (j6 c s (nT c s.tick))).tick+1=_;rw [a]
theorem GT.tick (m:cP c) (g:GT c t) (a:t.tick<4611686018427387904):GT c (rJ c t)/\(rJ c t).tick=t.tick+1:=by have e:(lY c fF (j9 c) (cI t)).tick=t.tick+1:=P9 m g.gV;exact ⟨GT.of m (g.gV.yA m) (by omega),e⟩
theorem GT.inj (m:cP c) (g:GT c t) (a:t.tick<=4611686018427387904) {p v:Int}:GT c (wB c t p v)/\(wB c t p v).tick=t.tick:=by have e:(uA c (cI t) p v).1.tick=t.tick:=adJ;exact ⟨GT.of m (by rw [e];exact g.gV.Dr) (by omega),e⟩
theorem GT.kill (m:cP c) (g:GT c t) (a:t.tick<=4611686018427387904) {p:Int}:GT c (rC c t p)/\(rC c t p).tick=t.tick:=by have e:(jF c (cI t) p).1.tick=t.tick:=Vt;exact ⟨GT.of m (by rw [e];exact g.gV.kill m) (by omega),e⟩
theorem GT.le (m:cP c) (g:GT c t):te t:=abR (g.gV.qa m) m g.parts g.procs
theorem GT.may (m:cP c) (g:GT c t) (a:t.tick<=4611686018427387904):kh c t:=by have:=Good.may m g.gV a;rw [Br g.parts g.procs] at this;exact (LM m).2 this
theorem ZS (m:cP c):GT c ((oZ c).list c)/\((oZ c).list c).tick=0:=⟨GT.of m (Good.first m) (by show (0:Int)<=_;decide),rfl⟩
end
section
variable {h k:Hp}
theorem Gz {a:Type} {b:Bool} {A:(a->Hp->Prop)->Hp->Prop} {K:a->Hp->Prop} (hb:b=true) (c:A K h):dm (some b) A K h:=⟨λ_=>c,λe=>(by grind)⟩
variable {c:aL} {t1 t2 t:aR} {pm:Addr} {n:Option Addr}
end
def rW (t:aR):Prop:=fZ (cI t)
section
variable {c:aL} {s:MS} {t:aR}
theorem fZ.list (h:fZ s):fZ (cI (s.list c)):=by
 refine ⟨h.tick,λi e a=> ?_,λp=> ?_⟩
 ·have a:e∈(((List.range (nP c)).map s.part).getD i nw).log:=a;rw [List.getD_eq_getElem?_getD,List.getElem?_map] at a;cases b:(List.range (nP c))[i]? with
  | none=>rw [b] at a;cases a
  | some j=>rw [b] at a;exact h.part j e a
 ·show rV (((List.range (nQ c)).map s.proc).getD p rF);rw [List.getD_eq_getElem?_getD,List.getElem?_map];cases b:(List.range (nQ c))[p]? with
  | none=>exact ⟨λv hv=>(by cases hv),i0,i0,λl d=>(by cases d),Nat.zero_le _⟩
  | some j=>exact h.proc j
theorem Um (ty:Typed c) (p:Nat):∀x∈jq c p,cN x.gR:=λx a=>by
 unfold jq at a;cases h:c.procs[p]? with
 | none=>rw [h] at a;cases a
 | some y=>rw [h] at a;exact ty.2 y (List.mem_of_getElem? h) x a
theorem rW.tick (ty:Typed c) (m:cP c) (g:GT c t) (h:rW t) (d:t.tick<4611686018427387904):rW (rJ c t):=by have a:=g.gV.tick;have b:=m.procs;exact (fZ.yA (c:=c) h (Um ty) (by omega) ⟨a,by show t.tick<=_;omega⟩ (P9 m g.gV)).list
theorem rW.inj (h:rW t) {p v:Int} (hv:cN v):rW (wB c t p v):=(fZ.inj h hv).list
theorem rW.kill (h:rW t) {p:Int}:rW (rC c t p):=(fZ.kill h).list
theorem rW.first (m:cP c):rW ((oZ c).list c):=by
 have hp:=m.parts;refine fZ.list ⟨i0,λi e a=>(by cases a),λp=>⟨λv hv=> ?_,i0,i0,λl b=> ?_,?_⟩⟩
 ·rw [List.eq_of_mem_replicate hv];exact i0
 ·rw [List.eq_of_mem_replicate b];exact ⟨λv hv=>(by cases hv),λw d=>(by cases d)⟩
 ·show (List.replicate (nP c+1) _).length<=1000;rw [List.length_replicate];omega
theorem rW.typed (g:GT c t) (h:rW t):zN t:=by
 refine ⟨fZ.tick h,λx f e k=> ?_,λx f=> ?_⟩
 ·obtain ⟨i,d⟩:=List.mem_iff_getElem?.1 f;have b:(cI t).part i=x:=rM d;exact fZ.part h i e (by rw [b];exact k)
 ·obtain ⟨i,d⟩:=List.mem_iff_getElem?.1 f;have b:(cI t).proc i=x:=rM d;have l:=(List.getElem?_eq_some_iff.1 d).1;have a:=fZ.proc h i;rw [b] at a;have j:=(g.gV.proc i (by rw [<-g.procs];exact l)).aP;rw [b] at j;exact ⟨j,a.aP,a.iQ,a.jg,a.dP⟩
end
def vB (c:aL) (t:aR) (x:dv):aR:=if x.Kind=2 then wB c t x.N x.V else if x.Kind=3 then rC c t x.N else rJ c t
def zS (c:aL) (t:aR) (x:dv):Int×Int:=if x.Kind=2 then (0,(uA c (cI t) x.N x.V).2) else if x.Kind=3 then (0,(jF c (cI t) x.N).2) else ((nT c t.tick:Int),0)
section
variable {h k:Hp} {c:aL} {t1 t2 t:aR} {pm d:Addr} {n:Option Addr} {x:dv}
theorem GT.vB (m:cP c) (g:GT c t) (e:t.tick<4611686018427387904):GT c (vB c t x)/\(Lf.vB c t x).tick<=t.tick+1:=by
 unfold Lf.vB;split
 ·obtain ⟨a,b⟩:=g.inj m (p:=x.N) (v:=x.V) (by omega);exact ⟨a,by omega⟩
 ·split
  ·obtain ⟨a,b⟩:=g.kill m (p:=x.N) (by omega);exact ⟨a,by omega⟩
  ·obtain ⟨a,b⟩:=g.tick m e;exact ⟨a,by omega⟩
theorem rW.vB (ty:Typed c) (m:cP c) (g:GT c t) (h:rW t) (a:t.tick<4611686018427387904) (hv:cN x.V):rW (Lf.vB c t x):=by
 unfold Lf.vB;split
 ·exact h.inj hv
 ·split
  ·exact h.kill
  ·exact h.tick ty m g a
theorem dG.config {Q:an->Hp->Prop} (q:dG h k c t1 t2 pm n) (s:cP c) (m:∀r b a,h<=b->eT b r c->dG b a c t1 t2 pm n->Q r a):QP prog (some pm) Q k:=by obtain ⟨K,A,i,C,rfl,mk,z,e,o⟩:=q.ex;obtain ⟨D,p,u,_,put⟩:=o.fst;refine T0 (mk.mono p) s u λr a v=> ?_;have w:=Has.carry (put _) v;obtain ⟨j,g,y,⟨F,⟨B,l,_⟩,_⟩,_⟩:=w.fst;exact m r j a g l.rd ⟨K,A,i,C,rfl,mk.mono g,z,λf=>⟨(e f).1,(e f).2.1.mono g,(e f).2.2⟩,y⟩
theorem dG.do1 {Q:Int->Int->Hp->Prop} (q:dG h k c t1 t2 pm n) (f:cP c) (g:GT c t1) (j:t1.tick<4611686018427387904) (a:∀i,dG h i c (vB c t1 x) t2 pm n->Q (zS c t1 x).1 (zS c t1 x).2 i):Me prog (some pm) x Q k:=by
 unfold Me;unfold vB zS at a;by_cases b:x.Kind=2
 ·rw [if_pos (by simpa using b)];rw [if_pos b,if_pos b] at a;exact zkm (q.Se f g.gV a)
 rw [if_neg (by simpa using b)];rw [if_neg b,if_neg b] at a;by_cases e:x.Kind=3
 ·rw [if_pos (by simpa using e)];rw [if_pos e,if_pos e] at a;exact zmk (q.Ia f g.gV a)
 rw [if_neg (by simpa using e)];rw [if_neg e,if_neg e] at a;exact zmj (q.IA f g.gV j a)
theorem dG.do2 {Q:Int->Int->Hp->Prop} (q:dG h k c t1 t2 pm (some d)) (f:cP c) (g:GT c t2) (j:t2.tick<4611686018427387904) (a:∀i,dG h i c t1 (vB c t2 x) pm (some d)->Q (zS c t2 x).1 (zS c t2 x).2 i):Me prog (some d) x Q k:=by
 unfold Me;unfold vB zS at a;by_cases b:x.Kind=2
 ·rw [if_pos (by simpa using b)];rw [if_pos b,if_pos b] at a;exact zkm (q.Sf f g.gV a)
 rw [if_neg (by simpa using b)];rw [if_neg b,if_neg b] at a;by_cases e:x.Kind=3
 ·rw [if_pos (by simpa using e)];rw [if_pos e,if_pos e] at a;exact zmk (q.Ib f g.gV a)
 rw [if_neg (by simpa using e)];rw [if_neg e,if_neg e] at a;exact zmj (q.IB f g.gV j a)
end
section
variable {h:Hp} {x:an} {c:aL} {a more:Sl} {S M:List dv}
theorem qK {Q:Bool->Hp->Prop} (T:eT h x c) (H:Typed c) (C:Rs h dB 3 a S) (n:Rs h dB 3 more M) (vs:∀x∈S,cN x.V) (vm:∀x∈M,cN x.V) (Y:∀b,h<=b->Q true b):
  Up prog x a more Q h:=by
 unfold Up;have K:=ZP H;have c8:a.len=S.length:=C.1;have c7:more.len=M.length:=n.1;refine zvw (Uc λh1 D=> ?_);rw [jO];refine WS (abP (T.mono D) K (λk1 A l=> ?_) λpm k1 l A st=> ?_)
 ·refine aE ?_;rw [if_pos (by simp)];refine zzg (adn (T.mono (Hp.le_trans D A)) λat_=>aE ?_);rw [show ((fa c).1==(fa c).1&&(none:Option Addr).isNone)=true by simp];exact Y k1 (Hp.le_trans D A)
 ·refine aE ?_;rw [jO];have d:=Cf l;obtain ⟨hb,b6,q0⟩:=st.pair;have lb:h<=hb:=Hp.le_trans D b6;obtain ⟨g0,c3⟩:=ZS d;refine aB.intro (λ(i:Int) k=>0<=i/\i<=300/\∃t,dG hb k c t t pm none/\GT c t/\rW t/\t.tick<=i) (λi _=>(300-i).toNat) ⟨by omega,by omega,_,q0,g0,rW.first d,by omega⟩ ?_;rintro i k2 ⟨i0,i1,t,q,g,ty,d0⟩;refine aE ?_;by_cases X:i<(a.len:Int)/\i<300
  ·rw [if_pos (by simpa using X)];refine Rs.get (sh:=dB) (Rw.mono (Hp.le_trans lb q.le) C) (λ_=>rfl) (by omega) i0 (by omega) λ(z:dv) L=> ?_;refine WN (m:=some pm) (s:=z) (q.do1 d g (by omega) λk3 N=> ?_);rw [aV];obtain ⟨g3,e3⟩:=g.vB d (x:=z) (by omega);exact ⟨⟨by omega,by omega,_,N.alone,g3,ty.vB H d g (by omega) (vs z (List.mem_of_getElem? L)),by omega⟩,by omega⟩
  rw [if_neg (by simpa using X)];refine zug (q.config d λr3 c4 k3 b7 hc q1=> ?_);refine UD (q1.yy d g.gV g.parts g.procs λr4 b1 k4 a9 hr q2=> ?_);have b3:=hc.mono a9;have ts:zN t:=rW.typed g ty;have u:=g.may d (by omega:t.tick<=4611686018427387904);have b5:=Ue H ts l u;have Z:=Uf H ts l u;have a8:oy iP (iO c t)=.ok (c,t):=Pc pL (x:=(c,t)) b5 (Nat.le_of_lt Z);refine q2.base (sh:=nS aw (af .i64)) (K0:=λz b=>z.2=0/\Bs b z.1 (iO c t)/\z.1.len<=z.1.cap)
   (KL (Q:=λr e b=>b1<=b/\e=0/\Bs b r (iO c t)/\r.len<=r.cap) (MV b3 hr K (Oz (g.le d)) (λ_ _=>Nat.le_of_lt Z) (λe U B J n=>absurd (n.uniq (.inr ⟨l,.inl ⟨rfl,u⟩⟩)) J) λ_ _ out U B oo=>⟨B,rfl,oo.rw sQ,oo.2.1⟩)) ?_
  rintro ⟨r5,r6⟩ b2 k5 b8 ⟨o,ob,b0⟩ N;dsimp only at o ob b0 ⊢;subst o;refine N.base (sh:=xc aA ov (af .i64) (af .i64)) (K0:=λz b=>z.2.2.1=0/\eT b z.1 c/\dw b z.2.1 t)
   (zsc (Q:=λx v e _ b=>b2<=b/\e=0/\eT b x c/\dw b v t) (DO ob b0 (λe p h5 l5 J C=>(C.yi J a8 l u).elim) λx' v' c' s' B1 B2 h5 l5 y _ _ o1 o2 _ _=>⟨l5,rfl,?_⟩)) ?_
  ·rw [a8] at y;cases y;exact ⟨o1.rd,o2.rd⟩
  rintro ⟨r7,r8,r9,d1⟩ c5 k6 b9 ⟨o,P,R⟩ q4;dsimp only at o P R ⊢;subst o;refine aE ?_;rw [jO];refine q4.alone.lay (WV (abN P R K (g.le d) (λe k' _ b4 n=> ?_) λF k' _ _ _ st=>⟨F,rfl,rfl,st⟩)) λF b k' l' q'=> ?_
  ·exact absurd (n.uniq (.inr ⟨l,.inl ⟨rfl,u⟩⟩)) b4
  refine aE ?_;rw [jO];have lh:h<=b:=Hp.le_trans lb (Hp.le_trans b7 (Hp.le_trans a9 (Hp.le_trans b8 (Hp.le_trans b9 l'))));refine aB.intro (λ(j:Int) k=>0<=j/\j<=100/\∃hb t,h<=hb/\dG hb k c t t pm (some F)/\GT c t/\t.tick<=300+j) (λj _=>(100-j).toNat) ⟨by omega,by omega,b,t,lh,q',g,by omega⟩ ?_;rintro j k7 ⟨j0,j1,c6,G,E,O,I,c9⟩;refine aE ?_;by_cases W:j<(more.len:Int)/\j<100
  ·rw [if_pos (by simpa using W)];refine Rs.get (sh:=dB) (Rw.mono (Hp.le_trans E O.le) n) (λ_=>rfl) (by omega) j0 (by omega) λ(z:dv) L=> ?_;refine WN (m:=some pm) (s:=z) (O.do1 d I (by omega) λk8 q8=> ?_);refine Rs.get (sh:=dB) (Rw.mono (Hp.le_trans E q8.le) n) (λ_=>rfl) (by omega) j0 (by omega) λ(w:dv) y=> ?_;rw [L] at y;cases y;refine WN (m:=some F) (s:=z) (q8.do2 d I (by omega) λk9 q9=>aE ?_);obtain ⟨f,e6⟩:=I.vB d (x:=z) (by omega);have no:(((zS c G z).1 !=(zS c G z).1) || ((zS c G z).2 !=(zS c G z).2))=false:=by simp
   rw [no];refine Gz rfl (UD (q9.yy d f.gV f.parts f.procs λs1 h2 k2 A a1 c0=> ?_));refine Gz rfl (UD (c0.DH d f.gV f.parts f.procs λs2 U k3 B a2 c1=> ?_));refine Gz rfl (c1.base (sh:=bH) (K0:=λr _=>r=true) (znq (P2 (a1.mono B) a2 (f.le d) ⟨Hp.le_refl _,rfl⟩)) ?_);rintro r h4 k4 l4 rfl c2;refine aE ?_;rw [jO,aV];exact ⟨⟨by omega,by omega,h4,_,Hp.le_trans E (Hp.le_trans A (Hp.le_trans B l4)),c2,f,by omega⟩,by omega⟩
  ·rw [if_neg (by simpa using W)];exact Y k7 (Hp.le_trans E O.le)
end
end Lf
namespace Lf
open Go Go.Proofs Go.ChangeShapes Go.WideShapes Go.ChangeAt Go.RowKit
section
variable {H:Type} {enc:TypeId×Value->H} {W:World}
abbrev yb :dv->List Value:=λx=>bA (dB.enc x)
theorem acK :mT enc Tryz.prog W 43 λa=>∃x,a=yb x/\(cN x.Kind/\cN x.N/\cN x.V):=λf a y h c=>by have b:=cD.cH 43 Kw rfl;have d:=Cj b h;rw [show Tryz.prog.cellsOf 43=3 by kernel_rfl] at d;obtain ⟨a0,g,l⟩:=uv b h c (i:=0) (off:=0) rfl rfl kZ li;obtain ⟨a1,j,n⟩:=uv b h c (i:=1) (off:=1) rfl rfl kZ li;obtain ⟨a2,k,o⟩:=uv b h c (i:=2) (off:=2) rfl rfl Nq Ig;refine ⟨⟨a0,a1,a2⟩,?_,AY l,AY n,AY o⟩;have e:a=a.drop 0:=rfl;rw [e,uc (m:=1) g rfl,uc (m:=2) j rfl,uc (m:=3) k rfl,List.drop_of_length_le (Nat.le_of_eq d)];rfl
theorem rm {v:Value} {d:DataW H} {j:List MemPlace} {base:Nat} (hv:Value.okWide Tryz.prog W .any base 27 v) (h:DataW.Trod enc Tryz.prog W 0 (λ_=>true) true 27 v d j) (i:(DataW.weights Tryz.prog 27 d).all (· <=reachBytes)=true):
  ∃(l:Sl) (e:List dv),v=l.v/\qz W 3 yb (λx=>cN x.Kind/\cN x.N/\cN x.V) l e:=by
 obtain ⟨a,n,c,rfl⟩:=okWide_slice (cD.cH 27 DK rfl) hv;obtain ⟨fuel,g⟩:=h;obtain ⟨l,e,b,f⟩:=Qh (enc:=enc) (W:=W) (cD.cH 27 DK rfl) yb (λx=>cN x.Kind/\cN x.N/\cN x.V) (sz:=3) (by kernel_rfl) (by rw [show Tryz.prog.bytesOf 43=24 by kernel_rfl];omega) acK (λ_=>rfl) fuel _ _ g i;refine ⟨l,e,?_,f⟩;have b: [Value.slice a n c]=[l.v]:=b;exact List.cons.inj b |>.1
end
end Lf
