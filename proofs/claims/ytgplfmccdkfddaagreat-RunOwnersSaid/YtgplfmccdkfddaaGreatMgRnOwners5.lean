/-
  Part 6 of the texts that the claim leans on.
-/
import Derived.ChangeKeysEq
import Derived.ProofKit
import Derived.SizedLaws
import Derived.OpenShut
import Derived.Laws.IdiomStrings
import Derived.Test.YtgplfmccdkfddaaGreatMgRnOwners4
set_option maxRecDepth 100000
namespace Lf
open Go Go.Proofs Tryz
theorem Mo {P M S a b:List Nat} {k:Hp} (nd:(P++(M++S)).Nodup) (d:a.Nodup) (e:∀c∈a,c∈M++b\/k c=none) (f:∀c∈P++S,k c≠none) (hb:∀c∈b,c∉P++S):(P++(a++S)).Nodup:=by grind
section
variable {d h0 k:Hp} {rb g:Nat} {bl:Sl} {bs:List UInt8} {r:RS} {x:al} {c:aI} {B:List Nat}
theorem CB.rj (s:CB d h0 rb g bl bs k r x c B) {b:Nat} (e:k b=none):h0 b=none:=by
 cases h:h0 b with
 | none=>rfl
 | some o=>
  have a:b≠rb:=λh=>by obtain ⟨p,q,t,i,_⟩:=s.rd.fu;exact i.known (h▸e)
  have f:b≠g:=λh=>s.fu.known (h▸e);rw [s.bq b o h a f] at e;cases e
abbrev CB.Next (d h0:Hp) (rb g:Nat) (bl:Sl) (bs:List UInt8) (a:Hp) (r:RS) (x h:al) (f:aI) (off:Nat) (v:Value):Prop:=
 (∀b o,h0 b=some o->b≠rb->b≠g->a b=some o)/\eI a g (mf x)/\∀Kf:Hp->Prop,(∀e B',CB d h0 rb g bl bs e r h f B'->Kf e)->bW a ⟨g,off,none⟩ [v] Kf
theorem CB.labels (s:CB d h0 rb g bl bs k r x c B) {v:Int} {y:Sl} (A:Us k y [v]) (hb:c.labels.length<=1000000) {K:Sl->Hp->Prop}
  (I:∀i k3,CB.Next d h0 rb g bl bs k3 r x {x with aE:=i} {c with labels:=c.labels++ [v]} 0 i.v->K i k3):eS 1 8 [.int .u64 (0:Int)] x.aE y K k:=by
 obtain ⟨l,a,B3,eB,D,F,G,f⟩:=s.own;have nd:=s.nd;rw [eB] at nd;have q:∀b∈a++B3,k b≠none:=λb hb=>ir.known s.own b (by rw [eB];exact cq hb);refine tB (dO.ok Eq) D (B':=[]) (v:=v) (p:=v) ⟨rfl,rfl⟩ (by rw [List.append_nil];exact (List.nodup_append.1 nd).1) A (λ_=>rfl) (λ_=>rfl) rfl (by omega) λi k3 j E C t m=> ?_;have w:∀b∈a++B3,b∉l:=λb hb u=>(List.nodup_append.1 nd).2.2 b u b hb rfl;have n:∀b∈a++B3,k3 b=k b:=λb hb=>by
  cases e:k b with
  | none=>exact absurd e (q b hb)
  | some o=>exact t b o e (w b hb)
 have h:=s.fin (k3:=k3) (x':={x with aE:=i}) (c':={c with labels:=c.labels++ [v]}) (B3:=j++(a++B3)) (off:=0) (v:=i.v) (λb H e z=>t b H e λh=>z (by rw [eB];exact cN h))
  ⟨j,a,B3,rfl,E,gu.same F λb hb=>n b (cN hb),iu.same G λb hb=>n b (cq hb),f⟩ (Mo (P:=[]) (M:=l) (S:=a++B3) nd C m q (λb hb=>by cases hb))
  (λb hb=>by
   rcases List.mem_append.1 hb with hb | hb
   ·rcases m b hb with hb | hb
    ·exact s.fresh b (by rw [eB];exact cN (by simpa using hb))
    ·exact s.rj hb
   ·exact s.fresh b (by rw [eB];exact cq hb)) (by omega) rfl
 grind
theorem CB.table (s:CB d h0 rb g bl bs k r x c B) {v:Int} {y:Sl} (z:Is k y [v]) (hb:c.table.length<=1000000) {K:Sl->Hp->Prop}
  (H:∀a k3,CB.Next d h0 rb g bl bs k3 r x {x with Table:=a} {c with table:=c.table++ [v]} 1 a.v->K a k3):eS 1 8 [.int .i64 (0:Int)] x.Table y K k:=by
 obtain ⟨i,u,B3,eB,C,E,F,f⟩:=s.own;have nd:=s.nd;rw [eB] at nd;have n:∀b∈i++B3,k b≠none:=λb hb=>ir.known s.own b (by
  rw [eB];rcases List.mem_append.1 hb with hb | hb
  ·exact cN hb
  ·exact cq (cq hb))
 have t:=List.nodup_append.1 (List.nodup_append.1 nd).2.1;refine tB (dO.ok Eq) E (B':=[]) (v:=v) (p:=v) ⟨rfl,rfl⟩ (by rw [List.append_nil];exact t.1) z (λ_=>rfl) (λ_=>rfl) rfl (by omega) λa k3 j D A q l=> ?_;have m:∀b∈i++B3,k3 b=k b:=λb hb=>by
  cases e:k b with
  | none=>exact absurd e (n b hb)
  | some o=>
   refine q b o e λh=> ?_;rcases List.mem_append.1 hb with hb | hb
   ·exact (List.nodup_append.1 nd).2.2 b hb b (cN h) rfl
   ·exact t.2.2 b h b hb rfl
 have h:=s.fin (k3:=k3) (x':={x with Table:=a}) (c':={c with table:=c.table++ [v]}) (B3:=i++(j++B3)) (off:=1) (v:=a.v) (λb G e w=>q b G e λh=>w (by rw [eB];exact cq (cN h)))
  ⟨i,j,B3,rfl,fM.same C λb hb=>m b (cN hb),D,iu.same F λb hb=>m b (cq hb),f⟩ (Mo (M:=u) nd A l n (λb hb=>by cases hb))
  (λb hb=>by
   rcases List.mem_append.1 hb with hb | hb
   ·exact s.fresh b (by rw [eB];exact cN hb)
   rcases List.mem_append.1 hb with hb | hb
   ·rcases l b hb with hb | hb
    ·exact s.fresh b (by rw [eB];exact cq (cN (by simpa using hb)))
    ·exact s.rj hb
   ·exact s.fresh b (by rw [eB];exact cq (cq hb))) (by omega) rfl
 grind
theorem CB.procs (s:CB d h0 rb g bl bs k r x c B) {v:bK} {p:fq} {B':List Nat} (e:oe v p k B') (H:B'.Nodup) (m:∀b∈B',h0 b=none/\b∉B) {y:Sl} (F:Rs k bC 2 y [v]) (hb:c.procs.length<=1000000) {K:Sl->Hp->Prop}
  (Q:∀i k3,CB.Next d h0 rb g bl bs k3 r x {x with aQ:=i} {c with procs:=c.procs++ [p]} 6 i.v->K i k3):eS 2 32 [.int .i64 (0:Int),.slice none 0 0] x.aQ y K k:=by
 obtain ⟨j,l,B3,eB,I,L,N,f⟩:=s.own;have nd:=s.nd;rw [eB] at nd;have z:=List.nodup_append.1 nd;have A:=List.nodup_append.1 z.2.1;have u:∀b∈j++l,k b≠none:=λb hb=>ir.known s.own b (by
  rw [eB];rcases List.mem_append.1 hb with hb | hb
  ·exact cN hb
  ·exact cq (cN hb))
 refine tB rQ N (v:=v) (p:=p) e (by
   rw [List.nodup_append];exact ⟨A.2.1,H,λa C b hb e=>(m b hb).2 (by rw [eB,<-e];exact cq (cq C))⟩) F (λ_=>rfl) (λ_=>rfl) rfl (by omega) λi k3 n J G w q=> ?_
 have t:∀b∈j++l,k3 b=k b:=λb hb=>by
  cases e:k b with
  | none=>exact absurd e (u b hb)
  | some o=>
   refine w b o e λh=> ?_;rcases List.mem_append.1 hb with hb | hb
   ·exact z.2.2 b hb b (cq h) rfl
   ·exact A.2.2 b hb b h rfl
 have D:=Mo (P:=j++l) (M:=B3) (S:=[]) (by simpa using nd) G q (by simpa using u) (λb hb h=>(m b hb).2 (by
  rw [eB];rw [List.append_nil] at h;rcases List.mem_append.1 h with h | h
  ·exact cN h
  ·exact cq (cN h)))
 have h:=s.fin (k3:=k3) (x':={x with aQ:=i}) (c':={c with procs:=c.procs++ [p]}) (B3:=j++(l++n)) (off:=6) (v:=i.v) (λb O e E=>w b O e λh=>E (by rw [eB];exact cq (cq h)))
  ⟨j,l,n,rfl,fM.same I λb hb=>t b (cN hb),gu.same L λb hb=>t b (cq hb),J,f⟩ (by simpa using D)
  (λb hb=>by
   rcases List.mem_append.1 hb with hb | hb
   ·exact s.fresh b (by rw [eB];exact cN hb)
   rcases List.mem_append.1 hb with hb | hb
   ·exact s.fresh b (by rw [eB];exact cq (cN hb))
   rcases q b hb with hb | hb
   ·rcases List.mem_append.1 hb with hb | hb
    ·exact s.fresh b (by rw [eB];exact cq (cq hb))
    ·exact (m b hb).1
   ·exact s.rj hb) (by omega) rfl
 grind
end
theorem S9 {P:Program} {q f:Nat} {x:al} {b:List Int} {h:Hp} {a:Int} (m:aV h ⟨q,0,none⟩ [.pointer (some ⟨f,0,none⟩)]) (kc:eI h f (mf x)) (p:Us h x.aE b) (u:b.length<=1000)
  {Q:Int->Hp->Prop} (c:Q (hZ b a) h):R7 P a ⟨q,0,none⟩ Q h:=by
 unfold R7;have s:x.aE.len=b.length:=p.1;refine bt (sh:=ah) (some ⟨f,0,none⟩) m (aD (bt (sh:=av) x.aE (kc.bI (off:=0) (n:=1) rfl) ?_));rw [s,wrap64 (by omega) (by omega)];refine su (sh:=ah) (some ⟨f,0,none⟩) m (aD (su (sh:=av) x.aE (kc.bI (off:=0) (n:=1) rfl) ?_));refine Rs.mP (sh:=af .u64) p (0:Int) (λ_=>rfl) (by omega) (λe=>by simp at e;omega) λ(i:Int) d=>aU ?_;unfold hZ at c;rw [List.getLast?_eq_getElem?] at c;by_cases v:b.length=0
 ·have l:decide (((b.length:Nat):Int)-1>=0)=false:=decide_eq_false (by omega);rw [List.getElem?_eq_none (by omega)] at c;rw [l,if_neg (by simp)];refine ⟨none,λe=>(by cases e),⟨f,0,none⟩,λe=>(by cases e),⟨none,0,0⟩,λe=>(by cases e),λe=>(by cases e),(0:Int),λe=>(by cases e),aU ?_⟩;rw [if_neg (by simp)];exact c
 ·have l:decide (((b.length:Nat):Int)-1>=0)=true:=decide_eq_true (by omega);have o:b[b.length-1]? =some (b[b.length-1]'(by omega)):=List.getElem?_eq_getElem (by omega);have r:(((b.length:Nat):Int)-1).toNat=b.length-1:=by omega
  have d:=d l;rw [r,o] at d;have d:b[b.length-1]'(by omega)=i:=Option.some.inj d;rw [o,d] at c;have c:Q (if a=i then 8 else if a<i then 7 else 0) h:=c;rw [l,Bool.true_and];by_cases j:a=i
  ·rw [if_pos (by simpa using j)];rw [if_pos j] at c;exact c
  ·rw [if_neg (by simpa using j)];rw [if_neg j] at c;refine su (sh:=ah) (some ⟨f,0,none⟩) m (aD (su (sh:=av) x.aE (kc.bI (off:=0) (n:=1) rfl) ?_));refine Rs.mP (sh:=af .u64) p (0:Int) (λ_=>rfl) (by omega) (λe=>by omega) λ(t:Int) g=>aU ?_;have g:=g rfl;rw [r,o] at g;have g:b[b.length-1]'(by omega)=t:=Option.some.inj g;rw [<-g,d,Bool.true_and];by_cases k:a<i
   ·rw [if_pos (decide_eq_true k)];rw [if_pos k] at c;exact c
   ·rw [if_neg (λe=>k (of_decide_eq_true e))];rw [if_neg k] at c;exact c
abbrev wY (a:List Int):D Int:=D.bV (zD 8) (hZ a)
section
variable {d h0 k:Hp} {rb a:Nat} {bl:Sl} {bs:List UInt8} {r:RS} {x:al} {c:aI} {B:List Nat}
theorem EC {e:Type} (g:List e->D e) (n:Nat) (b:List e):D.many g (n+1) b=D.bind (g b) λx=>D.many g n (b++ [x]):=rfl
theorem We (s:CB d h0 rb a bl bs k r x c B) (hl:c.labels=[]) {Q:Hp->Prop}
  (hq:∀(xs:List Int) G V A E,xs.length<=255->CB d h0 rb a bl bs V G A {c with labels:=xs} E->
   (∀(C:Type) (f:Int->List Int->D C),dD r (D.bind (D.bV (zD 1) (eK 8)) λY=>D.bind (D.many wY Y.toNat []) λlabels=>f Y labels) bs=dD G (f xs.length xs) bs)->Q V):
  TG prog (some ⟨rb,0,none⟩) (some ⟨a,0,none⟩) Q k:=by
 unfold TG;refine kj λl L J b7 a8=> ?_;have s1:=s.grow b7;have b0:l∉B:=λh=>ir.known s.own l h J;have O:l≠rb:=λh=>by obtain ⟨p,q,t,kb,_⟩:=s.rd.fu;exact kb.known (h▸J)
 have N:l≠a:=λh=>s.fu.known (h▸J);have b4:∃o,lJ L B l=some o/\∀m:Hp,m l=some o->aV m ⟨l,0,none⟩ [.pointer (some ⟨a,0,none⟩)]:=by obtain ⟨t,e⟩:=a8;refine ⟨_,by rw [rN b0];exact e,λm e2=>eI.bI ⟨t,e2⟩ (off:=0) (n:=1) rfl⟩
 obtain ⟨Z,U,T⟩:=b4;refine QJ (DH s1.rd λv G k2 hv m2 a2 b1=> ?_);have s2:=s1.BP.step m2 a2;refine aC.intro (λn y=>∃(i:Nat) (xs:List Int) (u:RS) (A:al) (E:List Nat),n=(i:Int)/\(i+xs.length=v)/\CB d (lJ L B) rb a bl bs y u A {c with labels:=xs} E/\
   ∀(C:Type) (f:List Int->D C),dD G (D.bind (D.many wY v []) f) bs=dD u (D.bind (D.many wY i xs) f) bs) (λn _=>n.toNat)
  ⟨v,[],G,x,B,rfl,by simp,by have:=s2;rw [show c={c with labels:=[]} by rw [<-hl]] at this;exact this,λ_ _=>rfl⟩ ?_
 rintro n y ⟨i,xs,u,A,E,rfl,c0,z,P⟩;refine uM (λb=>b=true↔∃e,u=.error e) false (λ_ hk=>ud (z.rd.bad hk)) λb hb=>aU ?_;have R:(i=0\/∃e,u=.error e)->Q y:=λb9=>by
  refine hq xs u y A E (by omega) (s1.back z) λC f=> ?_;rw [b1];have e:=P C λlabels=>f v labels;rw [show ((v:Int)).toNat=v from rfl,e];rcases b9 with rfl | ⟨e,rfl⟩
  ·have:v=xs.length:=by omega
   rw [this];rfl
  ·rfl
 by_cases S:i=0
 ·rw [if_neg (by simp [S])];exact R (.inl S)
 have hb:=hb (decide_eq_true (by omega));cases b with
 | true=>rw [if_neg (by simp)];exact R (.inr (hb.1 rfl))
 | false=>
  rw [if_pos (by simp;omega)];obtain ⟨j,rfl⟩:∃j,i=j+1:=⟨i-1,by omega⟩;have a9:Us y A.aE xs:=by obtain ⟨B1,B2,B3,_,o1,_⟩:=z.own;exact o1.rd
  refine MG (wrong:=⟨RP, #[], #[.pointer (some ⟨l,0,none⟩)]⟩) (yd (k:=8) z.rd (by omega) (by omega) (λn=>hZ xs (vi n)) (λn c1 K hK=> ?_) λw r2 W hw m4 a4 b2=> ?_)
  ·refine sN (g:=RP) rfl (zue ?_);exact S9 (T y (z.bq l Z U O N)) z.fu a9 (by omega) (hK y (Hp.le_refl _))
  ·have H:=z.step m4 a4;have b3:Cn bs u (wY xs) r2 (w:Int):=by show Cn bs u (D.bV (zD 8) (hZ xs)) r2 (vi w);rw [KR];exact b2.map
   have F:∀m:Hp,(∀b o,lJ L B b=some o->b≠rb->b≠a->m b=some o)->aV m ⟨l,0,none⟩ [.pointer (some ⟨a,0,none⟩)]:=λm b6=>T m (b6 l Z U O N);refine bt (sh:=ah) (some ⟨a,0,none⟩) (F W H.bq) (bt (sh:=ah) (some ⟨a,0,none⟩) (F W H.bq) (aD (bt (sh:=av) A.aE (H.fu.bI (off:=0) (n:=1) rfl) ?_)));refine mn (xs:=[(w:Int)]) (enc:=λx=>bg ((af .u64).enc x)) (sz:=1) rfl (λ_=>rfl) λb5 X _ b8 _ o5=> ?_;have I:=H.grow b8;refine ⟨⟨F X I.bq,F X I.bq,I.fu.bI (off:=0) (n:=1) rfl,trivial⟩,?_⟩;refine I.labels (v:=(w:Int)) (o5.rw λ_=>rfl) (by show xs.length<=_;omega) λl' k6 M=> ?_;refine ⟨⟨F k6 M.1,trivial⟩,aD (M.2.2 _ λk7 B7 s7=> ?_)⟩;rw [wrap64 (by omega) (by omega)];refine ⟨⟨j,xs++ [(w:Int)],r2,_,B7,by omega,by simp;omega,s7,λC f=> ?_⟩,by omega⟩;rw [P,EC,tI,b3]
theorem YU (s:CB d h0 rb a bl bs k r x c B) (J:c.table=[]) (a8:c.labels.length<=255) {Q:Hp->Prop}
  (N:∀(xs:List Int) p A h o,xs.length<=255->CB d h0 rb a bl bs A p h {c with table:=xs} o->
   (∀(m:Type) (f:List Int->D m),dD r (D.bind (D.bV (zD 1) (eK 64)) λR=>D.bind (D.many (λ_=>D.bV (zD 1) (cn 0 ((c.labels.length:Int)-1))) R.toNat []) λtable=>f table) bs=dD p (f xs) bs)->Q A):
  UD prog (some ⟨rb,0,none⟩) (some ⟨a,0,none⟩) Q k:=by
 unfold UD;refine QJ (DH s.rd λv p k2 hv O a2 H=> ?_);have s2:=s.step O a2;refine aC.intro (λn q=>∃(i:Nat) (xs:List Int) (l:RS) (h:al) (o:List Nat),n=(i:Int)/\(i+xs.length=v)/\CB d h0 rb a bl bs q l h {c with table:=xs} o/\
   ∀(m:Type) (f:List Int->D m),dD p (D.bind (D.many (λ_=>D.bV (zD 1) (cn 0 ((c.labels.length:Int)-1))) v []) f) bs=dD l (D.bind (D.many (λ_=>D.bV (zD 1) (cn 0 ((c.labels.length:Int)-1))) i xs) f) bs) (λn _=>n.toNat)
  ⟨v,[],p,x,B,rfl,by simp,by have:=s2;rw [show c={c with table:=[]} by rw [<-J]] at this;exact this,λ_ _=>rfl⟩ ?_
 rintro n q ⟨i,xs,l,h,o,rfl,Z,g,u⟩;refine uM (λb=>b=true↔∃e,l=.error e) false (λ_ I=>ud (g.rd.bad I)) λb hb=>aU ?_;have y:(i=0\/∃e,l=.error e)->Q q:=λM=>by
  refine N xs l q h o (by omega) g λm f=> ?_;rw [H];have e:=u m f;rw [show ((v:Int)).toNat=v from rfl,e];rcases M with rfl | ⟨e,rfl⟩
  ·rfl
  ·rfl
 by_cases z:i=0
 ·rw [if_neg (by simp [z])];exact y (.inl z)
 have hb:=hb (decide_eq_true (by omega));cases b with
 | true=>rw [if_neg (by simp)];exact y (.inr (hb.1 rfl))
 | false=>
  rw [if_pos (by simp;omega)];obtain ⟨j,rfl⟩:∃j,i=j+1:=⟨i-1,by omega⟩;have L:h.aE.len=c.labels.length:=by obtain ⟨V,W,X,_,S,_⟩:=g.own;exact S.len
  refine aD (bt (sh:=av) h.Table (g.fu.bI (off:=1) (n:=1) rfl) ?_);refine zjt (JM g.rd g.fu (by omega) λw r2 k4 hw P a4 t=> ?_);have C:=g.step P a4;rw [L] at t;refine ⟨⟨C.fu.bI (off:=1) (n:=1) rfl,trivial⟩,?_⟩;refine mn (xs:=[(w:Int)]) (enc:=λx=>bg ((af .i64).enc x)) (sz:=1) rfl (λ_=>rfl) λY k5 _ K _ T=> ?_;have E:=C.grow K;refine ⟨⟨E.fu.bI (off:=1) (n:=1) rfl,trivial⟩,?_⟩;refine E.table (v:=(w:Int)) (T.rw λ_=>rfl) (by show xs.length<=_;omega) λl' k6 G=> ?_;refine aD (G.2.2 _ λk7 F U=> ?_);rw [wrap64 (by omega) (by omega)];refine ⟨⟨j,xs++ [(w:Int)],r2,_,F,by omega,by simp;omega,U,λm f=> ?_⟩,by omega⟩;rw [u,EC,tI,t]
end
theorem I1 {v:Nat} (h:v<18446744073709551616):yw (v:Int)=i64 v:=by
 (try unfold yw);unfold IntKind.wrap i64
 simp only [IntKind.signed,IntKind.bits];simp;split<;>split<;>omega
theorem Fb {has:Bool} {n:Int} (h:0<=n):cS has n≠0↔((has&&decide (n>=8)) || ((!has)&&(n !=0)))=true:=by
 unfold cS;cases has with
 | true=>
  rw [if_neg (by simp)];by_cases a:n<0\/8<=n
  ·rw [if_pos a];simp;omega
  ·rw [if_neg a];simp;omega
 | false=>
  by_cases a:n≠0
  ·rw [if_pos ⟨rfl,a⟩];simpa using a
  ·rw [if_neg (λe=>a e.2),if_neg (by omega)];simpa using a
def rI (x:cp):Int:=if cS (gQ x.op).1 x.a≠0 then 1 else if cS (gQ x.op).2.1 x.b≠0 then 2 else if cS (gQ x.op).2.2.1 x.c≠0 then 3 else 4
theorem DJ {x:cp} {n ag:Int} (h:(gG x n ag).1≠0):(gG x n ag).2=if (gG x n ag).1=9 then 0 else rI x:=by
 have g:∀b m,cS b m≠9:=λb m=>by
  unfold cS;split
  ·decide
  ·split<;>decide
 unfold gG at h ⊢;unfold rI;by_cases i:x.op<0\/34<=x.op
 ·rw [if_pos i] at h ⊢;rw [if_pos rfl]
 rw [if_neg i] at h ⊢;by_cases d:cS (gQ x.op).1 x.a≠0
 ·rw [if_pos d] at h ⊢;rw [if_neg (g _ _),if_pos d]
 rw [if_neg d] at h ⊢;rw [if_neg d];by_cases e:cS (gQ x.op).2.1 x.b≠0
 ·rw [if_pos e] at h ⊢;rw [if_neg (g _ _),if_pos e]
 rw [if_neg e] at h ⊢;rw [if_neg e];by_cases f:cS (gQ x.op).2.2.1 x.c≠0
 ·rw [if_pos f] at h ⊢;rw [if_neg (g _ _),if_pos f]
 rw [if_neg f] at h ⊢;rw [if_neg f];by_cases j:(gQ x.op).2.2.2=false/\x.gW≠0
 ·rw [if_pos j] at h ⊢;rfl
 rw [if_neg j] at h ⊢;by_cases k:(x.op=22\/x.op=23)/\(x.gW<0\/n<x.gW)
 ·rw [if_pos k] at h ⊢;rfl
 rw [if_neg k] at h ⊢;by_cases l:(x.op=29\/x.op=30)/\(x.gW<0\/ag<=x.gW)
 ·rw [if_pos l] at h ⊢;rfl
 rw [if_neg l] at h;exact absurd rfl h
theorem Wg {h:Hp} {x:aL} {e:Int} {Q:Int->Hp->Prop} (v:0<=x.A) (hb:0<=x.B) (w:0<=x.C) (c:∀g,h<=g->Q (if e=9 then 0 else rI (ba x)) g):zwx prog x e Q h:=by
 unfold zwx;by_cases k:e=9
 ·rw [if_pos (by simpa using k)];rw [if_pos k] at c;exact c h (Hp.le_refl _)
 rw [if_neg (by simpa using k)];rw [if_neg k] at c;refine zzd (Je λH E=> ?_);generalize y:gQ x.Op=f at*;obtain ⟨f1,f2,f3,t⟩:=f;dsimp only;refine kj (cs:=[.bool f1,.int .i64 x.A,.bool f2,.int .i64 x.B,.bool f3,.int .i64 x.C]) λb u _ F m=> ?_;have c:=λg D=>c g (Hp.le_trans E (Hp.le_trans F D));have p:=Fb (has:=f1) v;have q:=Fb (has:=f2) hb;have r:=Fb (has:=f3) w;have G:rI (ba x)=if cS f1 x.A≠0 then 1 else if cS f2 x.B≠0 then 2 else if cS f3 x.C≠0 then 3 else 4:=by unfold rI;have e:gQ (ba x).op=(f1,f2,f3,t):=y;rw [e];rfl
 rw [G] at c;refine q8 (n:=3) rfl (by omega) (λi g=>g=u/\(1<=i->¬cS f1 x.A≠0)/\(2<=i->¬cS f2 x.B≠0)/\(3<=i->¬cS f3 x.C≠0)) ⟨rfl,λh=>by omega,λh=>by omega,λh=>by omega⟩ ?_ ?_
 ·rintro i z d ⟨rfl,j,l,s⟩ K o;refine ⟨⟨by simp,by omega,by omega⟩,?_⟩
  match i,z with
  | 0,_=>
   refine bt (sh:=HD) ⟨f1,x.A⟩ (m.bI (off:=0) (n:=2) rfl) (aU (aU (aU ?_)));dsimp only;by_cases a:cS f1 x.A≠0
   ·rw [if_pos (p.1 a),wrap64 (by omega) (by omega)];rw [if_pos a] at c;exact c d (Hp.le_refl _)
   ·rw [if_neg (λe=>a (p.2 e))];exact o d ⟨rfl,λ_=>a,λh=>by omega,λh=>by omega⟩
  | 1,_=>
   refine bt (sh:=HD) ⟨f2,x.B⟩ (m.bI (off:=2) (n:=2) rfl) (aU (aU (aU ?_)));dsimp only;by_cases a:cS f2 x.B≠0
   ·rw [if_pos (q.1 a),wrap64 (by omega) (by omega)];rw [if_neg (j (by omega)),if_pos a] at c;exact c d (Hp.le_refl _)
   ·rw [if_neg (λe=>a (q.2 e))];exact o d ⟨rfl,λ_=>j (by omega),λ_=>a,λh=>by omega⟩
  | 2,_=>
   refine bt (sh:=HD) ⟨f3,x.C⟩ (m.bI (off:=4) (n:=2) rfl) (aU (aU (aU ?_)));dsimp only;by_cases a:cS f3 x.C≠0
   ·rw [if_pos (r.1 a),wrap64 (by omega) (by omega)];rw [if_neg (j (by omega)),if_neg (l (by omega)),if_pos a] at c;exact c d (Hp.le_refl _)
   ·rw [if_neg (λe=>a (r.2 e))];exact o d ⟨rfl,λ_=>j (by omega),λ_=>l (by omega),λ_=>a⟩
 ·rintro d ⟨rfl,j,l,s⟩;rw [if_neg (j (by omega)),if_neg (l (by omega)),if_neg (s (by omega))] at c;exact c d (Hp.le_refl _)
def n8 {b:Type} (d:D b):Prop:=∀a at_ e,d a at_=.error e->e=(5,a.length)
theorem vM (k:Nat):n8 (D.num k):=λa at_ e h=>by unfold D.num at h;split at h<;>cases h;rfl
theorem wF {c j:Type} {d:D c} {f:c->D j} (g:n8 d) (i:∀x,n8 (f x)):n8 (D.bind d f):=λa at_ e h=>by
 unfold D.bind at h;cases b:d a at_ with
 | error k=>rw [b] at h;cases h;exact g a at_ _ b
 | ok x=>rw [b] at h;exact i _ a _ e h
theorem tF {a:Type} (x:a):n8 (D.ret x):=λ_ _ _ h=>by cases h
theorem I2 :n8 qR:=
 wF (wF (vM 1) λ_=>tF _) λ_=>wF (wF (vM 1) λ_=>tF _) λ_=>wF (wF (vM 1) λ_=>tF _) λ_=>
  wF (wF (vM 1) λ_=>tF _) λ_=>wF (wF (vM 8) λ_=>tF _) λ_=>tF _
theorem abp {c:Type} (d:D c):D.bV d (λ_=>0)=d:=by
 funext b a;unfold D.bV;cases d b a with
 | error e=>rfl
 | ok x=>rfl
section
variable {d h:Hp} {rb:Nat} {bl:Sl} {bs:List UInt8} {r:RS}
theorem vX {k:Nat} {Q:Int->Hp->Prop} (a:fQ d h rb bl bs r) (j:1<=k) (l:k<=8)
  (o:∀(v:Nat) b c,v<256^k->Mv [rb] h [rb] c->fQ d c rb bl bs b->Cn bs r (D.num k) b v->Q (v:Int) c):
  ae prog wv [(.pointer (some ⟨rb,0,none⟩)),(.int .i64 (k:Int)),(.func (.func MQ) #[] #[])] (af .u64) Q h:=by
 refine MG (wrong:=⟨MQ, #[], #[]⟩) (yd (k:=k) a j l (λ_=>0) (λn p K i=> ?_) λv b f hv m a2 e=> ?_)
 ·refine sN (g:=MQ) rfl (Oe ?_);unfold zrp;exact i h (Hp.le_refl _)
 ·rw [abp] at e;exact o v b f hv m a2 e
theorem abr {n ag:Int} {Q:aL->Hp->Prop} (a:fQ d h rb bl bs r) (s:∀(v:aL) K l,Mv [rb] h [rb] l->fQ d l rb bl bs K->Cn bs r (kI n ag) K (ba v)->Q v l):
  V9 prog (some ⟨rb,0,none⟩) n ag Q h:=by
 unfold V9;obtain ⟨p,e,pl,t,H⟩:=a.fu;have a8:bl.len=bs.length:=a.src.1;have b1:=a.small;refine ud (tW t ?_);cases r with
 | error x=>obtain ⟨Z,q⟩:=x;rw [if_pos (by rw [H.1];simpa using H.2.1)];exact s _ _ h (Mv.refl _ _) a Cn.stay
 | ok at_=>
  obtain ⟨rfl,rfl,F⟩:=H;have F:at_<=bs.length:=by omega
  rw [if_neg (by simp)];refine aD (bt (sh:=af .i64) (at_:Int) (t.bI (off:=1) (n:=1) rfl) (aD (bt (sh:=av) bl (t.bI (off:=0) (n:=1) rfl) ?_)));rw [wrap64 (by omega) (by omega)];by_cases a9:bs.length<at_+12
  ·rw [if_pos (decide_eq_true (by omega))];refine aD (bt (sh:=av) bl (t.bI (off:=0) (n:=1) rfl) (Ct (rH t λl m R=> ?_)));rw [if_pos ⟨by decide,rfl⟩,if_pos ⟨by decide,rfl⟩] at R;refine s _ (.error (5,bs.length)) l m ⟨(m.le a.le λc o=>by rw [List.mem_singleton.1 o];exact a.out).1,a.out,a.src,a.cap,a.small,_,_,_,R,rfl,by decide,by rw [a8]⟩ (Cn.err ?_);unfold kI D.gr;cases E:qR bs at_ with
   | error e=>rw [I2 bs at_ e E]
   | ok y=>obtain ⟨y,a2⟩:=y;have L:=(kY.sound bs at_ y a2 E F).2.1;have h2:=kY.within E F;simp [lL,lQ] at L;omega
  ·rw [if_neg (λe=>a9 (by have:=of_decide_eq_true e;omega))];refine vX (k:=1) a (by omega) (by omega) λv1 K L b3 m1 a1 T=> ?_;refine vX (k:=1) a1 (by omega) (by omega) λf r2 h2 b4 m2 a2 U=> ?_;refine vX (k:=1) a2 (by omega) (by omega) λg r3 h3 b5 m3 a3 V=> ?_;refine vX (k:=1) a3 (by omega) (by omega) λv4 r4 h4 b6 m4 a4 W=> ?_;refine vX (k:=8) a4 (by omega) (by omega) λi w h5 b7 m5 a5 X=> ?_;have m:=m1.trans (m2.trans (m3.trans (m4.trans m5)));have o:Cn bs (.ok at_) qR w (ba ⟨(v1:Int),(f:Int),(g:Int),(v4:Int),i64 i⟩):=
    Cn.seq T.map (Cn.seq U.map (Cn.seq V.map (Cn.seq W.map (Cn.seq X.map Cn.ret))))
   rw [I1 (v:=i) (by omega)];rw [wrap64 (n:=(v1:Int)) (by omega) (by omega),wrap64 (n:=(f:Int)) (by omega) (by omega),wrap64 (n:=(g:Int)) (by omega) (by omega),wrap64 (n:=(v4:Int)) (by omega) (by omega)];have hx:(⟨(v1:Int),(f:Int),(g:Int),(v4:Int),i64 i⟩:aL).A=(f:Int):=rfl;refine Y5 (x:=⟨(v1:Int),(f:Int),(g:Int),(v4:Int),i64 i⟩) (EY λh6 O=> ?_);have hA:0<=(⟨(v1:Int),(f:Int),(g:Int),(v4:Int),i64 i⟩:aL).A:=by show (0:Int)<=(f:Int);omega
   have hB:0<=(⟨(v1:Int),(f:Int),(g:Int),(v4:Int),i64 i⟩:aL).B:=by show (0:Int)<=(g:Int);omega
   have hC:0<=(⟨(v1:Int),(f:Int),(g:Int),(v4:Int),i64 i⟩:aL).C:=by show (0:Int)<=(v4:Int);omega
   have b:=o.done;have S:=m.trans (Mv.of_le [rb] O);have a6:=a5.grow O;have b0:(aM.enc ⟨(v1:Int),(f:Int),(g:Int),(v4:Int),i64 i⟩)=.agg #[.int .i64 (v1:Int),.int .i64 (f:Int),.int .i64 (g:Int),.int .i64 (v4:Int),.int .i64 (i64 i)]:=rfl;rw [<-b0];generalize (⟨(v1:Int),(f:Int),(g:Int),(v4:Int),i64 i⟩:aL)=y at*;by_cases j:(gG (ba y) n ag).1=0
   ·rw [if_neg (by simpa using j)];refine s y w h6 S a6 ?_;cases w with
    | ok a2=>refine Cn.ok ?_;have b:qR bs at_=.ok (ba y,a2):=b;unfold kI D.gr;rw [b];dsimp only;rw [if_pos j]
    | error e=>refine Cn.err ?_;have b:qR bs at_=.error e:=b;unfold kI D.gr;rw [b]
   ·rw [if_pos (by simpa using j)];refine VG (Wg hA hB hC λh7 P=> ?_);rw [<-DJ (n:=n) (ag:=ag) j];have b2:0<=(gG (ba y) n ag).2/\(gG (ba y) n ag).2<=4:=by
     rw [DJ j];split
     ·omega
     ·unfold rI;split
      ·omega
      ·split
       ·omega
       ·split<;>omega
    have a7:=a6.grow P;obtain ⟨p7,Y,b8,k7,I⟩:=a7.fu;rw [wrap64 (by omega) (by omega)];refine Ct (rH k7 λM m8 u=> ?_);have J:=(S.trans (Mv.of_le [rb] P)).trans m8;have N:=(J.le a.le λc o=>by rw [List.mem_singleton.1 o];exact a.out).1;cases w with
    | ok a2=>have b:qR bs at_=.ok (ba y,a2):=b;obtain ⟨rfl,rfl,I⟩:=I;simp only [ne_eq,j,not_false_eq_true,and_self,if_true] at u;refine s y (.error ((gG (ba y) n ag).1,at_+(gG (ba y) n ag).2.toNat)) M J ⟨N,a.out,a.src,a.cap,a.small,_,_,_,u,rfl,j,by push_cast;omega⟩ (Cn.err ?_);unfold kI D.gr;rw [b];dsimp only;rw [if_neg j]
    | error e=>have b:qR bs at_=.error e:=b;obtain ⟨Z,q⟩:=e;obtain ⟨rfl,G,rfl⟩:=I;rw [if_neg (λz=>G z.2),if_neg (λz=>G z.2)] at u;refine s y (.error (Y,q)) M J ⟨N,a.out,a.src,a.cap,a.small,_,_,_,u,rfl,G,rfl⟩ (Cn.err ?_);unfold kI D.gr;rw [b]
end
section
variable {d h0 k:Hp} {rb l:Nat} {bl:Sl} {bs:List UInt8} {r:RS} {x:al} {c:aI} {B:List Nat}
theorem CB.other (s:CB d h0 rb l bl bs k r x c B) {i:Hp} {a:List Nat} (bq:∀b o,k b=some o->b∉a->i b=some o) (f:∀b∈a,h0 b=none/\b∉B):CB d h0 rb l bl bs i r x c B:=by
 have u:rb∉a:=λh=>s.kr (f rb h).1;have n:l∉a:=λh=>s.kc (f l h).1;have g:∀b o,h0 b=some o->b∉a:=λb o e h=>by rw [(f b h).1] at e;cases e
 exact {
  base:=s.base
  kr:=s.kr
  kc:=s.kc
  ne:=s.ne
  dc:=s.dc
  bq:=λb o e j m=>bq b o (s.bq b o e j m) (g b o e)
  rd:=by obtain ⟨p,q,t,⟨ty,w⟩,v⟩:=s.rd.fu;exact ⟨λb o e=>bq b o (s.rd.le b o e) (g b o (s.base b o e)),s.rd.out,s.rd.src,s.rd.cap,s.rd.small,p,q,t,⟨ty,bq rb _ w u⟩,v⟩
  fu:=by obtain ⟨t,e⟩:=s.fu;exact ⟨t,bq l _ e n⟩
  own:=ir.same s.own λb hb=>by
   cases e:k b with
   | none=>exact absurd e (ir.known s.own b hb)
   | some o=>exact bq b o e λh=>(f b h).2 hb
  nd:=s.nd
  fresh:=s.fresh}
theorem YW {P:Program} {n:Int} {Q:Int->Hp->Prop} {h:Hp} (b:Q (if 256<n then 3 else 0) h):TV P n Q h:=by
 unfold TV;by_cases a:256<n
 ·rw [if_pos a] at b;rw [if_pos (decide_eq_true a)];exact b
 ·rw [if_neg a] at b;rw [if_neg (λe=>a (of_decide_eq_true e))];exact b
theorem YY (s:CB d h0 rb l bl bs k r x c B) (c5:c.labels.length<=255) (c4:c.procs.length<=255) {Q:Hp->Prop}
  (hq:∀p H U x' B',CB d h0 rb l bl bs U H x' {c with procs:=c.procs++ [p]} B'->Cn bs r (ks (c.labels.length:Int) c.ag) H p->Q U):
  Vq prog (some ⟨rb,0,none⟩) (some ⟨l,0,none⟩) Q k:=by
 unfold Vq;have b3:x.aE.len=c.labels.length:=by obtain ⟨B1,B2,B3,_,o1,_⟩:=s.own;exact o1.len
 have b2:x.bG=c.ag:=by obtain ⟨B1,B2,B3,_,_,_,_,_,_,e,_⟩:=s.own;exact e
 refine zjt (JM s.rd s.fu (by omega) λpart H k1 c3 m1 a1 M=> ?_);rw [b3] at M;have s1:=s.step m1 a1;refine MO (wrong:=⟨Tw, #[], #[]⟩) (xR (k:=2) s1.rd (by omega) (by omega) (λn=>if 256<n then 3 else 0) (λn c2 h1 c1 K hK=>sN (g:=Tw) rfl (zym (YW (hK h1 (Hp.le_refl _))))) λv r2 k2 hv m2 a2 a9=> ?_);have s2:=s1.step m2 a2;refine bD.intro (λi p u=>∃(j:Nat) (m:List cp) (w:RS) (q:List Nat),i=(j:Int)/\j=m.length/\j<=v/\CB d h0 rb l bl bs u w x c B/\p.Part=(part:Int)/\pf p.Code m u q/\q.Nodup/\(∀b∈q,h0 b=none/\b∉B)/\
   ∀(E:Type) (f:List cp->D E),dD r2 (D.bind (D.many (λ_=>kI (v:Int) c.ag) v []) f) bs=dD w (D.bind (D.many (λ_=>kI (v:Int) c.ag) (v-j) m) f) bs) (λi _ _=>(v-i).toNat)
  ⟨0,[],r2,[],rfl,rfl,by omega,s2,rfl,bu.nil,List.nodup_nil,λb hb=>by (cases hb),λ_ _=>rfl⟩ ?_
 rintro i p u ⟨j,m,w,q,rfl,b1,c0,t,T,A,Y,z,N⟩;refine uM (λb=>b=true↔∃e,w=.error e) false (λ_ hk=>ud (t.rd.bad hk)) λb hb=>aU ?_;have O:(j=v\/∃e,w=.error e)->ai none (some ⟨l,0,none⟩) λp1=>aP none av u (Addr.add p1 6) λx=>bc [(.int .i64 p.Part),p.Code.v] (λa L=>(((aV L (Addr.add p1 6) [x.v])/\True)/\eS 2 32 [(.int .i64 (0:Int)),(.slice none 0 0)] x ⟨(some a),1,1⟩ (λI h6=>
   ai none (some ⟨l,0,none⟩) λp2=>bW h6 (Addr.add p2 6) [I.v] (λh7=>Q h7)) L)) u:=λb4=>by
  refine aD (bt (sh:=av) x.aQ (t.fu.bI (off:=6) (n:=1) rfl) ?_);refine mn (xs:=[p]) (enc:=λx=>bg (bC.enc x)) (sz:=2) rfl (λ_=>rfl) λb6 W _ S _ G=> ?_;have C:=t.grow S;have F:pf p.Code m W q:=gE.same A λb hb=>by
   cases e:u b with
   | none=>exact absurd e (gE.known A b hb)
   | some o=>exact S b o e
  refine ⟨⟨C.fu.bI (off:=6) (n:=1) rfl,trivial⟩,?_⟩;refine C.procs (v:=p) (p:=⟨(part:Int),m⟩) ⟨T,F⟩ Y z (G.rw λ_=>rfl) (by omega) λl' k7 hN=>aD (hN.2.2 _ λk8 B8 s8=> ?_);refine hq ⟨(part:Int),m⟩ w k8 _ B8 s8 λE f=> ?_;unfold ks;rw [tI,M,tI,a9,tI];have e:=N E λcode=>f ⟨(part:Int),code⟩;rcases b4 with rfl | ⟨e2,rfl⟩
  ·rw [Nat.sub_self] at e;exact e
  ·exact e
 by_cases P:j=v
 ·rw [if_neg (by simp [P])];exact O (.inl P)
 have hb:=hb (decide_eq_true (by omega));cases b with
 | true=>rw [if_neg (by simp)];exact O (.inr (hb.1 rfl))
 | false=>
  rw [if_pos (by simp;omega)];refine aD (bt (sh:=af .i64) x.bG (t.fu.bI (off:=4) (n:=1) rfl) ?_);rw [b2];refine PW (abr t.rd λy I V X a4 b0=> ?_);have s4:=t.step X a4;have Z:pf p.Code m V q:=gE.same A (rF X (gE.known A) λb hb e=>t.kr (by rw [<-List.mem_singleton.1 e];exact (z b hb).1));refine ⟨⟨trivial,trivial⟩,?_⟩;refine mn (xs:=[y]) (enc:=λx=>bg (aM.enc x)) (sz:=5) rfl (λ_=>rfl) λb5 k5 _ R _ b9=> ?_;have J:=s4.grow R;have F:pf p.Code m k5 q:=gE.same Z λb hb=>by
   cases e:V b with
   | none=>exact absurd e (gE.known Z b hb)
   | some o=>exact R b o e
  refine ⟨⟨trivial,trivial⟩,?_⟩;refine tB (dO.ok _) F (v:=y) (p:=ba y) (B':=[]) ⟨rfl,rfl⟩ (by simpa using Y) (b9.rw λ_=>rfl) (λ_=>rfl) (λ_=>rfl) rfl (by omega) λl' W B6 G b8 b7 a8=> ?_;have C:=J.other b7 z;rw [wrap64 (by omega) (by omega)];refine ⟨⟨j+1,m++ [ba y],I,B6,by omega,by simp [b1],by omega,C,T,G,b8,λb hb=> ?_,λE f=> ?_⟩,by omega⟩
  ·rcases a8 b hb with hb | hb
   ·exact z b (by simpa using hb)
   ·exact ⟨J.rj hb,λh=>ir.known J.own b h hb⟩
  ·have e1:v-j=(v-(j+1))+1:=by omega
   rw [N,e1,EC,tI,b0]
end
section
variable {d h:Hp} {rb:Nat} {bl:Sl} {bs:List UInt8} {r:RS}
theorem Ta {P:Program} {e:Nat} {i:Nat} {n:Nat} {h:Hp} (m:i<5) (o:n<256) (k:aV h ⟨e,0,none⟩ [.int .i64 (i:Int)]) {c:UInt8} (l:([70,66,67,70,1]:List UInt8)[i]? =some c)
  {Q:Int->Hp->Prop} (a:Q (if n=c.toNat then 0 else 4) h):R4 P (n:Int) ⟨e,0,none⟩ Q h:=by
 unfold R4;have j:(i:Int)<5:=by omega
 refine bt (sh:=af .i64) (i:Int) k ⟨⟨Int.natCast_nonneg i,j⟩,?_⟩;have f:IntKind.wrap .u8 (n:Int)=(n:Int):=by rw [oY,Lj];omega
 have g:List.getD [70,66,67,70,1] (Int.toNat (i:Int)) (0:UInt8)=c:=by rw [List.getD_eq_getElem?_getD,show (Int.toNat (i:Int))=i from rfl,l];rfl
 rw [f,g];by_cases b:n=c.toNat
 ·rw [if_pos b] at a;rw [if_neg (by simp [b])];exact a
 ·rw [if_neg b] at a;rw [if_pos (by rw [bne_iff_ne];omega)];exact a
theorem Wj {Q:Hp->Prop} (a:fQ d h rb bl bs r) (N:∀G w,Mv [rb] h [rb] w->fQ d w rb bl bs G->Cn bs r (jr [70,66,67,70,1]) G ()->Q w):TE prog (some ⟨rb,0,none⟩) Q h:=by
 unfold TE;refine q8 (n:=5) rfl (by omega) (λi k=>∃j,Mv [rb] h [rb] k/\fQ d k rb bl bs j/\∀(B:Type) (f:Unit->D B),dD r (D.bind (jr [70,66,67,70,1]) f) bs=dD j (D.bind (jr (([70,66,67,70,1]:List UInt8).drop i)) f) bs) ⟨r,Mv.refl _ _,a,λ_ _=>rfl⟩ ?_ ?_
 ·rintro i u k ⟨j,m,l,z⟩ K x;refine kj λs T A C H=> ?_;have a1:=l.grow C;have J:rb≠s:=λh=>by obtain ⟨p,q,t,P,_⟩:=l.fu;exact P.known (h▸A)
  refine qE (b:=s) (off:=0) H (by simp) λE F I=> ?_;have a2:=a1.mv F (λh=>J (List.mem_singleton.1 h)) λb hb=>by rw [List.mem_singleton.1 hb];exact pH l.le A
  have R:aV E ⟨s,0,none⟩ [.int .i64 (i:Int)]:=by refine I.bI (off:=0) (n:=1) ?_;simp
  have y:([70,66,67,70,1]:List UInt8)[i]? =some (([70,66,67,70,1]:List UInt8)[i]'(by simpa using u)):=List.getElem?_eq_getElem (by simpa using u);generalize ([70,66,67,70,1]:List UInt8)[i]'(by simpa using u)=c at y;refine MG (wrong:=⟨RM, #[], #[.pointer (some ⟨s,0,none⟩)]⟩) (yd (k:=1) a2 (by omega) (by omega) (λn=>if n=c.toNat then 0 else 4) (λn M K x=> ?_) λv r2 O hv S a3 L=> ?_)
  ·refine sN (g:=RM) rfl (zud ?_);exact Ta u (by simpa using M) R y (x E (Hp.le_refl _))
  ·refine x O ⟨r2,⟨λb o e hb=>S.bq b o (F.bq b o (C b o (m.bq b o e hb)) λh=> ?_) hb,λb hb=>.inl hb⟩,a3,λB f=> ?_⟩
   ·rw [List.mem_singleton.1 h] at e hb;have:=m.bq s o e hb;rw [A] at this;cases this
   ·rw [z,Ew y];show dD j (D.bind (D.bind (D.bV (D.num 1) λn=>if n=c.toNat then 0 else 4) λ_=>jr (([70,66,67,70,1]:List UInt8).drop (i+1))) f) bs=_;rw [tI,L]
 ·rintro k ⟨j,m,l,z⟩;exact N j k m l λB f=>by rw [z];rfl
end
theorem rp2 :nz 2=cn 1 256:=by funext n;simp [nz]
theorem rp3 :nz 3=cn 1 64:=by funext n;simp [nz]
theorem rp4 :nz 4=cn 0 8:=by funext n;simp [nz]
theorem rp5 :nz 5=cn 0 4096:=by funext n;simp [nz]
def Bt :al:=⟨⟨none,0,0⟩,⟨none,0,0⟩,0,0,0,0,⟨none,0,0⟩⟩
def wJ (h g:Hp) (d f:Nat) (b:Sl) (a:List UInt8) (k:Hp):Prop:=
 (eI k d (nD b 0 22 1048576)/\h<=k/\pa a=.error (22,1048576))\/
 ∃(r:RS) (x:al) (c:aI) (B:List Nat),CB h g d f b a k r x c B/\match r with
  | .error e=>pa a=.error e
  | .ok _=>pa a=.ok c
theorem FD {a:List UInt8} {e:Int×Nat} (b:a.length<=1048576) (h:dD (.ok 0) vY a=.error e):pa a=.error e:=by unfold pa rO;rw [if_neg (by omega)];have h:vY a 0=.error e:=h;rw [h]
theorem Ku {b:List UInt8} {c:aI} {a:Nat} (d:b.length<=1048576) (h:dD (.ok 0) vY b=.ok (c,a)):pa b=if a<b.length then .error (6,a) else .ok c:=by unfold pa rO;rw [if_neg (by omega)];have h:vY b 0=.ok (c,a):=h;rw [h]
theorem abX {h:Hp} {b:Sl} {d:List UInt8} {Q:al->Int->Int->Hp->Prop} (hB:Bs h b d) (b3:b.len<=b.cap)
  (he:∀e p M,h<=M->pa d=.error (e,p)->e≠0->Q Bt e (p:Int) M) (f6:∀x c B M,h<=M->pa d=.ok c->nE x c M B->B.Nodup->(∀b∈B,h b=none)->Q x 0 0 M):
  zwr prog b Q h:=by
 unfold zwr;have g7:b.len=d.length:=hB.1;refine kj λt h1 f0 c3 b5=>kj λg u c6 c4 b2=> ?_;have b0:=Hp.le_trans c3 c4;have f5:g≠t:=λe=>b5.known (e▸c6);have R:h g=none:=pH c3 c6;have b6:=b5.le c4;refine cY.intro (λ_ k=>wJ h u g t b d k) ?_ ?_
 ·by_cases b7:1048576<d.length
  ·rw [if_pos (decide_eq_true (by omega))];refine Ct (rH (at_:=0) (e:=0) (pl:=0) b2 λh3 m3 k3=> ?_);rw [if_pos ⟨by decide,rfl⟩,if_pos ⟨by decide,rfl⟩] at k3;refine .inl ⟨k3,(m3.le b0 λc E=>by rw [List.mem_singleton.1 E];exact R).1,?_⟩;unfold pa rO;rw [if_pos b7]
  ·rw [if_neg (λe=>b7 (by have:=of_decide_eq_true e;omega))];have S:d.length<=1048576:=by omega
   have s0:CB h u g t b d u (.ok 0) Bt ⟨[],[],0,0,0,0,[]⟩ []:=
    ⟨b0,b2.known,b6.known,f5,f0,λb o e _ _=>e,⟨b0,R,hB,b3,by omega,0,0,0,b2,rfl,rfl,by omega⟩,b6,⟨[],[],[],rfl,bu.nil,bu.nil,bu.nil,rfl,rfl,rfl,rfl⟩,List.nodup_nil,λb hb=>by (cases hb)⟩
   refine zyh (Wj s0.rd λr1 Y m1 a1 d2=> ?_);have s1:=s0.step m1 a1;have b8:dD (.ok 0) vY d=_:=d2 aI _;refine ud (s1.rd.bad λq F=> ?_);cases q with
   | true=>rw [if_pos rfl];obtain ⟨e,rfl⟩:=F.1 rfl;exact .inr ⟨_,_,_,_,s1,FD S b8⟩
   | false=>
   rw [if_neg (by simp)];refine zyi (We s1 rfl λG r2 k2 x2 z c5 s2 d8=> ?_);have b9:=b8.trans (d8 aI _);refine ud (s2.rd.bad λq F=> ?_);cases q with
   | true=>rw [if_pos rfl];obtain ⟨e,rfl⟩:=F.1 rfl;exact .inr ⟨_,_,_,_,s2,FD S b9⟩
   | false=>
   rw [if_neg (by simp)];refine N7 (YU s2 rfl c5 λV r3 k3 x3 A g9 s3 d9=> ?_);have c0:=b9.trans (d9 aI _);refine ud (s3.rd.bad λq F=> ?_);cases q with
   | true=>rw [if_pos rfl];obtain ⟨e,rfl⟩:=F.1 rfl;exact .inr ⟨_,_,_,_,s3,FD S c0⟩
   | false=>
   rw [if_neg (by simp)];have num:∀ {k:Nat} {part:Int} {N lo:Int} {r:RS} {x:al} {c:aI} {B:List Nat} {l:Hp} {Q:Int->Hp->Prop},CB h u g t b d l r x c B->1<=k->k<=2->nz part=cn lo N->
     (∀(v:Nat) r1 Y,v<65536->CB h u g t b d Y r1 x c B->Cn d r (D.bV (zD k) (cn lo N)) r1 (v:Int)->Q (v:Int) Y)->ae prog Fv [(.pointer (some ⟨g,0,none⟩)),(.int .i64 part),(.int .i64 (k:Int))] (af .i64) Q l:=
    λ{k part N lo r x c B l Q} s e8 c2 hp F=>zyj (Wc (k:=k) s.rd e8 c2 λv r1 Y hv m a E=>F v r1 Y (by
     have:256^k<=65536:=Nat.pow_le_pow_right (by omega:256>0) c2;omega) (s.step m a) (by rw [<-hp];exact E))
   refine num (k:=2) s3 (by omega) (by omega) rp2 λv4 r4 k4 h5 s4 e1=> ?_;have e2:=c0.trans (e1 aI _);refine s4.num (x':={x3 with Fuel:=(v4:Int)}) (c':=⟨G,V,(v4:Int),0,0,0,[]⟩) (off:=2) (λo=>by
    obtain ⟨C,z,A,e,H,I,J,f1,f2,f3,L⟩:=o;exact ⟨C,z,A,e,H,I,J,rfl,f2,f3,L⟩) (by omega) rfl λk5 s5=> ?_
   refine num (k:=1) s5 (by omega) (by omega) rp3 λv6 r6 k6 h6 s6 e3=> ?_;have e4:=e2.trans (e3 aI _);refine s6.num (x':={x3 with Fuel:=(v4:Int),gz:=(v6:Int)}) (c':=⟨G,V,(v4:Int),(v6:Int),0,0,[]⟩) (off:=3) (λo=>by
    obtain ⟨C,z,A,e,H,I,J,f1,f2,f3,L⟩:=o;exact ⟨C,z,A,e,H,I,J,f1,rfl,f3,L⟩) (by omega) rfl λk7 s7=> ?_
   refine num (k:=1) s7 (by omega) (by omega) rp4 λK r8 k8 h7 s8 e5=> ?_;have e6:=e4.trans (e5 aI _);refine s8.num (x':={x3 with Fuel:=(v4:Int),gz:=(v6:Int),bG:=(K:Int)}) (c':=⟨G,V,(v4:Int),(v6:Int),(K:Int),0,[]⟩) (off:=4) (λo=>by
    obtain ⟨C,z,A,e,H,I,J,f1,f2,f3,L⟩:=o;exact ⟨C,z,A,e,H,I,J,f1,f2,rfl,L⟩) (by omega) rfl λk9 s9=> ?_
   refine num (k:=2) s9 (by omega) (by omega) rp5 λv10 i2 h8 h4 g1 d3=> ?_;have d4:=e6.trans (d3 aI _);refine g1.num (x':={x3 with Fuel:=(v4:Int),gz:=(v6:Int),bG:=(K:Int),Log:=(v10:Int)}) (c':=⟨G,V,(v4:Int),(v6:Int),(K:Int),(v10:Int),[]⟩) (off:=5) (λo=>by
    obtain ⟨C,z,A,e,H,I,J,f1,f2,f3,L⟩:=o;exact ⟨C,z,A,e,H,I,J,f1,f2,f3,rfl⟩) (by omega) rfl λh9 c7=> ?_
   refine QJ (DH c7.rd λnp f9 i0 g8 f8 d0 d5=> ?_);have g2:=c7.step f8 d0;have d6:=d4.trans (d5 aI _);refine aC.intro (λn l=>∃(i:Nat) (T:List fq) (U:RS) (x':al) (B':List Nat),n=(i:Int)/\i+T.length=np/\CB h u g t b d l U x' ⟨G,V,(v4:Int),(v6:Int),(K:Int),(v10:Int),T⟩ B'/\
     dD (.ok 0) vY d=dD U (D.bind (D.many (λ_=>ks (G.length:Int) (K:Int)) i T) λprocs=>D.ret (⟨G,V,(v4:Int),(v6:Int),(K:Int),(v10:Int),procs⟩:aI)) d) (λn _=>n.toNat)
    ⟨np,[],f9,_,_,rfl,by simp,g2,d6⟩ ?_
   rintro n l ⟨i,T,U,x',B',rfl,g6,y,a9⟩;refine uM (λb=>b=true↔∃e,U=.error e) false (λ_ hk=>ud (y.rd.bad hk)) λq b4=>aU ?_;have c1:(i=0\/∃e,U=.error e)->ai none (some ⟨g,0,none⟩) λp=>aP none (af .i64) l (Addr.add p 1) λx=>
     (if (decide (x<((b.len:Nat):Int)))=true then
     ai none (some ⟨g,0,none⟩) λp1=>
     aP none (af .i64) l (Addr.add p1 1) λx1=>
     aY prog xn [(.pointer (some ⟨g,0,none⟩)),(.int .i64 (6:Int)),(.int .i64 x1)] (λb1=>wJ h u g t b d b1) l
     else wJ h u g t b d l):=λf7=>by
    obtain ⟨p,e,pl,f,X⟩:=y.rd.fu;refine aD (bt (sh:=af .i64) p (f.bI (off:=1) (n:=1) rfl) ?_);cases U with
    | error e0=>
     obtain ⟨er,q0⟩:=e0;obtain ⟨rfl,P,rfl⟩:=X;have e7:wJ h u g t b d l:=.inr ⟨_,_,_,_,y,FD S a9⟩;by_cases O:p<((b.len:Nat):Int)
     ·rw [if_pos (decide_eq_true O)];refine aD (bt (sh:=af .i64) p (f.bI (off:=1) (n:=1) rfl) (Ct (rH f λb1 a8 Z=> ?_)));rw [if_neg (λhh=>P hh.2),if_neg (λhh=>P hh.2)] at Z;refine .inr ⟨.error (e,q0),_,_,_,y.step a8 ⟨(a8.le y.rd.le λc E=>by rw [List.mem_singleton.1 E];exact R).1,R,hB,b3,by omega,_,_,_,Z,rfl,P,rfl⟩,FD S a9⟩
     ·rw [if_neg (λe=>O (of_decide_eq_true e))];exact e7
    | ok at_=>
     obtain ⟨rfl,rfl,g5⟩:=X;have W:i=0:=by
      rcases f7 with W | ⟨e,W⟩
      ·exact W
      ·cases W
     subst W;have w:=Ku S (a9:dD (.ok 0) vY d=.ok (_,at_));by_cases O:at_<d.length
     ·have e9:(at_:Int)<((b.len:Nat):Int):=by omega
      rw [if_pos (decide_eq_true e9)];rw [if_pos O] at w;refine aD (bt (sh:=af .i64) (at_:Int) (f.bI (off:=1) (n:=1) rfl) (Ct (rH f λb1 a8 Z=> ?_)));rw [if_pos ⟨by decide,rfl⟩,if_pos ⟨by decide,rfl⟩] at Z;exact .inr ⟨.error (6,at_),_,_,_,y.step a8 ⟨(a8.le y.rd.le λc E=>by rw [List.mem_singleton.1 E];exact R).1,R,hB,b3,by omega,_,_,_,Z,rfl,by decide,rfl⟩,w⟩
     ·rw [if_neg (λe=>O (by have e:(at_:Int)<((b.len:Nat):Int):=of_decide_eq_true e;omega))];rw [if_neg O] at w;exact .inr ⟨_,_,_,_,y,w⟩
   by_cases N:i=0
   ·rw [if_neg (by simp [N])];exact c1 (.inl N)
   have b4:=b4 (decide_eq_true (by omega));cases q with
   | true=>rw [if_neg (by simp)];exact c1 (.inr (b4.1 rfl))
   | false=>rw [if_pos (by simp;omega)];obtain ⟨j,rfl⟩:∃j,i=j+1:=⟨i-1,by omega⟩;refine OH (YY y c5 (by show T.length<=255;omega) λp g0 i1 g4 c8 g3 d7=> ?_);rw [wrap64 (by omega) (by omega)];refine ⟨⟨j,T++ [p],g0,g4,c8,by omega,by simp;omega,g3,?_⟩,by omega⟩;rw [a9,EC,tI,d7]
 ·intro t2 k hE;rcases hE with ⟨f,hl,w⟩ | ⟨r,x,c,B,s,w⟩
  ·refine ud (tW f ?_);rw [if_pos (by simp)];refine aD (bt (sh:=af .i64) (22:Int) (f.bI (off:=2) (n:=1) rfl) (aD (bt (sh:=af .i64) (1048576:Int) (f.bI (off:=3) (n:=1) rfl) ?_)));exact ⟨⟨f.bI (off:=2) (n:=1) rfl,f.bI (off:=3) (n:=1) rfl,trivial⟩,he 22 1048576 k hl w (by decide)⟩
  ·obtain ⟨p,e,pl,f,X⟩:=s.rd.fu;refine ud (tW f ?_);cases r with
   | error e0=>obtain ⟨er,q0⟩:=e0;obtain ⟨rfl,P,rfl⟩:=X;rw [if_pos (by simpa using P)];refine aD (bt (sh:=af .i64) e (f.bI (off:=2) (n:=1) rfl) (aD (bt (sh:=af .i64) (q0:Int) (f.bI (off:=3) (n:=1) rfl) ?_)));exact ⟨⟨f.bI (off:=2) (n:=1) rfl,f.bI (off:=3) (n:=1) rfl,trivial⟩,he e q0 k s.rd.le w P⟩
   | ok at_=>obtain ⟨rfl,rfl,_⟩:=X;rw [if_neg (by simp)];refine bt (sh:=aO) x (s.fu.bI (off:=0) (n:=7) rfl) ?_;exact f6 x c B k s.rd.le w s.own s.nd λb' d1=>pH b0 (s.fresh b' d1)
theorem forA {a:Type} {len:Int} {n:Nat} (r:len=(n:Int)) (hb:n<=4611686018427387904) (I:Nat->a->Hp->Prop) {B:(a->Int->Hp->Prop)->a->Int->Hp->Prop} {X:a->Int->Hp->Prop} {j:a} {d:Hp} (l:I 0 j d)
  (o:∀i:Nat,i<n->∀x h,I i x h->∀K:a->Int->Hp->Prop,(∀c b,I (i+1) c b->K c (yw ((i:Int)+1)) b)->B K x (i:Int) h) (p:∀x h,I n x h->X x (n:Int) h):
  bD (λk x t h=>if decide (t<len)=true then B k x t h else X x t h) j (0:Int) d:=by
 refine bD.intro (λx t h=>∃i:Nat,t=(i:Int)/\i<=n/\I i x h) (λ_ t _=>(len-t).toNat) ⟨0,rfl,by omega,l⟩ ?_;rintro x t h ⟨i,rfl,q,f⟩;by_cases g:i<n
 ·rw [if_pos (decide_eq_true (by omega))];refine o i g x h f _ λc b m=> ?_;rw [wrap64 (by omega) (by omega)];exact ⟨⟨i+1,by omega,by omega,m⟩,by omega⟩
 ·rw [if_neg (λe=>g (by have:=of_decide_eq_true e;omega))];have:i=n:=by omega
  subst this;exact p x h f
section
variable {d h0 k:Hp} {rb:Nat} {bl:Sl} {bs:List UInt8} {r:RS} {x:al} {B:List Nat}
theorem tN {k a:Hp} (f:k<=a) {B:List Nat} (c:∀b∈B,k b≠none):∀b∈B,a b=k b:=λb hb=>by
 cases e:k b with
 | none=>exact absurd e (c b hb)
 | some o=>exact f b o e
end
section
variable {d h:Hp} {rb:Nat} {bl:Sl} {bs:List UInt8} {r:RS} {x:al}
end
section
variable {d h h1:Hp} {rb:Nat} {bl:Sl} {bs:List UInt8} {r r1:RS} {x:al}
theorem Ez {b:Type} {g:D b} {W:b->Int} {n:b} (i:Cn bs r g r1 n) (f:W n=0):Cn bs r (D.bV g W) r1 n:=by
 have a:=i.done;cases r with
 | error y=>
  cases r1 with
  | ok e=>cases a
  | error c=>have a:(Except.error y:Except (Int×Nat) (b×Nat))=.error c:=a;cases a;exact Cn.stay
 | ok at_=>
  cases r1 with
  | ok e=>have a:g bs at_=.ok (n,e):=a;refine Cn.ok ?_;unfold D.bV;rw [a];dsimp only;rw [if_pos f]
  | error c=>have a:g bs at_=.error c:=a;refine Cn.err ?_;unfold D.bV;rw [a]
end
section
variable {d h0 k:Hp} {rb a:Nat} {bl:Sl} {bs:List UInt8} {r:RS} {x:al} {v:bR} {ls:List bm} {B:List Nat}
end
section
variable {d h:Hp} {rb:Nat} {bl:Sl} {bs:List UInt8} {r:RS} {x:al}
end
theorem Y0 (c:aI):(iG c.labels).1=0↔za c.labels:=gT
section
variable {d h:Hp} {rb:Nat} {bl:Sl} {bs:List UInt8} {r:RS}
end
def BS :aZ:=⟨0,⟨none,0,0⟩,⟨none,0,0⟩⟩
structure abu (l:bm):Prop where
 values:l.values.length<=140737488355328
 waiters:l.waiters.length<=140737488355328
structure F0 (s:gN):Prop where
 parts:s.parts.length<=140737488355328
 procs:s.procs.length<=140737488355328
 log:∀x∈s.parts,x.log.length<=140737488355328/\x.az.length<=140737488355328/\x.aw.length<=140737488355328/\∀q∈x.aw,q.length<=140737488355328
 ak:∀x∈s.procs,x.ak.length<=140737488355328/\∀l∈x.ak,abu l
section
variable {h:Hp} {Q:Bool->Hp->Prop}
end
theorem eI.rows {d:Type} {h:Hp} {b:Nat} {a:List Value} {sz:Nat} {enc:d->List Value} (k:eI h b a) (c:List d) {n m:Nat} (e:a=c.flatMap enc) (g:n=c.length) (f:∀x,(enc x).length=sz):Rw h sz enc ⟨some ⟨b,0,none⟩,n,m⟩ c:=by refine ⟨g,by rw [iH f],.inr ⟨_,rfl,?_⟩⟩;refine k.bI (off:=0) (n:=a.length) ?_;rw [List.drop_zero,List.take_length,e]
end Lf
namespace Lf
open Go Go.ChangeShapes Go.WideShapes Go.ChangeAt Go.RowKit
def whole (W:World):Hp:=λb=>W.heap[b]?
theorem Wl (W:World):Sub (whole W) W:=λ_ _ e=>e
theorem Qa (W:World) (a:Addr):cQ (whole W) a=W.cell? a:=rfl
theorem abY {W a:World} {b:Hp} (c:whole W<=b) (st:Step (whole W) b W a):Below W.heap.size W a:=
 ⟨st.os,st.tape,st.output,st.size,λk d=>by
  cases e:W.heap[k]? with
  | some o=>exact st.sub _ _ (c _ _ e)
  | none=>simp at e;omega⟩
theorem Jh {H:Type} {enc:TypeId×Value->H} {P:Program} (i:laidOutB P=true) {W g:World} {sp:Nat->Bool} (hb:Below W.heap.size W g):∀ {c:List TypeId} {f:List Value} {e:List (DataW H)} {b:List MemPlace},
  (∀t∈c,P.readableRec t=true/\t<P.types.size)->DataW.TrodAll enc P W 0 (λ_=>true) true c f e b->(∀x∈b,x.block<W.heap.size)->(∀x∈b,sp x.block=true)->DataW.TrodAll enc P g 0 sp true c f e b
 | [],_,_,_,_,h,_,_=>by obtain ⟨rfl,rfl,rfl⟩:=trodAll_nil h;exact trodAll_mk0
 | t::c,_,_,_,k,h,j,l=>by
  obtain ⟨v,f,d,e,p,q,rfl,rfl,rfl,m,n⟩:=trodAll_cons h;obtain ⟨o,r⟩:=k t (List.mem_cons_self ..);exact ⟨p,q,WideElems.Trod_stays i o r m (λx a=>hb.same (j x (List.mem_append_left _ a))) (λx a=>l x (List.mem_append_left _ a)),
   Jh i hb (λt s=>k t (List.mem_cons_of_mem _ s)) n (λx a=>j x (List.mem_append_right _ a)) (λx a=>l x (List.mem_append_right _ a)),rfl⟩
theorem Y2 {H:Type} {enc:TypeId×Value->H} {P:Program} {f:Func} {s:ChangeSpec} {W d:World} {h:Hp} {args:Array Value} {a gs:List (DataW H)} {g:List MemPlace} {t:TypeId} (o:laidOutB P=true)
  (u:∀t∈f.params.toList,P.readableRec t=true/\t<P.types.size) (k:s.vars=[]) (v:f.resultTypes= #[t]) (w:P.underlying t=some .bool)
  (n:gs=[]->s.fn H (a++gs)={results:=[.lit (.bool true)],args:=a}) (b:DataW.Whole enc P f.params.toList s.vars false W args.toList a gs g) (r:whole W<=h) (st:Step (whole W) h W d):
  s.post enc P f false true false false W args (.bool true) d:=by
 have hb:=abY r st;have j:∀p∈g,p.block<W.heap.size:=λp hp=>b.lt p hp;have m:=b;obtain ⟨p,q,l,i,rfl,y,z⟩:=m;rw [k] at i;obtain ⟨rfl,rfl⟩:=trodVars_none i;rw [List.append_nil] at j;have c:=n rfl;refine ⟨a,[],p++ [],[],p,[],b,?_,?_,?_,Below.frame hb _,λe=>(by cases e)⟩
 ·rw [c,v];exact trodAll_mk1 (shut_bool w true)
 ·rw [c];exact Jh o hb u l j (λx A=>by grind)
 ·rw [c,k];exact rfl
theorem qf {H:Type} {enc:TypeId×Value->H} {C:Checked} {os:Os} {f:FuncId} {fn:Func} {s:ChangeSpec} {t:TypeId} (own:ownKnob C.prog.godebug=none) (L:os.Started) (K:C.prog.inits.idxOf? f=none) (o:C.prog.funcs[f]? =some fn)
  (N:∃(w:World) (tape:Tape) (i:Input),w.os=os/\(w.forCall tape i).Shaped C.prog/\i.vars=[]/\Input.okWide C.prog (w.forCall tape i) .any w.heap.size f i/\
   s.pre6 enc C.prog fn [] false (w.forCall tape i).memory i.args/\({}:Assume).holds C.prog (lone (Frame.enter C.prog f i.args .normal) [] (w.forCall tape i)))
  (z:laidOutB C.prog=true) (B:∀t∈fn.params.toList,C.prog.readableRec t=true/\t<C.prog.types.size) (b:s.vars=[]) (D:fn.resultTypes= #[t]) (G:C.prog.underlying t=some .bool)
  (M:∀(W:World) (base:Nat) (args:Array Value) (a:List (DataW H)) (p:List MemPlace),(∀(j:Nat) t v,fn.params[j]? =some t->args[j]? =some v->Value.okWide C.prog W .any base t v)->DataW.TrodAll enc C.prog W 0 (λ_=>true) true fn.params.toList args.toList a p->
   (DataW.weightsEach C.prog fn.params.toList a).all (· <=reachBytes)=true->
   s.fn H a={results:=[.lit (.bool true)],args:=a}/\ae C.prog f args.toList bB (λr c=>r=true/\whole W<=c) (whole W)):
  ReturnsInHanded {} C os f .any (s.pre6 enc C.prog fn [] false) (s.post enc C.prog fn false true false false):=by
 refine returnsInHanded_of_change_sized own L K o N ?_;intro W base args a gs P I g Q k _;have m:=g;obtain ⟨p,q,l,d,_,R,S⟩:=m;have u:gs=[]:=by rw [b] at d;exact (trodVars_none d).1
 subst u;have J:s.plain.varTypes C.prog=[]:=by unfold ChangeSpec.plain DataSpec.varTypes;rw [b];rfl
 rw [J,List.append_nil,List.append_nil] at k;obtain ⟨E,n⟩:=M W base args a p I l k;have h:=n W (Wl W);simp only [Array.toArray_toList] at h;refine h.mono λe O y=> ?_;obtain ⟨v,c,rfl,⟨x,rfl,rfl,A⟩,F⟩:=y;exact ⟨_,rfl,Y2 z B b D G (λe=>by rw [e,List.append_nil];exact E) g A F⟩
theorem abw {x:Int} (h:(Lit.int .i64 x).wf=true): -9223372036854775808<=x/\x<=9223372036854775807:=by simp [Lit.wf,IntKind.min,IntKind.max,IntKind.signed,IntKind.bits] at h;omega
end Lf
namespace Lf
open Go Go.Proofs Go.ChangeShapes Go.WideShapes Go.ChangeAt Go.RowKit
section
variable {H:Type} {enc:TypeId×Value->H} {P:Program} {W:World}
def pO (enc:TypeId×Value->H) (P:Program) (W:World) (t:TypeId) (R:List Value->Prop):Prop:=
 ∀fuel a y,DataW.trod enc P W 0 (λ_=>true) true fuel t a=some y->(DataW.weights P t y.1).all (· <=reachBytes)=true->R a
theorem Fc {t:TypeId} {k:IntKind} (b:P.underlying t=some (.int k)):pO enc P W t λa=>∃n,a=[.int k n]/\(Lit.int k n).wf=true:=λfuel a y h _=>by obtain ⟨n,c,_,d⟩:=DataW.trod_int b h;grind
theorem CL {l m:List Nat} {p:Nat->Bool} (h:(l++m).all p=true):l.all p=true/\m.all p=true:=by grind
theorem Hh {e:TypeId}:∀ {l:List (DataW H)} {d:DataW H},d∈l->(DataW.weightsAll P e l).all (· <=reachBytes)=true->(DataW.weights P e d).all (· <=reachBytes)=true
 | d::r,c,hm,h=>by
  rw [DataW.weightsAll] at h;obtain ⟨a,b⟩:=CL h;rcases List.mem_cons.1 hm with rfl | hm
  ·exact a
  ·exact Hh hm b
theorem qy :∀ {ts:List TypeId} {a:List (DataW H)} {i:Nat} {t:TypeId} {d:DataW H},ts[i]? =some t->a[i]? =some d->(DataW.weightsEach P ts a).all (· <=reachBytes)=true->(DataW.weights P t d).all (· <=reachBytes)=true
 | [],_,i,t,d,h,_,_=>by simp at h
 | _::_,[],i,t,d,_,h,_=>by simp at h
 | t::ts,d::a,0,f,e,b,c,h=>by simp at b c;subst b c;rw [DataW.weightsEach] at h;grind
 | t::ts,d::a,i+1,f,e,b,c,h=>by rw [DataW.weightsEach] at h;exact qy (by simpa using b) (by simpa using c) (CL h).2
theorem CM {t:TypeId} {a:Array Field} {fuel:Nat} {d:List Value} {y:DataW H×List MemPlace} (g:P.underlying t=some (.struct a)) (h:DataW.trod enc P W 0 (λ_=>true) true fuel t d=some y) (c:(DataW.weights P t y.1).all (· <=reachBytes)=true)
  {i n off:Nat} {f:Field} {R:List Value->Prop} (b:a[i]? =some f) (q:f.offset=off) (k:P.cellsOf f.type=n) (j:pO enc P W f.type R):R ((d.drop off).take n):=by
 subst q;obtain ⟨r,m,_,rfl,s,p,l⟩:=DataW.trod_struct g h;have e:=l i f b;have o:i<r.length:=by rw [p];exact (Array.getElem?_eq_some_iff.1 b).1
 rw [List.getElem?_eq_getElem o,k] at e;refine j m _ _ e ?_;dsimp only at c;rw [DataW.weights,g] at c;refine qy (i:=i) (ts:=a.toList.map (·.type)) ?_ ?_ c
 ·rw [List.getElem?_map,Array.getElem?_toList,b];rfl
 grind
theorem aaw {t:TypeId} {b:Array Field} {fuel:Nat} {a:List Value} {y:DataW H×List MemPlace} (d:P.underlying t=some (.struct b)) (h:DataW.trod enc P W 0 (λ_=>true) true fuel t a=some y):a.length=P.cellsOf t:=by obtain ⟨g,m,_,rfl,c,f,e⟩:=DataW.trod_struct d h;exact c
theorem Fe {b a:List Value} {off n m:Nat} (h:(b.drop off).take n=a) (c:off+n=m):b.drop off=a++b.drop m:=by rw [<-c,<-h,<-List.drop_drop,List.take_append_drop]
structure Bm {α:Type} (W:World) (sz:Nat) (en:α->List Value) (iF:α->Prop) (l:Sl) (xs:List α):Prop where
 Ms:Rw (whole W) sz en l xs
 cap:l.len<=l.cap
 dR:l.cap<=9223372036854775807
 qY:xs.length<=140737488355328
 all:∀x∈xs,iF x
theorem Lq {t e:TypeId} {u:Type} (E:P.underlying t=some (.slice e)) (f:u->List Value) (iF:u->Prop) {sz:Nat} (S:P.cellsOf e=sz) (hb:0<P.bytesOf e) (L:pO enc P W e λd=>∃x,d=f x/\iF x) (D:∀x,(f x).length=sz):
  pO enc P W t λd=>∃(l:Sl) (b:List u),d=[l.v]/\Bm W sz f iF l b:=by
 intro fuel d y h o;subst S;rcases DataW.trod_slice E h with ⟨w,_⟩ | ⟨a,s,F,k,rest,n,_,w,K,Y,O,Q,a9,M,_,_⟩
 ·exact ⟨⟨none,0,0⟩,[],w,⟨⟨rfl,by simp,.inl (by simp)⟩,Nat.le_refl _,by simp,by simp,λx r=>by cases r⟩⟩
 ·subst K;dsimp only at o;rw [DataW.weights,E] at o;dsimp only at o;rw [List.all_cons,Bool.and_eq_true,decide_eq_true_eq] at o;obtain ⟨T,A⟩:=o;have A:=(CL A).1;have I:∀i,i<s->∃x,iF x/\aV (whole W) (a.add (i*P.cellsOf e)) (f x):=by
   intro i N;have c:=M i N;have g:k[i]? =some k[i]:=List.getElem?_eq_getElem (by omega);rw [g] at c;cases C:W.cells? 0 (a.add (i*P.cellsOf e)) (P.cellsOf e) with
   | none=>grind
   | some d=>rw [C] at c;obtain ⟨_,Z,J⟩:=World.cells?_some C;obtain ⟨x,r,z⟩:=L n d _ c (Hh (List.mem_map.2 ⟨k[i],List.mem_of_getElem? g,rfl⟩) A);refine ⟨x,z,λj v p=> ?_⟩;have a8:j<(f x).length:=(List.getElem?_eq_some_iff.1 p).1;rw [Qa,J j (by grind),r];exact p
  have build:∀m,m<=s->∃b:List u,b.length=m/\(∀x∈b,iF x)/\∀i x,b[i]? =some x->aV (whole W) (a.add (i*P.cellsOf e)) (f x):=by
   intro m
   induction m with
   | zero=>simp
   | succ m U=>
    intro b0;obtain ⟨b,c,g,B⟩:=U (by omega);obtain ⟨x,z,r⟩:=I m (by omega);refine ⟨b++ [x],by simp [c],λy hy=> ?_,λi y hy=> ?_⟩
    ·rcases List.mem_append.1 hy with hy | hy
     ·exact g y hy
     ·rw [List.mem_singleton.1 hy];exact z
    grind
  obtain ⟨b,c,g,B⟩:=build s (Nat.le_refl _);refine ⟨⟨some a,s,F⟩,b,w,⟨⟨c.symm,iH D b,.inr ⟨a,rfl,λi v hv=> ?_⟩⟩,O,Q,?_,g⟩⟩
  ·obtain ⟨q,x,j,R,p,G⟩:=Jw D b i v hv;rw [G];rw [<-sP];exact B q x R j v p
  ·have V:reachBytes<=140737488355328:=by decide
   rw [List.length_map,List.length_map] at T;have X:k.length+rest.length<=(k.length+rest.length)*P.bytesOf e:=Nat.le_mul_of_pos_right _ hb;omega
end
section
variable {H:Type} {enc:TypeId×Value->H} {W:World}
theorem li :pO enc Tryz.prog W 3 λa=>∃n,a=[.int .i64 n]/\(Lit.int .i64 n).wf=true:=Fc (an.aN 3 Fs rfl)
theorem NR :pO enc Tryz.prog W 2 λa=>∃n,a=[.int .i64 n]/\(Lit.int .i64 n).wf=true:=Fc (an.aN 2 wj rfl)
theorem D1 {x:Int} (h:(Lit.int .i64 x).wf=true):n7 x:=by have:=abw h;unfold n7;omega
abbrev eU (x:Int):List Value:=bg ((af .u64).enc x)
theorem zd :Tryz.prog.cellsOf 3=1:=by kernel_rfl
theorem aay :Tryz.prog.cellsOf 2=1:=by kernel_rfl
end
section
variable {W:World}
end
section
variable {H:Type} {enc:TypeId×Value->H} {W:World}
theorem lu8 :pO enc Tryz.prog W 5 λa=>∃b:UInt8,a=eB b/\True:=λf a y h e=>by obtain ⟨n,c,d⟩:=Fc (an.aN 5 NV rfl) f a y h e;simp [Lit.wf,IntKind.min,IntKind.max,IntKind.signed,IntKind.bits] at d;refine ⟨UInt8.ofNat n.toNat,?_,trivial⟩;rw [c];unfold eB;rw [UInt8.toNat_ofNat'];grind
theorem tf {v:Value} {d:DataW H} {j:List MemPlace} {base:Nat} (hv:Value.okWide Tryz.prog W .any base 34 v) (h:DataW.Trod enc Tryz.prog W 0 (λ_=>true) true 34 v d j) (i:(DataW.weights Tryz.prog 34 d).all (· <=reachBytes)=true):
  ∃(l:Sl) (e:List UInt8),v=l.v/\Bm W 1 eB (λ_=>True) l e:=by
 obtain ⟨a,n,c,rfl⟩:=okWide_slice (an.aN 34 xk rfl) hv;obtain ⟨fuel,g⟩:=h;obtain ⟨l,k,b,f⟩:=Lq (enc:=enc) (W:=W) (an.aN 34 xk rfl) eB (λ_=>True) (sz:=1) (by kernel_rfl) (by rw [show Tryz.prog.bytesOf 5=1 by kernel_rfl];omega) lu8 (λ_=>rfl) fuel _ _ g i;refine ⟨l,k,?_,f⟩;have b: [Value.slice a n c]=[l.v]:=b;exact List.cons.inj b |>.1
end
end Lf
namespace Lf
open Go Go.Proofs Tryz
theorem Y4 {c:aI} (b:Typed c):∀l∈c.labels,qN l:=λl a=>⟨(b.1 l a).1,(b.1 l a).2⟩
theorem wX {P:Program} {W:World} {base:Nat} {t:TypeId} {v:Value} {n:Int} (hv:Value.okWide P W .any base t v) (h:v.cells.toList=[.int .i64 n]) (a:P.underlying t=some (.int .i64)):v=.int .i64 n:=by obtain ⟨m,rfl⟩:=Go.WideShapes.okWide_int a hv;simpa [Value.cells] using h
section
variable {c:aI} {t:gN} {s:MS}
theorem Y7 (m:bT c):Bl c t↔uy c t λi y=>jN c i y.toNat=true:=by
 have key:∀(p:Nat) x y,t.procs[p]? =some x->c.procs[p]? =some y->(sd c t (λ(i:Nat) q=>fl c.labels (i:Int) q=true) x y↔sd c t (λi y=>jN c i y.toNat=true) x y):=λp x y _ a=>by
  have hp:=(m.part y (List.mem_of_getElem? a)).1;have e:∀i:Nat,jN c i y.part.toNat=fl c.labels (i:Int) y.part:=λi=>by unfold jN;rw [show ((y.part.toNat:Nat):Int)=y.part by omega]
  unfold sd;simp only [e]
 unfold Bl uy;constructor
 ·rintro ⟨d,f,g,h⟩;exact ⟨d,f,λp x y b a=>(key p x y b a).1 (g p x y b a),h⟩
 ·rintro ⟨d,f,g,h⟩;exact ⟨d,f,λp x y b a=>(key p x y b a).2 (g p x y b a),h⟩
theorem Gx {h:Hp} {y:aZ} (b:fA h y t):∀x∈t.procs,x.br.length=8:=λx j=>by
 obtain ⟨d,_,e⟩:=b.procs;obtain ⟨i,f⟩:=List.mem_iff_getElem?.1 j;have:∃z,d[i]? =some z/\fm h z x:=by have k:=e.len;have l:=(List.getElem?_eq_some_iff.1 f).1;obtain ⟨z,g,a⟩:=e.get (i:=i) (List.getElem?_eq_getElem (show i<d.length by omega));rw [f] at g;cases g;exact ⟨_,List.getElem?_eq_getElem (show i<d.length by omega),a⟩
 obtain ⟨z,_,a⟩:=this;rw [<-a.br];rfl
end
section
variable {k:Hp} {x:al} {y:aZ} {c:aI} {t:gN}
structure qU (k:Hp) (c:aI) (t:gN) (pm:Addr) (k':Hp):Prop where
 ex:∃K tm h1,K.c=c/\dq h1 K/\k<=h1/\Has h1 (aB K pm (bS t) tm) k'/\eH c tm (bS t)
 iF:Good c (jN c) (bS t) No No t.tick
 parts:t.parts.length=nP c
 procs:t.procs.length=nQ c
theorem aaz {Q:Option Addr->Int->Hp->Prop} (a:gL k x c) (u:∀l∈c.labels,qN l) (q:∀b,k<=b->(hU c).1≠0->Q none (hU c).1 b)
  (s:∀pm b,(hU c).1=0->k<=b->qU k c ((rT c).list c) pm b->Q (some pm) 0 b):zws prog x Q k:=by
 unfold zws;refine abt (SR a λv f=> ?_);by_cases d:(hU c).1=0
 ·rw [d,if_neg (by decide)];have e:=yV d;refine R5 (YJ (a.mono f) e λr B w j=>⟨⟨trivial,trivial⟩,?_⟩);have hp:((rT c).list c).parts.length=nP c:=by show ((List.range (nP c)).map _).length=_;simp
  have i:((rT c).list c).procs.length=nQ c:=by show ((List.range (nQ c)).map _).length=_;simp
  have h:=Hp.le_trans f w;have g:=JZ e (Good.may e (Good.first (fl:=jN c) e) (by show (0:Int)<=_;decide)) (Gx j);refine Ut (aap (a.mono h) j u d (aaq e g hp i) λK pm A p b n mk m o z=>s pm b d (Hp.le_trans h (Hp.le_trans m o.le)) ⟨⟨K,A,p,n,mk,Hp.le_trans h m,o,z⟩,g,hp,i⟩)
 ·rw [if_pos (by simpa using d)];exact q v f d
end
section
variable {c:aI} {s:MS} {t:gN}
theorem aaA {i:Nat} (a:i<nP c):(bS (s.list c)).part i=s.part i:=by show ((List.range (nP c)).map s.part).getD i lV=_;grind
theorem J5 {i:Nat} (a:i<nQ c):(bS (s.list c)).proc i=s.proc i:=by show ((List.range (nQ c)).map s.proc).getD i qm=_;grind
theorem Tc :(s.list c).parts.length=nP c:=by show ((List.range (nP c)).map _).length=_;simp
theorem Td :(s.list c).procs.length=nQ c:=by show ((List.range (nQ c)).map _).length=_;simp
theorem DK {K:MK} {pm:Addr} {a:Nat->Nat->Int} (e:K.c=c):aB K pm (bS (s.list c)) a=aB K pm s a:=by
 subst e;unfold aB;have d:dh.first (λi=>n9 K i ((bS (s.list K.c)).part i) (a i)) (nP K.c)=dh.first (λi=>n9 K i (s.part i) (a i)) (nP K.c):=sL λi b=>by rw [aaA b]
 have f:dh.first (λp=>od K p ((bS (s.list K.c)).proc p)) (nQ K.c)=dh.first (λp=>od K p (s.proc p)) (nQ K.c):=sL λi b=>by rw [J5 b]
 rw [d,f];rfl
theorem EA {a:Nat->Nat->Int} (d:eH c a s):eH c a (bS (s.list c)):=λi id b=>by
 rw [d i id b];unfold mG;by_cases h:id / 2<nQ c/\aA c (id / 2)=i
 ·rw [if_pos h,if_pos h,J5 h.1]
 omega
theorem aaB (g:iX c (bS t)) (m:bT c) (hp:t.parts.length=nP c) (f:t.procs.length=nQ c):F0 t:=by
 have j:=m.parts;have k:=m.procs;refine ⟨by omega,by omega,λx b=> ?_,λx b=> ?_⟩
 ·obtain ⟨i,a⟩:=List.mem_iff_getElem?.1 b;have h:=(List.getElem?_eq_some_iff.1 a).1;have e:(bS t).part i=x:=pL a;have sp:=g.part i (by omega);rw [e] at sp;have:=sp.jP;have:=sp.gK;have:=sp.qY.1;exact ⟨by omega,by omega,by omega,λq f=>by have:=sp.qY.2 q f;omega⟩
 ·obtain ⟨i,a⟩:=List.mem_iff_getElem?.1 b;have h:=(List.getElem?_eq_some_iff.1 a).1;have e:(bS t).proc i=x:=pL a;have sp:=g.proc i (by omega);rw [e] at sp;have:=sp.len;exact ⟨by omega,λl d=>⟨by have:=(sp.dQ l d).values;omega,by have:=(sp.dQ l d).waiters;omega⟩⟩
end
def Gt (a:MK) (n:Option Addr) (t2:gN) (b:Nat->Nat->Int):dh:=match n with
 | none=>.fact True
 | some p=>aB a p (bS t2) b
structure iV (h k:Hp) (c:aI) (t1 t2:gN) (pm:Addr) (n:Option Addr):Prop where
 ex:∃K tm K2 tm2,K.c=c/\dq h K/\eH c tm (bS t1)/\(n≠none->K2.c=c/\dq h K2/\eH c tm2 (bS t2))/\Has h ((aB K pm (bS t1) tm).star (Gt K2 n t2 tm2)) k
section
variable {h k:Hp} {c:aI} {t1 t2 t:gN} {pm a:Addr} {n:Option Addr}
theorem iV.le (q:iV h k c t1 t2 pm n):h<=k:=by obtain ⟨_,_,_,_,_,_,_,_,o⟩:=q.ex;exact o.le
theorem qU.pair (q:qU k c t pm h):∃b,k<=b/\iV b h c t t pm none:=by obtain ⟨K,d,b,e,mk,l,o,g⟩:=q.ex;exact ⟨b,l,⟨K,d,K,d,e,mk,g,λf=>absurd rfl f,o.beside (Has.fact trivial (Hp.le_refl _))⟩⟩
theorem iV.one (q:iV h k c t1 t2 pm n):∃K f b,K.c=c/\dq b K/\eH c f (bS t1)/\h<=b/\Has b (aB K pm (bS t1) f) k/\∀d g i,Has b (aB K pm d g) i->eH c g d->iV h i c (d.list c) t2 pm n:=by obtain ⟨K,f,l,v,e,mk,s,m,o⟩:=q.ex;obtain ⟨b,j,r,_,put⟩:=o.fst;refine ⟨K,f,b,e,mk.mono j,s,j,r,λd g i p u=>⟨K,g,l,v,e,mk,EA u,m,?_⟩⟩;rw [DK e];exact put _ _ p
theorem iV.two (q:iV h k c t1 t2 pm (some a)):∃K f b,K.c=c/\dq b K/\eH c f (bS t2)/\h<=b/\Has b (aB K a (bS t2) f) k/\∀d g j,Has b (aB K a d g) j->eH c g d->iV h j c t1 (d.list c) pm (some a):=by obtain ⟨K,f,l,y,e,mk,v,r,o⟩:=q.ex;obtain ⟨i,p,x⟩:=r (by simp);obtain ⟨b,m,u,_,put⟩:=o.snd;refine ⟨l,y,b,i,p.mono m,x,m,u,λd g j s w=>⟨K,f,l,g,e,mk,v,λ_=>⟨i,p,EA w⟩,?_⟩⟩;unfold Gt;dsimp only;rw [DK i];exact put _ _ s
theorem iV.base {P:Program} {g:FuncId} {args:List Value} {sh:Shape} {j K:sh.T->Hp->Prop} (q:iV h k c t1 t2 pm n) (r:ae P g args sh (λx b=>h<=b/\j x b) h) (s:∀x b d,h<=b->j x b->iV b d c t1 t2 pm n->K x d):ae P g args sh K k:=by obtain ⟨m,w,p,y,e,mk,v,f,o⟩:=q.ex;refine DF o r ?_;rintro x b d ⟨l,h0⟩ u;exact s x b d l h0 ⟨m,w,p,y,e,mk.mono l,v,λi=>⟨(f i).1,(f i).2.1.mono l,(f i).2.2⟩,u⟩
theorem iV.grow {b:Hp} (q:iV h k c t1 t2 pm n) (l:k<=b):iV h b c t1 t2 pm n:=by obtain ⟨d,j,f,m,e,mk,i,g,o⟩:=q.ex;exact ⟨d,j,f,m,e,mk,i,g,o.grow l⟩
theorem iV.alone (q:iV h k c t1 t2 pm n):iV h k c t1 t1 pm none:=by obtain ⟨b,d,i,l,e,mk,g,j,o⟩:=q.ex;exact ⟨b,d,b,d,e,mk,g,λf=>absurd rfl f,(Has.left o).beside (Has.fact trivial (Hp.le_refl _))⟩
theorem Wp {s:MS} {p v:Int}:TW (uj c s p v).1=TW s:=by
 unfold uj;split
 ·rfl
 ·split
  ·exact qF rfl
  ·exact CI rfl
end
section
variable {h k:Hp} {c:aI} {t1 t2 t:gN} {pm a:Addr} {n:Option Addr}
def qu (c:aI) (t:gN):gN:=(lq c fT (jN c) (bS t)).list c
def Bz (c:aI) (t:gN) (p v:Int):gN:=(uj c (bS t) p v).1.list c
def mR (c:aI) (t:gN) (p:Int):gN:=(gX c (bS t) p).1.list c
end
section
variable {P:Program} {h:Hp}
theorem qd {a:Type} {v:a} {A:(a->Hp->Prop)->Prop} {B:a->Hp->Prop} (c:∀k:a->Hp->Prop,k v h->A k) (d:B v h):cY A B:=cY.intro (λx b=>x=v/\b=h) (c _ ⟨rfl,rfl⟩) (by grind)
def D5 (op:Int) (k:Bool->Hp->Prop) (h:Hp):List Int->Prop
 | []=>True
 | [a]=>k (op==a) h
 | a::b::r=>if (op==a)=true then k (op==a) h else D5 op k h (b::r)
theorem tG {op:Int} {k:Bool->Hp->Prop}:∀l:List Int,l≠ []->k (decide (op∈l)) h->D5 op k h l
 | [],d,_=>absurd rfl d
 | [a],_,c=>by
  have:(op==a)=decide (op∈ [a]):=by rw [Bool.eq_iff_iff];simp
  show k (op==a) h;grind
 | a::b::r,_,c=>by
  show if (op==a)=true then k (op==a) h else D5 op k h (b::r)
  by_cases e:op=a
  ·grind
  ·rw [if_neg (by simpa using e)];refine tG (b::r) (by simp) ?_;grind
theorem Oo {op:Int} {Q:Bool->Bool->Bool->Bool->Hp->Prop} (a:Q (gQ op).1 (gQ op).2.1 (gQ op).2.2.1 (gQ op).2.2.2 h):Rk P op Q h:=by
 unfold Rk;unfold gQ at a;by_cases c:op=1
 ·rw [if_pos c] at a;rw [if_pos (by simpa using c)];exact a
 rw [if_neg c] at a;rw [if_neg (by simpa using c)];refine qd (h:=h) (v:=decide (op∈ [2,20,21,25,26])) (λk b=>tG [2,20,21,25,26] (by simp) b) ?_;by_cases d:op∈ [2,20,21,25,26]
 ·rw [if_pos (decide_eq_true d)];rw [if_pos (by simpa using d)] at a;exact a
 rw [if_neg (λe=>d (of_decide_eq_true e))];rw [if_neg (by simpa using d)] at a;refine qd (h:=h) (v:=decide (op∈ [3,4,5,6,7,8,9,10,11,12,13,14])) (λk b=>tG [3,4,5,6,7,8,9,10,11,12,13,14] (by simp) b) ?_;by_cases f:op∈ [3,4,5,6,7,8,9,10,11,12,13,14]
 ·rw [if_pos (decide_eq_true f)];rw [if_pos (Or.inl (by simp at f;omega))] at a;exact a
 rw [if_neg (λe=>f (of_decide_eq_true e))];refine qd (h:=h) (v:=decide (op∈ [15,16,17,18,19,24])) (λk b=>tG [15,16,17,18,19,24] (by simp) b) ?_;by_cases g:op∈ [15,16,17,18,19,24]
 ·rw [if_pos (decide_eq_true g)];rw [if_pos (Or.inr (by simp at g;omega))] at a;exact a
 rw [if_neg (λe=>g (of_decide_eq_true e))];rw [if_neg (by simp at f g;omega)] at a;refine qd (h:=h) (v:=decide (op∈ [22,29,30])) (λk b=>tG [22,29,30] (by simp) b) ?_;by_cases i:op∈ [22,29,30]
 ·rw [if_pos (decide_eq_true i)];rw [if_pos (by simpa using i)] at a;exact a
 rw [if_neg (λe=>i (of_decide_eq_true e))];rw [if_neg (by simpa using i)] at a;by_cases j:op=23
 ·rw [if_pos j] at a;rw [if_pos (by simpa using j)];exact a
 rw [if_neg j] at a;rw [if_neg (by simpa using j)];refine qd (h:=h) (v:=decide (op∈ [27,28,31,32,33])) (λk b=>tG [27,28,31,32,33] (by simp) b) ?_;grind
theorem zul {has:Bool} {n:Int} {Q:Int->Hp->Prop} (b:Q (cS has n) h):Qp P n has Q h:=by
 unfold Qp;unfold cS at b;refine aU ?_;by_cases a:has=false/\n≠0
 ·rw [if_pos a] at b;rw [if_pos (by simp [a.1,a.2])];exact b
 rw [if_neg a] at b;rw [if_neg (by intro e;simp at e;exact a e)];refine aU (aU ?_);grind
theorem Kx {x:aL} {n ag:Int} {Q:Int->Int->Hp->Prop} (a:Q (gG (ba x) n ag).1 (gG (ba x) n ag).2 h):Sa prog x n ag Q h:=by
 obtain ⟨o,A,B,C,I⟩:=x;have a:Q (gG ⟨o,A,B,C,I⟩ n ag).1 (gG ⟨o,A,B,C,I⟩ n ag).2 h:=a;unfold Sa;unfold gG at a;refine aU ?_;by_cases i:o<0\/34<=o
 ·rw [if_pos i] at a;rw [if_pos (by simp;omega)];exact a
 rw [if_neg i] at a;rw [if_neg (by simp;omega)];refine zsx (Oo ?_);dsimp only;refine Qh (zul ?_);by_cases c:cS (gQ o).1 A≠0
 ·rw [if_pos c] at a;rw [if_pos (by simpa using c)];exact a
 rw [if_neg c] at a;rw [if_neg (by simpa using c)];refine Qh (zul ?_);by_cases d:cS (gQ o).2.1 B≠0
 ·rw [if_pos d] at a;rw [if_pos (by simpa using d)];exact a
 rw [if_neg d] at a;rw [if_neg (by simpa using d)];refine Qh (zul ?_);by_cases f:cS (gQ o).2.2.1 C≠0
 ·rw [if_pos f] at a;rw [if_pos (by simpa using f)];exact a
 rw [if_neg f] at a;rw [if_neg (by simpa using f)];refine aU ?_;by_cases b:(gQ o).2.2.2=false/\I≠0
 ·rw [if_pos b] at a;rw [if_pos (by simp [b.1,b.2])];exact a
 rw [if_neg b] at a;rw [if_neg (by intro e;simp at e;exact b e)];refine aU (aU (aU ?_));by_cases g:(o=22\/o=23)/\(I<0\/n<I)
 ·rw [if_pos g] at a;rw [if_pos (by simp;exact g)];exact a
 rw [if_neg g] at a;rw [if_neg (by intro e;simp at e;exact g e)];refine aU (aU (aU ?_));grind
theorem Qe {x:aL} {n ag:Int} {Q:Int->Hp->Prop} (a:Q (gG (ba x) n ag).1 h):Sr prog x n ag Q h:=by unfold Sr;exact zku (Kx a)
theorem abZ {l:Sl} {a:List aL} {ag:Int} {Q:Int->Int->Hp->Prop} (r:nF h l a) (b:∀at_,Q (iK (a.map ba) ag).1 at_ h):T1 prog l ag Q h:=by
 unfold T1;have p:l.len=a.length:=r.1;unfold iK at b;rw [List.length_map] at b;refine aU ?_;by_cases f:ag<0\/8<ag
 ·grind
 rw [if_neg f] at b;rw [if_neg (by simp;omega)];by_cases g:256<a.length
 ·grind
 rw [if_neg g] at b;rw [if_neg (by simp;omega)];refine q8 (n:=a.length) (by omega) (by omega) (λi e=>e=h/\(jo (a.length:Int) ag ((a.map ba).drop i) i).1=(jo (a.length:Int) ag (a.map ba) 0).1) ⟨rfl,rfl⟩ ?_ ?_
 ·rintro i o k ⟨rfl,c⟩ K m;refine Rs.get (sh:=aM) r (λ_=>rfl) (by omega) (by omega) (by omega) λx d=> ?_;have d:a[i]? =some x:=d;have j:(a.map ba).drop i=ba x::(a.map ba).drop (i+1):=Ew (by rw [List.getElem?_map,d];rfl);rw [j,jo] at c;refine zuj (Qe ?_);grind
 ·rintro k ⟨rfl,c⟩;rw [List.drop_of_length_le (by simp),jo] at c;grind
theorem FE {n a b:Int} {Q:Bool->Hp->Prop} (c:Q (within n a b) h):Rj P n a b Q h:=by unfold Rj;exact aU c
end
section
variable {h:Hp}
theorem Oq {l:Sl} {a:List Int} {n:Nat} {Q:Int->Hp->Prop} (r:Is h l a) (t:n<=8) (b:Q (if a=[] then 1 else if 64<a.length then 3 else if (a.all λp=>within p 0 ((n:Int)-1))=false then 2 else 0) h):Ri prog l (n:Int) Q h:=by
 unfold Ri;have q:l.len=a.length:=r.1;by_cases f:a=[]
 ·rw [if_pos f] at b;rw [if_pos (by rw [q,f];rfl)];exact b
 rw [if_neg f] at b;have hp:=List.length_pos_iff.2 f;rw [if_neg (by rw [beq_iff_eq];omega)];by_cases g:64<a.length
 ·rw [if_pos g] at b;rw [if_pos (decide_eq_true (by omega))];exact b
 rw [if_neg g] at b;rw [if_neg (λe=>g (by have:=of_decide_eq_true e;omega))];rw [wrap64 (n:=(n:Int)-1) (by omega) (by omega)];refine q8 (n:=a.length) (by omega) (by omega) (λi j=>j=h/\∀x∈a.take i,within x 0 ((n:Int)-1)=true) ⟨rfl,λx d=>by simp at d⟩ ?_ ?_
 ·rintro i s k ⟨rfl,o⟩ K m;refine Rs.get (sh:=af .i64) r (λ_=>rfl) (by omega) (by omega) (by omega) λ(x:Int) d=> ?_;have d:a[i]? =some x:=d;refine Ft (FE ?_);by_cases c:within x 0 ((n:Int)-1)=true
  ·rw [if_neg (by rw [c];simp)];refine m k ⟨rfl,λy hy=> ?_⟩;rw [List.take_add_one,d] at hy;rcases List.mem_append.1 hy with hy | hy
   ·exact o y hy
   ·have:y=x:=by simpa using hy
    rw [this];exact c
  ·have c:within x 0 ((n:Int)-1)=false:=by simpa using c
   rw [if_pos (by rw [c];rfl)];rw [if_pos (List.all_eq_false.2 ⟨x,List.mem_of_getElem? d,by rw [c];simp⟩)] at b;exact b
 grind
theorem Ws {P:Program} {l:Sl} {a:List Int} {Q:Int->Int->Hp->Prop} (r:Us h l a) (b:Q (iG a).1 (iG a).2 h):zqc P l Q h:=CA (P:=P) r b
theorem Y9 (a b c d:Bool) {i:Nat} (e:i<4):List.get?Internal (α:=Value) [.bool a,.bool b,.bool c,.bool d] (0+(i*1))=some (.bool (([a,b,c,d]:List Bool).getD i false)):=by
 match i,e with
 | 0,_=>rfl
 | 1,_=>rfl
 | 2,_=>rfl
 | 3,_=>rfl
theorem Ot {x:al} {c:aI} {Q:Int->Int->Hp->Prop} (a:gL h x c) (b:∀at_,Q (hU c).1 at_ h):TM prog x Q h:=by
 unfold TM;have G:x.aE.len=c.labels.length:=a.labels.1;unfold hU qX at b;refine zyo (Ws a.labels ?_);dsimp only;by_cases l:(iG c.labels).1≠0
 ·grind
 rw [if_neg l] at b;rw [if_neg (by simpa using l)];obtain ⟨R,F,_⟩:=gT.1 (Classical.not_not.1 l);rw [G];refine zsw (Oq a.table F ?_);by_cases A:c.table=[]
 ·grind
 rw [if_neg A] at b ⊢;by_cases B:64<c.table.length
 ·grind
 rw [if_neg B] at b ⊢;by_cases C:(c.table.all λp=>within p 0 (c.labels.length-1))=false
 ·grind
 rw [if_neg C] at b ⊢;rw [if_neg (by simp)];refine Ft (FE ⟨⟨trivial,trivial,trivial,trivial⟩,Ft (FE ⟨⟨trivial,trivial,trivial⟩,Ft (FE ⟨⟨trivial,trivial⟩,Ft (FE ?_)⟩)⟩)⟩);rw [a.fuel,a.lane,a.ag,a.log];refine q8 (n:=4) rfl (by omega) (λi z=>z=h/\(1<=i->within c.fuel 1 256=true)/\(2<=i->within c.lane 1 64=true)/\(3<=i->within c.ag 0 8=true)/\(4<=i->within c.log 0 4096=true)) ⟨rfl,λe=>by omega,λe=>by omega,λe=>by omega,λe=>by omega⟩ ?_ ?_
 ·rintro i u k ⟨rfl,N,w,y,O⟩ K D;refine ⟨⟨by omega,by omega⟩,_,Y9 _ _ _ _ u,?_⟩;grind
 ·rintro k ⟨rfl,N,w,y,O⟩;rw [if_neg (by grind),if_neg (by rw [w (by omega)];simp),if_neg (by rw [y (by omega)];simp),if_neg (by grind)] at b;obtain ⟨j,o,t⟩:=a.procs;have S:x.aQ.len=j.length:=o.1;have T:=t.len;by_cases r:c.procs=[]
  ·grind
  rw [if_neg r] at b;have V:0<c.procs.length:=List.length_pos_iff.2 r;rw [if_neg (by grind)];by_cases s:32<c.procs.length
  ·grind
  rw [if_neg s] at b;rw [if_neg (λe=>s (by grind))];refine q8 (n:=j.length) (by omega) (by omega) (λi J=>J=k/\(sX c.labels.length c.ag (c.procs.drop i) i).1=(sX c.labels.length c.ag c.procs 0).1) ⟨rfl,rfl⟩ ?_ ?_
  ·rintro i u L ⟨rfl,d⟩ K D;refine Rw.Fp o (λ_=>rfl) (by omega) (sh:=af .i64) (λq=>q.Part) (λ_=>rfl) (by omega) (by omega) λq g=> ?_;have g:j[i]? =some q:=g;obtain ⟨v,H,I,X,E,U⟩:=t.get g;rw [Ew H,sX] at d;rw [wrap64 (n:=(c.labels.length:Int)-1) (by omega) (by omega)];refine Ft (FE ?_);rw [I];by_cases m:within v.part 0 ((c.labels.length:Int)-1)=false
   ·rw [if_pos m] at d;rw [if_pos (by rw [m];rfl)];rw [<-d] at b;exact b _
   rw [if_neg m] at d;rw [if_neg (by cases W:within v.part 0 ((c.labels.length:Int)-1)<;>simp_all)];refine Rw.Fp o (λ_=>rfl) (by omega) (sh:=av) (λq=>q.Code) (λ_=>rfl) (by omega) (by omega) λM f=> ?_;have f:j[i]? =some M:=f;rw [g] at f;cases f;refine zyp (abZ E λP=> ?_);grind
  ·rintro L ⟨rfl,d⟩;rw [List.drop_of_length_le (by omega),sX] at d;grind
end
section
variable {c:aI} {s:MS} {t:gN}
structure GT (c:aI) (t:gN):Prop where
 iF:Good c (jN c) (bS t) No No t.tick
 parts:t.parts.length=nP c
 procs:t.procs.length=nQ c
theorem GT.of (m:bT c) (g:Good c (jN c) s No No s.tick) (a:s.tick<=4611686018427387904):GT c (s.list c):=
 ⟨JZ m (Good.may m g a) λx b=>by
  obtain ⟨p,hp,rfl⟩:=List.mem_map.1 b;exact (g.proc p (List.mem_range.1 hp)).br,Tc,Td⟩
theorem Wt {D:Int->Int->Int->Int} (m:bT c) {fl:Nat->Nat->Bool} (g:Good c fl s No No s.tick):(lq c D fl s).tick=s.tick+1:=by have b:=(g.vn (T':=s.tick+1) (by omega)).due (i:=jk c s.tick);obtain ⟨_,a⟩:=Good.turns (D:=D) m (m.lO (t:=s.tick)) c.fuel.toNat b rfl;have a:(nC c D fl (jk c s.tick) c.fuel.toNat (iZ c s (jk c s.tick))).tick=s.tick:=a;show (nC c D fl (jk c s.tick) c.fuel.toNat (iZ c s (jk c s.tick))).tick+1=_;rw [a]
theorem GT.tick (m:bT c) (g:GT c t) (a:t.tick<4611686018427387904):GT c (qu c t)/\(qu c t).tick=t.tick+1:=by have e:(lq c fT (jN c) (bS t)).tick=t.tick+1:=Wt m g.iF;exact ⟨GT.of m (g.iF.GG m) (by omega),e⟩
theorem GT.inj (m:bT c) (g:GT c t) (a:t.tick<=4611686018427387904) {p v:Int}:GT c (Bz c t p v)/\(Bz c t p v).tick=t.tick:=by have e:(uj c (bS t) p v).1.tick=t.tick:=PV;exact ⟨GT.of m (by rw [e];exact g.iF.BA) (by omega),e⟩
theorem GT.kill (m:bT c) (g:GT c t) (a:t.tick<=4611686018427387904) {p:Int}:GT c (mR c t p)/\(mR c t p).tick=t.tick:=by have e:(gX c (bS t) p).1.tick=t.tick:=VW;exact ⟨GT.of m (by rw [e];exact g.iF.kill m) (by omega),e⟩
theorem GT.le (m:bT c) (g:GT c t):F0 t:=aaB (g.iF.qp m) m g.parts g.procs
theorem GT.may (m:bT c) (g:GT c t) (a:t.tick<=4611686018427387904):Bl c t:=by have:=Good.may m g.iF a;rw [Es g.parts g.procs] at this;exact (Y7 m).2 this
theorem I3 (m:bT c):GT c ((rT c).list c)/\((rT c).list c).tick=0:=⟨GT.of m (Good.first m) (by show (0:Int)<=_;decide),rfl⟩
end
section
variable {h k:Hp}
variable {c:aI} {t1 t2 t:gN} {pm:Addr} {n:Option Addr}
end
def FP {V:Type} (m:Nat) (k:IntKind) (ev:V->Value) (j:List (Int×V)):dh:=
 ⟨λh F=>eT h m k ev j/\∀c,F c↔c=m,λ{i l F} h g=>⟨by obtain ⟨⟨e,ck,a,d⟩,b⟩:=h;exact ⟨e,ck,by rw [g m ((b m).2 rfl)];exact a,d⟩,h.2⟩,
  λ{i F} h c f=>by obtain ⟨⟨e,ck,a,d⟩,b⟩:=h;rw [(b c).1 f,a];simp⟩
section
variable {h0 k:Hp} {V:Type} {m:Nat} {b:IntKind} {ev:V->Value} {d:List (Int×V)}
theorem Has.kv (o:Has h0 (FP m b ev d) k):eT k m b ev d/\h0 m=none:=by obtain ⟨_,F,⟨a,e⟩,c⟩:=o;exact ⟨a,c m ((e m).2 rfl)⟩
theorem Has.Gr (f:h0<=k) (a:eT k m b ev d) (g:h0 m=none):Has h0 (FP m b ev d) k:=
 ⟨f,λc=>c=m,⟨a,λ_=>Iff.rfl⟩,λc e=>by rw [e];exact g⟩
theorem Has.Gl (o:Has h0 (FP m b ev d) k) {a:Int} {v:V} {K:Hp->Prop} (j:∀g,Has h0 (FP m b ev (jb a v d)) g->K g):uh (.int b) (some m) (.int b a) (ev v) K k:=by
 obtain ⟨a1,f⟩:=o.kv;refine FO a1 λl _ a2=>j _ (Has.Gr (λc x e=> ?_) a2 f);have i:c≠m:=λh=>by rw [h,f] at e;cases e
 unfold Hp.set;rw [if_neg i];exact o.le c x e
end
structure gk (h k:Hp) (c:aI) (t:gN) (pm pr:Addr) (x:fG) (R:dh):Prop where
 ex:∃K tm,K.c=c/\dq h K/\eH c tm (bS t)/\Has h ((aB K pm (bS t) tm).star ((da FI pr x).star R)) k
section
variable {h k:Hp} {c:aI} {t:gN} {pm pr:Addr} {x:fG} {R:dh}
theorem gk.le (q:gk h k c t pm pr x R):h<=k:=by obtain ⟨_,_,_,_,_,o⟩:=q.ex;exact o.le
theorem gk.BE (q:gk h k c t pm pr x R):∃K d a,K.c=c/\dq a K/\eH c d (bS t)/\h<=a/\Has a (aB K pm (bS t) d) k/\∀b f g,Has a (aB K pm b f) g->eH c f b->gk h g c (b.list c) pm pr x R:=by obtain ⟨K,d,e,mk,m,o⟩:=q.ex;obtain ⟨a,i,l,_,put⟩:=o.fst;refine ⟨K,d,a,e,mk.mono i,m,i,l,λb f g j n=>⟨K,f,e,mk,EA n,?_⟩⟩;rw [DK e];exact put _ _ j
theorem gk.run (q:gk h k c t pm pr x R):∃a,h<=a/\Has a (da FI pr x) k/\∀x' b,Has a (da FI pr x') b->gk h b c t pm pr x' R:=by obtain ⟨K,p,e,mk,n,o⟩:=q.ex;obtain ⟨a,f,j,_,put⟩:=o.snd;obtain ⟨d,g,l,_,m⟩:=j.fst;exact ⟨d,Hp.le_trans f g,l,λx' b i=>⟨K,p,e,mk,n,put _ _ (m _ _ i)⟩⟩
theorem gk.rest (q:gk h k c t pm pr x R):∃a,h<=a/\Has a R k/\∀b d,Has a b d->gk h d c t pm pr x b:=by obtain ⟨K,r,e,mk,p,o⟩:=q.ex;obtain ⟨a,g,l,_,put⟩:=o.snd;obtain ⟨f,i,m,_,n⟩:=l.snd;exact ⟨f,Hp.le_trans g i,m,λb d j=>⟨K,r,e,mk,p,put _ _ (n _ _ j)⟩⟩
theorem gk.grow {a:Hp} (q:gk h k c t pm pr x R) (l:k<=a):gk h a c t pm pr x R:=by obtain ⟨K,d,e,mk,b,o⟩:=q.ex;exact ⟨K,d,e,mk,b,o.grow l⟩
theorem gk.beside {b:Hp} {B:dh} (q:gk h k c t pm pr x R) (d:Has k B b):gk h b c t pm pr x (R.star B):=by obtain ⟨K,g,e,mk,f,o⟩:=q.ex;refine ⟨K,g,e,mk,f,?_⟩;have:=o.beside d;exact (this.assoc).map λ_ _=>Be (λ_ a=>a) λ_=>LB
theorem gk.BI {a:Hp} (q:iV h k c t t pm none) (b:Has k (da FI pr x) a):gk h a c t pm pr x (.fact True):=by obtain ⟨K,f,g,j,e,mk,d,i,o⟩:=q.ex;exact ⟨K,f,e,mk,d,(Has.left o).beside (b.beside (Has.fact trivial (Hp.le_refl _)))⟩
theorem gk.tick {Q:Int->Hp->Prop} (q:gk h k c t pm pr x R) (e:bT c) (g:GT c t) (d:t.tick<4611686018427387904) (b:∀a,gk h a c (qu c t) pm pr x R->Q (jk c t.tick:Int) a):MM prog (some pm) Q k:=by obtain ⟨K,o,m,rfl,mk,j,n,i,put⟩:=q.BE;exact YD YM mk e i g.iF d j λp a f l=>b a (put _ _ _ f l)
theorem gk.inj {p v:Int} {Q:Int->Hp->Prop} (q:gk h k c t pm pr x R) (b:bT c) (g:GT c t) (d:∀a,gk h a c (Bz c t p v) pm pr x R->Q (uj c (bS t) p v).2 a):ME prog (some pm) p v Q k:=by obtain ⟨K,j,l,rfl,mk,i,m,f,put⟩:=q.BE;exact S1 mk b f (g.iF.qp b) λa e=>d a (put _ j _ e (i.bq Wp))
theorem gk.kill {p:Int} {Q:Int->Hp->Prop} (q:gk h k c t pm pr x R) (b:bT c) (g:GT c t) (d:∀a,gk h a c (mR c t p) pm pr x R->Q (gX c (bS t) p).2 a):ML prog (some pm) p Q k:=by obtain ⟨K,n,l,rfl,mk,i,m,f,put⟩:=q.BE;exact YA mk b f (g.iF.qp b) i λo a e j=>d a (put _ _ _ e j)
theorem gk.state {Q:aZ->Hp->Prop} (q:gk h k c t pm pr x R) (e:bT c) (g:GT c t) (m:∀r b a,h<=b->fA b r t->gk b a c t pm pr x R->Q r a):MF prog (some pm) Q k:=by obtain ⟨K,v,rfl,mk,i,o⟩:=q.ex;obtain ⟨w,n,p,_,put⟩:=o.fst;refine VX (mk.mono n) e p (g.iF.qp e) i λr a f=> ?_;rw [Es g.parts g.procs] at f;have s:=Has.carry (put _) f;obtain ⟨j,d,u,⟨F,⟨B,l,_⟩,_⟩,_⟩:=s.fst;exact m r j a d l.rd ⟨K,v,rfl,mk.mono d,i,u⟩
end
def D8 :List (Int×pg):=[(1,⟨.func (.func 51) #[] #[],rfl⟩),(2,⟨.func (.func 52) #[] #[],rfl⟩),(3,⟨.func (.func 53) #[] #[],rfl⟩)]
theorem Lr {P:Program} {k:Hp} {Q:Option Nat->Hp->Prop} (d:∀m a,k<=a->eT a m .i64 jh.enc D8->Q (some m) a):Dg P Q k:=by unfold Dg;intro b hb;have e:eT (k.set b (.map #[] 0)) b .i64 jh.enc ([]:List (Int×pg)):=⟨[],0,lZ,rfl⟩;have c:k<=k.set b (.map #[] 0):=lz hb;refine FO (ev:=jh.enc) (v:=(⟨.func (.func 51) #[] #[],rfl⟩:pg)) e λi _ f=> ?_;refine FO (ev:=jh.enc) (v:=(⟨.func (.func 52) #[] #[],rfl⟩:pg)) f λj _ g=> ?_;refine FO (ev:=jh.enc) (v:=(⟨.func (.func 53) #[] #[],rfl⟩:pg)) g λl _ h=> ?_;exact d b _ (vA (vA (vA c hb) hb) hb) h
def iw (c:aI) (t:gN):Nat->gN
 | 0=>t
 | n+1=>qu c (iw c t n)
section
variable {h k:Hp} {c:aI} {t:gN} {pm pr:Addr} {x:fG} {R:dh}
theorem yE (a:bT c) (g:GT c t) (i:t.tick<4611686018427000000):∀n:Nat,n<=100000->GT c (iw c t n)/\(iw c t n).tick=t.tick+n
 | 0,_=>⟨g,by simp [iw]⟩
 | n+1,j=>by obtain ⟨e,b⟩:=yE a g i n (by omega);obtain ⟨f,d⟩:=e.tick a (by omega);exact ⟨f,by show (qu c (iw c t n)).tick=_;rw [d,b];omega⟩
theorem Tf {s:cI} {Q:Int->Hp->Prop} (q:gk h k c t pm pr x R) (n:bT c) (g:GT c t) (w:x.m=some pm) (I:t.tick=x.ticks) (hb:0<=x.ticks/\x.ticks<=65536) (D:1<=s.N) (E:s.N<=65536-x.ticks)
  (v:∀i,gk h i c (iw c t s.N.toNat) pm pr ⟨some pm,x.ticks+s.N,(jk c (t.tick+(s.N-1)):Int)⟩ R->Q 0 i):ZJ prog (some pr) s Q k:=by
 unfold ZJ;rw [if_neg (by simp;omega)];obtain ⟨F,O,y,_⟩:=q.run;refine aD (y.ld (shf:=af .i64) x.ticks rfl ?_);rw [wrap64 (by omega) (by omega),if_neg (by simp;omega)];refine aC.intro (λ(j:Int) k=>0<=j/\j<=s.N/\∃a,gk h k c (iw c t j.toNat) pm pr ⟨some pm,x.ticks,a⟩ R/\(0<j->a=(jk c (t.tick+(j-1)):Int))) (λj _=>(s.N-j).toNat) ⟨by omega,by omega,x.owner,?_,λr=>absurd r (by omega)⟩ ?_
 ·have e:x=⟨some pm,x.ticks,x.owner⟩:=by rw [<-w]
  rw [<-e];exact q
 rintro j L ⟨J,K,a,o,u⟩;obtain ⟨gj,p⟩:=yE n g (by omega) j.toNat (by omega);obtain ⟨G,P,b,A⟩:=o.run;by_cases f:j<s.N
 ·rw [if_pos (decide_eq_true f)];refine aD (b.ld (shf:=ah) (some pm) rfl ?_);refine zuc (o.tick n gj (by omega) λM C=> ?_);obtain ⟨H,S,z,B⟩:=C.run;refine aD (z.st (x':=⟨some pm,x.ticks,(jk c (iw c t j.toNat).tick:Int)⟩) (show 3<=3 by omega) rfl λl d=> ?_);rw [wrap64 (by omega) (by omega)];refine ⟨⟨by omega,by omega,(jk c (iw c t j.toNat).tick:Int),?_,λ_=> ?_⟩,by omega⟩
  ·have e:(j+1).toNat=j.toNat+1:=by omega
   rw [e];exact B _ _ d
  ·rw [p];congr 2;omega
 ·rw [if_neg (λe=>f (of_decide_eq_true e))];obtain rfl:j=s.N:=by omega
  refine aD (b.ld (shf:=af .i64) x.ticks rfl (aD ?_));rw [wrap64 (by omega) (by omega)];refine b.st (x':=⟨some pm,x.ticks+s.N,a⟩) (show 2<=3 by omega) rfl λl d=>v l ?_;rw [<-u (by omega)];exact A _ _ d
theorem J7 {Q:eC->Hp->Prop} {e:Int} (q:gk h k c t pm pr x R) (b:Q ⟨e,x.ticks,x.owner⟩ k):
  ai none (some pr) λp=>aP none (af .i64) k (Addr.add p 1) λx=>ai none (some pr) λd=>aP none (af .i64) k (Addr.add d 2) λf=>Q ⟨e,x,f⟩ k:=by
 obtain ⟨g,i,a,_⟩:=q.run;exact aD (a.ld (shf:=af .i64) x.ticks rfl (aD (a.ld (shf:=af .i64) x.owner rfl b)))
theorem Ls {s:cI} {Q:eC->Hp->Prop} (q:gk h k c t pm pr x R) (w:bT c) (g:GT c t) (r:x.m=some pm) (p:t.tick=x.ticks) (hb:0<=x.ticks/\x.ticks<=65536) (o:s.Kind=1) (i:1<=s.N) (j:s.N<=65536-x.ticks)
  (n:∀a b,a=⟨0,x.ticks+s.N,(jk c (t.tick+(s.N-1)):Int)⟩->gk h b c (iw c t s.N.toNat) pm pr ⟨some pm,x.ticks+s.N,(jk c (t.tick+(s.N-1)):Int)⟩ R->Q a b):Kg prog (some pr) s Q k:=by
 unfold Kg;refine cY.intro (λe b=>e=0/\gk h b c (iw c t s.N.toNat) pm pr ⟨some pm,x.ticks+s.N,(jk c (t.tick+(s.N-1)):Int)⟩ R) ?_ ?_
 ·refine Jd (Lr λm y u mk=>⟨⟨trivial,trivial⟩,?_⟩);rw [o];refine Fh (z:=(⟨.nilFunc,rfl⟩:pg)) mk rfl (λl=>by cases l) λv hv=> ?_;cases hv;rw [if_pos rfl];exact sN rfl (Uv (Tf (q.grow u) w g r p hb i j λf d=>⟨rfl,d⟩))
 ·rintro e f ⟨rfl,d⟩;exact J7 d (n _ f rfl d)
theorem Ky {s:cI} {Q:eC->Hp->Prop} (q:gk h k c t pm pr x R) (n:bT c) (g:GT c t) (A:x.m=some pm) (y:t.tick<=4611686018427387904) (D:s.Kind≠1)
  (C:∀a e b l,a=⟨e,x.ticks,x.owner⟩->gk h l c b pm pr x R->GT c b->b.tick=t.tick->(s.Kind=3->b=mR c t s.N/\e=(gX c (bS t) s.N).2)->Q a l):Kg prog (some pr) s Q k:=by
 unfold Kg;refine cY.intro (λe l=>∃b,gk h l c b pm pr x R/\GT c b/\b.tick=t.tick/\(s.Kind=3->b=mR c t s.N/\e=(gX c (bS t) s.N).2)) ?_ ?_
 ·refine Jd (Lr λm G E mk=>⟨⟨trivial,trivial⟩,?_⟩);have o:=q.grow E;obtain ⟨F,H,B,_⟩:=o.run;refine Fh (z:=(⟨.nilFunc,rfl⟩:pg)) mk rfl (λw=> ?_) λv hv=> ?_
  ·rw [if_neg (by decide)];refine ⟨t,o,g,rfl,λd=> ?_⟩;rw [d] at w;cases w
  ·rw [if_pos rfl];by_cases u:s.Kind=2
   ·rw [u] at hv;cases hv;refine sN rfl (Q2 ?_);unfold zyz;refine aD (B.ld (shf:=ah) (some pm) (by rw [<-A];rfl) ?_);refine zsb (o.inj n g λr f=> ?_);obtain ⟨j,i⟩:=g.inj n y (p:=s.N) (v:=s.V);exact ⟨_,f,j,i,λd=>by omega⟩
   ·by_cases d:s.Kind=3
    ·rw [d] at hv;cases hv;refine sN rfl (Uy ?_);unfold HQ;refine aD (B.ld (shf:=ah) (some pm) (by rw [<-A];rfl) ?_);refine zub (o.kill n g λr f=> ?_);obtain ⟨j,i⟩:=g.kill n y (p:=s.N);exact ⟨_,f,j,i,λ_=>⟨rfl,rfl⟩⟩
    ·exfalso;rw [show fU s.Kind D8=none by simp only [D8,fU];rw [if_neg D,if_neg u,if_neg d]] at hv;cases hv
 ·rintro e r ⟨b,f,j,i,d⟩;exact J7 f (C _ e b r rfl f j i d)
end
theorem Th {c:aI} (ok:(hU c).1=0):(1<=c.labels.length/\c.labels.length<=8)/\(0<=c.ag/\c.ag<=8)/\(0<=c.log/\c.log<=4096)/\(1<=c.lane/\c.lane<=64)/\(1<=c.procs.length/\c.procs.length<=32)/\
  ∀p∈c.procs,(0<=p.part/\p.part<=c.labels.length-1)/\p.code.length<=256/\∀x∈p.code,(gG x p.code.length c.ag).1=0:=by
 obtain ⟨d,j,k,l,m,f,b,g,h,e,a⟩:=j4.1 ok;obtain ⟨i,n,o⟩:=gT.1 d;have:=List.length_pos_iff.2 i;have:=List.length_pos_iff.2 h;refine ⟨⟨by omega,by omega⟩,b,g,f,⟨by omega,e⟩,λp hp=>⟨(a p hp).1,(xx b).1 (a p hp).2⟩⟩
section
variable {h:Hp} {b:Nat} {x:al} {y:aZ} {c:aI} {s:gN}
end
theorem xV {b h:Hp} {m:Sl} {bs:List UInt8} {n:Nat} {len:Int} {es:List (List UInt8)} {B:(Sl->Int->Hp->Prop)->Sl->Int->Hp->Prop} {X:Sl->Int->Hp->Prop} (u:len=(n:Int)) (r:b<=h) (o:kG b h m bs) (A:es.length=n) (v:n<=4611686018427387904) (hb:bs.length+es.flatten.length<=2000000)
  (w:∀(i:Nat) e,es[i]? =some e->∀l g a,b<=a->kG b a l g->g.length+e.length<=2000000->∀K:Sl->Int->Hp->Prop,(∀d c,b<=c->kG b c d (g++e)->K d (yw ((i:Int)+1)) c)->B K l (i:Int) a)
  (y:∀l a,b<=a->kG b a l (bs++es.flatten)->X l (n:Int) a):
  bD (λp x t h=>if decide (t<len)=true then B p x t h else X x t h) m (0:Int) h:=by
 refine forA u v (λi l a=>b<=a/\kG b a l (bs++(es.take i).flatten)) ⟨r,by simpa using o⟩ ?_ ?_
 ·rintro i C l a ⟨j,f⟩ K q;have k:=List.getElem?_eq_getElem (show i<es.length by omega);obtain ⟨s1,s2⟩:=aav (bs:=bs) k;refine w i _ k l _ a j f (by omega) K λd c s z=>q d c ⟨s,?_⟩;rw [<-s1];exact z
 ·rintro l a ⟨j,f⟩;rw [List.take_of_length_le (by omega)] at f;exact y l a j f
theorem ye {n:Int}: [Value.int .u8 (IntKind.wrap .u8 n)]=(cM n 1).map λb=>Value.int .u8 (b.toNat:Int):=by simp [cM,oY]
section
variable {h0 h:Hp} {l:Sl} {bs:List UInt8} {Q:Sl->Hp->Prop}
theorem Nq {P:Program} {n m:Int} {k:Nat} (f:m=(k:Int)) (d:k<=8) (e:h0<=h) (o:kG h0 h l bs) (hb:bs.length<=2000000) (c:∀b a,h0<=a->kG h0 a b (bs++cM n k)->Q b a):Rd P l n m Q h:=by unfold Rd;exact JO f d e o (by omega) c
theorem Wu {P:Program} {x:aL} (f:h0<=h) (o:kG h0 h l bs) (hb:bs.length<=2000000) (e:∀b a,h0<=a->kG h0 a b (bs++lL (ba x))->Q b a):TP P l x Q h:=by unfold TP;refine EB f o (cM x.Op 1++(cM x.A 1++(cM x.B 1++cM x.C 1))) (by simp [cM,oY]) rfl (by simp only [List.length_append,lQ];omega) λp n i m _=> ?_;refine JO (k:=8) rfl (by omega) i m (by simp only [List.length_append,lQ];omega) λg d j c=>e g d j ?_;rw [yx (by omega)] at c;simpa [lL,ba,List.append_assoc] using c
theorem Ou {c:al} {p:aI} {Q:Sl->Int->Hp->Prop} (a:gL h c p) (N:(hU p).1=0->(nI p).length<=1048576) (Z:(hU p).1≠0->Q ⟨none,0,0⟩ (hU p).1 h)
  (h1:(hU p).1=0->∀out m,h<=m->kG h m out (nI p)->Q out 0 m):Rc prog c Q h:=by
 unfold Rc;refine zyk (Ot a λ_=> ?_);by_cases g:(hU p).1≠0
 ·rw [if_pos (by simpa using g)];exact Z g
 rw [if_neg (by simpa using g)];have g:=Classical.not_not.1 g;have N:=N g;obtain ⟨H,S,J⟩:=a.procs;have b2:c.aE.len=p.labels.length:=a.labels.1;have c1:c.Table.len=p.table.length:=a.table.1;have c0:c.aQ.len=H.length:=S.1;have O:=J.len;have g1:(p.labels.map λv=>cM v 8).flatten.length=8*p.labels.length:=yY _ λ_=>lQ _ _;have g2:(p.table.map λv=>cM v 1).flatten.length=1*p.table.length:=yY _ λ_=>lQ _ _;have hL:(nI p).length=14+(p.labels.map λv=>cM v 8).flatten.length+(p.table.map λv=>cM v 1).flatten.length+(p.procs.map gg).flatten.length:=by simp only [nI,List.length_append,lQ,List.flatMap_def,List.length_cons,List.length_nil];omega
 obtain ⟨-, -, -, -,⟨d3,d4⟩, -⟩:=Th g;refine tK (h0:=h) (xs:=[70,66,67,70,1]++cM (c.aE.len:Int) 1) (enc:=eB) (sz:=1) (Hp.le_refl h) (by simp [cM,oY,eB]) rP λa1 k1 c3 o1=> ?_;refine xV (n:=p.labels.length) (es:=p.labels.map λv=>cM v 8) (by omega) c3 o1 (by simp) (by omega) (by simp only [List.length_append,lQ,List.length_cons,List.length_nil];omega) ?_ λb1 k2 c4 z=> ?_
 ·intro i e d F D m f s A K o;rw [List.getElem?_map] at d;cases hv:p.labels[i]? with
  | none=>rw [hv] at d;cases d
  | some v=>rw [hv] at d;cases d;have L:=(List.getElem?_eq_some_iff.1 hv).1;refine Rs.get (sh:=af .u64) (Rw.mono f a.labels) (λ_=>rfl) (by omega) (by omega) (by omega) λ(x:Int) b=> ?_;have b:p.labels[i]? =some x:=b;rw [hv] at b;cases b;exact MA (Nq (k:=8) rfl (by omega) f s (by omega) o)
 refine EB c4 z (cM (c.Table.len:Int) 1) ye rfl (by simp only [List.length_append,lQ,List.length_cons,List.length_nil];omega) λb3 k3 c5 C _=> ?_;refine xV (n:=p.table.length) (es:=p.table.map λv=>cM v 1) (by omega) c5 C (by simp) (by omega) (by simp only [List.length_append,lQ,List.length_cons,List.length_nil];omega) ?_ λb4 k4 c6 G=> ?_
 ·intro i e d F D m f s A K o;rw [List.getElem?_map] at d;cases hv:p.table[i]? with
  | none=>rw [hv] at d;cases d
  | some v=>rw [hv] at d;cases d;have L:=(List.getElem?_eq_some_iff.1 hv).1;refine Rs.get (sh:=af .i64) (Rw.mono f a.table) (λ_=>rfl) (by omega) (by omega) (by omega) λ(x:Int) b=> ?_;have b:p.table[i]? =some x:=b;rw [hv] at b;cases b;exact EB f s (cM v 1) ye rfl (by simp only [lQ] at A ⊢;omega) λU I E z _=>o U I E z
 refine MA (Nq (k:=2) rfl (by omega) c6 G (by simp only [List.length_append,lQ,List.length_cons,List.length_nil];omega) λb5 k5 c7 V=> ?_);rw [yx (by omega)] at V;refine EB c7 V (cM c.gz 1++cM c.bG 1) (by simp [cM,oY]) rfl (by simp only [List.length_append,lQ,List.length_cons,List.length_nil];omega) λb6 k6 c8 o6 _=> ?_;refine MA (Nq (k:=2) rfl (by omega) c8 o6 (by simp only [List.length_append,lQ,List.length_cons,List.length_nil];omega) λb7 k7 d0 W=> ?_);rw [yx (by omega)] at W;refine EB d0 W (cM (c.aQ.len:Int) 1) ye rfl (by simp only [List.length_append,lQ,List.length_cons,List.length_nil];omega) λb8 k8 d1 o8 _=> ?_;refine xV (n:=H.length) (es:=p.procs.map gg) (by omega) d1 o8 (by rw [List.length_map,O]) (by omega) (by simp only [List.length_append,lQ,List.length_cons,List.length_nil];omega) ?_ λY k9 d2 X=> ?_
 ·intro i e d F D m f s A K o;rw [List.getElem?_map] at d;cases hv:p.procs[i]? with
  | none=>rw [hv] at d;cases d
  | some v=>
   rw [hv] at d;cases d;obtain ⟨q,T,c2,y,M,P⟩:=J.get' hv;have L:=(List.getElem?_eq_some_iff.1 T).1;have a8:q.Code.len=y.length:=M.1;have R:y.length=v.code.length:=by rw [<-P,List.length_map]
   have d5:(v.code.map lL).flatten.length=12*v.code.length:=yY _ λ_=>by simp [lL,lQ]
   have d7:(gg v).length=3+(v.code.map lL).flatten.length:=by simp only [gg,sk,List.length_append,lQ,List.flatMap_def];omega
   refine Rs.get (sh:=bC) (Rw.mono f S) (λ_=>rfl) (by omega) (by omega) (by omega) λx b=> ?_;have b:H[i]? =some x:=b;rw [T] at b;cases b;refine EB f s (cM q.Part 1) ye rfl (by rw [lQ];omega) λU I E z _=> ?_;refine MA (Nq (k:=2) rfl (by omega) E z (by simp only [List.length_append,lQ];omega) λl3 h3 a9 C=> ?_);rw [yx (by omega)] at C;refine xV (n:=y.length) (es:=v.code.map lL) (by omega) a9 C (by rw [List.length_map,R]) (by omega) (by simp only [List.length_append,lQ];omega) ?_ λl4 h4 b0 G=> ?_
   ·intro j e t F D m f s A K o;rw [List.getElem?_map] at t;cases r:v.code[j]? with
    | none=>rw [r] at t;cases t
    | some u=>
     rw [r] at t;cases t;rw [<-P,List.getElem?_map] at r;cases B:y[j]? with
     | none=>rw [B] at r;cases r
     | some w=>rw [B] at r;cases r;have d6:=(List.getElem?_eq_some_iff.1 B).1;refine Rs.get (sh:=aM) (Rw.mono f M) (λ_=>rfl) (by omega) (by omega) (by omega) λx b=> ?_;have b:y[j]? =some x:=b;rw [B] at b;cases b;exact zyl (Wu f s (by omega) o)
   ·refine o l4 h4 b0 ?_;have e:gg v=cM q.Part 1++(cM (q.Code.len:Int) 2++(v.code.map lL).flatten):=by rw [c2,a8,R];simp [gg,sk,List.flatMap_def]
    rw [e];simpa [List.append_assoc] using G
 ·refine h1 g Y k9 d2 ?_;rw [b2,c1,a.fuel,a.lane,a.ag,a.log,c0,O] at X;simpa [nI,List.append_assoc,List.flatMap_def] using X
end
section
variable {h k:Hp}
theorem Lt {f:Sl} {a:List UInt8} {Q:Option Addr->Int->Int->Hp->Prop} (m:Bs k f a) (r:f.len<=f.cap) (s:∀c,pa a=.ok c->(hU c).1=0/\∀l∈c.labels,qN l)
  (q:∀e p b,k<=b->pa a=.error (e,p)->e≠0->Q none e (p:Int) b)
  (t:∀c pm pr hb i,pa a=.ok c->k<=hb->gk hb i c ((rT c).list c) pm pr ⟨some pm,0, -1⟩ (.fact True)->Q (some pr) 0 0 i):Df prog f Q k:=by
 unfold Df;refine VA (abX m r (λe p b l g d=> ?_) λx c B C w j o nd fr=> ?_)
 ·rw [if_pos (by simpa using d)];exact q e p b l g d
 rw [if_neg (by decide)];obtain ⟨g,u⟩:=s c j;refine VC (aaz o.rd u (λi _ d=>absurd g d) λpm D _ E st=> ?_);rw [if_neg (by decide)];obtain ⟨n,y,A⟩:=st.pair;refine qJ (sh:=FI) (⟨some pm,0, -1⟩:fG) rfl λp v F z=> ?_;exact t c pm p n v j (Hp.le_trans w y) (gk.BI A z)
def ov :aI:=⟨[0,1],[1,0,1],2,1,0,4,[⟨0,[⟨22,0,0,0,0⟩]⟩,⟨1,[]⟩]⟩
def uO :gN:=(rT ov).list ov
def Ge :gN:=iw ov uO 2
def wV :gN:=mR ov Ge 9
theorem Wv :uO.tick=0:=by kernel_rfl
theorem Ww :wV.procs.length=2:=by kernel_rfl
theorem Zb :wV.tick=2:=by kernel_rfl
theorem Ec :(hU ov).1=0:=by kernel_rfl
theorem aaC :(nI ov).length=51:=by kernel_rfl
theorem Ff :pa (nI ov)=.ok ov:=by kernel_rfl
theorem Wx :(wV.procs[1]?).map (·.state)=some 5:=by kernel_rfl
theorem Zd :(gX ov (bS Ge) 9).2=17:=by kernel_rfl
theorem aby :∀l∈ov.labels,qN l:=λl a=>by simp [ov] at a;omega
theorem Ov {Q:Sl->Bool->Hp->Prop} (i:∀out b,k<=b->Bs b out (nI ov)->out.len<=out.cap->Q out true b):QF prog Q k:=by
 unfold QF;refine ju (enc:=λx:Int=>bg ((af .u64).enc x)) (sz:=1) (xs:=[0,1]) rfl (λ_=>rfl) λa1 t m o=> ?_;refine ju (enc:=λx:Int=>bg ((af .i64).enc x)) (sz:=1) (xs:=[1,0,1]) rfl (λ_=>rfl) λa2 u d p=> ?_;refine ju (enc:=λx=>bg (aM.enc x)) (sz:=5) (xs:=[⟨22,0,0,0,0⟩]) rfl (λ_=>rfl) λa3 v c q=> ?_;refine ju (enc:=λx=>bg (bC.enc x)) (sz:=2) (xs:=[⟨0,⟨some a3,1,1⟩⟩,⟨1,⟨none,0,0⟩⟩]) rfl (λ_=>rfl) λa4 j a r=> ?_;have s:=Rw.mono a (q.jE λ_=>rfl);have f:gL j ⟨⟨some a1,2,2⟩,⟨some a2,3,3⟩,2,1,0,4,⟨some a4,2,2⟩⟩ ov:=
  ⟨Rw.mono (Hp.le_trans d (Hp.le_trans c a)) (o.jE λ_=>rfl),Rw.mono (Hp.le_trans c a) (p.jE λ_=>rfl),rfl,rfl,rfl,rfl,_,r.jE λ_=>rfl,⟨rfl,_,s,rfl⟩,⟨rfl,[],Rw.nil rfl,rfl⟩,trivial⟩
 refine zst (Ou f (λ_=>by rw [aaC];decide) (λg=>absurd Ec g) λ_ out l n e=> ?_);exact i ⟨out.base,out.len,out.cap⟩ l (Hp.le_trans m (Hp.le_trans d (Hp.le_trans c (Hp.le_trans a n)))) (e.rw λ_=>rfl) e.2.1
theorem Lu {P:Program} {x y:Operand} {e n o:Int} (b:P=prog):jL P (cX .eql 43 x y (.agg #[.int .i64 e,.int .i64 n,.int .i64 o]) (.agg #[.int .i64 e,.int .i64 n,.int .i64 o])) h (.bool true):=by
 subst b;have key:=Mf (P:=prog) (x:=x) (y:=y) (h:=h) (xs:= #[.int .i64 e,.int .i64 n,.int .i64 o]) (ys:= #[.int .i64 e,.int .i64 n,.int .i64 o])
  [(⟨ "E",36,0,false, "", "",0⟩,.i64,e,e),(⟨ "Tick",2,1,false, "", "",8⟩,.i64,n,n),(⟨ "Owner",3,2,false, "", "",16⟩,.i64,o,o)]
  (an.aN 43 BX rfl) (by kernel_rfl) (by kernel_rfl) λq a=>by
   simp only [List.mem_cons,List.not_mem_nil,or_false] at a;rcases a with rfl | rfl | rfl
   ·exact ⟨by simp,an.aN 36 BW rfl,rfl,rfl⟩
   ·exact ⟨by simp,an.aN 2 wj rfl,rfl,rfl⟩
   ·exact ⟨by simp,an.aN 3 Fs rfl,rfl,rfl⟩
 simp only [List.all_cons,List.all_nil,beq_self_eq_true,Bool.and_true] at key;exact key
theorem Tj {Q:Bool->Hp->Prop} (X:∀r,k<=r->Q true r):R2 prog Q k:=by
 unfold R2;have f:=yV Ec;refine zsa (Ov λout k1 l1 hb U=> ?_);refine Jc (Lt hb U (λc d=> ?_) (λe p r _ d _=> ?_) λc pm pr E k2 d l2 q=> ?_)
 ·rw [Ff] at d;cases d;exact ⟨Ec,aby⟩
 ·rw [Ff] at d;cases d
 rw [Ff] at d;cases d;refine aU (aU (aU ?_));rw [if_neg (by simp)];have o:GT ov uO:=(I3 f).1;have n:=Wv;have q:gk E k2 ov uO pm pr ⟨some pm,0, -1⟩ (.fact True):=q;obtain ⟨M,B⟩:∃t,t=uO:=⟨_,rfl⟩;rw [<-B] at o n q;obtain ⟨D,N⟩:=yE f o (by omega) 2 (by omega);obtain ⟨t2,l⟩:∃t,t=iw ov M 2:=⟨_,rfl⟩;rw [<-l] at D N;obtain ⟨g,z⟩:∃g:Int,g=(jk ov (M.tick+(2-1)):Int):=⟨_,rfl⟩;have W:g=0:=by rw [z,n];kernel_rfl
 refine Nb (s:=⟨1,2,0⟩) (Ls (x:=⟨some pm,0, -1⟩) q f o rfl n (show (0:Int)<=0/\(0:Int)<=65536 by omega) rfl (show (1:Int)<=2 by omega) (show (2:Int)<=65536-0 by omega) λa k3 b m=> ?_);have b:a=⟨0,2,g⟩:=by rw [z];exact b
 have m:gk E k3 ov t2 pm pr ⟨some pm,2,g⟩ (.fact True):=by rw [z,l];exact m
 rw [W] at m b;subst b;obtain ⟨t3,J⟩:∃t,t=mR ov t2 9:=⟨_,rfl⟩;obtain ⟨O,F⟩:∃e:Int,e=(gX ov (bS t2) 9).2:=⟨_,rfl⟩;refine Nb (s:=⟨3,9,0⟩) (Ky (x:=⟨some pm,2,0⟩) m f D rfl (by omega) (show (3:Int)≠1 by omega) λa e i k4 b L S e4 V=> ?_);obtain ⟨A,v⟩:=V rfl;have v:e=O:=by rw [F];exact v
 have A:i=t3:=by rw [J];exact A
 subst v A;have T:e=17:=by rw [F,l,B];exact Zd
 have u:i=wV:=by rw [J,l,B];rfl
 subst T b;refine R0 ?_;unfold HA;obtain ⟨hr,lr,o1,_⟩:=L.run;refine aD (o1.ld (shf:=ah) (some pm) rfl ?_);refine zss (L.state f S λC a8 k5 l5 I q5=> ?_);obtain ⟨qs,H,G⟩:=I.procs;have f1:=G.len;have f2:C.aQ.len=qs.length:=H.1;have f3:i.procs.length=2:=by rw [u];exact Ww
 have P:=I.tick;have R:i.tick=2:=by rw [u];exact Zb
 have K:=q5.le;refine ⟨true,Lu rfl,⟨true,λ_=>Lu rfl,aU (aU (aU ?_))⟩⟩;rw [show (((true&&true)&&(C.gO==2))&&(((C.aQ.len:Nat):Int)==2))=true by
  rw [P,R,f2,f1,f3];rfl]
 refine Rw.Gg (Rw.mono K H) (λ_=>rfl) (by decide) (sh:=af .i64) (λq:bR=>q.State) (j:=0) (λ_=>rfl) (0:Int) (λ_=>by omega) λy hy=> ?_;obtain ⟨w,Z,rfl⟩:=hy rfl;have Y:w.State=5:=by obtain ⟨p,hp,b⟩:=G.get Z;have:=Wx;rw [<-u,show i.procs[1]? =some p from hp] at this;rw [b.state];grind
 refine aU ?_;rw [Y];exact X k5 (Hp.le_trans l1 (Hp.le_trans l2 (Hp.le_trans l5 K)))
end
theorem fQ.known {d h:Hp} {rb:Nat} {bl:Sl} {bs:List UInt8} {r:RS} (a:fQ d h rb bl bs r):h rb≠none:=by obtain ⟨p,e,pl,k,b⟩:=a.fu;exact k.known
structure TB (d h0:Hp) (rb:Nat) (bl:Sl) (bs:List UInt8) (k:Hp) (r:RS) (B:List Nat):Prop where
 kr:h0 rb≠none
 bq:∀b o,h0 b=some o->b≠rb->k b=some o
 rd:fQ d k rb bl bs r
 nd:B.Nodup
 fresh:∀b∈B,h0 b=none
section
variable {d h0 k:Hp} {rb:Nat} {bl:Sl} {bs:List UInt8} {r:RS} {B:List Nat}
theorem TB.nr (s:TB d h0 rb bl bs k r B):rb∉B:=λh=>s.kr (s.fresh rb h)
theorem TB.rj (s:TB d h0 rb bl bs k r B) {b:Nat} (e:k b=none):h0 b=none:=by
 cases h:h0 b with
 | none=>rfl
 | some o=>have a:b≠rb:=λh=>s.rd.known (h▸e);rw [s.bq b o h a] at e;cases e
theorem TB.andThen (s:TB d h0 rb bl bs k r B) (j:∀b∈B,k b≠none) {g:Hp} {h:RS} {c:List Nat} (t:TB d k rb bl bs g h c):TB d h0 rb bl bs g h (B++c) where
 kr:=s.kr
 bq:=λb o e f=>t.bq b o (s.bq b o e f) f
 rd:=t.rd
 nd:=by rw [List.nodup_append];exact ⟨s.nd,t.nd,λa i b hb e=>j a i (by rw [e];exact t.fresh b hb)⟩
 fresh:=λb hb=>by
  rcases List.mem_append.1 hb with hb | hb
  ·exact s.fresh b hb
  ·exact s.rj (t.fresh b hb)
theorem TB.kept (s:TB d h0 rb bl bs k r B) (f:∀b∈B,k b≠none) {a:Hp} {g:RS} {c:List Nat} (t:TB d k rb bl bs a g c):∀b∈B,a b=k b:=λb hb=>by
 cases e:k b with
 | none=>exact absurd e (f b hb)
 | some o=>exact t.bq b o e λh=>s.nr (h▸hb)
theorem TB.step {f:RS} {c:Hp} (i:k rb≠none) (m:Mv [rb] k [rb] c) (a:fQ d c rb bl bs f):TB d k rb bl bs c f []:=
 ⟨i,λb o e g=>m.bq b o e λh=>g (List.mem_singleton.1 h),a,List.nodup_nil,λb hb=>by cases hb⟩
theorem TB.grow (s:TB d h0 rb bl bs k r B) {c:Hp} (a:k<=c):TB d h0 rb bl bs c r B:=
 ⟨s.kr,λb o e h1=>a b o (s.bq b o e h1),s.rd.grow a,s.nd,s.fresh⟩
theorem TB.fin (s:TB d h0 rb bl bs k r B) {k3:Hp} {B3:List Nat} (a:∀b o,k b=some o->b∉B->k3 b=some o) (j:B3.Nodup) (c:∀b∈B3,b∈B\/k b=none) (g:∀b∈B,d b=none):TB d h0 rb bl bs k3 r B3 where
 kr:=s.kr
 bq:=λb o e f=>a b o (s.bq b o e f) λhb=>by rw [s.fresh b hb] at e;cases e
 rd:=by obtain ⟨p,q,t,⟨ty,i⟩,h⟩:=s.rd.fu;exact ⟨λb o e=>a b o (s.rd.le b o e) λhb=>(by rw [g b hb] at e;cases e),s.rd.out,s.rd.src,s.rd.cap,s.rd.small,p,q,t,⟨ty,a rb _ i s.nr⟩,h⟩
 nd:=j
 fresh:=λb hb=>by
  rcases c b hb with hb | hb
  ·exact s.fresh b hb
  ·exact s.rj hb
end
section
variable {d h0 k:Hp} {rb:Nat} {bl:Sl} {bs:List UInt8} {r:RS}
theorem xh {j:Type} {sh:Shape} {sz:Nat} {R:sh.T->j->Hp->List Nat->Prop} {l:Sl} {i:List j} {P M S B':List Nat} (ok:gH R) (C:d<=h0) (s:TB d h0 rb bl bs k r ((P++(M++S))++B')) (o:bu sh sz R l i k M) {v:sh.T} {p:j} (e:R v p k B')
  (u:∀b∈P++S,k b≠none) {y:Sl} (I:Rs k sh sz y [v]) (D:∀x,(bg (sh.enc x)).length=sz) (G:∀x,hH (bg (sh.enc x))=true) {zero:List Value} {bytes:Nat} (J:zero.length=sz)
  (hb:i.length+1<=140737488355328/\(i.length+1)*bytes<=140737488355328) {K:Sl->Hp->Prop}
  (E:∀g c f,TB d h0 rb bl bs c r (P++(f++S))->bu sh sz R g (i++ [p]) c f->(∀b∈P++S,c b=k b)->K g c):eS sz bytes zero l y K k:=by
 have nd:=List.nodup_append.1 s.nd;have z:=List.nodup_append.1 nd.1;have w:=List.nodup_append.1 z.2.1;have A:∀b∈P++S,b∉M:=λb hb q=>by
  rcases List.mem_append.1 hb with hb | hb
  ·exact z.2.2 b hb b (cN q) rfl
  ·exact w.2.2 b q b hb rfl
 have n:∀b∈B',b∉P++(M++S):=λb hb h=>nd.2.2 b h b hb rfl;refine tB ok o e (by
  rw [List.nodup_append];exact ⟨w.1,nd.2.1,λa B b hb e=>n b hb (e▸cq (cN B))⟩) I D G J hb λg c f N L t m=> ?_
 have H:∀b∈P++S,c b=k b:=λb hb=>by
  cases e:k b with
  | none=>exact absurd e (u b hb)
  | some o=>exact t b o e (A b hb)
 refine E g c f (s.fin (λb o e F=>t b o e λh=>F (cN (cq (cN h)))) (Mo nd.1 L m u λb hb h=>n b hb ?_) (λb hb=> ?_) (λb hb=>pH C (s.fresh b hb))) N H
 ·rcases List.mem_append.1 h with h | h
  ·exact cN h
  ·exact cq (cq h)
 ·rcases List.mem_append.1 hb with hb | hb
  ·exact .inl (cN (cN hb))
  ·rcases List.mem_append.1 hb with hb | hb
   ·rcases m b hb with hb | hb
    ·rcases List.mem_append.1 hb with hb | hb
     ·exact .inl (cN (cq (cN hb)))
     ·exact .inl (cq hb)
    ·exact .inr hb
   ·exact .inl (cN (cq (cq hb)))
end
section
variable {d h:Hp} {rb:Nat} {bl:Sl} {bs:List UInt8} {r:RS}
theorem TB.next {e k:Hp} {B:List Nat} (s:TB d e rb bl bs k r B) (f:∀b∈B,k b≠none) {c:Hp} {r1:RS} (m:Mv [rb] k [rb] c) (a:fQ d c rb bl bs r1):TB d e rb bl bs c r1 B/\∀b∈B,c b=k b:=by have t:TB d k rb bl bs c r1 []:=TB.step s.rd.known m a;have s2:=s.andThen f t;rw [List.append_nil] at s2;exact ⟨s2,s.kept f t⟩
end
section
variable {d h:Hp} {rb:Nat} {bl:Sl} {bs:List UInt8} {r:RS}
theorem fQ.of (a:fQ d h rb bl bs r) {b:Hp} {r1:RS} (m:Mv [rb] h [rb] b) {p e f:Int} (k:eI b rb (nD bl p e f)) (i:FW r1 bs.length p e f):fQ d b rb bl bs r1:=
 ⟨(m.le a.le λc g=>by rw [List.mem_singleton.1 g];exact a.out).1,a.out,a.src,a.cap,a.small,p,e,f,k,i⟩
theorem vN {P:Program} {at_ e j g i:Int} (k:eI h rb (nD bl at_ e j)) {Q:Hp->Prop}
  (c:∀f,Mv [rb] h [rb] f->eI f rb (nD bl at_ (if e=0 then g else e) (if e=0 then i else j))->Q f):My P (some ⟨rb,0,none⟩) g i Q h:=by
 unfold My;refine aD (bt (sh:=af .i64) e (k.bI (off:=2) (n:=1) rfl) ?_);by_cases a:e=0
 ·rw [if_pos (by simpa using a)];rw [if_pos a,if_pos a] at c;refine aD (qE (b:=rb) (off:=2) k (by simp [nD]) λs p m=>aD (qE (b:=rb) (off:=3) m (by simp [nD]) λl q o=>c l (p.trans q) (by simpa [nD] using o)))
 ·rw [if_neg (by simpa using a)];rw [if_neg a,if_neg a] at c;exact c h (Mv.refl _ _) k
theorem Ed {k:Nat} {Q:Int->Hp->Prop} (a:fQ d h rb bl bs r) (S:1<=k) (T:k<=8)
  (l:∀(n:Nat) t c,n<256^k->Mv [rb] h [rb] c->fQ d c rb bl bs t->Cn bs r (D.num k) t n->((∃e,t=.error e)->n=0)->Q (n:Int) c):PM prog (some ⟨rb,0,none⟩) (k:Int) Q h:=by
 unfold PM;obtain ⟨p,e,P,f,o⟩:=a.fu;have M:bl.len=bs.length:=a.src.1;have U:=a.small;have z:0<256^k:=Nat.pow_pos (by omega);refine aD (bt (sh:=af .i64) e (f.bI (off:=2) (n:=1) rfl) ?_);cases r with
 | error y=>obtain ⟨R,q⟩:=y;rw [if_pos (by rw [bne_iff_ne,o.1];exact o.2.1)];exact l 0 _ h z (Mv.refl _ _) a Cn.stay λ_=>rfl
 | ok n=>
  obtain ⟨rfl,rfl,N⟩:=o;have N:n<=bs.length:=by omega
  rw [if_neg (by simp)];refine aD (bt (sh:=av) bl (f.bI (off:=0) (n:=1) rfl) (aD (bt (sh:=af .i64) (n:Int) (f.bI (off:=1) (n:=1) rfl) ?_)));rw [wrap64 (by omega) (by omega)];by_cases A:bs.length<n+k
  ·have j:((bl.len:Nat):Int)-(n:Int)<(k:Int):=by omega
   rw [if_pos (decide_eq_true j)];refine aD (bt (sh:=av) bl (f.bI (off:=0) (n:=1) rfl) (xm (vN f λc m E=> ?_)));rw [if_pos rfl,if_pos rfl] at E;refine l 0 (.error (5,bs.length)) c z m (a.of m E ⟨rfl,by decide,by rw [M]⟩) (Cn.err ?_) λ_=>rfl;unfold D.num;rw [if_pos A]
  ·have j:¬((bl.len:Nat):Int)-(n:Int)<(k:Int):=by omega
   rw [if_neg (λe=>j (of_decide_eq_true e))];have w:((bs.drop n).take k).length=k:=by rw [List.length_take,List.length_drop];omega
   have hv:=qz ((bs.drop n).take k);rw [w] at hv;refine forA (n:=k) rfl (by omega) (λi (v:Int) c=>c=h/\v=(eN (((bs.drop n).take k).take i):Int)) ⟨rfl,rfl⟩ ?_ ?_
   ·rintro i J v c ⟨rfl,rfl⟩ K H;refine aD (bt (sh:=av) bl (f.bI (off:=0) (n:=1) rfl) (aD (bt (sh:=af .i64) (n:Int) (f.bI (off:=1) (n:=1) rfl) ?_)));rw [wrap64 (n:=(n:Int)+(i:Int)) (by omega) (by omega)];obtain ⟨G,x,s,L⟩:=Rw.read (Rw.mono a.le a.src) rP (by omega) (i:=(n:Int)+(i:Int)) (by omega) (by omega);have s:bs[n+i]? =some x:=by rw [<-s];congr 1
    refine ⟨G,(x.toNat:Int),L,?_⟩;rw [wrap64 (n:=(8:Int)*(i:Int)) (by omega) (by omega)];refine ⟨by omega,?_⟩;have O:((bs.drop n).take k)[i]? =some x:=by rw [List.getElem?_take,if_pos J,List.getElem?_drop];exact s
    have C:=qz (((bs.drop n).take k).take i);have B:(((bs.drop n).take k).take i).length=i:=by rw [List.length_take,w];omega
    rw [B] at C;rw [CK C (by omega) x.toNat_lt];refine H _ _ ⟨rfl,?_⟩;rw [List.take_add_one,O];show _=((eN (((bs.drop n).take k).take i++ [x]):Nat):Int);rw [Ey,B]
   ·rintro v c ⟨rfl,rfl⟩;rw [List.take_of_length_le (by omega)];refine aD (bt (sh:=af .i64) (n:Int) (f.bI (off:=1) (n:=1) rfl) (aD (qE (b:=rb) (off:=1) f (by simp [nD]) λu F g=> ?_)));rw [wrap64 (by omega) (by omega)] at g;have g:eI u rb (nD bl ((n:Int)+(k:Int)) 0 P):=by simpa [nD] using g
    refine l _ (.ok (n+k)) u hv F (a.of F g ⟨by push_cast;rfl,rfl,by omega⟩) (Cn.ok ?_) (by rintro ⟨e,I⟩;cases I);unfold D.num;rw [if_neg A]
theorem LC {P:Program} {l:Type} {m:Hp} {k:RS} {g:D l} {W:l->Int} {n:l} {e p:Int} (a1:fQ d m rb bl bs k) (A:Cn bs r g k n) (hp:∀a,r=.ok a->p=(a:Int)) (z:W n=e) (x:e≠0) {Q:Hp->Prop}
  (o:∀r2 c,Mv [rb] m [rb] c->fQ d c rb bl bs r2->Cn bs r (D.bV g W) r2 n->(∃y,r2=.error y)->Q c):My P (some ⟨rb,0,none⟩) e p Q m:=by
 subst z;obtain ⟨E,v,F,B,s⟩:=a1.fu;refine vN B λc j i=> ?_;have b:=A.done;cases r with
 | error y=>
  cases k with
  | ok u=>cases b
  | error t=>have b:(Except.error y:Except (Int×Nat) (l×Nat))=.error t:=b;cases b;obtain ⟨w,q⟩:=y;obtain ⟨rfl,f,rfl⟩:=s;rw [if_neg f,if_neg f] at i;exact o (.error (v,q)) c j (a1.of j i ⟨rfl,f,rfl⟩) Cn.stay ⟨_,rfl⟩
 | ok at_=>
  have hp:=hp at_ rfl;subst hp;cases k with
  | ok u=>obtain ⟨rfl,rfl,C⟩:=s;have b:g bs at_=.ok (n,u):=b;rw [if_pos rfl,if_pos rfl] at i;refine o (.error (W n,at_)) c j (a1.of j i ⟨rfl,x,rfl⟩) (Cn.err ?_) ⟨_,rfl⟩;unfold D.bV;rw [b];dsimp only;rw [if_neg x]
  | error t=>obtain ⟨w,q⟩:=t;have b:g bs at_=.error (w,q):=b;obtain ⟨rfl,f,rfl⟩:=s;rw [if_neg f,if_neg f] at i;refine o (.error (v,q)) c j (a1.of j i ⟨rfl,f,rfl⟩) (Cn.err ?_) ⟨_,rfl⟩;unfold D.bV;rw [b]
def ij (a dR low high:Int) (n:Int):Int:=if n<a then low else if dR<n then high else 0
theorem yf {b:Type} {g:D b} {W:b->Int} {c:RS} {n m:b} {y:Int×Nat} (e:Cn bs r g c n) (f:c=.error y):Cn bs r (D.bV g W) c m:=by
 subst f;have a:=e.done;cases r with
 | error i=>have a:(Except.error i:Except (Int×Nat) (b×Nat))=.error y:=a;cases a;exact Cn.stay
 | ok at_=>have a:g bs at_=.error y:=a;refine Cn.err ?_;unfold D.bV;rw [a]
theorem wH {k:Nat} {least dR low high:Int} {Q:Int->Hp->Prop} (a:fQ d h rb bl bs r) (A:1<=k) (B:k<=4) (C:low≠0) (z:high≠0) (J:least<=dR)
  (m:∀(n:Nat) j s,n<256^k->Mv [rb] h [rb] s->fQ d s rb bl bs j->Cn bs r (D.bV (zD k) (ij least dR low high)) j (n:Int)->Q (n:Int) s):Qi prog (some ⟨rb,0,none⟩) (k:Int) least dR low high Q h:=by
 unfold Qi;have K:256^k<=4294967296:=Nat.pow_le_pow_right (by omega:256>0) B;obtain ⟨p,e,N,F,E⟩:=a.fu;have hp:∀q,r=.ok q->p=(q:Int):=λq e=>by subst e;exact E.1
 refine aD (bt (sh:=af .i64) p (F.bI (off:=1) (n:=1) rfl) ?_);refine Ph (Ed (k:=k) a A (by omega) λn j v t o a1 c L=> ?_);obtain ⟨M,x,O,G,u⟩:=a1.fu;have c:Cn bs r (zD k) j (n:Int):=c.map;refine aD (bt (sh:=af .i64) x (G.bI (off:=2) (n:=1) rfl) ?_);cases j with
 | error y=>rw [if_pos (by rw [bne_iff_ne,u.1];exact u.2.1)];exact m 0 _ v (Nat.pow_pos (by omega)) o a1 (yf c rfl)
 | ok H=>
  obtain ⟨rfl,rfl,I⟩:=u;rw [if_neg (by simp),wrap64 (by omega) (by omega)];by_cases f:(n:Int)<least
  ·refine bF.intro (λb=>∃r2,Mv [rb] h [rb] b/\fQ d b rb bl bs r2/\Cn bs r (D.bV (zD k) (ij least dR low high)) r2 (n:Int)) ?_ ?_
   ·rw [if_pos (decide_eq_true f)];exact xm (LC a1 c hp (W:=ij least dR low high) (by unfold ij;rw [if_pos f]) C λr2 w i a2 g _=>⟨r2,o.trans i,a2,g⟩)
   ·rintro b ⟨r2,i,a2,g⟩;rw [if_neg (λe=>by have:=of_decide_eq_true e;omega)];exact m n r2 b t i a2 g
  ·refine bF.intro (λb=>b=v) ?_ ?_
   ·rw [if_neg (λe=>f (of_decide_eq_true e))]
   ·rintro b rfl;by_cases l:dR<(n:Int)
    ·rw [if_pos (decide_eq_true l)];exact xm (LC a1 c hp (W:=ij least dR low high) (by unfold ij;rw [if_neg f,if_pos l]) z λr2 w i a2 g _=>m n r2 w t (o.trans i) a2 g)
    ·rw [if_neg (λe=>l (of_decide_eq_true e))];exact m n _ b t o a1 (Ez c (by unfold ij;rw [if_neg f,if_neg l]))
end
section
variable {d h:Hp} {rb:Nat} {bl:Sl} {bs:List UInt8} {r:RS}
theorem Hu {a:Type} {g:List a->D a} {c b:RS} {N i:Nat} {j:List a} (l:∀(k:Type) (f:List a->D k),dD c (D.bind (D.many g N []) f) bs=dD b (D.bind (D.many g (N-i) j) f) bs) (m:i=N\/∃e,b=.error e):Cn bs c (D.many g N []) b j:=λk f=>by
 rw [l];rcases m with rfl | ⟨e,rfl⟩
 ·rw [Nat.sub_self];rfl
 ·rfl
theorem u9 {k j:Type} {g:List k->D k} {len:Int} {N:Nat} (Y:len=(N:Int)) (V:N<=1000000) (I:j->List k->RS->Hp->Prop) (R:∀s b r h,I s b r h->fQ d h rb bl bs r)
  {B:(Int->j->Hp->Prop)->Int->j->Hp->Prop} {X:Int->j->Hp->Prop} {H:j} {A:Hp} {m:RS} (O:I H [] m A)
  (S:∀(i:Nat) s b at_ h,b.length=i->i<N->I s b (.ok at_) h->∀K:Int->j->Hp->Prop,(∀z v l o,I z (b++ [v]) l o->Cn bs (.ok at_) (g b) l v->K (yw ((i:Int)+1)) z o)->B K (i:Int) s h)
  (T:∀(i:Int) s b r h,I s b r h->b.length<=N->Cn bs m (D.many g N []) r b->X i s h):
  bD (λL i s h=>ai (some (decide (i<len))) (some ⟨rb,0,none⟩) λp=>aP (some (decide (i<len))) (af .i64) h (Addr.add p 2) λx=>
   aJ ((decide (i<len))&&(x==(0:Int))) λy=>if y=true then B L i s h else X i s h) (0:Int) H A:=by
 refine bD.intro (λt s h=>∃(i:Nat) (b:List k) (c:RS),t=(i:Int)/\i<=N/\b.length=i/\I s b c h/\∀(J:Type) (f:List k->D J),dD m (D.bind (D.many g N []) f) bs=dD c (D.bind (D.many g (N-i) b) f) bs)
  (λt _ _=>((N:Int)-t).toNat) ⟨0,[],m,rfl,by omega,rfl,O,λ_ _=>rfl⟩ ?_
 rintro t s h ⟨i,b,c,rfl,W,G,q,C⟩;obtain ⟨p,e,Z,U,w⟩:=(R s b c h q).fu;refine aD (su (sh:=af .i64) e (U.bI (off:=2) (n:=1) rfl) (aU ?_));by_cases E:i<N/\∃at_,c=.ok at_
 ·obtain ⟨u,at_,rfl⟩:=E;rw [if_pos (by rw [w.2.1];simp;omega)];refine S i s b at_ h G u q _ λz v l o P Q=> ?_;rw [wrap64 (by omega) (by omega)];refine ⟨⟨i+1,b++ [v],l,by omega,by omega,by simp [G],P,λJ f=> ?_⟩,by omega⟩;have M:N-i=(N-(i+1))+1:=by omega
  rw [C,M,EC,tI,Q]
 ·have F:i=N\/∃e,c=.error e:=by
   by_cases u:i<N
   ·cases c with
    | ok a=>exact absurd ⟨u,a,rfl⟩ E
    | error e=>exact .inr ⟨e,rfl⟩
   ·exact .inl (by omega)
  rw [if_neg (by
   rcases F with rfl | ⟨y,rfl⟩
   ·simp;omega
   ·have:=w.2.1;rw [<-w.1] at this;simp [this])]
  exact T _ s b c h q (by omega) (Hu C F)
theorem Gv {o m:Type} {g:List o->D o} {len:Int} {N:Nat} (hn:len=(N:Int)) (Y:N<=1000000) (I:m->List o->RS->Hp->Prop) (U:∀s b r h,I s b r h->fQ d h rb bl bs r)
  {B:(m->Int->Hp->Prop)->m->Int->Hp->Prop} {X:m->Int->Hp->Prop} {Q:m} {J:Hp} {q:RS} (S:I Q [] q J)
  (V:∀(i:Nat) s b at_ h,b.length=i->i<N->I s b (.ok at_) h->∀K:m->Int->Hp->Prop,(∀l v c j,I l (b++ [v]) c j->Cn bs (.ok at_) (g b) c v->K l (yw ((i:Int)+1)) j)->
   (∀l v c j G,(∃e,c=.error e)->I l b c j->Cn bs (.ok at_) (g b) c v->X l G j)->B K s (i:Int) h)
  (O:∀(i:Int) s b r h,I s b r h->b.length<=N->Cn bs q (D.many g N []) r b->X s i h):
  bD (λR s i h=>ai (some (decide (i<len))) (some ⟨rb,0,none⟩) λp=>aP (some (decide (i<len))) (af .i64) h (Addr.add p 2) λx=>
   aJ ((decide (i<len))&&(x==(0:Int))) λy=>if y=true then B R s i h else X s i h) Q (0:Int) J:=by
 refine bD.intro (λs t h=>∃(i:Nat) (b:List o) (k:RS),t=(i:Int)/\i<=N/\b.length=i/\I s b k h/\∀(H:Type) (f:List o->D H),dD q (D.bind (D.many g N []) f) bs=dD k (D.bind (D.many g (N-i) b) f) bs)
  (λ_ t _=>((N:Int)-t).toNat) ⟨0,[],q,rfl,by omega,rfl,S,λ_ _=>rfl⟩ ?_
 rintro s t h ⟨i,b,k,rfl,Z,P,w,C⟩;obtain ⟨p,e,pl,W,F⟩:=(U s b k h w).fu;refine aD (su (sh:=af .i64) e (W.bI (off:=2) (n:=1) rfl) (aU ?_));by_cases L:i<N/\∃at_,k=.ok at_
 ·obtain ⟨E,at_,rfl⟩:=L;rw [if_pos (by rw [F.2.1];simp;omega)];refine V i s b at_ h P E w _ (λl v c j z A=> ?_) λl v c j G T z A=> ?_
  ·rw [wrap64 (by omega) (by omega)];refine ⟨⟨i+1,b++ [v],c,by omega,by omega,by simp [P],z,λH f=> ?_⟩,by omega⟩;have u:N-i=(N-(i+1))+1:=by omega
   rw [C,u,EC,tI,A]
  ·obtain ⟨e,rfl⟩:=T;refine O G l b _ j z (by omega) λH f=> ?_;have u:N-i=(N-(i+1))+1:=by omega
   rw [C,u,EC,tI,A];rfl
 ·have M:i=N\/∃e,k=.error e:=by
   by_cases E:i<N
   ·cases k with
    | ok a=>exact absurd ⟨E,a,rfl⟩ L
    | error e=>exact .inr ⟨e,rfl⟩
   ·exact .inl (by omega)
  rw [if_neg (by
   rcases M with rfl | ⟨y,rfl⟩
   ·simp;omega
   ·have:=F.2.1;rw [<-F.1] at this;simp [this])]
  exact O _ s b k h w (by omega) (Hu C M)
theorem Wz {cs:List UInt8} {Q:Hp->Prop} (a:fQ d h rb bl bs r) (U:cs.length<=1000) (J:∀g o,Mv [rb] h [rb] o->fQ d o rb bl bs g->Cn bs r (jr cs) g ()->Q o):Qd prog (some ⟨rb,0,none⟩) ⟨cs.toArray⟩ Q h:=by
 unfold Qd;have N:((ByteArray.size ⟨cs.toArray⟩:Nat):Int)=(cs.length:Int):=rfl;rw [N];refine q8 (n:=cs.length) rfl (by omega) (λi k=>∃g,Mv [rb] h [rb] k/\fQ d k rb bl bs g/\∀(A:Type) (f:Unit->D A),dD r (D.bind (jr cs) f) bs=dD g (D.bind (jr (cs.drop i)) f) bs) ⟨r,Mv.refl _ _,a,λ_ _=>by rw [List.drop_zero]⟩ ?_ ?_
 ·rintro i E k ⟨g,x,a1,t⟩ K H;have B:=List.getElem?_eq_getElem E;have C:cs.drop i=cs[i]::cs.drop (i+1):=List.drop_eq_getElem_cons E;generalize cs[i]=c at B C;obtain ⟨p,e,pl,P,L⟩:=a1.fu;have hp:∀m,g=.ok m->p=(m:Int):=λm e=>by subst e;exact L.1
  have M:∀j b,Mv [rb] k [rb] b->fQ d b rb bl bs j->(∃n,Cn bs g (D.bV (D.num 1) λn=>if n=c.toNat then 0 else 4) j n)->K (yw ((i:Int)+1)) b:=λj b l a3 ⟨n,q⟩=>by refine H b ⟨j,x.trans l,a3,λA f=> ?_⟩;rw [t,C,jr,tI,q]
  refine bF.intro (λb=>∃j,Mv [rb] k [rb] b/\fQ d b rb bl bs j/\∃n,Cn bs g (D.bV (D.num 1) λn=>if n=c.toNat then 0 else 4) j n) ?_ ?_
  ·refine aD (bt (sh:=af .i64) p (P.bI (off:=1) (n:=1) rfl) ?_);refine Ph (Ed (k:=1) a1 (by omega) (by omega) λn r2 Y V z a2 s X=> ?_);obtain ⟨Z,G,a8,R,w⟩:=a2.fu;refine aD (bt (sh:=af .i64) G (R.bI (off:=2) (n:=1) rfl) ⟨λ_=>⟨by omega,by omega⟩,aU ?_⟩);have u:(List.getD cs (Int.toNat (i:Int)) 0)=c:=by rw [show Int.toNat (i:Int)=i from rfl,List.getD_eq_getElem?_getD,B];rfl
   have u:(List.getD (⟨cs.toArray⟩:ByteArray).data.toList (Int.toNat (i:Int)) 0)=c:=u;rw [u];have T:=c.toNat_lt;have O:IntKind.wrap .u64 ((c.toNat:Nat):Int)=((c.toNat:Nat):Int):=oZ ⟨by omega,by omega⟩;rw [O];cases r2 with
   | error y=>have F:=w.2.1;rw [<-w.1] at F;rw [if_neg (by simp [F])];exact ⟨_,z,a2,0,yf s rfl⟩
   | ok S=>
    rw [w.2.1];by_cases v:n=c.toNat
    ·rw [if_neg (by simp [v])];exact ⟨_,z,a2,n,Ez s (by simp [v])⟩
    ·rw [if_pos (by simp;omega)];exact xm (LC a2 s hp (W:=λn=>if n=c.toNat then 0 else 4) (by simp [v]) (by decide) λj b l a3 I _=>⟨j,z.trans l,a3,n,I⟩)
  ·rintro b ⟨j,l,a3,q⟩;exact M j b l a3 q
 ·rintro k ⟨g,x,a1,t⟩;refine J g k x a1 λA f=> ?_;rw [t,List.drop_length];rfl
theorem Zf {y:Sl} {l:List UInt8} {x:cp} {I:Nat} (hb:Bs h y l) (a8:12<=l.length) (t:qR l 0=.ok (x,I)) {Q:aL->Hp->Prop} (U:∀v,ba v=x->Q v h):TZ prog y Q h:=by
 unfold TZ;have a9:y.len=l.length:=hb.1;have g:∀(i:Nat) (K:Int->Prop),i<12->(∀b:UInt8,l[i]? =some b->K (b.toNat:Int))->(bJ y.base y.len (i:Int)/\aP none (af .u8) h (sat y.base 1 (i:Int)) K):=λi K s R=>by obtain ⟨J,b,q,S⟩:=Rw.read hb rP (by omega) (i:=(i:Int)) (by omega) (by omega);exact ⟨J,(b.toNat:Int),S,R b q⟩
 have j:∀i,i<12->l[i]? =some (l.getD i 0):=λi s=>by rw [List.getD_eq_getElem?_getD,List.getElem?_eq_getElem (by omega)];rfl
 have w:((l.drop 4).take 8).length=8:=by rw [List.length_take,List.length_drop];omega
 have V:=qz ((l.drop 4).take 8);rw [w] at V;have W:x=⟨((l.getD 0 0).toNat:Int),((l.getD 1 0).toNat:Int),((l.getD 2 0).toNat:Int),((l.getD 3 0).toNat:Int),i64 (eN ((l.drop 4).take 8))⟩:=by
  have T:∀(at_:Nat),at_<12->D.num 1 l at_=.ok ((l.getD at_ 0).toNat,at_+1):=λat_ u=>by
   unfold D.num;rw [if_neg (by omega)];have:(l.drop at_).take 1=[l.getD at_ 0]:=by
    have z:at_<l.length:=by omega
    rw [List.drop_eq_getElem_cons z,List.getD_eq_getElem?_getD,List.getElem?_eq_getElem z];rfl
   rw [this];simp [eN]
  have N:D.num 8 l 4=.ok (eN ((l.drop 4).take 8),12):=by unfold D.num;rw [if_neg (by omega)]
  have k:∀at_,at_<12->zD 1 l at_=.ok (((l.getD at_ 0).toNat:Int),at_+1):=λat_ u=>by unfold zD D.map D.bind;rw [T at_ u];rfl
  have O:D.map i64 (D.num 8) l 4=.ok (i64 (eN ((l.drop 4).take 8)),12):=by unfold D.map D.bind;rw [N];rfl
  unfold qR at t;have c:∀ {o H:Type} {d:D o} {f:o->D H} {b:List UInt8} {a a2:Nat} {v:o},d b a=.ok (v,a2)->D.bind d f b a=f v b a2:=λ{o H d f b a a2 v} e=>by unfold D.bind;rw [e]
  rw [c (k 0 (by omega)),c (k 1 (by omega)),c (k 2 (by omega)),c (k 3 (by omega)),c O] at t;have M:=Except.ok.inj t;exact (congrArg Prod.fst M).symm
 refine forA (n:=8) rfl (by omega) (λi (v:Int) p=>p=h/\v=(eN (((l.drop 4).take 8).take i):Int)) ⟨rfl,rfl⟩ ?_ ?_
 ·rintro i s v p ⟨rfl,rfl⟩ K P;rw [wrap64 (n:=(4:Int)+(i:Int)) (by omega) (by omega),show (4:Int)+(i:Int)=((4+i:Nat):Int) by omega];refine g (4+i) _ (by omega) λb q=> ?_;rw [wrap64 (n:=(8:Int)*(i:Int)) (by omega) (by omega)];refine ⟨by omega,?_⟩;have X:((l.drop 4).take 8)[i]? =some b:=by rw [List.getElem?_take,if_pos s,List.getElem?_drop];exact q
  have B:=qz (((l.drop 4).take 8).take i);have A:(((l.drop 4).take 8).take i).length=i:=by rw [List.length_take,w];omega
  rw [A] at B;rw [CK B (by omega) b.toNat_lt];refine P _ _ ⟨rfl,?_⟩;have L:((l.drop 4).take 8).take (i+1)=((l.drop 4).take 8).take i++((l.drop 4).take 8)[i]?.toList:=List.take_add_one;rw [L,X];show _=((eN (((l.drop 4).take 8).take i++ [b]):Nat):Int);rw [Ey,A]
 ·rintro v p ⟨rfl,rfl⟩;rw [List.take_of_length_le (by omega),I1 (by omega)];refine g 0 _ (by omega) λY C=>g 1 _ (by omega) λc E=>g 2 _ (by omega) λZ F=>g 3 _ (by omega) λb3 G=>U _ ?_;have m:∀b:UInt8,yw ((b.toNat:Nat):Int)=(b.toNat:Int):=λb=>by have:=b.toNat_lt;exact wrap64 (by omega) (by omega)
  rw [m,m,m,m,W];rw [j 0 (by omega)] at C;rw [j 1 (by omega)] at E;rw [j 2 (by omega)] at F;rw [j 3 (by omega)] at G;cases C;cases E;cases F;cases G;rfl
end
theorem Kc {l:List UInt8} {a:Nat} (h:a+12<=l.length):qR l a=.ok (⟨((l.getD a 0).toNat:Int),((l.getD (a+1) 0).toNat:Int),((l.getD (a+1+1) 0).toNat:Int),((l.getD (a+1+1+1) 0).toNat:Int),i64 (eN ((l.drop (a+1+1+1+1)).take 8))⟩,a+12):=by
 have o:∀at_:Nat,at_<l.length->D.num 1 l at_=.ok ((l.getD at_ 0).toNat,at_+1):=λat_ g=>by
  unfold D.num;rw [if_neg (by omega)];have:(l.drop at_).take 1=[l.getD at_ 0]:=by rw [List.drop_eq_getElem_cons g,List.getD_eq_getElem?_getD,List.getElem?_eq_getElem g];rfl
  rw [this];simp [eN]
 have i:∀at_:Nat,at_<l.length->zD 1 l at_=.ok (((l.getD at_ 0).toNat:Int),at_+1):=λat_ g=>by unfold zD D.map D.bind;rw [o at_ g];rfl
 have m:D.map i64 (D.num 8) l (a+1+1+1+1)=.ok (i64 (eN ((l.drop (a+1+1+1+1)).take 8)),a+12):=by
  have n:D.num 8 l (a+1+1+1+1)=.ok (eN ((l.drop (a+1+1+1+1)).take 8),a+12):=by unfold D.num;rw [if_neg (by omega)]
  unfold D.map D.bind;rw [n];rfl
 have c:∀ {j k:Type} {d:D j} {f:j->D k} {b:List UInt8} {a a2:Nat} {v:j},d b a=.ok (v,a2)->D.bind d f b a=f v b a2:=λ{j k d f b a a2 v} e=>by unfold D.bind;rw [e]
 unfold qR;rw [c (i a (by omega)),c (i (a+1) (by omega)),c (i (a+1+1) (by omega)),c (i (a+1+1+1) (by omega)),c m];rfl
theorem Zh {l:List UInt8} {a:Nat} (h:a+12<=l.length):∃x,qR l a=.ok (x,a+12)/\qR (l.drop a) 0=.ok (x,0+12):=by
 refine ⟨_,Kc h,?_⟩;rw [Kc (l:=l.drop a) (a:=0) (by rw [List.length_drop];omega)];have b:∀i,(l.drop a).getD i 0=l.getD (a+i) 0:=λi=>by rw [List.getD_eq_getElem?_getD,List.getD_eq_getElem?_getD,List.getElem?_drop]
 rw [b,b,b,b,List.drop_drop];rfl
theorem Ow {x:cp} {n ag:Int}:0<=(gG x n ag).2/\(gG x n ag).2<=4:=by
 by_cases a:(gG x n ag).1=0
 ·unfold gG at a ⊢
  repeat' split
  all_goals first | (constructor<;>decide) | simp_all | omega
 ·rw [DJ a];split
  ·omega
  ·unfold rI;split
   ·omega
   ·split
    ·omega
    ·split<;>omega
section
variable {d h:Hp} {rb:Nat} {bl:Sl} {bs:List UInt8} {r:RS}
theorem WB {many ag:Int} {N:Nat} {Q:Sl->Hp->Prop} (a:fQ d h rb bl bs r) (a9:many=(N:Int)) (hN:N<=1000000)
  (hq:∀l j r1 B G,TB d h rb bl bs G r1 B->pf l j G B->Cn bs r (D.many (λ_=>kI many ag) N []) r1 j->Q l G):Qf prog (some ⟨rb,0,none⟩) many ag Q h:=by
 unfold Qf;have b9:=a.small;refine mn (xs:=([]:List aL)) (enc:=λx=>bg (aM.enc x)) (sz:=5) rfl (λ_=>rfl) λz Y b0 T _ o1=> ?_;have s1:TB d h rb bl bs Y r [z]:=⟨a.known,λb o e _=>T b o e,a.grow T,by simp,λb hb=>by rw [List.mem_singleton.1 hb];exact b0⟩;have w1:pf ⟨some ⟨z,0,none⟩,0,0⟩ [] Y [z]:=⟨[],[z],[],rfl,o1,rfl⟩;refine Gv (bl:=bl) (rb:=rb) (bs:=bs) (d:=d) (g:=λ_=>kI many ag) a9 hN (λ(l:Sl) (j:List cp) F k=>∃B,TB d h rb bl bs k F B/\pf l j k B) (λl j F k hI=>hI.choose_spec.1.rd) ⟨_,s1,w1⟩ ?_ ?_
 ·rintro i l j at_ k W A ⟨B,s,o⟩ K hK O;have H:=gE.known o;obtain ⟨p,e,pl,f,hs⟩:=s.rd.fu;obtain ⟨rfl,rfl,C⟩:=hs;have V:bl.len=bs.length:=a.src.1;have C:at_<=bs.length:=by omega
  refine aD (bt (sh:=av) bl (f.bI (off:=0) (n:=1) rfl) (aD (bt (sh:=af .i64) (at_:Int) (f.bI (off:=1) (n:=1) rfl) ?_)));rw [wrap64 (by omega) (by omega)];by_cases b8:bs.length<at_+12
  ·have I:((bl.len:Nat):Int)-(at_:Int)<(12:Int):=by omega
   rw [if_pos (decide_eq_true I)];refine aD (bt (sh:=av) bl (f.bI (off:=0) (n:=1) rfl) (xm (vN f λL u t=> ?_)));rw [if_pos rfl,if_pos rfl] at t;obtain ⟨s2,J⟩:=s.next H u (s.rd.of u t (r1:=.error (5,bs.length)) ⟨rfl,by decide,by rw [V]⟩);refine O l ⟨0,0,0,0,0⟩ _ L (i:Int) ⟨_,rfl⟩ ⟨B,s2,gE.same o J⟩ (Cn.err ?_);unfold kI D.gr;cases A:qR bs at_ with
   | error e=>rw [I2 bs at_ e A]
   | ok y=>obtain ⟨y,a2⟩:=y;have h1:=(kY.sound bs at_ y a2 A C).2.1;have h2:=kY.within A C;simp [lL,lQ] at h1;omega
  ·have I:¬((bl.len:Nat):Int)-(at_:Int)<(12:Int):=by omega
   rw [if_neg (λe=>I (of_decide_eq_true e))];refine aD (bt (sh:=av) bl (f.bI (off:=0) (n:=1) rfl) (aD (bt (sh:=af .i64) (at_:Int) (f.bI (off:=1) (n:=1) rfl) ?_)));refine ⟨⟨by omega,by rw [V];exact Int.ofNat_le.2 C⟩,aU ?_⟩;have e2:((at_:Int)).toNat=at_:=rfl;rw [e2];have b7:=a.cap;obtain ⟨x,X,b4⟩:=Zh (l:=bs) (a:=at_) (by omega);have R:=(Rw.mono s.rd.le a.src).cut (a:=at_) (b:=bl.len) (c:=bl.cap) (n:=bl.len-at_) (m:=bl.cap-at_) rP (by omega) (by omega) (by omega) rfl;rw [List.take_of_length_le (by rw [List.length_drop];omega)] at R;refine zyn (Zf R (by rw [List.length_drop];omega) b4 λv hv=> ?_);subst hv;refine zku (Kx ?_);by_cases q:(gG (ba v) many ag).1=0
   ·rw [if_neg (by simpa using q)];refine mn (xs:=[v]) (enc:=λx=>bg (aM.enc x)) (sz:=5) rfl (λ_=>rfl) λb5 k5 _ U _ o5=> ?_;have s5:=s.grow U;have oo:=gE.same o (tN U H);refine xh (P:=[]) (S:=[]) (B':=[]) (dO.ok _) a.le (by simpa using s5) oo (v:=v) (p:=ba v) ⟨rfl,rfl⟩ (by simp) (o5.rw λ_=>rfl) (λ_=>rfl) (λ_=>rfl) rfl (by omega) λl' k6 M w o6 _=> ?_;have w:TB d h rb bl bs k6 (.ok at_) M:=by simpa using w
    obtain ⟨p6,e6,b6,a8,b2⟩:=w.rd.fu;obtain ⟨rfl,rfl,_⟩:=b2;refine aD (bt (sh:=af .i64) (at_:Int) (a8.bI (off:=1) (n:=1) rfl) (aD (qE (b:=rb) (off:=1) a8 (by simp [nD]) λZ m7 E=> ?_)));rw [wrap64 (n:=(at_:Int)+12) (by omega) (by omega)] at E;have E:eI Z rb (nD bl ((at_:Int)+12) 0 b6):=by simpa [nD] using E
    obtain ⟨s7,b3⟩:=w.next (gE.known o6) m7 (w.rd.of m7 E (r1:=.ok (at_+12)) ⟨by push_cast;rfl,rfl,by push_cast;omega⟩);refine hK l' (ba v) _ Z ⟨M,s7,gE.same o6 b3⟩ (Cn.ok ?_);unfold kI D.gr;rw [X];dsimp only;rw [if_pos q]
   ·rw [if_pos (by simpa using q)];have W:=Ow (x:=ba v) (n:=many) (ag:=ag);refine aD (bt (sh:=af .i64) (at_:Int) (f.bI (off:=1) (n:=1) rfl) ?_);rw [wrap64 (by omega) (by omega)];refine xm (vN f λL u t=> ?_);rw [if_pos rfl,if_pos rfl] at t;obtain ⟨s2,J⟩:=s.next H u (s.rd.of u t (r1:=.error ((gG (ba v) many ag).1,at_+(gG (ba v) many ag).2.toNat)) ⟨rfl,q,by push_cast;omega⟩);refine O l ⟨0,0,0,0,0⟩ _ L (i:Int) ⟨_,rfl⟩ ⟨B,s2,gE.same o J⟩ (Cn.err ?_);unfold kI D.gr;rw [X];dsimp only;rw [if_neg q]
 ·rintro i l j F k ⟨B,s,o⟩ W hc;exact hq l j F B k s o hc
end
theorem abA {k:Nat} {b:List UInt8} {at_ d:Nat} {x:Int} (a:zD k b at_=.ok (x,d)):∃n:Nat,x=(n:Int):=by
 unfold zD D.map D.bind at a;cases c:D.num k b at_ with
 | error e=>rw [c] at a;cases a
 | ok y=>obtain ⟨n,a3⟩:=y;rw [c] at a;have a:=Except.ok.inj a;exact ⟨n,(congrArg Prod.fst a).symm⟩
theorem wI {k:Nat} {W W':Int->Int} (a:∀n:Nat,W n=W' n):D.bV (zD k) W=D.bV (zD k) W':=by
 funext b at_;unfold D.bV;cases c:zD k b at_ with
 | error e=>rfl
 | ok y=>obtain ⟨x,d⟩:=y;obtain ⟨n,rfl⟩:=abA c;dsimp only;rw [a n]
theorem Fg {m:Int} (n:Nat):ij 1 m 1 3 n=eK m n:=by
 unfold ij eK;by_cases h:n=0
 ·subst h;rfl
 ·rw [if_neg (show ¬((n:Int)<1) by omega),if_neg (show ¬((n:Int)=0) by omega)]
theorem tH {a b:Int} (n:Nat):ij a b 2 2 n=cn a b n:=by
 unfold ij cn within;by_cases c:(n:Int)<a
 ·rw [if_pos c,if_neg (by simp;omega)]
 ·rw [if_neg c];by_cases d:b<(n:Int)
  ·rw [if_pos d,if_neg (by simp;omega)]
  ·rw [if_neg d,if_pos (by simp;omega)]
theorem WD {m e:Int} (n:Nat):ij 0 m e e n=if m<(n:Int) then e else 0:=by unfold ij;rw [if_neg (by omega)]
section
variable {d h:Hp} {rb:Nat} {bl:Sl} {bs:List UInt8} {r r1:RS}
theorem Zj {f:Type} {g:D f} {W:f->Int} {n:f} (j:Cn bs r (D.bV g W) r1 n) (h:∃a,r1=.ok a):W n=0:=by
 obtain ⟨a,rfl⟩:=h;have b:=j.done;cases r with
 | error y=>cases b
 | ok at_=>
  have b:D.bV g W bs at_=.ok (n,a):=b;unfold D.bV at b;cases i:g bs at_ with
  | error e=>rw [i] at b;cases b
  | ok y=>
   obtain ⟨x,a2⟩:=y;rw [i] at b;dsimp only at b;by_cases c:W x=0
   ·rw [if_pos c] at b;cases b;exact c
   ·rw [if_neg c] at b;cases b
theorem tX {b:Type} {g:D b} {n:b} (c:Cn bs r g r1 n) (h:∃a,r1=.ok a):∃a,r=.ok a:=by
 obtain ⟨a,rfl⟩:=h;have e:=c.done;cases r with
 | error y=>cases e
 | ok at_=>exact ⟨at_,rfl⟩
theorem Kh {l:Sl} {a:List Int} {e:Int} (j:Us h l a) (m:a.length<=1000000) {K:Int->Prop} (i:∀x,(e=0->∀z,a.getLast? =some z->x=z)->K x):
  (((e==(0:Int))&&decide ((a.length:Int)>(0:Int)))=true->bJ l.base l.len (yw ((a.length:Int)-1)))/\
   aP (some ((e==(0:Int))&&decide ((a.length:Int)>(0:Int)))) (af .u64) h (sat l.base 1 (yw ((a.length:Int)-1))) K:=by
 rw [wrap64 (by omega) (by omega)];refine Rs.mP (sh:=af .u64) j (0:Int) (λ_=>rfl) (by omega) (λf=> ?_) λ(x:Int) b=>i x λg z c=> ?_
 ·simp at f;omega
 ·have k:0<a.length:=by
   cases a with
   | nil=>cases c
   | cons _ _=>simp
  have b:=b (by simp [g];omega);rw [List.getLast?_eq_getElem?] at c;rw [show ((a.length:Int)-1).toNat=a.length-1 by omega,c] at b;exact (Option.some.inj b).symm
theorem Tl {ls:List Int} {l:Sl} {at_ n:Nat} {F:Int} (Z:F=(at_:Int)) (R:ls.length<=1000000) (a1:fQ d h rb bl bs r1) (T:∀P,Mv [rb] h [rb] P->Us P l ls) (G:Cn bs (.ok at_) (zD 8) r1 (n:Int)) {K:Hp->Prop}
  (Y:∀g C,Mv [rb] h [rb] C->fQ d C rb bl bs g->Cn bs (.ok at_) (D.bV (zD 8) (hZ ls)) g (n:Int)->K C):
  bF (λk=>
   ai none (some ⟨rb,0,none⟩) λL=>aP none (af .i64) h (Addr.add L 2) λM=>aJ ((M==(0:Int))&&(decide (((ls.length:Nat):Int)>(0:Int)))) λq=>
   ((q=true->(bJ l.base l.len (yw (((ls.length:Nat):Int)-(1:Int)))))/\aP (some q) (af .u64) h (sat l.base 1 (yw (((ls.length:Nat):Int)-(1:Int)))) λN=>
   aJ (q&&((n:Int)==N)) λO=>(if O=true then aY prog tv [(.pointer (some ⟨rb,0,none⟩)),(.int .i64 (8:Int)),(.int .i64 F)] (λi=>k i) h else k h)))
  (λi=>bF (λk=>
   ai none (some ⟨rb,0,none⟩) λL=>aP none (af .i64) i (Addr.add L 2) λM=>aJ ((M==(0:Int))&&(decide (((ls.length:Nat):Int)>(0:Int)))) λq=>
   ((q=true->(bJ l.base l.len (yw (((ls.length:Nat):Int)-(1:Int)))))/\aP (some q) (af .u64) i (sat l.base 1 (yw (((ls.length:Nat):Int)-(1:Int)))) λN=>
   aJ (q&&(decide ((n:Int)<N))) λO=>(if O=true then aY prog tv [(.pointer (some ⟨rb,0,none⟩)),(.int .i64 (7:Int)),(.int .i64 F)] (λQ=>k Q) i else k i)))
   K):=by
 have hp:∀a,(Except.ok at_:RS)=.ok a->F=(a:Int):=λa e=>by cases e;exact Z
 refine bF.intro (λo=>∃g,Mv [rb] h [rb] o/\fQ d o rb bl bs g/\(((∃y,g=.error y)/\Cn bs (.ok at_) (D.bV (zD 8) (hZ ls)) g (n:Int))\/(Cn bs (.ok at_) (zD 8) g (n:Int)/\∀z,ls.getLast? =some z->(n:Int)≠z))) ?_ ?_
 ·obtain ⟨p,e,pl,I,m⟩:=a1.fu;refine aD (bt (sh:=af .i64) e (I.bI (off:=2) (n:=1) rfl) (aU ?_));refine Kh (T h (Mv.refl _ _)) R λx B=>aU ?_;cases r1 with
  | error y=>have v:=m.2.1;rw [<-m.1] at v;rw [if_neg (by simp [v])];exact ⟨_,Mv.refl _ _,a1,.inl ⟨⟨_,rfl⟩,yf G rfl⟩⟩
  | ok a3=>
   obtain ⟨rfl,rfl,C⟩:=m;by_cases t:∃z,ls.getLast? =some z/\(n:Int)=z
   ·obtain ⟨z,b,A⟩:=t;have f:0<ls.length:=by
     cases ls with
     | nil=>cases b
     | cons _ _=>simp
    have H:=B rfl z b;rw [if_pos (by simp [H,A];exact f)];exact xm (LC a1 G hp (W:=hZ ls) (by unfold hZ;rw [b];dsimp only;rw [if_pos A]) (by decide) λu U J a4 c X=>⟨u,J,a4,.inl ⟨X,c⟩⟩)
   ·have w:∀z,ls.getLast? =some z->(n:Int)≠z:=λz b e=>t ⟨z,b,e⟩;rw [if_neg (by
     intro j;simp at j;obtain ⟨z,b⟩:∃z,ls.getLast? =some z:=by
      cases s:ls.getLast? with
      | none=>have f:0<ls.length:=j.1;rw [List.getLast?_eq_none_iff.1 s] at f;cases f
      | some z=>exact ⟨z,rfl⟩
     exact w z b (by rw [j.2];exact B rfl z b))]
    exact ⟨_,Mv.refl _ _,a1,.inr ⟨G,w⟩⟩
 ·rintro i ⟨g,E,a3,S⟩;refine bF.intro (λo=>∃u,Mv [rb] h [rb] o/\fQ d o rb bl bs u/\Cn bs (.ok at_) (D.bV (zD 8) (hZ ls)) u (n:Int)) ?_ ?_
  ·obtain ⟨p,e,pl,I,m⟩:=a3.fu;refine aD (bt (sh:=af .i64) e (I.bI (off:=2) (n:=1) rfl) (aU ?_));refine Kh (T i E) R λx B=>aU ?_;cases g with
   | error y=>
    have v:=m.2.1;rw [<-m.1] at v;rw [if_neg (by simp [v])];refine ⟨_,E,a3,?_⟩;rcases S with ⟨-,c⟩ | ⟨c, -⟩
    ·exact c
    ·exact yf c rfl
   | ok a4=>
    obtain ⟨rfl,rfl,U⟩:=m;rcases S with ⟨⟨y,hy⟩, -⟩ | ⟨c,w⟩
    ·cases hy
    by_cases t:∃z,ls.getLast? =some z/\(n:Int)<z
    ·obtain ⟨z,b,A⟩:=t;have f:0<ls.length:=by
      cases ls with
      | nil=>cases b
      | cons _ _=>simp
     have H:=B rfl z b;rw [if_pos (by simp [H,A];exact f)];exact xm (LC a3 c hp (W:=hZ ls) (by unfold hZ;rw [b];dsimp only;rw [if_neg (w z b),if_pos A]) (by decide) λr5 Q m6 a6 V _=>⟨r5,E.trans m6,a6,V⟩)
    ·rw [if_neg (by
      intro j;simp at j;obtain ⟨z,b⟩:∃z,ls.getLast? =some z:=by
       cases s:ls.getLast? with
       | none=>
       have f:0<ls.length:=j.1;rw [List.getLast?_eq_none_iff.1 s] at f;cases f
       | some z=>exact ⟨z,rfl⟩
      exact t ⟨z,b,by rw [<-B rfl z b];exact j.2⟩)]
     refine ⟨_,E,a3,Ez c ?_⟩;unfold hZ;cases s:ls.getLast? with
     | none=>rfl
     | some z=>dsimp only;rw [if_neg (w z s),if_neg (λe=>t ⟨z,s,e⟩)]
  ·rintro o ⟨u,J,a4,c⟩;exact Y u o J a4 c
end
section
variable {d h:Hp} {rb:Nat} {bl:Sl} {bs:List UInt8} {r:RS}
theorem vt {a c:List Nat} {P:Nat->Prop} (e:∀b∈a,P b) (f:∀b∈c,P b):∀b∈a++c,P b:=λb hb=>by
 rcases List.mem_append.1 hb with hb | hb
 ·exact e b hb
 ·exact f b hb
theorem Qg {Q:al->Hp->Prop} (a:fQ d h rb bl bs r)
  (hq:∀x c r1 B M,TB d h rb bl bs M r1 B->nE x c M B->Cn bs r vY r1 c->Q x M):PK prog (some ⟨rb,0,none⟩) Q h:=by
 unfold PK;refine zom (Wz (cs:=[70,66,67,70,1]) a (by decide) λr1 h1 m1 a1 e5=> ?_);refine wq (wH (k:=1) a1 (by omega) (by omega) (by decide) (by decide) (by decide) λf r2 h2 d0 m2 a2 b0=> ?_);have d0:f<256:=d0;have e9:=Zj b0;rw [wI (W':=eK 8) Fg] at b0;have s2:TB d h rb bl bs h2 r2 []:=TB.step a.known (m1.trans m2) a2;refine u9 (N:=f) (bl:=bl) (rb:=rb) (bs:=bs) (d:=d) (g:=λe4=>D.bV (zD 8) (hZ e4)) rfl (by omega)
  (λ(x:al) ls t k=>∃B,TB d h rb bl bs k t B/\Bo x.aE ls k B/\(x.Table=⟨none,0,0⟩/\x.aQ=⟨none,0,0⟩)/\((∃a,t=.ok a)->∃a,r2=.ok a))
  (λx ls t k E=>E.choose_spec.1.rd) ⟨[],s2,bu.nil,⟨rfl,rfl⟩,λh=>h⟩ ?_ ?_
 ·rintro i x ls at_ k b8 hi ⟨B,s,o,hx,H⟩ K F;have z:=fM.known o;obtain ⟨p,e,pl,kb,T⟩:=s.rd.fu;obtain ⟨rfl,rfl,hn⟩:=T;refine aD (bt (sh:=af .i64) (at_:Int) (kb.bI (off:=1) (n:=1) rfl) ?_);refine Ph (Ed (k:=8) s.rd (by omega) (by omega) λn r3 k3 i3 m3 a3 b1 _=> ?_);obtain ⟨J,f7⟩:=s.next z m3 a3;have y:=fM.same o f7;subst b8;refine Tl (ls:=ls) (n:=n) rfl (by omega) a3 (λM m'=>(fM.same y (rF m' (fM.known y) λb hb e=>J.nr (List.mem_singleton.1 e▸hb))).rd) (b1.map:Cn bs (.ok at_) (zD 8) r3 (n:Int)) λr4 k4 m4 a4 G=> ?_;obtain ⟨s4,c2⟩:=J.next (fM.known y) m4 a4;have A:=fM.same y c2;refine mn (xs:=[(n:Int)]) (enc:=λx=>bg ((af .u64).enc x)) (sz:=1) rfl (λ_=>rfl) λb5 k5 _ c8 _ o5=> ?_;have C:=s4.grow c8;have oo:=fM.same A (tN c8 (fM.known A));refine xh (P:=[]) (S:=[]) (B':=[]) (dO.ok _) a.le (by simpa using C) oo (v:=(n:Int)) (p:=(n:Int)) ⟨rfl,rfl⟩ (by simp) (o5.rw λ_=>rfl) (λ_=>rfl) (λ_=>rfl) rfl (by omega) λl' k6 B6 s6 o6 _=> ?_;exact F _ (n:Int) r4 k6 ⟨B6,by simpa using s6,o6,hx,λ_=>H ⟨_,rfl⟩⟩ G
 rintro i x1 ls r3 k3 ⟨q,J,j,⟨f8,c3⟩,f0⟩ i0 b1;refine wq (wH (k:=1) J.rd (by omega) (by omega) (by decide) (by decide) (by decide) λnt r4 k4 d2 m4 a4 G=> ?_);have d2:nt<256:=d2;rw [wI (W':=eK 64) Fg] at G;obtain ⟨s4,c2⟩:=J.next (fM.known j) m4 a4;have A:=fM.same j c2;have e7:(∃a,r4=.ok a)->1<=f:=λho=>by
  have:=e9 (f0 (tX G ho));unfold ij at this;by_cases h1:(f:Int)<1
  ·rw [if_pos h1] at this;cases this
  ·omega
 refine u9 (N:=nt) (bl:=bl) (rb:=rb) (bs:=bs) (d:=d) (g:=λ_=>D.bV (zD 1) (cn 0 ((f:Int)-1))) rfl (by omega)
  (λ(x:al) L t k=>∃m,TB d h rb bl bs k t (q++m)/\Bo x.aE ls k q/\wh x.Table L k m/\x.aQ=⟨none,0,0⟩/\((∃a,t=.ok a)->1<=f))
  (λx ls t k E=>E.choose_spec.1.rd) ⟨[],by simpa using s4,A,by rw [f8];exact bu.nil,c3,e7⟩ ?_ ?_
 ·rintro i x L at_ k b8 hi ⟨m,s,j,u,hx,H⟩ K F;have Y:=H ⟨_,rfl⟩;have z:=vt (fM.known j) (gu.known u);rw [wrap64 (n:=(f:Int)-1) (by omega) (by omega)];refine wq (wH (k:=1) (least:=0) (dR:=(f:Int)-1) s.rd (by omega) (by omega) (by decide) (by decide) (by omega) λv r5 k5 hv m5 a5 R=>⟨⟨trivial,trivial⟩,?_⟩);rw [wI (W':=cn 0 ((f:Int)-1)) tH] at R;obtain ⟨C,d5⟩:=s.next z m5 a5;have U:=fM.same j λb hb=>d5 b (cN hb);have V:=gu.same u λb hb=>d5 b (cq hb);refine mn (xs:=[(v:Int)]) (enc:=λx=>bg ((af .i64).enc x)) (sz:=1) rfl (λ_=>rfl) λb6 k6 _ c0 _ o6=>⟨⟨trivial,trivial⟩,?_⟩;have s6:=C.grow c0;have I:=fM.same U (tN c0 (fM.known U));have X:=gu.same V (tN c0 (gu.known V));refine xh (P:=q) (S:=[]) (B':=[]) (dO.ok _) a.le (by simpa using s6) X (v:=(v:Int)) (p:=(v:Int)) ⟨rfl,rfl⟩ (by simpa using fM.known I) (o6.rw λ_=>rfl) (λ_=>rfl) (λ_=>rfl) rfl (by omega) λl' k7 B7 s7 o7 e6=> ?_;exact F _ (v:Int) r5 k7 ⟨B7,by simpa using s7,fM.same I λb hb=>e6 b (by simpa using hb),o7,hx,λ_=>Y⟩ R
 rintro i x2 L r5 k5 ⟨m,C,j,u,c3,f5⟩ i6 R;refine wq (wH (k:=2) C.rd (by omega) (by omega) (by decide) (by decide) (by decide) λfuel r6 k6 h8 m6 a6 b2=> ?_);refine wq (wH (k:=1) a6 (by omega) (by omega) (by decide) (by decide) (by decide) λlane r7 k7 h9 m7 a7 b3=> ?_);refine wq (wH (k:=1) a7 (by omega) (by omega) (by decide) (by decide) (by decide) λag r8 k8 i1 m8 a8 b4=> ?_);refine wq (wH (k:=2) a8 (by omega) (by omega) (by decide) (by decide) (by decide) λlog r9 k9 i2 m9 a9 b7=> ?_);refine wq (wH (k:=1) a9 (by omega) (by omega) (by decide) (by decide) (by decide) λnp g8 i7 d1 g3 e2 Z=> ?_);have d1:np<256:=d1;rw [wI (W':=cn 1 256) tH] at b2;rw [wI (W':=cn 1 64) tH] at b3;rw [wI (W':=cn 0 8) tH] at b4;rw [wI (W':=cn 0 4096) tH] at b7;rw [wI (W':=eK 32) Fg] at Z;obtain ⟨h0,d3⟩:=C.next (vt (fM.known j) (gu.known u)) (m6.trans (m7.trans (m8.trans (m9.trans g3)))) e2;have U:=fM.same j λb hb=>d3 b (cN hb);have V:=gu.same u λb hb=>d3 b (cq hb);have e8:(∃a,g8=.ok a)->1<=f:=λho=>f5 (tX b2 (tX b3 (tX b4 (tX b7 (tX Z ho)))));refine u9 (N:=np) (bl:=bl) (rb:=rb) (bs:=bs) (d:=d) (g:=λ_=>ks (f:Int) (ag:Int)) rfl (by omega)
  (λ(x:al) W t k=>∃w,TB d h rb bl bs k t ((q++m)++w)/\Bo x.aE ls k q/\wh x.Table L k m/\xL x.aQ W k w/\(x.Fuel=(fuel:Int)/\x.gz=(lane:Int)/\x.bG=(ag:Int)/\x.Log=(log:Int))/\((∃a,t=.ok a)->1<=f))
  (λx ls t k E=>E.choose_spec.1.rd) ⟨[],by simpa using h0,U,V,by show xL x2.aQ [] _ [];rw [c3];exact bu.nil,⟨rfl,rfl,rfl,rfl⟩,e8⟩ ?_ ?_
 ·rintro i x W at_ k b8 hi ⟨w,s,j,u,y,hf,H⟩ K F;have Y:=H ⟨_,rfl⟩;have z:=vt (vt (fM.known j) (gu.known u)) (iu.known y);rw [wrap64 (n:=(f:Int)-1) (by omega) (by omega)];refine wq (wH (k:=1) (least:=0) (dR:=(f:Int)-1) s.rd (by omega) (by omega) (by decide) (by decide) (by omega) λpart d8 d6 i4 g4 e3 O=> ?_);refine wq (wH (k:=2) e3 (by omega) (by omega) (by decide) (by decide) (by decide) λn i9 f9 hn g5 c4 c5=> ?_);have hn:n<65536:=hn;rw [wI (W':=cn 0 ((f:Int)-1)) tH] at O;rw [wI (W':=λn=>if 256<n then 3 else 0) WD] at c5;obtain ⟨d9,d4⟩:=s.next z (g4.trans g5) c4;have d7:∀b∈(q++m)++w,f9 b≠none:=λb hb=>by rw [d4 b hb];exact z b hb
  refine zon (WB (N:=n) c4 rfl (by omega) λl code g9 B4 g0 e0 A c6=>⟨⟨trivial,trivial⟩,?_⟩);have h4:=d9.andThen d7 e0;have f6:=d9.kept d7 e0;have T:∀b∈(q++m)++w,g0 b=k b:=λb hb=>by rw [f6 b hb];exact d4 b hb
  refine mn (xs:=[(⟨(part:Int),l⟩:bK)]) (enc:=λx=>bg (bC.enc x)) (sz:=2) rfl (λ_=>rfl) λh7 g1 _ b9 _ g6=>⟨⟨trivial,trivial⟩,?_⟩;have h5:=h4.grow b9;have c1:∀b∈(q++m)++w,g1 b=k b:=λb hb=>by rw [tN b9 (λb hb=>by rw [T b hb];exact z b hb) b hb];exact T b hb
  have I:=fM.same j λb hb=>c1 b (cN (cN hb));have X:=gu.same u λb hb=>c1 b (cN (cq hb));have q3:=iu.same y λb hb=>c1 b (cq hb);have q4:=gE.same A (tN b9 (gE.known A));refine xh (P:=q++m) (S:=[]) (B':=B4) rQ a.le (by simpa using h5) q3 (v:=⟨(part:Int),l⟩) (p:=⟨(part:Int),code⟩) ⟨rfl,q4⟩ (by simpa using vt (fM.known I) (gu.known X)) (g6.rw λ_=>rfl) (λ_=>rfl) (λ_=>rfl) rfl (by omega) λl' g2 e1 h6 g7 c7=> ?_;rw [hf.2.2.1] at c6;refine F _ ⟨(part:Int),code⟩ g9 g2 ⟨e1,by simpa using h6,fM.same I λb hb=>c7 b (cN (cN hb)),gu.same X λb hb=>c7 b (cN (cq hb)),g7,hf,λ_=>Y⟩ ?_;unfold ks;exact Cn.seq O (Cn.seq c5 (Cn.seq c6 Cn.ret))
 rintro i x3 W d8 d6 ⟨w,h3,j,u,y,⟨f1,f2,f3,f4⟩,_⟩ i5 O;refine hq x3 ⟨ls,L,(fuel:Int),(lane:Int),(ag:Int),(log:Int),W⟩ d8 (q++(m++w)) d6 (by simpa using h3) ⟨q,m,w,rfl,j,u,y,f1,f2,f3,f4⟩ ?_;unfold vY;exact Cn.seq e5 (Cn.seq b0 (Cn.seq b1 (Cn.seq G (Cn.seq R (Cn.seq b2 (Cn.seq b3 (Cn.seq b4 (Cn.seq b7 (Cn.seq Z (Cn.seq O Cn.ret))))))))))
end
theorem Kz {h:Hp} {b:Sl} {a:List UInt8} {Q:al->Int->Int->Hp->Prop} (u:Bs h b a) (L:b.len<=b.cap)
  (w:∀e p g,h<=g->pa a=.error (e,p)->e≠0->Q Bt e (p:Int) g) (O:∀x c B g,h<=g->pa a=.ok c->nE x c g B->B.Nodup->(∀b∈B,h b=none)->Q x 0 0 g):
  Rb prog b Q h:=by
 unfold Rb;have V:b.len=a.length:=u.1;by_cases J:1048576<a.length
 ·have t:((b.len:Nat):Int)>1048576:=by omega
  rw [if_pos (decide_eq_true t)];refine w 22 1048576 h (Hp.le_refl h) ?_ (by decide);unfold pa rO;rw [if_pos J]
 have C:a.length<=1048576:=by omega
 have t:¬((b.len:Nat):Int)>1048576:=by omega
 rw [if_neg (λe=>t (of_decide_eq_true e))];refine kj λr G N z H=> ?_;have a1:fQ h G r b a (.ok 0):=⟨z,N,u,L,by omega,0,0,0,H,rfl,rfl,by omega⟩;refine zna (Qg a1 λx c r2 B k s o K=> ?_);have v:=K.done;have M:=ir.known o;refine bF.intro (λl=>∃m,Mv [r] k [r] l/\fQ h l r b a m/\match m with
  | .error e=>pa a=.error e
  | .ok _=>pa a=.ok c) ?_ ?_
 ·obtain ⟨p,e,S,d,i⟩:=s.rd.fu;refine aD (bt (sh:=af .i64) e (d.bI (off:=2) (n:=1) rfl) (aD (su (sh:=af .i64) p (d.bI (off:=1) (n:=1) rfl) (aU ?_))));cases r2 with
  | error y=>have j:=i.2.1;rw [<-i.1] at j;rw [if_neg (by simp [j])];exact ⟨_,Mv.refl _ _,s.rd,FD C v⟩
  | ok at_=>
   obtain ⟨rfl,rfl,U⟩:=i;have f:=Ku C v;by_cases A:at_<a.length
   ·rw [if_pos A] at f;rw [if_pos (by simp;omega)];refine aD (bt (sh:=af .i64) (at_:Int) (d.bI (off:=1) (n:=1) rfl) ?_);refine xm (vN d λW E D=> ?_);rw [if_pos rfl,if_pos rfl] at D;exact ⟨.error (6,at_),E,s.rd.of E D ⟨rfl,by decide,rfl⟩,f⟩
   ·rw [if_neg A] at f;rw [if_neg (by simp;omega)];exact ⟨_,Mv.refl _ _,s.rd,f⟩
 ·rintro l ⟨m,R,a3,f⟩;obtain ⟨s3,P⟩:=s.next M R a3;obtain ⟨p,e,S,d,i⟩:=a3.fu;refine aD (bt (sh:=af .i64) e (d.bI (off:=2) (n:=1) rfl) ?_);cases m with
  | error y=>obtain ⟨T,q⟩:=y;obtain ⟨rfl,j,rfl⟩:=i;rw [if_pos (by simpa using j)];refine aD (bt (sh:=af .i64) e (d.bI (off:=2) (n:=1) rfl) (aD (bt (sh:=af .i64) (q:Int) (d.bI (off:=3) (n:=1) rfl) ?_)));exact ⟨⟨d.bI (off:=2) (n:=1) rfl,d.bI (off:=3) (n:=1) rfl,trivial⟩,w e q l a3.le f j⟩
  | ok at_=>obtain ⟨rfl,rfl,_⟩:=i;rw [if_neg (by simp)];exact O x c B l a3.le f (ir.same o P) s3.nd λF I=>pH z (s3.fresh F I)
section
variable {d h:Hp} {rb:Nat} {bl:Sl} {bs:List UInt8} {r:RS}
end
theorem Hx {a:List UInt8} {c:aI} (h:pa a=.ok c):(hU c).1=0/\∀l∈c.labels,qN l:=by obtain ⟨t,e⟩:=(XU (Y0 c)).2 (Po SJ h).1;exact ⟨e,Y4 t⟩
section
variable {h k:Hp} {c:aI} {t:gN} {pm pr:Addr} {x:fG} {R B:dh}
theorem gk.call3 {P:Program} {g:FuncId} {args:List Value} {s1 s2 s3:Shape} {K0 K:s1.T->s2.T->s3.T->Hp->Prop} (q:gk h k c t pm pr x R) (n:fW P g args s1 s2 s3 (λx y z f=>h<=f/\K0 x y z f) h)
  (p:∀a b d f i,h<=f->K0 a b d f->gk f i c t pm pr x R->K a b d i):fW P g args s1 s2 s3 K k:=by
 obtain ⟨j,u,e,mk,s,o⟩:=q.ex;refine DG o n ?_;rintro a b d f i ⟨l,m⟩ r;exact p a b d f i l m ⟨j,u,e,mk.mono l,s,r⟩
theorem gk.bq {g:Hp} (q:gk h k c t pm pr x (.fact True)) (p:Has k B g):gk h g c t pm pr x B:=by obtain ⟨K,s,e,mk,r,o⟩:=q.ex;refine ⟨K,s,e,mk,r,?_⟩;have:=(o.beside p).assoc;refine this.map λ_ _=>Be (λ_ a=>a) λF a=> ?_;obtain ⟨d,i,l,_,⟨j,u,f,_,a1,_,m⟩,a2⟩:=a;refine ⟨d,i,l, ‹_›,?_,a2⟩;have:d=j:=funext λb=>propext ⟨λhb=>((f b).1 hb).elim id λn=>absurd n (m b),λhb=>(f b).2 (.inl hb)⟩;rw [this];exact a1
theorem I4 (f:bT c) {n:Int} (i:0<=n):0<c.table.length/\c.table[(n%(c.table.length:Int)).toNat]? =some (jk c n:Int):=by
 obtain ⟨t1,t2,g⟩:=f.table;have b:0<c.table.length:=List.length_pos_iff.2 t1;refine ⟨b,?_⟩;unfold jk;have e:(n%(c.table.length:Int)).toNat=n.toNat%c.table.length:=by
  have:n%(c.table.length:Int)=((n.toNat%c.table.length:Nat):Int):=by rw [Int.natCast_emod];congr 1;omega
  omega
 rw [e];have a:n.toNat%c.table.length<c.table.length:=Nat.mod_lt _ b;have d:c.table[n.toNat%c.table.length]∈c.table:=List.getElem_mem a;have:=(g _ d).1;rw [List.getD_eq_getElem?_getD,List.getElem?_eq_getElem a];simp;omega
theorem aaD {n a len:Int} (b:0<=a) (d:a<len) (f:len<=n+1):∃j,0<=j/\j<=n/\n-len<j/\j%len=a:=by
 refine ⟨n-(n-a)%len,?_,?_,?_,?_⟩
 ·have:=Int.emod_lt_of_pos (n-a) (show 0<len by omega);omega
 ·have:=Int.emod_nonneg (n-a) (show len≠0 by omega);omega
 ·have:=Int.emod_lt_of_pos (n-a) (show 0<len by omega);omega
 ·have e:n-(n-a)%len=a+len*((n-a) / len):=by have:=Int.emod_add_mul_ediv (n-a) len;omega
  rw [e,Int.add_mul_emod_self_left];exact Int.emod_eq_of_lt b d
abbrev wW (m:Nat) (a:List (Int×Int)):dh:=FP m .i64 (af .i64).enc a
def Ml (c:aI) (n:Int) (a:List (Int×Int)):Prop:=∀j,0<=j->j<n->∃v,fU (jk c j:Int) a=some v/\j<=v/\v<n
theorem Ml.step {n:Int} {d:List (Int×Int)} (a:Ml c n d):Ml c (n+1) (jb (jk c n:Int) n d):=λj f i=>by
 rw [vE];by_cases b:(jk c j:Int)=(jk c n:Int)
 ·rw [if_pos b];exact ⟨n,rfl,by omega,by omega⟩
 ·rw [if_neg b];have g:j≠n:=λe=>b (by rw [e]);obtain ⟨v,hv,v1,l⟩:=a j f (by omega);exact ⟨v,hv,v1,by omega⟩
theorem pE {L l:Sl} {bs:List UInt8} {ss:List cI} {ticks:Int} {Q:Bool->Hp->Prop} (hB:Bs h L bs) (T:L.len<=L.cap) (hs:Rs h dJ 3 l ss) (hl:ss.length<=140737488355328) (hq:∀F,h<=F->Q true F):Qk prog L l ticks Q h:=by
 unfold Qk;refine zua (Tj λh1 W=> ?_);rw [if_neg (by simp)];have P:=Rw.mono W hB;refine Jc (Lt P T (λc d=>Hx d) (λe p h2 C d U=> ?_) λc pm pr c1 k2 d C q=> ?_)
 ·refine zjs (Kz (Rw.mono C P) T (λe' p' G D b _=> ?_) λx c B G D b _ _ _=> ?_)
  ·rw [d] at b;cases b;refine aU ?_;rw [if_neg (by simp [U]),if_pos (show (none:Option Addr).isNone=true from rfl)];exact hq G (Hp.le_trans W (Hp.le_trans C D))
  ·rw [d] at b;cases b
 obtain ⟨U,hu⟩:=Hx d;have f:=yV U;refine q.call3 (s1:=aO) (s2:=af .i64) (s3:=af .i64) (K0:=λ(y:al) (e _:Int) F=>e=0/\gL F y c) (zjs (Kz (Rw.mono C P) T (λe' p' G D b _=> ?_) λy c' B G D b o _ _=> ?_)) ?_
 ·rw [d] at b;cases b
 ·rw [d] at b;cases b;exact ⟨D,rfl,o.rd⟩
 rintro y e p r k3 b6 ⟨rfl,Y⟩ q;refine aU ?_;rw [if_neg (by simp),if_neg (by simp)];intro m hm;have q0:gk r (k3.set m (.map #[] 0)) c ((rT c).list c) pm pr ⟨some pm,0, -1⟩ (wW m []):=q.bq (Has.Gr (lz hm) ⟨[],0,lZ,rfl⟩ hm);refine ⟨by decide,?_⟩;obtain ⟨g0,Z⟩:=I3 f;generalize (rT c).list c=t0 at q0 g0 Z;have b5:y.Table.len=c.table.length:=Y.table.1;have c4:=hs.1;have b1:h<=r:=Hp.le_trans W (Hp.le_trans C b6);have c0:Int.tmod ticks 300<300:=Int.tmod_lt_of_pos _ (by decide);obtain ⟨t1,t2,t3⟩:=f.table;refine bD.intro (λ(n i:Int) k=>n=i/\0<=i/\i<=300/\∃t J A,gk r k c t pm pr ⟨some pm,i,J⟩ (wW m A)/\GT c t/\t.tick=i/\Ml c i A) (λ_ i _=>(300-i).toNat) ⟨rfl,by omega,by omega,t0, -1,[],q0,g0,Z,λj V j1=>by omega⟩ ?_;rintro n i k4 ⟨rfl,I,i3,t,J,A,E,O,e1,hd⟩;by_cases H:¬n<Int.tmod ticks 300
 ·rw [if_neg (λe=>H (of_decide_eq_true e))];exact hq k4 (Hp.le_trans b1 E.le)
 have H:=Classical.not_not.1 H;rw [if_pos (decide_eq_true H)];refine bF.intro (λk=>∃t,gk r k c t pm pr ⟨some pm,n,J⟩ (wW m A)/\GT c t/\t.tick=n) ?_ ?_
 ·split
  ·rename_i b0;have b0:=of_decide_eq_true b0;have X:=Int.tmod_nonneg (l.len:Int) I;have m2:=Int.tmod_lt_of_pos n (show (0:Int)<(l.len:Int) by omega);refine ⟨by omega,Rs.get (sh:=dJ) (Rw.mono (Hp.le_trans b1 E.le) hs) (λ_=>rfl) (by decide) X (by omega) λ(s:cI) _=> ?_⟩;split
   ·rename_i hk;exact Nb (Ky E f O rfl (by omega) (by simpa using hk) λa e t' k' _ q2 g2 e2 _=>⟨t',q2,g2,by omega⟩)
   ·exact ⟨t,E,O,e1⟩
  ·exact ⟨t,E,O,e1⟩
 rintro k5 ⟨t5,q5,g5,M⟩;refine Nb (s:=⟨1,1,0⟩) (Ls (x:=⟨some pm,n,J⟩) q5 f g5 rfl M (show 0<=n/\n<=65536 by omega) rfl (show (1:Int)<=1 by omega) (show (1:Int)<=65536-n by omega) λa k6 S K=> ?_);have S:a=⟨0,n+1,(jk c n:Int)⟩:=by rw [S,M,show n+((⟨1,1,0⟩:cI).N-1)=n by show n+((1:Int)-1)=n;omega]
 have K:gk r k6 c (iw c t5 1) pm pr ⟨some pm,n+1,(jk c (t5.tick+(1-1)):Int)⟩ (wW m A):=K;obtain ⟨g6,e6⟩:=yE f g5 (by omega) 1 (by omega);subst S;rw [wrap64 (by omega) (by omega)];refine aU ?_;rw [show (((0:Int) !=0) || (n+1 !=n+1))=false by simp];obtain ⟨c3,b4⟩:=I4 f I;have b3:(0:Int)<(y.Table.len:Int):=by omega
 have X:=Int.tmod_nonneg (y.Table.len:Int) I;have m2:=Int.tmod_lt_of_pos n b3;have m3:Int.tmod n (y.Table.len:Int)=n%(c.table.length:Int):=by rw [b5,Int.tmod_eq_emod_of_nonneg I]
 have yt:Is k6 y.Table c.table:=Rw.mono K.le Y.table;refine ⟨λ_=>by omega,Rs.mP (sh:=af .i64) yt (0:Int) (λ_=>rfl) (by decide) (λ_=>⟨X,by omega⟩) λ(v:Int) hv=> ?_⟩;have hv:=hv rfl;rw [m3,b4] at hv;cases hv;refine aU ?_;rw [if_neg (by simp)];obtain ⟨c2,c7,o6,b8⟩:=K.rest;refine o6.Gl λk7 o7=> ?_;have q7:=b8 _ _ o7;have a9:=hd.step;have b7:=o7.kv.1;have b9:Is k7 y.Table c.table:=Rw.mono q7.le Y.table;refine aC.intro (λ(g:Int) k=>0<=g/\g<=(c.table.length:Int)/\k=k7) (λg _=>((c.table.length:Int)-g).toNat) ⟨by omega,by omega,rfl⟩ ?_;rintro g _ ⟨k0,k1,rfl⟩;refine aU ?_;by_cases a8:g<(c.table.length:Int)/\(c.table.length:Int)<=n+1
 ·rw [if_pos (by simp;omega)];refine Rs.get (sh:=af .i64) b9 (λ_=>rfl) (by decide) k0 (by omega) λ(v:Int) hv=> ?_;obtain ⟨j,V,j1,j2,j3⟩:=aaD k0 a8.1 a8.2;have hj:=(I4 f V).2;rw [j3,hv] at hj;cases hj;obtain ⟨u,b2,c5,c6⟩:=a9 j V (by omega);refine Fh (sh:=af .i64) (z:=(0:Int)) b7 rfl (λhn=> ?_) λw hw=> ?_
  ·rw [b2] at hn;cases hn
  ·rw [b2] at hw;cases hw;rw [wrap64 (n:=n+1-1) (by omega) (by omega),wrap64 (n:=n+1-1-u) (by omega) (by omega),if_neg (by simp;omega),wrap64 (by omega) (by omega)];exact ⟨⟨by omega,by omega,rfl⟩,by omega⟩
 ·rw [if_neg (by simp;omega)];exact ⟨⟨rfl,by omega,by omega,_,_,_,q7,g6,by rw [e6,M];rfl,a9⟩,by omega⟩
end
end Lf
namespace Lf
open Go Go.Proofs Go.ChangeShapes Go.WideShapes Go.ChangeAt Go.RowKit
section
variable {H:Type} {enc:TypeId×Value->H} {W:World}
abbrev uL :cI->List Value:=λx=>bg (dJ.enc x)
theorem abC :pO enc Tryz.prog W 32 λa=>∃x,a=uL x/\(n7 x.Kind/\n7 x.N/\n7 x.V):=λf a y h c=>by have b:=an.aN 32 BV rfl;have d:=aaw b h;rw [show Tryz.prog.cellsOf 32=3 by kernel_rfl] at d;obtain ⟨a0,g,l⟩:=CM b h c (i:=0) (off:=0) rfl rfl zd li;obtain ⟨a1,j,n⟩:=CM b h c (i:=1) (off:=1) rfl rfl zd li;obtain ⟨a2,k,o⟩:=CM b h c (i:=2) (off:=2) rfl rfl aay NR;refine ⟨⟨a0,a1,a2⟩,?_,D1 l,D1 n,D1 o⟩;have e:a=a.drop 0:=rfl;rw [e,Fe (m:=1) g rfl,Fe (m:=2) j rfl,Fe (m:=3) k rfl,List.drop_of_length_le (Nat.le_of_eq d)];rfl
theorem tg {v:Value} {d:DataW H} {j:List MemPlace} {base:Nat} (hv:Value.okWide Tryz.prog W .any base 27 v) (h:DataW.Trod enc Tryz.prog W 0 (λ_=>true) true 27 v d j) (i:(DataW.weights Tryz.prog 27 d).all (· <=reachBytes)=true):
  ∃(l:Sl) (e:List cI),v=l.v/\Bm W 3 uL (λx=>n7 x.Kind/\n7 x.N/\n7 x.V) l e:=by
 obtain ⟨a,n,c,rfl⟩:=okWide_slice (an.aN 27 xj rfl) hv;obtain ⟨fuel,g⟩:=h;obtain ⟨l,e,b,f⟩:=Lq (enc:=enc) (W:=W) (an.aN 27 xj rfl) uL (λx=>n7 x.Kind/\n7 x.N/\n7 x.V) (sz:=3) (by kernel_rfl) (by rw [show Tryz.prog.bytesOf 32=24 by kernel_rfl];omega) abC (λ_=>rfl) fuel _ _ g i;refine ⟨l,e,?_,f⟩;have b: [Value.slice a n c]=[l.v]:=b;exact List.cons.inj b |>.1
end
end Lf
