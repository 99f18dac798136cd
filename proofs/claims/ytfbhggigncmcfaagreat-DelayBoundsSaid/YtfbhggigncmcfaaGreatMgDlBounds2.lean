/-
  Part 3 of the texts that the claim leans on.
-/
import Derived.Shelf.Strings.Search1
import Derived.Shelf.Strings.Search2
import Derived.Shelf.Strings.Search3
import Derived.Shelf.LaysM
import Derived.Test.YtfbhggigncmcfaaGreatProg
import Derived.Laws.StructEq
import Derived.Test.YtfbhggigncmcfaaGreatMgDlBounds1
set_option maxRecDepth 100000
namespace Lf
open Go
def Rw {a:Type} (h:Hp) (sz:Nat) (enc:a->List Value) (l:Sl) (xs:List a):Prop:=
 l.len=xs.length/\nL h l.base (xs.length*sz) (xs.flatMap enc)
section
variable {α:Type} {h d:Hp} {sz:Nat} {enc:α->List Value} {l:Sl} {xs:List α}
theorem G5 (b:h<=d) {a:Addr} {v:Value} (e:cM h a=some v):cM d a=some v:=by
 unfold cM at e ⊢;split at e
 ·rename_i c t f hb;rw [b _ _ hb];exact e
 ·cases e
theorem om (b:h<=d) {a:Addr} {cs:List Value} (e:aT h a cs):aT d a cs:=λi v hv=>G5 b (e i v hv)
theorem Rw.mono (i:h<=d) (r:Rw h sz enc l xs):Rw d sz enc l xs:=by obtain ⟨b,c,e⟩:=r;refine ⟨b,c,e.imp id ?_⟩;rintro ⟨a,f,g⟩;exact ⟨a,f,om i g⟩
theorem IS (b:∀x,(enc x).length=sz):∀(xs:List α) (i:Nat) (x:α),xs[i]? =some x->∀j v,(enc x)[j]? =some v->(xs.flatMap enc)[i*sz+j]? =some v
 | [],i,x,a,_,_,_=>by simp at a
 | y::xs,0,x,a,j,v,hv=>by grind
 | y::xs,i+1,x,a,j,v,hv=>by have:=IS b xs i x (by simpa using a) j v hv;grind
theorem JP (a:∀x,(enc x).length=sz):∀(xs:List α) (i:Nat) (v:Value),(xs.flatMap enc)[i]? =some v->∃q x j,xs[q]? =some x/\(enc x)[j]? =some v/\i=q*sz+j
 | [],i,v,hv=>by simp at hv
 | y::xs,i,v,hv=>by
  simp only [List.flatMap_cons] at hv;by_cases b:i<(enc y).length
  ·rw [List.getElem?_append_left b] at hv;exact ⟨0,y,i,rfl,hv,by simp⟩
  ·rw [List.getElem?_append_right (by omega)] at hv;obtain ⟨q,x,j,c,e,f⟩:=JP a xs _ v hv;rw [a] at f b;exact ⟨q+1,x,j,by simpa using c,e,by grind⟩
theorem Rw.read (r:Rw h sz enc l xs) (m:∀x,(enc x).length=sz) (o:0<sz) {i:Int} (e:0<=i) (f:i<(l.len:Int)):
  bD l.base l.len i/\∃x,xs[i.toNat]? =some x/\aT h (sat l.base sz i) (enc x):=by
 obtain ⟨p,q,g⟩:=r;have c:i.toNat<xs.length:=by omega
 have n:xs.length*sz≠0:=by
  have:0<xs.length:=by omega
  exact Nat.ne_of_gt (Nat.mul_pos this o)
 obtain ⟨a,b,k⟩:=g.resolve_left n;refine ⟨⟨by simp [b],e,f⟩,xs[i.toNat],by simp [c],λj v hv=> ?_⟩;have:=k (i.toNat*sz+j) v (IS m xs i.toNat _ (by simp [c]) j v hv);unfold sat;rw [b,Option.getD_some,rN];exact this
def Own (h0 h:Hp) (sz:Nat) (enc:α->List Value) (l:Sl) (xs:List α):Prop:=
 l.len=xs.length/\l.len<=l.cap/\((l.base=none/\l.cap=0)\/
  ∃(b:Nat) (a:List Value) (t:Nat),l.base=some ⟨b,0,none⟩/\h b=some (.cells a.toArray t (0,0))/\a.length=l.cap*sz/\a.take (l.len*sz)=xs.flatMap enc/\h0 b=none)
theorem iE (a:∀x,(enc x).length=sz):∀xs:List α,(xs.flatMap enc).length=xs.length*sz
 | []=>by simp
 | x::xs=>by simp only [List.flatMap_cons,List.length_append,a,iE a xs,List.length_cons,Nat.add_mul,Nat.one_mul];omega
theorem Ck (f:∀x,iF (enc x)=true):∀xs:List α,iF (xs.flatMap enc)=true:=by
 have app:∀a b:List Value,iF a=true->iF b=true->iF (a++b)=true:=by
  intro a b c hb
  induction a with
  | nil=>exact hb
  | cons v a e=>cases v<;>first | (exact e c) | (cases c)
 intro xs
 induction xs with
 | nil=>rfl
 | cons x xs e=>grind
theorem AV {b:Nat} {a:List Value} {t:Nat} (e:h b=some (.cells a.toArray t (0,0))) (i:Nat):cM h ⟨b,i,none⟩=a[i]?:=by unfold cM;simp [e]
theorem Own.rw {h0:Hp} (o:Own h0 h sz enc l xs) (c:∀x,(enc x).length=sz):Rw h sz enc l xs:=by
 obtain ⟨h1,g,a⟩:=o;refine ⟨h1,iE c xs,?_⟩;rcases a with ⟨e,f⟩ | ⟨b,cs,t,e,hb,i,k,_⟩
 ·grind
 ·right;refine ⟨_,e,λj v hv=> ?_⟩;rw [jD,AV hb,Nat.zero_add];grind
theorem Own.mono {h0:Hp} (j:h<=d) (o:Own h0 h sz enc l xs):Own h0 d sz enc l xs:=by obtain ⟨f,g,i⟩:=o;refine ⟨f,g,i.imp id ?_⟩;rintro ⟨b,cs,t,a,c,e⟩;exact ⟨b,cs,t,a,j _ _ c,e⟩
theorem JQ {s:Hp} {zero:List Value} {bytes:Nat} {x:Sl} {f:List α} {K:Sl->Hp->Prop} (w:s<=h) (o:Own s h sz enc l xs) (r:Rw h sz enc x f) (m:∀x,(enc x).length=sz) (U:∀x,iF (enc x)=true)
  (X:zero.length=sz) (hb:xs.length+f.length<=140737488355328/\(xs.length+f.length)*bytes<=140737488355328)
  (B:∀L d,s<=d->Own s d sz enc L (xs++f)->(∀b g,h b=some g->(∀a,l.base=some a->a.block≠b)->d b=some g)->K L d):fP sz bytes zero l x K h:=by
 have V:=o.rw m;obtain ⟨n,R,S⟩:=o;obtain ⟨p,a9⟩:=r;refine ⟨f.flatMap enc,by grind,xs.flatMap enc,by rw [n];exact V.2,by grind,Ck U f,λF=> ?_,λF c b t T E=> ?_⟩
 ·rcases S with ⟨e,Q⟩ | ⟨b,q,t,e,A,H,J,I⟩
  · -- nothing is put
   have O:f.length=0:=by omega
   have P:f=[]:=List.length_eq_zero_iff.1 O;subst P;refine ⟨λa z=>(by grind),?_⟩;have y:fG h l.base (l.len*sz) (([]:List α).flatMap enc)=h:=by rw [e];rfl
   rw [y,p];refine B _ h w ⟨by simp [n],by simpa using R,.inl ⟨e,Q⟩⟩ λ_ _ e _=>e
  ·have u:l.len*sz+(f.flatMap enc).length<=q.length:=by rw [H,iE m,<-Nat.add_mul];exact Nat.mul_le_mul_right sz (by omega)
   obtain ⟨M,p2⟩:=Lu b t (f.flatMap enc) h 0 (l.len*sz) q (by simpa using u) A;have W:∀(k:Nat),l.len*sz+k<=q.length->pG h (⟨b,l.len*sz,none⟩:Addr) k:=by
    intro k
    induction k with
    | zero=>intro _;trivial
    | succ k Z=>
     intro a8;refine ⟨Z (by omega),⟨q[l.len*sz+k]'(by omega),?_⟩,?_⟩
     ·rw [jD,AV A];simp
     ·rw [jD];unfold fY;simp [A]
   refine ⟨λa z=> ?_,?_⟩
   ·rw [e] at z;cases z;rw [jD,Nat.zero_add];refine W _ ?_;rw [p,<-iE m f];exact u
   ·have y:fG h l.base (l.len*sz) (f.flatMap enc)=jA h ⟨b,l.len*sz,none⟩ (f.flatMap enc) 0:=by rw [e];simp only [fG,jD,Nat.zero_add]
    rw [y];rw [Nat.add_zero] at M;refine B _ _ (λi g j=> ?_) ⟨by simp [n,p],F,.inr ⟨b,_,t,e,M,?_,?_,I⟩⟩ λi g j v=> ?_
    ·have v:i≠b:=λC=>by rw [C,I] at j;cases j
     rw [p2 i v];exact w _ _ j
    ·rw [So _ _ _ u,H]
    ·rw [xC _ _ _ u];have D:(l.len+x.len)*sz=(q.take (l.len*sz)++f.flatMap enc).length:=by rw [List.length_append,J,iE m,iE m,n,p,Nat.add_mul]
     rw [D,List.take_left,J,List.flatMap_append]
    grind
 ·have G:∀i g,h i=some g->(h.set b (.cells (xs.flatMap enc++f.flatMap enc++eS zero (c-(l.len+x.len))).toArray t (0,0))) i=some g:=λi g j=>by
   have v:i≠b:=λC=>by grind
   simp [Hp.set,v,j]
  refine B _ _ (λi g j=>G i g (w _ _ j)) ⟨by simp [n,p],T,.inr ⟨b,xs.flatMap enc++f.flatMap enc++eS zero (c-(l.len+x.len)),t,rfl,by simp [Hp.set],?_,?_,?_⟩⟩ λi g j _=>G i g j
  ·have Y:∀k,(eS zero k).length=k*sz:=λk=>by simp [eS,X]
   rw [List.length_append,List.length_append,iE m,iE m,Y,<-Nat.add_mul,<-Nat.add_mul];grind
  ·have D:(l.len+x.len)*sz=(xs.flatMap enc++f.flatMap enc).length:=by rw [List.length_append,iE m,iE m,n,p,Nat.add_mul]
   grind
  ·cases N:s b with
   | none=>rfl
   | some g=>rw [w _ _ N] at E;cases E
end
abbrev Rs (h:Hp) (sh:Shape) (sz:Nat) (l:Sl) (xs:List sh.T):Prop:=Rw h sz (λx=>aY (sh.enc x)) l xs
section
variable {h b:Hp} {sh:Shape} {sz:Nat} {l:Sl} {xs:List sh.T} {K:sh.T->Prop} {i:Int}
theorem Rs.get (r:Rs h sh sz l xs) (e:∀x,(aY (sh.enc x)).length=sz) (j:0<sz) (c:0<=i) (d:i<(xs.length:Int)) (f:∀x,xs[i.toNat]? =some x->K x):
  bD l.base l.len i/\aQ none sh h (sat l.base sz i) K:=by
 obtain ⟨a,x,k,g⟩:=Rw.read r e j c (by rw [r.1];exact d);exact ⟨a,x,g,f x k⟩
theorem s9 (r:Rs h sh sz l xs) (e:∀x,xs[i.toNat]? =some x->K x) (d:∀x,(aY (sh.enc x)).length=sz:=by exact λ_=>rfl) (f:0<sz:=by omega) (a:0<=i:=by omega) (c:i<(xs.length:Int):=by omega):bD l.base l.len i/\aQ none sh h (sat l.base sz i) K:=r.get d f a c e
theorem Rs.nH {c:Bool} (r:Rs h sh sz l xs) (f:sh.T) (j:∀x,(aY (sh.enc x)).length=sz) (m:0<sz) (a:c=true->0<=i/\i<(xs.length:Int)) (d:∀x,(c=true->xs[i.toNat]? =some x)->K x):
  (c=true->bD l.base l.len i)/\aQ (some c) sh h (sat l.base sz i) K:=by
 cases c with
 | false=>exact ⟨λe=>(by cases e),f,λe=>(by cases e),d f λe=>(by cases e)⟩
 | true=>obtain ⟨g,x,n,k⟩:=Rw.read r j m (a rfl).1 (by rw [r.1];exact (a rfl).2);exact ⟨λ_=>g,x,λ_=>k,d x λ_=>n⟩
theorem gF {a:Addr} (x:sh.T) (d:aT h a (aY (sh.enc x))) (c:K x):aQ none sh h a K:=⟨x,d,c⟩
theorem aI {a:Type} {x:a} {K:a->Prop} (c:K x):aG x K:=λ_ e=>e▸c
theorem wrap64 {n:Int} (a: -9223372036854775808<=n) (c:n<9223372036854775808):yw n=n:=by
 (try unfold yw);unfold IntKind.wrap
 simp only [IntKind.signed,IntKind.bits];grind
theorem aH {n:Int} (a: -9223372036854775808<=n:=by omega) (c:n<9223372036854775808:=by omega):yw n=n:=wrap64 a c
end
theorem wU {g:Type} {h0 h:Hp} {sz:Nat} {enc:g->List Value} {c:List Value} {xs:List g} {K:Addr->Hp->Prop} (p:h0<=h) (k:c=xs.flatMap enc) (f:∀x,(enc x).length=sz)
  (l:∀a d,h<=d->Own h0 d sz enc ⟨some a,xs.length,xs.length⟩ xs->K a d):bq c K h:=by
 intro b t hb;have m:h<=h.set b (.cells c.toArray t (0,0)):=λi o e=>by
  have n:i≠b:=λq=>by grind
  simp [Hp.set,n,e]
 refine l _ _ m ⟨rfl,Nat.le_refl _,.inr ⟨b,c,t,rfl,by simp [Hp.set],?_,?_,?_⟩⟩
 ·rw [k,iE f]
 ·have:(xs.length*sz)=(xs.flatMap enc).length:=(iE f xs).symm;grind
 ·cases j:h0 b with
  | none=>rfl
  | some r=>rw [p _ _ j] at hb;cases hb
abbrev nx (x:Int):Prop:=0<=x/\x<18446744073709551616
def bit (x:Int) (n:Nat):Bool:=x.toNat.testBit n
theorem uq {x:Int} (h:nx x):IntKind.wrap .u64 x=x:=by
 (try unfold yw);unfold IntKind.wrap
 simp only [IntKind.signed,IntKind.bits];have:=h.1;have:=h.2;simp;omega
theorem HE {x:Int} (h:nx x):BitVec.ofInt 64 x=BitVec.ofNat 64 x.toNat:=by obtain ⟨n,rfl⟩:=Int.eq_ofNat_of_zero_le h.1;rfl
theorem NS {x n:Int} (h:nx x) (c:0<=n) (f:n<=63):(de .and .u64 (fW .u64 x n) 1==1)=bit x n.toNat:=by
 obtain ⟨X,rfl⟩:=Int.eq_ofNat_of_zero_le h.1;obtain ⟨N,rfl⟩:=Int.eq_ofNat_of_zero_le c;have d:X<18446744073709551616:=by have:=h.2;omega
 have g:N<=63:=by omega
 have a:fW .u64 (X:Int) (N:Int)=((X / 2^N:Nat):Int):=by
  unfold fW;have:min (N:Int).toNat (IntKind.bits .u64)=N:=by simp [IntKind.bits];omega
  rw [this,Int.fdiv_eq_ediv_of_nonneg _ (by exact Int.pow_nonneg (by decide))]
  norm_cast
 rw [a];have e:X / 2^N<18446744073709551616:=Nat.lt_of_le_of_lt (Nat.div_le_self _ _) d;have b:((BitVec.ofInt (IntKind.bits .u64) ((X / 2^N:Nat):Int)&&&BitVec.ofInt (IntKind.bits .u64) 1).toNat)=(X / 2^N)%2:=by show ((BitVec.ofNat 64 (X / 2^N))&&&(BitVec.ofNat 64 1)).toNat=_;rw [BitVec.toNat_and,BitVec.toNat_ofNat,BitVec.toNat_ofNat,Nat.mod_eq_of_lt e];exact Nat.and_one_is_mod _
 simp only [de,b];rw [uq ⟨by omega,by omega⟩];simp only [bit,Int.toNat_natCast,Nat.testBit_eq_decide_div_mod_eq];by_cases hb:(X / 2^N)%2=1
 ·simp [hb]
 ·have:(X / 2^N)%2=0:=by omega
  simp [this]
theorem JR {a b:Int} (j:nx a) (hb:nx b):(de .andNot .u64 a b==0)=true↔∀n,n<64->bit a n=true->bit b n=true:=by
 have e:de .andNot .u64 a b=(((BitVec.ofNat 64 a.toNat)&&& ~~~ (BitVec.ofNat 64 b.toNat)).toNat:Int):=by show IntKind.wrap .u64 ((BitVec.ofInt 64 a&&& ~~~ BitVec.ofInt 64 b).toNat:Int)=_;rw [HE j,HE hb,uq ⟨by omega,by have:=((BitVec.ofNat 64 a.toNat)&&& ~~~ (BitVec.ofNat 64 b.toNat)).isLt;omega⟩]
 rw [e];have i:((((BitVec.ofNat 64 a.toNat)&&& ~~~ (BitVec.ofNat 64 b.toNat)).toNat:Int)==0)=true↔(BitVec.ofNat 64 a.toNat)&&& ~~~ (BitVec.ofNat 64 b.toNat)=0#64:=by rw [BitVec.toNat_eq];simp
 rw [i];have f:∀n,n<64->(BitVec.ofNat 64 a.toNat).getLsbD n=bit a n:=λn c=>by rw [BitVec.getLsbD_ofNat];simp [bit,c]
 have g:∀n,n<64->(BitVec.ofNat 64 b.toNat).getLsbD n=bit b n:=λn c=>by rw [BitVec.getLsbD_ofNat];simp [bit,c]
 constructor
 ·intro h n c d;have:=congrArg (λv=>v.getLsbD n) h;simp only [BitVec.getLsbD_and,BitVec.getLsbD_not,f n c,g n c,d,c,decide_true,Bool.true_and,BitVec.getLsbD_zero] at this;simpa using this
 ·intro h;apply BitVec.eq_of_getLsbD_eq;intro n c;simp only [BitVec.getLsbD_and,BitVec.getLsbD_not,f n c,g n c,c,decide_true,Bool.true_and,BitVec.getLsbD_zero];cases d:bit a n with
  | false=>rfl
  | true=>simp [h n c d]
def nO (h b:Hp):Prop:=∀a v,cM h a=some v->cM b a=some v
theorem nO.of_le {h a:Hp} (b:h<=a):nO h a:=λ_ _ e=>G5 b e
theorem JS {h c:Hp} (d:nO h c) {a:Addr} {b:List Value} (e:aT h a b):aT c a b:=λi v hv=>d _ _ (e i v hv)
theorem Rw.ck {d:Type} {h b:Hp} {sz:Nat} {enc:d->List Value} {l:Sl} {c:List d} (k:nO h b) (r:Rw h sz enc l c):Rw b sz enc l c:=by obtain ⟨e,f,g⟩:=r;refine ⟨e,f,g.imp id ?_⟩;rintro ⟨a,i,j⟩;exact ⟨a,i,JS k j⟩
theorem Pw {h:Hp} {m:Nat} {o b:Obj} (e:h m=some o) (f:isCells o=false):nO h (h.set m b):=by
 intro a v hv;obtain ⟨c,t,fr,hb,j,i⟩:=CG hv;have g:a.block≠m:=λd=>by rw [d,e] at hb;cases hb;cases f
 unfold cM at hv ⊢;have:(h.set m b) a.block=h a.block:=by simp [Hp.set,g]
 rw [this];exact hv
theorem kP {h:Hp} {b:Nat} {o:Obj} (d:h b=none):h<=h.set b o:=λa g e=>by
 have f:a≠b:=λc=>by rw [c,d] at e;cases e
 simp [Hp.set,f,e]
theorem lP {h:Hp} {b:Nat} {o:Obj}:(h.set b o) b=some o:=by simp [Hp.set]
theorem IU {h a:Hp} {b:Nat} {o:Obj} (f:a<=h) (g:a b=none):a<=h.set b o:=λc j e=>by
 have i:c≠b:=λd=>by rw [d,g] at e;cases e
 simp only [Hp.set,i,if_false];exact f _ _ e
theorem uK {a h:Hp} {b:Nat} (d:a<=h) (c:h b=none):a b=none:=by
 cases e:a b with
 | none=>rfl
 | some o=>rw [d _ _ e] at c;cases c
theorem xk {h:Hp} {b t:Nat} {cs:List Value}:aT (h.set b (.cells cs.toArray t (0,0))) ⟨b,0,none⟩ cs:=λi v hv=>by rw [jD,AV lP,Nat.zero_add];exact hv
theorem yW {a:Type} {A:(a->Hp->Prop)->Hp->Prop} {K:a->Hp->Prop} {h:Hp} (b:A K h):dA (some true) A K h:=⟨λ_=>b,λe=>by cases e⟩
theorem LN {a:Type} {b:Bool} {A:(a->Hp->Prop)->Hp->Prop} {K:a->Hp->Prop} {h:Hp} (hb:b=true) (c:A K h):dA (some b) A K h:=⟨λ_=>c,λe=>by rw [hb] at e;cases e⟩
theorem aK {p:Addr} {c:Option Bool} {K:Addr->Prop} (a:K p):ag c (some p) K:=by
 refine ⟨p,?_,a⟩;cases c with
 | none=>rfl
 | some b=>exact λ_=>rfl
theorem uS {P:Program} {t:Nat} {d:TypeDesc} (b:P.underlying t=some d) {K:TypeDesc->Hp->Prop} {h:Hp} (a:K d h):bF P (underlying t) K h:=by
 show bF P (match P.underlying t with
  | some d=>Sem.pure d
  | none=>_) K h
 rw [b];exact a
theorem Lx {P:Program} {tb:Tb} (ok:tb.Ok P) {t:Nat} {e:Ty} (f:tb.ty t=some e) {K:Value->Hp->Prop} {h:Hp} (g:K e.zero h):bF P (zeroValue t) K h:=by
 obtain ⟨i,b,_,_,c⟩:=ok.info t e f;have key:bF P (match P.info? t with
  | some d=>(match d.zero with
   | some v=>Sem.pure v
   | none=>unsupported (.resourceLimit "a value of more than 2^22 cells"))
  | none=>stuck "no such type") K h:=by
  rw [b];dsimp only;rw [c];exact g
 cases a:P.info? t with
 | none=>rw [b] at a;cases a
 | some d=>
  rw [a] at key;show bF P (Sem.bind (match P.info? t with
   | some d=>Sem.pure d
   | none=>_) _) K h
  rw [a];exact key
theorem Ub {P:Program} {s:Sem Value} {h:Hp} {v:Value} (e:bF P s (λu b=>u=v/\b=h) h):iK P s h v:=by intro w g;obtain ⟨a,j,b,f,⟨c,d⟩,i⟩:=IQ s g e;subst c;subst d;exact ⟨j,f,i⟩
theorem US {P:Program} {s:Sem Value} {h:Hp} {v:Value} (a:∀w,s.run P w=.ok v w):iK P s h v:=λw b=>⟨w,a w,.refl b⟩
theorem Lc {P:Program} {t e:Nat} {x y:Operand} {h:Hp} (g:P.underlying t=some (.slice e)) (s:Sl):iK P (cW .eql t x y s.v (.slice none 0 0)) h (.bool s.base.isNone):=by
 have key:∀d,bF P (Op.equalIn (d+1) t s.v (.slice none 0 0)) (λu c=>u=s.base.isNone/\c=h) h:=by
  intro d;unfold Op.equalIn;refine (jB _ _).2 (uS g ?_);cases hb:s.base with
  | none=>simp only [Sl.v,hb];exact ⟨rfl,rfl⟩
  | some a=>simp only [Sl.v,hb];exact ⟨rfl,rfl⟩
 refine Ub ?_;show bF P (Sem.bind (Op.equal t s.v (.slice none 0 0)) λb=>Sem.pure (Value.bool b)) _ h;refine (jB _ _).2 (Am _ (λa k f=> ?_) (key 9999));obtain ⟨rfl,rfl⟩:=f;exact ⟨rfl,rfl⟩
theorem U7 {h:Hp} {a:Addr} {b:List Value} (e:aT h a b) (n:Nat):aT h (a.add n) (b.drop n):=λi v hv=>by rw [rN];exact e (n+i) v (by simpa [List.getElem?_drop] using hv)
theorem xh {c:Type} {sz:Nat} {enc:c->List Value} (b:∀x,(enc x).length=sz):∀(a:List c) (n:Nat),(a.drop n).flatMap enc=(a.flatMap enc).drop (n*sz)
 | [],n=>by simp
 | x::a,0=>by simp
 | x::a,n+1=>by simp only [List.drop_succ_cons,List.flatMap_cons];have e:(enc x).drop (n*sz+sz)=[]:=List.drop_eq_nil_of_le (by rw [b];omega);rw [xh b a n,Nat.add_mul,Nat.one_mul,List.drop_append,b,e,List.nil_append,Nat.add_sub_cancel]
theorem yp {c:Type} {sz:Nat} {enc:c->List Value} (b:∀x,(enc x).length=sz):∀(a:List c) (n:Nat),(a.take n).flatMap enc=(a.flatMap enc).take (n*sz)
 | [],n=>by simp
 | x::a,0=>by simp
 | x::a,n+1=>by simp only [List.take_succ_cons,List.flatMap_cons];have e:(enc x).take (n*sz+sz)=enc x:=List.take_of_length_le (by rw [b];omega);rw [yp b a n,Nat.add_mul,Nat.one_mul,List.take_append,b,e,Nat.add_sub_cancel]
theorem Rw.cut {k:Type} {h:Hp} {sz:Nat} {enc:k->List Value} {l:Sl} {d:List k} (r:Rw h sz enc l d) (g:∀x,(enc x).length=sz) {a b c n m:Nat} (z:a<=b) (hb:b<=d.length) (B:b<=c) (s:n=b-a):
  Rw h sz enc ⟨aS l.base sz a c,n,m⟩ ((d.drop a).take (b-a)):=by
 obtain ⟨w,y,o⟩:=r;have j:((d.drop a).take (b-a)).length=b-a:=by rw [List.length_take,List.length_drop];omega
 refine ⟨s.trans j.symm,iE g _,?_⟩;rw [j];by_cases f:(b-a)*sz=0
 ·exact .inl f
 ·right;have A:b-a≠0:=λe=>f (by rw [e,Nat.zero_mul]);have t:sz≠0:=λe=>f (by rw [e,Nat.mul_zero]);have u:d.length*sz≠0:=Nat.mul_ne_zero (by omega) t;obtain ⟨p,hp,q⟩:=o.resolve_left u;refine ⟨p.add (a*sz),?_,λi v hv=> ?_⟩
  ·unfold aS;rw [if_neg (show ¬c=a by omega),hp];rfl
  ·rw [yp g,xh g,List.getElem?_take] at hv;split at hv
   ·exact U7 q (a*sz) i v hv
   ·cases hv
structure Mv (F:List Nat) (h:Hp) (F':List Nat) (h':Hp):Prop where
 cv:∀b o,h b=some o->b∉F->h' b=some o
 from_:∀b∈F',b∈F\/h b=none
theorem Mv.refl (F:List Nat) (h:Hp):Mv F h F h:=⟨λ_ _ e _=>e,λ_ e=>.inl e⟩
theorem Mv.trans {F d f:List Nat} {h g j:Hp} (a:Mv F h d g) (b:Mv d g f j):Mv F h f j:=by
 refine ⟨λi o e c=>b.cv i o (a.cv i o e c) λk=> ?_,λi l=> ?_⟩
 ·rcases a.from_ i k with h1 | h1
  ·exact c h1
  grind
 ·rcases b.from_ i l with h1 | h1
  ·exact a.from_ i h1
  ·cases e:h i with
   | none=>exact .inr rfl
   | some o=>left;refine Classical.byContradiction λc=> ?_;rw [a.cv i o e c] at h1;cases h1
theorem Mv.of_le {h a:Hp} (F:List Nat) (c:h<=a):Mv F h F a:=⟨λb o e _=>c b o e,λ_ e=>.inl e⟩
theorem Mv.le {F c:List Nat} {h0 h d:Hp} (a:Mv F h c d) (f:h0<=h) (g:∀b∈F,h0 b=none):h0<=d/\∀b∈c,h0 b=none:=by
 refine ⟨λb o e=>a.cv b o (f b o e) λhb=>(by grind),λb hb=> ?_⟩;rcases a.from_ b hb with h1 | h1
 ·exact g b h1
 ·exact uK f h1
theorem Mv.wide {F c:List Nat} {h d:Hp} (a:Mv F h c d) (G:List Nat):Mv (F++G) h (c++G) d:=
 ⟨λb o e f=>a.cv b o e λhb=>f (List.mem_append_left _ hb),λb hb=>by
  rcases List.mem_append.1 hb with hb | hb
  ·rcases a.from_ b hb with h1 | h1
   ·exact .inl (List.mem_append_left _ h1)
   ·exact .inr h1
  grind⟩
theorem Mv.sub {F c G d:List Nat} {h f:Hp} (a:Mv F h c f) (g:∀b∈F,b∈G) (i:∀b∈d,b∈c\/b∈G\/h b=none):Mv G h d f:=
 ⟨λb o e j=>a.cv b o e λhb=>j (g b hb),λb hb=>by
  rcases i b hb with h3 | h3
  ·rcases a.from_ b h3 with h4 | h4
   ·grind
   ·exact .inr h4
  ·exact h3⟩
theorem Mv.set {h:Hp} {b:Nat} {o:Obj}:Mv [b] h [b] (h.set b o):=by refine ⟨λi x e c=> ?_,λi a=>.inl a⟩;have d:i≠b:=λf=>c (by grind);simp only [Hp.set,d,if_false];exact e
theorem Mv.new {h:Hp} {b:Nat} {o:Obj} (a:h b=none):Mv [] h [b] (h.set b o):=
 ⟨λi x e _=>kP a i x e,λi c=>.inr (by grind)⟩
def fH (h:Hp) (b:Nat) (a:List Value):Prop:=∃t,h b=some (.cells a.toArray t (0,0))
theorem fH.mv {F f:List Nat} {h d:Hp} {b:Nat} {c:List Value} (k:fH h b c) (a:Mv F h f d) (g:b∉F):fH d b c:=by obtain ⟨t,e⟩:=k;exact ⟨t,a.cv b _ e g⟩
theorem fH.le {h a:Hp} {b:Nat} {cs:List Value} (k:fH h b cs) (c:h<=a):fH a b cs:=by obtain ⟨t,e⟩:=k;exact ⟨t,c _ _ e⟩
theorem fH.known {h:Hp} {b:Nat} {a:List Value} (k:fH h b a):h b≠none:=by obtain ⟨t,e⟩:=k;rw [e];simp
def at_ (b off:Nat):Addr:=⟨b,off,none⟩
theorem fH.mY {h:Hp} {b:Nat} {cs:List Value} (k:fH h b cs) {off n:Nat} {a:List Value} (e:(cs.drop off).take n=a):aT h ⟨b,off,none⟩ a:=by obtain ⟨t,hb⟩:=k;intro i v hv;rw [jD,AV hb];grind
theorem fH.qR {h:Hp} {b:Nat} {a:List Value} (k:fH h b a) {off:Nat}:∀n,off+n<=a.length->pG h ⟨b,off,none⟩ n
 | 0,_=>trivial
 | n+1,c=>by
  obtain ⟨t,hb⟩:=k;refine ⟨fH.qR ⟨t,hb⟩ n (by omega),⟨a[off+n]'(by omega),?_⟩,?_⟩
  ·rw [jD,AV hb];simp
  ·rw [jD];unfold fY;simp [hb]
theorem fH.put {h:Hp} {b:Nat} {a new:List Value} (k:fH h b a) {off:Nat} (d:off+new.length<=a.length):
  fH (jA h ⟨b,off,none⟩ new 0) b (a.take off++new++a.drop (off+new.length))/\∀c,c≠b->(jA h ⟨b,off,none⟩ new 0) c=h c:=by
 obtain ⟨t,hb⟩:=k;obtain ⟨e,f⟩:=Lu b t new h 0 off a (by simpa using d) hb;rw [Nat.add_zero,xC _ _ _ d] at e;exact ⟨⟨t,e⟩,f⟩
theorem Mv.jR {h c:Hp} {b:Nat} (g:∀a,a≠b->c a=h a):Mv [b] h [b] c:=
 ⟨λi o e f=>by grind,λi d=>.inl d⟩
theorem yv {h:Hp} {b:Nat} {cs new:List Value} {off:Nat} {K:Hp->Prop} (k:fH h b cs) (c:off+new.length<=cs.length)
  (d:∀a,Mv [b] h [b] a->fH a b (cs.take off++new++cs.drop (off+new.length))->K a):cq h ⟨b,off,none⟩ new K:=by
 obtain ⟨e,f⟩:=k.put c;exact ⟨k.qR _ c,d _ (Mv.jR f) e⟩
section
variable {α:Type} {h:Hp} {sz:Nat} {enc:α->List Value} {l:Sl} {xs:List α}
def cT (h:Hp) (sz:Nat) (enc:α->List Value) (l:Sl) (xs:List α) (F:List Nat):Prop:=
 l.len=xs.length/\l.len<=l.cap/\((l.base=none/\l.cap=0/\F=[])\/
  ∃(b:Nat) (a:List Value),l.base=some ⟨b,0,none⟩/\F=[b]/\fH h b a/\a.length=l.cap*sz/\a.take (l.len*sz)=xs.flatMap enc)
theorem cT.own {F:List Nat} {h0:Hp} (o:cT h sz enc l xs F) (m:∀b∈F,h0 b=none):Own h0 h sz enc l xs:=by
 obtain ⟨d,e,f⟩:=o;refine ⟨d,e,?_⟩;rcases f with ⟨a,c,_⟩ | ⟨b,g,a,rfl,⟨t,i⟩,j,k⟩
 ·exact .inl ⟨a,c⟩
 grind
theorem cT.rw {F:List Nat} (o:cT h sz enc l xs F) (a:∀x,(enc x).length=sz):Rw h sz enc l xs:=(o.own (h0:=λ_=>none) λ_ _=>rfl).rw a
theorem Own.v7 {c:Hp} (o:Own c h sz enc l xs):∃F,cT h sz enc l xs F/\∀b∈F,c b=none:=by
 obtain ⟨d,e,m⟩:=o;rcases m with ⟨a,g⟩ | ⟨b,f,t,a,i,j,k,p⟩
 ·exact ⟨[],⟨d,e,.inl ⟨a,g,rfl⟩⟩,λb hb=>by cases hb⟩
 ·exact ⟨[b],⟨d,e,.inr ⟨b,f,a,rfl,⟨t,i⟩,j,k⟩⟩,λn hb=>by grind⟩
theorem cT.known {F:List Nat} (o:cT h sz enc l xs F):∀b∈F,h b≠none:=by
 obtain ⟨_,_,c⟩:=o;rcases c with ⟨_,_,rfl⟩ | ⟨b,e,_,rfl,a,_,_⟩
 ·simp
 ·intro d hb;rw [List.mem_singleton.1 hb];exact a.known
theorem cT.same {F:List Nat} {a:Hp} (o:cT h sz enc l xs F) (k:∀b∈F,a b=h b):cT a sz enc l xs F:=by obtain ⟨f,g,i⟩:=o;refine ⟨f,g,i.imp id ?_⟩;rintro ⟨b,c,d,rfl,⟨t,j⟩,e⟩;exact ⟨b,c,d,rfl,⟨t,by grind⟩,e⟩
theorem cT.mv {F G d:List Nat} {c:Hp} (o:cT h sz enc l xs F) (a:Mv G h d c) (n:∀b∈F,b∉G):cT c sz enc l xs F:=by obtain ⟨j,k,m⟩:=o;refine ⟨j,k,m.imp id ?_⟩;rintro ⟨b,e,f,rfl,g,i⟩;exact ⟨b,e,f,rfl,g.mv a (n b (List.mem_singleton.2 rfl)),i⟩
theorem zf {c:List Value} {K:Addr->Hp->Prop} (e:c=xs.flatMap enc) (d:∀x,(enc x).length=sz)
  (f:∀b a,h b=none->h<=a->Mv [] h [b] a->cT a sz enc ⟨some ⟨b,0,none⟩,xs.length,xs.length⟩ xs [b]->K ⟨b,0,none⟩ a):bq c K h:=by
 intro b t hb;refine f b _ hb (kP hb) (Mv.new hb) ⟨rfl,Nat.le_refl _,.inr ⟨b,c,rfl,rfl,⟨t,lP⟩,?_,?_⟩⟩
 ·rw [e,iE d]
 ·have:(xs.length*sz)=(xs.flatMap enc).length:=(iE d xs).symm;grind
theorem vL {F:List Nat} {zero:List Value} {bytes:Nat} {x:Sl} {d:List α} {K:Sl->Hp->Prop} (o:cT h sz enc l xs F) (r:Rw h sz enc x d) (f:∀x,(enc x).length=sz) (J:∀x,iF (enc x)=true)
  (N:zero.length=sz) (hb:xs.length+d.length<=140737488355328/\(xs.length+d.length)*bytes<=140737488355328)
  (n:∀w k p,cT k sz enc w (xs++d) p->Mv F h p k->K w k):fP sz bytes zero l x K h:=by
 have L:=o.rw f;obtain ⟨g,C,D⟩:=o;obtain ⟨i,Q⟩:=r;refine ⟨d.flatMap enc,by grind,xs.flatMap enc,by rw [g];exact L.2,by grind,Ck J d,λu=> ?_,λu c b t G E=> ?_⟩
 ·rcases D with ⟨e,B,rfl⟩ | ⟨b,q,e,rfl,s,H,M⟩
  ·have y:d.length=0:=by omega
   have z:d=[]:=List.length_eq_zero_iff.1 y;subst z;refine ⟨λa m=>(by grind),?_⟩;have j:fG h l.base (l.len*sz) (([]:List α).flatMap enc)=h:=by rw [e];rfl
   rw [j,i];exact n _ h [] ⟨by simp [g],by simpa using C,.inl ⟨e,B,rfl⟩⟩ (Mv.refl _ _)
  ·have v:l.len*sz+(d.flatMap enc).length<=q.length:=by rw [H,iE f,<-Nat.add_mul];exact Nat.mul_le_mul_right sz (by omega)
   obtain ⟨O,P⟩:=s.put v;refine ⟨λa m=> ?_,?_⟩
   ·rw [e] at m;cases m;rw [jD,Nat.zero_add];refine s.qR _ ?_;rw [i,<-iE f d];exact v
   ·have j:fG h l.base (l.len*sz) (d.flatMap enc)=jA h ⟨b,l.len*sz,none⟩ (d.flatMap enc) 0:=by rw [e];simp only [fG,jD,Nat.zero_add]
    rw [j];refine n _ _ [b] ⟨by simp [g,i],u,.inr ⟨b,_,e,rfl,O,?_,?_⟩⟩ (Mv.jR P)
    ·grind
    ·have A:(l.len+x.len)*sz=(q.take (l.len*sz)++d.flatMap enc).length:=by rw [List.length_append,M,iE f,iE f,g,i,Nat.add_mul]
     grind
 ·have I:Mv F h [b] (h.set b (.cells (xs.flatMap enc++d.flatMap enc++eS zero (c-(l.len+x.len))).toArray t (0,0))):=
   (Mv.new E).sub (λb hb=>by cases hb) λb hb=>.inl hb
  refine n _ _ [b] ⟨by simp [g,i],G,.inr ⟨b,xs.flatMap enc++d.flatMap enc++eS zero (c-(l.len+x.len)),rfl,rfl,⟨t,lP⟩,?_,?_⟩⟩ I
  ·rw [List.length_append,List.length_append,iE f,iE f,wO,N,<-Nat.add_mul,<-Nat.add_mul];grind
  ·have A:(l.len+x.len)*sz=(xs.flatMap enc++d.flatMap enc).length:=by rw [List.length_append,iE f,iE f,g,i,Nat.add_mul]
   grind
end
end Lf
namespace Lf
open Go Go.Proofs Tryz
section
variable {h:Hp} {a:Nat}
theorem Kb (x:Int):IntKind.wrap .u64 x=x%18446744073709551616:=rfl
theorem DK (x:Int) (n:Nat) (b:n<=64):fW .u64 x (n:Int)=x / 2^n:=by unfold fW;rw [show min ((n:Int)).toNat IntKind.u64.bits=n by have:IntKind.u64.bits=64:=rfl;omega];exact Int.fdiv_eq_ediv_of_nonneg _ (by have:=Int.pow_pos (n:=2) (m:=n) (by decide);omega)
theorem U8 :IntKind.u64.bits=64:=rfl
theorem IV (b:a<18446744073709551616):(BitVec.ofInt 64 ((a:Nat):Int)).toNat=a:=by rw [BitVec.ofInt_natCast,BitVec.toNat_ofNat];exact Nat.mod_eq_of_lt b
theorem uU (b:a<18446744073709551616):IntKind.wrap .u64 ((a:Nat):Int)=a:=by rw [Kb];omega
theorem U9 {a:Nat} (k:Nat) (b:a<18446744073709551616) (c:k<=64):de .and .u64 (a:Int) ((2^k-1:Nat):Int)=((a%2^k:Nat):Int):=by have d:2^k<=2^64:=Nat.pow_le_pow_right (by decide) c;have hp:=Nat.two_pow_pos k;unfold de;dsimp only;rw [U8,BitVec.toNat_and,IV b,IV (by omega),Nat.and_two_pow_sub_one_eq_mod,uU];omega
theorem B9 {a:Nat} (b:a<18446744073709551616):de .and .u64 (a:Int) (4294967295:Int)=((a%4294967296:Nat):Int):=by have e:=U9 32 b (by decide);omega
theorem DJ (x:Nat) {n:Nat} (b:n<=64):fW .u64 (x:Int) (n:Int)=((x / 2^n:Nat):Int):=by rw [DK _ n b];norm_cast
theorem uE (x:Nat):fW .u64 (x:Int) (32:Int)=((x / 4294967296:Nat):Int):=by have e:=DJ x (n:=32) (by decide);omega
theorem wV {a b n m:Nat} (c:a<=n) (hb:b<=m):a*b<=n*m:=Nat.mul_le_mul c hb
theorem Va {a b c d:Nat} (e:a<=18446744065119617025) (hb:b<=18446744065119617025) (f:c<=18446744065119617025) (g:d<=18446744065119617025):
  a+(b+d / 4294967296) / 4294967296+((b+d / 4294967296)%4294967296+c) / 4294967296=(a*18446744073709551616+(b+c)*4294967296+d) / 18446744073709551616:=by
 omega
theorem Vb {x y:Nat} {Q:Int->Int->Hp->Prop} (z:x<18446744073709551616) (A:y<18446744073709551616) (q:Q ((x*y / 18446744073709551616:Nat):Int) ((x*y%18446744073709551616:Nat):Int) h):Gr prog x y Q h:=by
 unfold Gr;refine ⟨by decide,by decide,by decide,by decide,by decide,?_⟩;rw [uE,uE,B9 z,B9 A];have r:x*y=(x / 4294967296*(y / 4294967296))*18446744073709551616+(x / 4294967296*(y%4294967296)+x%4294967296*(y / 4294967296))*4294967296+x%4294967296*(y%4294967296):=by
  have B:x=x / 4294967296*4294967296+x%4294967296:=by omega
  have C:y=y / 4294967296*4294967296+y%4294967296:=by omega
  grind
 have g:x / 4294967296<=4294967295:=by omega
 have i:y / 4294967296<=4294967295:=by omega
 have j:x%4294967296<=4294967295:=by omega
 have k:y%4294967296<=4294967295:=by omega
 have s:=wV g i;have hb:=wV g k;have t:=wV j i;have w:=wV j k;have p:IntKind.wrap .u64 ((x:Int)*(y:Int))=((x*y%18446744073709551616:Nat):Int):=by rw [Kb,show (x:Int)*(y:Int)=((x*y:Nat):Int) by norm_cast];omega
 rw [p];have f:=Va s hb t w;rw [<-r] at f;rw [<-f] at q;have l:((x / 4294967296:Nat):Int)*((y / 4294967296:Nat):Int)=((x / 4294967296*(y / 4294967296):Nat):Int):=by norm_cast
 have m:((x / 4294967296:Nat):Int)*((y%4294967296:Nat):Int)=((x / 4294967296*(y%4294967296):Nat):Int):=by norm_cast
 have n:((x%4294967296:Nat):Int)*((y / 4294967296:Nat):Int)=((x%4294967296*(y / 4294967296):Nat):Int):=by norm_cast
 have o:((x%4294967296:Nat):Int)*((y%4294967296:Nat):Int)=((x%4294967296*(y%4294967296):Nat):Int):=by norm_cast
 rw [l,m,n,o];clear l m n o f r p;generalize x / 4294967296*(y / 4294967296)=a at*;generalize x / 4294967296*(y%4294967296)=b at*;generalize x%4294967296*(y / 4294967296)=c at*;generalize x%4294967296*(y%4294967296)=d at*;have e:∀ {u v:Nat},u+v<18446744073709551616->IntKind.wrap .u64 ((u:Int)+(v:Int))=((u+v:Nat):Int):=λ{u v} D=>by rw [Kb];omega
 rw [uU (a:=a) (by omega),uU (a:=b) (by omega),uU (a:=c) (by omega),uU (a:=d) (by omega),uE,e (u:=b) (by omega),uE,B9 (by omega),e (u:=(b+d / 4294967296)%4294967296) (v:=c) (by omega),uE,e (u:=a) (by omega),e (by omega)];exact q
end
end Lf
namespace Lf
def pd (T:List Int) (p:Int) (m:Nat):Nat:=(T.take m).countP λz=>decide (z=p)
def gO (T:List Int) (p:Int) (j:Nat):Bool:=decide (T[j%T.length]? =some p)
def qu (T:List Int) (p:Int) (t:Nat):Nat:=t / T.length*pd T p T.length+pd T p (t%T.length)
def lj (T:List Int) (p:Int):Nat->Nat->Nat
 | _,0=>0
 | j,f+1=>if gO T p j then 0 else lj T p (j+1) f+1
def gN (T:List Int) (p:Int):Nat->Nat
 | 0=>0
 | m+1=>max (gN T p m) (lj T p m T.length+1)
section
variable {T:List Int} {p:Int}
theorem IX {m:Nat} {v:Int} (h:T[m]? =some v):pd T p (m+1)=pd T p m+if v=p then 1 else 0:=by unfold pd;rw [List.take_add_one,h,List.countP_append];by_cases hv:v=p<;>simp [hv]
theorem SC (a:0<T.length) (t:Nat):qu T p (t+1)=qu T p t+if gO T p t then 1 else 0:=by
 have h:t%T.length<T.length:=Nat.mod_lt _ a;have hv:T[t%T.length]? =some T[t%T.length]:=List.getElem?_eq_getElem h;have b:=IX (p:=p) hv;have i:gO T p t=decide (T[t%T.length]=p):=by unfold gO;rw [hv];simp
 have e:=Nat.div_add_mod t T.length;rw [i];unfold qu;by_cases c:t%T.length+1<T.length
 ·have d:(t+1)%T.length=t%T.length+1:=by rw [show t+1=T.length*(t / T.length)+(t%T.length+1) by omega,Nat.mul_add_mod,Nat.mod_eq_of_lt c]
  have f:(t+1) / T.length=t / T.length:=by rw [show t+1=T.length*(t / T.length)+(t%T.length+1) by omega,Nat.mul_add_div a,Nat.div_eq_of_lt c];omega
  rw [d,f,b];by_cases hp:T[t%T.length]=p<;>simp [hp,Nat.add_assoc]
 ·have c:t%T.length+1=T.length:=by omega
  have d:(t+1)%T.length=0:=by rw [show t+1=T.length*(t / T.length)+T.length by omega,Nat.mul_add_mod,Nat.mod_self]
  have f:(t+1) / T.length=t / T.length+1:=by rw [show t+1=T.length*(t / T.length)+T.length by omega,Nat.mul_add_div a,Nat.div_self a]
  rw [d,f,Nat.succ_mul];rw [c] at b;have g:pd T p 0=0:=rfl;rw [g];by_cases hp:T[t%T.length]=p
  ·simp only [hp,if_true,decide_true] at b ⊢;omega
  ·simp only [hp,if_false,decide_false] at b ⊢;simp only [Bool.false_eq_true,if_false];omega
theorem wW (c:0<T.length) (f:Nat):∀g:Nat,qu T p f<=qu T p (f+g)/\(qu T p f<qu T p (f+g)↔∃k,k<g/\gO T p (f+k)=true)
 | 0=>⟨Nat.le_refl _,⟨λh=>absurd h (Nat.lt_irrefl _),λ⟨_,h,_⟩=>absurd h (Nat.not_lt_zero _)⟩⟩
 | g+1=>by
  obtain ⟨j,b⟩:=wW c f g;have i:=SC (p:=p) c (f+g);rw [<-Nat.add_assoc,i];by_cases hb:gO T p (f+g)=true
  ·rw [if_pos hb];exact ⟨by omega,⟨λ_=>⟨g,by omega,hb⟩,λ_=>by omega⟩⟩
  ·rw [if_neg hb];refine ⟨by omega,⟨λh=> ?_,λ⟨k,d,a⟩=> ?_⟩⟩
   ·obtain ⟨k,d,a⟩:=b.1 (by omega);exact ⟨k,by omega,a⟩
   ·have:k≠g:=λe=>hb (by rw [<-e];exact a);have:=b.2 ⟨k,by omega,a⟩;omega
theorem uF :∀(f j:Nat),(∃k,k<f/\gO T p (j+k)=true)->lj T p j f<f/\gO T p (j+lj T p j f)=true
 | 0,_,⟨_,h,_⟩=>absurd h (Nat.not_lt_zero _)
 | f+1,j,⟨k,d,c⟩=>by
  unfold lj;by_cases hb:gO T p j=true
  ·rw [if_pos hb];exact ⟨by omega,hb⟩
  ·rw [if_neg hb];have g:k≠0:=λe=>hb (by rw [e] at c;exact c);obtain ⟨a,b⟩:=uF f (j+1) ⟨k-1,by omega,by rw [show j+1+(k-1)=j+k by omega];exact c⟩;exact ⟨by omega,by rw [show j+(lj T p (j+1) f+1)=j+1+lj T p (j+1) f by omega];exact b⟩
theorem Ab :∀(f j k:Nat),k<lj T p j f->gO T p (j+k)=false
 | 0,_,_,h=>absurd h (Nat.not_lt_zero _)
 | f+1,j,k,h=>by
  unfold lj at h;by_cases hb:gO T p j=true
  ·rw [if_pos hb] at h;exact absurd h (Nat.not_lt_zero _)
  ·rw [if_neg hb] at h;cases k with
   | zero=>simpa using hb
   | succ k=>have:=Ab f (j+1) k (by omega);rw [show j+(k+1)=j+1+k by omega];exact this
theorem Ly (hp:p∈T) (j:Nat):∃k,k<T.length/\gO T p (j+k)=true:=by
 obtain ⟨i,a,e⟩:=List.getElem_of_mem hp;have b:0<T.length:=by omega
 have f:j%T.length<T.length:=Nat.mod_lt _ b;have hv:T[i]? =some p:=by rw [List.getElem?_eq_getElem a,e]
 have c:=Nat.div_add_mod j T.length;by_cases d:j%T.length<=i
 ·refine ⟨i-j%T.length,by omega,?_⟩;unfold gO;rw [show j+(i-j%T.length)=T.length*(j / T.length)+i by omega,Nat.mul_add_mod,Nat.mod_eq_of_lt a];exact decide_eq_true hv
 ·refine ⟨T.length+i-j%T.length,by omega,?_⟩;unfold gO;rw [show j+(T.length+i-j%T.length)=T.length*(j / T.length)+(T.length+i) by omega,Nat.mul_add_mod,Nat.add_mod_left,Nat.mod_eq_of_lt a];exact decide_eq_true hv
theorem Kc {g:Nat}:∀m:Nat,(gN T p m<=g↔∀f,f<m->lj T p f T.length+1<=g)
 | 0=>⟨λ_ f h=>absurd h (Nat.not_lt_zero _),λ_=>Nat.zero_le _⟩
 | m+1=>by
  have:=Kc (g:=g) m;unfold gN;rw [Nat.max_le,this];refine ⟨λ⟨a,b⟩ f c=> ?_,λh=>⟨λf c=>h f (by omega),h m (by omega)⟩⟩;by_cases e:f=m
  ·rw [e];exact b
  ·exact a f (by omega)
theorem NU (hp:p∈T) {g:Nat}:(∀f,f<T.length->qu T p f<qu T p (f+g))↔gN T p T.length<=g:=by
 have b:0<T.length:=List.length_pos_of_mem hp;rw [Kc];refine ⟨λh f a=> ?_,λh f a=> ?_⟩
 ·obtain ⟨k,i,c⟩:=((wW b f g).2).1 (h f a);refine Classical.byContradiction λj=> ?_;have:=Ab (T:=T) (p:=p) T.length f k (by omega);rw [this] at c;cases c
 ·obtain ⟨e,d⟩:=uF T.length f (Ly hp f);exact ((wW b f g).2).2 ⟨_,by have:=h f a;omega,d⟩
theorem IY (hp:p∈T):gN T p T.length<=T.length:=
 (Kc _).2 λf _=>(uF T.length f (Ly hp f)).1
theorem NW :∀ {T:List Int},(0<pd T p T.length↔p∈T):=λ{T}=>by unfold pd;rw [List.take_length,List.countP_pos_iff];refine ⟨λ⟨a,b,c⟩=>by rw [<-of_decide_eq_true c];exact b,λh=>⟨p,h,decide_eq_true rfl⟩⟩
theorem uV (T:List Int) (p:Int) (m:Nat):pd T p m<=m:=by unfold pd;refine Nat.le_trans (List.countP_le_length) ?_;rw [List.length_take];omega
end
def jV :Int:=9223372036854775807
def fV (a b:Int):Int:=if a*b>jV then jV else a*b
def lN (a b:Int):Int:=if a+b>jV then jV else a+b
theorem NY {a b:Int} (c:0<=a) (hb:0<=b):0<=fV a b/\fV a b<=jV:=by
 have:=Int.mul_nonneg c hb;unfold fV;split
 ·exact ⟨by decide,Int.le_refl _⟩
 ·omega
theorem NZ {a b:Int} (c:0<=a) (hb:0<=b):0<=lN a b/\lN a b<=jV:=by
 unfold lN;split
 ·exact ⟨by decide,Int.le_refl _⟩
 ·omega
theorem TU {a b c:Int} (d:1<=a) (hb:1<=b) (e:1<=c):fV (fV a b) c=fV a (fV b c):=by
 have h:1<=a*b:=Int.le_trans hb (by have:=Int.mul_le_mul_of_nonneg_right d (show (0:Int)<=b by omega);omega);have i:1<=b*c:=Int.le_trans e (by have:=Int.mul_le_mul_of_nonneg_right hb (show (0:Int)<=c by omega);omega);have j:a*b<=a*b*c:=by have:=Int.mul_le_mul_of_nonneg_left e (show (0:Int)<=a*b by omega);omega
 have k:b*c<=a*(b*c):=by have:=Int.mul_le_mul_of_nonneg_right d (show (0:Int)<=b*c by omega);omega
 have l:jV<=jV*c:=by have:=Int.mul_le_mul_of_nonneg_left e (show (0:Int)<=jV by decide);omega
 have m:jV<=a*jV:=by have:=Int.mul_le_mul_of_nonneg_right d (show (0:Int)<=jV by decide);omega
 have n:a*b*c=a*(b*c):=Int.mul_assoc a b c;unfold fV;by_cases f:a*b>jV<;>by_cases g:b*c>jV<;>simp only [f,g,if_true,if_false]<;>split<;>split<;>omega
theorem Vc (a b:Int):fV a b=fV b a:=by unfold fV;rw [Int.mul_comm]
end Lf
namespace Lf
open Go
theorem N0 {F e E:List Nat} {k d:Hp} (m:Mv F k e d) (f:∀c∈E,k c≠none) (g:∀c∈E,c∉F):∀c∈E,d c=k c:=λc a=>by
 cases b:k c with
 | none=>exact absurd b (f c a)
 | some o=>exact m.cv c o b (g c a)
theorem Mv.less {F d E:List Nat} {h e:Hp} (a:Mv F h d e) (f:∀c∈E,c∈d):Mv F h E e:=⟨a.cv,λb hb=>a.from_ b (f b hb)⟩
def cn {a:Type} (f:Nat->a) (i:Nat) (x:a):Nat->a:=λj=>if j=i then x else f j
theorem kM {a:Type} {f:Nat->a} {i:Nat} {x:a}:cn f i x i=x:=if_pos rfl
theorem ku {a:Type} {f:Nat->a} {i j:Nat} {x:a} (h:j≠i):cn f i x j=f j:=if_neg h
theorem Wv {a b:Type} (g:a->b) {f:Nat->a} {i:Nat} {x:a}:(λj=>g (cn f i x j))=cn (λj=>g (f j)) i (g x):=by funext j;unfold cn;split<;>rfl
theorem xi {a:Type} {f:Nat->a} {i:Nat}:cn f i (f i)=f:=by
 funext j;unfold cn;split
 ·rename_i h;rw [h]
 ·rfl
theorem Ji {a:Type} {f:Nat->a} {i:Nat} {x y:a}:cn (cn f i x) i y=cn f i y:=by funext j;unfold cn;split<;>rfl
structure dg where
 R:Hp->(Nat->Prop)->Prop
 same:∀ {k k':Hp} {F:Nat->Prop},R k F->(∀b,F b->k' b=k b)->R k' F
 known:∀ {k:Hp} {F:Nat->Prop},R k F->∀b,F b->k b≠none
def Has (h0:Hp) (A:dg) (k:Hp):Prop:=h0<=k/\∃F,A.R k F/\∀b,F b->h0 b=none
def dg.star (A B:dg):dg where
 R k F:=∃f g:Nat->Prop,(∀b,F b↔f b\/g b)/\(∀b,f b->¬g b)/\A.R k f/\B.R k g
 same:=by rintro k i F ⟨f,g,e,d,a,b⟩ h;exact ⟨f,g,e,d,A.same a λc hc=>h c ((e c).2 (.inl hc)),B.same b λc hc=>h c ((e c).2 (.inr hc))⟩
 known:=by
  rintro k F ⟨f,g,e,d,a,b⟩ c hc;rcases (e c).1 hc with hc | hc
  ·exact A.known a c hc
  ·exact B.known b c hc
def dg.fact (p:Prop):dg:=⟨λ_ F=>p/\∀b,¬F b,λh _=>h,λh b hb=>absurd hb (h.2 b)⟩
def dg.some_ {b:Type} (A:b->dg):dg:=⟨λk F=>∃x,(A x).R k F,λ⟨x,h⟩ a=>⟨x,(A x).same h a⟩,λ⟨x,h⟩=>(A x).known h⟩
def dg.first (A:Nat->dg):Nat->dg
 | 0=>.fact True
 | n+1=>(dg.first A n).star (A n)
noncomputable def Hp.less (k:Hp) (F:Nat->Prop):Hp:=λb=>open Classical in if F b then none else k b
theorem Hp.rp {k:Hp} {F:Nat->Prop}:k.less F<=k:=λb o e=>by unfold Hp.less at e;grind
theorem Hp.mD {k:Hp} {F:Nat->Prop} {b:Nat} (h:¬F b):k.less F b=k b:=if_neg h
theorem Hp.rn {k:Hp} {F:Nat->Prop} {b:Nat} (h:F b):k.less F b=none:=if_pos h
section
variable {h0 h1 k f:Hp} {A g B C D:dg}
theorem Has.le (o:Has h0 A k):h0<=k:=o.1
theorem Has.fst (o:Has h0 (A.star B) k):∃h1,h0<=h1/\Has h1 A k/\(∃i,B.R h1 i/\∀b,i b->h0 b=none)/\∀g f,Has h1 g f->Has h0 (g.star B) f:=by
 obtain ⟨w,F,⟨l,i,e,d,a,b⟩,u⟩:=o;have n:B.R (k.less l) i:=B.same b λc hc=>Hp.mD λh=>d c h hc;have f2:∀b,i b->h0 b=none:=λc hc=>u c ((e c).2 (.inr hc));have p:h0<=k.less l:=λc j m=>by
  have:¬l c:=λh=>by grind
  rw [Hp.mD this];exact w c j m
 refine ⟨k.less l,p,⟨Hp.rp,l,a,λc hc=>Hp.rn hc⟩,⟨i,n,f2⟩,λg f j=> ?_⟩;obtain ⟨r,q,s,v⟩:=j;refine ⟨Hp.le_trans p r,λc=>q c\/i c,⟨q,i,λ_=>Iff.rfl,λc hc t=> ?_,s,B.same n λc hc=> ?_⟩,λc hc=> ?_⟩
 ·exact B.known n c t (v c hc)
 ·cases m:(k.less l) c with
  | none=>exact absurd m (B.known n c hc)
  | some j=>exact r c j m
 ·rcases hc with hc | hc
  ·cases m:h0 c with
   | none=>rfl
   | some j=>have:=p c j m;grind
  ·exact f2 c hc
theorem Has.map (h:∀k F,A.R k F->g.R k F) (o:Has h0 A k):Has h0 g k:=by obtain ⟨c,F,a,b⟩:=o;exact ⟨c,F,h k F a,b⟩
theorem CO {F:Nat->Prop} (h:(A.star B).R k F):(B.star A).R k F:=by obtain ⟨i,j,e,d,a,b⟩:=h;exact ⟨j,i,λc=>(e c).trans or_comm,λc h1 l=>d c l h1,b,a⟩
theorem Ln {F:Nat->Prop} (h:((A.star B).star C).R k F):(A.star (B.star C)).R k F:=by
 obtain ⟨o,j,e,d,⟨n,i,l,p,a,b⟩,c⟩:=h;refine ⟨n,λx=>i x\/j x,λx=> ?_,λx h1 m=> ?_,a,i,j,λ_=>Iff.rfl,λx h1 m=>d x ((l x).2 (.inr h1)) m,b,c⟩
 ·rw [e,l,or_assoc]
 grind
theorem CP {F:Nat->Prop} (j:∀F,A.R k F->C.R k F) (hb:∀F,B.R k F->D.R k F) (h:(A.star B).R k F):(C.star D).R k F:=by obtain ⟨c,i,e,d,a,b⟩:=h;exact ⟨c,i,e,d,j _ a,hb _ b⟩
theorem Has.comm (o:Has h0 (A.star B) k):Has h0 (B.star A) k:=o.map λ_ _=>CO
theorem Has.assoc (o:Has h0 ((A.star B).star C) k):Has h0 (A.star (B.star C)) k:=o.map λ_ _=>Ln
theorem Has.yQ (o:Has h0 (A.star (B.star C)) k):Has h0 ((A.star B).star C) k:=o.map λ_ _ h=>CO (Ln (CO (Ln (CO h))))
theorem Has.snd (o:Has h0 (A.star B) k):∃h1,h0<=h1/\Has h1 B k/\(∃h,A.R h1 h/\∀b,h b->h0 b=none)/\∀e f,Has h1 e f->Has h0 (A.star e) f:=by obtain ⟨h1,a,b,c,d⟩:=o.comm.fst;exact ⟨h1,a,b,c,λe f i=>(d e f i).comm⟩
theorem Has.left (o:Has h0 (A.star B) k):Has h0 A k:=by obtain ⟨l,F,⟨h,m,e,d,a,b⟩,j⟩:=o;exact ⟨l,h,a,λc i=>j c ((e c).2 (.inl i))⟩
theorem Has.right (o:Has h0 (A.star B) k):Has h0 B k:=o.comm.left
theorem Has.mono (o:Has h1 A k) (c:h0<=h1):Has h0 A k:=by obtain ⟨h,F,a,d⟩:=o;exact ⟨Hp.le_trans c h,F,a,λb hb=>uK c (d b hb)⟩
theorem Has.grow (o:Has h0 A k) (c:k<=f):Has h0 A f:=by
 obtain ⟨h,F,a,d⟩:=o;refine ⟨Hp.le_trans h c,F,A.same a λb hb=> ?_,d⟩;cases e:k b with
 | none=>exact absurd e (A.known a b hb)
 | some i=>exact c b i e
theorem Has.beside (o:Has h0 A k) (n:Has k B f):Has h0 (A.star B) f:=by
 obtain ⟨h,F,a,l⟩:=o;obtain ⟨i,G,b,d⟩:=n;refine ⟨Hp.le_trans h i,λc=>F c\/G c,⟨F,G,λ_=>Iff.rfl,λc h1 j=>A.known a c h1 (d c j),A.same a λc hc=> ?_,b⟩,λc hc=> ?_⟩
 ·cases e:k c with
  | none=>exact absurd e (A.known a c hc)
  | some m=>exact i c m e
 ·rcases hc with hc | hc
  ·exact l c hc
  ·exact uK h (d c hc)
theorem Has.carry {X:dg} (put:∀f,Has h1 A f->Has h0 X f) (o:Has h1 (A.star B) k):Has h0 (X.star B) k:=by
 obtain ⟨p,F,⟨l,j,e,d,a,b⟩,n⟩:=o;have ol:Has h1 A (k.less j):=⟨λc r m=>by
  have q:¬j c:=λh=>by grind
  rw [Hp.mD q];exact p c r m,l,A.same a λc i=>Hp.mD (λh=>d c i h),λc i=>n c ((e c).2 (.inl i))⟩
 exact (put _ ol).beside ⟨Hp.rp,j,b,λc i=>Hp.rn i⟩
theorem Has.fact {p:Prop} (hp:p) (a:h0<=k):Has h0 (.fact p) k:=⟨a,λ_=>False,⟨hp,λ_ h=>h⟩,λ_ h=>h.elim⟩
theorem Has.tO {p:Prop} (o:Has h0 (.fact p) k):p:=by obtain ⟨_,_,h,_⟩:=o;exact h.1
theorem Has.eB {p:Prop} (o:Has h0 A k) (hp:p):Has h0 (A.star (.fact p)) k:=o.beside (Has.fact hp (Hp.le_refl _))
theorem Has.iC {p:Prop} (o:Has h0 (A.star (.fact p)) k):Has h0 A k/\p:=⟨o.left,o.right.tO⟩
theorem Has.ex {d:Type} {A:d->dg}:Has h0 (.some_ A) k↔∃x,Has h0 (A x) k:=
 ⟨λ⟨c,F,⟨x,a⟩,b⟩=>⟨x,c,F,a,b⟩,λ⟨x,c,F,a,b⟩=>⟨c,F,⟨x,a⟩,b⟩⟩
end
theorem rJ {A B:Nat->dg}:∀ {n:Nat},(∀i,i<n->A i=B i)->dg.first A n=dg.first B n
 | 0,_=>rfl
 | n+1,h=>by show (dg.first A n).star (A n)=(dg.first B n).star (B n);rw [rJ λi a=>h i (by omega),h n (by omega)]
section
variable {h0 k:Hp} {A:Nat->dg} {B:dg}
theorem Has.one {n i:Nat} (J:i<n) (o:Has h0 (dg.first A n) k):∃f,h0<=f/\Has f (A i) k/\(∀j,j<n->j≠i->∃l,(A j).R f l)/\∀g h,Has f g h->Has h0 (dg.first (cn A i g) n) h:=by
 induction n generalizing h0 with
 | zero=>omega
 | succ n r=>
  by_cases e:i=n
  ·subst e;obtain ⟨f,a,b,c,d⟩:=Has.snd o;obtain ⟨l,H,x⟩:=c;refine ⟨f,a,b,λj q G=> ?_,λg h p=> ?_⟩
   ·have key:∀m (F:Nat->Prop),(dg.first A m).R f F->j<m->∃l,(A j).R f l:=by
     intro m
     induction m with
     | zero=>intro F _ q;omega
     | succ m r=>
      rintro F ⟨u,v,_,_,C,D⟩ q;by_cases e:j=m
      ·subst e;exact ⟨v,D⟩
      ·exact r u C (by omega)
    grind
   ·have:=d g h p;show Has h0 ((dg.first (cn A i g) i).star (cn A i g i)) h;rw [kM,rJ (B:=A) λj q=>ku (by omega)];exact this
  ·obtain ⟨f,a,b,c,d⟩:=Has.fst o;obtain ⟨E,a2,w,x,y⟩:=r (h0:=f) (by omega) b;obtain ⟨l,s,I⟩:=c;refine ⟨E,Hp.le_trans a a2,w,λj q G=> ?_,λg h p=> ?_⟩
   ·by_cases z:j=n
    ·subst z;refine ⟨l,(A j).same s λb hb=> ?_⟩;cases t:f b with
     | none=>exact absurd t ((A j).known s b hb)
     | some p=>exact a2 b p t
    grind
   ·have:=d _ _ (y g h p);show Has h0 ((dg.first (cn A i g) n).star (cn A i g n)) h;rw [ku (by omega)];exact this
theorem Has.at_ {n i:Nat} (c:i<n) (o:Has h0 (dg.first A n) k):Has h0 (A i) k:=by obtain ⟨d,a,b,_,_⟩:=o.one c;exact b.mono a
end
def yE (b:Nat) (a:List Value):dg:=⟨λk F=>fH k b a/\∀c,F c↔c=b,λh f=>⟨h.1.imp λt e=>(by grind),h.2⟩,λh c d=>by rw [(h.2 c).1 d];exact h.1.known⟩
theorem Has.xL {d k:Hp} {b:Nat} {c:List Value} (o:Has d (yE b c) k):fH k b c/\d b=none:=by obtain ⟨_,F,⟨a,e⟩,f⟩:=o;grind
theorem Has.Dx {a k:Hp} {b:Nat} {d:List Value} (f:a<=k) (hb:fH k b d) (g:a b=none):Has a (yE b d) k:=
 ⟨f,λc=>c=b,⟨hb,λ_=>Iff.rfl⟩,λc e=>by rw [e];exact g⟩
def dd (sh:Shape) (p:Addr) (x:sh.T):dg:=(yE p.block (aY (sh.enc x))).star (.fact (p=⟨p.block,0,none⟩))
section
variable {h0 k:Hp} {sh:Shape} {p:Addr} {x:sh.T}
theorem Has.pj (o:Has h0 (dd sh p x) k):∃b,p=⟨b,0,none⟩/\fH k b (aY (sh.enc x))/\h0 b=none:=⟨p.block,o.right.tO,(Has.left o).xL⟩
theorem Has.xY {b:Nat} (a:h0<=k) (hb:fH k b (aY (sh.enc x))) (c:h0 b=none):Has h0 (dd sh ⟨b,0,none⟩ x) k:=(Has.Dx a hb c).eB rfl
theorem Has.ld (o:Has h0 (dd sh p x) k) {shf:Shape} (v:shf.T) {off:Nat} (hv:((aY (sh.enc x)).drop off).take (aY (shf.enc v)).length=aY (shf.enc v)) {K:shf.T->Prop} (a:K v):aQ none shf k (p.add off) K:=by obtain ⟨b,rfl,hb,_⟩:=o.pj;refine ⟨v,?_,a⟩;rw [jD,Nat.zero_add];exact hb.mY hv
theorem Has.sH (o:Has h0 (dd sh p x) k) {shf:Shape} (v:shf.T) (hv:(aY (sh.enc x)).take (aY (shf.enc v)).length=aY (shf.enc v)) {K:shf.T->Prop} (a:K v):aQ none shf k p K:=by obtain ⟨b,rfl,hb,_⟩:=o.pj;exact ⟨v,hb.mY (off:=0) (by simpa using hv),a⟩
theorem Has.vV (o:Has h0 (dd sh p x) k) {shf:Shape} {c:Bool} (v:shf.T) {off:Nat} (hv:((aY (sh.enc x)).drop off).take (aY (shf.enc v)).length=aY (shf.enc v)) {K:shf.T->Prop} (a:K v):aQ (some c) shf k (p.add off) K:=by obtain ⟨b,rfl,hb,_⟩:=o.pj;refine ⟨v,λ_=> ?_,a⟩;rw [jD,Nat.zero_add];exact hb.mY hv
theorem Has.dQ (o:Has h0 (dd sh p x) k) {off n:Nat} {vs:List Value} (hv:((aY (sh.enc x)).drop off).take n=vs):aT k (p.add off) vs:=by obtain ⟨b,rfl,hb,_⟩:=o.pj;rw [jD,Nat.zero_add];exact hb.mY hv
theorem Has.st (o:Has h0 (dd sh p x) k) (x':sh.T) {off:Nat} {new:List Value} (g:off+new.length<=(aY (sh.enc x)).length) (l:(aY (sh.enc x)).take off++new++(aY (sh.enc x)).drop (off+new.length)=aY (sh.enc x'))
  {K:Hp->Prop} (f:∀a,Has h0 (dd sh p x') a->K a):cq k (p.add off) new K:=by
 obtain ⟨b,rfl,hb,h⟩:=o.pj;rw [jD,Nat.zero_add];refine yv hb g λa m i=>f a (Has.xY (λc d e=> ?_) (by grind) h);exact m.cv c d (o.1 c d e) λj=>by grind
theorem Has.zu (o:Has h0 (dd sh p x) k) (a:sh.T) {new:List Value} (f:new.length<=(aY (sh.enc x)).length) (g:new++(aY (sh.enc x)).drop new.length=aY (sh.enc a))
  {K:Hp->Prop} (d:∀c,Has h0 (dd sh p a) c->K c):cq k p new K:=by
 obtain ⟨b,e,_⟩:=o.pj;have:=o.st a (off:=0) (new:=new) (by omega) (by grind) d;subst e;simpa [jD] using this
theorem qn {k:Hp} (x:sh.T) {c:List Value} (d:c=aY (sh.enc x)) {K:Addr->Hp->Prop} (e:∀p a,k<=a->Has k (dd sh p x) a->K p a):bq c K k:=by intro b t hb;refine e _ _ (kP hb) ?_;exact Has.xY (kP hb) ⟨t,by rw [<-d];exact lP⟩ hb
end
section
variable {P:Program} {h:Hp}
theorem bO {b c:Type} (s:Sem b) (f:b->Sem c) {K:c->Hp->Prop}:bF P (s>>=f) K h↔bF P s (λa h=>bF P (f a) K h) h:=jB s f
theorem Vd {t:Nat} {i:TypeInfo} (a:P.info? t=some i) {K:Nat->Hp->Prop} (b:K i.size h):bF P (sizeOf t) K h:=by
 show bF P (Sem.bind (match P.info? t with
  | some d=>Sem.pure d
  | none=>_) _) K h
 rw [a];exact b
theorem Ld {a:Addr} {o:Obj} (e:h a.block=some o) {K:Bool->Hp->Prop} (b:K (fY h a) h):bF P (frozen a) K h:=⟨⟨o,e⟩,b⟩
theorem Lo {r:Nat} {o:Obj} (e:h r=some o) {K:Option (TypeId×Nat)->Hp->Prop} (a:K (Bs o) h):bF P (shape r) K h:=⟨o,e,a⟩
theorem A8 {b:Nat} {a:List Value} (k:fH h b a) (off:Nat):fY h ⟨b,off,none⟩=false:=by obtain ⟨t,e⟩:=k;unfold fY;simp [e]
theorem Gq {b off:Nat} {a:List Value} (k:fH h b a) {K:Unit->Hp->Prop} (c:K () h):bF P (noView ⟨b,off,none⟩) K h:=by obtain ⟨t,e⟩:=k;unfold noView viewAt;refine (bO _ _).2 ((bO _ _).2 (Lo (r:=b) e ?_));exact c
theorem Yo {b off:Nat} {d:List Value} (k:fH h b d) {K:Bool->Hp->Prop} (f:K false h):bF P (stringish ⟨b,off,none⟩) K h:=by have c:=k;obtain ⟨t,e⟩:=k;unfold stringish;refine (bO _ _).2 (Ld (a:=⟨b,off,none⟩) e ?_);rw [A8 c];refine (bO _ _).2 (Lo (r:=b) e ?_);refine Ld (a:=⟨b,_,none⟩) e ?_;rw [A8 c];exact f
theorem Qk {j B e:Nat} {i:TypeInfo} {a b c f q t s v:Nat} {u w:List Value} {K:Bool->Hp->Prop} (A:P.underlying j=some (.slice e)) (z:P.info? e=some i) (g:fH h a u) (k:fH h b w) (p:a≠b)
  (o:K false h):jw P (Extern.SlicesOverlaps.overlaps #[j,j] #[B] #[.slice (some ⟨a,c,none⟩) q t,.slice (some ⟨b,f,none⟩) s v]) bu K h:=by
 have x:((⟨a,c,none⟩:Addr).block !=(⟨b,f,none⟩:Addr).block)=true:=by simpa using p
 have y:((⟨a,c,none⟩:Addr).block==(⟨b,f,none⟩:Addr).block)=false:=by simpa using p
 obtain ⟨C,l⟩:=id g;obtain ⟨tb,m⟩:=id k;unfold jw;show bF P (α:=Value) (underlying j>>=λd=>_) _ h;refine (bO _ _).2 (uS A ?_);refine (bO _ _).2 (Vd z ?_);dsimp only;by_cases n:q=0\/s=0\/i.size=0
 ·rw [if_pos n];exact ⟨false,rfl,o⟩
 ·rw [if_neg n];refine (bO _ _).2 (Ld (a:=⟨a,c,none⟩) l ?_);refine (bO _ _).2 (Ld (a:=⟨b,f,none⟩) m ?_);rw [x,A8 g];simp only [Bool.true_and,Bool.false_and,Bool.false_eq_true,if_false,if_true];refine (bO _ _).2 (Gq g ?_);refine (bO _ _).2 (Gq k ?_);refine (bO _ _).2 ?_;unfold mayBeOne;refine (bO _ _).2 (Yo g ?_);refine (bO _ _).2 (Yo k ?_);refine (bO _ _).2 ((bO _ _).2 (Lo (r:=a) l ?_));refine (bO _ _).2 ((bO _ _).2 (Lo (r:=b) m ?_));simp only [Bool.false_and,Bool.or_false];refine ⟨false,?_,o⟩;rw [y];rfl
theorem Yf {a:Addr}:∀(b:List Value) (i:Nat) {h:Hp} {K:Unit->Hp->Prop},iF b=true->(∀j,j<b.length->(∃v,cM h (a.add (i+j))=some v)/\fY h (a.add (i+j))=false)->
  K () (jA h a b i)->bF P (storeCells a b i) K h
 | [],i,h,K,_,_,c=>c
 | v::b,i,h,K,d,m,c=>by
  obtain ⟨f,g⟩:=m 0 (by simp);rw [Nat.add_zero] at f g;have o:iF b=true:=by cases v<;>first | (exact d) | (cases d)
  have step:bF P (storeCells a b (i+1)) K (h.put (a.add i) v):=by
   refine Yf b (i+1) o (λj n=> ?_) c;obtain ⟨⟨u,k⟩,l⟩:=m (j+1) (by simpa using n);have e:i+(j+1)=i+1+j:=by omega
   rw [e] at k l;exact ⟨Ht ⟨u,k⟩,(by rw [Hu];exact l)⟩
  show bF P (Sem.store Mode.plain (a.add i) v (storeCells a b (i+1))) K h;cases v<;>first | (exact ⟨f,g,step⟩) | (cases d)
theorem HF {t e b off n c:Nat} {z:Value} {a:List Value} {K:Hp->Prop} (o:P.underlying t=some (.slice e)) (p:∀ {K:Value->Hp->Prop} {h:Hp},K z h->bF P (zeroValue e) K h) (l:∀n,iF (eS (aY z) n)=true) (g:fH h b a)
  (s:off+n*(aY z).length<=a.length)
  (i:∀f,Mv [b] h [b] f->fH f b (a.take off++eS (aY z) n++a.drop (off+n*(aY z).length))->K f):
  lU P (Builtin.clear_ #[t] 0 #[.slice (some ⟨b,off,none⟩) n c]) rQ K h:=by
 unfold lU jw;show bF P (α:=Value) (underlying t>>=λd=>_) _ h;refine (bO _ _).2 (uS o ?_);cases n with
 | zero=>refine ⟨(),rfl,i h (Mv.refl _ _) ?_⟩;simp [eS];exact g
 | succ n=>
  refine (bO _ _).2 ?_;refine p ?_;have q:(Builtin.zeroCells z.cells (n+1)).toList=eS (aY z) (n+1):=by rw [CD,nt]
  have u:(eS (aY z) (n+1)).length=(n+1)*(aY z).length:=wO _ _;obtain ⟨v,r⟩:=g.put (off:=off) (new:=eS (aY z) (n+1)) (by omega);have m:=g.qR (off:=off) (eS (aY z) (n+1)).length (by omega);refine (bO _ _).2 ?_;rw [q];refine Yf _ 0 (l _) (λj k=> ?_) ⟨(),rfl,i _ (Mv.jR r) (by grind)⟩;rw [Nat.zero_add];exact CT m j k
end
section
variable {α:Type} {h:Hp} {sz:Nat} {enc:α->List Value} {l:Sl} {xs:List α}
theorem Rw.vc (r:Rw h sz enc l xs) (d:∀x,(enc x).length=sz) (k:0<sz) {sh:Shape} (g:α->sh.T) {j:Nat} (n:∀x,((enc x).drop j).take (aY (sh.enc (g x))).length=aY (sh.enc (g x))) {i:Int} (b:0<=i) (c:i<(xs.length:Int))
  {K:sh.T->Prop} (e:∀x,xs[i.toNat]? =some x->K (g x)):bD l.base l.len i/\aQ none sh h ((sat l.base sz i).add j) K:=by
 obtain ⟨a,x,m,f⟩:=r.read d k b (by rw [r.1];exact c);refine ⟨a,g x,λq v hv=> ?_,e x m⟩;rw [rN];refine f (j+q) v ?_;grind
theorem Rw.LQ (r:Rw h sz enc l xs) (m:∀x,(enc x).length=sz) (p:0<sz) {sh:Shape} (g:α->sh.T) {j:Nat} (n:∀x,((enc x).drop j).take (aY (sh.enc (g x))).length=aY (sh.enc (g x))) (d:sh.T) {c:Bool} {i:Int} (a:c=true->0<=i/\i<(xs.length:Int))
  {K:sh.T->Prop} (b:∀y,(c=true->∃x,xs[i.toNat]? =some x/\y=g x)->K y):(c=true->bD l.base l.len i)/\aQ (some c) sh h ((sat l.base sz i).add j) K:=by
 cases c with
 | false=>exact ⟨λe=>(by cases e),d,λe=>(by cases e),b d λe=>(by cases e)⟩
 | true=>obtain ⟨a,k⟩:=a rfl;obtain ⟨f,y,s,o⟩:=r.vc m p g n a k (K:=λy=>∃x,xs[i.toNat]? =some x/\y=g x) λx q=>⟨x,q,rfl⟩;exact ⟨λ_=>f,y,λ_=>s,b y λ_=>o⟩
theorem sA {b o a c:Nat} (d:c≠a):aS (some ⟨b,o,none⟩) sz a c=some ⟨b,o+a*sz,none⟩:=by unfold aS;rw [if_neg d];show some ((⟨b,o,none⟩:Addr).add (a*sz))=_;rw [jD]
theorem fH.rd {b:Nat} {a new:List Value} (k:fH h b a) {off n:Nat} (c:new.length=n) (e:(a.drop off).take n=new):nL h (some ⟨b,off,none⟩) n new:=⟨c,.inr ⟨_,rfl,k.mY e⟩⟩
theorem BM {b off dl j n:Nat} {c new:List Value} {x:Sl} {K:Int->Hp->Prop} (g:fH h b c) (q:min x.len dl=n) (f:nL h x.base (n*sz) new) (r:iF new=true) (o:off+n*sz<=c.length)
  (m:∀d,Mv [b] h [b] d->fH d b (c.take off++new++c.drop (off+n*sz))->K (n:Nat) d):fq sz ⟨some ⟨b,off,none⟩,dl,j⟩ x K h:=by
 subst q;have p:new.length=min x.len dl*sz:=f.1;refine ⟨new,f,r,λa k=> ?_,?_⟩
 ·cases k;exact g.qR _ o
 ·obtain ⟨i,s⟩:=g.put (off:=off) (new:=new) (by omega);have e:fG h (some ⟨b,off,none⟩) 0 new=jA h ⟨b,off,none⟩ new 0:=by simp only [fG,jD,Nat.add_zero]
  show K _ (fG h (some ⟨b,off,none⟩) 0 new);rw [e];rw [p] at i;exact m _ (Mv.jR s) i
theorem Ww {bytes:Nat} {zero:List Value} {l:Sl} {m:Int} {e:List Value} {K:Sl->Hp->Prop} (j:0<=m) (k:nL h l.base (l.len*sz) e) (hb:l.len+m.toNat<=140737488355328/\(l.len+m.toNat)*bytes<=140737488355328)
  (n:iF (eS zero m.toNat)=true) (o:l.cap<l.len+m.toNat) (i:∀b c a,h b=none->l.len+m.toNat<=c->h<=a->Mv [] h [b] a->fH a b (e++eS zero m.toNat++eS zero (c-(l.len+m.toNat)))->K ⟨some ⟨b,0,none⟩,l.len+m.toNat,c⟩ a):
  wy sz bytes zero l m K h:=
 ⟨j,e,k,hb,n,λf=>absurd f (by omega),λ_ c b t g d=>i b c _ d g (kP d) (Mv.new d) ⟨t,lP⟩⟩
theorem FH {bytes b off c g n:Nat} {zero:List Value} {x:Sl} {d new k:List Value} {K:Sl->Hp->Prop} (j:fH h b d) (v:nL h (some ⟨b,off,none⟩) (c*sz) k) (i:nL h x.base (x.len*sz) new) (t:x.len=n) (u:iF new=true)
  (hb:c+n<=140737488355328/\(c+n)*bytes<=140737488355328) (y:c+n<=g) (r:off+c*sz+n*sz<=d.length)
  (q:∀f,Mv [b] h [b] f->fH f b (d.take (off+c*sz)++new++d.drop (off+c*sz+n*sz))->K ⟨some ⟨b,off,none⟩,c+n,g⟩ f):fP sz bytes zero ⟨some ⟨b,off,none⟩,c,g⟩ x K h:=by
 subst t;have s:new.length=x.len*sz:=i.1;refine ⟨new,i,k,v,hb,u,λ_=>⟨λa p=> ?_,?_⟩,λo=>absurd o (by grind)⟩
 ·cases p;rw [jD];exact j.qR _ r
 ·obtain ⟨m,w⟩:=j.put (off:=off+c*sz) (new:=new) (by omega);have e:fG h (some ⟨b,off,none⟩) (c*sz) new=jA h ⟨b,off+c*sz,none⟩ new 0:=by simp only [fG,jD]
  show K _ (fG h (some ⟨b,off,none⟩) (c*sz) new);rw [e];rw [s] at m;exact q _ (Mv.jR w) m
theorem AB {xs:List α} {i:Nat} (x:α) (a:i<xs.length):xs.set i x=xs.take i++x::xs.drop (i+1):=by rw [List.set_eq_take_append_cons_drop,if_pos a]
theorem cT.store {F:List Nat} (o:cT h sz enc l xs F) (e:∀x,(enc x).length=sz) {i:Int} (k:0<=i) (y:i<(xs.length:Int)) (x:α) {K:Hp->Prop} (p:∀a,cT a sz enc l (xs.set i.toNat x) F->Mv F h F a->K a):
  bD l.base l.len i/\cq h (sat l.base sz i) (enc x) K:=by
 obtain ⟨t,j,u⟩:=o;rcases u with ⟨_,v,_⟩ | ⟨b,c,d,rfl,r,w,f⟩
 ·omega
 ·refine ⟨⟨by rw [d];simp,k,by omega⟩,?_⟩;have n:i.toNat<xs.length:=by omega
  have m:sat l.base sz i=⟨b,i.toNat*sz,none⟩:=by unfold sat;rw [d,Option.getD_some,jD,Nat.zero_add]
  rw [m];have z:i.toNat*sz+sz<=l.len*sz:=by have:=Nat.mul_le_mul_right sz (show i.toNat+1<=l.len by omega);grind
  have A:l.len*sz<=l.cap*sz:=Nat.mul_le_mul_right sz j;refine yv r (by grind) λa s g=> ?_;rw [e] at g;refine p a ⟨by simp [t],j,.inr ⟨b,_,d,rfl,g,?_,?_⟩⟩ s
  ·grind
  ·rw [AB x n];have t1:c.take (i.toNat*sz)=(xs.take i.toNat).flatMap enc:=by rw [yp e,<-f,List.take_take];congr 1;omega
   have t2:(c.drop (i.toNat*sz+sz)).take (l.len*sz-(i.toNat*sz+sz))=(xs.drop (i.toNat+1)).flatMap enc:=by rw [xh e,<-f,Nat.add_mul,Nat.one_mul,List.drop_take]
   have q:(c.take (i.toNat*sz)++enc x).length=i.toNat*sz+sz:=by grind
   rw [List.take_append,q,t2,List.take_of_length_le (by omega),t1];simp
end
section
variable {P:Program} {α:Type} {h:Hp} {sz:Nat} {enc:α->List Value}
def Dm (P:Program) (sz bytes:Nat) (zero:List Value) (j k:Nat) (R:Sl->(Hp->Prop)->Hp->Prop) (s:Sl) (i:Int) (v:Sl) (Q:Sl->Hp->Prop) (h:Hp):Prop:=
 (((0:Int)<=i/\i<=((s.len:Nat):Int))/\aG (α:=Sl) ⟨(aS s.base sz (Int.toNat i) s.cap),(s.len-(Int.toNat i)),(s.cap-(Int.toNat i))⟩ λ_=>
 (if (((v.len:Nat):Int)==(0:Int))=true then
 Q s h
 else
 (if (i==((s.len:Nat):Int))=true then
 fP sz bytes zero s v (λr b=>
 Q r b) h
 else
 (if (decide ((yw (((s.len:Nat):Int)+((v.len:Nat):Int)))>((s.cap:Nat):Int)))=true then
 (((0:Int)<=i/\i<=((s.cap:Nat):Int))/\aG (α:=Sl) ⟨(aS s.base sz 0 s.cap),((Int.toNat i)-0),(s.cap-0)⟩ λa=>
 wy sz bytes zero a (yw ((yw (((s.len:Nat):Int)+((v.len:Nat):Int)))-i)) (λr b=>
 (((0:Int)<=i/\i<=((r.len:Nat):Int))/\aG (α:=Sl) ⟨(aS r.base sz (Int.toNat i) r.cap),(r.len-(Int.toNat i)),(r.cap-(Int.toNat i))⟩ λg=>
 fq sz g v (λ_ c=>
 (((0:Int)<=(yw (i+((v.len:Nat):Int)))/\(yw (i+((v.len:Nat):Int)))<=((r.len:Nat):Int))/\aG (α:=Sl) ⟨(aS r.base sz (Int.toNat (yw (i+((v.len:Nat):Int)))) r.cap),(r.len-(Int.toNat (yw (i+((v.len:Nat):Int))))),(r.cap-(Int.toNat (yw (i+((v.len:Nat):Int)))))⟩ λe=>
 (((0:Int)<=i/\i<=((s.len:Nat):Int))/\aG (α:=Sl) ⟨(aS s.base sz (Int.toNat i) s.cap),(s.len-(Int.toNat i)),(s.cap-(Int.toNat i))⟩ λf=>
 fq sz e f (λ_ d=>
 Q r d) c))) b)) h)
 else
 (((0:Int)<=(yw (((s.len:Nat):Int)+((v.len:Nat):Int)))/\(yw (((s.len:Nat):Int)+((v.len:Nat):Int)))<=((s.cap:Nat):Int))/\aG (α:=Sl) ⟨(aS s.base sz 0 s.cap),((Int.toNat (yw (((s.len:Nat):Int)+((v.len:Nat):Int))))-0),(s.cap-0)⟩ λa=>
 (((0:Int)<=(yw (i+((v.len:Nat):Int)))/\(yw (i+((v.len:Nat):Int)))<=((a.len:Nat):Int))/\aG (α:=Sl) ⟨(aS a.base sz (Int.toNat (yw (i+((v.len:Nat):Int)))) a.cap),(a.len-(Int.toNat (yw (i+((v.len:Nat):Int))))),(a.cap-(Int.toNat (yw (i+((v.len:Nat):Int)))))⟩ λg=>
 jw P (Extern.SlicesOverlaps.overlaps #[j,j] #[k] #[v.v,g.v]) bu (λr b=>
 (if (!r)=true then
 (((0:Int)<=(yw (i+((v.len:Nat):Int)))/\(yw (i+((v.len:Nat):Int)))<=((a.len:Nat):Int))/\aG (α:=Sl) ⟨(aS a.base sz (Int.toNat (yw (i+((v.len:Nat):Int)))) a.cap),(a.len-(Int.toNat (yw (i+((v.len:Nat):Int))))),(a.cap-(Int.toNat (yw (i+((v.len:Nat):Int)))))⟩ λe=>
 (((0:Int)<=i/\i<=((a.len:Nat):Int))/\aG (α:=Sl) ⟨(aS a.base sz (Int.toNat i) a.cap),(a.len-(Int.toNat i)),(a.cap-(Int.toNat i))⟩ λf=>
 fq sz e f (λ_ c=>
 (((0:Int)<=i/\i<=((a.len:Nat):Int))/\aG (α:=Sl) ⟨(aS a.base sz (Int.toNat i) a.cap),(a.len-(Int.toNat i)),(a.cap-(Int.toNat i))⟩ λl=>
 fq sz l v (λ_ d=>
 Q a d) c)) b))
 else
 (((0:Int)<=((s.len:Nat):Int)/\((s.len:Nat):Int)<=((a.len:Nat):Int))/\aG (α:=Sl) ⟨(aS a.base sz (Int.toNat ((s.len:Nat):Int)) a.cap),(a.len-(Int.toNat ((s.len:Nat):Int))),(a.cap-(Int.toNat ((s.len:Nat):Int)))⟩ λe=>
 fq sz e v (λ_ c=>
 (((0:Int)<=i/\i<=((a.len:Nat):Int))/\aG (α:=Sl) ⟨(aS a.base sz (Int.toNat i) a.cap),(a.len-(Int.toNat i)),(a.cap-(Int.toNat i))⟩ λf=>
 R f (λd=>Q a d) c)) b))) h))))))
theorem Px {bytes tS tR tE y:Nat} {i0:TypeInfo} {zero b1:List Value} {R:Sl->(Hp->Prop)->Hp->Prop} {s v:Sl} {d:List α} {e:α} {F:List Nat} {i:Nat} {Q:Sl->Hp->Prop}
  (ht:P.underlying tS=some (.slice tE)) (c0:P.info? tE=some i0) (r:∀x,(enc x).length=sz) (f0:0<sz) (D:∀x,iF (enc x)=true) (hz:zero.length=sz) (c5:∀n,iF (eS zero n)=true)
  (o:cT h sz enc s d F) (I:Rw h sz enc v [e]) (hv:v.base=some ⟨y,0,none⟩) (kv:fH h y b1) (Z:y∉F) (hi:i<=d.length) (hb:d.length+1<=140737488355328/\(d.length+1)*bytes<=140737488355328)
  (hq:∀S z J,cT z sz enc S (d.take i++e::d.drop i) J->Mv F h J z->Q S z):Dm P sz bytes zero tS tR R s (i:Int) v Q h:=by
 have hs:=o.1;have e9:=o.2.1;have a8:v.len=1:=I.1;have w1:yw ((s.len:Int)+(v.len:Int))=(s.len:Int)+1:=by rw [a8,aH];rfl
 have w2:yw ((i:Int)+(v.len:Int))=((i+1:Nat):Int):=by rw [a8,aH];omega
 have d5:nL h v.base (1*sz) (enc e):=by simpa using I.2
 unfold Dm;rw [w1,w2];have it:(i:Int).toNat=i:=by omega
 have c6:((i+1:Nat):Int).toNat=i+1:=by omega
 rw [it,c6];refine ⟨by omega,aI ?_⟩;rw [if_neg (show ¬(((v.len:Int)==0)=true) by simp;omega)];by_cases e4:i=d.length
 ·rw [if_pos (show ((i:Int)==(s.len:Int))=true by simp;omega)];refine vL o I r D hz (by simpa using hb) λS z J o' m'=> ?_;grind
 rw [if_neg (show ¬(((i:Int)==(s.len:Int))=true) by simp;omega)];have e5:i<d.length:=by omega
 have N:∀a b:Nat,a<=b->a*sz<=b*sz:=λa b b6=>Nat.mul_le_mul_right sz b6;have E:((d.take i).flatMap enc).length=i*sz:=by rw [iE r,List.length_take];congr 1;omega
 have rZ:((d.drop i).flatMap enc).length=(d.length-i)*sz:=by rw [iE r,List.length_drop]
 have c4:d.flatMap enc=(d.take i).flatMap enc++(d.drop i).flatMap enc:=by rw [<-List.flatMap_append,List.take_append_drop]
 have f4:(d.take i++e::d.drop i).flatMap enc=(d.take i).flatMap enc++enc e++(d.drop i).flatMap enc:=by simp
 have a9:(d.take i++e::d.drop i).length=d.length+1:=by simp;omega
 have j:(i+1)*sz=i*sz+sz:=by grind
 have e2:(d.length+1)*sz=i*sz+sz+(d.length-i)*sz:=by grind
 have Y:=Ck D (d.drop i);rcases o.2.2 with ⟨ob,oc,_⟩ | ⟨b,f,ob,rfl,m,k,X⟩
 ·omega
 have d9:s.cap≠0:=by omega
 rw [ob];rw [hs] at X;have e3:d.length*sz<=f.length:=by rw [k];exact N _ _ (by omega)
 have U:aS (some (⟨b,0,none⟩:Addr)) sz 0 s.cap=some ⟨b,0,none⟩:=by rw [sA (by omega)];simp
 have V:aS (some (⟨b,0,none⟩:Addr)) sz i s.cap=some ⟨b,i*sz,none⟩:=by rw [sA (by omega)];simp
 have f5:d.length*sz=i*sz+(d.length-i)*sz:=by grind
 have d2:nL h (some ⟨b,0,none⟩) (i*sz) ((d.take i).flatMap enc):=m.rd E (by
  rw [List.drop_zero];have:f.take (i*sz)=(f.take (d.length*sz)).take (i*sz):=by rw [List.take_take];congr 1;omega
  grind)
 have d0:nL h (some ⟨b,i*sz,none⟩) ((d.length-i)*sz) ((d.drop i).flatMap enc):=m.rd rZ (by
  have:(f.drop (i*sz)).take ((d.length-i)*sz)=(f.take (d.length*sz)).drop (i*sz):=by rw [List.drop_take];congr 1;omega
  grind)
 by_cases e8:s.cap<d.length+1
 ·rw [if_pos (show (decide ((s.len:Int)+1>(s.cap:Int)))=true by simp;omega)];refine ⟨by omega,aI ?_⟩;rw [U];have w3:yw ((s.len:Int)+1-(i:Int))=((d.length+1-i:Nat):Int):=by rw [aH];omega
  rw [w3];have C:(((d.length+1-i:Nat):Int)).toNat=d.length+1-i:=by omega
  refine Ww (l:=⟨some ⟨b,0,none⟩,i-0,s.cap-0⟩) (by omega) d2 ?_ (c5 _) ?_ λg c L B hc l1 m1 k1=> ?_
  ·grind
  ·grind
  rw [C] at hc k1;have b4:(i-0)+(d.length+1-i)=d.length+1:=by omega
  have W:d.length+1<=c:=by grind
  have c7:fH L g ((d.take i).flatMap enc++eS zero (d.length+1-i)++eS zero (c-(d.length+1))):=by grind
  have c2:(⟨some ⟨b,0,none⟩,i-0,s.cap-0⟩:Sl).len+(((d.length+1-i:Nat):Int)).toNat=d.length+1:=by rw [C];exact b4
  rw [c2];have e6:g≠b:=λp=>by rw [p] at B;exact m.known B
  have e7:g≠y:=λp=>by rw [p] at B;exact kv.known B
  refine ⟨by grind,aI ?_⟩;rw [sA (show c≠i by omega),Nat.zero_add];have b0:∀n,(eS zero n).length=n*sz:=λn=>by rw [wO,hz]
  have d6:((d.take i).flatMap enc++eS zero (d.length+1-i)++eS zero (c-(d.length+1))).length=c*sz:=by rw [List.length_append,List.length_append,E,b0,b0,<-Nat.add_mul,<-Nat.add_mul];congr 1;omega
  have d3:nL L v.base (1*sz) (enc e):=by simpa using (I.mono l1).2
  refine BM (n:=1) c7 (by grind) d3 (D e) (by grind) λA w O=> ?_;refine ⟨by grind,aI ⟨by omega,aI ?_⟩⟩;rw [sA (show c≠i+1 by omega),Nat.zero_add,V];have c8:fH A b f:=(m.le l1).mv w (by grind);have d1:nL A (some ⟨b,i*sz,none⟩) ((d.length-i)*sz) ((d.drop i).flatMap enc):=c8.rd rZ (by
   grind)
  have G:=O;rw [Nat.one_mul] at G;have K:((d.take i).flatMap enc++eS zero (d.length+1-i)++eS zero (c-(d.length+1))).take (i*sz)=(d.take i).flatMap enc:=by grind
  rw [K] at G;have c3:(((d.take i).flatMap enc++eS zero (d.length+1-i)++eS zero (c-(d.length+1))).drop (i*sz+sz)).length=c*sz-(i*sz+sz):=by grind
  generalize ((d.take i).flatMap enc++eS zero (d.length+1-i)++eS zero (c-(d.length+1))).drop (i*sz+sz)=rest at G c3;have d8:=N _ _ W;refine BM (n:=d.length-i) G (by grind) d1 Y (by
   grind) λh3 T H=> ?_
  refine hq _ _ [g] ⟨a9.symm,W,.inr ⟨g,_,rfl,rfl,H,?_,?_⟩⟩ ?_
  ·grind
  ·grind
  ·have c9:Mv [b] h [g] L:=m1.sub (λb hb=>by cases hb) λb hb=>.inl hb;exact c9.trans (w.trans T)
 ·rw [if_neg (show ¬(decide ((s.len:Int)+1>(s.cap:Int)))=true by simp;omega)];refine ⟨by omega,aI ⟨?_,aI ?_⟩⟩
  ·show (0:Int)<=((i+1:Nat):Int)/\((i+1:Nat):Int)<=(((((s.len:Int)+1).toNat-0:Nat)):Int);omega
  have c1:((s.len:Int)+1).toNat-0=d.length+1:=by omega
  have b9:s.cap-0=s.cap:=by omega
  rw [U,c1,b9];have b8:aS (some (⟨b,0,none⟩:Addr)) sz (i+1) s.cap=some ⟨b,(i+1)*sz,none⟩:=by rw [sA (by omega)];simp
  show jw P (Extern.SlicesOverlaps.overlaps #[tS,tS] #[tR] #[.slice v.base v.len v.cap,.slice (aS (some (⟨b,0,none⟩:Addr)) sz (i+1) s.cap) (d.length+1-(i+1)) (s.cap-(i+1))]) bu _ h;rw [b8,hv];refine Qk ht c0 kv m (λp=>Z (by rw [p];exact List.mem_singleton.2 rfl)) ?_;rw [if_pos (by rfl)];refine ⟨by show (0:Int)<=((i+1:Nat):Int)/\((i+1:Nat):Int)<=((d.length+1:Nat):Int);omega,aI ⟨by show (0:Int)<=i/\(i:Int)<=((d.length+1:Nat):Int);omega,aI ?_⟩⟩;have d7:(d.length+1)*sz<=s.cap*sz:=N _ _ (by omega);have b7:aS (some (⟨b,0,none⟩:Addr)) sz i s.cap=some ⟨b,i*sz,none⟩:=V;show fq sz ⟨some ⟨b,(i+1)*sz,none⟩,d.length+1-(i+1),s.cap-(i+1)⟩ ⟨aS (some (⟨b,0,none⟩:Addr)) sz i s.cap,d.length+1-i,s.cap-i⟩ _ h;rw [b7];refine BM (n:=d.length-i) m (by show min (d.length+1-i) (d.length+1-(i+1))=_;omega) d0 Y (by rw [k,j];omega) λA w O=> ?_;refine ⟨by show (0:Int)<=i/\(i:Int)<=((d.length+1:Nat):Int);omega,aI ?_⟩;have d4:nL A v.base (1*sz) (enc e):=by
   refine ⟨by rw [r,Nat.one_mul],?_⟩;rcases d5.2 with e0 | ⟨a,M,hl⟩
   ·exact .inl e0
   ·refine .inr ⟨a,M,λq u hu=> ?_⟩;have:=hl q u hu;rw [hv] at M;cases M;rw [jD] at this ⊢;obtain ⟨t,ek⟩:=id kv;obtain ⟨t',b5⟩:=kv.mv w (λC=>Z C);rw [AV ek] at this;rw [AV b5];exact this
  have K:(f.take ((i+1)*sz)++(d.drop i).flatMap enc++f.drop ((i+1)*sz+(d.length-i)*sz)).take (i*sz)=(d.take i).flatMap enc:=by
   rw [List.append_assoc,List.take_append_of_le_length (by rw [List.length_take,k];rw [j];omega),List.take_take];have:f.take (min (i*sz) ((i+1)*sz))=(f.take (d.length*sz)).take (i*sz):=by rw [List.take_take];congr 1;rw [j];omega
   rw [this,X,c4,<-E,List.take_left]
  have b3:(f.take ((i+1)*sz)++(d.drop i).flatMap enc++f.drop ((i+1)*sz+(d.length-i)*sz)).drop (i*sz+1*sz)=(d.drop i).flatMap enc++f.drop ((i+1)*sz+(d.length-i)*sz):=by
   have:i*sz+1*sz=(f.take ((i+1)*sz)).length:=by rw [List.length_take,k,j,Nat.one_mul];omega
   rw [List.append_assoc,this,List.drop_left]
  refine BM (n:=1) O (by show min v.len (d.length+1-i)=1;omega) d4 (D e) (by
   simp only [List.length_append,List.length_take,List.length_drop,rZ,k,j,Nat.one_mul];omega) λh3 T H=> ?_
  rw [K,b3] at H;refine hq _ _ [b] ⟨a9.symm,by show d.length+1<=s.cap;omega,.inr ⟨b,_,rfl,rfl,H,?_,?_⟩⟩ (w.trans T)
  ·simp only [List.length_append,List.length_drop,E,r,rZ,k,j];show _=s.cap*sz;omega
  grind
def vO (P:Program) (sz bytes:Nat) (zero:List Value) (c:Nat) (s:Sl) (i j:Int) (Q:Sl->Hp->Prop) (h:Hp):Prop:=
 (((0:Int)<=i/\(i<=j/\(j<=((s.len:Nat):Int)/\((s.len:Nat):Int)<=((s.cap:Nat):Int))))/\aG (α:=Sl) ⟨(aS s.base sz (Int.toNat i) (Int.toNat ((s.len:Nat):Int))),((Int.toNat j)-(Int.toNat i)),((Int.toNat ((s.len:Nat):Int))-(Int.toNat i))⟩ λ_=>
 (if (i==j)=true then
 Q s h
 else
 (((0:Int)<=i/\i<=((s.cap:Nat):Int))/\aG (α:=Sl) ⟨(aS s.base sz 0 s.cap),((Int.toNat i)-0),(s.cap-0)⟩ λd=>
 (((0:Int)<=j/\j<=((s.len:Nat):Int))/\aG (α:=Sl) ⟨(aS s.base sz (Int.toNat j) s.cap),(s.len-(Int.toNat j)),(s.cap-(Int.toNat j))⟩ λe=>
 fP sz bytes zero d e (λr a=>
 (((0:Int)<=((r.len:Nat):Int)/\(((r.len:Nat):Int)<=((s.len:Nat):Int)/\((s.len:Nat):Int)<=((r.cap:Nat):Int)))/\aG (α:=Sl) ⟨(aS r.base sz (Int.toNat ((r.len:Nat):Int)) r.cap),((Int.toNat ((s.len:Nat):Int))-(Int.toNat ((r.len:Nat):Int))),(r.cap-(Int.toNat ((r.len:Nat):Int)))⟩ λf=>
 lU P (Builtin.clear_ #[c] 0 #[f.v]) rQ (λb=>
 Q r b) a)) h))))
theorem Py {bytes tS tE:Nat} {z:Value} {s:Sl} {c:List α} {F:List Nat} {i j:Nat} {Q:Sl->Hp->Prop}
  (R:P.underlying tS=some (.slice tE)) (V:∀ {K:Value->Hp->Prop} {h:Hp},K z h->bF P (zeroValue tE) K h) (f:∀x,(enc x).length=sz) (L:∀x,iF (enc x)=true) (u:(aY z).length=sz) (U:∀n,iF (eS (aY z) n)=true)
  (o:cT h sz enc s c F) (b2:i<j) (H:j<=c.length) (hb:c.length<=140737488355328/\c.length*bytes<=140737488355328)
  (M:∀w g,cT g sz enc w (c.take i++c.drop j) F->Mv F h F g->Q w g):vO P sz bytes (aY z) tS s (i:Int) (j:Int) Q h:=by
 have O:=o.1;have b5:=o.2.1;unfold vO;have W:(i:Int).toNat=i:=by omega
 have X:(j:Int).toNat=j:=by omega
 have st:(s.len:Int).toNat=c.length:=by omega
 rw [W,X,st];refine ⟨by omega,aI ?_⟩;rw [if_neg (show ¬(((i:Int)==(j:Int))=true) by simp;omega)];have e:∀a b:Nat,a<=b->a*sz<=b*sz:=λa b B=>Nat.mul_le_mul_right sz B;have T:((c.take i).flatMap enc).length=i*sz:=by rw [iE f,List.length_take];congr 1;omega
 have rZ:((c.drop j).flatMap enc).length=(c.length-j)*sz:=by rw [iE f,List.length_drop]
 rcases o.2.2 with ⟨y,oc,_⟩ | ⟨b,d,y,rfl,l,m,k⟩
 ·omega
 rw [y];rw [O] at k;have b1:c.length*sz<=d.length:=by rw [m];exact e _ _ (by omega)
 have C:aS (some (⟨b,0,none⟩:Addr)) sz 0 s.cap=some ⟨b,0,none⟩:=by rw [sA (by omega)];simp
 have b3:=e i c.length (by omega);have b4:=e j c.length H;have b7:c.length*sz=j*sz+(c.length-j)*sz:=by rw [<-Nat.add_mul];congr 1;omega
 have b6:i*sz<=j*sz:=e _ _ (by omega);have S:d.take (i*sz)=(c.take i).flatMap enc:=by rw [yp f,<-k,List.take_take];congr 1;omega
 have a9:nL h (some ⟨b,0,none⟩) ((i-0)*sz) ((c.take i).flatMap enc):=l.rd T (by rw [List.drop_zero];exact S);have a8:nL h (aS (some (⟨b,0,none⟩:Addr)) sz j s.cap) ((c.length-j)*sz) ((c.drop j).flatMap enc):=by
  by_cases E:s.cap=j
  ·refine ⟨rZ,.inl ?_⟩;have:c.length-j=0:=by omega
   rw [this,Nat.zero_mul]
  ·rw [sA E,Nat.zero_add];refine l.rd rZ ?_;rw [xh f,<-k,List.drop_take];congr 1;omega
 refine ⟨by omega,aI ⟨by omega,aI ?_⟩⟩;rw [C];have J:i-0+(c.length-j)<=c.length:=by omega
 have b0:(i-0+(c.length-j))*bytes<=c.length*bytes:=Nat.mul_le_mul_right _ J;have t:(⟨aS (some (⟨b,0,none⟩:Addr)) sz j s.cap,s.len-j,s.cap-j⟩:Sl).len=c.length-j:=by show s.len-j=_;omega
 refine FH (n:=c.length-j) l a9 (by rw [t];exact a8) t (Ck L _) ⟨by omega,by omega⟩ (by omega) (by
  have:i-0=i:=by omega
  rw [this,Nat.zero_add,m];have:=e (i+(c.length-j)) s.cap (by omega);rw [Nat.add_mul] at this;exact this) λA Z v=> ?_
 have p:i-0=i:=by omega
 rw [p,Nat.zero_add] at v;show ((0:Int)<=((i-0+(c.length-j):Nat):Int)/\((i-0+(c.length-j):Nat):Int)<=(s.len:Int)/\(s.len:Int)<=((s.cap-0:Nat):Int))/\aG (α:=Sl) ⟨aS (some ⟨b,0,none⟩) sz (((i-0+(c.length-j):Nat):Int)).toNat (s.cap-0),c.length-(((i-0+(c.length-j):Nat):Int)).toNat,s.cap-0-(((i-0+(c.length-j):Nat):Int)).toNat⟩ _;refine ⟨by omega,aI ?_⟩;have I:(((i-0+(c.length-j):Nat):Int)).toNat=i+(c.length-j):=by omega
 have D:s.cap-0=s.cap:=by omega
 rw [I,D,sA (show s.cap≠i+(c.length-j) by omega),Nat.zero_add];have G:c.length-(i+(c.length-j))=j-i:=by omega
 have r:(i+(c.length-j))*sz=i*sz+(c.length-j)*sz:=Nat.add_mul _ _ _;have q:(d.take (i*sz)++(c.drop j).flatMap enc++d.drop (i*sz+(c.length-j)*sz)).length=d.length:=by simp only [List.length_append,List.length_take,List.length_drop,rZ];omega
 show lU P (Builtin.clear_ #[tS] 0 #[.slice (some ⟨b,(i+(c.length-j))*sz,none⟩) (c.length-(i+(c.length-j))) (s.cap-(i+(c.length-j)))]) rQ _ A;rw [G];refine HF R V U v (by
  rw [q,u,r];have:i*sz+(j-i)*sz=j*sz:=by rw [<-Nat.add_mul];congr 1;omega
  omega) λh2 m2 Y=> ?_
 have N:(c.take i++c.drop j).length=i+(c.length-j):=by simp;omega
 refine M _ _ ⟨?_,?_,.inr ⟨b,_,rfl,rfl,Y,?_,?_⟩⟩ (Z.trans m2)
 ·rw [N,p]
 ·show i-0+(c.length-j)<=s.cap;omega
 ·simp only [List.length_append,List.length_take,List.length_drop,q,wO,u];show _=s.cap*sz;have:i*sz+(j-i)*sz=j*sz:=by rw [<-Nat.add_mul];congr 1;omega
  rw [r];omega
 grind
end
def dC {g:Type} (sz:Nat) (enc:g->List Value) (l:Sl) (xs:List g):dg where
 R k F:=l.len=xs.length/\l.len<=l.cap/\((l.base=none/\l.cap=0/\∀b,¬F b)\/∃(b off:Nat) (cs:List Value),l.base=some ⟨b,off,none⟩/\(∀c,F c↔c=b)/\fH k b cs/\off+l.cap*sz<=cs.length/\(cs.drop off).take (l.len*sz)=xs.flatMap enc)
 same:=by rintro k p F ⟨j,m,d⟩ o;refine ⟨j,m,d.imp id ?_⟩;rintro ⟨b,off,cs,e,a,⟨t,f⟩,i⟩;exact ⟨b,off,cs,e,a,⟨t,by grind⟩,i⟩
 known:=by
  rintro k F ⟨_,_,d⟩ c n;rcases d with ⟨_,_,h⟩ | ⟨b,off,cs,e,a,f,_⟩
  ·grind
  ·rw [(a c).1 n];exact f.known
section
variable {α:Type} {h0 k:Hp} {sz:Nat} {enc:α->List Value} {l:Sl} {xs:List α}
theorem Has.jP {h0 k:Hp} (a:h0<=k):Has h0 (dC sz enc ⟨none,0,0⟩ ([]:List α)) k:=⟨a,λ_=>False,⟨rfl,Nat.le_refl _,.inl ⟨rfl,rfl,λ_ h=>h⟩⟩,λ_ h=>h.elim⟩
theorem Has.gH (o:Has h0 (dC sz enc l xs) k):l.len=xs.length:=by obtain ⟨_,_,h,_⟩:=o;exact h.1
theorem Has.sf (o:Has h0 (dC sz enc l xs) k):l.len<=l.cap:=by obtain ⟨_,_,h,_⟩:=o;exact h.2.1
theorem Has.ia (o:Has h0 (dC sz enc l xs) k) (c:∀x,(enc x).length=sz):Rw k sz enc l xs:=by
 obtain ⟨_,F,⟨h1,h,a⟩,_⟩:=o;refine ⟨h1,iE c xs,?_⟩;rcases a with ⟨e,g,_⟩ | ⟨b,off,f,e,_,hb,i,d⟩
 ·grind
 ·right;exact ⟨_,e,hb.mY (n:=l.len*sz) d⟩
theorem Has.tP {b:Nat} {cs:List Value} (h:h0<=k) (i:h0 b=none) (hb:fH k b cs) (f:l.base=some ⟨b,0,none⟩) (a:l.len=xs.length) (d:l.len<=l.cap) (j:cs.length=l.cap*sz) (e:cs.take (l.len*sz)=xs.flatMap enc):Has h0 (dC sz enc l xs) k:=
 ⟨h,λc=>c=b,⟨a,d,.inr ⟨b,0,cs,f,λ_=>Iff.rfl,hb,by omega,by simpa using e⟩⟩,λc g=>by rw [g];exact i⟩
theorem Has.zh {F:List Nat} (o:cT k sz enc l xs F) (d:h0<=k) (j:∀b∈F,h0 b=none):Has h0 (dC sz enc l xs) k:=by
 obtain ⟨a,c,g⟩:=o;rcases g with ⟨e,f,rfl⟩ | ⟨b,n,e,rfl,hb,i,m⟩
 ·exact ⟨d,λ_=>False,⟨a,c,.inl ⟨e,f,λ_ h=>h⟩⟩,λ_ h=>h.elim⟩
 ·exact Has.tP d (j b (List.mem_singleton.2 rfl)) hb e a c i m
theorem gh {k:Hp} {cs:List Value} {K:Addr->Hp->Prop} (d:cs=xs.flatMap enc) (e:∀x,(enc x).length=sz) (f:∀a c,k<=c->Has k (dC sz enc ⟨some a,xs.length,xs.length⟩ xs) c->K a c):bq cs K k:=by intro b t hb;refine f _ _ (kP hb) (Has.tP (b:=b) (cs:=cs) (kP hb) hb ⟨t,lP⟩ rfl rfl (Nat.le_refl _) (by rw [d,iE e]) ?_);rw [d];show List.take (xs.length*sz) _=_;rw [<-iE e xs,List.take_length]
theorem Has.app {zero:List Value} {bytes:Nat} {x:Sl} {d:List α} {K:Sl->Hp->Prop} (o:Has h0 (dC sz enc l xs) k) (r:Rw k sz enc x d) (f:∀x,(enc x).length=sz) (J:∀x,iF (enc x)=true)
  (N:zero.length=sz) (hb:xs.length+d.length<=140737488355328/\(xs.length+d.length)*bytes<=140737488355328)
  (q:∀z y,Has h0 (dC sz enc z (xs++d)) y->K z y):fP sz bytes zero l x K k:=by
 have L:=o.ia f;obtain ⟨i,F,⟨h1,D,E⟩,p⟩:=o;obtain ⟨g,X⟩:=r;refine ⟨d.flatMap enc,by grind,xs.flatMap enc,by rw [h1];exact L.2,by grind,Ck J d,λw=> ?_,λw c b t G v=> ?_⟩
 ·rcases E with ⟨e,m,h⟩ | ⟨b,off,cs,e,h,u,T,M⟩
  ·have A:d.length=0:=by omega
   have B:d=[]:=List.length_eq_zero_iff.1 A;subst B;refine ⟨λa n=>(by grind),?_⟩;have j:fG k l.base (l.len*sz) (([]:List α).flatMap enc)=k:=by rw [e];rfl
   rw [j,g];exact q _ k ⟨i,F,⟨by simp [h1],by simpa using D,.inl ⟨e,m,h⟩⟩,p⟩
  ·have V:l.len*sz+(d.flatMap enc).length<=l.cap*sz:=by rw [iE f,<-Nat.add_mul];exact Nat.mul_le_mul_right sz (by omega)
   obtain ⟨P,Q⟩:=u.put (off:=off+l.len*sz) (new:=d.flatMap enc) (by omega);have W:h0 b=none:=p b ((h b).2 rfl);refine ⟨λa n=> ?_,?_⟩
   ·rw [e] at n;cases n;rw [jD];refine u.qR _ ?_;rw [g,<-iE f d];omega
   ·have j:fG k l.base (l.len*sz) (d.flatMap enc)=jA k ⟨b,off+l.len*sz,none⟩ (d.flatMap enc) 0:=by rw [e];simp only [fG,jD]
    rw [j];refine q _ _ ⟨λc O m=> ?_,F,⟨by simp [h1,g],w,.inr ⟨b,off,_,e,h,P,?_,?_⟩⟩,p⟩
    ·have I:c≠b:=λR=>by grind
     rw [Q c I];exact i c O m
    ·grind
    ·have U:off+l.len*sz<=cs.length:=by omega
     have s:(l.len+x.len)*sz=l.len*sz+(d.flatMap enc).length:=by rw [g,iE f,Nat.add_mul]
     have C:(cs.take (off+l.len*sz)).drop off=xs.flatMap enc:=by rw [List.drop_take,<-M];congr 1;omega
     show List.take ((l.len+x.len)*sz) _=_;rw [s,List.append_assoc,List.drop_append_of_le_length (by rw [List.length_take];omega),C,List.flatMap_append,<-List.append_assoc];have S:l.len*sz+(d.flatMap enc).length=(xs.flatMap enc++d.flatMap enc).length:=by rw [List.length_append,iE f xs,h1]
     grind
 ·have H:h0 b=none:=uK i v;refine q _ _ (Has.tP (b:=b) (cs:=xs.flatMap enc++d.flatMap enc++eS zero (c-(l.len+x.len))) (Hp.le_trans i (kP v)) H ⟨t,lP⟩ rfl (by simp [h1,g]) G ?_ ?_)
  ·rw [List.length_append,List.length_append,iE f,iE f,wO,N,<-Nat.add_mul,<-Nat.add_mul];grind
  ·have s:(l.len+x.len)*sz=(xs.flatMap enc++d.flatMap enc).length:=by rw [List.length_append,iE f,iE f,h1,g,Nat.add_mul]
   grind
theorem Has.push {zero:List Value} {bytes:Nat} {e:α} {cs:List Value} {K:Sl->Hp->Prop} (o:Has h0 (dC sz enc l xs) k) (g:cs=enc e) (b:∀x,(enc x).length=sz) (j:∀x,iF (enc x)=true)
  (m:zero.length=sz) (hb:xs.length+1<=140737488355328/\(xs.length+1)*bytes<=140737488355328)
  (h:∀f c,Has h0 (dC sz enc f (xs++ [e])) c->K f c):bq cs (λa d=>fP sz bytes zero l ⟨some a,1,1⟩ K d) k:=by
 refine gh (xs:=[e]) (sz:=sz) (enc:=enc) (by rw [g];simp) b λa d i n=> ?_;exact (o.grow i).app (n.ia b) b j m hb h
theorem Has.vN (o:Has h0 (dC sz enc l xs) k) (i:∀x,(enc x).length=sz) {n c:Nat} (w:n<=xs.length) (t:n<=c) (u:c<=l.cap):Has h0 (dC sz enc ⟨aS l.base sz 0 c,n-0,c-0⟩ (xs.take n)) k:=by
 obtain ⟨m,F,⟨r,s,g⟩,j⟩:=o;have hb:aS l.base sz 0 c=l.base:=by
  unfold aS;split
  ·rfl
  ·cases l.base with
   | none=>rfl
   | some a=>obtain ⟨b,off,sp⟩:=a;simp [Addr.add]
 refine ⟨m,F,⟨by simp;omega,by simp;omega,?_⟩,j⟩;rw [hb];rcases g with ⟨e,q,d⟩ | ⟨b,off,f,e,d,h,v,p⟩
 ·grind
 ·refine .inr ⟨b,off,f,e,d,h,?_,?_⟩
  ·have:(c-0)*sz<=l.cap*sz:=Nat.mul_le_mul_right sz (by omega);grind
  ·show List.take ((n-0)*sz) _=_;rw [yp i,<-p,List.take_take];congr 1;have:n*sz<=l.len*sz:=Nat.mul_le_mul_right sz (by omega);grind
theorem Has.mC {a:α} {r:List α} (o:Has h0 (dC sz enc l (a::r)) k) (y:∀x,(enc x).length=sz) {c:Nat} (v:l.len<=c) (w:c<=l.cap):Has h0 (dC sz enc ⟨aS l.base sz 1 c,l.len-1,c-1⟩ r) k:=by
 obtain ⟨n,F,⟨h1,u,j⟩,m⟩:=o;have p:l.len=r.length+1:=by simpa using h1
 refine ⟨n,F,⟨by grind,by grind,?_⟩,m⟩;rcases j with ⟨e,t,d⟩ | ⟨b,off,f,e,d,g,z,s⟩
 ·omega
 ·by_cases h:c=1
  ·have q:r=[]:=List.length_eq_zero_iff.1 (by omega);subst q;refine .inr ⟨b,off,f,?_,d,g,?_,?_⟩
   ·show aS l.base sz 1 c=_;unfold aS;rw [if_pos h];exact e
   ·show off+(c-1)*sz<=_;have:(c-1)*sz<=l.cap*sz:=Nat.mul_le_mul_right sz (by omega);omega
   grind
  ·refine .inr ⟨b,off+1*sz,f,?_,d,g,?_,?_⟩
   ·show aS l.base sz 1 c=_;rw [e,sA h]
   ·show off+1*sz+(c-1)*sz<=_;have:1*sz+(c-1)*sz<=l.cap*sz:=by rw [<-Nat.add_mul];exact Nat.mul_le_mul_right sz (by omega)
    omega
   ·show List.take ((l.len-1)*sz) _=_;have i:(List.flatMap enc (a::r)).drop sz=r.flatMap enc:=by grind
    rw [<-i,<-s,List.drop_take,List.drop_drop,Nat.one_mul];congr 1;rw [p,Nat.add_mul,Nat.one_mul];simp
theorem Ve (b:∀x,(enc x).length=sz) {off n:Nat} {a:List Value} (h:n=xs.length) (f:off+n*sz<=a.length) (d:(a.drop off).take (n*sz)=xs.flatMap enc) {i:Nat} (c:i<xs.length) (x:α):
  ((a.take (off+i*sz)++enc x++a.drop (off+i*sz+sz)).drop off).take (n*sz)=(xs.set i x).flatMap enc:=by
 have g:i*sz+sz<=n*sz:=by have:=Nat.mul_le_mul_right sz (show i+1<=n by omega);rw [Nat.add_mul,Nat.one_mul] at this;exact this
 rw [AB x c,List.flatMap_append,List.flatMap_cons,yp b,xh b,<-d];have t1:((a.take (off+i*sz)).drop off)=(a.drop off).take (i*sz):=by rw [List.drop_take];congr 1;omega
 rw [List.append_assoc,List.drop_append_of_le_length (by rw [List.length_take];omega),t1,List.take_take,Nat.min_eq_left (by omega)];have e:((a.drop off).take (i*sz)).length=i*sz:=by rw [List.length_take,List.length_drop];omega
 rw [List.take_append,e,List.take_of_length_le (by omega),List.take_append,b,List.take_of_length_le (l:=enc x) (by rw [b];omega)];congr 2;rw [List.drop_take,List.drop_drop];grind
theorem Has.wb (o:Has h0 (dC sz enc l xs) k) (g:∀x,(enc x).length=sz) {i:Nat} {x x':α} (s:xs[i]? =some x) {off:Nat} {new:List Value} (S:off+new.length<=sz) (M:(enc x).take off++new++(enc x).drop (off+new.length)=enc x')
  {K:Hp->Prop} (J:∀j,Has h0 (dC sz enc l (xs.set i x')) j->K j):cq k ((sat l.base sz (i:Int)).add off) new K:=by
 have r:i<xs.length:=(List.getElem?_eq_some_iff.1 s).1;obtain ⟨L,F,⟨t,f,n⟩,w⟩:=o;rcases n with ⟨e,h,q⟩ | ⟨b,a,d,e,q,H,P,A⟩
 ·omega
 ·have N:h0 b=none:=w b ((q b).2 rfl);have Q:i*sz+sz<=l.len*sz:=by have:=Nat.mul_le_mul_right sz (show i+1<=l.len by omega);rw [Nat.add_mul,Nat.one_mul] at this;exact this
  have R:l.len*sz<=l.cap*sz:=Nat.mul_le_mul_right sz f;have G:(sat l.base sz (i:Int)).add off=⟨b,a+i*sz+off,none⟩:=by unfold sat;rw [e,Option.getD_some,jD,jD,Int.toNat_natCast]
  rw [G];have O:(d.drop (a+i*sz)).take sz=enc x:=by
   have f:(xs.drop i).flatMap enc=enc x++(xs.drop (i+1)).flatMap enc:=by rw [List.drop_eq_getElem_cons r,List.flatMap_cons];rw [List.getElem?_eq_getElem r] at s;rw [Option.some.inj s]
   have n:(xs.drop i).flatMap enc=(d.drop (a+i*sz)).take (l.len*sz-i*sz):=by rw [xh g,<-A,List.drop_take,List.drop_drop]
   rw [n] at f;have p:=congrArg (List.take sz) f;rw [List.take_take,Nat.min_eq_left (by omega),<-g x,List.take_left] at p;rw [g x] at p;exact p
  have v:d=d.take (a+i*sz)++(enc x++d.drop (a+i*sz+sz)):=by
   have E:d.drop (a+i*sz+sz)=(d.drop (a+i*sz)).drop sz:=by rw [List.drop_drop]
   rw [<-O,E,List.take_append_drop,List.take_append_drop]
  have y:(d.take (a+i*sz)).length=a+i*sz:=by rw [List.length_take];omega
  have z:(enc x).length=sz:=g x;have C:d.take (a+i*sz+off)=d.take (a+i*sz)++(enc x).take off:=by
   conv=>lhs;rw [v]
   rw [List.take_append,y,List.take_of_length_le (by omega),List.take_append,z,show a+i*sz+off-(a+i*sz)=off by omega,show off-sz=0 by omega,List.take_zero,List.append_nil]
  have D:d.drop (a+i*sz+off+new.length)=(enc x).drop (off+new.length)++d.drop (a+i*sz+sz):=by
   conv=>lhs;rw [v]
   rw [List.drop_append,y,List.drop_eq_nil_of_le (by omega),List.nil_append,List.drop_append,z,show a+i*sz+off+new.length-(a+i*sz)=off+new.length by omega,show off+new.length-sz=0 by omega,List.drop_zero]
  refine yv H (by omega) λj m u=> ?_;rw [C,D,show d.take (a+i*sz)++(enc x).take off++new++((enc x).drop (off+new.length)++d.drop (a+i*sz+sz))=d.take (a+i*sz)++enc x'++d.drop (a+i*sz+sz) by rw [<-M];simp] at u;refine J j ⟨λc B h=>m.cv c B (L c B h) (λI=>(by rw [List.mem_singleton.1 I,N] at h;cases h)),F,⟨by simp [t],f,.inr ⟨b,a,_,e,q,u,?_,Ve g t (by omega) A r x'⟩⟩,w⟩;grind
end
end Lf
namespace Lf
structure dB where
 op:Int
 a:Int
 b:Int
 c:Int
 lJ:Int
def jE (op:Int):Bool×Bool×Bool×Bool:=
 if op=1 then (true,false,false,true)
 else if op=2\/op=20\/op=21\/op=25\/op=26 then (true,true,false,false)
 else if (3<=op/\op<=14)\/(15<=op/\op<=19)\/op=24 then (true,true,true,false)
 else if op=22\/op=29\/op=30 then (false,false,false,true)
 else if op=23 then (true,false,false,true)
 else if op=27\/op=28\/op=31\/op=32\/op=33 then (true,false,false,false)
 else (false,false,false,false)
def fk (has:Bool) (n:Int):Int:=if has=false/\n≠0 then 11 else if n<0\/8<=n then 10 else 0
def lz (x:dB) (n ai:Int):Int×Int:=
 if x.op<0\/34<=x.op then (9,0)
 else if fk (jE x.op).1 x.a≠0 then (fk (jE x.op).1 x.a,1)
 else if fk (jE x.op).2.1 x.b≠0 then (fk (jE x.op).2.1 x.b,2)
 else if fk (jE x.op).2.2.1 x.c≠0 then (fk (jE x.op).2.2.1 x.c,3)
 else if (jE x.op).2.2.2=false/\x.lJ≠0 then (11,4)
 else if (x.op=22\/x.op=23)/\(x.lJ<0\/n<x.lJ) then (12,4)
 else if (x.op=29\/x.op=30)/\(x.lJ<0\/ai<=x.lJ) then (13,4)
 else (0,0)
def jm (n ai:Int):List dB->Int->Int×Int
 | [],_=>(0,0)
 | x::r,i=>if (lz x n ai).1≠0 then ((lz x n ai).1,i) else jm n ai r (i+1)
def iM (l:List dB) (ai:Int):Int×Int:=
 if ai<0\/8<ai then (1,0) else if 256<l.length then (3,256) else jm l.length ai l 0
structure ik where
 part:Int
 code:List dB
structure bg where
 labels:List Int
 table:List Int
 fuel:Int
 lane:Int
 ai:Int
 log:Int
 procs:List ik
def iV (n a b:Int):Bool:=decide (a<=n)&&decide (n<=b)
def rR (parts ai:Int):List ik->Int->Int×Int
 | [],_=>(0,0)
 | p::r,i=>if iV p.part 0 (parts-1)=false then (2,7+i) else if (iM p.code ai).1≠0 then ((iM p.code ai).1,7+i) else rR parts ai r (i+1)
def rW (m:Int) (c:bg):Int×Int:=
 if m≠0 then (m,0)
 else if c.table=[] then (1,1)
 else if 64<c.table.length then (3,1)
 else if c.table.all (λp=>iV p 0 (c.labels.length-1))=false then (2,1)
 else if iV c.fuel 1 256=false then (2,2)
 else if iV c.lane 1 64=false then (2,3)
 else if iV c.ai 0 8=false then (2,4)
 else if iV c.log 0 4096=false then (2,5)
 else if c.procs=[] then (1,6)
 else if 32<c.procs.length then (3,6)
 else rR c.labels.length c.ai c.procs 0
def Fs :List UInt8->Nat
 | []=>0
 | b::r=>b.toNat+256*Fs r
structure xG where
 tick:Int
 proc:Int
 value:Int
structure mu where
 proc:Int
 value:Int
structure ba where
 values:List Int
 waiters:List mu
 taken:Int
 dropped:Int
structure ak where
 state:Int
 pc:Int
 bf:List Int
 af:Int
 timer:Int
 bN:Bool
 cx:Int
 ah:List ba
structure dx where
 af:Int
 log:List xG
 lost:Int
 forbidden:Int
 ax:List Int
 an:List (List Int)
structure ij where
 tick:Int
 parts:List dx
 procs:List ak
section
variable (c:bg) (s:ij)
def Cr (p:Int) (i:Nat):Prop:=0<=p/\∃y,c.procs[p.toNat]? =some y/\y.part=(i:Int)
def L7 (p:Int) (q:ak->Prop):Prop:=∃x,s.procs[p.toNat]? =some x/\q x
def tM (i:Nat):Nat:=(c.procs.filter λy=>decide (y.part=(i:Int))).length
def jl (n:Int):Prop:=0<=n/\n<=65535
def pP (y:ik) (pc:Int):Option dB:=if 0<=pc then y.code[pc.toNat]? else none
def vG (i:Nat):Int->List xG->Prop
 | _,[]=>True
 | last,e::r=>last<=e.tick/\e.tick<s.tick/\Cr c e.proc i/\vG i e.tick r
def C7 (i:Nat) (x:dx):Prop:=
 (0<=x.af/\(0<x.af->x.af<tM c i)/\(x.log.length:Int)<=c.log)/\vG c s i 0 x.log/\jl x.lost/\jl x.forbidden/\(0<x.lost->c.log<=x.log.length)/\
 (x.ax.length:Int)=c.ai/\(x.an.length:Int)=c.ai/\∀p∈x.ax,p≠ -1->Cr c p i/\L7 s p λz=>z.state≠5/\z.state≠6
def rT (l:ba):Prop:=l.values≠ []\/0<l.taken\/0<l.dropped
def q8 (fl:Nat->Int->Prop) (x:ak) (y:ik):Prop:=
 (0<=x.state/\x.state<=6)/\(0<=x.pc/\x.pc<=y.code.length)/\x.ah.length=c.labels.length+1/\(0<=x.af/\x.af<x.ah.length)/\
 (0<=x.timer/\x.timer<=s.tick+1099511627776)/\(0<=x.cx/\x.cx<=s.tick+1099511627776)/\(0<x.cx↔x.state=4)/\
 (x.state=5\/x.state=6->x.timer=0/\x.bN=false)/\
 (∀(i:Nat) l,x.ah[i]? =some l->(l.values.length:Int)<=c.lane/\jl l.taken/\jl l.dropped/\(rT l->i<c.labels.length->fl i y.part))/\
 (x.state=1->(∃n,pP y x.pc=some n/\n.op=25)/\(∀l∈x.ah,l.values=[])/\x.bN=false)/\
 (x.state=2->∃n,pP y x.pc=some n/\n.op=24)/\(x.state=3->∃n,pP y x.pc=some n/\n.op=29)/\(x.state=4->∃n,pP y x.pc=some n/\n.op=28)
def Kh (p:Int) (q:ak->dB->Prop):Prop:=∃x y n,s.procs[p.toNat]? =some x/\c.procs[p.toNat]? =some y/\pP y x.pc=some n/\q x n
def Pz (p v:Int) (r:Nat):Prop:=Kh c s p λx n=>x.state=2/\n.op=24/\x.bf[n.b.toNat]? =some (r:Int)/\x.bf[n.c.toNat]? =some v
def mf (p:Int) (x:dx):Nat:=(x.an.map λq=>q.countP (λz=>decide (z=p))).sum
def tw (p:Int) (l:ba):Nat:=l.waiters.countP λw=>decide (w.proc=p)
def me (p:Int) (x:ak):Nat:=(x.ah.map (tw p)).sum
def FI :Prop:=
 (∀(i:Nat) x,s.parts[i]? =some x->∀(k:Nat) q,x.an[k]? =some q->∀p∈q,Cr c p i/\(Kh c s p λz n=>z.state=3/\n.lJ=(k:Int))/\∃o,x.ax[k]? =some o/\0<=o/\o≠p)/\
 (∀(r:Nat) x y,s.procs[r]? =some x->c.procs[r]? =some y->∀(i:Nat) l,x.ah[i]? =some l->∀w∈l.waiters,(i:Int)=y.part/\Cr c w.proc i/\(x.state≠5/\x.state≠6)/\(l.values.length:Int)=c.lane/\Pz c s w.proc w.value r)/\
 (∀(p:Nat) x,s.procs[p]? =some x->(s.parts.map (mf (p:Int))).sum+(s.procs.map (me (p:Int))).sum=if x.state=3\/x.state=2 then 1 else 0)
def PA :Prop:=(0<=s.tick/\s.tick<=4611686018427387904)/\s.parts.length=c.labels.length/\s.procs.length=c.procs.length
def sZ (fl:Nat->Int->Prop):Prop:=
 PA c s/\(∀(i:Nat) x,s.parts[i]? =some x->C7 c s i x)/\(∀(p:Nat) x y,s.procs[p]? =some x->c.procs[p]? =some y->q8 c s fl x y)/\FI c s
end
theorem Ke {b:Type} (f:b->Nat):∀(l:List b) (i:Nat),(∀j x,l[j]? =some x->j≠i->f x=0)->(l.map f).sum=((l[i]?).map f).getD 0
 | [],i,_=>by simp
 | x::r,0,h=>by
  have:(r.map f).sum=0:=by rw [List.sum_eq_zero_iff_forall_eq_nat];intro y d;obtain ⟨z,e,rfl⟩:=List.mem_map.1 d;obtain ⟨j,a⟩:=List.getElem?_of_mem e;exact h (j+1) z (by simpa using a) (by omega)
  simp [this]
 | x::r,i+1,h=>by have c:=h 0 x rfl (by omega);have:=Ke f r i λj y a g=>h (j+1) y (by simpa using a) (by omega);simp [c,this]
end Lf
namespace Lf
open Go
structure MS where
 tick:Int
 part:Nat->dx
 proc:Nat->ak
def MS.aW (s:MS) (p:Nat) (x:ak):MS:=⟨s.tick,s.part,cn s.proc p x⟩
def MS.dU (s:MS) (i:Nat) (x:dx):MS:=⟨s.tick,cn s.part i x,s.proc⟩
def az (c:bg) (p:Nat):Nat:=((c.procs[p]?).map λy=>y.part.toNat).getD 0
def jj (c:bg) (p:Nat):List dB:=((c.procs[p]?).map λy=>y.code).getD []
def nP (c:bg):Nat:=c.labels.length
def nQ (c:bg):Nat:=c.procs.length
def MS.list (c:bg) (s:MS):ij:=⟨s.tick,(List.range (nP c)).map s.part,(List.range (nQ c)).map s.proc⟩
def gD (l:List dB) (pc:Int):Option dB:=if 0<=pc then l[pc.toNat]? else none
def iD (r:List Int) (i v:Int):List Int:=if 0<=i/\i<8 then r.set i.toNat v else r
def eR (r:List Int) (i:Int):Int:=r.getD i.toNat 0
structure Core where
 pc:Int
 bf:List Int
def ak.core (x:ak):Core:=⟨x.pc,x.bf⟩
def ak.put (x:ak) (k:Core):ak:={x with pc:=k.pc,bf:=k.bf}
def fj (k:Core):Core:=⟨k.pc+1,k.bf⟩
def jU (l:List dB) (k:Core) (v:Int):Core:=match gD l k.pc with
 | some n=>⟨k.pc+1,iD k.bf n.a v⟩
 | none=>fj k
def gk (l:List dB) (k:Core) (v from_:Int):Core:=match gD l k.pc with
 | some n=>⟨k.pc+1,iD (iD k.bf n.a v) n.b from_⟩
 | none=>fj k
structure Want where
 kind:Int
 to:Int
 value:Int
def kr (x:dB) (r:List Int):Option (Want×Bool):=
 if x.op=0 then some (⟨1,0,0⟩,true)
 else if x.op=24 then some (⟨2,eR r x.b,eR r x.c⟩,true)
 else if x.op=25 then some (⟨3,0,0⟩,true)
 else if x.op=26 then some (⟨4,0,0⟩,true)
 else if x.op=27 then some (⟨5,0,eR r x.a⟩,false)
 else if x.op=28 then some (⟨6,0,eR r x.a⟩,true)
 else if x.op=29 then some (⟨7,x.lJ,0⟩,true)
 else if x.op=30 then some (⟨8,x.lJ,0⟩,false)
 else if x.op=31 then some (⟨9,0,eR r x.a⟩,false)
 else none
def Cl (D:Int->Int->Int->Int) (x:dB) (k:Core) (tick d:Int):Core:=
 if x.op=1 then ⟨k.pc+1,iD k.bf x.a x.lJ⟩
 else if x.op=2 then ⟨k.pc+1,iD k.bf x.a (eR k.bf x.b)⟩
 else if x.op=32 then ⟨k.pc+1,iD k.bf x.a tick⟩
 else if x.op=33 then ⟨k.pc+1,iD k.bf x.a d⟩
 else if x.op=22 then ⟨x.lJ,k.bf⟩
 else if x.op=23 then if eR k.bf x.a=0 then fj k else ⟨x.lJ,k.bf⟩
 else ⟨k.pc+1,iD k.bf x.a (D x.op (eR k.bf x.b) (eR k.bf x.c))⟩
def jr (D:Int->Int->Int->Int) (l:List dB) (k:Core) (tick self:Int):Core×Want:=match gD l k.pc with
 | none=>(k,⟨1,0,0⟩)
 | some x=>if (lz x l.length 8).1≠0 then (k,⟨1,0,0⟩) else match kr x k.bf with
  | some (w,a)=>(if a then k else fj k,w)
  | none=>(Cl D x k tick self,⟨0,0,0⟩)
section
variable (c:bg) (D:Int->Int->Int->Int) (fl:Nat->Nat->Bool)
def more (n:Int):Int:=if n+1<=65535 then n+1 else 65535
def j5 (x:ak):Bool:=decide (x.state≠5)&&decide (x.state≠6)
def tF (x:ak) (k:Core):ak:={x with state:=0,pc:=k.pc,bf:=k.bf}
def oa (s:MS) (p:Nat):MS:=s.aW p (tF (s.proc p) (fj (s.proc p).core))
def jk (s:MS) (j9:Int):MS:=if 0<=j9 then oa s j9.toNat else s
def cm (s:MS) (p:Nat) (v:Int):MS:=s.aW p (tF (s.proc p) (jU (jj c p) (s.proc p).core v))
def dW (x:ak):ak:={x with state:=if x.state=1 then 0 else x.state}
def bw (x:ak) (i:Nat) (f:ba->ba):ak:={x with ah:=x.ah.modify i f}
def tI (v:Int) (l:ba):ba:={l with values:=l.values++ [v]}
def lf (l:ba):ba:={l with dropped:=more l.dropped}
def hZ (p v:Int) (l:ba):ba:={l with waiters:=l.waiters++ [⟨p,v⟩]}
def fL (x:ak) (i:Nat):Bool:=match x.ah[i]? with
 | some l=>decide (c.lane<=(l.values.length:Int))
 | none=>true
def ln (s:MS) (p:Nat) (to v:Int):MS:=
 if to<0\/(nQ c:Int)<=to then cm c s p 1
 else if fl (az c p) (az c to.toNat)=false then cm c (s.dU (az c p) {s.part (az c p) with forbidden:=more (s.part (az c p)).forbidden}) p 0
 else if az c p=az c to.toNat then
  if j5 (s.proc to.toNat)=false then cm c s p 2
  else if fL c (s.proc to.toNat) (az c p) then
   let s1:=s.aW to.toNat (bw (s.proc to.toNat) (az c p) (hZ p v))
   s1.aW p {s1.proc p with state:=2}
  else cm c (s.aW to.toNat (dW (bw (s.proc to.toNat) (az c p) (tI v)))) p 0
 else if j5 (s.proc to.toNat)=false\/fL c (s.proc to.toNat) (az c p) then cm c (s.aW to.toNat (bw (s.proc to.toNat) (az c p) lf)) p 0
 else cm c (s.aW to.toNat (dW (bw (s.proc to.toNat) (az c p) (tI v)))) p 0
def vz (af:Int) (l:List ba):Option Nat:=
 ((List.range l.length).map λk=>(af.toNat+k)%l.length).find? λi=>match l[i]? with
  | some x=> !x.values.isEmpty
  | none=>false
def du (l:ba):ba:=match l.waiters with
 | []=>{l with values:=l.values.tail,taken:=more l.taken}
 | w::r=>{l with values:=l.values.tail++ [w.value],waiters:=r,taken:=more l.taken}
def kq (s:MS) (p:Nat) (a:Bool):MS:=
 let x:=s.proc p
 match vz x.af x.ah with
 | some i=>
  let l:=x.ah.getD i ⟨[],[],0,0⟩;let b:={bw x i du with af:=((i+1:Nat):Int)%(x.ah.length:Int)};let s1:=s.aW p (b.put (gk (jj c p) x.core (l.values.headD 0) i))
  match l.waiters with
  | []=>s1
  | w::_=>cm c s1 w.proc.toNat 0
 | none=>
  if x.bN then s.aW p {x.put (gk (jj c p) x.core 0 (-2)) with bN:=false}
  else if a then s.aW p (x.put (gk (jj c p) x.core 0 (-1)))
  else s.aW p {x with state:=1}
def gU {b:Type} (f:b->Bool):List b->List b
 | []=> []
 | a::l=>if f a then l else a::gU f l
def qz (p:Int) (x:ak):ak:={x with ah:=x.ah.map λl=>{l with waiters:=gU (λw=>decide (w.proc=p)) l.waiters}}
def iW (p:Int):List Int->List (List Int)->List Int×List (List Int)×List Int
 | o::os,q::qs=>
  let r:=iW p os qs
  if o=p then match q with
   | []=>(-1::r.1,[]::r.2.1, -1::r.2.2)
   | a::b=>(a::r.1,b::r.2.1,a::r.2.2)
  else (o::r.1,q::r.2.1,r.2.2)
 | os,qs=>(os,qs,[])
def xj (p:Int) (x:dx):dx×List Int:=
 let r:=iW p x.ax (x.an.map (gU λz=>decide (z=p)))
 ({x with ax:=r.1,an:=r.2.1},r.2.2)
def oZ (s:MS) (p:Nat) (st:Int):MS:=
 let i:=az c p;let s1:=s.aW p {s.proc p with state:=st,bN:=false};let s2:MS:=⟨s1.tick,s1.part,λq=>if q<nQ c/\az c q=i then qz p (s1.proc q) else s1.proc q⟩;let r:=xj p (s2.part i);let b:=r.2.foldl jk (s2.dU i r.1);let a:=b.aW p {b.proc p with timer:=0,cx:=0};let d:=(a.proc p).ah.flatMap (·.waiters)
 d.foldl (λs w=>cm c s w.proc.toNat 2) (a.aW p {a.proc p with ah:=(a.proc p).ah.map λl=>{l with waiters:=[]}})
def sc (s:MS) (p:Nat) (v:Int):MS:=
 let x:=s.part (az c p)
 s.dU (az c p) (if (x.log.length:Int)<c.log then {x with log:=x.log++ [⟨s.tick,p,v⟩]} else {x with lost:=more x.lost})
def jN (s:MS) (p:Nat) (n:Int):MS:=
 let x:=s.part (az c p);let o:=x.ax.getD n.toNat 0
 if o= -1\/o=p then goK (s.dU (az c p) {x with ax:=x.ax.set n.toNat p}) p
 else (s.dU (az c p) {x with an:=x.an.modify n.toNat (· ++ [(p:Int)])}).aW p {s.proc p with state:=3}
where
 goK (s:MS) (p:Nat):MS:=s.aW p ((s.proc p).put (fj (s.proc p).core))
def xD (s:MS) (p:Nat) (n:Int):MS:=
 let x:=s.part (az c p)
 if x.ax.getD n.toNat (-1)=p then match x.an.getD n.toNat [] with
  | []=>s.dU (az c p) {x with ax:=x.ax.set n.toNat (-1)}
  | a::r=>jk (s.dU (az c p) {x with ax:=x.ax.set n.toNat a,an:=x.an.set n.toNat r}) a
 else s
def ph (a b:Int):Int:=if a<=b then a else b
def tN (a b:Int):Int:=if a<=b then b else a
def vP (s:MS) (p:Nat):MS:=
 let r:=jr D (jj c p) (s.proc p).core s.tick p;let s1:=s.aW p ((s.proc p).put r.1);let w:=r.2
 if w.kind=1 then oZ c s1 p 5
 else if w.kind=2 then ln c fl s1 p w.to w.value
 else if w.kind=3 then kq c s1 p false
 else if w.kind=4 then kq c s1 p true
 else if w.kind=5 then s1.aW p {s1.proc p with bN:=false,timer:=if 0<w.value then s.tick+ph w.value 1099511627776 else 0}
 else if w.kind=6 then s1.aW p {s1.proc p with state:=4,cx:=s.tick+ph (tN w.value 1) 1099511627776}
 else if w.kind=7 then jN c s1 p w.to
 else if w.kind=8 then xD c s1 p w.to
 else if w.kind=9 then sc c s1 p w.value
 else s1
def mg (t:Int) (x:ak):ak:=
 let y:ak:=if 0<x.cx/\x.cx<=t then {x with cx:=0,state:=0,pc:=x.pc+1} else x
 if 0<y.timer/\y.timer<=t then {y with timer:=0,bN:=true,state:=if y.state=1 then 0 else y.state} else y
def je (s:MS) (i:Nat):MS:=⟨s.tick,s.part,λq=>if q<nQ c/\az c q=i then mg s.tick (s.proc q) else s.proc q⟩
def dS (i:Nat):List Nat:=(List.range (nQ c)).filter λq=>decide (az c q=i)
def jq (s:MS) (i:Nat):Option Nat:=
 ((List.range (dS c i).length).map λk=>((s.part i).af.toNat+k)%(dS c i).length).find? λa=>decide ((s.proc ((dS c i).getD a 0)).state=0)
def ly (s:MS) (i a:Nat):MS:=vP c D fl (s.dU i {s.part i with af:=((a+1:Nat):Int)%((dS c i).length:Int)}) ((dS c i).getD a 0)
def nw (i:Nat):Nat->MS->MS
 | 0,s=>s
 | n+1,s=>match jq c s i with
  | none=>s
  | some a=>nw i n (ly c D fl s i a)
def zip (t:Int):Nat:=(c.table.getD (t.toNat%c.table.length) 0).toNat
def lu (s:MS):MS:=
 let s1:=nw c D fl (zip c s.tick) c.fuel.toNat (je c s (zip c s.tick))
 ⟨s1.tick+1,s1.part,s1.proc⟩
def pn (s:MS) (p:Int):Int:=if p<0\/(nQ c:Int)<=p then 17 else if j5 (s.proc p.toNat)=false then 18 else 0
def u5 (s:MS) (p v:Int):MS×Int:=
 if pn c s p≠0 then (s,pn c s p)
 else if fL c (s.proc p.toNat) (nP c) then (s.aW p.toNat (bw (s.proc p.toNat) (nP c) lf),19)
 else (s.aW p.toNat (dW (bw (s.proc p.toNat) (nP c) (tI v))),0)
def sP :MS:=⟨0,λ_=>⟨0,[],0,0,List.replicate c.ai.toNat (-1),List.replicate c.ai.toNat []⟩,
 λ_=>⟨0,0,List.replicate 8 0,0,0,false,0,List.replicate (nP c+1) ⟨[],[],0,0⟩⟩⟩
end
section
variable {P:Program} {α:Type} {h0 k:Hp} {sz:Nat} {enc:α->List Value} {s:Sl} {xs:List α}
theorem HH {g q bytes:Nat} {zero:List Value} {x y:Operand} {Q:Sl->Hp->Prop} (m:P.underlying g=some (.slice q)) (r:Rw k sz enc s xs) (w:0<sz) (d:∀x,(enc x).length=sz) (l:∀x,iF (enc x)=true) (p:zero.length=sz)
  (hb:xs.length<=140737488355328/\xs.length*bytes<=140737488355328) (f:∀c b,k<=b->Has k (dC sz enc c xs) b->Q c b):
  iz none P (cW .eql g x y s.v (.slice none 0 0)) bu k λx=>(if x=true then Q ⟨none,0,0⟩ k else bq [] (λa h=>fP sz bytes zero ⟨(some a),0,0⟩ s (λr i=>Q r i) h) k):=by
 refine ⟨s.base.isNone,Lc m s,?_⟩;cases u:s.base with
 | none=>
  rw [if_pos (show (none:Option Addr).isNone=true from rfl)];have:xs=[]:=by
   rcases r.2.2 with e | ⟨a,t,_⟩
   ·exact List.length_eq_zero_iff.1 ((Nat.mul_eq_zero.1 e).resolve_right (by omega))
   grind
  subst this;exact f _ k (Hp.le_refl k) (Has.jP (Hp.le_refl k))
 | some a=>rw [ry];refine gh (xs:=([]:List α)) (enc:=enc) (sz:=sz) rfl d λa z j n=> ?_;refine n.app (Rw.mono j r) d l p (by simpa using hb) λc b o=> ?_;exact f c b o.le (by simpa using o)
def ic (f:α->Bool) (xs:List α):Int:=match xs.findIdx? f with
 | some i=>i
 | none=> -1
theorem UX (f:α->Bool):∀xs:List α,gU f xs=if 0<=ic f xs then xs.take (ic f xs).toNat++xs.drop ((ic f xs).toNat+1) else xs
 | []=>by simp [gU,ic]
 | a::l=>by
  unfold gU;by_cases h:f a=true
  ·have:ic f (a::l)=0:=by unfold ic;grind
   rw [if_pos h,this];simp
  ·have b:=UX f l;rw [if_neg h,b];unfold ic;grind
theorem JU {f:α->Bool} {xs:List α} (h:0<=ic f xs):ic f xs<xs.length:=by
 unfold ic at*;cases e:xs.findIdx? f with
 | none=>grind
 | some i=>have:=(List.findIdx?_eq_some_iff_getElem.1 e).1;grind
theorem JV {f:α->Bool} {xs:List α} {t:Nat} {x:α} (c:xs[t]? =some x) (a:f x=true) (b:∀(j:Nat) y,j<t->xs[j]? =some y->f y=false):ic f xs=t:=by
 have:xs.findIdx? f=some t:=by rw [List.findIdx?_eq_some_iff_getElem];grind
 unfold ic;rw [this]
theorem wi {f:α->Bool} {xs:List α} (a:∀x∈xs,f x=false):ic f xs= -1:=by have:xs.findIdx? f=none:=List.findIdx?_eq_none_iff.2 a;unfold ic;rw [this]
theorem Has.DF {bytes r G:Nat} {z:Value} {i j:Nat} {Q:Sl->Hp->Prop} (ht:P.underlying r=some (.slice G)) (b0:∀ {K:Value->Hp->Prop} {h:Hp},K z h->bF P (zeroValue G) K h) (e:∀x,(enc x).length=sz) (X:∀x,iF (enc x)=true) (hz:(aY z).length=sz) (a9:∀n,iF (eS (aY z) n)=true)
  (o:Has h0 (dC sz enc s xs) k) (b6:i<j) (T:j<=xs.length) (hb:xs.length<=140737488355328/\xs.length*bytes<=140737488355328)
  (Y:∀C A,Has h0 (dC sz enc C (xs.take i++xs.drop j)) A->Q C A):vO P sz bytes (aY z) r s (i:Int) (j:Int) Q k:=by
 obtain ⟨U,F,⟨hs,c0,L⟩,v⟩:=o;unfold vO;have it:(i:Int).toNat=i:=by omega
 have jt:(j:Int).toNat=j:=by omega
 have st:(s.len:Int).toNat=xs.length:=by omega
 rw [it,jt,st];refine ⟨by omega,aI ?_⟩;rw [if_neg (show ¬(((i:Int)==(j:Int))=true) by simp;omega)];have l:∀a b:Nat,a<=b->a*sz<=b*sz:=λa b M=>Nat.mul_le_mul_right sz M;have a8:((xs.take i).flatMap enc).length=i*sz:=by rw [iE e,List.length_take];congr 1;omega
 have rZ:((xs.drop j).flatMap enc).length=(xs.length-j)*sz:=by rw [iE e,List.length_drop]
 rcases L with ⟨D,oc,_⟩ | ⟨b,off,d,D,u,q,b4,f⟩
 ·omega
 rw [D];rw [hs] at f;have hn:h0 b=none:=v b ((u b).2 rfl);have b5:off+xs.length*sz<=d.length:=by grind
 have N:aS (some (⟨b,off,none⟩:Addr)) sz 0 s.cap=some ⟨b,off,none⟩:=by rw [sA (by omega)];simp
 have b7:=l i xs.length (by omega);have b8:=l j xs.length T;have c3:xs.length*sz=j*sz+(xs.length-j)*sz:=by rw [<-Nat.add_mul];congr 1;omega
 have c2:i*sz<=j*sz:=l _ _ (by omega);have c1:(d.drop off).take (i*sz)=(xs.take i).flatMap enc:=by rw [yp e,<-f,List.take_take];congr 1;omega
 have b2:nL k (some ⟨b,off,none⟩) ((i-0)*sz) ((xs.take i).flatMap enc):=q.rd a8 (by omega);have b1:nL k (aS (some (⟨b,off,none⟩:Addr)) sz j s.cap) ((xs.length-j)*sz) ((xs.drop j).flatMap enc):=by
  by_cases R:s.cap=j
  ·refine ⟨rZ,.inl ?_⟩;grind
  ·rw [sA R];refine q.rd rZ ?_;rw [xh e,<-f,List.drop_take,List.drop_drop];grind
 refine ⟨by omega,aI ⟨by omega,aI ?_⟩⟩;rw [N];have V:i-0+(xs.length-j)<=xs.length:=by omega
 have b3:(i-0+(xs.length-j))*bytes<=xs.length*bytes:=Nat.mul_le_mul_right _ V;have y:(⟨aS (some (⟨b,off,none⟩:Addr)) sz j s.cap,s.len-j,s.cap-j⟩:Sl).len=xs.length-j:=by grind
 have g:i-0=i:=by omega
 refine FH (n:=xs.length-j) q b2 (by rw [y];exact b1) y (Ck X _) ⟨by omega,by omega⟩ (by omega) (by
  grind) λJ m1 B=> ?_
 rw [g] at B;show ((0:Int)<=((i-0+(xs.length-j):Nat):Int)/\((i-0+(xs.length-j):Nat):Int)<=(s.len:Int)/\(s.len:Int)<=((s.cap-0:Nat):Int))/\aG (α:=Sl) ⟨aS (some ⟨b,off,none⟩) sz (((i-0+(xs.length-j):Nat):Int)).toNat (s.cap-0),xs.length-(((i-0+(xs.length-j):Nat):Int)).toNat,s.cap-0-(((i-0+(xs.length-j):Nat):Int)).toNat⟩ _;refine ⟨by omega,aI ?_⟩;have W:(((i-0+(xs.length-j):Nat):Int)).toNat=i+(xs.length-j):=by omega
 have O:s.cap-0=s.cap:=by omega
 rw [W,O,sA (show s.cap≠i+(xs.length-j) by omega)];have S:xs.length-(i+(xs.length-j))=j-i:=by omega
 have p:(i+(xs.length-j))*sz=i*sz+(xs.length-j)*sz:=Nat.add_mul _ _ _;have w:(d.take (off+i*sz)++(xs.drop j).flatMap enc++d.drop (off+i*sz+(xs.length-j)*sz)).length=d.length:=by grind
 show lU P (Builtin.clear_ #[r] 0 #[.slice (some ⟨b,off+(i+(xs.length-j))*sz,none⟩) (xs.length-(i+(xs.length-j))) (s.cap-(i+(xs.length-j)))]) rQ _ J;rw [S];have b9:i*sz+(j-i)*sz=j*sz:=by rw [<-Nat.add_mul];congr 1;omega
 refine HF ht b0 a9 B (by
  grind) λh2 m2 k2=> ?_
 have Z:(xs.take i++xs.drop j).length=i+(xs.length-j):=by simp;omega
 have m:=m1.trans m2;refine Y _ _ ⟨λc E I=>m.cv c E (U c E I) (λhc=>(by grind)),F,⟨?_,?_,.inr ⟨b,off,_,rfl,u,k2,?_,?_⟩⟩,v⟩
 ·rw [Z,g]
 ·grind
 ·simp only [List.length_append,List.length_take,List.length_drop,w,wO,hz];omega
 ·show List.take ((i-0+(xs.length-j))*sz) _=_;have t1:((d.take (off+i*sz)).drop off)=(xs.take i).flatMap enc:=by grind
  have t:i*sz+(xs.length-j)*sz=((xs.take i).flatMap enc++(xs.drop j).flatMap enc).length:=by grind
  have H:List.drop off (List.take (off+(i+(xs.length-j))*sz) (d.take (off+i*sz)++(xs.drop j).flatMap enc++d.drop (off+i*sz+(xs.length-j)*sz)))=(xs.take i).flatMap enc++(xs.drop j).flatMap enc:=by rw [List.drop_take,show off+(i+(xs.length-j))*sz-off=i*sz+(xs.length-j)*sz by rw [p];omega,List.append_assoc,List.drop_append_of_le_length (by grind),t1,<-List.append_assoc,t,List.take_left]
  rw [g,List.append_assoc,List.drop_append_of_le_length (by rw [List.length_take,w,p];omega),H,p,t,List.flatMap_append,List.take_left]
end
section
variable {V:Type}
def jf (a:Int):List (Int×V)->Option (Nat×V)
 | []=>none
 | (k,v)::r=>if a=k then some (0,v) else (jf a r).map λp=>(p.1+1,p.2)
def gL (a:Int):List (Int×V)->Option V
 | []=>none
 | (k,v)::r=>if a=k then some v else gL a r
def jM (a:Int) (v:V):List (Int×V)->List (Int×V)
 | []=> [(a,v)]
 | (k,u)::r=>if a=k then (a,v)::r else (k,u)::jM a v r
def lK (a:Int):List (Int×V)->List (Int×V)
 | []=> []
 | (k,u)::r=>if a=k then r else (k,u)::lK a r
theorem wC (a b:Int) (v:V):∀l:List (Int×V),gL a (jM b v l)=if a=b then some v else gL a l
 | []=>by simp [jM,gL]
 | (k,u)::r=>by
  simp only [jM];by_cases h:b=k
  ·rw [if_pos h];subst h;simp only [gL];split<;>rfl
  ·rw [if_neg h];simp only [gL,wC a b v r];grind
theorem HI {a:Int}:∀ {l:List (Int×V)},a∉l.map (·.1)->gL a l=none
 | [],_=>rfl
 | (k,u)::r,h=>by simp only [List.map_cons,List.mem_cons,not_or] at h;simp only [gL];rw [if_neg h.1];exact HI h.2
theorem IZ (a b:Int):∀l:List (Int×V),(l.map (·.1)).Nodup->gL a (lK b l)=if a=b then none else gL a l
 | [],_=>by simp [lK,gL]
 | (k,u)::r,c=>by
  simp only [List.map_cons,List.nodup_cons] at c;simp only [lK];by_cases h:b=k
  ·rw [if_pos h];subst h;simp only [gL];by_cases d:a=b
   ·subst d;rw [if_pos rfl];exact HI c.1
   grind
  ·rw [if_neg h];simp only [gL,IZ a b r c.2];grind
theorem HJ (b:Int) (v:V):∀(l:List (Int×V)) (a:Int),a∈(jM b v l).map (·.1)↔a=b\/a∈l.map (·.1)
 | [],a=>by simp [jM]
 | (k,u)::r,a=>by
  simp only [jM];by_cases h:b=k
  ·subst h;simp
  ·rw [if_neg h];simp only [List.map_cons,List.mem_cons,HJ b v r a];grind
theorem G6 (b:Int) (v:V):∀ {l:List (Int×V)},(l.map (·.1)).Nodup->((jM b v l).map (·.1)).Nodup
 | [],_=>by simp [jM]
 | (k,u)::r,a=>by
  simp only [List.map_cons,List.nodup_cons] at a;simp only [jM];by_cases h:b=k
  ·grind
  ·rw [if_neg h];simp only [List.map_cons,List.nodup_cons];refine ⟨λe=> ?_,G6 b v a.2⟩;rcases (HJ b v r k).1 e with e | e
   ·exact h e.symm
   ·exact a.1 e
theorem I0 (b:Int):∀(l:List (Int×V)),(lK b l).Sublist l
 | []=>.slnil
 | (k,u)::r=>by
  simp only [lK];split
  ·simp
  ·exact .cons_cons _ (I0 b r)
theorem TV (b:Int) {l:List (Int×V)} (h:(l.map (·.1)).Nodup):((lK b l).map (·.1)).Nodup:=h.sublist ((I0 b l).map _)
theorem HK {b:Int}:∀ {l:List (Int×V)},gL b l=none->lK b l=l
 | [],_=>rfl
 | (k,u)::r,h=>by
  simp only [gL] at h;simp only [lK];split at h
  ·cases h
  ·rename_i e;rw [if_neg e,HK h]
theorem A9 (a:Int):∀l:List (Int×V),gL a l=(jf a l).map (·.2)
 | []=>rfl
 | (k,v)::r=>by
  simp only [gL,jf];split
  ·rfl
  ·rw [A9 a r];simp [Function.comp_def]
def fe (h:Hp) (m:Nat) (k:IntKind) (ev:V->Value) (b:List (Int×V)):Prop:=
 ∃(a:List MapEntry) (ck:Nat),h m=some (.map a.toArray ck)/\a.map (λe=>(e.key,e.val))=b.map λp=>(Value.int k p.1,ev p.2)
variable {h:Hp} {m:Nat} {k:IntKind} {ev:V->Value} {kvs:List (Int×V)}
theorem wX (a:Int):∀(c:List MapEntry) (kvs:List (Int×V)) (j:Nat),c.map (λe=>(e.key,e.val))=kvs.map (λp=>(Value.int k p.1,ev p.2))->
  Instr.findNow (.int k) (.int k a) c j=some ((jf a kvs).map λp=>(p.1+j,ev p.2))
 | [],[],j,_=>rfl
 | [],_::_,j,h=>by simp at h
 | _::_,[],j,h=>by simp at h
 | e::c,(b,v)::r,j,h=>by
  simp only [List.map_cons,List.cons.injEq,Prod.mk.injEq] at h;obtain ⟨⟨f,g⟩,i⟩:=h;simp only [Instr.findNow,f,Instr.sameNow,if_true,jf];by_cases d:a=b
  ·simp [d,g]
  ·have l:(a==b)=false:=by simpa using d
   rw [l,if_neg d];simp only;rw [wX a c r (j+1) i];cases jf a r with
   | none=>rfl
   | some p=>simp;omega
theorem ur {d:IntKind} {sh:Shape} {kvs:List (Int×sh.T)} {a:Int} {z:sh.T} {zero:Value} {K:sh.T->Bool->Prop} (n:fe h m d sh.enc kvs) (o:sh.enc z=zero) (j:gL a kvs=none->K z false)
  (l:∀v,gL a kvs=some v->K v true):lS none (.int d) sh zero (some m) (.int d a) h K:=by
 obtain ⟨e,ck,f,i⟩:=n;have b:=wX (ev:=sh.enc) a e kvs 0 i;have c:=A9 a kvs;cases g:jf a kvs with
 | none=>rw [g] at b c;exact ⟨z,false,⟨e,.inr ⟨m,ck,rfl,f⟩,.inl ⟨b,o,rfl⟩⟩,j c⟩
 | some p=>rw [g] at b c;exact ⟨p.2,true,⟨e,.inr ⟨m,ck,rfl,f⟩,.inr ⟨_,b,rfl⟩⟩,l p.2 c⟩
theorem HL {a:Int} {v:V}:∀ {l:List (Int×V)},jf a l=none->jM a v l=l++ [(a,v)]
 | [],_=>rfl
 | (k,u)::r,h=>by
  simp only [jf] at h;split at h
  ·cases h
  ·rename_i e;simp only [jM];rw [if_neg e,HL (by simpa using h)];rfl
theorem I1 {a:Int} {v u:V} {ev:V->Value}:∀ {f:List MapEntry} {l:List (Int×V)} {i:Nat},f.map (λe=>(e.key,e.val))=l.map (λp=>(Value.int k p.1,ev p.2))->jf a l=some (i,u)->
  (f.modify i λe=>{e with key:=.int k a,val:=ev v}).map (λe=>(e.key,e.val))=(jM a v l).map λp=>(Value.int k p.1,ev p.2)
 | _,[],_,_,h=>by simp [jf] at h
 | [],_::_,_,h,_=>by simp at h
 | e::f,(b,w)::r,i,h,c=>by
  simp only [List.map_cons,List.cons.injEq] at h;simp only [jf] at c;simp only [jM];split at c
  ·grind
  ·rename_i g;rw [if_neg g];cases d:jf a r with
   | none=>rw [d] at c;simp at c
   | some p=>rw [d] at c;simp at c;obtain ⟨rfl,rfl⟩:=c;simp only [List.modify_succ_cons,List.map_cons,h.1];rw [I1 h.2 d]
theorem G7 {a:Int} {u:V} {ev:V->Value}:∀ {f:List MapEntry} {l:List (Int×V)} {i:Nat},f.map (λe=>(e.key,e.val))=l.map (λp=>(Value.int k p.1,ev p.2))->jf a l=some (i,u)->
  (f.eraseIdx i).map (λe=>(e.key,e.val))=(lK a l).map λp=>(Value.int k p.1,ev p.2)
 | _,[],_,_,h=>by simp [jf] at h
 | [],_::_,_,h,_=>by simp at h
 | e::f,(b,w)::r,i,h,c=>by
  simp only [List.map_cons,List.cons.injEq] at h;simp only [jf] at c;simp only [lK];split at c
  ·grind
  ·rename_i g;rw [if_neg g];cases d:jf a r with
   | none=>rw [d] at c;simp at c
   | some p=>rw [d] at c;simp at c;obtain ⟨rfl,rfl⟩:=c;simp only [List.eraseIdx_cons_succ,List.map_cons,h.1];rw [G7 h.2 d]
theorem HM {a:Int} {v:V} {K:Hp->Prop} (j:fe h m k ev kvs) (g:∀o,isCells o=false->fe (h.set m o) m k ev (jM a v kvs)->K (h.set m o)):yu (.int k) (some m) (.int k a) (ev v) K h:=by
 obtain ⟨d,ck,i,f⟩:=j;have b:=wX (ev:=ev) a d kvs 0 f;refine ⟨m,d.toArray,ck,rfl,i,?_⟩;cases c:jf a kvs with
 | none=>
  rw [c] at b;refine .inl ⟨b,g _ rfl ⟨d++ [{key:=.int k a,val:=ev v,born:=ck}],ck+1,?_,?_⟩⟩
  ·rw [lP];simp
  ·rw [HL c];simp [f]
 | some p=>rw [c] at b;refine .inr ⟨p.1,ev p.2,b,g _ rfl ⟨d.modify p.1 λe=>{e with key:=.int k a,val:=ev v},ck,?_,I1 (u:=p.2) f c⟩⟩;rw [lP];simp
theorem Vf {a:Int} {K:Hp->Prop} (i:fe h m k ev kvs) (f:∀o,isCells o=false->fe (h.set m o) m k ev (lK a kvs)->K (h.set m o)):sj (.int k) (some m) (.int k a) K h:=by
 obtain ⟨d,ck,g,e⟩:=i;have b:=wX (ev:=ev) a d kvs 0 e;refine .inr ⟨m,d.toArray,ck,rfl,g,?_⟩;cases c:jf a kvs with
 | none=>rw [c] at b;refine .inl ⟨b,f _ rfl ⟨d,ck,lP,?_⟩⟩;rw [HK (by rw [A9,c];rfl)];exact e
 | some p=>rw [c] at b;refine .inr ⟨p.1,ev p.2,b,f _ rfl ⟨d.eraseIdx p.1,ck,?_,G7 (u:=p.2) e c⟩⟩;rw [lP];simp
end
end Lf
namespace Lf
open Go Go.Proofs Tryz
abbrev dZ :Int->List Value:=λx=> [.int .i64 x]
abbrev eW :mu->List Value:=λw=> [.int .i64 w.proc,.int .i64 w.value]
def nq (w:mu):bt:=⟨w.proc,w.value⟩
section
variable {h0 k:Hp} {A B C:dg}
theorem Has.f1 (o:Has h0 (A.star (B.star C)) k):∃c,h0<=c/\Has c A k/\∀e f,Has c e f->Has h0 (e.star (B.star C)) f:=by obtain ⟨c,a,b,_,d⟩:=o.fst;grind
theorem Has.f2 (o:Has h0 (A.star (B.star C)) k):∃c,h0<=c/\Has c B k/\∀B' e,Has c B' e->Has h0 (A.star (B'.star C)) e:=by obtain ⟨c,a,b,_,d⟩:=o.snd;obtain ⟨h,a2,f,_,g⟩:=b.fst;exact ⟨h,Hp.le_trans a a2,f,λB' e i=>d _ _ (g _ _ i)⟩
theorem Has.f3 (o:Has h0 (A.star (B.star C)) k):∃h1,h0<=h1/\Has h1 C k/\∀e c,Has h1 e c->Has h0 (A.star (B.star e)) c:=by obtain ⟨h1,a,b,_,d⟩:=o.snd;obtain ⟨h,a2,f,_,g⟩:=b.snd;exact ⟨h,Hp.le_trans a a2,f,λj c i=>d _ _ (g _ _ i)⟩
theorem FK {l:Option Addr} {sz c:Nat}:aS l sz 0 c=l:=by
 unfold aS;split
 ·rfl
 ·cases l with
  | none=>rfl
  | some a=>obtain ⟨b,off,sp⟩:=a;simp [Addr.add]
theorem Has.shift {i:Type} {sz:Nat} {enc:i->List Value} {l:Sl} {a:i} {r:List i} {K:Int->Hp->Prop} (o:Has h0 (dC sz enc l (a::r)) k) (h:∀x,(enc x).length=sz) (D:∀x,iF (enc x)=true)
  (w:∀f,Has h0 (dC sz enc ⟨l.base,r.length,l.cap⟩ r) f->K (r.length:Nat) f):fq sz l ⟨aS l.base sz 1 l.cap,l.len-1,l.cap-1⟩ K k:=by
 have H:=o.gH;have g:=o.sf;have G:=(o.mC h (c:=l.cap) g (Nat.le_refl _)).ia h;obtain ⟨y,F,⟨J,L,t⟩,p⟩:=o;have N:l.len=r.length+1:=by simpa using H
 rcases t with ⟨e,d,_⟩ | ⟨b,off,I,e,j,v,M,P⟩
 ·omega
 ·have z:h0 b=none:=p b ((j b).2 rfl);have O:r.length*sz<=l.cap*sz:=Nat.mul_le_mul_right sz (by omega);have s:l=⟨some ⟨b,off,none⟩,l.len,l.cap⟩:=by cases l;simp at e;subst e;rfl
  have E:(r.flatMap enc).length=r.length*sz:=iE h r;rw [show (fq sz l:Sl->_)=fq sz ⟨some ⟨b,off,none⟩,l.len,l.cap⟩ by rw [<-s]];refine BM (n:=r.length) (new:=r.flatMap enc) v (by show min (l.len-1) l.len=_;omega) G.2 (Ck D r) (by omega) λf m u=>w f ⟨λc q d=>m.cv c q (y c q d) (λg=>(by rw [List.mem_singleton.1 g,z] at d;cases d)),F,⟨rfl,by show r.length<=l.cap;omega,.inr ⟨b,off,_,e,j,u,?_,?_⟩⟩,p⟩
  ·simp only [List.length_append,List.length_take,List.length_drop,E];show off+l.cap*sz<=_;omega
  grind
theorem Rw.map {b β:Type} {sz:Nat} {enc:β->List Value} {f:b->β} {l:Sl} {a:List b} (r:Rw k sz (λx=>enc (f x)) l a):Rw k sz enc l (a.map f):=by obtain ⟨d,c⟩:=r;refine ⟨by grind,?_⟩;rw [List.length_map,List.flatMap_map];exact c
theorem I2 {n:Int} (h:jl n):ir (yw (n+(1:Int))) (65535:Int)=more n:=by rw [wrap64 (by have:=h.1;omega) (by have:=h.2;omega)];unfold ir more;omega
end
def dj (q:Addr) (room:Int) (l:ba):dg:=
 .some_ λx:cU=>((dd AT q x).star ((dC 1 dZ x.values l.values).star (dC 2 eW x.waiters l.waiters))).star (.fact (x.room=room/\x.taken=l.taken/\x.dropped=l.dropped))
section
variable {h0 k:Hp} {q:Addr} {room:Int} {l:ba}
theorem Has.bw (o:Has h0 (dj q room l) k):∃x:cU,x.room=room/\x.taken=l.taken/\x.dropped=l.dropped/\Has h0 ((dd AT q x).star ((dC 1 dZ x.values l.values).star (dC 2 eW x.waiters l.waiters))) k:=by obtain ⟨x,o⟩:=Has.ex.1 o;obtain ⟨o,a,b,c⟩:=o.iC;grind
theorem Has.jg {x:cU} (o:Has h0 ((dd AT q x).star ((dC 1 dZ x.values l.values).star (dC 2 eW x.waiters l.waiters))) k) (a:x.room=room) (b:x.taken=l.taken) (c:x.dropped=l.dropped):Has h0 (dj q room l) k:=
 Has.ex.2 ⟨x,o.eB ⟨a,b,c⟩⟩
theorem PD {Q:Int->Hp->Prop} (o:Has h0 (dj q room l) k) (a:Q (l.values.length:Int) k):SW prog (some q) Q k:=by obtain ⟨x,_,_,_,o⟩:=o.bw;unfold SW;refine aK (o.left.ld (shf:=al) x.values rfl ?_);rw [o.right.left.gH];exact a
theorem JW {Q:Bool->Hp->Prop} (o:Has h0 (dj q room l) k) (b:Q (decide (room<=(l.values.length:Int))) k):Sc prog (some q) Q k:=by obtain ⟨x,a,_,_,o⟩:=o.bw;unfold Sc;refine aK (o.left.ld (shf:=al) x.values rfl ?_);refine aK (o.left.ld (shf:=ae .i64) x.room rfl ?_);rw [o.right.left.gH,a];exact b
theorem N1 {v:Int} {Q:Int->Hp->Prop} (o:Has h0 (dj q room l) k) (u:room<=64) (t:room<=(l.values.length:Int)->Q 19 k) (g:∀b,¬room<=(l.values.length:Int)->Has h0 (dj q room (tI v l)) b->Q 0 b):SN prog (some q) v Q k:=by
 unfold SN;refine XK (JW o ?_);by_cases a:room<=(l.values.length:Int)
 ·grind
 ·rw [if_neg (λh=>a (of_decide_eq_true h))];obtain ⟨x,d,e,f,o⟩:=o.bw;refine aK (o.left.ld (shf:=al) x.values rfl ?_);obtain ⟨r,_,j,put⟩:=o.f2;refine j.push rfl (λ_=>rfl) (λ_=>rfl) rfl ⟨by omega,by omega⟩ λc w m=> ?_;have o:=put _ _ m;obtain ⟨s,_,n,put⟩:=o.f1;refine aK (n.st {x with values:=c} (show (2:Nat)<=5 by decide) rfl λi p=> ?_);exact g i a (Has.jg (x:={x with values:=c}) (put _ _ p) d e f)
theorem Wx {Q:Hp->Prop} (o:Has h0 (dj q room l) k) (e:jl l.dropped) (f:∀a,Has h0 (dj q room (lf l)) a->Q a):Sb prog (some q) Q k:=by obtain ⟨x,b,c,d,o⟩:=o.bw;unfold Sb;refine aK (o.left.ld (shf:=ae .i64) x.dropped rfl ?_);refine Ym ?_;unfold VU;rw [d,I2 e];obtain ⟨j,_,h,put⟩:=o.f1;refine aK (h.st {x with dropped:=more l.dropped} (show (5:Nat)<=5 by decide) rfl λg i=> ?_);exact f g (Has.jg (x:={x with dropped:=more l.dropped}) (put _ _ i) b c rfl)
theorem Wy {Q:Int->bt->Bool->Int->Hp->Prop} (o:Has h0 (dj q room l) k) (E:jl l.taken) (i:l.values.length<=64) (Y:l.values=[]->Q 0 ⟨0,0⟩ false 21 k)
  (C:∀v b h,l.values=v::b->l.waiters=[]->Has h0 (dj q room (du l)) h->Q v ⟨0,0⟩ false 0 h)
  (D:∀v b w g h,l.values=v::b->l.waiters=w::g->Has h0 (dj q room (du l)) h->Q v (nq w) true 0 h):Sh prog (some q) Q k:=by
 obtain ⟨x,p,B,r,o⟩:=o.bw;unfold Sh;have j:=o.right.left.gH;refine aK (o.left.ld (shf:=al) x.values rfl ?_);cases hv:l.values with
 | nil=>grind
 | cons v b=>
  rw [hv] at o j i;have j:x.values.len=b.length+1:=by simpa using j
  rw [if_neg (show ¬((x.values.len:Int)==0)=true by simp;omega)];refine aK (o.left.ld (shf:=al) x.values rfl ?_);have W:Rs k (ae .i64) 1 x.values (v::b):=o.right.left.ia (λ_=>rfl);refine W.get (λ_=>rfl) (by omega) (by omega) (by simp) λ(y:Int) t=> ?_;have t:y=v:=by grind
  subst t;refine aK (o.left.ld (shf:=al) x.values rfl ?_);refine aK (o.left.ld (shf:=al) x.values rfl ?_);refine ⟨by omega,aI ?_⟩;obtain ⟨e,_,J,put⟩:=o.f2;refine J.shift (λ_=>rfl) (λ_=>rfl) λZ A=> ?_;have o:=put _ _ A;have s:=A.sf;refine aK (o.left.ld (shf:=al) x.values rfl ?_);have s:b.length<=x.values.cap:=s;refine ⟨by omega,aI ?_⟩;rw [FK,Int.toNat_natCast,Nat.sub_zero,Nat.sub_zero];obtain ⟨e,_,O,put⟩:=o.f1;refine aK (O.st {x with values:=⟨x.values.base,b.length,x.values.cap⟩} (show (2:Nat)<=5 by decide) rfl λk2 P=> ?_);have o:=put _ _ P;refine aK (o.left.ld (shf:=ae .i64) x.taken rfl ?_);refine Ym ?_;unfold VU;rw [B,I2 E];obtain ⟨e,_,R,put⟩:=o.f1;refine aK (R.st {x with values:=⟨x.values.base,b.length,x.values.cap⟩,taken:=more l.taken} (show (4:Nat)<=5 by decide) rfl λu S=> ?_);have o:=put _ _ S;refine aK (o.left.ld (shf:=al) x.waiters rfl ?_);have f:=o.right.right.gH;cases d:l.waiters with
  | nil=>
   rw [d] at f;rw [if_neg (show ¬(decide ((x.waiters.len:Int)>0))=true by simp at f;simp [f])];refine C y b u hv d (Has.jg (x:={x with values:=⟨x.values.base,b.length,x.values.cap⟩,taken:=more l.taken}) ?_ p (by unfold du;rw [d]) (by unfold du;rw [d];exact r));have:du l={l with values:=b,taken:=more l.taken}:=by unfold du;rw [d,hv];rfl
   grind
  | cons w g=>
   rw [d] at f o;have f:x.waiters.len=g.length+1:=by simpa using f
   rw [if_pos (decide_eq_true (show (x.waiters.len:Int)>0 by omega))];refine aK (o.left.ld (shf:=al) x.waiters rfl ?_);have zr:Rs u aE 2 x.waiters ((w::g).map nq):=(o.right.right.ia (λ_=>rfl)).map (enc:=λx=>aY (aE.enc x));refine zr.get (λ_=>rfl) (by omega) (by omega) (by simp) λ(X:bt) m=> ?_;have m:X=nq w:=by simpa using m.symm
   subst m;refine aK (o.left.ld (shf:=al) x.waiters rfl ?_);refine aK (o.left.ld (shf:=al) x.waiters rfl ?_);refine aK (o.left.ld (shf:=al) x.waiters rfl ?_);have G:=o.right.right.sf;refine ⟨by omega,aI ?_⟩;rw [Int.toNat_natCast];obtain ⟨e,_,T,put⟩:=o.f3;have U:=T.mC (λ_=>rfl) (c:=x.waiters.len) (Nat.le_refl _) G;have o:=put _ _ U;obtain ⟨e,_,V,put⟩:=o.f1;refine aK (V.st {x with values:=⟨x.values.base,b.length,x.values.cap⟩,taken:=more l.taken,waiters:=⟨aS x.waiters.base 2 1 x.waiters.len,x.waiters.len-1,x.waiters.len-1⟩} (show (3:Nat)<=5 by decide) rfl λk4 K=> ?_);have o:=put _ _ K;refine aK (o.left.ld (shf:=al) ⟨x.values.base,b.length,x.values.cap⟩ rfl ?_);refine gh (xs:=[w.value]) (sz:=1) (enc:=dZ) rfl (λ_=>rfl) λa k5 F I=> ?_;have o:=o.grow F;refine ⟨⟨?_,trivial⟩,?_⟩
   ·exact (Has.left o).dQ (n:=1) rfl
   obtain ⟨e,_,L,put⟩:=o.f2;refine L.app (I.ia (λ_=>rfl)) (λ_=>rfl) (λ_=>rfl) rfl ⟨by simp at i ⊢;omega,by simp at i ⊢;omega⟩ λz k6 M=> ?_;have o:=put _ _ M;obtain ⟨e,_,N,put⟩:=o.f1;refine aK (N.st {x with values:=z,taken:=more l.taken,waiters:=⟨aS x.waiters.base 2 1 x.waiters.len,x.waiters.len-1,x.waiters.len-1⟩} (show (2:Nat)<=5 by decide) rfl λH a8=> ?_);refine D y b w g H hv d (Has.jg (x:={x with values:=z,taken:=more l.taken,waiters:=⟨aS x.waiters.base 2 1 x.waiters.len,x.waiters.len-1,x.waiters.len-1⟩}) ?_ p (by unfold du;rw [d]) (by unfold du;rw [d];exact r));have:du l={values:=b++ [w.value],waiters:=g,taken:=more l.taken,dropped:=l.dropped}:=by unfold du;rw [d,hv];rfl
   grind
end
theorem cV {P:Program} {g:FuncId} {first captured:Array Value} {args:List Value} {sh:Shape} {K:sh.T->Hp->Prop} {h:Hp} (b:tb.call g=true) (a:aa P g (first.toList++args++captured.toList) sh K h):iG P tb (.func (.func g) first captured) args sh K h:=
 ⟨g,first,captured,rfl,b,a⟩
def mj (p:Int) (a:List mu):Int:=ic (λw=>decide (w.proc=p)) a
def nK (v:Int) (xs:List Int):Int:=ic (λz=>decide (z=v)) xs
theorem Vg {k:Hp} {s:Sl} {b:List mu} {a:Addr} {p:Int} {Q:Int->Hp->Prop} (r:Rw k 2 eW s b) (u:b.length<=1000000) (o:aT k a [.int .i64 p]) (m:Q (mj p b) k):
  Nj prog s ⟨KE, #[], #[.pointer (some a)]⟩ Q k:=by
 unfold Nj;have v:=r.1;have r:Rs k aE 2 s (b.map nq):=r.map (enc:=λx=>aY (aE.enc x));refine ay.intro (λi t=>t=k/\0<=i/\i<=(b.length:Int)/\∀(j:Nat) y,j<i.toNat->b[j]? =some y->decide (y.proc=p)=false) (λi _=>(b.length-i).toNat) ⟨rfl,by omega,by omega,λj y c=>by simp at c⟩ ?_;rintro i _ ⟨rfl,q,z,l⟩;by_cases n:i<(b.length:Int)
 ·rw [if_pos (gI)];refine r.get (λ_=>rfl) (by omega) q (by grind) λ(x:bt) h=> ?_;rw [List.getElem?_map] at h;cases d:b[i.toNat]? with
  | none=>grind
  | some w=>
   rw [d] at h;have h:x=nq w:=by grind
   subst h;refine cV (g:=KE) rfl (Zs ?_);unfold XI;refine gF (sh:=ae .i64) p o ?_;dsimp only;by_cases e:w.proc=p
   ·rw [if_pos (show ((nq w).cX==p)=true by unfold nq;simp [e])];have:mj p b=i:=by have:=JV (f:=λw=>decide (w.proc=p)) d (by simp [e]) l;unfold mj;rw [this];omega
    grind
   ·rw [if_neg (show ¬((nq w).cX==p)=true by unfold nq;simp [e]),aH];grind
 ·rw [if_neg (λe=>n (by have:=of_decide_eq_true e;omega))];have:mj p b= -1:=wi λw d=>by obtain ⟨j,c⟩:=List.getElem?_of_mem d;have:=(List.getElem?_eq_some_iff.1 c).1;exact l j w (by omega) c
  rw [this] at m;exact m
theorem HN {k:Hp} {s:Sl} {a:List Int} {v:Int} {Q:Int->Hp->Prop} (r:Rw k 1 dZ s a) (p:a.length<=1000000) (g:Q (nK v a) k):QD prog s v Q k:=by
 unfold QD;have q:=r.1;have r:Rs k (ae .i64) 1 s a:=r;refine ay.intro (λi o=>o=k/\0<=i/\i<=(a.length:Int)/\∀(j:Nat) y,j<i.toNat->a[j]? =some y->decide (y=v)=false) (λi _=>(a.length-i).toNat) ⟨rfl,by omega,by omega,λj y b=>by simp at b⟩ ?_;rintro i _ ⟨rfl,n,t,d⟩;by_cases c:i<(a.length:Int)
 ·rw [if_pos (gI)];refine r.get (λ_=>rfl) (by omega) n c λ(x:Int) m=> ?_;by_cases e:x=v
  ·rw [if_pos (show (v==x)=true by simp [e])];have:nK v a=i:=by have:=JV (f:=λz=>decide (z=v)) m (by simp [e]) d;unfold nK;rw [this];omega
   grind
  ·rw [if_neg (show ¬(v==x)=true by simp;exact λh=>e h.symm),aH];grind
 ·rw [if_neg (λe=>c (by have:=of_decide_eq_true e;omega))];have:nK v a= -1:=wi λw l=>by obtain ⟨j,b⟩:=List.getElem?_of_mem l;have:=(List.getElem?_eq_some_iff.1 b).1;exact d j w (by omega) b
  rw [this] at g;exact g
theorem Wz {a:Type} {f:a->Bool} {xs:List a}:0<=ic f xs↔∃x∈xs,f x=true:=by
 constructor
 ·intro h;refine Classical.byContradiction λd=> ?_;rw [wi λx b=>by
   grind] at h
  omega
 ·rintro ⟨x,b,c⟩;unfold ic;grind
theorem UZ {k:Hp} {s:Sl} {a:List Int} {v:Int} {Q:Bool->Hp->Prop} (r:Rw k 1 dZ s a) (b:a.length<=1000000) (d:Q (decide (v∈a)) k):OT prog s v Q k:=by
 unfold OT;refine Xd (HN r b ?_);have:decide (nK v a>=0)=decide (v∈a):=by have:(nK v a>=0)↔v∈a:=(Wz (f:=λz=>decide (z=v))).trans ⟨λ⟨x,c,e⟩=>(of_decide_eq_true e)▸c,λh=>⟨v,h,(by simp)⟩⟩;simp only [this]
 grind
section
variable {h0 k:Hp} {q:Addr} {room:Int} {l:ba}
theorem I3 {p:Int} {Q:Int->Hp->Prop} (o:Has h0 (dj q room l) k) (d:l.waiters.length<=1000000) (i:∀b,Has h0 (dj q room l) b->Q (mj p l.waiters) b):RT prog (some q) p Q k:=by
 unfold RT;refine gh (xs:=[p]) (sz:=1) (enc:=dZ) rfl (λ_=>rfl) λa j g n=> ?_;have o:=o.grow g;obtain ⟨x,_,_,_,c⟩:=o.bw;refine aK (c.left.ld (shf:=al) x.waiters rfl ?_);refine YM (f:=⟨KE, #[], #[.pointer (some a)]⟩) (Vg (p:=p) (c.right.right.ia (λ_=>rfl)) d ?_ (i j o));obtain ⟨_,h⟩:=n.ia (λ_=>rfl);rcases h.2 with e | ⟨m,r,s⟩
 ·simp at e
 grind
theorem WA {p v:Int} {Q:Int->Hp->Prop} (o:Has h0 (dj q room l) k) (z:l.waiters.length<=100) (g:room<=(l.values.length:Int)) (h:∀w∈l.waiters,w.proc≠p) (i:∀a,Has h0 (dj q room (hZ p v l)) a->Q 0 a):Sj prog (some q) p v Q k:=by
 unfold Sj;refine XK (JW o ?_);rw [if_neg (by simp;exact g)];refine XE (I3 o (by omega) λA o=> ?_);have:mj p l.waiters= -1:=wi λw j=>by simp [h w j]
 rw [this,if_neg (by decide)];obtain ⟨x,c,d,f,o⟩:=o.bw;refine aK (o.left.ld (shf:=al) x.waiters rfl ?_);obtain ⟨u,_,n,put⟩:=o.f3;refine n.push (e:=⟨p,v⟩) rfl (λ_=>rfl) (λ_=>rfl) rfl ⟨by omega,by omega⟩ λb B r=> ?_;have o:=put _ _ r;obtain ⟨y,_,s,put⟩:=o.f1;refine aK (s.st {x with waiters:=b} (show (3:Nat)<=5 by decide) rfl λm t=> ?_);exact i m (Has.jg (x:={x with waiters:=b}) (put _ _ t) c d f)
def qo (p:Int) (l:ba):ba:={l with waiters:=gU (λw=>decide (w.proc=p)) l.waiters}
theorem Vh {p:Int} {Q:Bool->Hp->Prop} (o:Has h0 (dj q room l) k) (K:l.waiters.length<=100) (g:∀b a,Has h0 (dj q room (qo p l)) a->Q b a):RP prog (some q) p Q k:=by
 unfold RP;refine XE (I3 o (by omega) λi o=> ?_);have A:=UX (λw:mu=>decide (w.proc=p)) l.waiters;by_cases hp:mj p l.waiters<0
 ·rw [if_pos (decide_eq_true hp)];refine g false i ?_;have:qo p l=l:=by unfold qo;rw [A,if_neg (show ¬0<=ic (λw:mu=>decide (w.proc=p)) l.waiters by unfold mj at hp;omega)]
  rw [this];exact o
 ·rw [if_neg (λh=>hp (of_decide_eq_true h))];have t:0<=mj p l.waiters:=by omega
  have L:mj p l.waiters<l.waiters.length:=JU t;obtain ⟨x,j,r,s,o⟩:=o.bw;refine aK (o.left.ld (shf:=al) x.waiters rfl ?_);obtain ⟨u,_,F,put⟩:=o.f3;have C:prog.underlying 132=some (.slice 192):=bK.bE 132 rE rfl;obtain ⟨n,f⟩:∃n:Nat,mj p l.waiters=n:=⟨(mj p l.waiters).toNat,by omega⟩;have B:∀(d:Sl->Hp->Prop),(∀c a,Has u (dC 2 eW c (l.waiters.take n++l.waiters.drop (n+1))) a->d c a)->Nr prog x.waiters (n:Int) ((n+1:Nat):Int) d i:=λd y=>by
   unfold Nr;exact Has.DF (bytes:=16) (z:=.agg #[.int .i64 0,.int .i64 0]) C (λv=>Lx bK (e:=yi) rfl v) (λ_=>rfl) (λ_=>rfl) rfl (λm=>by induction m with
    | zero=>rfl
    | succ m D=>exact D) F (by omega) (by omega) ⟨by omega,by omega⟩ y
  rw [f,aH];refine YP (B _ λc N G=> ?_);have o:=put _ _ G;obtain ⟨J,_,H,put⟩:=o.f1;refine aK (H.st {x with waiters:=c} (show (3:Nat)<=5 by decide) rfl λE I=> ?_);refine g true E (Has.jg (x:={x with waiters:=c}) ?_ j r s);have:(qo p l).waiters=l.waiters.take n++l.waiters.drop (n+1):=by show gU (λw=>decide (w.proc=p)) l.waiters=_;have M:ic (λw:mu=>decide (w.proc=p)) l.waiters=n:=f;grind
  rw [this];exact put _ _ I
def rY (l:ba):ba:={l with waiters:=[]}
theorem N2 {Q:Sl->Hp->Prop} (o:Has h0 (dj q room l) k) (i:∀s b,Has h0 ((dj q room (rY l)).star (dC 2 eW s l.waiters)) b->Q s b):SQ prog (some q) Q k:=by unfold SQ;obtain ⟨x,e,f,g,o⟩:=o.bw;refine aK (o.left.ld (shf:=al) x.waiters rfl ?_);refine aK (o.left.ld (shf:=al) x.waiters rfl ?_);refine aK (o.left.ld (shf:=al) x.waiters rfl ?_);have z:=o.right.right.gH;have h:=o.right.right.sf;refine ⟨by omega,aI ?_⟩;rw [Int.toNat_natCast];obtain ⟨v,_,j,put⟩:=o.f3;have d:=j.vN (λ_=>rfl) (n:=x.waiters.len) (c:=x.waiters.len) (by omega) (Nat.le_refl _) h;rw [List.take_of_length_le (by omega)] at d;have o:=put _ _ d;obtain ⟨w,_,m,put⟩:=o.f1;refine aK (m.st {x with waiters:=⟨none,0,0⟩} (show (3:Nat)<=5 by decide) rfl λa p=> ?_);have o:=put _ _ p;refine i _ a ?_;have u:=o.yQ;obtain ⟨y,_,r,_,put⟩:=u.fst;have nil:Has a (dC 2 eW (⟨none,0,0⟩:Sl) ([]:List mu)) a:=Has.jP (Hp.le_refl _);have t:=(r.beside nil).assoc;exact put _ _ (Has.jg (l:=rY l) (x:={x with waiters:=⟨none,0,0⟩}) t e f g)
end
end Lf
namespace Go.Proofs
open Go.Shelf
def Tryz.pT :Go.Shelf.Ren:=⟨λ| 144=>196 | 143=>215 | 219=>224 | 217=>225 | 225=>226 | 224=>227 | 267=>228 | 266=>229 | 314=>230 | n=>n,λ| 9=>9 | 4=>4 | 3=>3 | 5=>5 | 46=>230 | 146=>296 | 51=>295 | n=>n,λ| 1=>1 | n=>n⟩
theorem Tryz.vU :Go.Proofs.Lays.n144 Tryz.prog Tryz.pT:={
 mixed:=by kernel_rfl
 f143:=Tryz.func215.trans (congrArg some (by kernel_rfl))
 f144:=Tryz.func196.trans (congrArg some (by kernel_rfl))
 f217:=Tryz.func225.trans (congrArg some (by kernel_rfl))
 f219:=Tryz.func224.trans (congrArg some (by kernel_rfl))
 f224:=Tryz.func227.trans (congrArg some (by kernel_rfl))
 f225:=Tryz.func226.trans (congrArg some (by kernel_rfl))
 f266:=Tryz.func229.trans (congrArg some (by kernel_rfl))
 f267:=Tryz.func228.trans (congrArg some (by kernel_rfl))
 f314:=Tryz.func230.trans (congrArg some (by kernel_rfl))
 t3:=Tryz.underlying3
 a3:=Tryz.isAgg3
 z3:=Tryz.sizeOf3
 v3:=Tryz.zeroValue3
 t4:=Tryz.underlying4
 a4:=Tryz.isAgg4
 z4:=Tryz.sizeOf4
 v4:=Tryz.zeroValue4
 t5:=Tryz.underlying5
 a5:=Tryz.isAgg5
 z5:=Tryz.sizeOf5
 v5:=Tryz.zeroValue5
 t9:=Tryz.underlying9
 a9:=Tryz.isAgg9
 z9:=Tryz.sizeOf9
 v9:=Tryz.zeroValue9
 t46:=Tryz.underlying230
 a46:=Tryz.isAgg230
 z46:=Tryz.sizeOf230
 v46:=Tryz.zeroValue230
 t51:=Tryz.underlying295
 a51:=Tryz.isAgg295
 z51:=Tryz.sizeOf295
 v51:=Tryz.zeroValue295
 t146:=Tryz.underlying296
 a146:=Tryz.isAgg296
 z146:=Tryz.sizeOf296
 v146:=Tryz.zeroValue296
 g1:=by kernel_rfl}
open Go.RowKit Go.Lib in
theorem Tryz.strings_Contains_one (s:ByteArray) (c:UInt8) (w:World):
  Calls Tryz.prog 196 #[.string s,.string ⟨#[c]⟩] w λe a=>e=.returned (.bool (decide (0<=Lib.indexByte s.data.toList c)))/\a=w:=Any.strings_Contains_one Tryz.vU s c w
end Go.Proofs
namespace Lf
open Go
def yS (k:Hp) (R:List Nat):Hp:=λb=>if b∈R then none else k b
theorem PF {k:Hp} {R:List Nat} {b:Nat} (h:b∉R):yS k R b=k b:=by unfold yS;rw [if_neg h]
theorem TX {h b:Hp} {a:Addr} (e:b a.block=h a.block):cM b a=cM h a:=by unfold cM;rw [e]
theorem G8 (a:Addr) (n:Nat):(a.add n).block=a.block:=by unfold Addr.add;split<;>rfl
theorem Vi {h b:Hp} {a:Addr} {c:List Value} (l:aT h a c) (e:b a.block=h a.block):aT b a c:=λi v hv=>by have:cM b (a.add i)=cM h (a.add i):=TX (a:=a.add i) (by rw [G8];exact e);rw [this];exact l i v hv
section
variable {α:Type} {h c:Hp} {sz:Nat} {enc:α->List Value} {l:Sl} {xs:List α} {F:List Nat}
theorem Rw.same (r:Rw h sz enc l xs) (e:∀a,l.base=some a->c a.block=h a.block):Rw c sz enc l xs:=by obtain ⟨d,f,g⟩:=r;refine ⟨d,f,g.imp id ?_⟩;rintro ⟨a,b,i⟩;exact ⟨a,b,Vi i (e a b)⟩
theorem Rw.nil {l:Sl} (a:l.len=0):Rw h sz enc l ([]:List α):=⟨a,(by simp),.inl (by simp)⟩
theorem cT.grow (o:cT h sz enc l xs F) (j:h<=c):cT c sz enc l xs F:=by obtain ⟨h1,g,i⟩:=o;refine ⟨h1,g,i.imp id ?_⟩;rintro ⟨b,a,d,rfl,e,f⟩;exact ⟨b,a,d,rfl,e.le j,f⟩
theorem cT.cut {R:List Nat} (o:cT h sz enc l xs F) (a:∀b∈F,b∉R):cT (yS h R) sz enc l xs F:=o.same λb hb=>PF (a b hb)
theorem cT.base (o:cT h sz enc l xs F) {a:Addr} (d:l.base=some a):F=[a.block]:=by obtain ⟨_,_,b⟩:=o;grind
end
theorem SE {h:Hp} {a:Addr} {v:Value} (e:cM h a=some v):∃o,h a.block=some o:=by unfold cM at e;grind
section
variable {α:Type} {h c:Hp} {sz:Nat} {enc:α->List Value} {l:Sl} {xs:List α} {F b:List Nat}
theorem Rw.known (r:Rw h sz enc l xs) {a:Addr} (j:l.base=some a) (d:xs.length*sz≠0):h a.block≠none:=by
 obtain ⟨n,g,i⟩:=r;obtain ⟨m,e,k⟩:=i.resolve_left d;rw [j] at e;cases e;have p:(xs.flatMap enc).length≠0:=by rw [g];exact d
 obtain ⟨v,hv⟩:∃v,(xs.flatMap enc)[0]? =some v:=⟨(xs.flatMap enc)[0]'(by omega),List.getElem?_eq_getElem (by omega)⟩;obtain ⟨o,f⟩:=SE (k 0 v hv);rw [G8] at f;rw [f];simp
end
end Lf
namespace Lf
abbrev D (α:Type):Type:=List UInt8->Nat->Except (Int×Nat) (α×Nat)
namespace D
variable {α β:Type}
def ret (x:α):D α:=λ_ at_=>.ok (x,at_)
def bind (d:D α) (f:α->D β):D β:=λb at_=>match d b at_ with
 | .ok (x,a)=>f x b a
 | .error e=>.error e
def num (k:Nat):D Nat:=λb at_=>if b.length<at_+k then .error (5,b.length) else .ok (Fs ((b.drop at_).take k),at_+k)
def Yz (d:D α) (a:α->Int):D α:=λb at_=>match d b at_ with
 | .ok (x,c)=>if a x=0 then .ok (x,c) else .error (a x,at_)
 | .error e=>.error e
def many (d:List α->D α):Nat->List α->D (List α)
 | 0,a=>ret a
 | n+1,a=>bind (d a) λx=>many d n (a++ [x])
def map (f:α->β) (d:D α):D β:=bind d λx=>ret (f x)
end D
end Lf
namespace Lf
namespace D
end D
open D
def i64 (n:Nat):Int:=if n<9223372036854775808 then n else (n:Int)-18446744073709551616
def vb (x:Int):Prop:= -9223372036854775808<=x/\x<9223372036854775808
def nk (a b:Int) (n:Int):Int:=if iV n a b then 0 else 2
def kV (kH:Int) (n:Int):Int:=if n=0 then 1 else if kH<n then 3 else 0
end Lf
namespace Lf
abbrev By (k:Nat) (x:Int):Prop:=0<=x/\x<((256^k:Nat):Int)
def less (n:Int):Int:=n-1
theorem dm {a b n:Int}:iV n a b=true↔a<=n/\n<=b:=by unfold iV;simp
theorem fO {a b n:Int}:iV n a b=false↔¬(a<=n/\n<=b):=by rw [<-Bool.not_eq_true,dm]
theorem G9 {n ai:Int}:∀ {l:List dB} {i:Int},(jm n ai l i).1=0↔∀x∈l,(lz x n ai).1=0
 | [],i=>by simp [jm]
 | x::r,i=>by
  simp only [jm];by_cases h:(lz x n ai).1=0
  ·rw [if_neg (λa=>a h),G9];simp [h]
  grind
theorem TZ {l:List dB} {ai:Int} (a:0<=ai/\ai<=8):(iM l ai).1=0↔l.length<=256/\∀x∈l,(lz x l.length ai).1=0:=by
 unfold iM;rw [pW];by_cases h:256<l.length
 ·grind
 ·rw [if_neg h,G9];grind
theorem Gs {parts ai:Int}:∀ {l:List ik} {i:Int},(rR parts ai l i).1=0↔∀p∈l,(0<=p.part/\p.part<=parts-1)/\(iM p.code ai).1=0
 | [],i=>by simp [rR]
 | p::r,i=>by
  simp only [rR];by_cases a:iV p.part 0 (parts-1)=false
  ·rw [if_pos a];have:=fO.1 a;grind
  ·rw [if_neg a];have c:=dm.1 (Bool.not_eq_false _▸a:iV p.part 0 (parts-1)=true);by_cases b:(iM p.code ai).1=0
   ·rw [if_neg (λd=>d b),Gs];simp [b,c]
   grind
def Typed (c:bg):Prop:=(∀a∈c.labels,By 8 a)/\∀p∈c.procs,∀x∈p.code,vb x.lJ
theorem nZ {m:Int} {c:bg}:(rW m c).1=0↔m=0/\c.table≠ []/\c.table.length<=64/\(∀x∈c.table,0<=x/\x<=c.labels.length-1)/\(1<=c.fuel/\c.fuel<=256)/\(1<=c.lane/\c.lane<=64)/\(0<=c.ai/\c.ai<=8)/\
  (0<=c.log/\c.log<=4096)/\c.procs≠ []/\c.procs.length<=32/\∀p∈c.procs,(0<=p.part/\p.part<=c.labels.length-1)/\(iM p.code c.ai).1=0:=by
 unfold rW;by_cases i:m=0
 case neg=>grind
 rw [if_neg (λo=>o i)];by_cases j:c.table=[]
 ·grind
 rw [if_neg j];by_cases k:64<c.table.length
 ·grind
 rw [if_neg k];by_cases g:c.table.all (λp=>iV p 0 (c.labels.length-1))=false
 ·rw [if_pos g];refine ⟨λe=>(by cases e),λe=> ?_⟩;have:c.table.all (λp=>iV p 0 (c.labels.length-1))=true:=List.all_eq_true.2 λx h=>dm.2 (e.2.2.2.1 x h);grind
 rw [if_neg g];have q:∀x∈c.table,0<=x/\x<=c.labels.length-1:=λx h=>dm.1 (List.all_eq_true.1 (Bool.not_eq_false _▸g:c.table.all (λp=>iV p 0 (c.labels.length-1))=true) x h);by_cases a:iV c.fuel 1 256=false
 ·rw [if_pos a];exact ⟨λe=>(by cases e),λe=>absurd e.2.2.2.2.1 (fO.1 a)⟩
 rw [if_neg a];have r:=dm.1 (Bool.not_eq_false _▸a:iV c.fuel 1 256=true);by_cases b:iV c.lane 1 64=false
 ·rw [if_pos b];exact ⟨λe=>(by cases e),λe=>absurd e.2.2.2.2.2.1 (fO.1 b)⟩
 rw [if_neg b];have s:=dm.1 (Bool.not_eq_false _▸b:iV c.lane 1 64=true);by_cases d:iV c.ai 0 8=false
 ·rw [if_pos d];exact ⟨λe=>(by cases e),λe=>absurd e.2.2.2.2.2.2.1 (fO.1 d)⟩
 rw [if_neg d];have t:=dm.1 (Bool.not_eq_false _▸d:iV c.ai 0 8=true);by_cases f:iV c.log 0 4096=false
 ·rw [if_pos f];exact ⟨λe=>(by cases e),λe=>absurd e.2.2.2.2.2.2.2.1 (fO.1 f)⟩
 rw [if_neg f];have u:=dm.1 (Bool.not_eq_false _▸f:iV c.log 0 4096=true);by_cases l:c.procs=[]
 ·grind
 rw [if_neg l];by_cases n:32<c.procs.length
 ·grind
 rw [if_neg n,Gs];grind
theorem uu :∀(n:Nat) (l:List Int),l.Nodup->(∀x∈l,0<=x/\x<n)->l.length<=n
 | 0,l,_,h=>by
  cases l with
  | nil=>simp
  | cons x r=>have:=h x (List.mem_cons_self ..);omega
 | n+1,l,b,h=>by
  by_cases f:(n:Int)∈l
  ·have:=uu n (l.erase (n:Int)) (b.erase _) λx a=>by
    have c:=h x (List.mem_of_mem_erase a);have d:x≠(n:Int):=λe=>by rw [e] at a;exact (b.not_mem_erase) a
    omega
   grind
  ·have:=uu n l b λx a=>by grind
   omega
section
end
end Lf
namespace Lf
open Go Go.Proofs Go.RowKit
theorem T0 {P:Program} {g:FuncId} {args:List Value} {sh:Shape} {K:sh.T->Hp->Prop} {h:Hp} {x:sh.T} (c:∀w,Sub h w->Calls P g args.toArray w λe b=>e=.returned (sh.enc x)/\b=w) (d:K x h):aa P g args sh K h:=by intro w a;refine (c w a).mono ?_;rintro e b ⟨rfl,rfl⟩;exact ⟨_,h,rfl,⟨x,rfl,d⟩,⟨a,Nat.le_refl _,λi j f=>⟨rfl,f⟩,rfl,rfl,rfl⟩⟩
def pN (s:ByteArray) (c:UInt8):Bool:=decide (0<=Lib.indexByte s.data.toList c)
theorem SF {s:ByteArray} {c:UInt8} {K:Bool->Hp->Prop} {h:Hp} (a:K (pN s c) h):aa Tryz.prog XM [.string s,.string ⟨#[c]⟩] bu K h:=by refine T0 (x:=pN s c) (λw _=> ?_) a;exact Tryz.strings_Contains_one s c w
def bA (x:bc):dB:=⟨x.Op,x.A,x.B,x.C,x.ju⟩
def fi :List (List UInt8):=[[],[97,105],[97,98],[97,98,99],[97,98,99],[97,98,99],[97,98,99],[97,98,99],[97,98,99],[97,98,99],[97,98,99],[97,98,99],[97,98,99],[97,98,99],[97,98,99],[97,98,99],[97,98,99],[97,98,99],[97,98,99],[97,98,99],[97,98],[97,98],[105],[97,105],[97,98,99],[97,98],[97,98],[97],[97],[105],[105],[97],[97],[97]]
def sB (op:Int):ByteArray:=if 0<=op/\op<34 then ⟨(fi.getD op.toNat []).toArray⟩ else ⟨#[]⟩
theorem SG :∀n,n<34->(decide (0<=Lib.indexByte (fi.getD n []) 97),decide (0<=Lib.indexByte (fi.getD n []) 98),decide (0<=Lib.indexByte (fi.getD n []) 99),decide (0<=Lib.indexByte (fi.getD n []) 105))=jE (n:Int):=by decide
theorem T1 (op:Int):(pN (sB op) 97,pN (sB op) 98,pN (sB op) 99,pN (sB op) 105)=jE op:=by
 by_cases h:0<=op/\op<34
 ·have e:=SG op.toNat (by omega);rw [Int.toNat_of_nonneg h.1] at e;rw [<-e];simp [pN,sB,h]
 ·have a:sB op=⟨#[]⟩:=if_neg h;rw [a];have b:jE op=(false,false,false,false):=by unfold jE;grind
  rw [b];decide
theorem N3 :∀n,n<34->fi[n]? =some (fi.getD n []):=by decide
theorem RD {a:Type} (l:List a) (i:Nat):List.get?Internal l i=l[i]?:=by simp
theorem Q7 {op:Int} {Q:ByteArray->Hp->Prop} {h:Hp} (c:Q (sB op) h):TM Tryz.prog op Q h:=by
 unfold TM;refine aI ?_;by_cases a:0<=op/\op<34
 ·rw [if_neg (by simp;omega)];refine ⟨a,sB op,?_,c⟩;have e:sB op=⟨(fi.getD op.toNat []).toArray⟩:=if_pos a;rw [RD,e];have d:=N3 op.toNat (by omega);rw [Nat.mul_one];have b:(fi.map λl=>Value.string ⟨l.toArray⟩)[op.toNat]? =some (Value.string ⟨(fi.getD op.toNat []).toArray⟩):=by grind
  exact b
 ·rw [if_pos (by simp;omega)];have e:sB op=⟨#[]⟩:=if_neg a;grind
theorem Bb {P:Program} {g:FuncId} {first captured:Array Value} {args:List Value} {sh:Shape} {K:sh.T->Hp->Prop} {h:Hp} (b:tb.call g=true) (a:aa P g (first.toList++args++captured.toList) sh K h):iG P tb (.func (.func g) first captured) args sh K h:=
 ⟨g,first,captured,rfl,b,a⟩
theorem Q9 {op:Int} {Q:Bool->Bool->Bool->Bool->Hp->Prop} {h:Hp} (l:∀d,h<=d->Q (jE op).1 (jE op).2.1 (jE op).2.2.1 (jE op).2.2.2 d):TI Tryz.prog op Q h:=by
 unfold TI;refine NV (Q7 ?_);intro b t j;refine yv (b:=b) (off:=0) (cs:=[.string ⟨#[]⟩]) ⟨t,lP⟩ (by simp) λa i hb=> ?_;have k:h<=a:=(((Mv.new j).trans i).le (Hp.le_refl h) (by simp)).1;have g:aT a ⟨b,0,none⟩ [.string (sB op)]:=hb.mY (n:=1) (by rfl);have one:∀(c:UInt8) (K:Bool->Hp->Prop),K (pN (sB op) c) a->iG Tryz.prog tb (.func (.func X9) #[] #[.pointer (some ⟨b,0,none⟩)]) [.string ⟨#[c]⟩] bu K a:=λc K f=>by refine Bb rfl (ZN ?_);unfold Yb;refine gF (sh:=og) (sB op) g ?_;exact SF f
 have e:=T1 op;grind
theorem Wa {P:Program} {has:Bool} {n:Int} {Q:Int->Hp->Prop} {h:Hp} (b:Q (fk has n) h):SS P has n Q h:=by
 unfold SS;refine aI ?_;unfold fk at b;by_cases a:has=false/\n≠0
 ·grind
 ·rw [if_neg a] at b;rw [if_neg (by cases has<;>simp at a ⊢;exact a)];refine aI ?_;grind
theorem Vj {P:Program} {x:bc} {has:Bool} {n ai:Int} {Q:Int->Hp->Prop} {h:Hp}
  (c:Q (if has=false/\x.ju≠0 then 11 else if (x.Op=22\/x.Op=23)/\(x.ju<0\/n<x.ju) then 12 else if (x.Op=29\/x.Op=30)/\(x.ju<0\/ai<=x.ju) then 13 else 0) h):TK P x has n ai Q h:=by
 unfold TK;refine aI ?_;by_cases a:has=false/\x.ju≠0
 ·grind
 ·rw [if_neg a] at c;rw [if_neg (by cases has<;>simp at a ⊢;exact a)];refine aI ?_;by_cases b:x.Op=22\/x.Op=23
  ·rw [if_pos (by simp;exact b)];refine aI ?_;grind
  ·rw [if_neg (λe=>b e.1)] at c;rw [if_neg (by simp;omega)];refine aI ?_;by_cases d:x.Op=29\/x.Op=30
   ·rw [if_pos (by simp;exact d)];refine aI ?_;grind
   grind
theorem WB {x:bc} {n ai:Int} {Q:Int->Int->Hp->Prop} {h:Hp} (a:∀b at_,h<=b->((lz (bA x) n ai).1≠0->at_=(lz (bA x) n ai).2)->Q (lz (bA x) n ai).1 at_ b):UK Tryz.prog x n ai Q h:=by
 unfold UK;refine aI ?_;have le:=Hp.le_refl h;rw [show lz (bA x) n ai=(if x.Op<0\/34<=x.Op then (9,0)
  else if fk (jE x.Op).1 x.A≠0 then (fk (jE x.Op).1 x.A,1)
  else if fk (jE x.Op).2.1 x.B≠0 then (fk (jE x.Op).2.1 x.B,2)
  else if fk (jE x.Op).2.2.1 x.C≠0 then (fk (jE x.Op).2.2.1 x.C,3)
  else if (jE x.Op).2.2.2=false/\x.ju≠0 then (11,4)
  else if (x.Op=22\/x.Op=23)/\(x.ju<0\/n<x.ju) then (12,4)
  else if (x.Op=29\/x.Op=30)/\(x.ju<0\/ai<=x.ju) then (13,4)
  else (0,0)) from rfl] at a
 by_cases c:x.Op<0\/34<=x.Op
 ·grind
 ·rw [if_neg c] at a;rw [if_neg (by simp;omega)];refine NR (Q9 λc g=> ?_);dsimp only;refine Rz (Wa ?_);by_cases d:fk (jE x.Op).1 x.A≠0
  ·grind
  ·rw [if_neg d] at a;rw [if_neg (by simpa using d)];refine Rz (Wa ?_);by_cases e:fk (jE x.Op).2.1 x.B≠0
   ·grind
   ·rw [if_neg e] at a;rw [if_neg (by simpa using e)];refine Rz (Wa ?_);by_cases f:fk (jE x.Op).2.2.1 x.C≠0
    ·grind
    ·rw [if_neg f] at a;rw [if_neg (by simpa using f)];refine NT (Vj ?_);grind
theorem I4 {x:bc} {n ai:Int} {Q:Int->Hp->Prop} {h:Hp} (b:∀a,h<=a->Q (lz (bA x) n ai).1 a):UI Tryz.prog x n ai Q h:=by unfold UI;exact O7 (WB λa _ l _=>b a l)
abbrev ny (h:Hp) (l:Sl) (a:List bc):Prop:=Rs h be 5 l a
theorem T2 {l:Sl} {a:List bc} {ai:Int} {Q:Int->Int->Hp->Prop} {h:Hp} (r:ny h l a) (b:∀g,h<=g->Q (iM (a.map bA) ai).1 (iM (a.map bA) ai).2 g):zN Tryz.prog l ai Q h:=by
 unfold zN;have q:=r.1;refine aI ?_;unfold iM at b;by_cases j:ai<0\/8<ai
 ·rw [if_pos j] at b;rw [if_pos (by simp;omega)];exact b h (Hp.le_refl h)
 ·rw [if_neg j,List.length_map] at b;rw [if_neg (by simp;omega)];by_cases m:256<a.length
  ·rw [if_pos m] at b;rw [if_pos (by simp;omega)];exact b h (Hp.le_refl h)
  ·rw [if_neg m] at b;rw [if_neg (by simp;omega)];refine ay.intro (λi k=>h<=k/\0<=i/\i<=(a.length:Int)/\jm a.length ai ((a.drop i.toNat).map bA) i=jm a.length ai (a.map bA) 0) (λi _=>(a.length-i).toNat) ⟨Hp.le_refl h,by omega,by omega,rfl⟩ ?_;rintro i k ⟨e,o,w,c⟩;by_cases p:i<(a.length:Int)
   ·rw [if_pos (gI)];refine Rs.get (sh:=be) (Rw.mono e r) (λ_=>rfl) (by omega) o p λx t=> ?_;refine Ye (I4 λv n=> ?_);have f:a.drop i.toNat=x::a.drop (i.toNat+1):=by obtain ⟨y,u⟩:=List.getElem?_eq_some_iff.1 t;rw [<-u];simp
    rw [f,List.map_cons,jm] at c;rw [q];by_cases d:(lz (bA x) a.length ai).1≠0
    ·rw [if_pos d] at c;rw [if_pos (by simpa using d)];rw [<-c] at b;exact b v (Hp.le_trans e n)
    ·rw [if_neg d] at c;rw [if_neg (by simpa using d)];have s:yw (i+1)=i+1:=aH;rw [s];refine ⟨⟨Hp.le_trans e n,by omega,by omega,?_⟩,by omega⟩;grind
   ·rw [if_neg (by simp;omega)];have f:a.drop i.toNat=[]:=List.drop_eq_nil_of_le (by omega);rw [f] at c;rw [<-c] at b;exact b k e
end Lf
namespace Lf
open Go Go.Proofs Tryz
abbrev Us (h:Hp) (l:Sl) (a:List Int):Prop:=Rs h (ae .u64) 1 l a
abbrev Is (h:Hp) (l:Sl) (a:List Int):Prop:=Rs h (ae .i64) 1 l a
theorem PG {P:Program} {l:Sl} {a:List Int} {Q:Int->Int->Hp->Prop} {h:Hp} (r:Us h l a) (C:a.length<=8) (j:a.Pairwise (· < ·)) (n:a=[]->Q 1 0 h) (z:a≠ []->Q 0 0 h):Ij P l Q h:=by
 unfold Ij;have D:=r.1;split
 ·rename_i e;have e:(l.len:Int)=0:=by simpa using e
  exact n (List.length_eq_zero_iff.1 (by omega))
 ·rename_i e;have e:¬(l.len:Int)=0:=by simpa using e
  split
  ·grind
  ·refine ay.intro (λi k=>k=h/\1<=i/\i<=(a.length:Int)) (λi _=>(a.length-i).toNat) ⟨rfl,by omega,by omega⟩ ?_;rintro i k ⟨rfl,A,B⟩;split
   ·rename_i b;have b:i<(l.len:Int):=by simpa using b
    have o:yw (i-1)=i-1:=aH;rw [o];refine r.get (λ_=>rfl) (by omega) (by omega) (by omega) λ(x:Int) c=> ?_;refine r.get (λ_=>rfl) (by omega) (by omega) (by omega) λ(y:Int) f=> ?_;have E:y<x:=by
     have m:(i-1).toNat<i.toNat:=by omega
     have t:=(List.getElem?_eq_some_iff.1 c);have w:=(List.getElem?_eq_some_iff.1 f);obtain ⟨q,s⟩:=t;obtain ⟨u,v⟩:=w;rw [<-s,<-v];exact List.pairwise_iff_getElem.1 j _ _ u q m
    rw [if_neg (show ¬((x==y)=true) by simp;omega)];refine r.get (λ_=>rfl) (by omega) (by omega) (by omega) λ(F:Int) d=> ?_;rw [c] at d;cases d;refine r.get (λ_=>rfl) (by omega) (by omega) (by omega) λ(G:Int) g=> ?_;rw [f] at g;cases g;rw [if_neg (show ¬(decide (x<y)=true) by simp;omega)];have p:yw (i+1)=i+1:=aH;rw [p];exact ⟨⟨rfl,by omega,by omega⟩,by omega⟩
   grind
abbrev LG (a h:Hp) (l:Sl) (xs:List Int):Prop:=Own a h 1 (λx=>aY ((ae .u64).enc x)) l xs
abbrev LF (a h:Hp) (l:Sl) (xs:List Int):Prop:=Own a h 1 (λx=>aY ((ae .i64).enc x)) l xs
def gX (a b:Int):Bool:=(List.range 64).all λn=> !bit a n || bit b n
theorem jZ {a b:Int}:gX a b=true↔∀n,n<64->bit a n=true->bit b n=true:=by unfold gX;grind
theorem Rb {a b:Int} {Q:Bool->Hp->Prop} {h:Hp} (c:nx a) (hb:nx b) (d:Q (gX a b) h):TO prog a b Q h:=by
 unfold TO;have:(de .andNot .u64 a b==0)=gX a b:=by rw [Bool.eq_iff_iff,JR c hb,jZ]
 grind
def fl (a:List Int) (i j:Int):Bool:=if 0<=i/\i<(a.length:Int)/\0<=j/\j<(a.length:Int) then gX (a.getD i.toNat 0) (a.getD j.toNat 0) else false
theorem Dk {xs:List Int} {i j:Int} {x y:Int} (h:0<=i/\0<=j) (a:xs[i.toNat]? =some x) (b:xs[j.toNat]? =some y):fl xs i j=gX x y:=by have c:=(List.getElem?_eq_some_iff.1 a).1;have d:=(List.getElem?_eq_some_iff.1 b).1;unfold fl;grind
theorem FM {xs:List Int} {i j:Int} (h:¬(0<=i/\i<(xs.length:Int)/\0<=j/\j<(xs.length:Int))):fl xs i j=false:=by unfold fl;rw [if_neg h]
def nF :List Int->Nat->List MapEntry
 | [],_=> []
 | x::r,j=>{key:=.int .u64 x,val:=.int .i64 (j:Int),born:=j}::nF r (j+1)
def place (a:Int):List Int->Nat->Option Nat
 | [],_=>none
 | x::r,j=>if a=x then some j else place a r (j+1)
theorem HO (a:Int):∀(b:List Int) (j:Nat),Instr.findNow (.int .u64) (.int .u64 a) (nF b j) j=some ((place a b j).map λ(k:Nat)=>(k,Value.int .i64 (k:Int)))
 | [],j=>rfl
 | x::r,j=>by
  simp only [nF,Instr.findNow,Instr.sameNow,if_true,place];by_cases h:a=x
  ·simp [h]
  ·have:(a==x)=false:=by simpa using h
   rw [this];simp only [if_neg h];exact HO a r (j+1)
theorem HQ :∀(a:List Int) (x:Int) (j:Nat),nF (a++ [x]) j=nF a j++ [{key:=.int .u64 x,val:=.int .i64 ((j+a.length:Nat):Int),born:=j+a.length}]
 | [],x,j=>by simp [nF]
 | y::r,x,j=>by simp only [List.cons_append,nF,HQ r x (j+1),List.length_cons];grind
theorem Ha {a:Int}:∀ {b:List Int} {j:Nat},a∉b->place a b j=none
 | [],_,_=>rfl
 | x::r,j,h=>by simp only [place];rw [if_neg λe=>h (by grind)];exact Ha λe=>h (List.mem_cons_of_mem _ e)
structure qG (h:Hp) (p:Addr) (ls:List Int):Prop where
 ex:∃(sl:Sl) (m:Nat),aT h p [sl.v,.map (some m)]/\Us h sl ls/\h m=some (.map (nF ls 0).toArray ls.length)
theorem qG.mono {h b:Hp} {p:Addr} {c:List Int} (a:h<=b) (t:qG h p c):qG b p c:=by obtain ⟨sl,m,d,e,f⟩:=t.ex;exact ⟨sl,m,om a d,e.mono a,a _ _ f⟩
theorem qG.sl {h:Hp} {p:Addr} {a:List Int} (t:qG h p a) {K:Sl->Prop} (d:∀sl,Us h sl a->K sl):aQ none al h (p.add 0) K:=by
 obtain ⟨sl,m,b,c,e⟩:=t.ex;refine ⟨sl,λi v hv=> ?_,d sl c⟩;cases i with
 | zero=>have:=b 0 v (by simpa [aY,Sl.v] using hv);rw [rN];exact this
 | succ i=>simp [aY] at hv
theorem qG.DM {h:Hp} {p:Addr} {a:List Int} (t:qG h p a) {c:Bool} {K:Sl->Prop} (e:∀sl,Us h sl a->K sl):aQ (some c) al h (p.add 0) K:=by obtain ⟨sl,b,d⟩:=t.sl e;exact ⟨sl,λ_=>b,d⟩
theorem qG.map {h:Hp} {p:Addr} {a:List Int} (t:qG h p a) {K:Option Nat->Prop} (d:∀m,h m=some (.map (nF a 0).toArray a.length)->K (some m)):aQ none dI h (p.add 1) K:=by
 obtain ⟨sl,m,b,e,c⟩:=t.ex;refine ⟨some m,λi v hv=> ?_,d m c⟩;cases i with
 | zero=>have:=b 1 v (by simpa [aY] using hv);rw [rN];exact this
 | succ i=>simp [aY] at hv
theorem I5 {p:Addr} {a:List Int} {i:Int} {Q:Bool->Hp->Prop} {h:Hp} (t:qG h p a) (b:Q (decide (0<=i)&&decide (i<(a.length:Int))) h):Sd prog (some p) i Q h:=by unfold Sd;refine aK (t.DM λsl c=>aI ?_);rw [c.1];exact b
theorem SI {p:Addr} {a:List Int} {i j:Int} {Q:Bool->Hp->Prop} {h:Hp} (t:qG h p a) (l:∀x∈a,nx x) (d:Q (fl a i j) h):Ri prog (some p) i j Q h:=by
 unfold Ri;refine XL (I5 t ?_);generalize c:(decide (0<=i)&&decide (i<(a.length:Int)))=ci;refine ⟨λe=>XL (I5 t ?_),λe=>⟨false,?_⟩⟩
 ·generalize b:(decide (0<=j)&&decide (j<(a.length:Int)))=q;refine aI ?_;subst e;rw [Bool.true_and];simp at c;refine aK (t.DM λsl f=> ?_);refine Rs.nH f (0:Int) (λ_=>rfl) (by omega) (λ_=>c) λ(x:Int) m=> ?_;refine aK (t.DM λo g=> ?_);refine Rs.nH g (0:Int) (λ_=>rfl) (by omega) (λe=>by grind) λ(y:Int) n=> ?_;refine ⟨λe=> ?_,λe=>⟨false,?_⟩⟩
  ·have ex:=m e;have k:=n e;rw [e] at b;simp at b;refine NX (Rb (l x (List.mem_of_getElem? ex)) (l y (List.mem_of_getElem? k)) (aI ?_));rw [e,Bool.true_and,<-Dk ⟨c.1,b.1⟩ ex k];exact d
  ·refine aI ?_;rw [e] at b ⊢;rw [Bool.false_and,<-FM (xs:=a) (i:=i) (j:=j) (by simp at b;omega)];exact d
 ·subst e;simp at c;refine aI ?_;rw [Bool.false_and];refine aK (t.DM λsl f=> ?_);refine Rs.nH f (0:Int) (λ_=>rfl) (by omega) (λe=>by cases e) λ(x:Int) m=> ?_;refine aK (t.DM λo g=> ?_);refine Rs.nH g (0:Int) (λ_=>rfl) (by omega) (λe=>by cases e) λ(y:Int) n=> ?_;refine ⟨λe=>(by cases e),λe=>⟨false,aI ?_⟩⟩;rw [Bool.false_and,<-FM (xs:=a) (i:=i) (j:=j) (by omega)];exact d
theorem WC {s:Sl} {xs:List Int} {Q:Sl->Hp->Prop} {h:Hp} (r:Us h s xs) (j:xs.length<=1000000) (f:∀out b,h<=b->LG h b out xs->Q out b):Kr prog s Q h:=by
 unfold Kr;refine ⟨s.base.isNone,Lc (bK.bE 22 wg rfl) s,?_⟩;cases hb:s.base with
 | none=>
  rw [if_pos (show (none:Option Addr).isNone=true from rfl)];have:xs=[]:=by
   rcases r.2.2 with e | ⟨a,i,_⟩
   ·grind
   grind
  subst this;exact f _ h (Hp.le_refl h) ⟨rfl,Nat.le_refl _,.inl ⟨rfl,rfl⟩⟩
 | some a=>
  rw [ry];refine wU (xs:=([]:List Int)) (enc:=λx=>aY ((ae .u64).enc x)) (sz:=1) (Hp.le_refl h) rfl (λ_=>rfl) λa g c d=> ?_;refine JQ c d (Rw.mono c r) (λ_=>rfl) (λ_=>rfl) rfl ?_ λm b k l _=> ?_
  ·simp;omega
  grind
theorem T3 {b:List Int} (g:b.Pairwise (· < ·)) {t:Nat} {x:Int} (h:b[t]? =some x):x∉b.take t:=by
 intro f;obtain ⟨i,a⟩:=List.mem_iff_getElem?.1 f;rw [List.getElem?_take] at a;split at a
 ·rename_i e;obtain ⟨c,j⟩:=List.getElem?_eq_some_iff.1 a;obtain ⟨d,k⟩:=List.getElem?_eq_some_iff.1 h;have:=List.pairwise_iff_getElem.1 g i t c d e;omega
 ·cases a
theorem PI {l:Sl} {a:List Int} {Q:Option Addr->Int->Int->Hp->Prop} {h:Hp} (r:Us h l a) (G:a.length<=8) (s:a.Pairwise (· < ·)) (L:a=[]->Q none 1 0 h)
  (E:a≠ []->∀p g,h<=g->qG g p a->Q (some p) 0 0 g):Ik prog l Q h:=by
 unfold Ik;refine Tj (PG r G s (λe=> ?_) (λe=> ?_))
 ·grind
 rw [ry];refine WX (WC r (by omega) λout q y J=> ?_);intro m A;have z:q<=q.set m (.map #[] 0):=kP A;intro b t hb;have n:=kP (o:=.cells (([out.v,.map (some m)]:List Value).toArray) t (0,0)) hb;have I:h m=none:=uK y A;have M:b≠m:=λe=>by rw [e,lP] at hb;cases hb
 have K:Us q out a:=J.rw λ_=>rfl;refine ⟨_,rfl,out,?_,?_⟩
 ·intro i v hv;cases i with
  | zero=>rw [rN];exact xk 0 v (by simpa [aY,Sl.v] using hv)
  | succ i=>simp [aY] at hv
 refine ay.intro (λi k=>h<=k/\0<=i/\i<=(a.length:Int)/\Us k out a/\aT k ⟨b,0,none⟩ [out.v,.map (some m)]/\k m=some (.map (nF (a.take i.toNat) 0).toArray i.toNat)) (λi _=>(a.length-i).toNat)
  ⟨Hp.le_trans y (Hp.le_trans z n),by omega,by omega,Rw.mono (Hp.le_trans z n) K,xk,n _ _ lP⟩ ?_
 rintro i k ⟨w,F,N,f,hp,d⟩;have O:=f.1;split
 ·rename_i e;have e:i<(out.len:Int):=by simpa using e
  refine Rs.get f (λ_=>rfl) (by omega) F (by omega) λ(x:Int) B=> ?_;refine ⟨_,rfl,some m,?_,?_⟩
  ·intro j v hv;cases j with
   | zero=>have:=hp 1 v (by simpa [aY] using hv);rw [rN];exact this
   | succ j=>simp [aY] at hv
  have H:(a.take i.toNat).length=i.toNat:=by grind
  refine ⟨m,_,_,rfl,d,.inl ⟨?_,?_⟩⟩
  ·have:=HO x (a.take i.toNat) 0;rw [Ha (T3 s B)] at this;exact this
  ·have u:∀o,nO k (k.set m o):=λo=>Pw d rfl;rw [aH];refine ⟨⟨IU w I,by omega,by omega,Rw.ck (u _) f,JS (u _) hp,?_⟩,by omega⟩;rw [lP];have C:(i+1).toNat=i.toNat+1:=by omega
   have c:a.take (i.toNat+1)=a.take i.toNat++ [x]:=by rw [List.take_add_one,B];rfl
   rw [C,c,HQ,H];grind
 ·rename_i c;have c:¬i<(out.len:Int):=by simpa using c
  have D:i.toNat=a.length:=by omega
  rw [D,List.take_length] at d;exact E e _ _ w ⟨out,m,hp,f,d⟩
def pg :Int->List Int->Int->Int×Int
 | _,[],_=>(0,0)
 | p,x::r,i=>if x=p then (8,i) else if x<p then (7,i) else pg x r (i+1)
def iQ :List Int->Int×Int
 | []=>(1,0)
 | x::r=>if 8<r.length+1 then (3,8) else pg x r 1
theorem HR :∀ {r:List Int} {p i:Int},(pg p r i).1=0↔(p::r).Pairwise (· < ·)
 | [],p,i=>by simp [pg]
 | x::r,p,i=>by
  simp only [pg];by_cases b:x=p
  ·rw [if_pos b,List.pairwise_cons];refine ⟨λe=>(by cases e),λh=> ?_⟩;have:=h.1 x (List.mem_cons_self ..);omega
  ·rw [if_neg b];by_cases c:x<p
   ·rw [if_pos c,List.pairwise_cons];refine ⟨λe=>(by cases e),λh=> ?_⟩;have:=h.1 x (List.mem_cons_self ..);omega
   ·rw [if_neg c,HR,List.pairwise_cons (a:=p)];refine ⟨λh=>⟨λy hy=> ?_,h⟩,λh=>h.2⟩;rcases List.mem_cons.1 hy with rfl | hy
    ·omega
    ·have:=(List.pairwise_cons.1 h).1 y hy;omega
theorem j3 {a:List Int}:(iQ a).1=0↔a≠ []/\a.length<=8/\a.Pairwise (· < ·):=by
 cases a with
 | nil=>simp [iQ]
 | cons x r=>
  simp only [iQ,List.length_cons];by_cases h:8<r.length+1
  ·grind
  ·rw [if_neg h,HR];grind
theorem BD {P:Program} {l:Sl} {f:List Int} {Q:Int->Int->Hp->Prop} {h:Hp} (r:Us h l f) (e:Q (iQ f).1 (iQ f).2 h):Ij P l Q h:=by
 unfold Ij;have o:=r.1;cases u:f with
 | nil=>subst u;rw [if_pos (by simp [o])];exact e
 | cons b a=>
  subst u;simp only [List.length_cons] at o;rw [if_neg (show ¬(((l.len:Int)==0)=true) by simp;omega)];by_cases m:(l.len:Int)>8
  ·rw [if_pos (decide_eq_true m)];have:iQ (b::a)=(3,8):=by simp only [iQ];grind
   grind
  rw [if_neg λg=>m (of_decide_eq_true g)];have E:iQ (b::a)=pg b a 1:=by simp only [iQ];grind
  rw [E] at e;refine ay.intro (λi k=>k=h/\1<=i/\i<=((a.length:Int)+1)/\∃p,(b::a)[(i-1).toNat]? =some p/\pg p ((b::a).drop i.toNat) i=pg b a 1) (λi _=>(a.length+1-i).toNat)
   ⟨rfl,by omega,by omega,b,rfl,rfl⟩ ?_
  rintro i k ⟨rfl,F,G,p,hp,c⟩;split
  ·rename_i d;have d:i<(l.len:Int):=by simpa using d
   have H:((b::a).length:Int)=(a.length:Int)+1:=by simp
   rw [wrap64 (n:=i-1) (by omega) (by omega)];refine r.get (λ_=>rfl) (by omega) (by omega) (by omega) λ(x:Int) j=> ?_;refine r.get (λ_=>rfl) (by omega) (by omega) (by omega) λ(y:Int) v=> ?_;rw [hp] at v;cases v;have D:(b::a).drop i.toNat=x::(b::a).drop (i.toNat+1):=by obtain ⟨B,C⟩:=List.getElem?_eq_some_iff.1 j;rw [List.drop_eq_getElem_cons B,C]
   rw [D] at c;simp only [pg] at c;by_cases t:x=p
   ·grind
   rw [if_neg (by simpa using t)];rw [if_neg t] at c;refine r.get (λ_=>rfl) (by omega) (by omega) (by omega) λ(I:Int) s=> ?_;rw [j] at s;cases s;refine r.get (λ_=>rfl) (by omega) (by omega) (by omega) λ(J:Int) w=> ?_;rw [hp] at w;cases w;by_cases q:x<p
   ·grind
   rw [if_neg λg=>q (of_decide_eq_true g)];rw [if_neg q] at c;rw [aH];have z:(i+1).toNat=i.toNat+1:=by omega
   have A:(i+1-1).toNat=i.toNat:=by omega
   exact ⟨⟨rfl,by omega,by omega,x,by rw [A];exact j,by rw [z];exact c⟩,by omega⟩
  ·rename_i d;have d:¬i<(l.len:Int):=by simpa using d
   rw [List.drop_eq_nil_of_le (by simp;omega)] at c;rw [<-c] at e;exact e
theorem N4 {l:Sl} {a:List Int} {Q:Option Addr->Int->Int->Hp->Prop} {h:Hp} (r:Us h l a) (j:(iQ a).1≠0->Q none (iQ a).1 (iQ a).2 h)
  (d:(iQ a).1=0->∀p b,h<=b->qG b p a->Q (some p) 0 0 b):Ik prog l Q h:=by
 by_cases c:(iQ a).1=0
 ·obtain ⟨i,g,f⟩:=j3.1 c;exact PI r g f (λe=>absurd e i) λ_=>d c
 ·unfold Ik;refine Tj (BD r ?_);grind
def db {c d:Type} (R:c->d->Prop):List c->List d->Prop
 | [],[]=>True
 | a::l,b::m=>R a b/\db R l m
 | _,_=>False
section
variable {α β:Type} {R S:α->β->Prop}
theorem db.len :∀ {l:List α} {m:List β},db R l m->l.length=m.length
 | [],[],_=>rfl
 | _::l,_::m,h=>by simp [db.len h.2]
 | [],_::_,h=>h.elim
 | _::_,[],h=>h.elim
theorem db.imp (c:∀a b,R a b->S a b):∀ {l:List α} {m:List β},db R l m->db S l m
 | [],[],_=>trivial
 | _::_,_::_,h=>⟨c _ _ h.1,db.imp c h.2⟩
 | [],_::_,h=>h.elim
 | _::_,[],h=>h.elim
theorem db.get :∀ {l:List α} {m:List β} {i:Nat} {a:α},db R l m->l[i]? =some a->∃b,m[i]? =some b/\R a b
 | [],_,_,_,_,e=>by simp at e
 | _::_,[],_,_,h,_=>h.elim
 | _::_,b::_,0,_,h,e=>by simp at e;subst e;exact ⟨b,rfl,h.1⟩
 | _::_,_::_,i+1,_,h,e=>by rw [List.getElem?_cons_succ] at e;obtain ⟨b,c,d⟩:=db.get h.2 e;grind
theorem db.get' :∀ {l:List α} {m:List β} {i:Nat} {b:β},db R l m->m[i]? =some b->∃a,l[i]? =some a/\R a b
 | _,[],_,_,_,e=>by simp at e
 | [],_::_,_,_,h,_=>h.elim
 | a::_,_::_,0,_,h,e=>by simp at e;subst e;exact ⟨a,rfl,h.1⟩
 | _::_,_::_,i+1,_,h,e=>by rw [List.getElem?_cons_succ] at e;obtain ⟨b,c,d⟩:=db.get' h.2 e;grind
theorem db.app :∀ {l a:List α} {m b:List β},db R l m->db R a b->db R (l++a) (m++b)
 | [],_,[],_,_,h=>h
 | _::_,_,_::_,_,h,c=>⟨h.1,db.app h.2 c⟩
 | [],_,_::_,_,h,_=>h.elim
 | _::_,_,[],_,h,_=>h.elim
theorem db.drop :∀ {l:List α} {m:List β} (n:Nat),db R l m->db R (l.drop n) (m.drop n)
 | _,_,0,h=>h
 | [],[],_+1,h=>h
 | _::_,_::_,n+1,h=>db.drop n h.2
 | [],_::_,_+1,h=>h.elim
 | _::_,[],_+1,h=>h.elim
theorem db.take :∀ {l:List α} {m:List β} (n:Nat),db R l m->db R (l.take n) (m.take n)
 | _,_,0,_=>trivial
 | [],[],_+1,h=>h
 | _::_,_::_,n+1,h=>⟨h.1,db.take n h.2⟩
 | [],_::_,_+1,h=>h.elim
 | _::_,[],_+1,h=>h.elim
end
def kE (h:Hp) (q:bd) (p:ik):Prop:=q.Part=p.part/\∃a,ny h q.Code a/\a.map bA=p.code
abbrev C8 (h:Hp) (l:Sl) (a:List bd):Prop:=Rs h bJ 2 l a
structure eu (h:Hp) (c:aw) (p:bg):Prop where
 labels:Us h c.aN p.labels
 table:Is h c.Table p.table
 fuel:c.Fuel=p.fuel
 lane:c.gQ=p.lane
 ai:c.bG=p.ai
 log:c.Log=p.log
 procs:∃ps,C8 h c.aM ps/\db (kE h) ps p.procs
section
variable {h b:Hp}
theorem kE.mono (f:h<=b) {q:bd} {p:ik} (a:kE h q p):kE b q p:=by obtain ⟨c,g,d,e⟩:=a;exact ⟨c,g,Rw.mono f d,e⟩
theorem eu.mono (d:h<=b) {c:aw} {p:bg} (a:eu h c p):eu b c p:=by obtain ⟨i,f,g⟩:=a.procs;exact ⟨Rw.mono d a.labels,Rw.mono d a.table,a.fuel,a.lane,a.ai,a.log,i,Rw.mono d f,g.imp λ_ _ e=>e.mono d⟩
end
section
variable {P:Program} {h:Hp}
theorem JJ {n a b:Int} {Q:Bool->Hp->Prop} (c:Q (iV n a b) h):TB P n a b Q h:=by unfold TB;exact aI c
theorem JX {n kH:Int} {Q:Int->Hp->Prop} (a:Q (kV kH n) h):VP P n kH Q h:=by unfold VP;unfold kV at a;grind
def u6 (part n:Int):Int:=if part=2 then nk 1 256 n else if part=3 then nk 1 64 n else if part=4 then nk 0 8 n else if part=5 then nk 0 4096 n else 0
theorem Vk {part n:Int} {Q:Int->Hp->Prop} (c:Q (u6 part n) h):Tz prog part n Q h:=by
 unfold Tz;unfold u6 at c;have one:∀a b,Q (nk a b n) h->(if (!(iV n a b))=true then Q 2 h else Q 0 h):=λa b c=>by unfold nk at c;grind
 by_cases d:part=2
 ·rw [if_pos d] at c;rw [if_pos (by simpa using d)];exact GG (JJ (one 1 256 c))
 ·rw [if_neg d] at c;rw [if_neg (by simpa using d)];by_cases e:part=3
  ·rw [if_pos e] at c;rw [if_pos (by simpa using e)];exact GG (JJ (one 1 64 c))
  ·rw [if_neg e] at c;rw [if_neg (by simpa using e)];by_cases f:part=4
   ·rw [if_pos f] at c;rw [if_pos (by simpa using f)];exact GG (JJ (one 0 8 c))
   ·rw [if_neg f] at c;rw [if_neg (by simpa using f)];by_cases g:part=5
    ·rw [if_pos g] at c;rw [if_pos (by simpa using g)];exact GG (JJ (one 0 4096 c))
    grind
end
theorem FY {h:Hp} {s:Sl} {a:List Int} {p:Int->Bool} {f:Cm} {Q:Int->Hp->Prop} (r:Is h s a) (w:a.length<=1000000)
  (n:∀x∈a,∀(k:Hp) (K:Bool->Hp->Prop),h<=k->(∀d,h<=d->K (p x) d)->iG prog tb (.func (.func f.g) f.first f.captured) [.int .i64 x] bu K k)
  (q:∀i j,h<=j->(0<=i↔a.any p=true)->Q i j):OD prog s f Q h:=by
 unfold OD;have z:=r.1;refine ay.intro (λi k=>h<=k/\0<=i/\i<=(a.length:Int)/\∀x∈a.take i.toNat,p x=false) (λi _=>(a.length-i).toNat) ⟨Hp.le_refl h,by omega,by omega,λx b=>by simp at b⟩ ?_;rintro i k ⟨c,m,v,u⟩;by_cases l:i<(a.length:Int)
 ·rw [if_pos (gI)];refine Rs.get (sh:=ae .i64) (Rw.mono c r) (λ_=>rfl) (by omega) m l λx b=> ?_;refine n x (List.mem_of_getElem? b) k _ c λd o=> ?_;cases hp:p x with
  | true=>grind
  | false=>
   rw [ry,aH];refine ⟨⟨o,by omega,by omega,λy t=> ?_⟩,by omega⟩;have:(i+1).toNat=i.toNat+1:=by omega
   rw [this,List.take_add_one,b] at t;grind
 ·rw [if_neg (λe=>l (by grind))];refine q (-1) k c ⟨λe=>by omega,λe=> ?_⟩;obtain ⟨x,b,hp⟩:=List.any_eq_true.1 e;have:a.take i.toNat=a:=List.take_of_length_le (by omega);grind
theorem Vl {s:Sl} {xs:List Int} {Q:Sl->Hp->Prop} {h:Hp} (r:Is h s xs) (j:xs.length<=1000000) (f:∀out b,h<=b->LF h b out xs->Q out b):Cu prog s Q h:=by
 unfold Cu;refine ⟨s.base.isNone,Lc (bK.bE 23 qT rfl) s,?_⟩;cases hb:s.base with
 | none=>
  rw [if_pos (show (none:Option Addr).isNone=true from rfl)];have:xs=[]:=by
   rcases r.2.2 with e | ⟨a,i,_⟩
   ·grind
   grind
  subst this;exact f _ h (Hp.le_refl h) ⟨rfl,Nat.le_refl _,.inl ⟨rfl,rfl⟩⟩
 | some a=>
  rw [ry];refine wU (xs:=([]:List Int)) (enc:=λx=>aY ((ae .i64).enc x)) (sz:=1) (Hp.le_refl h) rfl (λ_=>rfl) λa g c d=> ?_;refine JQ c d (Rw.mono c r) (λ_=>rfl) (λ_=>rfl) rfl ?_ λm b k l _=> ?_
  ·simp;omega
  grind
theorem SL {h:Hp} {t:Sl} {xs:List Int} {n:Int} {Q:Option Addr->Int->Int->Hp->Prop} (r:Is h t xs) (D:1<=n) (F:n<=8) (B:xs≠ []) (G:xs.length<=64)
  (m:∀p i d,h<=d->Q p (if (xs.all λx=>iV x 0 (n-1))=false then 2 else 0) i d):Ii prog t n Q h:=by
 unfold Ii;have H:=r.1;have J:0<xs.length:=List.length_pos_iff.2 B;intro b ty z;have l:=kP (o:=.cells (#[Value.int .i64 n]) ty (0,0)) z;have a:aT (h.set b (.cells (#[Value.int .i64 n]) ty (0,0))) ⟨b,0,none⟩ [.int .i64 n]:=xk (cs:=[Value.int .i64 n]);refine gF (sh:=ae .i64) n a ?_;refine ⟨n,λ_=>a,?_⟩;refine aI (aI ?_);rw [if_neg (by simp;omega),if_neg (by simp;omega)];have y:(xs.any λx=>decide (x<0) || decide (x>=n))= !(xs.all λx=>iV x 0 (n-1)):=by
  rw [Bool.eq_iff_iff];simp only [List.any_eq_true,Bool.not_eq_true',List.all_eq_false,Bool.or_eq_true,decide_eq_true_eq];constructor
  ·rintro ⟨x,q,hb⟩;exact ⟨x,q,by rw [dm];omega⟩
  ·rintro ⟨x,q,hb⟩;exact ⟨x,q,by rw [dm] at hb;omega⟩
 refine W4 (f:=⟨Hm, #[], #[.pointer (some ⟨b,0,none⟩)]⟩) (FY (p:=λx=>decide (x<0) || decide (x>=n)) (Rw.mono l r) (by omega) (λx _ k K u w=> ?_) λi d c j=> ?_)
 ·refine Bb (g:=Hm) rfl (X3 ?_);unfold TE;refine ⟨n,λ_=>om u a,aI (w k u)⟩
 ·dsimp only;rw [y] at j;cases s:(xs.all λx=>iV x 0 (n-1)) with
  | false=>rw [s] at j m;rw [if_pos (decide_eq_true (j.2 rfl))];exact m none i d (Hp.le_trans l c)
  | true=>rw [s] at j m;rw [if_neg (λe=>by grind)];refine gF (sh:=ae .i64) n (om c a) ?_;refine Ku (Vl (Rw.mono (Hp.le_trans l c) r) (by omega) λout E v I=> ?_);refine ⟨⟨om (Hp.le_trans c v) a,trivial⟩,?_⟩;intro C t2 A;exact m _ 0 _ (Hp.le_trans (Hp.le_trans l c) (Hp.le_trans v (kP A)))
def nb :List Int->Int->Int×Int->Int×Int
 | [],_,z=>z
 | n::r,i,z=>if u6 i n≠0 then (u6 i n,i) else nb r (i+1) z
def qb (c:bg):Int×Int:=if c.procs=[] then (1,6) else if 32<c.procs.length then (3,6) else rR c.labels.length c.ai c.procs 0
theorem Vm (m:Int) (c:bg):rW m c=if m≠0 then (m,0) else if c.table=[] then (1,1) else if 64<c.table.length then (3,1)
  else if (c.table.all λp=>iV p 0 (c.labels.length-1))=false then (2,1) else nb [0,0,c.fuel,c.lane,c.ai,c.log] 0 (qb c):=by
 unfold rW;have a:u6 0 0=0:=rfl;have b:u6 (0+1) 0=0:=rfl;have d:u6 (0+1+1) c.fuel=nk 1 256 c.fuel:=rfl;have e:u6 (0+1+1+1) c.lane=nk 1 64 c.lane:=rfl;have f:u6 (0+1+1+1+1) c.ai=nk 0 8 c.ai:=rfl;have g:u6 (0+1+1+1+1+1) c.log=nk 0 4096 c.log:=rfl;simp only [nb,a,b,d,e,f,g,ne_eq,not_true_eq_false,if_false];unfold nk qb;grind
def iL (c:bg):Int×Int:=rW (iQ c.labels).1 c
theorem Ac {h:Hp} {c:aw} {p:bg} {Q:Int->Int->Hp->Prop} (a:eu h c p) (b:∀z,h<=z->Q (iL p).1 (iL p).2 z):zK prog c Q h:=by
 unfold zK;have le:=Hp.le_refl h;unfold iL at b;rw [Vm] at b;refine Tj (BD a.labels ?_);dsimp only;by_cases m:(iQ p.labels).1≠0
 ·grind
 rw [if_neg m] at b;rw [if_neg (by simpa using m)];obtain ⟨O,b1,_⟩:=j3.1 (Classical.not_not.1 m);have R:=a.labels.1;have U:=a.table.1;have b2:0<p.labels.length:=List.length_pos_iff.2 O;refine Yl (JX ?_);by_cases g:p.table=[]
 ·rw [if_pos g] at b;have e:kV 64 (c.Table.len:Int)=1:=by unfold kV;rw [if_pos (by rw [U,g];rfl)]
  grind
 rw [if_neg g] at b;have b4:0<p.table.length:=List.length_pos_iff.2 g;by_cases A:64<p.table.length
 ·rw [if_pos A] at b;have e:kV 64 (c.Table.len:Int)=3:=by unfold kV;rw [pW,if_pos (by omega)]
  grind
 rw [if_neg A] at b;have e:kV 64 (c.Table.len:Int)=0:=by unfold kV;omega
 rw [e,if_neg (by simp)];rw [R];refine Ti (SL a.table (by omega) (by omega) g (by omega) λsp si B a8=> ?_);dsimp only;by_cases L:(p.table.all λx=>iV x 0 (p.labels.length-1))=false
 ·grind
 rw [if_neg L] at b;rw [if_neg (by grind)];refine wU (h0:=B) (xs:=([0,0,p.fuel,p.lane,p.ai,p.log]:List Int)) (enc:=λx=>aY ((ae .i64).enc x)) (sz:=1) (Hp.le_refl B) (by rw [a.fuel,a.lane,a.ai,a.log];rfl) (λ_=>rfl) λy C a9 o4=> ?_;have r4:Is C ⟨some y,6,6⟩ [0,0,p.fuel,p.lane,p.ai,p.log]:=o4.rw λ_=>rfl;have b0:=Hp.le_trans a8 a9;obtain ⟨w,H,F⟩:=a.procs;have S:=H.1;have T:=F.len;refine ay.intro (λi k=>C<=k/\0<=i/\i<=6/\nb (([0,0,p.fuel,p.lane,p.ai,p.log]:List Int).drop i.toNat) i (qb p)=nb [0,0,p.fuel,p.lane,p.ai,p.log] 0 (qb p)) (λi _=>(6-i).toNat) ⟨Hp.le_refl _,by omega,by omega,rfl⟩ ?_;rintro i k ⟨t,h0,M,d⟩;have P:=Hp.le_trans b0 t;by_cases o:i<6
 ·rw [if_pos (decide_eq_true o)];refine Rs.get (sh:=ae .i64) (l:=⟨some y,6,6⟩) (Rw.mono t r4) (λ_=>rfl) (by omega) h0 (by simpa using o) λx I=> ?_;refine NP (Vk ?_);have s:([0,0,p.fuel,p.lane,p.ai,p.log]:List Int).drop i.toNat=x::([0,0,p.fuel,p.lane,p.ai,p.log]:List Int).drop (i.toNat+1):=by grind
  rw [s,nb] at d;by_cases f:u6 i x≠0
  ·grind
  ·rw [if_neg f] at d;rw [if_neg (by simpa using f),aH];refine ⟨⟨t,by omega,by omega,?_⟩,by omega⟩;have:(i+1).toNat=i.toNat+1:=by omega
   grind
 ·rw [if_neg (λe=>o (of_decide_eq_true e))];have:i=6:=by omega
  subst this;rw [show ([0,0,p.fuel,p.lane,p.ai,p.log]:List Int).drop (6:Int).toNat=[] from rfl,nb] at d;rw [<-d] at b;unfold qb at b;refine Yl (JX ?_);by_cases f:p.procs=[]
  ·rw [if_pos f] at b;have e:kV 32 (c.aM.len:Int)=1:=by unfold kV;rw [if_pos (by rw [S,T,f];rfl)]
   grind
  rw [if_neg f] at b;have b3:0<p.procs.length:=List.length_pos_iff.2 f;by_cases D:32<p.procs.length
  ·rw [if_pos D] at b;have e:kV 32 (c.aM.len:Int)=3:=by unfold kV;rw [pW,if_pos (by omega)]
   grind
  rw [if_neg D] at b;have e:kV 32 (c.aM.len:Int)=0:=by unfold kV;omega
  rw [e,if_neg (by simp)];refine ay.intro (λi J=>k<=J/\0<=i/\i<=(w.length:Int)/\rR p.labels.length p.ai (p.procs.drop i.toNat) i=rR p.labels.length p.ai p.procs 0) (λi _=>(w.length-i).toNat) ⟨Hp.le_refl _,by omega,by omega,rfl⟩ ?_;rintro i J ⟨G,h0,M,d⟩;have u:=Hp.le_trans P G;by_cases E:i<(w.length:Int)
  ·rw [if_pos (gI)];refine Rs.get (sh:=bJ) (Rw.mono u H) (λ_=>rfl) (by omega) h0 E λq I=> ?_;obtain ⟨v,W,X,is,N,V⟩:=F.get I;have s:p.procs.drop i.toNat=v::p.procs.drop (i.toNat+1):=by obtain ⟨b5,Y⟩:=List.getElem?_eq_some_iff.1 W;rw [<-Y];simp
   rw [s,rR] at d;rw [wrap64 (n:=(p.labels.length:Int)-1) (by omega) (by omega)];refine GG (JJ ?_);rw [X];by_cases r:iV v.part 0 ((p.labels.length:Int)-1)=false
   ·rw [if_pos r] at d;rw [if_pos (by rw [r];rfl),aH];grind
   rw [if_neg r] at d;rw [if_neg (by grind)];refine QX (T2 (Rw.mono u N) λZ K=> ?_);dsimp only;rw [V,a.ai];by_cases j:(iM v.code p.ai).1≠0
   ·rw [if_pos j] at d;rw [if_pos (by simpa using j),aH];rw [<-d] at b;exact b Z (Hp.le_trans u K)
   ·rw [if_neg j] at d;rw [if_neg (by simpa using j),aH];refine ⟨⟨Hp.le_trans G K,by omega,by omega,?_⟩,by omega⟩;grind
  ·rw [if_neg (λe=>E (by have:=of_decide_eq_true e;omega))];rw [List.drop_eq_nil_of_le (by omega),rR] at d;grind
def uv (x:bt):mu:=⟨x.cX,x.eN⟩
def uG (x:eK):xG:=⟨x.jx,x.cX,x.eN⟩
abbrev Dc (h:Hp) (l:Sl) (a:List bt):Prop:=Rs h aE 2 l a
abbrev LA (h:Hp) (l:Sl) (a:List eK):Prop:=Rs h fN 3 l a
structure kB (h:Hp) (x:bM) (p:ba):Prop where
 values:Is h x.dD p.values
 waiters:∃ws,Dc h x.dR ws/\ws.map uv=p.waiters
 taken:x.cO=p.taken
 dropped:x.iY=p.dropped
structure eT (h:Hp) (x:bB) (p:ak):Prop where
 state:x.State=p.state
 pc:x.PC=p.pc
 bf: [x.cC,x.cD,x.cE,x.cF,x.cG,x.cH,x.cI,x.cJ]=p.bf
 af:x.Cursor=p.af
 timer:x.Timer=p.timer
 bN:x.lR=p.bN
 cx:x.qH=p.cx
 ah:∃ls,Rs h bS 4 x.iI ls/\db (kB h) ls p.ah
structure jI (h:Hp) (x:cK) (p:dx):Prop where
 af:x.Cursor=p.af
 log:∃es,LA h x.Log es/\es.map uG=p.log
 lost:x.qC=p.lost
 forbidden:x.gl=p.forbidden
 ax:Is h x.fc p.ax
 an:∃qs,Rs h al 1 x.iy qs/\db (Is h) qs p.an
structure eV (h:Hp) (x:aU) (p:ij):Prop where
 tick:x.jx=p.tick
 parts:∃ps,Rs h dJ 6 x.eg ps/\db (jI h) ps p.parts
 procs:∃ps,Rs h bY 15 x.aM ps/\db (eT h) ps p.procs
section
variable {h b:Hp}
theorem kB.mono (c:h<=b) {x:bM} {p:ba} (a:kB h x p):kB b x p:=by obtain ⟨f,d,e⟩:=a.waiters;exact ⟨Rw.mono c a.values,⟨f,Rw.mono c d,e⟩,a.taken,a.dropped⟩
theorem eT.mono (c:h<=b) {x:bB} {p:ak} (a:eT h x p):eT b x p:=by obtain ⟨g,d,f⟩:=a.ah;exact ⟨a.state,a.pc,a.bf,a.af,a.timer,a.bN,a.cx,g,Rw.mono c d,f.imp λ_ _ e=>e.mono c⟩
theorem jI.mono (c:h<=b) {x:cK} {p:dx} (a:jI h x p):jI b x p:=by obtain ⟨d,f,g⟩:=a.log;obtain ⟨qs,i,j⟩:=a.an;exact ⟨a.af,⟨d,Rw.mono c f,g⟩,a.lost,a.forbidden,Rw.mono c a.ax,qs,Rw.mono c i,j.imp λ_ _ e=>Rw.mono c e⟩
theorem eV.mono (c:h<=b) {x:aU} {p:ij} (a:eV h x p):eV b x p:=by obtain ⟨j,d,f⟩:=a.parts;obtain ⟨qs,g,i⟩:=a.procs;exact ⟨a.tick,⟨j,Rw.mono c d,f.imp λ_ _ e=>e.mono c⟩,qs,Rw.mono c g,i.imp λ_ _ e=>e.mono c⟩
end
section
end
theorem vV {sh:Shape} {c:Bool} {h:Hp} {a:Addr} {K:sh.T->Prop} (x:sh.T) (d:aT h a (aY (sh.enc x))) (b:K x):aQ (some c) sh h a K:=⟨x,λ_=>d,b⟩
section
end
def nB {e f:Type} (R:e->f->Hp->List Nat->Prop):List e->List f->Hp->List Nat->Prop
 | [],[],_,B=>B=[]
 | a::l,b::m,h,B=>∃c d,B=c++d/\R a b h c/\nB R l m h d
 | _,_,_,_=>False
structure gP {α β:Type} (R:α->β->Hp->List Nat->Prop):Prop where
 same:∀ {a b h h' B},R a b h B->(∀c∈B,h' c=h c)->R a b h' B
 known:∀ {a b h B},R a b h B->∀c∈B,h c≠none
section
variable {α β:Type} {R:α->β->Hp->List Nat->Prop} {h d:Hp}
theorem nB.same (ok:gP R):∀ {l:List α} {m:List β} {B:List Nat},nB R l m h B->(∀c∈B,d c=h c)->nB R l m d B
 | [],[],_,o,_=>o
 | _::_,_::_,_,⟨b,f,e,i,j⟩,a=>⟨b,f,e,ok.same i λc g=>a c (by grind),nB.same ok j λc g=>a c (by grind)⟩
 | [],_::_,_,o,_=>o.elim
 | _::_,[],_,o,_=>o.elim
theorem nB.known (ok:gP R):∀ {l:List α} {m:List β} {B:List Nat},nB R l m h B->∀c∈B,h c≠none
 | [],[],_,o,c,hc=>by rw [show _=[] from o] at hc;cases hc
 | _::_,_::_,_,⟨f,g,e,a,b⟩,c,hc=>by
  rw [e] at hc;rcases List.mem_append.1 hc with hc | hc
  ·exact ok.known a c hc
  ·exact nB.known ok b c hc
 | [],_::_,_,o,_,_=>o.elim
 | _::_,[],_,o,_,_=>o.elim
theorem nB.snoc {a:α} {b:β} {B':List Nat} (e:R a b h B'):∀ {l:List α} {m:List β} {B:List Nat},nB R l m h B->nB R (l++ [a]) (m++ [b]) h (B++B')
 | [],[],_,o=>by rw [show _=[] from o];exact ⟨B',[],by simp,e,rfl⟩
 | _::_,_::_,_,⟨c,f,j,g,i⟩=>⟨c,f++B',by grind,g,nB.snoc e i⟩
 | [],_::_,_,o=>o.elim
 | _::_,[],_,o=>o.elim
theorem nB.yM {S:α->β->Prop} (c:∀a b B,R a b h B->S a b):∀ {l:List α} {m:List β} {B:List Nat},nB R l m h B->db S l m
 | [],[],_,_=>trivial
 | _::_,_::_,_,⟨e,_,_,f,g⟩=>⟨c _ _ e f,nB.yM c g⟩
 | [],_::_,_,o=>o.elim
 | _::_,[],_,o=>o.elim
theorem cT.one {sz:Nat} {enc:α->List Value} {l:Sl} {a:List α} {F:List Nat} (o:cT h sz enc l a F):F=[]\/∃b,F=[b]:=by obtain ⟨_,_,o⟩:=o;grind
theorem cT.nodup {sz:Nat} {enc:α->List Value} {l:Sl} {a:List α} {F:List Nat} (o:cT h sz enc l a F):F.Nodup:=by rcases o.one with e | ⟨b,e⟩<;>rw [e]<;>simp
end
def fa {c d:Type} (S:c->d->Prop) (a:c) (b:d) (_:Hp) (B:List Nat):Prop:=B=[]/\S a b
theorem fa.ok {α β:Type} (S:α->β->Prop):gP (fa S):=⟨λo _=>o,λo c a=>by rw [o.1] at a;cases a⟩
def bz {c:Type} (sh:Shape) (sz:Nat) (R:sh.T->c->Hp->List Nat->Prop) (l:Sl) (d:List c) (h:Hp) (B:List Nat):Prop:=
 ∃(xs:List sh.T) (a b:List Nat),B=a++b/\cT h sz (λx=>aY (sh.enc x)) l xs a/\nB R xs d h b
section
variable {β:Type} {sh:Shape} {sz:Nat} {R:sh.T->β->Hp->List Nat->Prop} {l:Sl} {ps:List β} {h d:Hp} {B:List Nat}
theorem bz.nil :bz sh sz R ⟨none,0,0⟩ [] h []:=⟨[],[],[],rfl,⟨rfl,Nat.le_refl _,.inl ⟨rfl,rfl,rfl⟩⟩,rfl⟩
theorem bz.ok (ok:gP R):gP (bz sh sz R) where
 same:=by rintro a b h d B ⟨xs,i,j,e,f,g⟩ k;exact ⟨xs,i,j,e,f.same λc hc=>k c (by grind),g.same ok λc hc=>k c (by grind)⟩
 known:=by
  rintro a b h B ⟨xs,i,j,e,f,g⟩ c hc;rw [e] at hc;rcases List.mem_append.1 hc with hc | hc
  ·exact f.known c hc
  ·exact g.known ok c hc
theorem bz.len (o:bz sh sz R l ps h B):l.len=ps.length:=by obtain ⟨xs,c,f,e,a,b⟩:=o;have:=(b.yM (S:=λ_ _=>True) λ_ _ _ _=>trivial).len;rw [<-this];exact a.1
theorem bz.rows {S:sh.T->β->Prop} (f:∀x,(aY (sh.enc x)).length=sz) (g:∀a b B,R a b h B->S a b) (o:bz sh sz R l ps h B):∃c,Rs h sh sz l c/\db S c ps:=by obtain ⟨c,k,m,e,i,j⟩:=o;exact ⟨c,i.rw f,j.yM g⟩
theorem WD (ok:gP R) (o:bz sh sz R l ps h B) {v:sh.T} {p:β} {f:List Nat} (e:R v p h f) (nd:(B++f).Nodup) {x:Sl} (L:Rs h sh sz x [v]) (E:∀x,(aY (sh.enc x)).length=sz) (J:∀x,iF (aY (sh.enc x))=true)
  {zero:List Value} {bytes:Nat} (N:zero.length=sz) (hb:ps.length+1<=140737488355328/\(ps.length+1)*bytes<=140737488355328) {K:Sl->Hp->Prop}
  (G:∀j d n,bz sh sz R j (ps++ [p]) d n->n.Nodup->(∀b k,h b=some k->b∉B->d b=some k)->(∀c∈n,c∈B++f\/h c=none)->K j d):fP sz bytes zero l x K h:=by
 have H:=o.len;obtain ⟨y,z,g,i,t,w⟩:=o;have M:y.length=ps.length:=by rw [<-H];exact t.1.symm
 have O:=w.known ok;have P:=ok.known e;refine vL t L E J N (by rw [M];exact hb) λj d q u m=> ?_;rw [i] at nd;have X:=nd;rw [List.append_assoc,List.nodup_append] at nd;obtain ⟨W,S,U⟩:=nd;have r:∀c∈g++f,c∉z:=λc hc hb=>U c hb c hc rfl;have Q:∀c∈g++f,h c≠none:=λc hc=>by
  rcases List.mem_append.1 hc with hc | hc
  ·exact O c hc
  ·exact P c hc
 have s:∀c∈g++f,d c=h c:=N0 m Q r;have V:=(w.same ok λc hc=>s c (List.mem_append_left _ hc)).snoc (ok.same e λc hc=>s c (List.mem_append_right _ hc));have F:∀c∈q++(g++f),c∈B++f\/h c=none:=λc hc=>by
  rcases List.mem_append.1 hc with hc | hc
  ·rcases m.from_ c hc with hc | hc
   ·exact .inl (by rw [i];simp [hc])
   ·exact .inr hc
  ·refine .inl ?_;rw [i,List.append_assoc];exact List.mem_append_right _ hc
 refine G j d (q++(g++f)) ⟨y++ [v],q,g++f,rfl,u,V⟩ ?_ (λb k hb I=>m.cv b k hb λD=>I (by rw [i];simp [D])) F;rw [List.nodup_append];refine ⟨u.nodup,S,λa A b hb C=> ?_⟩;subst C;rcases m.from_ a A with hc | hc
 ·exact r a hb hc
 grind
end
abbrev xI (l:Sl) (a:List Int) (h:Hp) (B:List Nat):Prop:=bz (ae .i64) 1 (fa Eq) l a h B
abbrev Kg (l:Sl) (a:List Int) (h:Hp) (B:List Nat):Prop:=bz (ae .u64) 1 (fa Eq) l a h B
abbrev C1 (l:Sl) (a:List dB) (h:Hp) (B:List Nat):Prop:=bz be 5 (fa λx p=>bA x=p) l a h B
def pE (q:bd) (p:ik) (h:Hp) (B:List Nat):Prop:=q.Part=p.part/\C1 q.Code p.code h B
abbrev FO (l:Sl) (a:List ik) (h:Hp) (B:List Nat):Prop:=bz bJ 2 pE l a h B
def pD (x:bM) (p:ba) (h:Hp) (B:List Nat):Prop:=
 ∃a b,B=a++b/\xI x.dD p.values h a/\bz aE 2 (fa λx p=>uv x=p) x.dR p.waiters h b/\x.cO=p.taken/\x.iY=p.dropped
def kT (x:bB) (p:ak) (h:Hp) (B:List Nat):Prop:=
 bz bS 4 pD x.iI p.ah h B/\x.State=p.state/\x.PC=p.pc/\ [x.cC,x.cD,x.cE,x.cF,x.cG,x.cH,x.cI,x.cJ]=p.bf/\x.Cursor=p.af/\x.Timer=p.timer/\x.lR=p.bN/\x.qH=p.cx
def q6 (x:cK) (p:dx) (h:Hp) (B:List Nat):Prop:=
 ∃a b c,B=a++(b++c)/\bz fN 3 (fa λx p=>uG x=p) x.Log p.log h a/\xI x.fc p.ax h b/\bz al 1 xI x.iy p.an h c/\x.Cursor=p.af/\x.qC=p.lost/\x.gl=p.forbidden
def qF (x:aU) (p:ij) (h:Hp) (B:List Nat):Prop:=
 ∃a b,B=a++b/\bz dJ 6 q6 x.eg p.parts h a/\bz bY 15 kT x.aM p.procs h b/\x.jx=p.tick
def yF (x:aw) (c:bg) (h:Hp) (B:List Nat):Prop:=
 ∃a b d,B=a++(b++d)/\Kg x.aN c.labels h a/\xI x.Table c.table h b/\FO x.aM c.procs h d/\x.Fuel=c.fuel/\x.gQ=c.lane/\x.bG=c.ai/\x.Log=c.log
theorem kI :gP xI:=bz.ok (fa.ok _)
theorem tT :gP Kg:=bz.ok (fa.ok _)
theorem tQ :gP C1:=bz.ok (fa.ok _)
theorem uW :gP pE:=⟨λo a=>⟨o.1,tQ.same o.2 a⟩,λo=>tQ.known o.2⟩
theorem mF :gP FO:=bz.ok uW
theorem oe {a b:List Nat} {c:Nat} (h:c∈a):c∈a++b:=List.mem_append_left _ h
theorem lW {b a:List Nat} {c:Nat} (h:c∈a):c∈b++a:=List.mem_append_right _ h
theorem qW :gP pD where
 same:=by rintro a b h k B ⟨f,g,rfl,d,e,j⟩ i;exact ⟨f,g,rfl,kI.same d λc hc=>i c (oe hc),(bz.ok (fa.ok _)).same e λc hc=>i c (lW hc),j⟩
 known:=by
  rintro a b h B ⟨f,g,rfl,d,e,j⟩ c hc;rcases List.mem_append.1 hc with hc | hc
  ·exact kI.known d c hc
  ·exact (bz.ok (fa.ok _)).known e c hc
theorem JK :gP kT:=⟨λo a=>⟨(bz.ok qW).same o.1 a,o.2⟩,λo=>(bz.ok qW).known o.1⟩
theorem uX :gP q6 where
 same:=by rintro a b h m B ⟨i,j,k,rfl,e,f,g,l⟩ d;exact ⟨i,j,k,rfl,(bz.ok (fa.ok _)).same e λc hc=>d c (oe hc),kI.same f λc hc=>d c (lW (oe hc)),(bz.ok kI).same g λc hc=>d c (lW (lW hc)),l⟩
 known:=by
  rintro a b h B ⟨i,j,k,rfl,e,f,g,l⟩ c hc;rcases List.mem_append.1 hc with hc | hc
  ·exact (bz.ok (fa.ok _)).known e c hc
  ·rcases List.mem_append.1 hc with hc | hc
   ·exact kI.known f c hc
   ·exact (bz.ok kI).known g c hc
theorem N5 :gP qF where
 same:=by rintro a b h k B ⟨f,g,rfl,d,e,j⟩ i;exact ⟨f,g,rfl,(bz.ok uX).same d λc hc=>i c (oe hc),(bz.ok JK).same e λc hc=>i c (lW hc),j⟩
 known:=by
  rintro a b h B ⟨f,g,rfl,d,e,j⟩ c hc;rcases List.mem_append.1 hc with hc | hc
  ·exact (bz.ok uX).known d c hc
  ·exact (bz.ok JK).known e c hc
theorem Dz :gP yF where
 same:=by rintro a b h m B ⟨i,j,k,rfl,e,f,g,l⟩ d;exact ⟨i,j,k,rfl,tT.same e λc hc=>d c (oe hc),kI.same f λc hc=>d c (lW (oe hc)),mF.same g λc hc=>d c (lW (lW hc)),l⟩
 known:=by
  rintro a b h B ⟨i,j,k,rfl,e,f,g,l⟩ c hc;rcases List.mem_append.1 hc with hc | hc
  ·exact tT.known e c hc
  ·rcases List.mem_append.1 hc with hc | hc
   ·exact kI.known f c hc
   ·exact mF.known g c hc
theorem BE {a:Type}:∀ {l m:List a},db Eq l m->l=m
 | [],[],_=>rfl
 | _::_,_::_,h=>by rw [h.1,BE h.2]
 | [],_::_,h=>h.elim
 | _::_,[],h=>h.elim
theorem wD {a b:Type} {f:a->b}:∀ {l:List a} {m:List b},db (λx p=>f x=p) l m->l.map f=m
 | [],[],_=>rfl
 | _::_,_::_,h=>by rw [List.map_cons,h.1,wD h.2]
 | [],_::_,h=>h.elim
 | _::_,[],h=>h.elim
section
variable {h:Hp} {B:List Nat}
theorem xI.rd {l:Sl} {c:List Int} (o:xI l c h B):Is h l c:=by obtain ⟨f,d,e⟩:=bz.rows (S:=Eq) (λ_=>rfl) (λa b B o=>o.2) o;rw [<-BE e];exact d
theorem Kg.rd {l:Sl} {c:List Int} (o:Kg l c h B):Us h l c:=by obtain ⟨f,d,e⟩:=bz.rows (S:=Eq) (λ_=>rfl) (λa b B o=>o.2) o;rw [<-BE e];exact d
theorem pE.rd {q:bd} {p:ik} (o:pE q p h B):kE h q p:=by obtain ⟨e,o⟩:=o;obtain ⟨f,c,d⟩:=bz.rows (S:=λx p=>bA x=p) (λ_=>rfl) (λa b B o=>o.2) o;exact ⟨e,f,c,wD d⟩
theorem yF.rd {x:aw} {c:bg} (o:yF x c h B):eu h x c:=by obtain ⟨i,j,k,_,e,f,g,f1,f2,f3,d⟩:=o;exact ⟨e.rd,f.rd,f1,f2,f3,d,bz.rows (λ_=>rfl) (λa b B o=>o.rd) g⟩
theorem pD.rd {x:bM} {p:ba} (o:pD x p h B):kB h x p:=by obtain ⟨i,j,_,e,f,f1,f2⟩:=o;obtain ⟨g,c,d⟩:=bz.rows (S:=λx p=>uv x=p) (λ_=>rfl) (λa b B o=>o.2) f;exact ⟨e.rd,⟨g,c,wD d⟩,f1,f2⟩
theorem kT.rd {x:bB} {p:ak} (o:kT x p h B):eT h x p:=by obtain ⟨g,f1,f2,f3,c,d,e,f⟩:=o;exact ⟨f1,f2,f3,c,d,e,f,bz.rows (λ_=>rfl) (λa b B o=>o.rd) g⟩
theorem q6.rd {x:cK} {p:dx} (o:q6 x p h B):jI h x p:=by obtain ⟨j,k,l,_,e,f,g,f1,f2,f3⟩:=o;obtain ⟨i,c,d⟩:=bz.rows (S:=λx p=>uG x=p) (λ_=>rfl) (λa b B o=>o.2) e;exact ⟨f1,⟨i,c,wD d⟩,f2,f3,f.rd,bz.rows (λ_=>rfl) (λa b B o=>xI.rd o) g⟩
theorem qF.rd {x:aU} {p:ij} (o:qF x p h B):eV h x p:=by obtain ⟨e,f,_,c,d,f1⟩:=o;exact ⟨f1,bz.rows (λ_=>rfl) (λa b B o=>o.rd) c,bz.rows (λ_=>rfl) (λa b B o=>o.rd) d⟩
end
def iX {d f:Type} {R:d->f->Hp->List Nat->Prop} (ok:gP R) (v:d) (p:f):dg where
 R k F:=∃B,R v p k B/\B.Nodup/\∀b,F b↔b∈B
 same:=λ⟨B,h,n,e⟩ g=>⟨B,ok.same h λc a=>g c ((e c).2 a),n,e⟩
 known:=λ⟨B,h,n,e⟩ c a=>ok.known h c ((e c).1 a)
def fm {d:Type} (sz:Nat) (enc:d->List Value) (l:Sl) (g:List d):dg where
 R k F:=∃B,cT k sz enc l g B/\∀b,F b↔b∈B
 same:=λ⟨B,h,e⟩ f=>⟨B,h.same λc a=>f c ((e c).2 a),e⟩
 known:=λ⟨B,h,e⟩ c a=>h.known c ((e c).1 a)
section
variable {h0 k:Hp} {α β:Type} {R:α->β->Hp->List Nat->Prop} {ok:gP R}
theorem Has.WI {v:α} {p:β} (o:Has h0 (iX ok v p) k):∃B,R v p k B/\B.Nodup/\∀b∈B,h0 b=none:=by obtain ⟨_,F,⟨B,h,n,e⟩,a⟩:=o;grind
theorem Has.qO {v:α} {p:β} {B:List Nat} (c:h0<=k) (h:R v p k B) (n:B.Nodup) (a:∀b∈B,h0 b=none):Has h0 (iX ok v p) k:=⟨c,(· ∈B),⟨B,h,n,λ_=>Iff.rfl⟩,a⟩
theorem Has.tV {sz:Nat} {enc:α->List Value} {l:Sl} {a:List α} (o:Has h0 (fm sz enc l a) k):Has h0 (dC sz enc l a) k:=by obtain ⟨d,F,⟨B,h,e⟩,c⟩:=o;exact Has.zh h d λb hb=>c b ((e b).2 hb)
theorem Bc {b c:Type} {S:b->c->Prop} {h:Hp}:∀ {l:List b} {m:List c},db S l m->nB (fa S) l m h []
 | [],[],_=>rfl
 | _::_,_::_,a=>⟨[],[],rfl,⟨rfl,a.1⟩,Bc a.2⟩
 | [],_::_,a=>a.elim
 | _::_,[],a=>a.elim
theorem Has.two {i j:Type} {f:i->j->Hp->List Nat->Prop} {l:gP f} {v:α} {p:β} {h:i} {g:j} (o:Has h0 ((iX ok v p).star (iX l h g)) k):
  ∃B c,R v p k B/\f h g k c/\(B++c).Nodup/\∀b∈B++c,h0 b=none:=by
 obtain ⟨_,F,⟨m,q,e,d,⟨B,a,n,r⟩,⟨c,b,u,s⟩⟩,t⟩:=o;grind
theorem Has.row {j:Type} {sh:Shape} {sz:Nat} {Q:sh.T->j->Hp->List Nat->Prop} {okQ:gP Q} {l:Sl} {g:List j} {v:sh.T} {p:j} {cs zero:List Value} {bytes:Nat} {K:Sl->Hp->Prop} (o:Has h0 ((iX (bz.ok (sh:=sh) (sz:=sz) okQ) l g).star (iX okQ v p)) k)
  (u:cs=aY (sh.enc v)) (i:∀x,(aY (sh.enc x)).length=sz) (D:∀x,iF (aY (sh.enc x))=true) (E:zero.length=sz) (hb:g.length+1<=140737488355328/\(g.length+1)*bytes<=140737488355328)
  (z:∀f d,Has h0 (iX (bz.ok (sh:=sh) (sz:=sz) okQ) f (g++ [p])) d->K f d):bq cs (λa m=>fP sz bytes zero l ⟨some a,1,1⟩ K m) k:=by
 refine gh (xs:=[v]) (sz:=sz) (enc:=λx=>aY (sh.enc x)) (by rw [u];simp) i λa m C n=> ?_;have o:=o.grow C;obtain ⟨B,H,r,e,nd,w⟩:=o.two;refine WD okQ r e nd (n.ia i) i D E hb λf d I G F A y=> ?_;refine z f d (Has.qO (λb q s=>A b q (o.1 b q s) λhb=> ?_) G F λc t=> ?_)
 ·grind
 ·rcases y c t with h | h
  ·exact w c h
  ·exact uK o.1 h
theorem Has.na {a:Type} {sh:Shape} {sz:Nat} {Q:sh.T->a->Hp->List Nat->Prop} {okQ:gP Q} (b:h0<=k):Has h0 (iX (bz.ok (sh:=sh) (sz:=sz) okQ) (⟨none,0,0⟩:Sl) ([]:List a)) k:=
 Has.qO b bz.nil .nil λ_ h=>by cases h
theorem Has.iR {d:Type} {sh:Shape} {sz:Nat} {enc:d->List Value} {S:sh.T->d->Prop} {f:d->sh.T} {l:Sl} {c:List d} (o:Has h0 (fm sz enc l c) k) (n:∀x,enc x=aY (sh.enc (f x))) (j:∀x,S (f x) x):
  Has h0 (iX (bz.ok (sh:=sh) (sz:=sz) (fa.ok S)) l c) k:=by
 obtain ⟨q,F,⟨B,⟨s,h,t⟩,e⟩,p⟩:=o;have u:c.flatMap enc=(c.map f).flatMap λx=>aY (sh.enc x):=by rw [List.flatMap_map];congr 1;exact funext n
 have i:∀m:List d,db S (m.map f) m:=λm=>by
  induction m with
  | nil=>trivial
  | cons a m r=>exact ⟨j a,r⟩
 have g:cT k sz (λx=>aY (sh.enc x)) l (c.map f) B:=⟨by grind,h,by grind⟩;refine Has.qO q ⟨c.map f,B,[],by simp,g,Bc (i c)⟩ g.nodup λb hb=>p b ((e b).2 hb)
theorem vr {P:Program} {sz:Nat} {enc:α->List Value} {s:Sl} {xs:List α} {p B bytes:Nat} {zero:List Value} {x y:Operand} {Q:Sl->Hp->Prop} (w:P.underlying p=some (.slice B)) (r:Rw k sz enc s xs) (G:0<sz) (j:∀x,(enc x).length=sz) (u:∀x,iF (enc x)=true) (z:zero.length=sz)
  (hb:xs.length<=140737488355328/\xs.length*bytes<=140737488355328) (l:∀f d,k<=d->Has k (fm sz enc f xs) d->Q f d):
  iz none P (cW .eql p x y s.v (.slice none 0 0)) bu k λx=>(if x=true then Q ⟨none,0,0⟩ k else bq [] (λa q=>fP sz bytes zero ⟨(some a),0,0⟩ s (λr t=>Q r t) q) k):=by
 refine ⟨s.base.isNone,Lc w s,?_⟩;cases D:s.base with
 | none=>
  rw [if_pos (show (none:Option Addr).isNone=true from rfl)];have:xs=[]:=by
   rcases r.2.2 with e | ⟨a,C,_⟩
   ·exact List.length_eq_zero_iff.1 ((Nat.mul_eq_zero.1 e).resolve_right (by omega))
   grind
  subst this;exact l _ k (Hp.le_refl k) ⟨Hp.le_refl k,λ_=>False,⟨[],⟨rfl,Nat.le_refl _,.inl ⟨rfl,rfl,rfl⟩⟩,λb=>by simp⟩,λ_ h=>h.elim⟩
 | some a=>
  rw [ry];refine zf (xs:=([]:List α)) (enc:=enc) (sz:=sz) rfl j λb H E n I A=> ?_;refine vL A (Rw.mono n r) j u z (by simpa using hb) λf d i o m=> ?_;have g:=m.le (h0:=k) n λc F=>by grind
  exact l f d g.1 ⟨g.1,(· ∈i),⟨i,by simpa using o,λ_=>Iff.rfl⟩,g.2⟩
end
abbrev rV (l:Sl) (a:List Int):dg:=iX kI l a
abbrev LH (l:Sl) (a:List mu):dg:=iX (bz.ok (sh:=aE) (sz:=2) (fa.ok λx p=>uv x=p)) l a
section
variable {h0 k:Hp} {q:Addr} {room:Int} {l:ba}
theorem HS {Q:bM->Hp->Prop} (o:Has h0 (dj q room l) k) (hv:l.values.length<=100) (D:l.waiters.length<=100) (z:∀r g,Has h0 ((dj q room l).star (iX qW r l)) g->Q r g):RJ prog (some q) Q k:=by
 unfold RJ;obtain ⟨x,u,c,d,o⟩:=o.bw;refine aK (o.left.ld (shf:=al) x.values rfl ?_);refine aK (o.left.ld (shf:=al) x.waiters rfl ?_);refine aK (o.left.ld (shf:=ae .i64) x.taken rfl ?_);refine aK (o.left.ld (shf:=ae .i64) x.dropped rfl ?_);refine W5 ?_;unfold OF;refine vr (bK.bE 131 ug rfl) (o.right.left.ia (λ_=>rfl)) (by decide) (λ_=>rfl) (λ_=>rfl) rfl ⟨by omega,by omega⟩ λj h w A=> ?_;have a:=o.grow w;refine ⟨⟨a.left.dQ (n:=1) rfl,a.left.dQ (n:=1) rfl,a.left.dQ (n:=1) rfl,trivial⟩,?_⟩;refine WQ ?_;unfold NB;refine vr (bK.bE 132 rE rfl) (a.right.right.ia (λ_=>rfl)) (by decide) (λ_=>rfl) (λ_=>rfl) rfl ⟨by omega,by omega⟩ λm b y C=> ?_;have i:=a.grow y;refine ⟨⟨i.left.dQ (n:=1) rfl,i.left.dQ (n:=1) rfl,trivial⟩,?_⟩;refine z _ b ?_;have s:Has k (rV j l.values) h:=A.iR (f:=λx=>x) (λ_=>rfl) λ_=>rfl;have t:Has h (LH m l.waiters) b:=C.iR (f:=nq) (λ_=>rfl) λ_=>rfl;have both:=s.beside t;have lane:Has k (iX qW (⟨j,m,x.taken,x.dropped⟩:bM) l) b:=by obtain ⟨B,p,r,e,nd,v⟩:=both.two;exact Has.qO both.le ⟨B,p,rfl,r,e,c,d⟩ nd v
 exact (Has.jg o u c d).beside lane
end
section
variable {h0 k:Hp} {q:Addr} {room:Int} {l:ba}
theorem WE {s:Sl} {b:List mu} {Q:Bool->Hp->Prop} (r:Rw k 2 eW s b) (O:b.length<=1000000) (B:(b.map (·.proc)).Nodup) (S:∀c,k<=c->Q false c):UM prog s Q k:=by
 unfold UM;have P:=r.1;intro m u;have J:k<=k.set m (.map #[] 0):=kP u;refine ay.intro (λi c=>k<=c/\0<=i/\i<=(b.length:Int)/\∃f:List (Int×Int),fe c m .i64 (ae .i64).enc f/\(∀a,gL a f≠none->a∈(b.take i.toNat).map (·.proc))) (λi _=>(b.length-i).toNat)
  ⟨J,by omega,by omega,[],⟨[],0,lP,rfl⟩,λa h=>absurd rfl h⟩ ?_
 rintro i c ⟨p,N,T,f,A,t⟩;by_cases F:i<(b.length:Int)
 ·rw [if_pos (gI)];have rs:Rs c aE 2 s (b.map nq):=(r.mono p).map (enc:=λx=>aY (aE.enc x));refine rs.get (λ_=>rfl) (by omega) N (by rw [List.length_map];exact F) λ(x:bt) d=> ?_;rw [List.getElem?_map] at d;cases g:b[i.toNat]? with
  | none=>rw [g] at d;cases d
  | some w=>
   rw [g] at d;have d:x=nq w:=by simpa using d.symm
   subst d;have L:gL w.proc f=none:=by
    cases e:gL w.proc f with
    | none=>rfl
    | some v=>
     have D:=t w.proc (by rw [e];simp);obtain ⟨E,G⟩:=List.getElem?_eq_some_iff.1 g;have H:(b.map (·.proc))=(b.take i.toNat).map (·.proc)++(w.proc::(b.drop (i.toNat+1)).map (·.proc)):=by
      have:b=b.take i.toNat++w::b.drop (i.toNat+1):=by rw [<-G,<-List.drop_eq_getElem_cons E,List.take_append_drop]
      conv=>lhs;rw [this]
      simp
     rw [H] at B;exact absurd rfl ((List.nodup_append.1 B).2.2 _ D _ (List.mem_cons_self ..))
   refine ur (sh:=ae .i64) (z:=(0:Int)) A rfl (λ_=> ?_) λv hv=>by rw [show (nq w).cX=w.proc from rfl,L] at hv;cases hv
   rw [aH];refine HM (ev:=(ae .i64).enc) (v:=(1:Int)) A λo R y=> ?_;have K:k m=none:=u;have I:k<=c.set m o:=IU p K;have n:gL w.proc (jM w.proc (1:Int) f)=some 1:=by rw [wC,if_pos rfl]
   refine ur (sh:=ae .i64) (z:=(0:Int)) y rfl (λhv=>by rw [show (nq w).cX=w.proc from rfl,n] at hv;cases hv) λv hv=> ?_;have M:v=1:=by rw [show (nq w).cX=w.proc from rfl,n] at hv;exact (Option.some.inj hv).symm
   subst M;dsimp only;rw [if_neg (by decide),aH];refine ⟨⟨I,by omega,by omega,_,y,λa j=> ?_⟩,by omega⟩;have C:(i+1).toNat=i.toNat+1:=by omega
   rw [C,List.take_add_one,g];rw [wC] at j;by_cases e:a=(nq w).cX
   ·rw [e];simp [nq]
   ·rw [if_neg e] at j;have:=t a j;simp only [List.map_append,List.mem_append];exact .inl this
 grind
theorem N7 {Q:Option Addr->Int->Hp->Prop} (d:1<=room/\room<=64) (c:∀p a,k<=a->Has k (dd AT p ⟨room,⟨none,0,0⟩,⟨none,0,0⟩,0,0⟩) a->Q (some p) 0 a):zT prog room Q k:=by unfold zT;refine Sk ?_;unfold KX;refine aI ?_;rw [show (decide (room>=1)&&decide (room<=64))=true by simp;omega];dsimp only;rw [if_neg (by decide)];exact qn (sh:=AT) ⟨room,⟨none,0,0⟩,⟨none,0,0⟩,0,0⟩ rfl λp a b o=>c p a b o
structure LC (room:Int) (l:ba):Prop where
 len:(l.values.length:Int)<=room
 full:l.waiters≠ []->(l.values.length:Int)=room
 taken:jl l.taken
 dropped:jl l.dropped
 once:(l.waiters.map (·.proc)).Nodup
 mh:l.waiters.length<=100
theorem I6 {n:Int} {Q:Bool->Hp->Prop} (h:jl n) (a:Q true k):KX prog n 0 65535 Q k:=by
 unfold KX;refine aI ?_;have:(decide (n>=0)&&decide (n<=65535))=true:=by unfold jl at h;simp;omega
 grind
theorem N9 {x:bM} {Q:Option Addr->Int->Hp->Prop} (g:1<=room/\room<=64) (a:kB k x l) (v:LC room l) (C:∀p f,k<=f->Has k (dj p room l) f->Q (some p) 0 f):zP prog room x Q k:=by
 unfold zP;refine Q4 (N7 g λp r h s=> ?_);have hv:=a.values.1;obtain ⟨u,n,D⟩:=a.waiters;have m:u.length=l.waiters.length:=by grind
 have R:=n.1;have P:=v.len;have N:=v.mh;rw [if_neg (by decide)];have w:(decide (((x.dR.len:Nat):Int)>(0:Int))&&decide (((x.dD.len:Nat):Int)<room))=false:=by
  by_cases e:l.waiters=[]
  ·grind
  ·have:=v.full e;grind
 refine aI (aI ?_);rw [w,Bool.or_false,show decide (((x.dD.len:Nat):Int)>room)=false by simp;omega];refine ⟨λ_=>Sk (I6 (by rw [a.taken];exact v.taken) ?_),λe=>by cases e⟩;refine aI ⟨λ_=>Sk (I6 (by rw [a.dropped];exact v.dropped) ?_),λe=>by cases e⟩;refine aI ⟨λ_=>O9 ?_,λe=>by cases e⟩;have j:Rw r 2 eW x.dR l.waiters:=by have A:Rw r 2 (λx=>aY (aE.enc x)) x.dR u:=Rw.mono h n;obtain ⟨y,z⟩:=A;refine ⟨by rw [y,m],?_⟩;rw [<-m,<-D,List.flatMap_map];exact z
 refine WE j (by omega) v.once λS c=> ?_;refine aI ?_;rw [if_neg (by decide)];refine W5 ?_;unfold OF;have hb:=g.2;refine HH (bK.bE 131 ug rfl) (xs:=l.values) (enc:=dZ) (Rw.mono (Hp.le_trans h c) a.values) (by decide) (λ_=>rfl) (λ_=>rfl) rfl ⟨by omega,by omega⟩ λb T i G=> ?_;refine ⟨⟨trivial,trivial⟩,?_⟩;refine WQ ?_;unfold NB;refine HH (bK.bE 132 rE rfl) (xs:=l.waiters) (Rw.mono (Hp.le_trans c i) j) (by decide) (λ_=>rfl) (λ_=>rfl) rfl ⟨by omega,by omega⟩ λd E B H=> ?_;have o:=(s.grow (Hp.le_trans c (Hp.le_trans i B)));have o:Has k ((dd AT p ⟨room,⟨none,0,0⟩,⟨none,0,0⟩,0,0⟩).star ((dC 1 dZ b l.values).star (dC 2 eW d l.waiters))) E:=(s.grow c).grow (Hp.le_refl _) |>.beside (G.beside H)
 obtain ⟨O,_,I,put⟩:=o.f1;refine aK (I.st (⟨room,b,⟨none,0,0⟩,0,0⟩:cU) (show (2:Nat)<=5 by decide) rfl λU J=> ?_);refine aK (J.st (⟨room,b,d,0,0⟩:cU) (show (3:Nat)<=5 by decide) rfl λV K=> ?_);refine aK (K.st (⟨room,b,d,x.cO,0⟩:cU) (show (4:Nat)<=5 by decide) rfl λW L=> ?_);refine ⟨⟨trivial,trivial⟩,?_⟩;refine aK (L.st (⟨room,b,d,x.cO,x.iY⟩:cU) (show (5:Nat)<=5 by decide) rfl λF M=> ?_);have t:=put _ _ M;exact C p F t.le (Has.jg t rfl a.taken a.dropped)
end
abbrev eP :Addr->List Value:=λa=> [.pointer (some a)]
def a0 :Addr:=⟨0,0,none⟩
def kZ :ba:=⟨[],[],0,0⟩
def uY (b:List Addr) (room:Int) (a:List ba):dg:=dg.first (λi=>dj (b.getD i a0) room (a.getD i kZ)) a.length
def gM (p:Addr) (x:cL) (a:List Addr) (room:Int) (b:List ba):dg:=(dd KZ p x).star ((dC 1 eP x.ah a).star (uY a room b))
def dy (p:Addr) (room:Int) (a:List ba) (af:Int):dg:=
 .some_ λx:cL=>.some_ λb:List Addr=>(gM p x b room a).star (.fact (x.af=af/\b.length=a.length))
section
variable {h0 k:Hp} {p:Addr} {room af:Int} {c:List ba} {x:cL} {g:List Addr}
theorem ou {b:Type} {l:List b} {i:Nat} {a d:b} (h:l[i]? =some a):l.getD i d=a:=by grind
theorem Has.ni (o:Has h0 (dy p room c af) k):∃x g,x.af=af/\g.length=c.length/\Has h0 (gM p x g room c) k:=by obtain ⟨x,o⟩:=Has.ex.1 o;obtain ⟨g,o⟩:=Has.ex.1 o;obtain ⟨o,a,b⟩:=o.iC;grind
theorem Has.jQ (o:Has h0 (gM p x g room c) k) (a:x.af=af) (b:g.length=c.length):Has h0 (dy p room c af) k:=Has.ex.2 ⟨x,Has.ex.2 ⟨g,o.eB ⟨a,b⟩⟩⟩
theorem Has.mX {i:Nat} {l:ba} (o:Has h0 (gM p x g room c) k) (f:c[i]? =some l):∃a,h0<=a/\Has a (dj (g.getD i a0) room l) k/\∀d b,Has a (dj (g.getD i a0) room d) b->Has h0 (gM p x g room (c.set i d)) b:=by
 obtain ⟨a,a1,s,put⟩:=o.f3;have n:i<c.length:=(List.getElem?_eq_some_iff.1 f).1;obtain ⟨m,a2,h,_,t⟩:=s.one n;rw [ou f] at h;refine ⟨m,Hp.le_trans a1 a2,h,λd b r=>put _ _ ?_⟩;have:=t _ _ r;unfold uY;rw [List.length_set];refine cast (congrArg (λA=>Has a A b) (rJ λj q=> ?_)) this;by_cases e:j=i
 ·subst e;rw [kM,ou (List.getElem?_set_self q)]
 ·rw [ku e];grind
theorem Has.ptr (o:Has h0 (gM p x g room c) k) (a:g.length=c.length) {i:Nat} (b:i<c.length) {K:Option Addr->Prop} (d:K (some (g.getD i a0))):bD x.ah.base x.ah.len (i:Int)/\aQ none aj k (sat x.ah.base 1 (i:Int)) K:=by have rs:Rs k aj 1 x.ah (g.map some):=(o.right.left.ia (λ_=>rfl)).map (f:=some) (enc:=λx=>aY (aj.enc x));refine rs.get (λ_=>rfl) (by omega) (by omega) (by rw [List.length_map];omega) λ(y:Option Addr) e=> ?_;grind
theorem Bd {n:Int} {Q:Bool->Hp->Prop} (o:Has h0 (dy p room c af) k) (d:0<=n/\n<c.length) (e:Q true k):RL prog (some p) n Q k:=by obtain ⟨x,g,a,b,o⟩:=o.ni;unfold RL;have f:=o.right.left.gH;refine aK ((Has.left o).vV (shf:=al) x.ah rfl ?_);refine aI ?_;grind
theorem Has.tK {i:Nat} {l:ba} (o:Has h0 (dy p room c af) k) (h:c[i]? =some l):∃(x:cL) (a:Addr) (b:Hp),(∀ {K:Sl->Prop},K x.ah->aQ none al k (p.add 0) K)/\(∀ {K:Option Addr->Prop},K (some a)->bD x.ah.base x.ah.len (i:Int)/\aQ none aj k (sat x.ah.base 1 (i:Int)) K)/\h0<=b/\Has b (dj a room l) k/\
  ∀e d,Has b (dj a room e) d->Has h0 (dy p room (c.set i e) af) d:=by
 obtain ⟨x,g,j,m,o⟩:=o.ni;obtain ⟨b,a1,q,put⟩:=o.mX h;exact ⟨x,_,b,λf=>(Has.left o).ld (shf:=al) x.ah rfl f,λf=>o.ptr m (List.getElem?_eq_some_iff.1 h).1 f,a1,q,λe d n=>(put e d n).jQ j (by grind)⟩
theorem Ob {i:Nat} {l:ba} {v:Int} {Q:Int->Hp->Prop} (o:Has h0 (dy p room c af) k) (d:c[i]? =some l) (j:room<=64) (e:room<=(l.values.length:Int)->Q 19 k)
  (h:∀b,¬room<=(l.values.length:Int)->Has h0 (dy p room (c.set i (tI v l)) af) b->Q 0 b):KT prog (some p) (i:Int) v Q k:=by
 unfold KT;refine Q2 (Bd o ⟨by omega,by have:=(List.getElem?_eq_some_iff.1 d).1;omega⟩ ?_);obtain ⟨x,a,r,ld,m,_,q,put⟩:=o.tK d;rw [if_neg (by decide)];refine aK (ld (m ?_));exact ZK (N1 q j e λb f n=>h b f (put _ _ n))
theorem WG {i:Nat} {l:ba} {Q:Hp->Prop} (o:Has h0 (dy p room c af) k) (d:c[i]? =some l) (e:jl l.dropped) (f:∀b,Has h0 (dy p room (c.set i (lf l)) af) b->Q b):KN prog (some p) (i:Int) Q k:=by unfold KN;refine Q2 (Bd o ⟨by omega,by have:=(List.getElem?_eq_some_iff.1 d).1;omega⟩ ?_);obtain ⟨x,a,n,ld,h,_,m,put⟩:=o.tK d;rw [if_pos rfl];refine aK (ld (h ?_));exact ZE (Wx m e λb j=>f b (put _ _ j))
theorem wE {b:Type} {f:b->b} {a:List b} {t:Nat} {y:b} (h:a[t]? =some y):((a.take t).map f++a.drop t).set t (f y)=(a.take (t+1)).map f++a.drop (t+1):=by
 obtain ⟨d,i⟩:=List.getElem?_eq_some_iff.1 h;have j:((a.take t).map f).length=t:=by rw [List.length_map,List.length_take];omega
 have e:a.drop t=y::a.drop (t+1):=by rw [List.drop_eq_getElem_cons d,i]
 rw [e,List.set_append_right _ _ (by omega),j,Nat.sub_self,List.set_cons_zero,List.take_add_one,h];simp
theorem Be {a:Type} {f:a->a} {b:List a} {t:Nat} {y:a} (h:b[t]? =some y):((b.take t).map f++b.drop t)[t]? =some y:=by grind
theorem Vn {w:Int} {Q:Bool->Hp->Prop} (o:Has h0 (dy p room c af) k) (v:c.length<=1000000/\∀l∈c,l.waiters.length<=100) (u:∀b a,Has h0 (dy p room (c.map (qo w)) af) a->Q b a):RM prog (some p) w Q k:=by
 obtain ⟨x,g,m,D,o⟩:=o.ni;unfold RM;have F:=o.right.left.gH;refine aK ((Has.left o).ld (shf:=al) x.ah rfl ?_);refine bQ.intro (λ(_:Bool) (i:Int) a=>0<=i/\i<=(c.length:Int)/\Has h0 (gM p x g room ((c.take i.toNat).map (qo w)++c.drop i.toNat)) a) (λ_ i _=>(c.length-i).toNat) ⟨by omega,by omega,by simpa using o⟩ ?_;rintro b i a ⟨G,H,o⟩;by_cases s:i<(c.length:Int)
 ·rw [if_pos (gI)];have t:i.toNat<c.length:=by omega
  have d:=List.getElem?_eq_getElem t;generalize c[i.toNat]=l at d;have n:g.length=((c.take i.toNat).map (qo w)++c.drop i.toNat).length:=by grind
  obtain ⟨E,_,B,put⟩:=o.mX (Be d);have h:=o.ptr n (i:=i.toNat) (by omega) (K:=λy=>y=some (g.getD i.toNat a0)) rfl;have f:((i.toNat:Nat):Int)=i:=by omega
  rw [f] at h;refine ⟨λr q=>0<=i/\i<(c.length:Int)/\Has h0 (gM p x g room ((c.take (i.toNat+1)).map (qo w)++c.drop (i.toNat+1))) q,⟨h.1,?_⟩,?_⟩
  ·obtain ⟨y,z,rfl⟩:=h.2;refine ⟨_,z,?_⟩;refine ZA (Vh B (v.2 l (List.mem_of_getElem? d)) λj A C=> ?_);have o:=put _ _ C;rw [wE d] at o;grind
  ·rintro j A ⟨_,_,o⟩;rw [aH];grind
 ·rw [if_neg (λe=>s (by grind))];refine u b a ?_;have f:i.toNat=c.length:=by omega
  rw [f,List.take_length,List.drop_length,List.append_nil] at o;exact o.jQ m (by grind)
end
section
variable {h0 k:Hp} {p:Addr} {room af:Int} {c:List ba} {x:cL} {d:List Addr}
theorem BT {e:Type}:∀ {l:List e} {i:Nat} {a:e},l[i]? =some a->l.set i a=l
 | [],_,_,h=>by cases h
 | b::l,0,a,h=>by cases h;rfl
 | b::l,i+1,a,h=>by rw [List.set_cons_succ,BT (by simpa using h)]
theorem WH {w:Int} {Q:Int->Hp->Prop} (o:Has h0 (dy p room c af) k) (h:c.length<=1000000/\∀l∈c,l.waiters.length<=100/\l.values.length<=100) (G:∀l∈c,∀z∈l.waiters,z.proc≠w) (I:∀a,Has h0 (dy p room c af) a->Q (-1) a):RU prog (some p) w Q k:=by
 obtain ⟨x,d,A,n,o⟩:=o.ni;unfold RU;have U:=o.right.left.gH;refine aK ((Has.left o).ld (shf:=al) x.ah rfl ?_);refine ay.intro (λ(i:Int) a=>0<=i/\i<=(c.length:Int)/\Has h0 (gM p x d room c) a) (λi _=>(c.length-i).toNat) ⟨by omega,by omega,o⟩ ?_;rintro i a ⟨W,X,o⟩;by_cases E:i<(c.length:Int)
 ·rw [if_pos (gI)];have s:i.toNat<c.length:=by omega
  have b:=List.getElem?_eq_getElem s;generalize c[i.toNat]=l at b;have f:=List.mem_of_getElem? b;obtain ⟨R,_,O,put⟩:=o.mX b;have C:((i.toNat:Nat):Int)=i:=by omega
  have t:=o.ptr n s (K:=λy=>y=some (d.getD i.toNat a0)) rfl;rw [C] at t;obtain ⟨D,y,m,rfl⟩:=t;refine ⟨D,_,m,?_⟩;refine XC (HS O (h.2 l f).2 (h.2 l f).1 λr N v=> ?_);have J:c.set i.toNat l=c:=BT b;have P:=put _ _ v.left;rw [J] at P;obtain ⟨B,F,_⟩:=v.right.WI;obtain ⟨g,u,L⟩:=(pD.rd F).waiters;have V:g.length=l.waiters.length:=by grind
  have T:=u.1;have S:=(h.2 l f).1;refine ay.intro (λ(j:Int) a=>a=N/\0<=j/\j<=(g.length:Int)) (λj _=>(g.length-j).toNat) ⟨rfl,by omega,by omega⟩ ?_;rintro j _ ⟨rfl,M,Y⟩;by_cases q:j<(g.length:Int)
  ·rw [if_pos (gI)];refine Rs.get (sh:=aE) u (λ_=>rfl) (by omega) M q λ(y:bt) m=> ?_;have H:y.cX≠w:=by
    have:uv y∈l.waiters:=by rw [<-L];exact List.mem_map_of_mem (List.mem_of_getElem? m)
    exact G l f _ this
   rw [if_neg (show ¬(y.cX==w)=true by simp [H]),aH];grind
  ·rw [if_neg (λe=>q (by have:=of_decide_eq_true e;omega)),aH];grind
 ·rw [if_neg (λe=>E (by grind))];exact I a (o.jQ A n)
theorem ME {i:Nat} {l:ba} {w v:Int} {Q:Int->Hp->Prop} (o:Has h0 (dy p room c af) k) (h:c.length<=1000000/\∀l∈c,l.waiters.length<=100/\l.values.length<=100) (g:∀l∈c,∀z∈l.waiters,z.proc≠w) (e:c[i]? =some l) (j:room<=(l.values.length:Int))
  (m:∀b,Has h0 (dy p room (c.set i (hZ w v l)) af) b->Q 0 b):Sf prog (some p) (i:Int) w v Q k:=by
 unfold Sf;refine Q2 (Bd o ⟨by omega,by grind⟩ ?_);rw [if_neg (by decide)];refine ZC (WH o h g λt o=> ?_);rw [if_neg (by decide)];obtain ⟨x,a,s,ld,n,_,r,put⟩:=o.tK e;refine aK (ld (n ?_));have f:=List.mem_of_getElem? e;exact ZH (WA r (h.2 l f).1 j (g l f) λb q=>m b (put _ _ q))
theorem Oc {Q:Sl->Hp->Prop} (o:Has h0 (dy p room c af) k) (H:c.length<=1000/\∀l∈c,l.waiters.length<=100) (G:∀s f,Has h0 ((dy p room (c.map rY) af).star (dC 2 eW s (c.flatMap (·.waiters)))) f->Q s f):SO prog (some p) Q k:=by
 obtain ⟨x,d,w,W,o⟩:=o.ni;unfold SO;have hs:=o.right.left.gH;refine aK ((Has.left o).ld (shf:=al) x.ah rfl ?_);have nil:Has k (dC 2 eW (⟨none,0,0⟩:Sl) ([]:List mu)) k:=Has.jP (Hp.le_refl _);have E:∀t,((c.take t).flatMap (·.waiters)).length<=t*100:=by
  have:∀m:List ba,(∀l∈m,l.waiters.length<=100)->(m.flatMap (·.waiters)).length<=m.length*100:=λm=>by
   induction m with
   | nil=>intro _;simp
   | cons a m J=>intro h;have:=J λl b=>h l (List.mem_cons_of_mem _ b);have:=h a (List.mem_cons_self ..);simp only [List.flatMap_cons,List.length_append,List.length_cons];omega
  grind
 refine bQ.intro (λ(s:Sl) (i:Int) f=>0<=i/\i<=(c.length:Int)/\Has h0 ((gM p x d room ((c.take i.toNat).map rY++c.drop i.toNat)).star (dC 2 eW s ((c.take i.toNat).flatMap (·.waiters)))) f) (λ_ i _=>(c.length-i).toNat)
  ⟨by omega,by omega,by simpa using o.beside nil⟩ ?_
 rintro s i f ⟨i0,i1,o⟩;by_cases D:i<(c.length:Int)
 ·rw [if_pos (gI)];have F:i.toNat<c.length:=by omega
  have b:=List.getElem?_eq_getElem F;generalize c[i.toNat]=l at b;have z:d.length=((c.take i.toNat).map rY++c.drop i.toNat).length:=by grind
  obtain ⟨C,_,g,_,n⟩:=o.fst;obtain ⟨X,_,N,put⟩:=g.mX (Be b);have q:=g.ptr z (i:=i.toNat) (by omega) (K:=λy=>y=some (d.getD i.toNat a0)) rfl;have j:((i.toNat:Nat):Int)=i:=by omega
  rw [j] at q;obtain ⟨B,y,I,rfl⟩:=q;refine ⟨B,_,I,?_⟩;refine ZM (N2 N λr L O=> ?_);have u:Has h0 (((gM p x d room ((c.take (i.toNat+1)).map rY++c.drop (i.toNat+1))).star (dC 2 eW s ((c.take i.toNat).flatMap (·.waiters)))).star (dC 2 eW r l.waiters)) L:=
   O.carry λf M=>by have op:=put _ _ M;rw [wE b] at op;exact n _ _ op
  have a8:l.waiters.length<=100:=H.2 l (List.mem_of_getElem? b);have Y:=E i.toNat;have v:(⟨s.base,s.len,s.cap⟩:Sl)=s:=rfl;rw [v];obtain ⟨Z,_,P,_,U⟩:=u.fst;obtain ⟨h7,_,R,_,V⟩:=P.snd;refine R.app (u.right.ia (λ_=>rfl)) (λ_=>rfl) (λ_=>rfl) rfl ⟨by omega,by omega⟩ λs' k3 S=> ?_;have T:=U _ _ (V _ _ S);rw [aH];refine ⟨⟨by omega,by omega,?_⟩,by omega⟩;rw [show (i+1).toNat=i.toNat+1 by omega];have A:(c.take (i.toNat+1)).flatMap (·.waiters)=(c.take i.toNat).flatMap (·.waiters)++l.waiters:=by rw [List.take_add_one,b];simp
  rw [A];exact T.left
 ·rw [if_neg (λe=>D (by grind))];refine G _ f ?_;have j:i.toNat=c.length:=by omega
  rw [j,List.take_length,List.drop_length,List.append_nil] at o;obtain ⟨C,_,g,_,n⟩:=o.fst;exact n _ _ (g.jQ w (by grind))
end
abbrev sY (l:Sl) (a:List ba):dg:=iX (bz.ok (sh:=bS) (sz:=4) qW) l a
section
variable {h0 k:Hp} {p:Addr} {room af:Int} {b:List ba} {x:cL} {c:List Addr}
theorem Vo {Q:Sl->Int->Hp->Prop} (o:Has h0 (dy p room b af) k) (B:b.length<=1000/\∀l∈b,l.waiters.length<=100/\l.values.length<=100) (A:∀s a,Has h0 ((dy p room b af).star (sY s b)) a->Q s af a):RH prog (some p) Q k:=by
 obtain ⟨x,c,j,m,o⟩:=o.ni;unfold RH;have P:=o.right.left.gH;refine aK ((Has.left o).ld (shf:=al) x.ah rfl ?_);have nil:Has k (sY (⟨none,0,0⟩:Sl) ([]:List ba)) k:=Has.na (okQ:=qW) (Hp.le_refl _);refine bQ.intro (λ(s:Sl) (i:Int) a=>0<=i/\i<=(b.length:Int)/\Has h0 ((gM p x c room b).star (sY s (b.take i.toNat))) a) (λ_ i _=>(b.length-i).toNat) ⟨by omega,by omega,by simpa using o.beside nil⟩ ?_;rintro s i a ⟨R,S,o⟩;by_cases z:i<(b.length:Int)
 ·rw [if_pos (gI)];have n:i.toNat<b.length:=by omega
  have d:=List.getElem?_eq_getElem n;generalize b[i.toNat]=l at d;have t:=B.2 l (List.mem_of_getElem? d);obtain ⟨w,_,f,_,h⟩:=o.fst;obtain ⟨N,_,F,put⟩:=f.mX d;have q:=f.ptr m n (K:=λy=>y=some (c.getD i.toNat a0)) rfl;have g:((i.toNat:Nat):Int)=i:=by omega
  rw [g] at q;obtain ⟨v,y,C,rfl⟩:=q;refine ⟨v,_,C,?_⟩;refine XC (HS F t.2 t.1 λr D G=> ?_);have J:Has h0 (((gM p x c room b).star (sY s (b.take i.toNat))).star (iX qW r l)) D:=G.carry λa E=>by have op:=put _ _ E;rw [BT d] at op;exact h _ _ op
  obtain ⟨O,_,H,_,L⟩:=J.assoc.snd;have u:(⟨s.base,s.len,s.cap⟩:Sl)=s:=rfl;rw [u];refine H.row rfl (λ_=>rfl) (λ_=>rfl) rfl ⟨by rw [List.length_take];omega,by rw [List.length_take];omega⟩ λV T I=> ?_;have U:=L _ _ I;rw [aH];refine ⟨⟨by omega,by omega,?_⟩,by omega⟩;have M:b.take (i.toNat+1)=b.take i.toNat++ [l]:=by rw [List.take_add_one,d];rfl
  grind
 ·rw [if_neg (λe=>z (by grind))];refine aK ((Has.left (Has.left o)).ld (shf:=ae .i64) x.af rfl ?_);rw [j];refine A _ a ?_;have g:i.toNat=b.length:=by omega
  rw [g,List.take_length] at o;obtain ⟨w,_,f,_,h⟩:=o.fst;exact h _ _ (f.jQ j m)
theorem T4 {q:Addr} {l:ba} (e:c.length=b.length) (o:Has h0 ((uY c room b).star (dj q room l)) k):Has h0 (uY (c++ [q]) room (b++ [l])) k:=by
 unfold uY;rw [List.length_append];show Has h0 ((dg.first (λi=>dj ((c++ [q]).getD i a0) room ((b++ [l]).getD i kZ)) b.length).star (dj ((c++ [q]).getD b.length a0) room ((b++ [l]).getD b.length kZ))) k;have a:(c++ [q]).getD b.length a0=q:=by simp [List.getD,<-e]
 have d:(b++ [l]).getD b.length kZ=l:=by simp [List.getD]
 rw [a,d];refine cast (congrArg (λA=>Has h0 (A.star (dj q room l)) k) (rJ λi f=> ?_)) o;grind
theorem Oe {s:Sl} {v:List bM} {Q:Option Addr->Int->Hp->Prop} (z:1<=room/\room<=64) (X:1<=b.length/\b.length<=9) (T:0<=af/\af<b.length) (r:Rs k bS 4 s v) (a:db (kB k) v b) (hv:∀l∈b,LC room l)
  (E:∀p d,k<=d->Has k (dy p room b af) d->Q (some p) 0 d):zO prog room s af Q k:=by
 unfold zO;have W:=r.1;have Y:=a.len;refine aI (aI (aI ?_));rw [show (decide ((s.len:Int)<1) || decide ((s.len:Int)>9) || decide (room<1) || decide (room>64))=false by simp;omega,if_neg (by decide)];refine aI ?_;rw [show (decide (af<0) || decide (af>=(s.len:Int)))=false by simp;omega,if_neg (by decide)];refine qn (sh:=KZ) ⟨⟨none,0,0⟩,af⟩ rfl λp f U H=> ?_;have zu:Has k (gM p ⟨⟨none,0,0⟩,af⟩ [] room []) f:=H.beside ((Has.jP (Hp.le_refl f)).beside (Has.fact trivial (Hp.le_refl f)));refine ay.intro (λ(i:Int) d=>0<=i/\i<=(b.length:Int)/\∃(sl:Sl) (c:List Addr),c.length=i.toNat/\Has k (gM p ⟨sl,af⟩ c room (b.take i.toNat)) d) (λi _=>(b.length-i).toNat) ⟨by omega,by omega,_,[],rfl,zu⟩ ?_;rintro i d ⟨G,Z,sl,c,hp,o⟩;by_cases A:i<(b.length:Int)
 ·rw [if_pos (gI)];refine Rs.get (sh:=bS) (Rw.mono o.le r) (λ_=>rfl) (by omega) G (by omega) λ(y:bM) F=> ?_;obtain ⟨l,t,D⟩:=a.get F;refine Q1 (N9 z (D.mono o.le) (hv l (List.mem_of_getElem? t)) λq k2 V I=> ?_);rw [if_neg (by decide)];have o:=(o.beside I);refine aK ((Has.left (Has.left o)).ld (shf:=al) sl rfl ?_);obtain ⟨B,_,g,_,j⟩:=o.fst;obtain ⟨C,_,h,m⟩:=g.f2;refine h.push (e:=q) rfl (λ_=>rfl) (λ_=>rfl) rfl ⟨by omega,by omega⟩ λu k3 J=> ?_;have o:=j _ _ (m _ _ J);obtain ⟨B,_,g,_,j⟩:=o.fst;obtain ⟨C,_,h,m⟩:=g.f1;refine aK (h.st (⟨u,af⟩:cL) (show (1:Nat)<=2 by decide) rfl λk4 K=> ?_);have o:=j _ _ (m _ _ K);rw [aH];have w:b.take (i.toNat+1)=b.take i.toNat++ [l]:=by rw [List.take_add_one,t];rfl
  refine ⟨⟨by omega,by omega,u,c++ [q],by simp;omega,?_⟩,by omega⟩;rw [show (i+1).toNat=i.toNat+1 by omega,w];have N:=o.assoc;obtain ⟨R,_,L,_,O⟩:=N.snd;obtain ⟨S,_,M,_,P⟩:=L.assoc.snd;exact O _ _ (P _ _ (T4 (by grind) M))
 ·rw [if_neg (λe=>A (by grind))];have n:i.toNat=b.length:=by omega
  rw [n,List.take_length] at o;rw [n] at hp;exact E p d o.le (o.jQ rfl hp)
end
abbrev eL :aD->List Value:=λx=>aY (eD.enc x)
def ru :aD:=⟨0,⟨none,0,0⟩⟩
def rS (b:List aD) (a:List (List Int)):dg:=dg.first (λi=>dC 1 dZ (b.getD i ru).queue (a.getD i [])) a.length
def cR (p:Addr) (sl:Sl) (a:List aD) (b:List (List Int)):dg:=(dd Cz p ⟨sl⟩).star ((dC 2 eL sl a).star (rS a b))
def ma (p:Addr) (os:List Int) (qs:List (List Int)):dg:=
 .some_ λsl:Sl=>.some_ λa:List aD=>(cR p sl a qs).star (.fact (a.map (·.owner)=os/\a.length=qs.length))
section
variable {h0 k:Hp} {p:Addr} {os:List Int} {qs:List (List Int)} {sl:Sl} {xs:List aD}
theorem Has.lL (o:Has h0 (ma p os qs) k):∃sl xs,xs.map (·.owner)=os/\xs.length=qs.length/\Has h0 (cR p sl xs qs) k:=by obtain ⟨sl,o⟩:=Has.ex.1 o;obtain ⟨xs,o⟩:=Has.ex.1 o;obtain ⟨o,a,b⟩:=o.iC;grind
theorem Has.iu (o:Has h0 (cR p sl xs qs) k) (a:xs.map (·.owner)=os) (b:xs.length=qs.length):Has h0 (ma p os qs) k:=Has.ex.2 ⟨sl,Has.ex.2 ⟨xs,o.eB ⟨a,b⟩⟩⟩
theorem Has.qP {i:Nat} {x:aD} {q:List Int} (o:Has h0 (rS xs qs) k) (f:xs[i]? =some x) (d:qs[i]? =some q):∃h1,h0<=h1/\Has h1 (dC 1 dZ x.queue q) k/\∀c b a,Has h1 (dC 1 dZ c.queue b) a->Has h0 (rS (xs.set i c) (qs.set i b)) a:=by
 have h:i<qs.length:=(List.getElem?_eq_some_iff.1 d).1;have l:i<xs.length:=(List.getElem?_eq_some_iff.1 f).1;obtain ⟨h1,a1,g,_,put⟩:=Has.one h o;rw [ou f,ou d] at g;refine ⟨h1,a1,g,λc b a n=> ?_⟩;have:=put _ _ n;unfold rS;rw [List.length_set];refine cast (congrArg (λA=>Has h0 A a) (rJ λj m=> ?_)) this;by_cases e:j=i
 ·subst e;rw [kM,ou (List.getElem?_set_self l),ou (List.getElem?_set_self m)]
 ·rw [ku e];grind
theorem Has.sI (o:Has h0 (cR p sl xs qs) k) {K:Sl->Prop} (a:K sl):aQ none al k (p.add 0) K:=(Has.left o).ld (shf:=al) sl rfl a
theorem Has.zc (o:Has h0 (cR p sl xs qs) k):Rs k eD 2 sl xs:=o.right.left.ia (λ_=>rfl)
theorem Has.pf {i:Nat} {x:aD} (o:Has h0 (cR p sl xs qs) k) (c:xs[i]? =some x) {K:Int->Prop} (b:K x.owner):bD sl.base sl.len (i:Int)/\aQ none (ae .i64) k ((sat sl.base 2 (i:Int)).add 0) K:=
 Rw.vc (sh:=ae .i64) (o.right.left.ia (λ_=>rfl)) (λ_=>rfl) (by decide) (λx=>x.owner) (j:=0) (λ_=>rfl) (by omega) (by grind) λy a=>by rw [Int.toNat_natCast,c] at a;cases a;exact b
theorem Has.pV {i:Nat} {x:aD} (o:Has h0 (cR p sl xs qs) k) (c:xs[i]? =some x) {K:Sl->Prop} (b:K x.queue):bD sl.base sl.len (i:Int)/\aQ none al k ((sat sl.base 2 (i:Int)).add 1) K:=
 Rw.vc (sh:=al) (o.right.left.ia (λ_=>rfl)) (λ_=>rfl) (by decide) (λx=>x.queue) (j:=1) (λ_=>rfl) (by omega) (by grind) λy a=>by rw [Int.toNat_natCast,c] at a;cases a;exact b
theorem Vp {i:Nat} {x x':aD} (a:xs[i]? =some x) (e:x'.queue=x.queue):rS (xs.set i x') qs=rS xs qs:=by unfold rS;grind
theorem Has.nn {i:Nat} {x:aD} {v:Int} {K:Hp->Prop} (o:Has h0 (cR p sl xs qs) k) (b:xs[i]? =some x) (c:∀a,Has h0 (cR p sl (xs.set i ⟨v,x.queue⟩) qs) a->K a):cq k ((sat sl.base 2 (i:Int)).add 0) [.int .i64 v] K:=by obtain ⟨f,_,e,put⟩:=o.f2;refine e.wb (λ_=>rfl) b (x':=⟨v,x.queue⟩) (show (1:Nat)<=2 by decide) rfl λa d=>c a ?_;have:=put _ _ d;unfold cR;rw [Vp (x':=⟨v,x.queue⟩) b rfl];exact this
theorem Has.qQ {i:Nat} {x:aD} {s:Sl} {q b:List Int} {K:Hp->Prop} {h1:Hp} (g:Has h0 ((dd Cz p ⟨sl⟩).star ((dC 2 eL sl xs).star (rS (xs.set i ⟨x.owner,s⟩) (qs.set i b)))) k) (d:xs[i]? =some x)
  (c:∀a,Has h0 (cR p sl (xs.set i ⟨x.owner,s⟩) (qs.set i b)) a->K a):cq k ((sat sl.base 2 (i:Int)).add 1) [s.v] K:=by
 obtain ⟨h,_,f,put⟩:=g.f2;refine f.wb (λ_=>rfl) d (x':=⟨x.owner,s⟩) (show (2:Nat)<=2 by decide) rfl λa e=>c a (put _ _ e)
theorem HT {n w:Int} {Q:Int->Hp->Prop} (o:Has h0 (ma p os qs) k) (c:0<=n/\n<qs.length) (f:0<=w) (d:Q 0 k):Rj prog (some p) n w Q k:=by obtain ⟨sl,xs,a,b,o⟩:=o.lL;unfold Rj;have e:=o.right.left.gH;refine aK ((Has.left o).vV (shf:=al) sl rfl ?_);refine aI ?_;grind
theorem HU {w:Int} {Q:Int->Bool->Hp->Prop} (o:Has h0 (cR p sl xs qs) k) (l:xs.length=qs.length) (d:qs.length<=1000/\∀q∈qs,q.length<=100) (e:∀q∈qs,w∉q) (r:Q 0 false k):Rf prog (some p) w Q k:=by
 unfold Rf;have s:=o.right.left.gH;refine aK (o.sI ?_);refine ay.intro (λ(i:Int) h=>h=k/\0<=i/\i<=(qs.length:Int)) (λi _=>(qs.length-i).toNat) ⟨rfl,by omega,by omega⟩ ?_;rintro i _ ⟨rfl,g,t⟩;by_cases n:i<(qs.length:Int)
 ·rw [if_pos (gI)];refine o.zc.get (λ_=>rfl) (by omega) g (by omega) λ(y:aD) f=> ?_;have c:i.toNat<qs.length:=by omega
  have a:=List.getElem?_eq_getElem c;generalize qs[i.toNat]=q at a;have b:=List.mem_of_getElem? a;obtain ⟨m,_,j,_⟩:=o.right.right.qP f a;refine Oi (UZ (j.ia (λ_=>rfl)) (by have:=d.2 q b;omega) ?_);dsimp only;rw [if_neg (by simpa using e q b),aH];exact ⟨⟨rfl,by omega,by omega⟩,by omega⟩
 grind
theorem Vq {n:Nat} {w a:Int} {Q:Bool->Int->Hp->Prop} {q:List Int} (o:Has h0 (ma p os qs) k) (h:qs.length<=1000/\∀q∈qs,q.length<=100) (y:∀q∈qs,w∉q) (B:0<=w) (z:os[n]? =some a) (f:qs[n]? =some q)
  (h1:(a= -1\/a=w)->∀b,Has h0 (ma p (os.set n w) qs) b->Q true 0 b) (r:¬(a= -1\/a=w)->∀b,Has h0 (ma p os (qs.set n (q++ [w]))) b->Q false 0 b):Rr prog (some p) (n:Int) w Q k:=by
 unfold Rr;have O:n<qs.length:=(List.getElem?_eq_some_iff.1 f).1;refine Xu (HT o ⟨by omega,by omega⟩ B ?_);rw [if_neg (by decide)];obtain ⟨sl,xs,l,m,o⟩:=o.lL;refine Xs (HU o m h y ?_);rw [if_neg (by decide)];obtain ⟨x,d,C⟩:∃x,xs[n]? =some x/\x.owner=a:=by grind
 have t:=(o.pf d (K:=λ_=>True) trivial).1;refine aK (o.sI ⟨t,?_⟩);refine ⟨λ_ b=>∃v,((a= -1/\v=w)\/(a≠ -1/\v=a))/\Has h0 (cR p sl (xs.set n ⟨v,x.queue⟩) qs) b,?_,?_⟩
 ·refine aK (o.pf d ?_).2;rw [C];by_cases e:a= -1
  ·rw [if_pos (by simp [e])];refine aK (o.nn d λb S=> ?_);grind
  ·rw [if_neg (by simp [e])];refine ⟨a,.inr ⟨e,rfl⟩,?_⟩;have:(⟨a,x.queue⟩:aD)=x:=by cases x;grind
   rw [this,BT d];exact o
 ·rintro _ E ⟨v,hv,o⟩;have c:(xs.set n ⟨v,x.queue⟩)[n]? =some ⟨v,x.queue⟩:=List.getElem?_set_self (List.getElem?_eq_some_iff.1 d).1;have u:(xs.set n ⟨v,x.queue⟩).length=qs.length:=by grind
  have i:(xs.set n ⟨v,x.queue⟩).map (·.owner)=os.set n v:=by rw [List.map_set,l]
  refine aK (o.pf c ?_).2;dsimp only;by_cases e:v=w
  ·rw [if_neg (show ¬(v !=w)=true by simp [e])];refine aK (o.pf c ?_).2;rw [show (v==w)=true by simp [e]];refine h1 (by omega) E (o.iu ?_ u);rw [i,e]
  ·rw [if_pos (show (v !=w)=true by simp [e])];refine aK (o.pV c ?_).2;obtain ⟨s,_,G,L⟩:=o.f3;obtain ⟨N,_,H,M⟩:=G.qP c f;have P:=h.2 q (List.mem_of_getElem? f);refine H.push (e:=w) rfl (λ_=>rfl) (λ_=>rfl) rfl ⟨by omega,by omega⟩ λg R I=> ?_;have J:=L _ _ (M ⟨v,g⟩ _ _ I);refine aK (Has.qQ (x:=⟨v,x.queue⟩) (q:=q) (h1:=s) J c λF j=> ?_);have D:((xs.set n ⟨v,x.queue⟩).set n ⟨v,g⟩)[n]? =some ⟨v,g⟩:=List.getElem?_set_self (List.getElem?_eq_some_iff.1 c).1;refine aK (j.pf D ?_).2;rw [show (v==w)=false by simp [e]];refine r (by omega) F (j.iu ?_ (by grind));rw [List.map_set,i];have A:v=a:=by omega
   subst A;rw [List.set_set,BT z]
end
def hold (w:Int):List Int->Nat->List Int
 | [],_=> []
 | o::r,i=>if o=w then (i:Int)::hold w r (i+1) else hold w r (i+1)
theorem CV {w:Int}:∀ {os:List Int} {i:Nat} {n:Int},n∈hold w os i->∃j:Nat,n=((i+j:Nat):Int)/\os[j]? =some w
 | [],_,_,h=>by cases h
 | o::r,i,n,h=>by
  unfold hold at h;split at h
  ·rename_i e;rcases List.mem_cons.1 h with h | h
   ·grind
   ·obtain ⟨j,b,a⟩:=CV h;exact ⟨j+1,by omega,by simpa using a⟩
  ·obtain ⟨j,b,a⟩:=CV h;exact ⟨j+1,by omega,by simpa using a⟩
theorem Ad {w:Int}:∀ {os:List Int} {i:Nat},(hold w os i).Nodup
 | [],_=>.nil
 | o::r,i=>by
  unfold hold;split
  ·refine List.nodup_cons.2 ⟨λh=> ?_,Ad⟩;obtain ⟨j,a,_⟩:=CV h;omega
  ·exact Ad
theorem Bf {w:Int}:∀ {os:List Int} {i:Nat},(hold w os i).length<=os.length
 | [],_=>by simp [hold]
 | o::r,i=>by unfold hold;have:=Bf (w:=w) (os:=r) (i:=i+1);grind
theorem HV {w:Int}:∀ {os:List Int} {i t:Nat} {o:Int},os[t]? =some o->hold w (os.take (t+1)) i=hold w (os.take t) i++(if o=w then [((i+t:Nat):Int)] else [])
 | [],_,_,_,h=>by cases h
 | a::r,i,0,o,h=>by
  have h:a=o:=by simpa using h
  subst h;simp [hold]
 | a::r,i,t+1,o,h=>by have b:=HV (w:=w) (i:=i+1) (t:=t) (o:=o) (os:=r) (by simpa using h);rw [List.take_succ_cons,List.take_succ_cons];unfold hold;grind
def kz (z:List Int×List (List Int)×List Int) (n:Int):List Int×List (List Int)×List Int:=
 match z.2.1.getD n.toNat [] with
 | []=>(z.1.set n.toNat (-1),z.2.1,z.2.2++ [-1])
 | a::r=>(z.1.set n.toNat a,z.2.1.set n.toNat r,z.2.2++ [a])
theorem HW {w:Int}:∀ {os:List Int} {qs:List (List Int)} {po:List Int} {pq:List (List Int)} {G:List Int},os.length=qs.length->po.length=pq.length->
  (hold w os po.length).foldl kz (po++os,pq++qs,G)=(po++(iW w os qs).1,pq++(iW w os qs).2.1,G++(iW w os qs).2.2)
 | [],[],po,pq,G,_,_=>by simp [hold,iW]
 | o::os,q::qs,po,pq,G,f,hp=>by
  have f:os.length=qs.length:=by simpa using f
  have step:∀(c:Int) (d:List Int) (b:List Int),(hold w os (po.length+1)).foldl kz (po++c::os,pq++d::qs,b)=(po++c::(iW w os qs).1,pq++d::(iW w os qs).2.1,b++(iW w os qs).2.2):=λc d b=>by have:=HW (w:=w) (po:=po++ [c]) (pq:=pq++ [d]) (G:=b) f (by simp [hp]);simpa using this
  by_cases e:o=w
  ·unfold hold iW;rw [if_pos e,if_pos e,List.foldl_cons];have i:(pq++q::qs).getD po.length []=q:=by rw [hp];simp [List.getD]
   have g:∀v:Int,(po++o::os).set po.length v=po++v::os:=λv=>by rw [List.set_append_right _ _ (Nat.le_refl _)];simp
   have j:∀v:List Int,(pq++q::qs).set po.length v=pq++v::qs:=λv=>by rw [hp,List.set_append_right _ _ (Nat.le_refl _)];simp
   have k:kz (po++o::os,pq++q::qs,G) (po.length:Int)=(match q with
     | []=>(po++ -1::os,pq++ []::qs,G++ [-1])
     | a::r=>(po++a::os,pq++r::qs,G++ [a])):=by
    unfold kz;dsimp only;rw [Int.toNat_natCast,i];cases q with
    | nil=>dsimp only;rw [g]
    | cons a r=>dsimp only;rw [g,j]
   grind
  ·unfold hold iW;grind
 | [],_::_,_,_,_,h,_=>by cases h
 | _::_,[],_,_,_,h,_=>by cases h
theorem T5 (z:List Int×List (List Int)×List Int) (n:Int):(kz z n).1.length=z.1.length/\(kz z n).2.1.length=z.2.1.length:=by unfold kz;split<;>simp
theorem I7 :∀(l:List Int) (z:List Int×List (List Int)×List Int),(l.foldl kz z).1.length=z.1.length/\(l.foldl kz z).2.1.length=z.2.1.length
 | [],_=>⟨rfl,rfl⟩
 | n::l,z=>by have a:=I7 l (kz z n);have b:=T5 z n;grind
theorem JY :∀(l:List Int) (z:List Int×List (List Int)×List Int) (j:Nat),(∀n∈l,n.toNat≠j)->(l.foldl kz z).1[j]? =z.1[j]?/\(l.foldl kz z).2.1[j]? =z.2.1[j]?
 | [],_,_,_=>⟨rfl,rfl⟩
 | n::l,z,j,h=>by
  have c:=JY l (kz z n) j λm b=>h m (List.mem_cons_of_mem _ b);have a:=h n (List.mem_cons_self ..);have d:(kz z n).1[j]? =z.1[j]?/\(kz z n).2.1[j]? =z.2.1[j]?:=by
   unfold kz;split
   ·exact ⟨List.getElem?_set_ne a,rfl⟩
   ·exact ⟨List.getElem?_set_ne a,List.getElem?_set_ne a⟩
  grind
section
variable {h0 k:Hp} {p:Addr} {os:List Int} {qs:List (List Int)} {sl:Sl} {xs:List aD}
theorem PJ {n:Nat} {w:Int} (a:xs.map (·.owner)=os) (b:os[n]? =some w):∃x,xs[n]? =some x/\x.owner=w:=by grind
theorem I9 {n:Nat} {w:Int} {q:List Int} {Q:Int->Int->Hp->Prop} (o:Has h0 (ma p os qs) k) (E:0<=w) (D:os[n]? =some w) (j:qs[n]? =some q)
  (h1:q=[]->∀g,Has h0 (ma p (os.set n (-1)) qs) g->Q (-1) 0 g) (A:∀a r,q=a::r->∀g,Has h0 (ma p (os.set n a) (qs.set n r)) g->Q a 0 g):Rt prog (some p) (n:Int) w Q k:=by
 unfold Rt;have V:n<qs.length:=(List.getElem?_eq_some_iff.1 j).1;refine Xu (HT o ⟨by omega,by omega⟩ E ?_);rw [if_neg (by decide)];obtain ⟨sl,xs,h,R,o⟩:=o.lL;obtain ⟨x,b,G⟩:=PJ h D;have C:=(o.pf b (K:=λ_=>True) trivial).1;have l:=(List.getElem?_eq_some_iff.1 b).1;refine aK (o.sI ⟨C,?_⟩);refine aK (o.pf b ?_).2;rw [if_neg (show ¬(x.owner !=w)=true by simp [G])];refine aK (o.pV b ?_).2;obtain ⟨S,_,I,W⟩:=o.f3;obtain ⟨T,_,u,X⟩:=I.qP b j;have f:=u.gH;cases q with
 | nil=>have f:x.queue.len=0:=f;rw [if_pos (by simp [f])];refine aK (o.nn (v:= -1) b λs e=> ?_);have d:(xs.set n (⟨-1,x.queue⟩:aD))[n]? =some ⟨-1,x.queue⟩:=List.getElem?_set_self l;refine aK (e.pf d ?_).2;exact h1 rfl s (e.iu (by rw [List.map_set,h]) (by grind))
 | cons a r=>
  have f:x.queue.len=r.length+1:=by simpa using f
  rw [if_neg (by simp;omega)];refine aK (o.pV b ?_).2;have P:Rs k (ae .i64) 1 x.queue (a::r):=u.ia (λ_=>rfl);refine P.get (λ_=>rfl) (by omega) (by omega) (by simp) λ(y:Int) m=> ?_;have m:y=a:=by grind
  subst m;refine aK (o.nn (v:=y) b λs e=> ?_);have d:(xs.set n (⟨y,x.queue⟩:aD))[n]? =some ⟨y,x.queue⟩:=List.getElem?_set_self l;refine aK (e.pV d ?_).2;refine aK (e.pV d ?_).2;refine aK (e.pV d ?_).2;obtain ⟨B,_,J,N⟩:=e.f3;obtain ⟨U,_,z,O⟩:=J.qP d j;have i:=z.sf;have i:x.queue.len<=x.queue.cap:=i;refine ⟨by dsimp only;omega,aI ?_⟩;dsimp only;rw [Int.toNat_natCast];have L:=z.mC (λ_=>rfl) (c:=x.queue.len) (Nat.le_refl _) i;have M:=N _ _ (O ⟨y,⟨aS x.queue.base 1 1 x.queue.len,x.queue.len-1,x.queue.len-1⟩⟩ _ _ L);refine aK (Has.qQ (x:=⟨y,x.queue⟩) (q:=y::r) (h1:=B) M d λH t=> ?_);have F:((xs.set n (⟨y,x.queue⟩:aD)).set n ⟨y,⟨aS x.queue.base 1 1 x.queue.len,x.queue.len-1,x.queue.len-1⟩⟩)[n]? =some ⟨y,⟨aS x.queue.base 1 1 x.queue.len,x.queue.len-1,x.queue.len-1⟩⟩:=List.getElem?_set_self (by grind);refine aK (t.pf F ?_).2;exact A y r rfl H (t.iu (by rw [List.map_set,List.map_set,h,List.set_set]) (by grind))
theorem HX {w:Int} {Q:Sl->Hp->Prop} (o:Has h0 (ma p os qs) k) (v:qs.length<=1000) (A:0<=w) (t:∀s a,Has h0 ((ma p os qs).star (dC 1 dZ s (hold w os 0))) a->Q s a):Rg prog (some p) w Q k:=by
 unfold Rg;obtain ⟨sl,xs,j,l,o⟩:=o.lL;have z:=o.right.left.gH;have x:os.length=qs.length:=by grind
 refine aK (o.sI ?_);have nil:Has k (dC 1 dZ (⟨none,0,0⟩:Sl) ([]:List Int)) k:=Has.jP (Hp.le_refl _);refine bQ.intro (λ(s:Sl) (i:Int) a=>0<=i/\i<=(qs.length:Int)/\Has h0 ((cR p sl xs qs).star (dC 1 dZ s (hold w (os.take i.toNat) 0))) a) (λ_ i _=>(qs.length-i).toNat) ⟨by omega,by omega,by simpa [hold] using o.beside nil⟩ ?_;rintro s i a ⟨u,C,o⟩;by_cases g:i<(qs.length:Int)
 ·rw [if_pos (gI)];refine ⟨λf c=>i<(qs.length:Int)/\Has h0 ((cR p sl xs qs).star (dC 1 dZ f (hold w (os.take (i.toNat+1)) 0))) c,?_,?_⟩
  ·refine (Has.left o).zc.get (λ_=>rfl) (by omega) u (by omega) λ(y:aD) B=>aI ?_;have r:os[i.toNat]? =some y.owner:=by grind
   have b:=HV (w:=w) (i:=0) r;rw [show (w !=(-1:Int))=true by simp;omega,Bool.and_true];by_cases e:y.owner=w
   ·rw [if_pos (by simp [e])];rw [if_pos e] at b;obtain ⟨n,_,d,_,h⟩:=o.snd;have q:=Bf (w:=w) (os:=os.take i.toNat) (i:=0);rw [List.length_take] at q;refine d.push (e:=i) rfl (λ_=>rfl) (λ_=>rfl) rfl ⟨by omega,by omega⟩ λf c D=> ?_;grind
   ·rw [if_neg (by simp [e])];rw [if_neg e,List.append_nil] at b;exact ⟨g,by rw [b];exact o⟩
  ·rintro f c ⟨_,o⟩;rw [aH];grind
 ·rw [if_neg (λe=>g (by grind))];refine t _ a ?_;have m:i.toNat=os.length:=by omega
  rw [m,List.take_length] at o;obtain ⟨n,_,d,_,h⟩:=o.fst;exact h _ _ (d.iu j l)
end
abbrev eG :bU->List Value:=λg=> [.int .i64 g.vF,.int .i64 g.cX]
abbrev vI (l:Sl) (a:List (List Int)):dg:=iX (bz.ok (sh:=al) (sz:=1) kI) l a
section
variable {h0 k:Hp} {p:Addr} {os:List Int} {qs:List (List Int)} {sl:Sl} {xs:List aD}
def eh (w:Int) (q:List Int):List Int:=gU (λz=>decide (z=w)) q
theorem MF {w:Int} {Q:Sl->Hp->Prop} (o:Has h0 (ma p os qs) k) (hl:qs.length<=1000/\∀q∈qs,q.length<=100) (d6:os.length=qs.length) (hw:0<=w)
  (hq:∀s b gs,gs.map bU.cX=(iW w os (qs.map (eh w))).2.2->Has h0 ((ma p (iW w os (qs.map (eh w))).1 (iW w os (qs.map (eh w))).2.1).star (dC 2 eG s gs)) b->Q s b):RN prog (some p) w Q k:=by
 unfold RN;obtain ⟨sl,xs,d,u,o⟩:=o.lL;have hs:=o.right.left.gH;refine aK (o.sI ?_);refine ay.intro (λ(i:Int) b=>0<=i/\i<=(qs.length:Int)/\∃xs,xs.map (·.owner)=os/\xs.length=qs.length/\Has h0 (cR p sl xs ((qs.take i.toNat).map (eh w)++qs.drop i.toNat)) b) (λi _=>(qs.length-i).toNat) ⟨by omega,by omega,xs,d,u,by simpa using o⟩ ?_;rintro i b ⟨i0,i1,xs,d,u,o⟩;by_cases O:i<(qs.length:Int)
 ·rw [if_pos (gI)];have hi:i.toNat<qs.length:=by omega
  have F:=List.getElem?_eq_getElem hi;generalize qs[i.toNat]=q at F;have Y:=Be (f:=eh w) F;have b5:i.toNat<xs.length:=by omega
  have H:=List.getElem?_eq_getElem b5;generalize xs[i.toNat]=x at H;have D:((i.toNat:Nat):Int)=i:=by omega
  have d7:=hl.2 q (List.mem_of_getElem? F);refine ⟨λ_ c=>i<(qs.length:Int)/\∃xs,xs.map (·.owner)=os/\xs.length=qs.length/\Has h0 (cR p sl xs ((qs.take (i.toNat+1)).map (eh w)++qs.drop (i.toNat+1))) c,?_,?_⟩
  ·refine aK (o.sI ?_);have X:=o.pV H (K:=λy=>y=x.queue) rfl;rw [D] at X;obtain ⟨N,y,hy,rfl⟩:=X;refine ⟨N,_,hy,?_⟩;obtain ⟨P,_,o4,c9⟩:=o.f3;obtain ⟨E,_,C,J⟩:=o4.qP H Y;refine Xd (HN (C.ia (λ_=>rfl)) (by omega) ?_);have U:=UX (λz:Int=>decide (z=w)) q;by_cases hp:nK w q>=0
   ·rw [if_pos (decide_eq_true hp)];have b7:nK w q<q.length:=JU hp;refine aK (o.sI ?_);refine aK (o.sI ?_);refine ⟨N,_,hy,?_⟩;obtain ⟨n,B⟩:∃n:Nat,nK w q=n:=⟨(nK w q).toNat,by omega⟩;have I:prog.underlying 23=some (.slice 3):=bK.bE 23 qT rfl;have b3:∀(M:Sl->Hp->Prop),(∀g b,Has E (dC 1 dZ g (q.take n++q.drop (n+1))) b->M g b)->P2 prog x.queue (n:Int) ((n+1:Nat):Int) M b:=λM b0=>by
     unfold P2;exact Has.DF (bytes:=8) (z:=.int .i64 0) I (λhK=>Lx bK (e:=wh) rfl hK) (λ_=>rfl) (λ_=>rfl) rfl (λm=>by induction m with
      | zero=>rfl
      | succ m ih=>exact ih) C (by omega) (by omega) ⟨by omega,by omega⟩ b0
    rw [B,aH];refine Y5 (b3 _ λg c R=> ?_);have l:=c9 _ _ (J ⟨x.owner,g⟩ _ _ R);refine ⟨⟨l.left.dQ (n:=1) rfl,trivial⟩,N,?_⟩;have c6:q.take n++q.drop (n+1)=eh w q:=by have b8:ic (λz:Int=>decide (z=w)) q=n:=B;show _=gU (λz=>decide (z=w)) q;rw [U,b8,if_pos (by omega),Int.toNat_natCast]
    rw [c6,wE F] at l;have key:cq c ((sat sl.base 2 ((i.toNat:Nat):Int)).add 1) [g.v] λk4=>i<(qs.length:Int)/\∃xs,xs.map (·.owner)=os/\xs.length=qs.length/\Has h0 (cR p sl xs ((qs.take (i.toNat+1)).map (eh w)++qs.drop (i.toNat+1))) k4:=by obtain ⟨h8,_,S,a8⟩:=l.f2;refine S.wb (λ_=>rfl) H (x':=⟨x.owner,g⟩) (show (2:Nat)<=2 by decide) rfl λk4 o9=> ?_;refine ⟨O,xs.set i.toNat ⟨x.owner,g⟩,?_,by rw [List.length_set];exact u,a8 _ _ o9⟩;rw [List.map_set,d];refine BT ?_;rw [<-d,List.getElem?_map,H];rfl
    grind
   ·rw [if_neg (λh=>hp (of_decide_eq_true h))];refine ⟨O,xs,d,u,?_⟩;have c5:eh w q=q:=by show gU (λz=>decide (z=w)) q=q;rw [U,if_neg (show ¬0<=ic (λz:Int=>decide (z=w)) q from hp)]
    have:=wE (f:=eh w) F;rw [c5,BT Y] at this;grind
  ·rintro _ c ⟨_,xs,d,u,o⟩;rw [aH];refine ⟨⟨by omega,by omega,xs,d,u,?_⟩,by omega⟩;rw [show (i+1).toNat=i.toNat+1 by omega];exact o
 ·rw [if_neg (λe=>O (by grind))];have D:i.toNat=qs.length:=by omega
  rw [D,List.take_length,List.drop_length,List.append_nil] at o;have o:Has h0 (ma p os (qs.map (eh w))) b:=o.iu d (by grind);refine Xt (HX o (by grind) hw λs k1 o=> ?_);have d5:=o.right.gH;have d2:=Bf (w:=w) (os:=os) (i:=0);have rs:∀c,Has h0 ((ma p os (qs.map (eh w))).star (dC 1 dZ s (hold w os 0))) c->Rw c 1 dZ s (hold w os 0):=λc o=>o.right.ia (λ_=>rfl);have nil:Has k1 (dC 2 eG (⟨none,0,0⟩:Sl) ([]:List bU)) k1:=Has.jP (Hp.le_refl _);have V:=HW (w:=w) (os:=os) (qs:=qs.map (eh w)) (po:=[]) (pq:=[]) (G:=[]) (by grind) rfl;simp only [List.nil_append,List.length_nil] at V;refine bQ.intro (λ(t:Sl) (i:Int) b=>0<=i/\i<=((hold w os 0).length:Int)/\∃gs:List bU,gs.map bU.cX=(((hold w os 0).take i.toNat).foldl kz (os,qs.map (eh w),[])).2.2/\gs.length=i.toNat/\
   Has h0 (((ma p (((hold w os 0).take i.toNat).foldl kz (os,qs.map (eh w),[])).1 (((hold w os 0).take i.toNat).foldl kz (os,qs.map (eh w),[])).2.1).star (dC 1 dZ s (hold w os 0))).star (dC 2 eG t gs)) b) (λ_ i _=>((hold w os 0).length-i).toNat)
   ⟨by omega,by omega,[],by simp,rfl,by simpa using o.beside nil⟩ ?_
  rintro t i b ⟨i0,i1,gs,L,b4,o⟩;by_cases P:i<((hold w os 0).length:Int)
  ·rw [if_pos (gI)];have hr:Rs b (ae .i64) 1 s (hold w os 0):=o.left.right.ia (λ_=>rfl);refine hr.get (λ_=>rfl) (by omega) i0 P λ(n:Int) B=> ?_;obtain ⟨j,hj,c4⟩:=CV (List.mem_of_getElem? B);have b6:n=(j:Int):=by omega
   subst b6;generalize I:((hold w os 0).take i.toNat).foldl kz (os,qs.map (eh w),[])=z at o L;have c3:∀m∈(hold w os 0).take i.toNat,m.toNat≠j:=λm hm e=>by
    obtain ⟨a,A⟩:=List.getElem?_of_mem hm;rw [List.getElem?_take] at A;split at A
    ·rename_i b7;obtain ⟨j2,d3,_⟩:=CV (List.mem_of_getElem? A);have em:m=(j:Int):=by omega
     rw [em] at A;have b9:=Ad (w:=w) (os:=os) (i:=0);obtain ⟨b1,b2⟩:=List.getElem?_eq_some_iff.1 A;obtain ⟨c1,c2⟩:=List.getElem?_eq_some_iff.1 B;exact List.pairwise_iff_getElem.1 b9 a i.toNat b1 c1 (by omega) (b2.trans c2.symm)
    ·cases A
   have T:=JY ((hold w os 0).take i.toNat) (os,qs.map (eh w),[]) j c3;rw [I] at T;have c7:=I7 ((hold w os 0).take i.toNat) (os,qs.map (eh w),[]);rw [I] at c7;have d4:j<qs.length:=by grind
   obtain ⟨q,Z⟩:∃q,z.2.1[j]? =some q:=⟨_,List.getElem?_eq_getElem (by grind)⟩;have c8:z.1[j]? =some w:=T.1.trans c4;obtain ⟨E,_,C,_,J⟩:=o.fst;obtain ⟨h6,_,R,_,d0⟩:=C.fst;have c0:((hold w os 0).take (i.toNat+1)).foldl kz (os,qs.map (eh w),[])=kz z (j:Int):=by rw [List.take_add_one,B,List.foldl_append,I];rfl
   have W:z.2.1.getD j []=q:=ou Z;have d1:∀(v:Int) c,(kz z (j:Int)).2.2=z.2.2++ [v]->Has h6 (ma p (kz z (j:Int)).1 (kz z (j:Int)).2.1) c->
     bq [.int .i64 (j:Int),.int .i64 v] (λa E=>fP 2 16 [(.int .i64 (0:Int)),(.int .i64 (0:Int))] ⟨t.base,t.len,t.cap⟩ ⟨(some a),1,1⟩ (λr3 a9=>
      (λ(t:Sl) (i:Int) b=>0<=i/\i<=((hold w os 0).length:Int)/\∃gs:List bU,gs.map bU.cX=(((hold w os 0).take i.toNat).foldl kz (os,qs.map (eh w),[])).2.2/\gs.length=i.toNat/\
       Has h0 (((ma p (((hold w os 0).take i.toNat).foldl kz (os,qs.map (eh w),[])).1 (((hold w os 0).take i.toNat).foldl kz (os,qs.map (eh w),[])).2.1).star (dC 1 dZ s (hold w os 0))).star (dC 2 eG t gs)) b) r3 (yw (i+1)) a9/\((hold w os 0).length-yw (i+1)).toNat<((hold w os 0).length-i).toNat) E) c:=by
    intro v c hv l;have oo:=J _ _ (d0 _ _ l);obtain ⟨h8,_,S,_,a8⟩:=oo.snd;refine S.push (e:=⟨(j:Int),v⟩) rfl (λ_=>rfl) (λ_=>rfl) rfl ⟨by omega,by omega⟩ λs2 k3 o9=> ?_;rw [aH];refine ⟨⟨by omega,by omega,gs++ [⟨(j:Int),v⟩],?_,?_,?_⟩,by omega⟩
    ·rw [show (i+1).toNat=i.toNat+1 by omega,c0,hv,List.map_append,L];rfl
    ·rw [List.length_append,b4];simp;omega
    grind
   refine Xx (I9 R hw c8 Z (λeq c l=> ?_) λa r eq c l=> ?_)
   ·have hg:kz z (j:Int)=(z.1.set j (-1),z.2.1,z.2.2++ [-1]):=by unfold kz;rw [Int.toNat_natCast,W,eq]
    grind
   ·have hg:kz z (j:Int)=(z.1.set j a,z.2.1.set j r,z.2.2++ [a]):=by unfold kz;rw [Int.toNat_natCast,W,eq]
    grind
  ·rw [if_neg (λe=>P (by grind))];have D:i.toNat=(hold w os 0).length:=by omega
   rw [D,List.take_length,V] at o L;refine hq _ b gs L ?_;obtain ⟨E,_,C,_,J⟩:=o.fst;exact J _ _ C.left
end
section
variable {h0 k:Hp} {p:Addr} {os:List Int} {qs:List (List Int)} {sl:Sl} {xs:List aD}
theorem Has.L6 {c:Type} {sh:Shape} {sz:Nat} {S:sh.T->c->Prop} {l:Sl} {b:List c} {v:sh.T} {q:c} {d zero:List Value} {bytes:Nat} {K:Sl->Hp->Prop} (o:Has h0 (iX (bz.ok (sh:=sh) (sz:=sz) (fa.ok S)) l b) k) (g:S v q)
  (i:d=aY (sh.enc v)) (j:∀x,(aY (sh.enc x)).length=sz) (n:∀x,iF (aY (sh.enc x))=true) (r:zero.length=sz) (hb:b.length+1<=140737488355328/\(b.length+1)*bytes<=140737488355328)
  (m:∀f e,Has h0 (iX (bz.ok (sh:=sh) (sz:=sz) (fa.ok S)) f (b++ [q])) e->K f e):bq d (λa s=>fP sz bytes zero l ⟨some a,1,1⟩ K s) k:=
 Has.row (okQ:=fa.ok S) (o.beside (Has.qO (Hp.le_refl k) ⟨rfl,g⟩ .nil λ_ h=>by cases h)) i j n r hb m
theorem T7 {Q:Sl->Sl->Hp->Prop} (o:Has h0 (ma p os qs) k) (t:qs.length<=1000/\∀q∈qs,q.length<=100) (u:os.length=qs.length)
  (z:∀s a b,Has h0 ((ma p os qs).star ((rV s os).star (vI a qs))) b->Q s a b):Rd prog (some p) Q k:=by
 unfold Rd;obtain ⟨sl,xs,j,l,o⟩:=o.lL;have hs:=o.right.left.gH;refine aK (o.sI ?_);have F:Has k (rV (⟨none,0,0⟩:Sl) ([]:List Int)) k:=Has.na (okQ:=fa.ok Eq) (Hp.le_refl _);have G:Has k (vI (⟨none,0,0⟩:Sl) ([]:List (List Int))) k:=Has.na (okQ:=kI) (Hp.le_refl _);refine jH.intro (λ(s a:Sl) (i:Int) b=>0<=i/\i<=(qs.length:Int)/\Has h0 ((cR p sl xs qs).star ((rV s (os.take i.toNat)).star (vI a (qs.take i.toNat)))) b) (λ_ _ i _=>(qs.length-i).toNat)
  ⟨by omega,by omega,by simpa using o.beside (F.beside G)⟩ ?_
 rintro s a i b ⟨B,i1,o⟩;by_cases n:i<(qs.length:Int)
 ·rw [if_pos (gI)];refine (Has.left o).zc.get (λ_=>rfl) (by omega) B (by omega) λ(y:aD) A=> ?_;have r:i.toNat<qs.length:=by omega
  have c:=List.getElem?_eq_getElem r;generalize qs[i.toNat]=q at c;have a9:=t.2 q (List.mem_of_getElem? c);have w:os[i.toNat]? =some y.owner:=by grind
  have g:(⟨s.base,s.len,s.cap⟩:Sl)=s:=rfl;have h:(⟨a.base,a.len,a.cap⟩:Sl)=a:=rfl;rw [g,h];obtain ⟨Y,_,J,T⟩:=o.f2;refine J.L6 (S:=Eq) (v:=y.owner) (q:=y.owner) rfl rfl (λ_=>rfl) (λ_=>rfl) rfl ⟨by rw [List.length_take];omega,by rw [List.length_take];omega⟩ λs1 C K=> ?_;have o:=T _ _ K;refine Ku ?_;unfold Cu;obtain ⟨Z,_,L,_⟩:=(Has.left o).right.right.qP A c;refine vr (bK.bE 23 qT rfl) (L.ia (λ_=>rfl)) (by decide) (λ_=>rfl) (λ_=>rfl) rfl ⟨by omega,by omega⟩ λW D a8 E=> ?_;have d:Has C (rV W q) D:=E.iR (f:=λx=>x) (λ_=>rfl) λ_=>rfl;have P:=(o.beside d).assoc;obtain ⟨h7,_,M,_,U⟩:=P.snd;obtain ⟨h8,_,N,_,V⟩:=M.assoc.snd;refine Has.row (sh:=al) (okQ:=kI) N rfl (λ_=>rfl) (λ_=>rfl) rfl ⟨by rw [List.length_take];omega,by rw [List.length_take];omega⟩ λs2 k3 O=> ?_;have H:=U _ _ (V _ _ O);rw [aH];refine ⟨⟨by omega,by omega,?_⟩,by omega⟩;have t1:os.take (i.toNat+1)=os.take i.toNat++ [y.owner]:=by rw [List.take_add_one,w];rfl
  have t2:qs.take (i.toNat+1)=qs.take i.toNat++ [q]:=by rw [List.take_add_one,c];rfl
  rw [show (i+1).toNat=i.toNat+1 by omega,t1,t2];exact H
 ·rw [if_neg (λe=>n (by grind))];refine z _ _ b ?_;have m:i.toNat=qs.length:=by omega
  rw [m,List.take_length,<-u,List.take_length] at o;obtain ⟨X,_,I,_,R⟩:=o.fst;exact R _ _ (I.iu j l)
structure FP (os:List Int) (qs:List (List Int)):Prop where
 len:os.length=qs.length/\os.length<=8
 own:∀o∈os, -1<=o
 jh:∀(i:Nat) o q,os[i]? =some o->qs[i]? =some q->q.length<=100/\(o= -1->q=[])/\(∀z∈q,0<=z/\z≠o)/\q.Nodup
 once:∀(i j:Nat) q q',qs[i]? =some q->qs[j]? =some q'->i<j->∀z∈q',z∉q
theorem Og {x:aD} {q:List Int} (c:xs.length=qs.length) (o:Has h0 ((rS xs qs).star (dC 1 dZ x.queue q)) k):Has h0 (rS (xs++ [x]) (qs++ [q])) k:=by
 unfold rS;rw [List.length_append];show Has h0 ((dg.first (λi=>dC 1 dZ ((xs++ [x]).getD i ru).queue ((qs++ [q]).getD i [])) qs.length).star (dC 1 dZ ((xs++ [x]).getD qs.length ru).queue ((qs++ [q]).getD qs.length []))) k;have a:(xs++ [x]).getD qs.length ru=x:=by simp [List.getD,<-c]
 have b:(qs++ [q]).getD qs.length []=q:=by simp [List.getD]
 rw [a,b];refine cast (congrArg (λA=>Has h0 (A.star (dC 1 dZ x.queue q)) k) (rJ λi d=> ?_)) o;grind
theorem cR.rZ {b:Sl} {K:Hp->Prop} (o:Has h0 ((dd Cz p ⟨sl⟩).star ((dC 2 eL b xs).star (rS xs qs))) k) (c:∀a,Has h0 (cR p b xs qs) a->K a):cq k (p.add 0) [b.v] K:=by obtain ⟨f,_,e,put⟩:=o.f1;exact e.st (⟨b⟩:fg) (show (1:Nat)<=1 by decide) rfl λa d=>c a (put _ _ d)
theorem MG {N sq:Sl} {B:List Sl} {Q:Option Addr->Int->Hp->Prop} (v:FP os qs) (Y:Is k N os) (M:Rs k al 1 sq B) (a:db (Is k) B qs) (hq:∀p c,k<=c->Has k (ma p os qs) c->Q (some p) 0 c):VQ prog N sq Q k:=by
 unfold VQ;have d3:=Y.1;have d4:=M.1;have d6:=a.len;have a9:=v.len;refine aI ?_;rw [show (decide ((N.len:Int)>8) || decide ((sq.len:Int)>8))=false by simp;omega,if_neg (by decide),if_neg (by simp;omega)];refine qn (sh:=Cz) ⟨⟨none,0,0⟩⟩ rfl λp I d2 o1=> ?_;have zu:Has k (cR p ⟨none,0,0⟩ [] []) I:=o1.beside ((Has.jP (Hp.le_refl I)).beside (Has.fact trivial (Hp.le_refl I)));refine ay.intro (λ(i:Int) c=>0<=i/\i<=(os.length:Int)/\∃(sl:Sl) (xs:List aD),xs.map (·.owner)=os.take i.toNat/\Has k (cR p sl xs (qs.take i.toNat)) c) (λi _=>(os.length-i).toNat) ⟨by omega,by omega,_,[],by simp,by simpa using zu⟩ ?_;rintro i c ⟨H,i1,sl,xs,l,o⟩;by_cases P:i<(os.length:Int)
 ·rw [if_pos (gI)];have F:xs.length=i.toNat:=by have:=congrArg List.length l;grind
  refine Rs.get (sh:=ae .i64) (Rw.mono o.le Y) (λ_=>rfl) (by omega) H P λ(w:Int) D=> ?_;have d5:=v.own w (List.mem_of_getElem? D);have c8:Rs c al 1 sq B:=Rw.mono o.le M;have hi:i.toNat<qs.length:=by omega
  have f:=List.getElem?_eq_getElem hi;generalize qs[i.toNat]=q at f;obtain ⟨y,T,G⟩:=a.get' f;obtain ⟨v1,v2,v3,v4⟩:=v.jh i.toNat w q D f;refine c8.nH (⟨none,0,0⟩:Sl) (λ_=>rfl) (by omega) (λ_=>⟨H,by omega⟩) λ(y0:Sl) b6=> ?_;have g:((w==(-1:Int))&&decide ((y0.len:Int)>0))=false:=by
   by_cases e:w= -1
   ·have:=b6 (by simp [e]);rw [T] at this;cases this;have b0:=G.1;grind
   ·simp [e]
  refine aI (aI ?_);rw [g,show decide (w<(-1:Int))=false by simp;omega,if_neg (by decide)];refine aK (o.sI ?_);obtain ⟨h4,_,o4,c5⟩:=o.f2;refine o4.push (e:=⟨w,⟨none,0,0⟩⟩) rfl (λ_=>rfl) (λ_=>rfl) rfl ⟨by omega,by omega⟩ λA J o5=> ?_;have o6:=c5 _ _ o5;have nil:Has J (dC 1 dZ (⟨w,⟨none,0,0⟩⟩:aD).queue []) J:=Has.jP (Hp.le_refl _);have o7:Has k ((dd Cz p ⟨sl⟩).star ((dC 2 eL A (xs++ [⟨w,⟨none,0,0⟩⟩])).star (rS (xs++ [⟨w,⟨none,0,0⟩⟩]) (qs.take i.toNat++ [[]])))) J:=by have oo:=(o6.beside nil).assoc;obtain ⟨h8,_,u,_,c6⟩:=oo.snd;obtain ⟨h9,_,d,_,c7⟩:=u.assoc.snd;exact c6 _ _ (c7 _ _ (Og (by grind) d))
  refine aK (cR.rZ o7 λk3 u=> ?_);have c9:Rs k3 al 1 sq B:=Rw.mono u.le M;refine c9.get (λ_=>rfl) (by omega) H (by omega) λ(h:Sl) U=> ?_;rw [T] at U;cases U;have b0:=G.1;have r:(qs.take i.toNat).length=i.toNat:=by grind
  refine ay.intro (λ(j:Int) c=>0<=j/\j<=(q.length:Int)/\∃(s:Sl),Has k (cR p A (xs++ [⟨w,s⟩]) (qs.take i.toNat++ [q.take j.toNat])) c) (λj _=>(q.length-j).toNat) ⟨by omega,by omega,_,by simpa using u⟩ ?_;rintro j k4 ⟨j0,j1,s,d⟩;by_cases R:j<(q.length:Int)
  ·rw [if_pos (gI)];have b5:Is k4 y q:=Rw.mono d.le G;refine b5.get (λ_=>rfl) (by omega) j0 R λ(z:Int) g=> ?_;have W:=List.mem_of_getElem? g;have d7:=v3 z W;have b3:(xs++ [(⟨w,s⟩:aD)]).length=(qs.take i.toNat++ [q.take j.toNat]).length:=by simp [r,F]
   refine Xs (HU d b3 ⟨by simp [r];omega,λL hq'=> ?_⟩ (λL hq'=> ?_) ?_)
   ·rcases List.mem_append.1 hq' with hq' | hq'
    ·obtain ⟨b,hb⟩:=List.getElem?_of_mem (List.mem_of_mem_take hq');have d1:=(List.getElem?_eq_some_iff.1 hb).1;exact (v.jh b _ L (List.getElem?_eq_getElem (show b<os.length by omega)) hb).1
    grind
   ·rcases List.mem_append.1 hq' with hq' | hq'
    ·obtain ⟨b,hb⟩:=List.getElem?_of_mem hq';rw [List.getElem?_take] at hb;split at hb
     ·rename_i C;exact v.once b i.toNat L q hb f C z W
     ·cases hb
    ·rw [List.mem_singleton.1 hq'];intro hm;obtain ⟨b,hb⟩:=List.getElem?_of_mem hm;rw [List.getElem?_take] at hb;split at hb
     ·rename_i C;obtain ⟨b1,b2⟩:=List.getElem?_eq_some_iff.1 hb;obtain ⟨c1,c2⟩:=List.getElem?_eq_some_iff.1 g;exact List.pairwise_iff_getElem.1 v4 b j.toNat b1 c1 C (b2.trans c2.symm)
     ·cases hb
   ·refine aI (aI ?_);rw [show (false || decide (z<0) || z==w)=false by simp;omega,if_neg (by decide)];have E:(xs++ [(⟨w,s⟩:aD)])[i.toNat]? =some ⟨w,s⟩:=by rw [<-F];simp
    have b4:(qs.take i.toNat++ [q.take j.toNat])[i.toNat]? =some (q.take j.toNat):=by rw [List.getElem?_append_right (by omega),r];simp
    have m:((i.toNat:Nat):Int)=i:=by omega
    refine aK (d.sI ?_);refine aK (d.sI ?_);have S:=d.pV E (K:=λy=>y=s) rfl;rw [m] at S;obtain ⟨O,Z,V,rfl⟩:=S;refine ⟨O,_,V,?_⟩;obtain ⟨a8,_,b7,c3⟩:=d.f3;obtain ⟨d0,_,b8,c4⟩:=b7.qP E b4;refine gh (xs:=[z]) (sz:=1) (enc:=dZ) rfl (λ_=>rfl) λa2 k5 t n5=> ?_;refine ⟨⟨om t (d.left.dQ (n:=1) rfl),om t (d.left.dQ (n:=1) rfl),om t V,trivial⟩,?_⟩;refine (b8.grow t).app (n5.ia (λ_=>rfl)) (λ_=>rfl) (λ_=>rfl) rfl ⟨by simp [List.length_take];omega,by simp [List.length_take];omega⟩ λs2 k6 b9=> ?_;have X:=c3 _ _ (c4 ⟨w,s2⟩ _ _ b9);refine ⟨⟨X.left.dQ (n:=1) rfl,trivial⟩,O,?_⟩;have key:=Has.qQ (x:=⟨w,Z⟩) (q:=q.take j.toNat) (h1:=a8) X E λk7 c0=>(show (λh c=>(0<=h/\h<=(q.length:Int)/\∃(s:Sl),Has k (cR p A (xs++ [⟨w,s⟩]) (qs.take i.toNat++ [q.take h.toNat])) c)/\((q.length:Int)-h).toNat<((q.length:Int)-j).toNat) (yw (j+1)) k7 from by
     rw [aH];refine ⟨⟨by omega,by omega,s2,?_⟩,by omega⟩;have t1:(xs++ [(⟨w,Z⟩:aD)]).set i.toNat ⟨w,s2⟩=xs++ [⟨w,s2⟩]:=by rw [List.set_append_right _ _ (by omega),<-F];simp
     have t2:(qs.take i.toNat++ [q.take j.toNat]).set i.toNat (q.take j.toNat++ [z])=qs.take i.toNat++ [q.take (j+1).toNat]:=by rw [List.set_append_right _ _ (by omega),r,show (j+1).toNat=j.toNat+1 by omega,List.take_add_one,g];simp
     rw [<-t1,<-t2];exact c0)
    grind
  ·rw [if_neg (λe=>R (by grind))];rw [aH];have ej:j.toNat=q.length:=by omega
   rw [ej,List.take_length] at d;refine ⟨⟨by omega,by omega,A,xs++ [⟨w,s⟩],?_,?_⟩,by omega⟩
   ·rw [List.map_append,l,show (i+1).toNat=i.toNat+1 by omega,List.take_add_one,D];rfl
   ·rw [show (i+1).toNat=i.toNat+1 by omega,List.take_add_one,f];exact d
 ·rw [if_neg (λe=>P (by grind))];have m:i.toNat=os.length:=by omega
  rw [m,List.take_length] at l;rw [m,a9.1,List.take_length] at o;exact hq p c o.le (o.iu l (by grind))
end
abbrev eE :av->List Value:=λx=>aY (aO.enc x)
def j7 (a b:av):Prop:=a.due<b.due\/a.due=b.due/\a.df<b.df
theorem Oh (a:av):¬j7 a a:=by unfold j7;omega
theorem FR {a b c:av} (h:j7 a b) (k:j7 b c):j7 a c:=by unfold j7 at*;omega
theorem Oj {a b:av} (h:¬j7 a b) (c:a≠b):j7 b a:=by
 unfold j7 at*;by_cases d:a.due=b.due
 ·by_cases e:a.df=b.df
  ·exact absurd (by cases a;cases b;grind) c
  ·omega
 ·omega
def nE (x y:Int):Int:=if x<y then -1 else if x>y then 1 else 0
theorem MH {x y:Int} {Q:Int->Hp->Prop} {h:Hp} (a:Q (nE x y) h):Rh prog x y Q h:=by
 unfold Rh;refine XD ?_;unfold RQ;refine XD ?_;unfold RQ;dsimp only;rw [ry,if_neg (by simp)];unfold nE at a;by_cases b:x<y
 ·rw [if_pos (by simpa using b)];rw [if_pos b] at a;exact a
 ·rw [if_neg (by simpa using b)];rw [if_neg b] at a;by_cases c:x>y
  ·rw [if_pos (by simpa using c)];rw [if_pos c] at a;exact a
  ·rw [if_neg (by simpa using c)];rw [if_neg c] at a;exact a
theorem Vr {x y:Int} {Q:Int->Hp->Prop} {h:Hp} (a:Q (nE x y) h):RO prog x y Q h:=by
 unfold RO;refine XO ?_;unfold SU;refine XO ?_;unfold SU;dsimp only;rw [ry,if_neg (by simp)];unfold nE at a;by_cases b:x<y
 ·rw [if_pos (by simpa using b)];rw [if_pos b] at a;exact a
 ·rw [if_neg (by simpa using b)];rw [if_neg b] at a;by_cases c:x>y
  ·rw [if_pos (by simpa using c)];rw [if_pos c] at a;exact a
  ·rw [if_neg (by simpa using c)];rw [if_neg c] at a;exact a
theorem PL {l:Sl} {u v:Int} {Q:Int->Hp->Prop} {h:Hp} (r:Rs h (ae .i64) 1 l [u,v]) (d:Q (if u≠0 then u else v) h):UO prog l Q h:=by
 unfold UO;have a:=r.1;simp at a;refine ay.intro (λi k=>k=h/\(i=0\/(i=1/\u=0)\/(i=2/\u=0/\v=0))) (λi _=>(2-i).toNat) ⟨rfl,.inl rfl⟩ ?_;rintro i k ⟨rfl,c⟩;have w:yw (i+1)=i+1:=aH;rw [w];by_cases b:i=2
 ·grind
 ·rw [if_pos (show decide (i<(l.len:Int))=true by simp;omega)];refine Rs.get r (λ_=>rfl) (by omega) (by omega) (by simp;omega) λ(x:Int) e=> ?_;grind
def vZ (a b:av):Int:=if nE a.due b.due≠0 then nE a.due b.due else nE a.df b.df
theorem rA {a b:av}:vZ a b<0↔j7 a b:=by unfold vZ nE j7;omega
theorem Ja {a b:av} {Q:Int->Hp->Prop} {h:Hp} (e:∀c,h<=c->Q (vZ a b) c):TG prog a b Q h:=by unfold TG;refine Zq (MH ⟨⟨trivial,trivial,trivial⟩,?_⟩);refine Zz (Vr ?_);refine wU (xs:=([nE a.due b.due,nE a.df b.df]:List Int)) (enc:=λx=>aY ((ae .i64).enc x)) (sz:=1) (Hp.le_refl h) rfl (λ_=>rfl) λa1 d f g=> ?_;exact Pb (dO:=⟨some a1,2,2⟩) (PL (g.rw λ_=>rfl) (e d f))
theorem PN {i j:Int} (d:0<=i) (e:0<=j) (c:i+j<9223372036854775808):yw (fW .u64 (IntKind.wrap .u64 (yw (i+j))) 1)=(i+j) / 2:=by
 rw [wrap64 (by omega) c];have a:IntKind.wrap .u64 (i+j)=i+j:=by
  (try unfold yw);unfold IntKind.wrap
  simp only [IntKind.signed,IntKind.bits];grind
 rw [a];have b:fW .u64 (i+j) 1=(i+j) / 2:=by
  unfold fW;have:min (1:Int).toNat (IntKind.bits .u64)=1:=by decide
  grind
 rw [b,aH]
theorem Vs {x:Sl} {c:List av} {d:av} {Q:Int->Bool->Hp->Prop} {h:Hp} (r:Rw h 2 eE x c) (F:c.length<=4398046511104) (K:c.Pairwise j7)
  (P:∀(i:Nat) b f,h<=f->i<=c.length->(∀e∈c.take i,j7 e d)->(∀e∈c.drop i,¬j7 e d)->Q (i:Int) b f):
  MU prog x d ⟨Hn, #[], #[]⟩ Q h:=by
 unfold MU;have T:=r.1;refine bQ.intro (λi j k=>h<=k/\0<=i/\i<=j/\j<=(c.length:Int)/\(∀e∈c.take i.toNat,j7 e d)/\(∀e∈c.drop j.toNat,¬j7 e d)) (λi j _=>(j-i).toNat) ⟨Hp.le_refl h,by omega,by omega,by omega,λe v=>by simp at v,λe v=>by simp [T] at v⟩ ?_;rintro i j k ⟨o,E,W,M,G,D⟩;have B:=r.mono o;split
 ·rename_i e;have e:i<j:=by simpa using e
  rw [PN E (by omega) (by omega)];have H:i<=(i+j) / 2:=by omega
  have O:(i+j) / 2<j:=by omega
  generalize (i+j) / 2=m at H O;refine iZ.intro (λs t U=>h<=U/\0<=s/\s<=t/\t<=(c.length:Int)/\(∀e∈c.take s.toNat,j7 e d)/\(∀e∈c.drop t.toNat,¬j7 e d)/\t - s<j-i) ?_ ?_
  ·refine ⟨by omega,?_⟩;refine s9 (sh:=aO) B λ(l:av) A=> ?_;refine ⟨Hn, #[], #[],rfl,rfl,X4 (a:=l) (b:=d) (Ja λf u=> ?_)⟩;obtain ⟨I,J⟩:=List.getElem?_eq_some_iff.1 A;by_cases p:vZ l d<0
   ·rw [if_pos (by simpa using p),aH];have n:=rA.1 p;refine ⟨Hp.le_trans o u,by omega,by omega,M,λy hy=> ?_,D,by omega⟩;have:(m+1).toNat=m.toNat+1:=by omega
    rw [this,List.take_add_one,A] at hy;rcases List.mem_append.1 hy with hy | hy
    ·obtain ⟨q,g⟩:=List.mem_iff_getElem?.1 hy;rw [List.getElem?_take] at g;split at g
     ·rename_i S;obtain ⟨w,z⟩:=List.getElem?_eq_some_iff.1 g;have:=List.pairwise_iff_getElem.1 K q m.toNat w I S;rw [z,J] at this;exact FR this n
     ·cases g
    ·have:y=l:=by simpa using hy
     rw [this];exact n
   ·rw [if_neg (by simpa using p)];have n:¬j7 l d:=λh=>p (rA.2 h);refine ⟨Hp.le_trans o u,E,H,by omega,G,λy hy=> ?_,by omega⟩;obtain ⟨q,g⟩:=List.mem_iff_getElem?.1 hy;rw [List.getElem?_drop] at g;obtain ⟨w,z⟩:=List.getElem?_eq_some_iff.1 g;by_cases R:q=0
    ·subst R;rw [Nat.add_zero,A] at g;cases g;exact n
    ·have:=List.pairwise_iff_getElem.1 K m.toNat (m.toNat+q) I w (by omega);rw [z,J] at this;exact λhy=>n (FR this hy)
  grind
 ·rename_i e;have e:¬i<j:=by simpa using e
  have N:j=i:=by omega
  subst N;have X:(j.toNat:Int)=j:=by omega
  have C:∀b f,k<=f->Q j b f:=λb f F=>by have:=P j.toNat b f (Hp.le_trans o F) (by omega) G D;grind
  cases L:decide (j<(x.len:Int)) with
  | false=>refine Rs.nH (sh:=aO) B (⟨0,0⟩:av) (λ_=>rfl) (by omega) (λe=>by cases e) λ(l:av) _=> ?_;exact ⟨λe=>(by cases e),λ_=>⟨0,aI (C _ k (Hp.le_refl k))⟩⟩
  | true=>
   have V:j<(x.len:Int):=by simpa using L
   refine Rs.nH (sh:=aO) B (⟨0,0⟩:av) (λ_=>rfl) (by omega) (λ_=>by omega) λ(l:av) _=> ?_;refine yW ⟨Hn, #[], #[],rfl,rfl,X4 (a:=l) (b:=d) (Ja λf u=>aI (C _ f u))⟩
theorem WJ {P:Program} (d:Nat) (a b:Array Value):∀(L:List (Field×IntKind×Int×Int)) (w:World),
  (∀q∈L,q.1.name≠ "_" ∧P.underlying q.1.type=some (.int q.2.1)∧a[q.1.offset]? =some (.int q.2.1 q.2.2.1)∧b[q.1.offset]? =some (.int q.2.1 q.2.2.2))→
  (Op.eqFields (d+1) a b (L.map (·.1))).run P w=.ok (L.all λq=>q.2.2.1==q.2.2.2) w
 | [],w,_=>by simp [Op.eqFields]
 | q::L,w,h=>by
  obtain ⟨e,c,f,g⟩:=h q (List.mem_cons_self ..);have k:=WJ d a b L w λl j=>h l (List.mem_cons_of_mem _ j);have i:(isAgg q.1.type).run P w=.ok false w:=by simp [isAgg,run_underlying c]
  simp only [List.map_cons,Op.eqFields,Sem.run_bind,if_pos e,part,i,Result.andThen_ok,Bool.false_eq_true,if_false,f,g,Sem.run_pure,run_equalIn_int w d q.1.type q.2.1 q.2.1 q.2.2.1 q.2.2.2 c];cases hb:(q.2.2.1==q.2.2.2) with
  | false=>simp [hb]
  | true=>simp [hb,k]
theorem HY {P:Program} {t:Nat} {x y:Operand} {h:Hp} {a b:Array Value} (L:List (Field×IntKind×Int×Int)) (e:P.underlying t=some (.struct (L.map (·.1)).toArray)) (i:P.eqGuardType P.depth t=false) (hp:P.stoodInHeld t=false)
  (g:∀q∈L,q.1.name≠ "_" ∧P.underlying q.1.type=some (.int q.2.1)∧a[q.1.offset]? =some (.int q.2.1 q.2.2.1)∧b[q.1.offset]? =some (.int q.2.1 q.2.2.2)):
  iK P (cW .eql t x y (.agg a) (.agg b)) h (.bool (L.all λq=>q.2.2.1==q.2.2.2)):=by
 refine US λw=> ?_;have d:P.fieldsOf t=(L.map (·.1)).toArray:=by unfold Program.fieldsOf;rw [e]
 have j:P.underlying t=some (.struct (P.fieldsOf t)):=by rw [d];exact e
 have c:=run_equalIn_struct (P:=P) w 9999 t a b j hp;rw [d] at c;have f:=WJ (P:=P) 9998 a b L w g;unfold cW;simp only [Sem.run_bind,run_eqGuard_agg w .eql t x y a b i,Result.andThen_ok,run_eql_struct];rw [show (10000:Nat)=9999+1 from rfl,c];simp only [f,Result.andThen_ok]
def Wh (h:Hp) (p:Addr) (a:List av) (F:List Nat):Prop:=
 ∃(b m:Nat) (sl:Sl) (G:List Nat) (c:List (Int×av)),p=⟨b,0,none⟩/\F=b::m::G/\fH h b [sl.v,.map (some m)]/\cT h 2 eE sl a G/\fe h m .i64 aO.enc c/\b∉G/\b≠m/\m∉G/\
  (c.map (·.1)).Nodup/\(∀id e,gL id c=some e↔e∈a/\e.df=id)/\a.Pairwise j7
theorem fe.same {V:Type} {h a:Hp} {m:Nat} {k:IntKind} {ev:V->Value} {b:List (Int×V)} (f:fe h m k ev b) (e:a m=h m):fe a m k ev b:=by obtain ⟨g,ck,c,d⟩:=f;exact ⟨g,ck,by rw [e];exact c,d⟩
theorem fe.known {V:Type} {h:Hp} {m:Nat} {k:IntKind} {ev:V->Value} {c:List (Int×V)} (b:fe h m k ev c):h m≠none:=by obtain ⟨e,ck,a,d⟩:=b;rw [a];simp
theorem fe.mv {V:Type} {h b:Hp} {m:Nat} {k:IntKind} {ev:V->Value} {c:List (Int×V)} {F d:List Nat} (g:fe h m k ev c) (a:Mv F h d b) (i:m∉F):fe b m k ev c:=by obtain ⟨j,ck,e,f⟩:=g;exact ⟨j,ck,a.cv m _ e i,f⟩
theorem fH.same {h c:Hp} {b:Nat} {a:List Value} (k:fH h b a) (e:c b=h b):fH c b a:=by obtain ⟨t,d⟩:=k;exact ⟨t,by rw [e];exact d⟩
theorem Wh.same {h e:Hp} {p:Addr} {d:List av} {F:List Nat} (w:Wh h p d F) (a:∀b∈F,e b=h b):Wh e p d F:=by obtain ⟨b,m,sl,G,o,f,g,i,j,k,l⟩:=w;subst g;exact ⟨b,m,sl,G,o,f,rfl,i.same (a b (by simp)),j.same (λc n=>a c (by simp [n])),k.same (a m (by simp)),l⟩
theorem Wh.known {h:Hp} {p:Addr} {a:List av} {F:List Nat} (w:Wh h p a F):∀b∈F,h b≠none:=by
 obtain ⟨b,m,sl,G,k,i,d,e,f,g,j⟩:=w;subst d;intro c hc;simp only [List.mem_cons] at hc;rcases hc with rfl | rfl | hc
 ·exact e.known
 ·exact g.known
 ·exact f.known c hc
theorem Wh.sorted {h:Hp} {p:Addr} {a:List av} {F:List Nat} (w:Wh h p a F):a.Pairwise j7:=by obtain ⟨b,m,sl,G,q,d,f,g,i,j,k,l,n,o,e,c⟩:=w;exact c
theorem Wh.ids {h:Hp} {p:Addr} {a:List av} {F:List Nat} (w:Wh h p a F) {x y:av} (d:x∈a) (f:y∈a) (e:x.df=y.df):x=y:=by obtain ⟨b,m,sl,G,v,j,l,n,o,q,r,s,t,u,c,k⟩:=w;have g:=(c x.df x).2 ⟨d,rfl⟩;have i:=(c x.df y).2 ⟨f,e.symm⟩;grind
theorem sQ {h:Hp} {b:Nat} {a:List Value} (k:fH h b a) {sh:Shape} (x:sh.T) {j:Nat} (c:(a.drop j).take (aY (sh.enc x)).length=aY (sh.enc x)) {K:sh.T->Prop} (d:K x):aQ none sh h ((⟨b,0,none⟩:Addr).add j) K:=by refine ⟨x,?_,d⟩;show aT h ((⟨b,0,none⟩:Addr).add j) _;rw [jD,Nat.zero_add];exact k.mY c
theorem Om {h:Hp} {b:Nat} {a:List Value} (k:fH h b a) {sh:Shape} (x:sh.T) {j:Nat} {c:Bool} (f:(a.drop j).take (aY (sh.enc x)).length=aY (sh.enc x)) {K:sh.T->Prop} (g:K x):aQ (some c) sh h ((⟨b,0,none⟩:Addr).add j) K:=by obtain ⟨y,d,e⟩:=sQ k (sh:=sh) x f (K:=λy=>y=x) rfl;exact ⟨y,λ_=>d,e▸g⟩
theorem MI {Q:Option Addr->Hp->Prop} {h:Hp} (k:∀p F a,h<=a->(∀b∈F,h b=none)->Wh a p [] F->Q (some p) a):K8 prog Q h:=by
 unfold K8;intro m f;have g:=kP (o:=.map #[] 0) f;intro b t hb;have i:=kP (o:=.cells (([.slice none 0 0,.map (some m)]:List Value).toArray) t (0,0)) hb;have j:b≠m:=λe=>by rw [e,lP] at hb;cases hb
 refine k ⟨b,0,none⟩ [b,m] _ (Hp.le_trans g i) (λc d=> ?_) ⟨b,m,⟨none,0,0⟩,[],[],rfl,rfl,⟨t,lP⟩,⟨rfl,Nat.le_refl _,.inl ⟨rfl,rfl,rfl⟩⟩,⟨[],0,i _ _ lP,rfl⟩,by simp,j,by simp,by simp,λid e=>by simp [gL],List.Pairwise.nil⟩;simp only [List.mem_cons,List.not_mem_nil,or_false] at d;rcases d with rfl | rfl
 ·exact uK g hb
 ·exact f
theorem MJ {p:Addr} {a:List av} {F:List Nat} {id:Int} {Q:Int->Bool->Hp->Prop} {h:Hp} (w:Wh h p a F) (d:(∀e∈a,e.df≠id)->Q 0 false h) (k:∀e∈a,e.df=id->Q e.due true h):
  KK prog (some p) id Q h:=by
 obtain ⟨b,m,sl,G,t,rfl,rfl,g,n,i,o,q,r,s,f,l⟩:=w;unfold KK;refine aK (sQ g (sh:=dI) (some m) rfl ?_);refine ur (sh:=aO) (z:=⟨0,0⟩) i rfl (λj=>d λe c hid=> ?_) λe c=> ?_
 ·have:=(f id e).2 ⟨c,hid⟩;rw [j] at this;cases this
 grind
theorem ML {a b:List av} (c:a.Pairwise j7) (h:b.Sublist a):b.Pairwise j7:=c.sublist h
theorem U1 {a:List av} (b:a.Pairwise j7):a.Nodup:=b.imp λh e=>by subst e;exact Oh _ h
set_option maxHeartbeats 1000000 in
theorem Ae {p:Addr} {a:List av} {F:List Nat} {id:Int} {Q:Bool->Hp->Prop} {h:Hp} (w:Wh h p a F) (hl:a.length<=4398046511104) (X:(∀e∈a,e.df≠id)->Q false h)
  (u:∀(i:Nat) e d,a[i]? =some e->e.df=id->Mv F h F d->Wh d p (a.take i++a.drop (i+1)) F->Q true d):KF prog (some p) id Q h:=by
 obtain ⟨b,m,sl,G,E,rfl,rfl,y,B,N,O,R,S,T,L,M⟩:=w;unfold KF;refine aK (sQ y (sh:=dI) (some m) rfl ?_);refine ur (sh:=aO) (z:=⟨0,0⟩) N rfl (λhn=> ?_) λe C=> ?_
 ·rw [if_pos (by rfl)];refine X λe C hid=> ?_;have:=(L id e).2 ⟨C,hid⟩;grind
 rw [ry];obtain ⟨b8,hid⟩:=(L id e).1 C;refine aK (sQ y (sh:=al) sl rfl ?_);have b7:=B.1;have rs:Rw h 2 eE sl a:=B.rw λ_=>rfl;refine ay.intro (λi k=>k=h/\0<=i/\i<=(a.length:Int)/\e∉a.take i.toNat) (λi _=>(a.length-i).toNat) ⟨rfl,by omega,by omega,by simp⟩ ?_;rintro i k ⟨rfl,a9,b5,c0⟩;split
 ·rename_i r;have r:i<(sl.len:Int):=by simpa using r
  refine Rs.get (sh:=aO) rs (λ_=>rfl) (by omega) a9 (by omega) λ(x:av) A=> ?_;refine ⟨_,HY [(⟨ "due",2,0,false, "", "firebreak/wheel",0⟩,.i64,x.due,e.due),(⟨ "id",3,1,false, "", "firebreak/wheel",8⟩,.i64,x.df,e.df)] (bK.bE 205 rF rfl) (by kernel_rfl) (by kernel_rfl) (λq U=> ?_),?_⟩
  ·simp only [List.mem_cons,List.not_mem_nil,or_false] at U;rcases U with rfl | rfl
   ·exact ⟨by simp,bK.bE 2 vf rfl,rfl,rfl⟩
   ·exact ⟨by simp,bK.bE 3 wh rfl,rfl,rfl⟩
  ·dsimp only;by_cases V:x=e
   ·subst V;rw [if_pos (by simp)];refine aK (sQ y (sh:=al) sl rfl ?_);have b6:i.toNat<a.length:=(List.getElem?_eq_some_iff.1 A).1;have b0:((i.toNat:Nat):Int)=i:=by omega
    have b1:((i.toNat+1:Nat):Int)=i+1:=by omega
    rw [aH];have a8:∀(s:Sl->Hp->Prop),(∀l d,cT d 2 eE l (a.take i.toNat++a.drop (i.toNat+1)) G->Mv G k G d->s l d)->WO prog sl i (i+1) s k:=by
     intro s Y;have:=Py (P:=prog) (h:=k) (sz:=2) (enc:=eE) (bytes:=16) (tS:=207) (tE:=205) (z:=.agg #[.int .i64 0,.int .i64 0]) (i:=i.toNat) (j:=i.toNat+1) (Q:=s) (bK.bE 207 uh rfl)
      (λhk=>Lx bK (t:=205) (e:=rF) rfl hk)
      (λ_=>rfl) (λ_=>rfl) rfl (λn=>by
       induction n with
       | zero=>rfl
       | succ n ih=>exact ih) B (by omega) (by omega) (by omega) Y
     rw [b0,b1] at this;exact this
    refine YO (a8 _ λl d o' H=> ?_);have k3:fH d b [sl.v,.map (some m)]:=y.mv H O;refine aK ?_;refine yv (b:=b) (off:=0) k3 (by simp) λf I k2=> ?_;have o2:cT f 2 eE l (a.take i.toNat++a.drop (i.toNat+1)) G:=o'.mv I (λc g=>by grind);have W:fH f b [l.v,.map (some m)]:=by simpa using k2
    refine aK (sQ W (sh:=dI) (some m) rfl ?_);have b3:fe f m .i64 aO.enc E:=(N.mv H S).mv I (by grind);refine Vf b3 λo ho b4=> ?_;have D:Mv [m] f [m] (f.set m o):=Mv.set;refine u i.toNat x _ A hid ?_ ⟨b,m,l,G,lK id E,rfl,rfl,W.mv D (by simp;exact R),o2.mv D (λc g=>by grind),b4,O,R,S,TV id T,?_,?_⟩
    ·have J:Mv (b::m::G) k (b::m::G) d:=H.sub (λc g=>by simp [g]) λc g=>.inr (.inl g);have K:Mv (b::m::G) d (b::m::G) f:=I.sub (λc g=>by grind) λc g=>.inr (.inl g);have q3:Mv (b::m::G) f (b::m::G) (f.set m o):=D.sub (λc g=>by grind) λc g=>.inr (.inl g);exact J.trans (K.trans q3)
    ·intro b2 e';rw [IZ b2 id E T];have b9:=U1 M;have c1:a=a.take i.toNat++x::a.drop (i.toNat+1):=by
      have Z:a.drop i.toNat=x::a.drop (i.toNat+1):=by obtain ⟨J,K⟩:=List.getElem?_eq_some_iff.1 A;rw [List.drop_eq_getElem_cons J,K]
      rw [<-Z,List.take_append_drop]
     grind
    ·refine ML M ?_;have:(a.take i.toNat++a.drop (i.toNat+1)).Sublist (a.take i.toNat++a.drop i.toNat):=by grind
     rw [List.take_append_drop] at this;exact this
   ·rw [if_neg (by
     simp;intro u f;exact V (by cases x;cases e;simp at u f;simp [u,f])),aH]
    refine ⟨⟨rfl,by omega,by omega,?_⟩,by omega⟩;have:(i+1).toNat=i.toNat+1:=by omega
    rw [this,List.take_add_one,A];grind
 ·rename_i r;have r:¬i<(sl.len:Int):=by simpa using r
  have:i.toNat=a.length:=by omega
  grind
end Lf
