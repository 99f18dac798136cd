/-
  Part 4 of the texts that the claim leans on.
-/
import Derived.Laws.StructEq
import Derived.Test.YtfbhggigncmcfaaGreatMgTpTop2
set_option maxRecDepth 100000
namespace Lf
open Go Go.Proofs Go.RowKit
theorem Zi {P:Program} {g:FuncId} {args:List Value} {sh:Shape} {K:sh.T->Hp->Prop} {h:Hp} {x:sh.T} (c:∀w,Sub h w->Calls P g args.toArray w λe b=>e=.returned (sh.enc x)/\b=w) (d:K x h):aa P g args sh K h:=by intro w a;refine (c w a).mono ?_;rintro e b ⟨rfl,rfl⟩;exact ⟨_,h,rfl,⟨x,rfl,d⟩,⟨a,Nat.le_refl _,λi j f=>⟨rfl,f⟩,rfl,rfl,rfl⟩⟩
def rE (s:ByteArray) (c:UInt8):Bool:=decide (0<=Lib.indexByte s.data.toList c)
theorem Ya {s:ByteArray} {c:UInt8} {K:Bool->Hp->Prop} {h:Hp} (a:K (rE s c) h):aa Tryz.prog zsz [.string s,.string ⟨#[c]⟩] bn K h:=by refine Zi (x:=rE s c) (λw _=> ?_) a;exact Tryz.strings_Contains_one s c w
def bd (x:aK):cX:=⟨x.Op,x.A,x.B,x.C,x.iU⟩
def fO :List (List UInt8):=[[],[97,105],[97,98],[97,98,99],[97,98,99],[97,98,99],[97,98,99],[97,98,99],[97,98,99],[97,98,99],[97,98,99],[97,98,99],[97,98,99],[97,98,99],[97,98,99],[97,98,99],[97,98,99],[97,98,99],[97,98,99],[97,98,99],[97,98],[97,98],[105],[97,105],[97,98,99],[97,98],[97,98],[97],[97],[105],[105],[97],[97],[97]]
def uT (op:Int):ByteArray:=if 0<=op/\op<34 then ⟨(fO.getD op.toNat []).toArray⟩ else ⟨#[]⟩
theorem Yb :∀n,n<34->(decide (0<=Lib.indexByte (fO.getD n []) 97),decide (0<=Lib.indexByte (fO.getD n []) 98),decide (0<=Lib.indexByte (fO.getD n []) 99),decide (0<=Lib.indexByte (fO.getD n []) 105))=iM (n:Int):=by decide
theorem Zj (op:Int):(rE (uT op) 97,rE (uT op) 98,rE (uT op) 99,rE (uT op) 105)=iM op:=by
 by_cases h:0<=op/\op<34
 ·have e:=Yb op.toNat (by omega);rw [Int.toNat_of_nonneg h.1] at e;rw [<-e];simp [rE,uT,h]
 ·have a:uT op=⟨#[]⟩:=if_neg h;rw [a];have b:iM op=(false,false,false,false):=by unfold iM;grind
  rw [b];decide
theorem T5 :∀n,n<34->fO[n]? =some (fO.getD n []):=by decide
theorem Xm {a:Type} (l:List a) (i:Nat):List.get?Internal l i=l[i]?:=by simp
theorem WA {op:Int} {Q:ByteArray->Hp->Prop} {h:Hp} (c:Q (uT op) h):YR Tryz.prog op Q h:=by
 unfold YR;refine aJ ?_;by_cases a:0<=op/\op<34
 ·rw [if_neg (by simp;omega)];refine ⟨a,uT op,?_,c⟩;have e:uT op=⟨(fO.getD op.toNat []).toArray⟩:=if_pos a;rw [Xm,e];have d:=T5 op.toNat (by omega);rw [Nat.mul_one];have b:(fO.map λl=>Value.string ⟨l.toArray⟩)[op.toNat]? =some (Value.string ⟨(fO.getD op.toNat []).toArray⟩):=by grind
  exact b
 ·rw [if_pos (by simp;omega)];have e:uT op=⟨#[]⟩:=if_neg a;grind
theorem tv {P:Program} {g:FuncId} {first captured:Array Value} {args:List Value} {sh:Shape} {K:sh.T->Hp->Prop} {h:Hp} (b:tb.call g=true) (a:aa P g (first.toList++args++captured.toList) sh K h):gK P tb (.func (.func g) first captured) args sh K h:=
 ⟨g,first,captured,rfl,b,a⟩
theorem IM {op:Int} {Q:Bool->Bool->Bool->Bool->Hp->Prop} {h:Hp} (l:∀d,h<=d->Q (iM op).1 (iM op).2.1 (iM op).2.2.1 (iM op).2.2.2 d):YP Tryz.prog op Q h:=by
 unfold YP;refine Sy (WA ?_);intro b t j;refine u5 (b:=b) (off:=0) (cs:=[.string ⟨#[]⟩]) ⟨t,nI⟩ (by simp) λa i hb=> ?_;have k:h<=a:=(((Mv.new j).trans i).le (Hp.le_refl h) (by simp)).1;have g:bf a ⟨b,0,none⟩ [.string (uT op)]:=hb.df (n:=1) (by rfl);have one:∀(c:UInt8) (K:Bool->Hp->Prop),K (rE (uT op) c) a->gK Tryz.prog tb (.func (.func zya) #[] #[.pointer (some ⟨b,0,none⟩)]) [.string ⟨#[c]⟩] bn K a:=λc K f=>by refine tv rfl (QK ?_);unfold zyg;refine cT (sh:=qz) (uT op) g ?_;exact Ya f
 have e:=Zj op;grind
theorem BY {P:Program} {has:Bool} {n:Int} {Q:Int->Hp->Prop} {h:Hp} (b:Q (di has n) h):XR P has n Q h:=by
 unfold XR;refine aJ ?_;unfold di at b;by_cases a:has=false/\n≠0
 ·grind
 ·rw [if_neg a] at b;rw [if_neg (by cases has<;>simp at a ⊢;exact a)];refine aJ ?_;grind
theorem P1 {P:Program} {x:aK} {has:Bool} {n ae:Int} {Q:Int->Hp->Prop} {h:Hp}
  (c:Q (if has=false/\x.iU≠0 then 11 else if (x.Op=22\/x.Op=23)/\(x.iU<0\/n<x.iU) then 12 else if (x.Op=29\/x.Op=30)/\(x.iU<0\/ae<=x.iU) then 13 else 0) h):YQ P x has n ae Q h:=by
 unfold YQ;refine aJ ?_;by_cases a:has=false/\x.iU≠0
 ·grind
 ·rw [if_neg a] at c;rw [if_neg (by cases has<;>simp at a ⊢;exact a)];refine aJ ?_;by_cases b:x.Op=22\/x.Op=23
  ·rw [if_pos (by simp;exact b)];refine aJ ?_;grind
  ·rw [if_neg (λe=>b e.1)] at c;rw [if_neg (by simp;omega)];refine aJ ?_;by_cases d:x.Op=29\/x.Op=30
   ·rw [if_pos (by simp;exact d)];refine aJ ?_;grind
   grind
theorem RT {x:aK} {n ae:Int} {Q:Int->Int->Hp->Prop} {h:Hp} (a:∀b at_,h<=b->((jj (bd x) n ae).1≠0->at_=(jj (bd x) n ae).2)->Q (jj (bd x) n ae).1 at_ b):Zo Tryz.prog x n ae Q h:=by
 unfold Zo;refine aJ ?_;have le:=Hp.le_refl h;rw [show jj (bd x) n ae=(if x.Op<0\/34<=x.Op then (9,0)
  else if di (iM x.Op).1 x.A≠0 then (di (iM x.Op).1 x.A,1)
  else if di (iM x.Op).2.1 x.B≠0 then (di (iM x.Op).2.1 x.B,2)
  else if di (iM x.Op).2.2.1 x.C≠0 then (di (iM x.Op).2.2.1 x.C,3)
  else if (iM x.Op).2.2.2=false/\x.iU≠0 then (11,4)
  else if (x.Op=22\/x.Op=23)/\(x.iU<0\/n<x.iU) then (12,4)
  else if (x.Op=29\/x.Op=30)/\(x.iU<0\/ae<=x.iU) then (13,4)
  else (0,0)) from rfl] at a
 by_cases c:x.Op<0\/34<=x.Op
 ·grind
 ·rw [if_neg c] at a;rw [if_neg (by simp;omega)];refine zxe (IM λc g=> ?_);dsimp only;refine WH (BY ?_);by_cases d:di (iM x.Op).1 x.A≠0
  ·grind
  ·rw [if_neg d] at a;rw [if_neg (by simpa using d)];refine WH (BY ?_);by_cases e:di (iM x.Op).2.1 x.B≠0
   ·grind
   ·rw [if_neg e] at a;rw [if_neg (by simpa using e)];refine WH (BY ?_);by_cases f:di (iM x.Op).2.2.1 x.C≠0
    ·grind
    ·rw [if_neg f] at a;rw [if_neg (by simpa using f)];refine Sw (P1 ?_);grind
theorem DG {x:aK} {n ae:Int} {Q:Int->Hp->Prop} {h:Hp} (b:∀a,h<=a->Q (jj (bd x) n ae).1 a):Zl Tryz.prog x n ae Q h:=by unfold Zl;exact TS (RT λa _ l _=>b a l)
abbrev mV (h:Hp) (l:Sl) (a:List aK):Prop:=Rs h aV 5 l a
theorem Zk {l:Sl} {a:List aK} {ae:Int} {Q:Int->Int->Hp->Prop} {h:Hp} (r:mV h l a) (b:∀g,h<=g->Q (jJ (a.map bd) ae).1 (jJ (a.map bd) ae).2 g):Cu Tryz.prog l ae Q h:=by
 unfold Cu;have q:=r.1;refine aJ ?_;unfold jJ at b;by_cases j:ae<0\/8<ae
 ·rw [if_pos j] at b;rw [if_pos (by simp;omega)];exact b h (Hp.le_refl h)
 ·rw [if_neg j,List.length_map] at b;rw [if_neg (by simp;omega)];by_cases m:256<a.length
  ·rw [if_pos m] at b;rw [if_pos (by simp;omega)];exact b h (Hp.le_refl h)
  ·rw [if_neg m] at b;rw [if_neg (by simp;omega)];refine aA.intro (λi k=>h<=k/\0<=i/\i<=(a.length:Int)/\ko a.length ae ((a.drop i.toNat).map bd) i=ko a.length ae (a.map bd) 0) (λi _=>(a.length-i).toNat) ⟨Hp.le_refl h,by omega,by omega,rfl⟩ ?_;rintro i k ⟨e,o,w,c⟩;by_cases p:i<(a.length:Int)
   ·rw [if_pos (iV)];refine Rs.get (sh:=aV) (Rw.mono e r) (λ_=>rfl) (by omega) o p λx t=> ?_;refine XW (DG λv n=> ?_);have f:a.drop i.toNat=x::a.drop (i.toNat+1):=by obtain ⟨y,u⟩:=List.getElem?_eq_some_iff.1 t;rw [<-u];simp
    rw [f,List.map_cons,ko] at c;rw [q];by_cases d:(jj (bd x) a.length ae).1≠0
    ·rw [if_pos d] at c;rw [if_pos (by simpa using d)];rw [<-c] at b;exact b v (Hp.le_trans e n)
    ·rw [if_neg d] at c;rw [if_neg (by simpa using d)];have s:yw (i+1)=i+1:=aT;rw [s];refine ⟨⟨Hp.le_trans e n,by omega,by omega,?_⟩,by omega⟩;grind
   ·rw [if_neg (by simp;omega)];have f:a.drop i.toNat=[]:=List.drop_eq_nil_of_le (by omega);rw [f] at c;rw [<-c] at b;exact b k e
end Lf
namespace Lf
open Go
theorem T6 {r:Type} {h0 h:Hp} {sz n bytes:Nat} {enc:r->List Value} {zero m:List Value} {l:Sl} {i f:List r} {K:Sl->Hp->Prop} (q:h0<=h) (o:Own h0 h sz enc l i) (s:m=f.flatMap enc) (w:n=f.length)
  (j:∀x,(enc x).length=sz) (B:∀x,ji (enc x)=true) (C:zero.length=sz) (hb:i.length+f.length<=140737488355328/\(i.length+f.length)*bytes<=140737488355328)
  (t:∀g c,h0<=c->Own h0 c sz enc g (i++f)->(∀b d,h b=some d->(∀a,l.base=some a->a.block≠b)->c b=some d)->K g c):bh m (λa p=>fu sz bytes zero l ⟨some a,n,n⟩ K p) h:=by
 subst w;refine uP (h0:=h0) q s j λa p k A=> ?_;refine Ea (Hp.le_trans q k) (o.mono k) (A.rw j) j B C hb λg c v z u=>t g c v z λb d e y=>u b d (k b d e) y
def eB (b:UInt8):List Value:=[.int .u8 (b.toNat:Int)]
theorem zK (b:UInt8):(eB b).length=1:=rfl
theorem Fx (b:UInt8):ji (eB b)=true:=rfl
abbrev Bs (h:Hp) (l:Sl) (a:List UInt8):Prop:=Rw h 1 eB l a
abbrev lW (a h:Hp) (l:Sl) (bs:List UInt8):Prop:=Own a h 1 eB l bs
theorem P2 (a:List UInt8):a.flatMap eB=a.map λb=>.int .u8 (b.toNat:Int):=by
 induction a with
 | nil=>rfl
 | cons b a c=>rw [List.flatMap_cons,c];rfl
theorem Kn (n:Int):((UInt8.ofNat (n%256).toNat).toNat:Int)=n%256:=by rw [UInt8.toNat_ofNat'];omega
theorem qC (n:Int):IntKind.wrap .u8 n=((UInt8.ofNat (n%256).toNat).toNat:Int):=by rw [Kn];rfl
theorem Il (n:Int):∀(k i:Nat),i<k->(cW n k)[i]? =some (UInt8.ofNat ((n / ((256^i:Nat):Int))%256).toNat)
 | 0,_,h=>by omega
 | k+1,0,_=>by simp [cW]
 | k+1,i+1,h=>by
  simp only [cW,List.getElem?_cons_succ];have e:n / 256 / ((256^i:Nat):Int)=n / ((256^(i+1):Nat):Int):=by rw [Int.ediv_ediv_of_nonneg (by decide)];grind
  rw [Il (n / 256) k i (by omega),e]
theorem P5 {n m:Int} {k:Nat} (h:n%((256^k:Nat):Int)=m%((256^k:Nat):Int)):cW n k=cW m k:=by
 have c:=wB n k;have d:=wB m k;have e:il (cW n k)=il (cW m k):=by omega
 have a:=En (cW n k);have b:=En (cW m k);rw [mh] at a b;rw [<-a,e,b]
theorem yJ {n:Int} {k:Nat} (b:k<=8):cW (IntKind.wrap .u64 n) k=cW n k:=by apply P5;have e:IntKind.wrap .u64 n=n%((256^8:Nat):Int):=rfl;rw [e];have a:((256^k:Nat):Int) ∣ ((256^8:Nat):Int):=Int.natCast_dvd_natCast.2 (Nat.pow_dvd_pow 256 b);exact Int.emod_emod_of_dvd n a
theorem RV (n:Int) {i:Nat} (b:i<8):gy .u64 n (8*(i:Int))=n / ((256^i:Nat):Int):=by
 have e:((256^i:Nat):Int)=2^(8*i):=by rw [show (256:Nat)=2^8 from rfl,<-Nat.pow_mul];exact Int.natCast_pow 2 (8*i)
 rw [e];have a:min (8*(i:Int)).toNat IntKind.u64.bits=8*i:=by have:IntKind.u64.bits=64:=rfl;omega
 unfold gy;grind
theorem RX (n:Int) {i:Int} (a:0<=i) (b:i<8):yw (8*i)=8*i/\IntKind.wrap .u8 (gy .u64 n (8*i))=((UInt8.ofNat ((n / ((256^i.toNat:Nat):Int))%256).toNat).toNat:Int):=by
 refine ⟨aT,?_⟩;have e:(8*i)=8*((i.toNat:Nat):Int):=by omega
 rw [e,RV n (by omega),qC]
section
variable {h0 h:Hp} {l:Sl} {bs:List UInt8} {K:Sl->Hp->Prop}
theorem D5 (p:h0<=h) (o:lW h0 h l bs) {e:List Value} (c:List UInt8) {n:Nat} (j:e=c.map λb=>.int .u8 (b.toNat:Int)) (m:n=c.length) (hb:bs.length+c.length<=1099511627776)
  (k:∀f d,h0<=d->lW h0 d f (bs++c)->(∀b g,h b=some g->(∀a,l.base=some a->a.block≠b)->d b=some g)->K f d):bh e (λa i=>fu 1 1 [.int .u8 0] l ⟨some a,n,n⟩ K i) h:=
 T6 p o (by rw [j,P2]) m zK Fx rfl (by omega) k
theorem Im {n m:Int} {k:Nat} (A:m=(k:Int)) (F:k<=8) (C:h0<=h) (o:lW h0 h l bs) (hb:bs.length+8<=1099511627776) (E:∀g d,h0<=d->lW h0 d g (bs++cW n k)->K g d):
  bT (α1:=Sl) (α2:=Int) (λq b f c=>
   (if (decide (f<m))=true then
    ((0:Int)<=(yw ((8:Int)*f))/\bh [(.int .u8 (IntKind.wrap .u8 (gy .u64 n (yw ((8:Int)*f)))))] (λa v=>
     fu 1 1 [(.int .u8 (0:Int))] ⟨b.base,b.len,b.cap⟩ ⟨(some a),1,1⟩ (λr w=>
      q r (yw (f+(1:Int))) w) v) c)
   else K b c)) l (0:Int) h:=by
 subst A;refine bT.intro (λb i c=>0<=i/\i<=(k:Int)/\h0<=c/\lW h0 c b (bs++(cW n k).take i.toNat)) (λ_ i _=>(k-i).toNat) ⟨by omega,by omega,C,by simpa using o⟩ ?_;rintro b i c ⟨x,D,y,p⟩;by_cases j:i<(k:Int)
 ·rw [if_pos (decide_eq_true j)];obtain ⟨s,t⟩:=RX n x (by omega);rw [s,t];refine ⟨by omega,?_⟩;refine D5 y p [UInt8.ofNat ((n / ((256^i.toNat:Nat):Int))%256).toNat] rfl rfl (by grind) λg d z B _=> ?_;rw [aT];refine ⟨⟨by omega,by omega,z,?_⟩,by omega⟩;have u:(i+1).toNat=i.toNat+1:=by omega
  rw [u,List.take_add_one,Il n k i.toNat (by omega),<-List.append_assoc];exact B
 ·rw [if_neg (λe=>j (of_decide_eq_true e))];have:i.toNat=k:=by omega
  rw [this,List.take_of_length_le (by rw [mh];omega)] at p;grind
end
abbrev kQ (x:Int):Prop:=0<=x/\x<18446744073709551616
def bit (x:Int) (n:Nat):Bool:=x.toNat.testBit n
theorem qD {x:Int} (h:kQ x):IntKind.wrap .u64 x=x:=by
 (try unfold yw);unfold IntKind.wrap
 simp only [IntKind.signed,IntKind.bits];have:=h.1;have:=h.2;simp;omega
theorem yo {x:Int} (h:kQ x):BitVec.ofInt 64 x=BitVec.ofNat 64 x.toNat:=by obtain ⟨n,rfl⟩:=Int.eq_ofNat_of_zero_le h.1;rfl
theorem T7 {x n:Int} (h:kQ x) (c:0<=n) (f:n<=63):(dM .and .u64 (gy .u64 x n) 1==1)=bit x n.toNat:=by
 obtain ⟨X,rfl⟩:=Int.eq_ofNat_of_zero_le h.1;obtain ⟨N,rfl⟩:=Int.eq_ofNat_of_zero_le c;have d:X<18446744073709551616:=by have:=h.2;omega
 have g:N<=63:=by omega
 have a:gy .u64 (X:Int) (N:Int)=((X / 2^N:Nat):Int):=by
  unfold gy;have:min (N:Int).toNat (IntKind.bits .u64)=N:=by simp [IntKind.bits];omega
  rw [this,Int.fdiv_eq_ediv_of_nonneg _ (by exact Int.pow_nonneg (by decide))]
  norm_cast
 rw [a];have e:X / 2^N<18446744073709551616:=Nat.lt_of_le_of_lt (Nat.div_le_self _ _) d;have b:((BitVec.ofInt (IntKind.bits .u64) ((X / 2^N:Nat):Int)&&&BitVec.ofInt (IntKind.bits .u64) 1).toNat)=(X / 2^N)%2:=by show ((BitVec.ofNat 64 (X / 2^N))&&&(BitVec.ofNat 64 1)).toNat=_;rw [BitVec.toNat_and,BitVec.toNat_ofNat,BitVec.toNat_ofNat,Nat.mod_eq_of_lt e];exact Nat.and_one_is_mod _
 simp only [dM,b];rw [qD ⟨by omega,by omega⟩];simp only [bit,Int.toNat_natCast,Nat.testBit_eq_decide_div_mod_eq];by_cases hb:(X / 2^N)%2=1
 ·simp [hb]
 ·have:(X / 2^N)%2=0:=by omega
  simp [this]
theorem T8 {a b:Int} (g:kQ a) (hb:kQ b):(dM .andNot .u64 a b==0)=true↔∀n,n<64->bit a n=true->bit b n=true:=by
 have e:dM .andNot .u64 a b=(((BitVec.ofNat 64 a.toNat)&&& ~~~ (BitVec.ofNat 64 b.toNat)).toNat:Int):=by show IntKind.wrap .u64 ((BitVec.ofInt 64 a&&& ~~~ BitVec.ofInt 64 b).toNat:Int)=_;rw [yo g,yo hb,qD ⟨by omega,by have:=((BitVec.ofNat 64 a.toNat)&&& ~~~ (BitVec.ofNat 64 b.toNat)).isLt;omega⟩]
 rw [e];have f:((((BitVec.ofNat 64 a.toNat)&&& ~~~ (BitVec.ofNat 64 b.toNat)).toNat:Int)==0)=true↔(BitVec.ofNat 64 a.toNat)&&& ~~~ (BitVec.ofNat 64 b.toNat)=0#64:=by rw [BitVec.toNat_eq];simp
 rw [f];have ga:∀n,n<64->(BitVec.ofNat 64 a.toNat).getLsbD n=bit a n:=λn c=>by rw [BitVec.getLsbD_ofNat];simp [bit,c]
 have gb:∀n,n<64->(BitVec.ofNat 64 b.toNat).getLsbD n=bit b n:=λn c=>by rw [BitVec.getLsbD_ofNat];simp [bit,c]
 constructor
 ·intro h n c d;have:=congrArg (λv=>v.getLsbD n) h;simp only [BitVec.getLsbD_and,BitVec.getLsbD_not,ga n c,gb n c,d,c,decide_true,Bool.true_and,BitVec.getLsbD_zero] at this;simpa using this
 ·intro h;apply BitVec.eq_of_getLsbD_eq;intro n c;simp only [BitVec.getLsbD_and,BitVec.getLsbD_not,ga n c,gb n c,c,decide_true,Bool.true_and,BitVec.getLsbD_zero];cases d:bit a n with
  | false=>rfl
  | true=>simp [h n c d]
end Lf
namespace Lf
open Go Go.Proofs Tryz
abbrev Us (h:Hp) (l:Sl) (a:List Int):Prop:=Rs h (af .u64) 1 l a
abbrev Is (h:Hp) (l:Sl) (a:List Int):Prop:=Rs h (af .i64) 1 l a
theorem VQ {P:Program} {l:Sl} {a:List Int} {Q:Int->Int->Hp->Prop} {h:Hp} (r:Us h l a) (C:a.length<=8) (j:a.Pairwise (· < ·)) (n:a=[]->Q 1 0 h) (z:a≠ []->Q 0 0 h):LD P l Q h:=by
 unfold LD;have D:=r.1;split
 ·rename_i e;have e:(l.len:Int)=0:=by simpa using e
  exact n (List.length_eq_zero_iff.1 (by omega))
 ·rename_i e;have e:¬(l.len:Int)=0:=by simpa using e
  split
  ·grind
  ·refine aA.intro (λi k=>k=h/\1<=i/\i<=(a.length:Int)) (λi _=>(a.length-i).toNat) ⟨rfl,by omega,by omega⟩ ?_;rintro i k ⟨rfl,A,B⟩;split
   ·rename_i b;have b:i<(l.len:Int):=by simpa using b
    have o:yw (i-1)=i-1:=aT;rw [o];refine r.get (λ_=>rfl) (by omega) (by omega) (by omega) λ(x:Int) c=> ?_;refine r.get (λ_=>rfl) (by omega) (by omega) (by omega) λ(y:Int) f=> ?_;have E:y<x:=by
     have m:(i-1).toNat<i.toNat:=by omega
     have t:=(List.getElem?_eq_some_iff.1 c);have w:=(List.getElem?_eq_some_iff.1 f);obtain ⟨q,s⟩:=t;obtain ⟨u,v⟩:=w;rw [<-s,<-v];exact List.pairwise_iff_getElem.1 j _ _ u q m
    rw [if_neg (show ¬((x==y)=true) by simp;omega)];refine r.get (λ_=>rfl) (by omega) (by omega) (by omega) λ(F:Int) d=> ?_;rw [c] at d;cases d;refine r.get (λ_=>rfl) (by omega) (by omega) (by omega) λ(G:Int) g=> ?_;rw [f] at g;cases g;rw [if_neg (show ¬(decide (x<y)=true) by simp;omega)];have p:yw (i+1)=i+1:=aT;rw [p];exact ⟨⟨rfl,by omega,by omega⟩,by omega⟩
   grind
abbrev OM (a h:Hp) (l:Sl) (xs:List Int):Prop:=Own a h 1 (λx=>bp ((af .u64).enc x)) l xs
abbrev OL (a h:Hp) (l:Sl) (xs:List Int):Prop:=Own a h 1 (λx=>bp ((af .i64).enc x)) l xs
def jr (a b:Int):Bool:=(List.range 64).all λn=> !bit a n || bit b n
theorem iP {a b:Int}:jr a b=true↔∀n,n<64->bit a n=true->bit b n=true:=by unfold jr;grind
theorem WC {a b:Int} {Q:Bool->Hp->Prop} {h:Hp} (c:kQ a) (hb:kQ b) (d:Q (jr a b) h):YS prog a b Q h:=by
 unfold YS;have:(dM .andNot .u64 a b==0)=jr a b:=by rw [Bool.eq_iff_iff,T8 c hb,iP]
 grind
def fl (a:List Int) (i j:Int):Bool:=if 0<=i/\i<(a.length:Int)/\0<=j/\j<(a.length:Int) then jr (a.getD i.toNat 0) (a.getD j.toNat 0) else false
theorem FA {xs:List Int} {i j:Int} {x y:Int} (h:0<=i/\0<=j) (a:xs[i.toNat]? =some x) (b:xs[j.toNat]? =some y):fl xs i j=jr x y:=by have c:=(List.getElem?_eq_some_iff.1 a).1;have d:=(List.getElem?_eq_some_iff.1 b).1;unfold fl;grind
theorem Jt {xs:List Int} {i j:Int} (h:¬(0<=i/\i<(xs.length:Int)/\0<=j/\j<(xs.length:Int))):fl xs i j=false:=by unfold fl;rw [if_neg h]
def pJ :List Int->Nat->List MapEntry
 | [],_=> []
 | x::r,j=>{key:=.int .u64 x,val:=.int .i64 (j:Int),born:=j}::pJ r (j+1)
def place (a:Int):List Int->Nat->Option Nat
 | [],_=>none
 | x::r,j=>if a=x then some j else place a r (j+1)
theorem La (a:Int):∀(b:List Int) (j:Nat),Instr.findNow (.int .u64) (.int .u64 a) (pJ b j) j=some ((place a b j).map λ(k:Nat)=>(k,Value.int .i64 (k:Int)))
 | [],j=>rfl
 | x::r,j=>by
  simp only [pJ,Instr.findNow,Instr.sameNow,if_true,place];by_cases h:a=x
  ·simp [h]
  ·have:(a==x)=false:=by simpa using h
   rw [this];simp only [if_neg h];exact La a r (j+1)
theorem Lb :∀(a:List Int) (x:Int) (j:Nat),pJ (a++ [x]) j=pJ a j++ [{key:=.int .u64 x,val:=.int .i64 ((j+a.length:Nat):Int),born:=j+a.length}]
 | [],x,j=>by simp [pJ]
 | y::r,x,j=>by simp only [List.cons_append,pJ,Lb r x (j+1),List.length_cons];grind
theorem Ko {a:Int}:∀ {b:List Int} {j:Nat},a∉b->place a b j=none
 | [],_,_=>rfl
 | x::r,j,h=>by simp only [place];rw [if_neg λe=>h (by grind)];exact Ko λe=>h (List.mem_cons_of_mem _ e)
structure sC (h:Hp) (p:Addr) (ls:List Int):Prop where
 ex:∃(sl:Sl) (m:Nat),bf h p [sl.v,.map (some m)]/\Us h sl ls/\h m=some (.map (pJ ls 0).toArray ls.length)
theorem sC.mono {h b:Hp} {p:Addr} {c:List Int} (a:h<=b) (t:sC h p c):sC b p c:=by obtain ⟨sl,m,d,e,f⟩:=t.ex;exact ⟨sl,m,pk a d,e.mono a,a _ _ f⟩
theorem sC.sl {h:Hp} {p:Addr} {a:List Int} (t:sC h p a) {K:Sl->Prop} (d:∀sl,Us h sl a->K sl):aR none au h (p.add 0) K:=by
 obtain ⟨sl,m,b,c,e⟩:=t.ex;refine ⟨sl,λi v hv=> ?_,d sl c⟩;cases i with
 | zero=>have:=b 0 v (by simpa [bp,Sl.v] using hv);rw [tF];exact this
 | succ i=>simp [bp] at hv
theorem sC.F0 {h:Hp} {p:Addr} {a:List Int} (t:sC h p a) {c:Bool} {K:Sl->Prop} (e:∀sl,Us h sl a->K sl):aR (some c) au h (p.add 0) K:=by obtain ⟨sl,b,d⟩:=t.sl e;exact ⟨sl,λ_=>b,d⟩
theorem sC.map {h:Hp} {p:Addr} {a:List Int} (t:sC h p a) {K:Option Nat->Prop} (d:∀m,h m=some (.map (pJ a 0).toArray a.length)->K (some m)):aR none gv h (p.add 1) K:=by
 obtain ⟨sl,m,b,e,c⟩:=t.ex;refine ⟨some m,λi v hv=> ?_,d m c⟩;cases i with
 | zero=>have:=b 1 v (by simpa [bp] using hv);rw [tF];exact this
 | succ i=>simp [bp] at hv
theorem Mz {p:Addr} {a:List Int} {i:Int} {Q:Bool->Hp->Prop} {h:Hp} (t:sC h p a) (b:Q (decide (0<=i)&&decide (i<(a.length:Int))) h):Xo prog (some p) i Q h:=by unfold Xo;refine aP (t.F0 λsl c=>aJ ?_);rw [c.1];exact b
theorem Yc {p:Addr} {a:List Int} {i j:Int} {Q:Bool->Hp->Prop} {h:Hp} (t:sC h p a) (l:∀x∈a,kQ x) (d:Q (fl a i j) h):Wi prog (some p) i j Q h:=by
 unfold Wi;refine zse (Mz t ?_);generalize c:(decide (0<=i)&&decide (i<(a.length:Int)))=ci;refine ⟨λe=>zse (Mz t ?_),λe=>⟨false,?_⟩⟩
 ·generalize b:(decide (0<=j)&&decide (j<(a.length:Int)))=q;refine aJ ?_;subst e;rw [Bool.true_and];simp at c;refine aP (t.F0 λsl f=> ?_);refine Rs.pL f (0:Int) (λ_=>rfl) (by omega) (λ_=>c) λ(x:Int) m=> ?_;refine aP (t.F0 λo g=> ?_);refine Rs.pL g (0:Int) (λ_=>rfl) (by omega) (λe=>by grind) λ(y:Int) n=> ?_;refine ⟨λe=> ?_,λe=>⟨false,?_⟩⟩
  ·have ex:=m e;have k:=n e;rw [e] at b;simp at b;refine SB (WC (l x (List.mem_of_getElem? ex)) (l y (List.mem_of_getElem? k)) (aJ ?_));rw [e,Bool.true_and,<-FA ⟨c.1,b.1⟩ ex k];exact d
  ·refine aJ ?_;rw [e] at b ⊢;rw [Bool.false_and,<-Jt (xs:=a) (i:=i) (j:=j) (by simp at b;omega)];exact d
 ·subst e;simp at c;refine aJ ?_;rw [Bool.false_and];refine aP (t.F0 λsl f=> ?_);refine Rs.pL f (0:Int) (λ_=>rfl) (by omega) (λe=>by cases e) λ(x:Int) m=> ?_;refine aP (t.F0 λo g=> ?_);refine Rs.pL g (0:Int) (λ_=>rfl) (by omega) (λe=>by cases e) λ(y:Int) n=> ?_;refine ⟨λe=>(by cases e),λe=>⟨false,aJ ?_⟩⟩;rw [Bool.false_and,<-Jt (xs:=a) (i:=i) (j:=j) (by omega)];exact d
theorem RZ {s:Sl} {xs:List Int} {Q:Sl->Hp->Prop} {h:Hp} (r:Us h s xs) (j:xs.length<=1000000) (f:∀out b,h<=b->OM h b out xs->Q out b):Nq prog s Q h:=by
 unfold Nq;refine ⟨s.base.isNone,Oj (bG.bO 22 ye rfl) s,?_⟩;cases hb:s.base with
 | none=>
  rw [if_pos (show (none:Option Addr).isNone=true from rfl)];have:xs=[]:=by
   rcases r.2.2 with e | ⟨a,i,_⟩
   ·grind
   grind
  subst this;exact f _ h (Hp.le_refl h) ⟨rfl,Nat.le_refl _,.inl ⟨rfl,rfl⟩⟩
 | some a=>
  rw [lz];refine uP (xs:=([]:List Int)) (enc:=λx=>bp ((af .u64).enc x)) (sz:=1) (Hp.le_refl h) rfl (λ_=>rfl) λa g c d=> ?_;refine Ea c d (Rw.mono c r) (λ_=>rfl) (λ_=>rfl) rfl ?_ λm b k l _=> ?_
  ·simp;omega
  grind
theorem Zm {b:List Int} (g:b.Pairwise (· < ·)) {t:Nat} {x:Int} (h:b[t]? =some x):x∉b.take t:=by
 intro f;obtain ⟨i,a⟩:=List.mem_iff_getElem?.1 f;rw [List.getElem?_take] at a;split at a
 ·rename_i e;obtain ⟨c,j⟩:=List.getElem?_eq_some_iff.1 a;obtain ⟨d,k⟩:=List.getElem?_eq_some_iff.1 h;have:=List.pairwise_iff_getElem.1 g i t c d e;omega
 ·cases a
theorem VR {l:Sl} {a:List Int} {Q:Option Addr->Int->Int->Hp->Prop} {h:Hp} (r:Us h l a) (G:a.length<=8) (s:a.Pairwise (· < ·)) (L:a=[]->Q none 1 0 h)
  (E:a≠ []->∀p g,h<=g->sC g p a->Q (some p) 0 0 g):LG prog l Q h:=by
 unfold LG;refine Yx (VQ r G s (λe=> ?_) (λe=> ?_))
 ·grind
 rw [lz];refine zfw (RZ r (by omega) λout q y J=> ?_);intro m A;have z:q<=q.set m (.map #[] 0):=ni A;intro b t hb;have n:=ni (o:=.cells (([out.v,.map (some m)]:List Value).toArray) t (0,0)) hb;have I:h m=none:=uu y A;have M:b≠m:=λe=>by rw [e,nI] at hb;cases hb
 have K:Us q out a:=J.rw λ_=>rfl;refine ⟨_,rfl,out,?_,?_⟩
 ·intro i v hv;cases i with
  | zero=>rw [tF];exact Et 0 v (by simpa [bp,Sl.v] using hv)
  | succ i=>simp [bp] at hv
 refine aA.intro (λi k=>h<=k/\0<=i/\i<=(a.length:Int)/\Us k out a/\bf k ⟨b,0,none⟩ [out.v,.map (some m)]/\k m=some (.map (pJ (a.take i.toNat) 0).toArray i.toNat)) (λi _=>(a.length-i).toNat)
  ⟨Hp.le_trans y (Hp.le_trans z n),by omega,by omega,Rw.mono (Hp.le_trans z n) K,Et,n _ _ nI⟩ ?_
 rintro i k ⟨w,F,N,f,hp,d⟩;have O:=f.1;split
 ·rename_i e;have e:i<(out.len:Int):=by simpa using e
  refine Rs.get f (λ_=>rfl) (by omega) F (by omega) λ(x:Int) B=> ?_;refine ⟨_,rfl,some m,?_,?_⟩
  ·intro j v hv;cases j with
   | zero=>have:=hp 1 v (by simpa [bp] using hv);rw [tF];exact this
   | succ j=>simp [bp] at hv
  have H:(a.take i.toNat).length=i.toNat:=by grind
  refine ⟨m,_,_,rfl,d,.inl ⟨?_,?_⟩⟩
  ·have:=La x (a.take i.toNat) 0;rw [Ko (Zm s B)] at this;exact this
  ·have u:∀o,qd k (k.set m o):=λo=>VG d rfl;rw [aT];refine ⟨⟨wG w I,by omega,by omega,Rw.ck (u _) f,Ie (u _) hp,?_⟩,by omega⟩;rw [nI];have C:(i+1).toNat=i.toNat+1:=by omega
   have c:a.take (i.toNat+1)=a.take i.toNat++ [x]:=by rw [List.take_add_one,B];rfl
   rw [C,c,Lb,H];grind
 ·rename_i c;have c:¬i<(out.len:Int):=by simpa using c
  have D:i.toNat=a.length:=by omega
  rw [D,List.take_length] at d;exact E e _ _ w ⟨out,m,hp,f,d⟩
def qQ :Int->List Int->Int->Int×Int
 | _,[],_=>(0,0)
 | p,x::r,i=>if x=p then (8,i) else if x<p then (7,i) else qQ x r (i+1)
def jF :List Int->Int×Int
 | []=>(1,0)
 | x::r=>if 8<r.length+1 then (3,8) else qQ x r 1
theorem Lc :∀ {r:List Int} {p i:Int},(qQ p r i).1=0↔(p::r).Pairwise (· < ·)
 | [],p,i=>by simp [qQ]
 | x::r,p,i=>by
  simp only [qQ];by_cases b:x=p
  ·rw [if_pos b,List.pairwise_cons];refine ⟨λe=>(by cases e),λh=> ?_⟩;have:=h.1 x (List.mem_cons_self ..);omega
  ·rw [if_neg b];by_cases c:x<p
   ·rw [if_pos c,List.pairwise_cons];refine ⟨λe=>(by cases e),λh=> ?_⟩;have:=h.1 x (List.mem_cons_self ..);omega
   ·rw [if_neg c,Lc,List.pairwise_cons (a:=p)];refine ⟨λh=>⟨λy hy=> ?_,h⟩,λh=>h.2⟩;rcases List.mem_cons.1 hy with rfl | hy
    ·omega
    ·have:=(List.pairwise_cons.1 h).1 y hy;omega
theorem gU {a:List Int}:(jF a).1=0↔a≠ []/\a.length<=8/\a.Pairwise (· < ·):=by
 cases a with
 | nil=>simp [jF]
 | cons x r=>
  simp only [jF,List.length_cons];by_cases h:8<r.length+1
  ·grind
  ·rw [if_neg h,Lc];grind
theorem Ec {P:Program} {l:Sl} {f:List Int} {Q:Int->Int->Hp->Prop} {h:Hp} (r:Us h l f) (e:Q (jF f).1 (jF f).2 h):LD P l Q h:=by
 unfold LD;have o:=r.1;cases u:f with
 | nil=>subst u;rw [if_pos (by simp [o])];exact e
 | cons b a=>
  subst u;simp only [List.length_cons] at o;rw [if_neg (show ¬(((l.len:Int)==0)=true) by simp;omega)];by_cases m:(l.len:Int)>8
  ·rw [if_pos (decide_eq_true m)];have:jF (b::a)=(3,8):=by simp only [jF];grind
   grind
  rw [if_neg λg=>m (of_decide_eq_true g)];have E:jF (b::a)=qQ b a 1:=by simp only [jF];grind
  rw [E] at e;refine aA.intro (λi k=>k=h/\1<=i/\i<=((a.length:Int)+1)/\∃p,(b::a)[(i-1).toNat]? =some p/\qQ p ((b::a).drop i.toNat) i=qQ b a 1) (λi _=>(a.length+1-i).toNat)
   ⟨rfl,by omega,by omega,b,rfl,rfl⟩ ?_
  rintro i k ⟨rfl,F,G,p,hp,c⟩;split
  ·rename_i d;have d:i<(l.len:Int):=by simpa using d
   have H:((b::a).length:Int)=(a.length:Int)+1:=by simp
   rw [wrap64 (n:=i-1) (by omega) (by omega)];refine r.get (λ_=>rfl) (by omega) (by omega) (by omega) λ(x:Int) j=> ?_;refine r.get (λ_=>rfl) (by omega) (by omega) (by omega) λ(y:Int) v=> ?_;rw [hp] at v;cases v;have D:(b::a).drop i.toNat=x::(b::a).drop (i.toNat+1):=by obtain ⟨B,C⟩:=List.getElem?_eq_some_iff.1 j;rw [List.drop_eq_getElem_cons B,C]
   rw [D] at c;simp only [qQ] at c;by_cases t:x=p
   ·grind
   rw [if_neg (by simpa using t)];rw [if_neg t] at c;refine r.get (λ_=>rfl) (by omega) (by omega) (by omega) λ(I:Int) s=> ?_;rw [j] at s;cases s;refine r.get (λ_=>rfl) (by omega) (by omega) (by omega) λ(J:Int) w=> ?_;rw [hp] at w;cases w;by_cases q:x<p
   ·grind
   rw [if_neg λg=>q (of_decide_eq_true g)];rw [if_neg q] at c;rw [aT];have z:(i+1).toNat=i.toNat+1:=by omega
   have A:(i+1-1).toNat=i.toNat:=by omega
   exact ⟨⟨rfl,by omega,by omega,x,by rw [A];exact j,by rw [z];exact c⟩,by omega⟩
  ·rename_i d;have d:¬i<(l.len:Int):=by simpa using d
   rw [List.drop_eq_nil_of_le (by simp;omega)] at c;rw [<-c] at e;exact e
theorem T9 {l:Sl} {a:List Int} {Q:Option Addr->Int->Int->Hp->Prop} {h:Hp} (r:Us h l a) (j:(jF a).1≠0->Q none (jF a).1 (jF a).2 h)
  (d:(jF a).1=0->∀p b,h<=b->sC b p a->Q (some p) 0 0 b):LG prog l Q h:=by
 by_cases c:(jF a).1=0
 ·obtain ⟨i,g,f⟩:=gU.1 c;exact VR r g f (λe=>absurd e i) λ_=>d c
 ·unfold LG;refine Yx (Ec r ?_);grind
def cZ {c d:Type} (R:c->d->Prop):List c->List d->Prop
 | [],[]=>True
 | a::l,b::m=>R a b/\cZ R l m
 | _,_=>False
section
variable {α β:Type} {R S:α->β->Prop}
theorem cZ.len :∀ {l:List α} {m:List β},cZ R l m->l.length=m.length
 | [],[],_=>rfl
 | _::l,_::m,h=>by simp [cZ.len h.2]
 | [],_::_,h=>h.elim
 | _::_,[],h=>h.elim
theorem cZ.imp (c:∀a b,R a b->S a b):∀ {l:List α} {m:List β},cZ R l m->cZ S l m
 | [],[],_=>trivial
 | _::_,_::_,h=>⟨c _ _ h.1,cZ.imp c h.2⟩
 | [],_::_,h=>h.elim
 | _::_,[],h=>h.elim
theorem cZ.get :∀ {l:List α} {m:List β} {i:Nat} {a:α},cZ R l m->l[i]? =some a->∃b,m[i]? =some b/\R a b
 | [],_,_,_,_,e=>by simp at e
 | _::_,[],_,_,h,_=>h.elim
 | _::_,b::_,0,_,h,e=>by simp at e;subst e;exact ⟨b,rfl,h.1⟩
 | _::_,_::_,i+1,_,h,e=>by rw [List.getElem?_cons_succ] at e;obtain ⟨b,c,d⟩:=cZ.get h.2 e;grind
theorem cZ.get' :∀ {l:List α} {m:List β} {i:Nat} {b:β},cZ R l m->m[i]? =some b->∃a,l[i]? =some a/\R a b
 | _,[],_,_,_,e=>by simp at e
 | [],_::_,_,_,h,_=>h.elim
 | a::_,_::_,0,_,h,e=>by simp at e;subst e;exact ⟨a,rfl,h.1⟩
 | _::_,_::_,i+1,_,h,e=>by rw [List.getElem?_cons_succ] at e;obtain ⟨b,c,d⟩:=cZ.get' h.2 e;grind
theorem cZ.app :∀ {l a:List α} {m b:List β},cZ R l m->cZ R a b->cZ R (l++a) (m++b)
 | [],_,[],_,_,h=>h
 | _::_,_,_::_,_,h,c=>⟨h.1,cZ.app h.2 c⟩
 | [],_,_::_,_,h,_=>h.elim
 | _::_,_,[],_,h,_=>h.elim
theorem cZ.drop :∀ {l:List α} {m:List β} (n:Nat),cZ R l m->cZ R (l.drop n) (m.drop n)
 | _,_,0,h=>h
 | [],[],_+1,h=>h
 | _::_,_::_,n+1,h=>cZ.drop n h.2
 | [],_::_,_+1,h=>h.elim
 | _::_,[],_+1,h=>h.elim
theorem cZ.take :∀ {l:List α} {m:List β} (n:Nat),cZ R l m->cZ R (l.take n) (m.take n)
 | _,_,0,_=>trivial
 | [],[],_+1,h=>h
 | _::_,_::_,n+1,h=>⟨h.1,cZ.take n h.2⟩
 | [],_::_,_+1,h=>h.elim
 | _::_,[],_+1,h=>h.elim
end
def jY (h:Hp) (q:aU) (p:fG):Prop:=q.Part=p.part/\∃a,mV h q.Code a/\a.map bd=p.code
abbrev Fk (h:Hp) (l:Sl) (a:List aU):Prop:=Rs h bA 2 l a
structure fo (h:Hp) (c:an) (p:aE):Prop where
 labels:Us h c.aN p.labels
 table:Is h c.Table p.table
 fuel:c.Fuel=p.fuel
 lane:c.gH=p.lane
 ae:c.bQ=p.ae
 log:c.Log=p.log
 procs:∃ps,Fk h c.aG ps/\cZ (jY h) ps p.procs
section
variable {h b:Hp}
theorem jY.mono (f:h<=b) {q:aU} {p:fG} (a:jY h q p):jY b q p:=by obtain ⟨c,g,d,e⟩:=a;exact ⟨c,g,Rw.mono f d,e⟩
theorem fo.mono (d:h<=b) {c:an} {p:aE} (a:fo h c p):fo b c p:=by obtain ⟨i,f,g⟩:=a.procs;exact ⟨Rw.mono d a.labels,Rw.mono d a.table,a.fuel,a.lane,a.ae,a.log,i,Rw.mono d f,g.imp λ_ _ e=>e.mono d⟩
end
section
variable {P:Program} {h:Hp}
theorem M4 {n a b:Int} {Q:Bool->Hp->Prop} (c:Q (within n a b) h):YL P n a b Q h:=by unfold YL;exact aJ c
theorem Ed {n iA:Int} {Q:Int->Hp->Prop} (a:Q (fJ iA n) h):BP P n iA Q h:=by unfold BP;unfold fJ at a;grind
def pz (part n:Int):Int:=if part=2 then dg 1 256 n else if part=3 then dg 1 64 n else if part=4 then dg 0 8 n else if part=5 then dg 0 4096 n else 0
theorem Ld {part n:Int} {Q:Int->Hp->Prop} (c:Q (pz part n) h):YK prog part n Q h:=by
 unfold YK;unfold pz at c;have one:∀a b,Q (dg a b n) h->(if (!(within n a b))=true then Q 2 h else Q 0 h):=λa b c=>by unfold dg at c;grind
 by_cases d:part=2
 ·rw [if_pos d] at c;rw [if_pos (by simpa using d)];exact Jl (M4 (one 1 256 c))
 ·rw [if_neg d] at c;rw [if_neg (by simpa using d)];by_cases e:part=3
  ·rw [if_pos e] at c;rw [if_pos (by simpa using e)];exact Jl (M4 (one 1 64 c))
  ·rw [if_neg e] at c;rw [if_neg (by simpa using e)];by_cases f:part=4
   ·rw [if_pos f] at c;rw [if_pos (by simpa using f)];exact Jl (M4 (one 0 8 c))
   ·rw [if_neg f] at c;rw [if_neg (by simpa using f)];by_cases g:part=5
    ·rw [if_pos g] at c;rw [if_pos (by simpa using g)];exact Jl (M4 (one 0 4096 c))
    grind
end
theorem I7 {h:Hp} {s:Sl} {a:List Int} {p:Int->Bool} {f:xm} {Q:Int->Hp->Prop} (r:Is h s a) (w:a.length<=1000000)
  (n:∀x∈a,∀(k:Hp) (K:Bool->Hp->Prop),h<=k->(∀d,h<=d->K (p x) d)->gK prog tb (.func (.func f.g) f.first f.captured) [.int .i64 x] bn K k)
  (q:∀i j,h<=j->(0<=i↔a.any p=true)->Q i j):Rg prog s f Q h:=by
 unfold Rg;have z:=r.1;refine aA.intro (λi k=>h<=k/\0<=i/\i<=(a.length:Int)/\∀x∈a.take i.toNat,p x=false) (λi _=>(a.length-i).toNat) ⟨Hp.le_refl h,by omega,by omega,λx b=>by simp at b⟩ ?_;rintro i k ⟨c,m,v,u⟩;by_cases l:i<(a.length:Int)
 ·rw [if_pos (iV)];refine Rs.get (sh:=af .i64) (Rw.mono c r) (λ_=>rfl) (by omega) m l λx b=> ?_;refine n x (List.mem_of_getElem? b) k _ c λd o=> ?_;cases hp:p x with
  | true=>grind
  | false=>
   rw [lz,aT];refine ⟨⟨o,by omega,by omega,λy t=> ?_⟩,by omega⟩;have:(i+1).toNat=i.toNat+1:=by omega
   rw [this,List.take_add_one,b] at t;grind
 ·rw [if_neg (λe=>l (by grind))];refine q (-1) k c ⟨λe=>by omega,λe=> ?_⟩;obtain ⟨x,b,hp⟩:=List.any_eq_true.1 e;have:a.take i.toNat=a:=List.take_of_length_le (by omega);grind
theorem P8 {s:Sl} {xs:List Int} {Q:Sl->Hp->Prop} {h:Hp} (r:Is h s xs) (j:xs.length<=1000000) (f:∀out b,h<=b->OL h b out xs->Q out b):EK prog s Q h:=by
 unfold EK;refine ⟨s.base.isNone,Oj (bG.bO 23 tf rfl) s,?_⟩;cases hb:s.base with
 | none=>
  rw [if_pos (show (none:Option Addr).isNone=true from rfl)];have:xs=[]:=by
   rcases r.2.2 with e | ⟨a,i,_⟩
   ·grind
   grind
  subst this;exact f _ h (Hp.le_refl h) ⟨rfl,Nat.le_refl _,.inl ⟨rfl,rfl⟩⟩
 | some a=>
  rw [lz];refine uP (xs:=([]:List Int)) (enc:=λx=>bp ((af .i64).enc x)) (sz:=1) (Hp.le_refl h) rfl (λ_=>rfl) λa g c d=> ?_;refine Ea c d (Rw.mono c r) (λ_=>rfl) (λ_=>rfl) rfl ?_ λm b k l _=> ?_
  ·simp;omega
  grind
theorem Yd {h:Hp} {t:Sl} {xs:List Int} {n:Int} {Q:Option Addr->Int->Int->Hp->Prop} (r:Is h t xs) (D:1<=n) (F:n<=8) (B:xs≠ []) (G:xs.length<=64)
  (m:∀p i d,h<=d->Q p (if (xs.all λx=>within x 0 (n-1))=false then 2 else 0) i d):LB prog t n Q h:=by
 unfold LB;have H:=r.1;have J:0<xs.length:=List.length_pos_iff.2 B;intro b ty z;have l:=ni (o:=.cells (#[Value.int .i64 n]) ty (0,0)) z;have a:bf (h.set b (.cells (#[Value.int .i64 n]) ty (0,0))) ⟨b,0,none⟩ [.int .i64 n]:=Et (cs:=[Value.int .i64 n]);refine cT (sh:=af .i64) n a ?_;refine ⟨n,λ_=>a,?_⟩;refine aJ (aJ ?_);rw [if_neg (by simp;omega),if_neg (by simp;omega)];have y:(xs.any λx=>decide (x<0) || decide (x>=n))= !(xs.all λx=>within x 0 (n-1)):=by
  rw [Bool.eq_iff_iff];simp only [List.any_eq_true,Bool.not_eq_true',List.all_eq_false,Bool.or_eq_true,decide_eq_true_eq];constructor
  ·rintro ⟨x,q,hb⟩;exact ⟨x,q,by rw [de];omega⟩
  ·rintro ⟨x,q,hb⟩;exact ⟨x,q,by rw [de] at hb;omega⟩
 refine zhj (f:=⟨KC, #[], #[.pointer (some ⟨b,0,none⟩)]⟩) (I7 (p:=λx=>decide (x<0) || decide (x>=n)) (Rw.mono l r) (by omega) (λx _ k K u w=> ?_) λi d c j=> ?_)
 ·refine tv (g:=KC) rfl (zxc ?_);unfold YM;refine ⟨n,λ_=>pk u a,aJ (w k u)⟩
 ·dsimp only;rw [y] at j;cases s:(xs.all λx=>within x 0 (n-1)) with
  | false=>rw [s] at j m;rw [if_pos (decide_eq_true (j.2 rfl))];exact m none i d (Hp.le_trans l c)
  | true=>rw [s] at j m;rw [if_neg (λe=>by grind)];refine cT (sh:=af .i64) n (pk c a) ?_;refine Nu (P8 (Rw.mono (Hp.le_trans l c) r) (by omega) λout E v I=> ?_);refine ⟨⟨pk (Hp.le_trans c v) a,trivial⟩,?_⟩;intro C t2 A;exact m _ 0 _ (Hp.le_trans (Hp.le_trans l c) (Hp.le_trans v (ni A)))
def ov :List Int->Int->Int×Int->Int×Int
 | [],_,z=>z
 | n::r,i,z=>if pz i n≠0 then (pz i n,i) else ov r (i+1) z
def rR (c:aE):Int×Int:=if c.procs=[] then (1,6) else if 32<c.procs.length then (3,6) else uz c.labels.length c.ae c.procs 0
theorem Qa (m:Int) (c:aE):sE m c=if m≠0 then (m,0) else if c.table=[] then (1,1) else if 64<c.table.length then (3,1)
  else if (c.table.all λp=>within p 0 (c.labels.length-1))=false then (2,1) else ov [0,0,c.fuel,c.lane,c.ae,c.log] 0 (rR c):=by
 unfold sE;have a:pz 0 0=0:=rfl;have b:pz (0+1) 0=0:=rfl;have d:pz (0+1+1) c.fuel=dg 1 256 c.fuel:=rfl;have e:pz (0+1+1+1) c.lane=dg 1 64 c.lane:=rfl;have f:pz (0+1+1+1+1) c.ae=dg 0 8 c.ae:=rfl;have g:pz (0+1+1+1+1+1) c.log=dg 0 4096 c.log:=rfl;simp only [ov,a,b,d,e,f,g,ne_eq,not_true_eq_false,if_false];unfold dg rR;grind
def fV (c:aE):Int×Int:=sE (jF c.labels).1 c
theorem Zn {h:Hp} {c:an} {p:aE} {Q:Int->Int->Hp->Prop} (a:fo h c p) (b:∀z,h<=z->Q (fV p).1 (fV p).2 z):Ct prog c Q h:=by
 unfold Ct;have le:=Hp.le_refl h;unfold fV at b;rw [Qa] at b;refine Yx (Ec a.labels ?_);dsimp only;by_cases m:(jF p.labels).1≠0
 ·grind
 rw [if_neg m] at b;rw [if_neg (by simpa using m)];obtain ⟨O,b1,_⟩:=gU.1 (Classical.not_not.1 m);have R:=a.labels.1;have U:=a.table.1;have b2:0<p.labels.length:=List.length_pos_iff.2 O;refine Yw (Ed ?_);by_cases g:p.table=[]
 ·rw [if_pos g] at b;have e:fJ 64 (c.Table.len:Int)=1:=by unfold fJ;rw [if_pos (by rw [U,g];rfl)]
  grind
 rw [if_neg g] at b;have b4:0<p.table.length:=List.length_pos_iff.2 g;by_cases A:64<p.table.length
 ·rw [if_pos A] at b;have e:fJ 64 (c.Table.len:Int)=3:=by unfold fJ;rw [pN,if_pos (by omega)]
  grind
 rw [if_neg A] at b;have e:fJ 64 (c.Table.len:Int)=0:=by unfold fJ;omega
 rw [e,if_neg (by simp)];rw [R];refine H5 (Yd a.table (by omega) (by omega) g (by omega) λsp si B a8=> ?_);dsimp only;by_cases L:(p.table.all λx=>within x 0 (p.labels.length-1))=false
 ·grind
 rw [if_neg L] at b;rw [if_neg (by grind)];refine uP (h0:=B) (xs:=([0,0,p.fuel,p.lane,p.ae,p.log]:List Int)) (enc:=λx=>bp ((af .i64).enc x)) (sz:=1) (Hp.le_refl B) (by rw [a.fuel,a.lane,a.ae,a.log];rfl) (λ_=>rfl) λy C a9 o4=> ?_;have r4:Is C ⟨some y,6,6⟩ [0,0,p.fuel,p.lane,p.ae,p.log]:=o4.rw λ_=>rfl;have b0:=Hp.le_trans a8 a9;obtain ⟨w,H,F⟩:=a.procs;have S:=H.1;have T:=F.len;refine aA.intro (λi k=>C<=k/\0<=i/\i<=6/\ov (([0,0,p.fuel,p.lane,p.ae,p.log]:List Int).drop i.toNat) i (rR p)=ov [0,0,p.fuel,p.lane,p.ae,p.log] 0 (rR p)) (λi _=>(6-i).toNat) ⟨Hp.le_refl _,by omega,by omega,rfl⟩ ?_;rintro i k ⟨t,h0,M,d⟩;have P:=Hp.le_trans b0 t;by_cases o:i<6
 ·rw [if_pos (decide_eq_true o)];refine Rs.get (sh:=af .i64) (l:=⟨some y,6,6⟩) (Rw.mono t r4) (λ_=>rfl) (by omega) h0 (by simpa using o) λx I=> ?_;refine zxb (Ld ?_);have s:([0,0,p.fuel,p.lane,p.ae,p.log]:List Int).drop i.toNat=x::([0,0,p.fuel,p.lane,p.ae,p.log]:List Int).drop (i.toNat+1):=by grind
  rw [s,ov] at d;by_cases f:pz i x≠0
  ·grind
  ·rw [if_neg f] at d;rw [if_neg (by simpa using f),aT];refine ⟨⟨t,by omega,by omega,?_⟩,by omega⟩;have:(i+1).toNat=i.toNat+1:=by omega
   grind
 ·rw [if_neg (λe=>o (of_decide_eq_true e))];have:i=6:=by omega
  subst this;rw [show ([0,0,p.fuel,p.lane,p.ae,p.log]:List Int).drop (6:Int).toNat=[] from rfl,ov] at d;rw [<-d] at b;unfold rR at b;refine Yw (Ed ?_);by_cases f:p.procs=[]
  ·rw [if_pos f] at b;have e:fJ 32 (c.aG.len:Int)=1:=by unfold fJ;rw [if_pos (by rw [S,T,f];rfl)]
   grind
  rw [if_neg f] at b;have b3:0<p.procs.length:=List.length_pos_iff.2 f;by_cases D:32<p.procs.length
  ·rw [if_pos D] at b;have e:fJ 32 (c.aG.len:Int)=3:=by unfold fJ;rw [pN,if_pos (by omega)]
   grind
  rw [if_neg D] at b;have e:fJ 32 (c.aG.len:Int)=0:=by unfold fJ;omega
  rw [e,if_neg (by simp)];refine aA.intro (λi J=>k<=J/\0<=i/\i<=(w.length:Int)/\uz p.labels.length p.ae (p.procs.drop i.toNat) i=uz p.labels.length p.ae p.procs 0) (λi _=>(w.length-i).toNat) ⟨Hp.le_refl _,by omega,by omega,rfl⟩ ?_;rintro i J ⟨G,h0,M,d⟩;have u:=Hp.le_trans P G;by_cases E:i<(w.length:Int)
  ·rw [if_pos (iV)];refine Rs.get (sh:=bA) (Rw.mono u H) (λ_=>rfl) (by omega) h0 E λq I=> ?_;obtain ⟨v,W,X,is,N,V⟩:=F.get I;have s:p.procs.drop i.toNat=v::p.procs.drop (i.toNat+1):=by obtain ⟨b5,Y⟩:=List.getElem?_eq_some_iff.1 W;rw [<-Y];simp
   rw [s,uz] at d;rw [wrap64 (n:=(p.labels.length:Int)-1) (by omega) (by omega)];refine Jl (M4 ?_);rw [X];by_cases r:within v.part 0 ((p.labels.length:Int)-1)=false
   ·rw [if_pos r] at d;rw [if_pos (by rw [r];rfl),aT];grind
   rw [if_neg r] at d;rw [if_neg (by grind)];refine Wr (Zk (Rw.mono u N) λZ K=> ?_);dsimp only;rw [V,a.ae];by_cases j:(jJ v.code p.ae).1≠0
   ·rw [if_pos j] at d;rw [if_pos (by simpa using j),aT];rw [<-d] at b;exact b Z (Hp.le_trans u K)
   ·rw [if_neg j] at d;rw [if_neg (by simpa using j),aT];refine ⟨⟨Hp.le_trans G K,by omega,by omega,?_⟩,by omega⟩;grind
  ·rw [if_neg (λe=>E (by have:=of_decide_eq_true e;omega))];rw [List.drop_eq_nil_of_le (by omega),uz] at d;grind
def AP (x:bJ):mU:=⟨x.dp,x.fh⟩
def AR (x:fc):qY:=⟨x.fg,x.dp,x.fh⟩
abbrev Fq (h:Hp) (l:Sl) (a:List bJ):Prop:=Rs h aH 2 l a
abbrev OH (h:Hp) (l:Sl) (a:List fc):Prop:=Rs h dK 3 l a
structure jV (h:Hp) (x:cl) (p:bq):Prop where
 values:Is h x.dZ p.values
 waiters:∃ws,Fq h x.cM ws/\ws.map AP=p.waiters
 taken:x.lK=p.taken
 dropped:x.iF=p.dropped
structure dj (h:Hp) (x:br) (p:ak):Prop where
 state:x.State=p.state
 pc:x.PC=p.pc
 bw: [x.cw,x.cx,x.cC,x.cD,x.cE,x.cF,x.cG,x.cH]=p.bw
 ah:x.Cursor=p.ah
 timer:x.Timer=p.timer
 bL:x.km=p.bL
 cv:x.n8=p.cv
 aj:∃ls,Rs h bR 4 x.fL ls/\cZ (jV h) ls p.aj
structure gA (h:Hp) (x:cc) (p:dv):Prop where
 ah:x.Cursor=p.ah
 log:∃es,OH h x.Log es/\es.map AR=p.log
 lost:x.nX=p.lost
 forbidden:x.eN=p.forbidden
 aB:Is h x.eO p.aB
 av:∃qs,Rs h au 1 x.dO qs/\cZ (Is h) qs p.av
structure dq (h:Hp) (x:aD) (p:fT):Prop where
 tick:x.fg=p.tick
 parts:∃ps,Rs h cg 6 x.bZ ps/\cZ (gA h) ps p.parts
 procs:∃ps,Rs h bB 15 x.aG ps/\cZ (dj h) ps p.procs
section
variable {h b:Hp}
theorem jV.mono (c:h<=b) {x:cl} {p:bq} (a:jV h x p):jV b x p:=by obtain ⟨f,d,e⟩:=a.waiters;exact ⟨Rw.mono c a.values,⟨f,Rw.mono c d,e⟩,a.taken,a.dropped⟩
theorem dj.mono (c:h<=b) {x:br} {p:ak} (a:dj h x p):dj b x p:=by obtain ⟨g,d,f⟩:=a.aj;exact ⟨a.state,a.pc,a.bw,a.ah,a.timer,a.bL,a.cv,g,Rw.mono c d,f.imp λ_ _ e=>e.mono c⟩
theorem gA.mono (c:h<=b) {x:cc} {p:dv} (a:gA h x p):gA b x p:=by obtain ⟨es,d,f⟩:=a.log;obtain ⟨qs,g,i⟩:=a.av;exact ⟨a.ah,⟨es,Rw.mono c d,f⟩,a.lost,a.forbidden,Rw.mono c a.aB,qs,Rw.mono c g,i.imp λ_ _ e=>Rw.mono c e⟩
theorem dq.mono (c:h<=b) {x:aD} {p:fT} (a:dq h x p):dq b x p:=by obtain ⟨j,d,f⟩:=a.parts;obtain ⟨qs,g,i⟩:=a.procs;exact ⟨a.tick,⟨j,Rw.mono c d,f.imp λ_ _ e=>e.mono c⟩,qs,Rw.mono c g,i.imp λ_ _ e=>e.mono c⟩
end
section
end
theorem vF {a:Type} {c:Bool} {A:(a->Hp->Prop)->Hp->Prop} {K:a->Hp->Prop} {h:Hp} (p:a->Prop) (f:a) (g:c=true->(∀x,p x->K x h)->A K h) (d:∀x,(c=true->p x)->K x h):cY (some c) A K h:=
 ⟨λb=>g b λx hp=>d x λ_=>hp,λb=>⟨f,d f λe=>by grind⟩⟩
theorem vR {sh:Shape} {c:Bool} {h:Hp} {a:Addr} {K:sh.T->Prop} (x:sh.T) (d:bf h a (bp (sh.enc x))) (b:K x):aR (some c) sh h a K:=⟨x,λ_=>d,b⟩
section
end
def pE {e f:Type} (R:e->f->Hp->List Nat->Prop):List e->List f->Hp->List Nat->Prop
 | [],[],_,B=>B=[]
 | a::l,b::m,h,B=>∃c d,B=c++d/\R a b h c/\pE R l m h d
 | _,_,_,_=>False
structure iE {α β:Type} (R:α->β->Hp->List Nat->Prop):Prop where
 same:∀ {a b h h' B},R a b h B->(∀c∈B,h' c=h c)->R a b h' B
 known:∀ {a b h B},R a b h B->∀c∈B,h c≠none
section
variable {α β:Type} {R:α->β->Hp->List Nat->Prop} {h d:Hp}
theorem pE.same (ok:iE R):∀ {l:List α} {m:List β} {B:List Nat},pE R l m h B->(∀c∈B,d c=h c)->pE R l m d B
 | [],[],_,o,_=>o
 | _::_,_::_,_,⟨b,f,e,i,j⟩,a=>⟨b,f,e,ok.same i λc g=>a c (by grind),pE.same ok j λc g=>a c (by grind)⟩
 | [],_::_,_,o,_=>o.elim
 | _::_,[],_,o,_=>o.elim
theorem pE.known (ok:iE R):∀ {l:List α} {m:List β} {B:List Nat},pE R l m h B->∀c∈B,h c≠none
 | [],[],_,o,c,hc=>by rw [show _=[] from o] at hc;cases hc
 | _::_,_::_,_,⟨f,g,e,a,b⟩,c,hc=>by
  rw [e] at hc;rcases List.mem_append.1 hc with hc | hc
  ·exact ok.known a c hc
  ·exact pE.known ok b c hc
 | [],_::_,_,o,_,_=>o.elim
 | _::_,[],_,o,_,_=>o.elim
theorem pE.snoc {a:α} {b:β} {B':List Nat} (e:R a b h B'):∀ {l:List α} {m:List β} {B:List Nat},pE R l m h B->pE R (l++ [a]) (m++ [b]) h (B++B')
 | [],[],_,o=>by rw [show _=[] from o];exact ⟨B',[],by simp,e,rfl⟩
 | _::_,_::_,_,⟨c,f,j,g,i⟩=>⟨c,f++B',by grind,g,pE.snoc e i⟩
 | [],_::_,_,o=>o.elim
 | _::_,[],_,o=>o.elim
theorem pE.AY {S:α->β->Prop} (c:∀a b B,R a b h B->S a b):∀ {l:List α} {m:List β} {B:List Nat},pE R l m h B->cZ S l m
 | [],[],_,_=>trivial
 | _::_,_::_,_,⟨e,_,_,f,g⟩=>⟨c _ _ e f,pE.AY c g⟩
 | [],_::_,_,o=>o.elim
 | _::_,[],_,o=>o.elim
theorem du.one {sz:Nat} {enc:α->List Value} {l:Sl} {a:List α} {F:List Nat} (o:du h sz enc l a F):F=[]\/∃b,F=[b]:=by obtain ⟨_,_,o⟩:=o;grind
theorem du.nodup {sz:Nat} {enc:α->List Value} {l:Sl} {a:List α} {F:List Nat} (o:du h sz enc l a F):F.Nodup:=by rcases o.one with e | ⟨b,e⟩<;>rw [e]<;>simp
end
def fp {c d:Type} (S:c->d->Prop) (a:c) (b:d) (_:Hp) (B:List Nat):Prop:=B=[]/\S a b
theorem fp.ok {α β:Type} (S:α->β->Prop):iE (fp S):=⟨λo _=>o,λo c a=>by rw [o.1] at a;cases a⟩
def bM {c:Type} (sh:Shape) (sz:Nat) (R:sh.T->c->Hp->List Nat->Prop) (l:Sl) (d:List c) (h:Hp) (B:List Nat):Prop:=
 ∃(xs:List sh.T) (a b:List Nat),B=a++b/\du h sz (λx=>bp (sh.enc x)) l xs a/\pE R xs d h b
section
variable {β:Type} {sh:Shape} {sz:Nat} {R:sh.T->β->Hp->List Nat->Prop} {l:Sl} {ps:List β} {h d:Hp} {B:List Nat}
theorem bM.nil :bM sh sz R ⟨none,0,0⟩ [] h []:=⟨[],[],[],rfl,⟨rfl,Nat.le_refl _,.inl ⟨rfl,rfl,rfl⟩⟩,rfl⟩
theorem bM.ok (ok:iE R):iE (bM sh sz R) where
 same:=by rintro a b h d B ⟨xs,i,j,e,f,g⟩ k;exact ⟨xs,i,j,e,f.same λc hc=>k c (by grind),g.same ok λc hc=>k c (by grind)⟩
 known:=by
  rintro a b h B ⟨xs,i,j,e,f,g⟩ c hc;rw [e] at hc;rcases List.mem_append.1 hc with hc | hc
  ·exact f.known c hc
  ·exact g.known ok c hc
theorem bM.len (o:bM sh sz R l ps h B):l.len=ps.length:=by obtain ⟨xs,c,f,e,a,b⟩:=o;have:=(b.AY (S:=λ_ _=>True) λ_ _ _ _=>trivial).len;rw [<-this];exact a.1
theorem bM.rows {S:sh.T->β->Prop} (f:∀x,(bp (sh.enc x)).length=sz) (g:∀a b B,R a b h B->S a b) (o:bM sh sz R l ps h B):∃c,Rs h sh sz l c/\cZ S c ps:=by obtain ⟨c,k,m,e,i,j⟩:=o;exact ⟨c,i.rw f,j.AY g⟩
theorem wJ (ok:iE R) (o:bM sh sz R l ps h B) {v:sh.T} {p:β} {B':List Nat} (e:R v p h B') (nd:(B++B').Nodup) {x:Sl} (J:Rs h sh sz x [v]) (D:∀x,(bp (sh.enc x)).length=sz) (I:∀x,ji (bp (sh.enc x))=true)
  {zero:List Value} {bytes:Nat} (M:zero.length=sz) (hb:ps.length+1<=140737488355328/\(ps.length+1)*bytes<=140737488355328) {K:Sl->Hp->Prop}
  (F:∀i d k,bM sh sz R i (ps++ [p]) d k->k.Nodup->(∀b j,h b=some j->b∉B->d b=some j)->(∀c∈k,c∈B++B'\/h c=none)->K i d):fu sz bytes zero l x K h:=by
 have G:=o.len;obtain ⟨w,y,f,g,s,u⟩:=o;have L:w.length=ps.length:=by rw [<-G];exact s.1.symm
 have N:=u.known ok;have O:=ok.known e;refine xN s J D I M (by rw [L];exact hb) λi d n t m=> ?_;rw [g] at nd;have W:=nd;rw [List.append_assoc,List.nodup_append] at nd;obtain ⟨V,Q,S⟩:=nd;have q:∀c∈f++B',c∉y:=λc hc hb=>S c hb c hc rfl;have P:∀c∈f++B',h c≠none:=λc hc=>by
  rcases List.mem_append.1 hc with hc | hc
  ·exact N c hc
  ·exact O c hc
 have r:∀c∈f++B',d c=h c:=zj m P q;have U:=(u.same ok λc hc=>r c (List.mem_append_left _ hc)).snoc (ok.same e λc hc=>r c (List.mem_append_right _ hc));have E:∀c∈n++(f++B'),c∈B++B'\/h c=none:=λc hc=>by
  rcases List.mem_append.1 hc with hc | hc
  ·rcases m.from_ c hc with hc | hc
   ·exact .inl (by rw [g];simp [hc])
   ·exact .inr hc
  ·refine .inl ?_;rw [g,List.append_assoc];exact List.mem_append_right _ hc
 refine F i d (n++(f++B')) ⟨w++ [v],n,f++B',rfl,t,U⟩ ?_ (λb j hb H=>m.bK b j hb λC=>H (by rw [g];simp [C])) E;rw [List.nodup_append];refine ⟨t.nodup,Q,λa z b hb A=> ?_⟩;subst A;rcases m.from_ a z with hc | hc
 ·exact q a hb hc
 grind
end
abbrev Ab (l:Sl) (a:List Int) (h:Hp) (B:List Nat):Prop:=bM (af .i64) 1 (fp Eq) l a h B
abbrev Nd (l:Sl) (a:List Int) (h:Hp) (B:List Nat):Prop:=bM (af .u64) 1 (fp Eq) l a h B
abbrev uB (l:Sl) (xs:List cX) (h:Hp) (B:List Nat):Prop:=bM aV 5 (fp λx p=>bd x=p) l xs h B
def qj (q:aU) (p:fG) (h:Hp) (B:List Nat):Prop:=q.Part=p.part/\uB q.Code p.code h B
abbrev Ju (l:Sl) (a:List fG) (h:Hp) (B:List Nat):Prop:=bM bA 2 qj l a h B
def rh (x:cl) (p:bq) (h:Hp) (B:List Nat):Prop:=
 ∃a b,B=a++b/\Ab x.dZ p.values h a/\bM aH 2 (fp λx p=>AP x=p) x.cM p.waiters h b/\x.lK=p.taken/\x.iF=p.dropped
def mw (x:br) (p:ak) (h:Hp) (B:List Nat):Prop:=
 bM bR 4 rh x.fL p.aj h B/\x.State=p.state/\x.PC=p.pc/\ [x.cw,x.cx,x.cC,x.cD,x.cE,x.cF,x.cG,x.cH]=p.bw/\x.Cursor=p.ah/\x.Timer=p.timer/\x.km=p.bL/\x.n8=p.cv
def tK (x:cc) (p:dv) (h:Hp) (B:List Nat):Prop:=
 ∃a b c,B=a++(b++c)/\bM dK 3 (fp λx p=>AR x=p) x.Log p.log h a/\Ab x.eO p.aB h b/\bM au 1 Ab x.dO p.av h c/\x.Cursor=p.ah/\x.nX=p.lost/\x.eN=p.forbidden
def sB (x:aD) (p:fT) (h:Hp) (B:List Nat):Prop:=
 ∃a b,B=a++b/\bM cg 6 tK x.bZ p.parts h a/\bM bB 15 mw x.aG p.procs h b/\x.fg=p.tick
def rf (x:an) (c:aE) (h:Hp) (B:List Nat):Prop:=
 ∃a b d,B=a++(b++d)/\Nd x.aN c.labels h a/\Ab x.Table c.table h b/\Ju x.aG c.procs h d/\x.Fuel=c.fuel/\x.gH=c.lane/\x.bQ=c.ae/\x.Log=c.log
theorem kW :iE Ab:=bM.ok (fp.ok _)
theorem sW :iE Nd:=bM.ok (fp.ok _)
theorem mN :iE uB:=bM.ok (fp.ok _)
theorem uY :iE qj:=⟨λo a=>⟨o.1,mN.same o.2 a⟩,λo=>mN.known o.2⟩
theorem ln :iE Ju:=bM.ok uY
theorem fH {a b:List Nat} {c:Nat} (h:c∈a):c∈a++b:=List.mem_append_left _ h
theorem eA {b a:List Nat} {c:Nat} (h:c∈a):c∈b++a:=List.mem_append_right _ h
theorem tC :iE rh where
 same:=by rintro a b h k B ⟨f,g,rfl,d,e,j⟩ i;exact ⟨f,g,rfl,kW.same d λc hc=>i c (fH hc),(bM.ok (fp.ok _)).same e λc hc=>i c (eA hc),j⟩
 known:=by
  rintro a b h B ⟨f,g,rfl,d,e,j⟩ c hc;rcases List.mem_append.1 hc with hc | hc
  ·exact kW.known d c hc
  ·exact (bM.ok (fp.ok _)).known e c hc
theorem M5 :iE mw:=⟨λo a=>⟨(bM.ok tC).same o.1 a,o.2⟩,λo=>(bM.ok tC).known o.1⟩
theorem xd :iE tK where
 same:=by rintro a b h m B ⟨i,j,k,rfl,e,f,g,l⟩ d;exact ⟨i,j,k,rfl,(bM.ok (fp.ok _)).same e λc hc=>d c (fH hc),kW.same f λc hc=>d c (eA (fH hc)),(bM.ok kW).same g λc hc=>d c (eA (eA hc)),l⟩
 known:=by
  rintro a b h B ⟨i,j,k,rfl,e,f,g,l⟩ c hc;rcases List.mem_append.1 hc with hc | hc
  ·exact (bM.ok (fp.ok _)).known e c hc
  ·rcases List.mem_append.1 hc with hc | hc
   ·exact kW.known f c hc
   ·exact (bM.ok kW).known g c hc
theorem Ua :iE sB where
 same:=by rintro a b h k B ⟨f,g,rfl,d,e,j⟩ i;exact ⟨f,g,rfl,(bM.ok xd).same d λc hc=>i c (fH hc),(bM.ok M5).same e λc hc=>i c (eA hc),j⟩
 known:=by
  rintro a b h B ⟨f,g,rfl,d,e,j⟩ c hc;rcases List.mem_append.1 hc with hc | hc
  ·exact (bM.ok xd).known d c hc
  ·exact (bM.ok M5).known e c hc
theorem kz :iE rf where
 same:=by rintro a b h m B ⟨i,j,k,rfl,e,f,g,l⟩ d;exact ⟨i,j,k,rfl,sW.same e λc hc=>d c (fH hc),kW.same f λc hc=>d c (eA (fH hc)),ln.same g λc hc=>d c (eA (eA hc)),l⟩
 known:=by
  rintro a b h B ⟨i,j,k,rfl,e,f,g,l⟩ c hc;rcases List.mem_append.1 hc with hc | hc
  ·exact sW.known e c hc
  ·rcases List.mem_append.1 hc with hc | hc
   ·exact kW.known f c hc
   ·exact ln.known g c hc
theorem Ee {a:Type}:∀ {l m:List a},cZ Eq l m->l=m
 | [],[],_=>rfl
 | _::_,_::_,h=>by rw [h.1,Ee h.2]
 | [],_::_,h=>h.elim
 | _::_,[],h=>h.elim
theorem yK {a b:Type} {f:a->b}:∀ {l:List a} {m:List b},cZ (λx p=>f x=p) l m->l.map f=m
 | [],[],_=>rfl
 | _::_,_::_,h=>by rw [List.map_cons,h.1,yK h.2]
 | [],_::_,h=>h.elim
 | _::_,[],h=>h.elim
section
variable {h:Hp} {B:List Nat}
theorem Ab.rd {l:Sl} {xs:List Int} (o:Ab l xs h B):Is h l xs:=by obtain ⟨e,c,d⟩:=bM.rows (S:=Eq) (λ_=>rfl) (λa b B o=>o.2) o;rw [<-Ee d];exact c
theorem Nd.rd {l:Sl} {xs:List Int} (o:Nd l xs h B):Us h l xs:=by obtain ⟨e,c,d⟩:=bM.rows (S:=Eq) (λ_=>rfl) (λa b B o=>o.2) o;rw [<-Ee d];exact c
theorem qj.rd {q:aU} {p:fG} (o:qj q p h B):jY h q p:=by obtain ⟨e,o⟩:=o;obtain ⟨f,c,d⟩:=bM.rows (S:=λx p=>bd x=p) (λ_=>rfl) (λa b B o=>o.2) o;exact ⟨e,f,c,yK d⟩
theorem rf.rd {x:an} {c:aE} (o:rf x c h B):fo h x c:=by obtain ⟨i,j,k,_,e,f,g,f1,f2,f3,d⟩:=o;exact ⟨e.rd,f.rd,f1,f2,f3,d,bM.rows (λ_=>rfl) (λa b B o=>o.rd) g⟩
theorem rh.rd {x:cl} {p:bq} (o:rh x p h B):jV h x p:=by obtain ⟨i,j,_,e,f,f1,f2⟩:=o;obtain ⟨g,c,d⟩:=bM.rows (S:=λx p=>AP x=p) (λ_=>rfl) (λa b B o=>o.2) f;exact ⟨e.rd,⟨g,c,yK d⟩,f1,f2⟩
theorem mw.rd {x:br} {p:ak} (o:mw x p h B):dj h x p:=by obtain ⟨g,f1,f2,f3,c,d,e,f⟩:=o;exact ⟨f1,f2,f3,c,d,e,f,bM.rows (λ_=>rfl) (λa b B o=>o.rd) g⟩
theorem tK.rd {x:cc} {p:dv} (o:tK x p h B):gA h x p:=by obtain ⟨j,k,l,_,e,f,g,f1,f2,f3⟩:=o;obtain ⟨i,c,d⟩:=bM.rows (S:=λx p=>AR x=p) (λ_=>rfl) (λa b B o=>o.2) e;exact ⟨f1,⟨i,c,yK d⟩,f2,f3,f.rd,bM.rows (λ_=>rfl) (λa b B o=>Ab.rd o) g⟩
theorem sB.rd {x:aD} {p:fT} (o:sB x p h B):dq h x p:=by obtain ⟨e,f,_,c,d,f1⟩:=o;exact ⟨f1,bM.rows (λ_=>rfl) (λa b B o=>o.rd) c,bM.rows (λ_=>rfl) (λa b B o=>o.rd) d⟩
end
def jT {d f:Type} {R:d->f->Hp->List Nat->Prop} (ok:iE R) (v:d) (p:f):dI where
 R k F:=∃B,R v p k B/\B.Nodup/\∀b,F b↔b∈B
 same:=λ⟨B,h,n,e⟩ g=>⟨B,ok.same h λc a=>g c ((e c).2 a),n,e⟩
 known:=λ⟨B,h,n,e⟩ c a=>ok.known h c ((e c).1 a)
def fU {d:Type} (sz:Nat) (enc:d->List Value) (l:Sl) (g:List d):dI where
 R k F:=∃B,du k sz enc l g B/\∀b,F b↔b∈B
 same:=λ⟨B,h,e⟩ f=>⟨B,h.same λc a=>f c ((e c).2 a),e⟩
 known:=λ⟨B,h,e⟩ c a=>h.known c ((e c).1 a)
section
variable {h0 k:Hp} {α β:Type} {R:α->β->Hp->List Nat->Prop} {ok:iE R}
theorem Has.Z6 {v:α} {p:β} (o:Has h0 (jT ok v p) k):∃B,R v p k B/\B.Nodup/\∀b∈B,h0 b=none:=by obtain ⟨_,F,⟨B,h,n,e⟩,a⟩:=o;grind
theorem Has.sV {v:α} {p:β} {B:List Nat} (c:h0<=k) (h:R v p k B) (n:B.Nodup) (a:∀b∈B,h0 b=none):Has h0 (jT ok v p) k:=⟨c,(· ∈B),⟨B,h,n,λ_=>Iff.rfl⟩,a⟩
theorem Has.vY {sz:Nat} {enc:α->List Value} {l:Sl} {a:List α} (o:Has h0 (fU sz enc l a) k):Has h0 (dU sz enc l a) k:=by obtain ⟨d,F,⟨B,h,e⟩,c⟩:=o;exact Has.Be h d λb hb=>c b ((e b).2 hb)
theorem DH {b c:Type} {S:b->c->Prop} {h:Hp}:∀ {l:List b} {m:List c},cZ S l m->pE (fp S) l m h []
 | [],[],_=>rfl
 | _::_,_::_,a=>⟨[],[],rfl,⟨rfl,a.1⟩,DH a.2⟩
 | [],_::_,a=>a.elim
 | _::_,[],a=>a.elim
theorem Has.two {i j:Type} {f:i->j->Hp->List Nat->Prop} {l:iE f} {v:α} {p:β} {h:i} {g:j} (o:Has h0 ((jT ok v p).star (jT l h g)) k):
  ∃B c,R v p k B/\f h g k c/\(B++c).Nodup/\∀b∈B++c,h0 b=none:=by
 obtain ⟨_,F,⟨m,q,e,d,⟨B,a,n,ea⟩,⟨c,b,s,eb⟩⟩,r⟩:=o;grind
theorem Has.row {j:Type} {sh:Shape} {sz:Nat} {Q:sh.T->j->Hp->List Nat->Prop} {okQ:iE Q} {l:Sl} {g:List j} {v:sh.T} {p:j} {cs zero:List Value} {bytes:Nat} {K:Sl->Hp->Prop} (o:Has h0 ((jT (bM.ok (sh:=sh) (sz:=sz) okQ) l g).star (jT okQ v p)) k)
  (t:cs=bp (sh.enc v)) (i:∀x,(bp (sh.enc x)).length=sz) (C:∀x,ji (bp (sh.enc x))=true) (D:zero.length=sz) (hb:g.length+1<=140737488355328/\(g.length+1)*bytes<=140737488355328)
  (y:∀f d,Has h0 (jT (bM.ok (sh:=sh) (sz:=sz) okQ) f (g++ [p])) d->K f d):bh cs (λa m=>fu sz bytes zero l ⟨some a,1,1⟩ K m) k:=by
 refine mL (xs:=[v]) (sz:=sz) (enc:=λx=>bp (sh.enc x)) (by rw [t];simp) i λa m A n=> ?_;have o:=o.grow A;obtain ⟨B,G,r,e,nd,u⟩:=o.two;refine wJ okQ r e nd (n.kM i) i C D hb λf d H F E z w=> ?_;refine y f d (Has.sV (λb q eb=>z b q (o.1 b q eb) λhb=> ?_) F E λc s=> ?_)
 ·grind
 ·rcases w c s with h | h
  ·exact u c h
  ·exact uu o.1 h
theorem Has.ou {a:Type} {sh:Shape} {sz:Nat} {Q:sh.T->a->Hp->List Nat->Prop} {okQ:iE Q} (b:h0<=k):Has h0 (jT (bM.ok (sh:=sh) (sz:=sz) okQ) (⟨none,0,0⟩:Sl) ([]:List a)) k:=
 Has.sV b bM.nil .nil λ_ h=>by cases h
theorem Has.jO {d:Type} {sh:Shape} {sz:Nat} {enc:d->List Value} {S:sh.T->d->Prop} {f:d->sh.T} {l:Sl} {c:List d} (o:Has h0 (fU sz enc l c) k) (n:∀x,enc x=bp (sh.enc (f x))) (j:∀x,S (f x) x):
  Has h0 (jT (bM.ok (sh:=sh) (sz:=sz) (fp.ok S)) l c) k:=by
 obtain ⟨q,F,⟨B,⟨s,h,t⟩,e⟩,p⟩:=o;have u:c.flatMap enc=(c.map f).flatMap λx=>bp (sh.enc x):=by rw [List.flatMap_map];congr 1;exact funext n
 have i:∀m:List d,cZ S (m.map f) m:=λm=>by
  induction m with
  | nil=>trivial
  | cons a m r=>exact ⟨j a,r⟩
 have g:du k sz (λx=>bp (sh.enc x)) l (c.map f) B:=⟨by grind,h,by grind⟩;refine Has.sV q ⟨c.map f,B,[],by simp,g,DH (i c)⟩ g.nodup λb hb=>p b ((e b).2 hb)
theorem xA {P:Program} {sz:Nat} {enc:α->List Value} {s:Sl} {xs:List α} {p B bytes:Nat} {zero:List Value} {x y:Operand} {Q:Sl->Hp->Prop} (w:P.underlying p=some (.slice B)) (r:Rw k sz enc s xs) (G:0<sz) (j:∀x,(enc x).length=sz) (u:∀x,ji (enc x)=true) (z:zero.length=sz)
  (hb:xs.length<=140737488355328/\xs.length*bytes<=140737488355328) (l:∀f d,k<=d->Has k (fU sz enc f xs) d->Q f d):
  iu none P (cS .eql p x y s.v (.slice none 0 0)) bn k λx=>(if x=true then Q ⟨none,0,0⟩ k else bh [] (λa q=>fu sz bytes zero ⟨(some a),0,0⟩ s (λr t=>Q r t) q) k):=by
 refine ⟨s.base.isNone,Oj w s,?_⟩;cases D:s.base with
 | none=>
  rw [if_pos (show (none:Option Addr).isNone=true from rfl)];have:xs=[]:=by
   rcases r.2.2 with e | ⟨a,C,_⟩
   ·exact List.length_eq_zero_iff.1 ((Nat.mul_eq_zero.1 e).resolve_right (by omega))
   grind
  subst this;exact l _ k (Hp.le_refl k) ⟨Hp.le_refl k,λ_=>False,⟨[],⟨rfl,Nat.le_refl _,.inl ⟨rfl,rfl,rfl⟩⟩,λb=>by simp⟩,λ_ h=>h.elim⟩
 | some a=>
  rw [lz];refine sQ (xs:=([]:List α)) (enc:=enc) (sz:=sz) rfl j λb H E n I A=> ?_;refine xN A (Rw.mono n r) j u z (by simpa using hb) λf d i o m=> ?_;have g:=m.le (h0:=k) n λc F=>by grind
  exact l f d g.1 ⟨g.1,(· ∈i),⟨i,by simpa using o,λ_=>Iff.rfl⟩,g.2⟩
end
abbrev uH (l:Sl) (a:List Int):dI:=jT kW l a
abbrev OO (l:Sl) (a:List mU):dI:=jT (bM.ok (sh:=aH) (sz:=2) (fp.ok λx p=>AP x=p)) l a
section
variable {h0 k:Hp} {q:Addr} {room:Int} {l:bq}
theorem Le {Q:cl->Hp->Prop} (o:Has h0 (dL q room l) k) (hv:l.values.length<=100) (D:l.waiters.length<=100) (z:∀r g,Has h0 ((dL q room l).star (jT tC r l)) g->Q r g):WZ prog (some q) Q k:=by
 unfold WZ;obtain ⟨x,u,c,d,o⟩:=o.bz;refine aP (o.left.ld (shf:=au) x.values rfl ?_);refine aP (o.left.ld (shf:=au) x.waiters rfl ?_);refine aP (o.left.ld (shf:=af .i64) x.taken rfl ?_);refine aP (o.left.ld (shf:=af .i64) x.dropped rfl ?_);refine zhl ?_;unfold Ri;refine xA (bG.bO 131 wu rfl) (o.right.left.kM (λ_=>rfl)) (by decide) (λ_=>rfl) (λ_=>rfl) rfl ⟨by omega,by omega⟩ λj h w A=> ?_;have a:=o.grow w;refine ⟨⟨a.left.fb (n:=1) rfl,a.left.fb (n:=1) rfl,a.left.fb (n:=1) rfl,trivial⟩,?_⟩;refine zdh ?_;unfold Qn;refine xA (bG.bO 132 uk rfl) (a.right.right.kM (λ_=>rfl)) (by decide) (λ_=>rfl) (λ_=>rfl) rfl ⟨by omega,by omega⟩ λm b y C=> ?_;have i:=a.grow y;refine ⟨⟨i.left.fb (n:=1) rfl,i.left.fb (n:=1) rfl,trivial⟩,?_⟩;refine z _ b ?_;have s:Has k (uH j l.values) h:=A.jO (f:=λx=>x) (λ_=>rfl) λ_=>rfl;have t:Has h (OO m l.waiters) b:=C.jO (f:=pf) (λ_=>rfl) λ_=>rfl;have both:=s.beside t;have lane:Has k (jT tC (⟨j,m,x.taken,x.dropped⟩:cl) l) b:=by obtain ⟨B,p,r,e,nd,v⟩:=both.two;exact Has.sV both.le ⟨B,p,rfl,r,e,c,d⟩ nd v
 exact (Has.j7 o u c d).beside lane
end
section
variable {h0 k:Hp} {q:Addr} {room:Int} {l:bq}
theorem R0 {s:Sl} {b:List mU} {Q:Bool->Hp->Prop} (r:Rw k 2 eW s b) (O:b.length<=1000000) (B:(b.map (·.proc)).Nodup) (S:∀c,k<=c->Q false c):Zq prog s Q k:=by
 unfold Zq;have P:=r.1;intro m u;have J:k<=k.set m (.map #[] 0):=ni u;refine aA.intro (λi c=>k<=c/\0<=i/\i<=(b.length:Int)/\∃f:List (Int×Int),fF c m .i64 (af .i64).enc f/\(∀a,gT a f≠none->a∈(b.take i.toNat).map (·.proc))) (λi _=>(b.length-i).toNat)
  ⟨J,by omega,by omega,[],⟨[],0,nI,rfl⟩,λa h=>absurd rfl h⟩ ?_
 rintro i c ⟨p,N,T,f,A,t⟩;by_cases F:i<(b.length:Int)
 ·rw [if_pos (iV)];have rs:Rs c aH 2 s (b.map pf):=(r.mono p).map (enc:=λx=>bp (aH.enc x));refine rs.get (λ_=>rfl) (by omega) N (by rw [List.length_map];exact F) λ(x:bJ) d=> ?_;rw [List.getElem?_map] at d;cases g:b[i.toNat]? with
  | none=>rw [g] at d;cases d
  | some w=>
   rw [g] at d;have d:x=pf w:=by simpa using d.symm
   subst d;have L:gT w.proc f=none:=by
    cases e:gT w.proc f with
    | none=>rfl
    | some v=>
     have D:=t w.proc (by rw [e];simp);obtain ⟨E,G⟩:=List.getElem?_eq_some_iff.1 g;have H:(b.map (·.proc))=(b.take i.toNat).map (·.proc)++(w.proc::(b.drop (i.toNat+1)).map (·.proc)):=by
      have:b=b.take i.toNat++w::b.drop (i.toNat+1):=by rw [<-G,<-List.drop_eq_getElem_cons E,List.take_append_drop]
      conv=>lhs;rw [this]
      simp
     rw [H] at B;exact absurd rfl ((List.nodup_append.1 B).2.2 _ D _ (List.mem_cons_self ..))
   refine Eu (sh:=af .i64) (z:=(0:Int)) A rfl (λ_=> ?_) λv hv=>by rw [show (pf w).dp=w.proc from rfl,L] at hv;cases hv
   rw [aT];refine M3 (ev:=(af .i64).enc) (v:=(1:Int)) A λo R y=> ?_;have K:k m=none:=u;have I:k<=c.set m o:=wG p K;have n:gT w.proc (kT w.proc (1:Int) f)=some 1:=by rw [yG,if_pos rfl]
   refine Eu (sh:=af .i64) (z:=(0:Int)) y rfl (λhv=>by rw [show (pf w).dp=w.proc from rfl,n] at hv;cases hv) λv hv=> ?_;have M:v=1:=by rw [show (pf w).dp=w.proc from rfl,n] at hv;exact (Option.some.inj hv).symm
   subst M;dsimp only;rw [if_neg (by decide),aT];refine ⟨⟨I,by omega,by omega,_,y,λa j=> ?_⟩,by omega⟩;have C:(i+1).toNat=i.toNat+1:=by omega
   rw [C,List.take_add_one,g];rw [yG] at j;by_cases e:a=(pf w).dp
   ·rw [e];simp [pf]
   ·rw [if_neg e] at j;have:=t a j;simp only [List.map_append,List.mem_append];exact .inl this
 grind
theorem Ub {Q:Option Addr->Int->Hp->Prop} (d:1<=room/\room<=64) (c:∀p a,k<=a->Has k (dk De p ⟨room,⟨none,0,0⟩,⟨none,0,0⟩,0,0⟩) a->Q (some p) 0 a):Cz prog room Q k:=by unfold Cz;refine Xs ?_;unfold N8;refine aJ ?_;rw [show (decide (room>=1)&&decide (room<=64))=true by simp;omega];dsimp only;rw [if_neg (by decide)];exact se (sh:=De) ⟨room,⟨none,0,0⟩,⟨none,0,0⟩,0,0⟩ rfl λp a b o=>c p a b o
structure OJ (room:Int) (l:bq):Prop where
 len:(l.values.length:Int)<=room
 full:l.waiters≠ []->(l.values.length:Int)=room
 taken:kj l.taken
 dropped:kj l.dropped
 once:(l.waiters.map (·.proc)).Nodup
 mR:l.waiters.length<=100
theorem MA {n:Int} {Q:Bool->Hp->Prop} (h:kj n) (a:Q true k):N8 prog n 0 65535 Q k:=by
 unfold N8;refine aJ ?_;have:(decide (n>=0)&&decide (n<=65535))=true:=by unfold kj at h;simp;omega
 grind
theorem Ud {x:cl} {Q:Option Addr->Int->Hp->Prop} (g:1<=room/\room<=64) (a:jV k x l) (v:OJ room l) (C:∀p f,k<=f->Has k (dL p room l) f->Q (some p) 0 f):Cw prog room x Q k:=by
 unfold Cw;refine Wv (Ub g λp r h s=> ?_);have hv:=a.values.1;obtain ⟨u,n,D⟩:=a.waiters;have m:u.length=l.waiters.length:=by grind
 have R:=n.1;have P:=v.len;have N:=v.mR;rw [if_neg (by decide)];have w:(decide (((x.cM.len:Nat):Int)>(0:Int))&&decide (((x.dZ.len:Nat):Int)<room))=false:=by
  by_cases e:l.waiters=[]
  ·grind
  ·have:=v.full e;grind
 refine aJ (aJ ?_);rw [w,Bool.or_false,show decide (((x.dZ.len:Nat):Int)>room)=false by simp;omega];refine ⟨λ_=>Xs (MA (by rw [a.taken];exact v.taken) ?_),λe=>by cases e⟩;refine aJ ⟨λ_=>Xs (MA (by rw [a.dropped];exact v.dropped) ?_),λe=>by cases e⟩;refine aJ ⟨λ_=>TV ?_,λe=>by cases e⟩;have j:Rw r 2 eW x.cM l.waiters:=by have A:Rw r 2 (λx=>bp (aH.enc x)) x.cM u:=Rw.mono h n;obtain ⟨y,z⟩:=A;refine ⟨by rw [y,m],?_⟩;rw [<-m,<-D,List.flatMap_map];exact z
 refine R0 j (by omega) v.once λS c=> ?_;refine aJ ?_;rw [if_neg (by decide)];refine zhl ?_;unfold Ri;have hb:=g.2;refine K3 (bG.bO 131 wu rfl) (xs:=l.values) (enc:=fE) (Rw.mono (Hp.le_trans h c) a.values) (by decide) (λ_=>rfl) (λ_=>rfl) rfl ⟨by omega,by omega⟩ λb T i G=> ?_;refine ⟨⟨trivial,trivial⟩,?_⟩;refine zdh ?_;unfold Qn;refine K3 (bG.bO 132 uk rfl) (xs:=l.waiters) (Rw.mono (Hp.le_trans c i) j) (by decide) (λ_=>rfl) (λ_=>rfl) rfl ⟨by omega,by omega⟩ λd E B H=> ?_;have o:=(s.grow (Hp.le_trans c (Hp.le_trans i B)));have o:Has k ((dk De p ⟨room,⟨none,0,0⟩,⟨none,0,0⟩,0,0⟩).star ((dU 1 fE b l.values).star (dU 2 eW d l.waiters))) E:=(s.grow c).grow (Hp.le_refl _) |>.beside (G.beside H)
 obtain ⟨O,_,I,put⟩:=o.f1;refine aP (I.st (⟨room,b,⟨none,0,0⟩,0,0⟩:dw) (show (2:Nat)<=5 by decide) rfl λU J=> ?_);refine aP (J.st (⟨room,b,d,0,0⟩:dw) (show (3:Nat)<=5 by decide) rfl λV K=> ?_);refine aP (K.st (⟨room,b,d,x.lK,0⟩:dw) (show (4:Nat)<=5 by decide) rfl λW L=> ?_);refine ⟨⟨trivial,trivial⟩,?_⟩;refine aP (L.st (⟨room,b,d,x.lK,x.iF⟩:dw) (show (5:Nat)<=5 by decide) rfl λF M=> ?_);have t:=put _ _ M;exact C p F t.le (Has.j7 t rfl a.taken a.dropped)
end
abbrev eP :Addr->List Value:=λa=> [.pointer (some a)]
def a0 :Addr:=⟨0,0,none⟩
def mH :bq:=⟨[],[],0,0⟩
def xe (b:List Addr) (room:Int) (a:List bq):dI:=dI.first (λi=>dL (b.getD i a0) room (a.getD i mH)) a.length
def iB (p:Addr) (x:db) (a:List Addr) (room:Int) (b:List bq):dI:=(dk Oc p x).star ((dU 1 eP x.aj a).star (xe a room b))
def dX (p:Addr) (room:Int) (a:List bq) (ah:Int):dI:=
 .some_ λx:db=>.some_ λb:List Addr=>(iB p x b room a).star (.fact (x.ah=ah/\b.length=a.length))
section
variable {h0 k:Hp} {p:Addr} {room ah:Int} {c:List bq} {x:db} {g:List Addr}
theorem nT {b:Type} {l:List b} {i:Nat} {a d:b} (h:l[i]? =some a):l.getD i d=a:=by grind
theorem Has.oV (o:Has h0 (dX p room c ah) k):∃x g,x.ah=ah/\g.length=c.length/\Has h0 (iB p x g room c) k:=by obtain ⟨x,o⟩:=Has.ex.1 o;obtain ⟨g,o⟩:=Has.ex.1 o;obtain ⟨o,a,b⟩:=o.j6;grind
theorem Has.kU (o:Has h0 (iB p x g room c) k) (a:x.ah=ah) (b:g.length=c.length):Has h0 (dX p room c ah) k:=Has.ex.2 ⟨x,Has.ex.2 ⟨g,o.fB ⟨a,b⟩⟩⟩
theorem Has.om {i:Nat} {l:bq} (o:Has h0 (iB p x g room c) k) (f:c[i]? =some l):∃a,h0<=a/\Has a (dL (g.getD i a0) room l) k/\∀d b,Has a (dL (g.getD i a0) room d) b->Has h0 (iB p x g room (c.set i d)) b:=by
 obtain ⟨a,a1,s,put⟩:=o.f3;have n:i<c.length:=(List.getElem?_eq_some_iff.1 f).1;obtain ⟨m,a2,h,_,t⟩:=s.one n;rw [nT f] at h;refine ⟨m,Hp.le_trans a1 a2,h,λd b r=>put _ _ ?_⟩;have:=t _ _ r;unfold xe;rw [List.length_set];refine cast (congrArg (λA=>Has a A b) (uq λj q=> ?_)) this;by_cases e:j=i
 ·subst e;rw [ki,nT (List.getElem?_set_self q)]
 ·rw [kA e];grind
theorem Has.ptr (o:Has h0 (iB p x g room c) k) (a:g.length=c.length) {i:Nat} (b:i<c.length) {K:Option Addr->Prop} (d:K (some (g.getD i a0))):bF x.aj.base x.aj.len (i:Int)/\aR none ag k (sat x.aj.base 1 (i:Int)) K:=by have rs:Rs k ag 1 x.aj (g.map some):=(o.right.left.kM (λ_=>rfl)).map (f:=some) (enc:=λx=>bp (ag.enc x));refine rs.get (λ_=>rfl) (by omega) (by omega) (by rw [List.length_map];omega) λ(y:Option Addr) e=> ?_;grind
theorem DI {n:Int} {Q:Bool->Hp->Prop} (o:Has h0 (dX p room c ah) k) (d:0<=n/\n<c.length) (e:Q true k):W1 prog (some p) n Q k:=by obtain ⟨x,g,a,b,o⟩:=o.oV;unfold W1;have f:=o.right.left.jh;refine aP ((Has.left o).vR (shf:=au) x.aj rfl ?_);refine aJ ?_;grind
theorem Has.vQ {i:Nat} {l:bq} (o:Has h0 (dX p room c ah) k) (h:c[i]? =some l):∃(x:db) (a:Addr) (b:Hp),(∀ {K:Sl->Prop},K x.aj->aR none au k (p.add 0) K)/\(∀ {K:Option Addr->Prop},K (some a)->bF x.aj.base x.aj.len (i:Int)/\aR none ag k (sat x.aj.base 1 (i:Int)) K)/\h0<=b/\Has b (dL a room l) k/\
  ∀e d,Has b (dL a room e) d->Has h0 (dX p room (c.set i e) ah) d:=by
 obtain ⟨x,g,j,m,o⟩:=o.oV;obtain ⟨b,a1,q,put⟩:=o.om h;exact ⟨x,_,b,λf=>(Has.left o).ld (shf:=au) x.aj rfl f,λf=>o.ptr m (List.getElem?_eq_some_iff.1 h).1 f,a1,q,λe d n=>(put e d n).kU j (by grind)⟩
theorem Ue {i:Nat} {l:bq} {v:Int} {Q:Int->Hp->Prop} (o:Has h0 (dX p room c ah) k) (d:c[i]? =some l) (j:room<=64) (e:room<=(l.values.length:Int)->Q 19 k)
  (h:∀b,¬room<=(l.values.length:Int)->Has h0 (dX p room (c.set i (sN v l)) ah) b->Q 0 b):N1 prog (some p) (i:Int) v Q k:=by
 unfold N1;refine VL (DI o ⟨by omega,by have:=(List.getElem?_eq_some_iff.1 d).1;omega⟩ ?_);obtain ⟨x,a,r,ld,m,_,q,put⟩:=o.vQ d;rw [if_neg (by decide)];refine aP (ld (m ?_));exact QG (T1 q j e λb f n=>h b f (put _ _ n))
theorem R3 {i:Nat} {l:bq} {Q:Hp->Prop} (o:Has h0 (dX p room c ah) k) (d:c[i]? =some l) (e:kj l.dropped) (f:∀b,Has h0 (dX p room (c.set i (jM l)) ah) b->Q b):NV prog (some p) (i:Int) Q k:=by unfold NV;refine VL (DI o ⟨by omega,by have:=(List.getElem?_eq_some_iff.1 d).1;omega⟩ ?_);obtain ⟨x,a,n,ld,h,_,m,put⟩:=o.vQ d;rw [if_pos rfl];refine aP (ld (h ?_));exact P7 (RC m e λb j=>f b (put _ _ j))
theorem yL {b:Type} {f:b->b} {a:List b} {t:Nat} {y:b} (h:a[t]? =some y):((a.take t).map f++a.drop t).set t (f y)=(a.take (t+1)).map f++a.drop (t+1):=by
 obtain ⟨d,i⟩:=List.getElem?_eq_some_iff.1 h;have j:((a.take t).map f).length=t:=by rw [List.length_map,List.length_take];omega
 have e:a.drop t=y::a.drop (t+1):=by rw [List.drop_eq_getElem_cons d,i]
 rw [e,List.set_append_right _ _ (by omega),j,Nat.sub_self,List.set_cons_zero,List.take_add_one,h];simp
theorem DJ {a:Type} {f:a->a} {b:List a} {t:Nat} {y:a} (h:b[t]? =some y):((b.take t).map f++b.drop t)[t]? =some y:=by grind
theorem Qc {w:Int} {Q:Bool->Hp->Prop} (o:Has h0 (dX p room c ah) k) (v:c.length<=1000000/\∀l∈c,l.waiters.length<=100) (u:∀b a,Has h0 (dX p room (c.map (sf w)) ah) a->Q b a):W4 prog (some p) w Q k:=by
 obtain ⟨x,g,m,D,o⟩:=o.oV;unfold W4;have F:=o.right.left.jh;refine aP ((Has.left o).ld (shf:=au) x.aj rfl ?_);refine bT.intro (λ(_:Bool) (i:Int) a=>0<=i/\i<=(c.length:Int)/\Has h0 (iB p x g room ((c.take i.toNat).map (sf w)++c.drop i.toNat)) a) (λ_ i _=>(c.length-i).toNat) ⟨by omega,by omega,by simpa using o⟩ ?_;rintro b i a ⟨G,H,o⟩;by_cases s:i<(c.length:Int)
 ·rw [if_pos (iV)];have t:i.toNat<c.length:=by omega
  have d:=List.getElem?_eq_getElem t;generalize c[i.toNat]=l at d;have n:g.length=((c.take i.toNat).map (sf w)++c.drop i.toNat).length:=by grind
  obtain ⟨E,_,B,put⟩:=o.om (DJ d);have h:=o.ptr n (i:=i.toNat) (by omega) (K:=λy=>y=some (g.getD i.toNat a0)) rfl;have f:((i.toNat:Nat):Int)=i:=by omega
  rw [f] at h;refine ⟨λr q=>0<=i/\i<(c.length:Int)/\Has h0 (iB p x g room ((c.take (i.toNat+1)).map (sf w)++c.drop (i.toNat+1))) q,⟨h.1,?_⟩,?_⟩
  ·obtain ⟨y,z,rfl⟩:=h.2;refine ⟨_,z,?_⟩;refine PB (PX B (v.2 l (List.mem_of_getElem? d)) λj A C=> ?_);have o:=put _ _ C;rw [yL d] at o;grind
  ·rintro j A ⟨_,_,o⟩;rw [aT];grind
 ·rw [if_neg (λe=>s (by grind))];refine u b a ?_;have f:i.toNat=c.length:=by omega
  rw [f,List.take_length,List.drop_length,List.append_nil] at o;exact o.kU m (by grind)
end
section
variable {h0 k:Hp} {p:Addr} {room ah:Int} {c:List bq} {x:db} {d:List Addr}
theorem Ev {e:Type}:∀ {l:List e} {i:Nat} {a:e},l[i]? =some a->l.set i a=l
 | [],_,_,h=>by cases h
 | b::l,0,a,h=>by cases h;rfl
 | b::l,i+1,a,h=>by rw [List.set_cons_succ,Ev (by simpa using h)]
theorem R4 {w:Int} {Q:Int->Hp->Prop} (o:Has h0 (dX p room c ah) k) (h:c.length<=1000000/\∀l∈c,l.waiters.length<=100/\l.values.length<=100) (G:∀l∈c,∀z∈l.waiters,z.proc≠w) (I:∀a,Has h0 (dX p room c ah) a->Q (-1) a):Xb prog (some p) w Q k:=by
 obtain ⟨x,d,A,n,o⟩:=o.oV;unfold Xb;have U:=o.right.left.jh;refine aP ((Has.left o).ld (shf:=au) x.aj rfl ?_);refine aA.intro (λ(i:Int) a=>0<=i/\i<=(c.length:Int)/\Has h0 (iB p x d room c) a) (λi _=>(c.length-i).toNat) ⟨by omega,by omega,o⟩ ?_;rintro i a ⟨W,X,o⟩;by_cases E:i<(c.length:Int)
 ·rw [if_pos (iV)];have s:i.toNat<c.length:=by omega
  have b:=List.getElem?_eq_getElem s;generalize c[i.toNat]=l at b;have f:=List.mem_of_getElem? b;obtain ⟨R,_,O,put⟩:=o.om b;have C:((i.toNat:Nat):Int)=i:=by omega
  have t:=o.ptr n s (K:=λy=>y=some (d.getD i.toNat a0)) rfl;rw [C] at t;obtain ⟨D,y,m,rfl⟩:=t;refine ⟨D,_,m,?_⟩;refine zqj (Le O (h.2 l f).2 (h.2 l f).1 λr N v=> ?_);have J:c.set i.toNat l=c:=Ev b;have P:=put _ _ v.left;rw [J] at P;obtain ⟨B,F,_⟩:=v.right.Z6;obtain ⟨g,u,L⟩:=(rh.rd F).waiters;have V:g.length=l.waiters.length:=by grind
  have T:=u.1;have S:=(h.2 l f).1;refine aA.intro (λ(j:Int) a=>a=N/\0<=j/\j<=(g.length:Int)) (λj _=>(g.length-j).toNat) ⟨rfl,by omega,by omega⟩ ?_;rintro j _ ⟨rfl,M,Y⟩;by_cases q:j<(g.length:Int)
  ·rw [if_pos (iV)];refine Rs.get (sh:=aH) u (λ_=>rfl) (by omega) M q λ(y:bJ) m=> ?_;have H:y.dp≠w:=by
    have:AP y∈l.waiters:=by rw [<-L];exact List.mem_map_of_mem (List.mem_of_getElem? m)
    exact G l f _ this
   rw [if_neg (show ¬(y.dp==w)=true by simp [H]),aT];grind
  ·rw [if_neg (λe=>q (by have:=of_decide_eq_true e;omega)),aT];grind
 ·rw [if_neg (λe=>E (by grind))];exact I a (o.kU A n)
theorem R5 {i:Nat} {l:bq} {w v:Int} {Q:Int->Hp->Prop} (o:Has h0 (dX p room c ah) k) (h:c.length<=1000000/\∀l∈c,l.waiters.length<=100/\l.values.length<=100) (g:∀l∈c,∀z∈l.waiters,z.proc≠w) (e:c[i]? =some l) (j:room<=(l.values.length:Int))
  (m:∀b,Has h0 (dX p room (c.set i (im w v l)) ah) b->Q 0 b):Xp prog (some p) (i:Int) w v Q k:=by
 unfold Xp;refine VL (DI o ⟨by omega,by grind⟩ ?_);rw [if_neg (by decide)];refine PE (R4 o h g λt o=> ?_);rw [if_neg (by decide)];obtain ⟨x,a,s,ld,n,_,r,put⟩:=o.vQ e;refine aP (ld (n ?_));have f:=List.mem_of_getElem? e;exact Qf (RI r (h.2 l f).1 j (g l f) λb q=>m b (put _ _ q))
theorem Ug {Q:Sl->Hp->Prop} (o:Has h0 (dX p room c ah) k) (H:c.length<=1000/\∀l∈c,l.waiters.length<=100) (G:∀s f,Has h0 ((dX p room (c.map uK) ah).star (dU 2 eW s (c.flatMap (·.waiters)))) f->Q s f):XO prog (some p) Q k:=by
 obtain ⟨x,d,w,W,o⟩:=o.oV;unfold XO;have hs:=o.right.left.jh;refine aP ((Has.left o).ld (shf:=au) x.aj rfl ?_);have nil:Has k (dU 2 eW (⟨none,0,0⟩:Sl) ([]:List mU)) k:=Has.ku (Hp.le_refl _);have E:∀t,((c.take t).flatMap (·.waiters)).length<=t*100:=by
  have:∀m:List bq,(∀l∈m,l.waiters.length<=100)->(m.flatMap (·.waiters)).length<=m.length*100:=λm=>by
   induction m with
   | nil=>intro _;simp
   | cons a m J=>intro h;have:=J λl b=>h l (List.mem_cons_of_mem _ b);have:=h a (List.mem_cons_self ..);simp only [List.flatMap_cons,List.length_append,List.length_cons];omega
  grind
 refine bT.intro (λ(s:Sl) (i:Int) f=>0<=i/\i<=(c.length:Int)/\Has h0 ((iB p x d room ((c.take i.toNat).map uK++c.drop i.toNat)).star (dU 2 eW s ((c.take i.toNat).flatMap (·.waiters)))) f) (λ_ i _=>(c.length-i).toNat)
  ⟨by omega,by omega,by simpa using o.beside nil⟩ ?_
 rintro s i f ⟨i0,i1,o⟩;by_cases D:i<(c.length:Int)
 ·rw [if_pos (iV)];have F:i.toNat<c.length:=by omega
  have b:=List.getElem?_eq_getElem F;generalize c[i.toNat]=l at b;have z:d.length=((c.take i.toNat).map uK++c.drop i.toNat).length:=by grind
  obtain ⟨C,_,g,_,n⟩:=o.fst;obtain ⟨X,_,N,put⟩:=g.om (DJ b);have q:=g.ptr z (i:=i.toNat) (by omega) (K:=λy=>y=some (d.getD i.toNat a0)) rfl;have j:((i.toNat:Nat):Int)=i:=by omega
  rw [j] at q;obtain ⟨B,y,I,rfl⟩:=q;refine ⟨B,_,I,?_⟩;refine QI (T2 N λr L O=> ?_);have u:Has h0 (((iB p x d room ((c.take (i.toNat+1)).map uK++c.drop (i.toNat+1))).star (dU 2 eW s ((c.take i.toNat).flatMap (·.waiters)))).star (dU 2 eW r l.waiters)) L:=
   O.carry λf M=>by have op:=put _ _ M;rw [yL b] at op;exact n _ _ op
  have a8:l.waiters.length<=100:=H.2 l (List.mem_of_getElem? b);have Y:=E i.toNat;have v:(⟨s.base,s.len,s.cap⟩:Sl)=s:=rfl;rw [v];obtain ⟨Z,_,P,_,U⟩:=u.fst;obtain ⟨h7,_,R,_,V⟩:=P.snd;refine R.app (u.right.kM (λ_=>rfl)) (λ_=>rfl) (λ_=>rfl) rfl ⟨by omega,by omega⟩ λs' k3 S=> ?_;have T:=U _ _ (V _ _ S);rw [aT];refine ⟨⟨by omega,by omega,?_⟩,by omega⟩;rw [show (i+1).toNat=i.toNat+1 by omega];have A:(c.take (i.toNat+1)).flatMap (·.waiters)=(c.take i.toNat).flatMap (·.waiters)++l.waiters:=by rw [List.take_add_one,b];simp
  rw [A];exact T.left
 ·rw [if_neg (λe=>D (by grind))];refine G _ f ?_;have j:i.toNat=c.length:=by omega
  rw [j,List.take_length,List.drop_length,List.append_nil] at o;obtain ⟨C,_,g,_,n⟩:=o.fst;exact n _ _ (g.kU w (by grind))
end
abbrev vo (l:Sl) (a:List bq):dI:=jT (bM.ok (sh:=bR) (sz:=4) tC) l a
section
variable {h0 k:Hp} {p:Addr} {room ah:Int} {b:List bq} {x:db} {c:List Addr}
theorem Qe {Q:Sl->Int->Hp->Prop} (o:Has h0 (dX p room b ah) k) (B:b.length<=1000/\∀l∈b,l.waiters.length<=100/\l.values.length<=100) (A:∀s a,Has h0 ((dX p room b ah).star (vo s b)) a->Q s ah a):WV prog (some p) Q k:=by
 obtain ⟨x,c,j,m,o⟩:=o.oV;unfold WV;have P:=o.right.left.jh;refine aP ((Has.left o).ld (shf:=au) x.aj rfl ?_);have nil:Has k (vo (⟨none,0,0⟩:Sl) ([]:List bq)) k:=Has.ou (okQ:=tC) (Hp.le_refl _);refine bT.intro (λ(s:Sl) (i:Int) a=>0<=i/\i<=(b.length:Int)/\Has h0 ((iB p x c room b).star (vo s (b.take i.toNat))) a) (λ_ i _=>(b.length-i).toNat) ⟨by omega,by omega,by simpa using o.beside nil⟩ ?_;rintro s i a ⟨R,S,o⟩;by_cases z:i<(b.length:Int)
 ·rw [if_pos (iV)];have n:i.toNat<b.length:=by omega
  have d:=List.getElem?_eq_getElem n;generalize b[i.toNat]=l at d;have t:=B.2 l (List.mem_of_getElem? d);obtain ⟨w,_,f,_,h⟩:=o.fst;obtain ⟨N,_,F,put⟩:=f.om d;have q:=f.ptr m n (K:=λy=>y=some (c.getD i.toNat a0)) rfl;have g:((i.toNat:Nat):Int)=i:=by omega
  rw [g] at q;obtain ⟨v,y,C,rfl⟩:=q;refine ⟨v,_,C,?_⟩;refine zqj (Le F t.2 t.1 λr D G=> ?_);have J:Has h0 (((iB p x c room b).star (vo s (b.take i.toNat))).star (jT tC r l)) D:=G.carry λa E=>by have op:=put _ _ E;rw [Ev d] at op;exact h _ _ op
  obtain ⟨O,_,H,_,L⟩:=J.assoc.snd;have u:(⟨s.base,s.len,s.cap⟩:Sl)=s:=rfl;rw [u];refine H.row rfl (λ_=>rfl) (λ_=>rfl) rfl ⟨by rw [List.length_take];omega,by rw [List.length_take];omega⟩ λV T I=> ?_;have U:=L _ _ I;rw [aT];refine ⟨⟨by omega,by omega,?_⟩,by omega⟩;have M:b.take (i.toNat+1)=b.take i.toNat++ [l]:=by rw [List.take_add_one,d];rfl
  grind
 ·rw [if_neg (λe=>z (by grind))];refine aP ((Has.left (Has.left o)).ld (shf:=af .i64) x.ah rfl ?_);rw [j];refine A _ a ?_;have g:i.toNat=b.length:=by omega
  rw [g,List.take_length] at o;obtain ⟨w,_,f,_,h⟩:=o.fst;exact h _ _ (f.kU j m)
theorem Zp {q:Addr} {l:bq} (e:c.length=b.length) (o:Has h0 ((xe c room b).star (dL q room l)) k):Has h0 (xe (c++ [q]) room (b++ [l])) k:=by
 unfold xe;rw [List.length_append];show Has h0 ((dI.first (λi=>dL ((c++ [q]).getD i a0) room ((b++ [l]).getD i mH)) b.length).star (dL ((c++ [q]).getD b.length a0) room ((b++ [l]).getD b.length mH))) k;have a:(c++ [q]).getD b.length a0=q:=by simp [List.getD,<-e]
 have d:(b++ [l]).getD b.length mH=l:=by simp [List.getD]
 rw [a,d];refine cast (congrArg (λA=>Has h0 (A.star (dL q room l)) k) (uq λi f=> ?_)) o;grind
theorem Uh {s:Sl} {v:List cl} {Q:Option Addr->Int->Hp->Prop} (z:1<=room/\room<=64) (X:1<=b.length/\b.length<=9) (T:0<=ah/\ah<b.length) (r:Rs k bR 4 s v) (a:cZ (jV k) v b) (hv:∀l∈b,OJ room l)
  (E:∀p d,k<=d->Has k (dX p room b ah) d->Q (some p) 0 d):Cv prog room s ah Q k:=by
 unfold Cv;have W:=r.1;have Y:=a.len;refine aJ (aJ (aJ ?_));rw [show (decide ((s.len:Int)<1) || decide ((s.len:Int)>9) || decide (room<1) || decide (room>64))=false by simp;omega,if_neg (by decide)];refine aJ ?_;rw [show (decide (ah<0) || decide (ah>=(s.len:Int)))=false by simp;omega,if_neg (by decide)];refine se (sh:=Oc) ⟨⟨none,0,0⟩,ah⟩ rfl λp f U H=> ?_;have Bq:Has k (iB p ⟨⟨none,0,0⟩,ah⟩ [] room []) f:=H.beside ((Has.ku (Hp.le_refl f)).beside (Has.fact trivial (Hp.le_refl f)));refine aA.intro (λ(i:Int) d=>0<=i/\i<=(b.length:Int)/\∃(sl:Sl) (c:List Addr),c.length=i.toNat/\Has k (iB p ⟨sl,ah⟩ c room (b.take i.toNat)) d) (λi _=>(b.length-i).toNat) ⟨by omega,by omega,_,[],rfl,Bq⟩ ?_;rintro i d ⟨G,Z,sl,c,hp,o⟩;by_cases A:i<(b.length:Int)
 ·rw [if_pos (iV)];refine Rs.get (sh:=bR) (Rw.mono o.le r) (λ_=>rfl) (by omega) G (by omega) λ(y:cl) F=> ?_;obtain ⟨l,t,D⟩:=a.get F;refine Wt (Ud z (D.mono o.le) (hv l (List.mem_of_getElem? t)) λq k2 V I=> ?_);rw [if_neg (by decide)];have o:=(o.beside I);refine aP ((Has.left (Has.left o)).ld (shf:=au) sl rfl ?_);obtain ⟨B,_,g,_,j⟩:=o.fst;obtain ⟨C,_,h,m⟩:=g.f2;refine h.push (e:=q) rfl (λ_=>rfl) (λ_=>rfl) rfl ⟨by omega,by omega⟩ λu k3 J=> ?_;have o:=j _ _ (m _ _ J);obtain ⟨B,_,g,_,j⟩:=o.fst;obtain ⟨C,_,h,m⟩:=g.f1;refine aP (h.st (⟨u,ah⟩:db) (show (1:Nat)<=2 by decide) rfl λk4 K=> ?_);have o:=j _ _ (m _ _ K);rw [aT];have w:b.take (i.toNat+1)=b.take i.toNat++ [l]:=by rw [List.take_add_one,t];rfl
  refine ⟨⟨by omega,by omega,u,c++ [q],by simp;omega,?_⟩,by omega⟩;rw [show (i+1).toNat=i.toNat+1 by omega,w];have N:=o.assoc;obtain ⟨R,_,L,_,O⟩:=N.snd;obtain ⟨S,_,M,_,P⟩:=L.assoc.snd;exact O _ _ (P _ _ (Zp (by grind) M))
 ·rw [if_neg (λe=>A (by grind))];have n:i.toNat=b.length:=by omega
  rw [n,List.take_length] at o;rw [n] at hp;exact E p d o.le (o.kU rfl hp)
end
abbrev eL :aM->List Value:=λx=>bp (ft.enc x)
def ud :aM:=⟨0,⟨none,0,0⟩⟩
def uD (b:List aM) (a:List (List Int)):dI:=dI.first (λi=>dU 1 fE (b.getD i ud).queue (a.getD i [])) a.length
def dt (p:Addr) (sl:Sl) (a:List aM) (b:List (List Int)):dI:=(dk EO p ⟨sl⟩).star ((dU 2 eL sl a).star (uD a b))
def nB (p:Addr) (os:List Int) (qs:List (List Int)):dI:=
 .some_ λsl:Sl=>.some_ λa:List aM=>(dt p sl a qs).star (.fact (a.map (·.owner)=os/\a.length=qs.length))
section
variable {h0 k:Hp} {p:Addr} {os:List Int} {qs:List (List Int)} {sl:Sl} {xs:List aM}
theorem Has.ng (o:Has h0 (nB p os qs) k):∃sl xs,xs.map (·.owner)=os/\xs.length=qs.length/\Has h0 (dt p sl xs qs) k:=by obtain ⟨sl,o⟩:=Has.ex.1 o;obtain ⟨xs,o⟩:=Has.ex.1 o;obtain ⟨o,a,b⟩:=o.j6;grind
theorem Has.jv (o:Has h0 (dt p sl xs qs) k) (a:xs.map (·.owner)=os) (b:xs.length=qs.length):Has h0 (nB p os qs) k:=Has.ex.2 ⟨sl,Has.ex.2 ⟨xs,o.fB ⟨a,b⟩⟩⟩
theorem Has.sX {i:Nat} {x:aM} {q:List Int} (o:Has h0 (uD xs qs) k) (f:xs[i]? =some x) (d:qs[i]? =some q):∃h1,h0<=h1/\Has h1 (dU 1 fE x.queue q) k/\∀c b a,Has h1 (dU 1 fE c.queue b) a->Has h0 (uD (xs.set i c) (qs.set i b)) a:=by
 have h:i<qs.length:=(List.getElem?_eq_some_iff.1 d).1;have l:i<xs.length:=(List.getElem?_eq_some_iff.1 f).1;obtain ⟨h1,a1,g,_,put⟩:=Has.one h o;rw [nT f,nT d] at g;refine ⟨h1,a1,g,λc b a n=> ?_⟩;have:=put _ _ n;unfold uD;rw [List.length_set];refine cast (congrArg (λA=>Has h0 A a) (uq λj m=> ?_)) this;by_cases e:j=i
 ·subst e;rw [ki,nT (List.getElem?_set_self l),nT (List.getElem?_set_self m)]
 ·rw [kA e];grind
theorem Has.va (o:Has h0 (dt p sl xs qs) k) {K:Sl->Prop} (a:K sl):aR none au k (p.add 0) K:=(Has.left o).ld (shf:=au) sl rfl a
theorem Has.Ba (o:Has h0 (dt p sl xs qs) k):Rs k ft 2 sl xs:=o.right.left.kM (λ_=>rfl)
theorem Has.qP {i:Nat} {x:aM} (o:Has h0 (dt p sl xs qs) k) (c:xs[i]? =some x) {K:Int->Prop} (b:K x.owner):bF sl.base sl.len (i:Int)/\aR none (af .i64) k ((sat sl.base 2 (i:Int)).add 0) K:=
 Rw.vJ (sh:=af .i64) (o.right.left.kM (λ_=>rfl)) (λ_=>rfl) (by decide) (λx=>x.owner) (j:=0) (λ_=>rfl) (by omega) (by grind) λy a=>by rw [Int.toNat_natCast,c] at a;cases a;exact b
theorem Has.rN {i:Nat} {x:aM} (o:Has h0 (dt p sl xs qs) k) (c:xs[i]? =some x) {K:Sl->Prop} (b:K x.queue):bF sl.base sl.len (i:Int)/\aR none au k ((sat sl.base 2 (i:Int)).add 1) K:=
 Rw.vJ (sh:=au) (o.right.left.kM (λ_=>rfl)) (λ_=>rfl) (by decide) (λx=>x.queue) (j:=1) (λ_=>rfl) (by omega) (by grind) λy a=>by rw [Int.toNat_natCast,c] at a;cases a;exact b
theorem Qg {i:Nat} {x x':aM} (a:xs[i]? =some x) (e:x'.queue=x.queue):uD (xs.set i x') qs=uD xs qs:=by unfold uD;grind
theorem Has.pd {i:Nat} {x:aM} {v:Int} {K:Hp->Prop} (o:Has h0 (dt p sl xs qs) k) (b:xs[i]? =some x) (c:∀a,Has h0 (dt p sl (xs.set i ⟨v,x.queue⟩) qs) a->K a):cJ k ((sat sl.base 2 (i:Int)).add 0) [.int .i64 v] K:=by obtain ⟨f,_,e,put⟩:=o.f2;refine e.Bp (λ_=>rfl) b (x':=⟨v,x.queue⟩) (show (1:Nat)<=2 by decide) rfl λa d=>c a ?_;have:=put _ _ d;unfold dt;rw [Qg (x':=⟨v,x.queue⟩) b rfl];exact this
theorem Has.sY {i:Nat} {x:aM} {s:Sl} {q b:List Int} {K:Hp->Prop} {h1:Hp} (g:Has h0 ((dk EO p ⟨sl⟩).star ((dU 2 eL sl xs).star (uD (xs.set i ⟨x.owner,s⟩) (qs.set i b)))) k) (d:xs[i]? =some x)
  (c:∀a,Has h0 (dt p sl (xs.set i ⟨x.owner,s⟩) (qs.set i b)) a->K a):cJ k ((sat sl.base 2 (i:Int)).add 1) [s.v] K:=by
 obtain ⟨h,_,f,put⟩:=g.f2;refine f.Bp (λ_=>rfl) d (x':=⟨x.owner,s⟩) (show (2:Nat)<=2 by decide) rfl λa e=>c a (put _ _ e)
theorem Lg {n w:Int} {Q:Int->Hp->Prop} (o:Has h0 (nB p os qs) k) (c:0<=n/\n<qs.length) (f:0<=w) (d:Q 0 k):Wj prog (some p) n w Q k:=by obtain ⟨sl,xs,a,b,o⟩:=o.ng;unfold Wj;have e:=o.right.left.jh;refine aP ((Has.left o).vR (shf:=au) sl rfl ?_);refine aJ ?_;grind
theorem Lh {w:Int} {Q:Int->Bool->Hp->Prop} (o:Has h0 (dt p sl xs qs) k) (l:xs.length=qs.length) (d:qs.length<=1000/\∀q∈qs,q.length<=100) (e:∀q∈qs,w∉q) (r:Q 0 false k):We prog (some p) w Q k:=by
 unfold We;have s:=o.right.left.jh;refine aP (o.va ?_);refine aA.intro (λ(i:Int) h=>h=k/\0<=i/\i<=(qs.length:Int)) (λi _=>(qs.length-i).toNat) ⟨rfl,by omega,by omega⟩ ?_;rintro i _ ⟨rfl,g,t⟩;by_cases n:i<(qs.length:Int)
 ·rw [if_pos (iV)];refine o.Ba.get (λ_=>rfl) (by omega) g (by omega) λ(y:aM) f=> ?_;have c:i.toNat<qs.length:=by omega
  have a:=List.getElem?_eq_getElem c;generalize qs[i.toNat]=q at a;have b:=List.mem_of_getElem? a;obtain ⟨m,_,j,_⟩:=o.right.right.sX f a;refine zil (I6 (j.kM (λ_=>rfl)) (by have:=d.2 q b;omega) ?_);dsimp only;rw [if_neg (by simpa using e q b),aT];exact ⟨⟨rfl,by omega,by omega⟩,by omega⟩
 grind
theorem Qi {n:Nat} {w a:Int} {Q:Bool->Int->Hp->Prop} {q:List Int} (o:Has h0 (nB p os qs) k) (h:qs.length<=1000/\∀q∈qs,q.length<=100) (y:∀q∈qs,w∉q) (B:0<=w) (z:os[n]? =some a) (f:qs[n]? =some q)
  (h1:(a= -1\/a=w)->∀b,Has h0 (nB p (os.set n w) qs) b->Q true 0 b) (r:¬(a= -1\/a=w)->∀b,Has h0 (nB p os (qs.set n (q++ [w]))) b->Q false 0 b):WB prog (some p) (n:Int) w Q k:=by
 unfold WB;have O:n<qs.length:=(List.getElem?_eq_some_iff.1 f).1;refine zog (Lg o ⟨by omega,by omega⟩ B ?_);rw [if_neg (by decide)];obtain ⟨sl,xs,l,m,o⟩:=o.ng;refine zoe (Lh o m h y ?_);rw [if_neg (by decide)];obtain ⟨x,d,C⟩:∃x,xs[n]? =some x/\x.owner=a:=by grind
 have t:=(o.qP d (K:=λ_=>True) trivial).1;refine aP (o.va ⟨t,?_⟩);refine ⟨λ_ b=>∃v,((a= -1/\v=w)\/(a≠ -1/\v=a))/\Has h0 (dt p sl (xs.set n ⟨v,x.queue⟩) qs) b,?_,?_⟩
 ·refine aP (o.qP d ?_).2;rw [C];by_cases e:a= -1
  ·rw [if_pos (by simp [e])];refine aP (o.pd d λb S=> ?_);grind
  ·rw [if_neg (by simp [e])];refine ⟨a,.inr ⟨e,rfl⟩,?_⟩;have:(⟨a,x.queue⟩:aM)=x:=by cases x;grind
   rw [this,Ev d];exact o
 ·rintro _ E ⟨v,hv,o⟩;have c:(xs.set n ⟨v,x.queue⟩)[n]? =some ⟨v,x.queue⟩:=List.getElem?_set_self (List.getElem?_eq_some_iff.1 d).1;have u:(xs.set n ⟨v,x.queue⟩).length=qs.length:=by grind
  have i:(xs.set n ⟨v,x.queue⟩).map (·.owner)=os.set n v:=by rw [List.map_set,l]
  refine aP (o.qP c ?_).2;dsimp only;by_cases e:v=w
  ·rw [if_neg (show ¬(v !=w)=true by simp [e])];refine aP (o.qP c ?_).2;rw [show (v==w)=true by simp [e]];refine h1 (by omega) E (o.jv ?_ u);rw [i,e]
  ·rw [if_pos (show (v !=w)=true by simp [e])];refine aP (o.rN c ?_).2;obtain ⟨s,_,G,L⟩:=o.f3;obtain ⟨N,_,H,M⟩:=G.sX c f;have P:=h.2 q (List.mem_of_getElem? f);refine H.push (e:=w) rfl (λ_=>rfl) (λ_=>rfl) rfl ⟨by omega,by omega⟩ λg R I=> ?_;have J:=L _ _ (M ⟨v,g⟩ _ _ I);refine aP (Has.sY (x:=⟨v,x.queue⟩) (q:=q) (h1:=s) J c λF j=> ?_);have D:((xs.set n ⟨v,x.queue⟩).set n ⟨v,g⟩)[n]? =some ⟨v,g⟩:=List.getElem?_set_self (List.getElem?_eq_some_iff.1 c).1;refine aP (j.qP D ?_).2;rw [show (v==w)=false by simp [e]];refine r (by omega) F (j.jv ?_ (by grind));rw [List.map_set,i];have A:v=a:=by omega
   subst A;rw [List.set_set,Ev z]
end
def hold (w:Int):List Int->Nat->List Int
 | [],_=> []
 | o::r,i=>if o=w then (i:Int)::hold w r (i+1) else hold w r (i+1)
theorem E9 {w:Int}:∀ {os:List Int} {i:Nat} {n:Int},n∈hold w os i->∃j:Nat,n=((i+j:Nat):Int)/\os[j]? =some w
 | [],_,_,h=>by cases h
 | o::r,i,n,h=>by
  unfold hold at h;split at h
  ·rename_i e;rcases List.mem_cons.1 h with h | h
   ·grind
   ·obtain ⟨j,b,a⟩:=E9 h;exact ⟨j+1,by omega,by simpa using a⟩
  ·obtain ⟨j,b,a⟩:=E9 h;exact ⟨j+1,by omega,by simpa using a⟩
theorem CF {w:Int}:∀ {os:List Int} {i:Nat},(hold w os i).Nodup
 | [],_=>.nil
 | o::r,i=>by
  unfold hold;split
  ·refine List.nodup_cons.2 ⟨λh=> ?_,CF⟩;obtain ⟨j,a,_⟩:=E9 h;omega
  ·exact CF
theorem DK {w:Int}:∀ {os:List Int} {i:Nat},(hold w os i).length<=os.length
 | [],_=>by simp [hold]
 | o::r,i=>by unfold hold;have:=DK (w:=w) (os:=r) (i:=i+1);grind
theorem Li {w:Int}:∀ {os:List Int} {i t:Nat} {o:Int},os[t]? =some o->hold w (os.take (t+1)) i=hold w (os.take t) i++(if o=w then [((i+t:Nat):Int)] else [])
 | [],_,_,_,h=>by cases h
 | a::r,i,0,o,h=>by
  have h:a=o:=by simpa using h
  subst h;simp [hold]
 | a::r,i,t+1,o,h=>by have b:=Li (w:=w) (i:=i+1) (t:=t) (o:=o) (os:=r) (by simpa using h);rw [List.take_succ_cons,List.take_succ_cons];unfold hold;grind
def lU (z:List Int×List (List Int)×List Int) (n:Int):List Int×List (List Int)×List Int:=
 match z.2.1.getD n.toNat [] with
 | []=>(z.1.set n.toNat (-1),z.2.1,z.2.2++ [-1])
 | a::r=>(z.1.set n.toNat a,z.2.1.set n.toNat r,z.2.2++ [a])
theorem Lj {w:Int}:∀ {os:List Int} {qs:List (List Int)} {po:List Int} {pq:List (List Int)} {G:List Int},os.length=qs.length->po.length=pq.length->
  (hold w os po.length).foldl lU (po++os,pq++qs,G)=(po++(jk w os qs).1,pq++(jk w os qs).2.1,G++(jk w os qs).2.2)
 | [],[],po,pq,G,_,_=>by simp [hold,jk]
 | o::os,q::qs,po,pq,G,f,hp=>by
  have f:os.length=qs.length:=by simpa using f
  have step:∀(c:Int) (d:List Int) (b:List Int),(hold w os (po.length+1)).foldl lU (po++c::os,pq++d::qs,b)=(po++c::(jk w os qs).1,pq++d::(jk w os qs).2.1,b++(jk w os qs).2.2):=λc d b=>by have:=Lj (w:=w) (po:=po++ [c]) (pq:=pq++ [d]) (G:=b) f (by simp [hp]);simpa using this
  by_cases e:o=w
  ·unfold hold jk;rw [if_pos e,if_pos e,List.foldl_cons];have i:(pq++q::qs).getD po.length []=q:=by rw [hp];simp [List.getD]
   have g:∀v:Int,(po++o::os).set po.length v=po++v::os:=λv=>by rw [List.set_append_right _ _ (Nat.le_refl _)];simp
   have j:∀v:List Int,(pq++q::qs).set po.length v=pq++v::qs:=λv=>by rw [hp,List.set_append_right _ _ (Nat.le_refl _)];simp
   have k:lU (po++o::os,pq++q::qs,G) (po.length:Int)=(match q with
     | []=>(po++ -1::os,pq++ []::qs,G++ [-1])
     | a::r=>(po++a::os,pq++r::qs,G++ [a])):=by
    unfold lU;dsimp only;rw [Int.toNat_natCast,i];cases q with
    | nil=>dsimp only;rw [g]
    | cons a r=>dsimp only;rw [g,j]
   grind
  ·unfold hold jk;grind
 | [],_::_,_,_,_,h,_=>by cases h
 | _::_,[],_,_,_,h,_=>by cases h
theorem Zr (z:List Int×List (List Int)×List Int) (n:Int):(lU z n).1.length=z.1.length/\(lU z n).2.1.length=z.2.1.length:=by unfold lU;split<;>simp
theorem MB :∀(l:List Int) (z:List Int×List (List Int)×List Int),(l.foldl lU z).1.length=z.1.length/\(l.foldl lU z).2.1.length=z.2.1.length
 | [],_=>⟨rfl,rfl⟩
 | n::l,z=>by have a:=MB l (lU z n);have b:=Zr z n;grind
theorem Io :∀(l:List Int) (z:List Int×List (List Int)×List Int) (j:Nat),(∀n∈l,n.toNat≠j)->(l.foldl lU z).1[j]? =z.1[j]?/\(l.foldl lU z).2.1[j]? =z.2.1[j]?
 | [],_,_,_=>⟨rfl,rfl⟩
 | n::l,z,j,h=>by
  have c:=Io l (lU z n) j λm b=>h m (List.mem_cons_of_mem _ b);have a:=h n (List.mem_cons_self ..);have d:(lU z n).1[j]? =z.1[j]?/\(lU z n).2.1[j]? =z.2.1[j]?:=by
   unfold lU;split
   ·exact ⟨List.getElem?_set_ne a,rfl⟩
   ·exact ⟨List.getElem?_set_ne a,List.getElem?_set_ne a⟩
  grind
section
variable {h0 k:Hp} {p:Addr} {os:List Int} {qs:List (List Int)} {sl:Sl} {xs:List aM}
theorem VS {n:Nat} {w:Int} (a:xs.map (·.owner)=os) (b:os[n]? =some w):∃x,xs[n]? =some x/\x.owner=w:=by grind
theorem MC {n:Nat} {w:Int} {q:List Int} {Q:Int->Int->Hp->Prop} (o:Has h0 (nB p os qs) k) (E:0<=w) (D:os[n]? =some w) (j:qs[n]? =some q)
  (h1:q=[]->∀g,Has h0 (nB p (os.set n (-1)) qs) g->Q (-1) 0 g) (A:∀a r,q=a::r->∀g,Has h0 (nB p (os.set n a) (qs.set n r)) g->Q a 0 g):WD prog (some p) (n:Int) w Q k:=by
 unfold WD;have V:n<qs.length:=(List.getElem?_eq_some_iff.1 j).1;refine zog (Lg o ⟨by omega,by omega⟩ E ?_);rw [if_neg (by decide)];obtain ⟨sl,xs,h,R,o⟩:=o.ng;obtain ⟨x,b,G⟩:=VS h D;have C:=(o.qP b (K:=λ_=>True) trivial).1;have l:=(List.getElem?_eq_some_iff.1 b).1;refine aP (o.va ⟨C,?_⟩);refine aP (o.qP b ?_).2;rw [if_neg (show ¬(x.owner !=w)=true by simp [G])];refine aP (o.rN b ?_).2;obtain ⟨S,_,I,W⟩:=o.f3;obtain ⟨T,_,u,X⟩:=I.sX b j;have f:=u.jh;cases q with
 | nil=>have f:x.queue.len=0:=f;rw [if_pos (by simp [f])];refine aP (o.pd (v:= -1) b λs e=> ?_);have d:(xs.set n (⟨-1,x.queue⟩:aM))[n]? =some ⟨-1,x.queue⟩:=List.getElem?_set_self l;refine aP (e.qP d ?_).2;exact h1 rfl s (e.jv (by rw [List.map_set,h]) (by grind))
 | cons a r=>
  have f:x.queue.len=r.length+1:=by simpa using f
  rw [if_neg (by simp;omega)];refine aP (o.rN b ?_).2;have P:Rs k (af .i64) 1 x.queue (a::r):=u.kM (λ_=>rfl);refine P.get (λ_=>rfl) (by omega) (by omega) (by simp) λ(y:Int) m=> ?_;have m:y=a:=by grind
  subst m;refine aP (o.pd (v:=y) b λs e=> ?_);have d:(xs.set n (⟨y,x.queue⟩:aM))[n]? =some ⟨y,x.queue⟩:=List.getElem?_set_self l;refine aP (e.rN d ?_).2;refine aP (e.rN d ?_).2;refine aP (e.rN d ?_).2;obtain ⟨B,_,J,N⟩:=e.f3;obtain ⟨U,_,z,O⟩:=J.sX d j;have i:=z.we;have i:x.queue.len<=x.queue.cap:=i;refine ⟨by dsimp only;omega,aJ ?_⟩;dsimp only;rw [Int.toNat_natCast];have L:=z.qJ (λ_=>rfl) (c:=x.queue.len) (Nat.le_refl _) i;have M:=N _ _ (O ⟨y,⟨be x.queue.base 1 1 x.queue.len,x.queue.len-1,x.queue.len-1⟩⟩ _ _ L);refine aP (Has.sY (x:=⟨y,x.queue⟩) (q:=y::r) (h1:=B) M d λH t=> ?_);have F:((xs.set n (⟨y,x.queue⟩:aM)).set n ⟨y,⟨be x.queue.base 1 1 x.queue.len,x.queue.len-1,x.queue.len-1⟩⟩)[n]? =some ⟨y,⟨be x.queue.base 1 1 x.queue.len,x.queue.len-1,x.queue.len-1⟩⟩:=List.getElem?_set_self (by grind);refine aP (t.qP F ?_).2;exact A y r rfl H (t.jv (by rw [List.map_set,List.map_set,h,List.set_set]) (by grind))
theorem Lk {w:Int} {Q:Sl->Hp->Prop} (o:Has h0 (nB p os qs) k) (v:qs.length<=1000) (A:0<=w) (t:∀s a,Has h0 ((nB p os qs).star (dU 1 fE s (hold w os 0))) a->Q s a):Wf prog (some p) w Q k:=by
 unfold Wf;obtain ⟨sl,xs,j,l,o⟩:=o.ng;have z:=o.right.left.jh;have x:os.length=qs.length:=by grind
 refine aP (o.va ?_);have nil:Has k (dU 1 fE (⟨none,0,0⟩:Sl) ([]:List Int)) k:=Has.ku (Hp.le_refl _);refine bT.intro (λ(s:Sl) (i:Int) a=>0<=i/\i<=(qs.length:Int)/\Has h0 ((dt p sl xs qs).star (dU 1 fE s (hold w (os.take i.toNat) 0))) a) (λ_ i _=>(qs.length-i).toNat) ⟨by omega,by omega,by simpa [hold] using o.beside nil⟩ ?_;rintro s i a ⟨u,C,o⟩;by_cases g:i<(qs.length:Int)
 ·rw [if_pos (iV)];refine ⟨λf c=>i<(qs.length:Int)/\Has h0 ((dt p sl xs qs).star (dU 1 fE f (hold w (os.take (i.toNat+1)) 0))) c,?_,?_⟩
  ·refine (Has.left o).Ba.get (λ_=>rfl) (by omega) u (by omega) λ(y:aM) B=>aJ ?_;have r:os[i.toNat]? =some y.owner:=by grind
   have b:=Li (w:=w) (i:=0) r;rw [show (w !=(-1:Int))=true by simp;omega,Bool.and_true];by_cases e:y.owner=w
   ·rw [if_pos (by simp [e])];rw [if_pos e] at b;obtain ⟨n,_,d,_,h⟩:=o.snd;have q:=DK (w:=w) (os:=os.take i.toNat) (i:=0);rw [List.length_take] at q;refine d.push (e:=i) rfl (λ_=>rfl) (λ_=>rfl) rfl ⟨by omega,by omega⟩ λf c D=> ?_;grind
   ·rw [if_neg (by simp [e])];rw [if_neg e,List.append_nil] at b;exact ⟨g,by rw [b];exact o⟩
  ·rintro f c ⟨_,o⟩;rw [aT];grind
 ·rw [if_neg (λe=>g (by grind))];refine t _ a ?_;have m:i.toNat=os.length:=by omega
  rw [m,List.take_length] at o;obtain ⟨n,_,d,_,h⟩:=o.fst;exact h _ _ (d.jv j l)
end
abbrev eG :cq->List Value:=λg=> [.int .i64 g.xH,.int .i64 g.dp]
abbrev xK (l:Sl) (a:List (List Int)):dI:=jT (bM.ok (sh:=au) (sz:=1) kW) l a
section
variable {h0 k:Hp} {p:Addr} {os:List Int} {qs:List (List Int)} {sl:Sl} {xs:List aM}
def fe (w:Int) (q:List Int):List Int:=iL (λz=>decide (z=w)) q
theorem R6 {w:Int} {Q:Sl->Hp->Prop} (o:Has h0 (nB p os qs) k) (hl:qs.length<=1000/\∀q∈qs,q.length<=100) (d5:os.length=qs.length) (hw:0<=w)
  (hq:∀s b gs,gs.map cq.dp=(jk w os (qs.map (fe w))).2.2->Has h0 ((nB p (jk w os (qs.map (fe w))).1 (jk w os (qs.map (fe w))).2.1).star (dU 2 eG s gs)) b->Q s b):W5 prog (some p) w Q k:=by
 unfold W5;obtain ⟨sl,xs,d,u,o⟩:=o.ng;have hs:=o.right.left.jh;refine aP (o.va ?_);refine aA.intro (λ(i:Int) b=>0<=i/\i<=(qs.length:Int)/\∃xs,xs.map (·.owner)=os/\xs.length=qs.length/\Has h0 (dt p sl xs ((qs.take i.toNat).map (fe w)++qs.drop i.toNat)) b) (λi _=>(qs.length-i).toNat) ⟨by omega,by omega,xs,d,u,by simpa using o⟩ ?_;rintro i b ⟨i0,i1,xs,d,u,o⟩;by_cases O:i<(qs.length:Int)
 ·rw [if_pos (iV)];have hi:i.toNat<qs.length:=by omega
  have F:=List.getElem?_eq_getElem hi;generalize qs[i.toNat]=q at F;have Y:=DJ (f:=fe w) F;have b5:i.toNat<xs.length:=by omega
  have H:=List.getElem?_eq_getElem b5;generalize xs[i.toNat]=x at H;have D:((i.toNat:Nat):Int)=i:=by omega
  have d6:=hl.2 q (List.mem_of_getElem? F);refine ⟨λ_ c=>i<(qs.length:Int)/\∃xs,xs.map (·.owner)=os/\xs.length=qs.length/\Has h0 (dt p sl xs ((qs.take (i.toNat+1)).map (fe w)++qs.drop (i.toNat+1))) c,?_,?_⟩
  ·refine aP (o.va ?_);have X:=o.rN H (K:=λy=>y=x.queue) rfl;rw [D] at X;obtain ⟨N,y,hy,rfl⟩:=X;refine ⟨N,_,hy,?_⟩;obtain ⟨P,_,o4,c9⟩:=o.f3;obtain ⟨E,_,C,J⟩:=o4.sX H Y;refine zlf (K8 (C.kM (λ_=>rfl)) (by omega) ?_);have U:=Zb (λz:Int=>decide (z=w)) q;by_cases hp:pQ w q>=0
   ·rw [if_pos (decide_eq_true hp)];have b7:pQ w q<q.length:=Ig hp;refine aP (o.va ?_);refine aP (o.va ?_);refine ⟨N,_,hy,?_⟩;obtain ⟨n,B⟩:∃n:Nat,pQ w q=n:=⟨(pQ w q).toNat,by omega⟩;have I:prog.underlying 23=some (.slice 3):=bG.bO 23 tf rfl;have b3:∀(M:Sl->Hp->Prop),(∀g b,Has E (dU 1 fE g (q.take n++q.drop (n+1))) b->M g b)->Th prog x.queue (n:Int) ((n+1:Nat):Int) M b:=λM b0=>by
     unfold Th;exact Has.FW (bytes:=8) (z:=.int .i64 0) I (λhK=>C5 bG (e:=uO) rfl hK) (λ_=>rfl) (λ_=>rfl) rfl (λm=>by induction m with
      | zero=>rfl
      | succ m ih=>exact ih) C (by omega) (by omega) ⟨by omega,by omega⟩ b0
    rw [B,aT];refine zsp (b3 _ λg c R=> ?_);have l:=c9 _ _ (J ⟨x.owner,g⟩ _ _ R);refine ⟨⟨l.left.fb (n:=1) rfl,trivial⟩,N,?_⟩;have c6:q.take n++q.drop (n+1)=fe w q:=by have b8:je (λz:Int=>decide (z=w)) q=n:=B;show _=iL (λz=>decide (z=w)) q;rw [U,b8,if_pos (by omega),Int.toNat_natCast]
    rw [c6,yL F] at l;have key:cJ c ((sat sl.base 2 ((i.toNat:Nat):Int)).add 1) [g.v] λk4=>i<(qs.length:Int)/\∃xs,xs.map (·.owner)=os/\xs.length=qs.length/\Has h0 (dt p sl xs ((qs.take (i.toNat+1)).map (fe w)++qs.drop (i.toNat+1))) k4:=by obtain ⟨h8,_,S,a8⟩:=l.f2;refine S.Bp (λ_=>rfl) H (x':=⟨x.owner,g⟩) (show (2:Nat)<=2 by decide) rfl λk4 o9=> ?_;refine ⟨O,xs.set i.toNat ⟨x.owner,g⟩,?_,by rw [List.length_set];exact u,a8 _ _ o9⟩;rw [List.map_set,d];refine Ev ?_;rw [<-d,List.getElem?_map,H];rfl
    grind
   ·rw [if_neg (λh=>hp (of_decide_eq_true h))];refine ⟨O,xs,d,u,?_⟩;have c5:fe w q=q:=by show iL (λz=>decide (z=w)) q=q;rw [U,if_neg (show ¬0<=je (λz:Int=>decide (z=w)) q from hp)]
    have:=yL (f:=fe w) F;rw [c5,Ev Y] at this;grind
  ·rintro _ c ⟨_,xs,d,u,o⟩;rw [aT];refine ⟨⟨by omega,by omega,xs,d,u,?_⟩,by omega⟩;rw [show (i+1).toNat=i.toNat+1 by omega];exact o
 ·rw [if_neg (λe=>O (by grind))];have D:i.toNat=qs.length:=by omega
  rw [D,List.take_length,List.drop_length,List.append_nil] at o;have o:Has h0 (nB p os (qs.map (fe w))) b:=o.jv d (by grind);refine zof (Lk o (by grind) hw λs k1 o=> ?_);have d4:=o.right.jh;have d1:=DK (w:=w) (os:=os) (i:=0);have rs:∀c,Has h0 ((nB p os (qs.map (fe w))).star (dU 1 fE s (hold w os 0))) c->Rw c 1 fE s (hold w os 0):=λc o=>o.right.kM (λ_=>rfl);have nil:Has k1 (dU 2 eG (⟨none,0,0⟩:Sl) ([]:List cq)) k1:=Has.ku (Hp.le_refl _);have V:=Lj (w:=w) (os:=os) (qs:=qs.map (fe w)) (po:=[]) (pq:=[]) (G:=[]) (by grind) rfl;simp only [List.nil_append,List.length_nil] at V;refine bT.intro (λ(t:Sl) (i:Int) b=>0<=i/\i<=((hold w os 0).length:Int)/\∃gs:List cq,gs.map cq.dp=(((hold w os 0).take i.toNat).foldl lU (os,qs.map (fe w),[])).2.2/\gs.length=i.toNat/\
   Has h0 (((nB p (((hold w os 0).take i.toNat).foldl lU (os,qs.map (fe w),[])).1 (((hold w os 0).take i.toNat).foldl lU (os,qs.map (fe w),[])).2.1).star (dU 1 fE s (hold w os 0))).star (dU 2 eG t gs)) b) (λ_ i _=>((hold w os 0).length-i).toNat)
   ⟨by omega,by omega,[],by simp,rfl,by simpa using o.beside nil⟩ ?_
  rintro t i b ⟨i0,i1,gs,L,b4,o⟩;by_cases P:i<((hold w os 0).length:Int)
  ·rw [if_pos (iV)];have hr:Rs b (af .i64) 1 s (hold w os 0):=o.left.right.kM (λ_=>rfl);refine hr.get (λ_=>rfl) (by omega) i0 P λ(n:Int) B=> ?_;obtain ⟨j,hj,c4⟩:=E9 (List.mem_of_getElem? B);have b6:n=(j:Int):=by omega
   subst b6;generalize I:((hold w os 0).take i.toNat).foldl lU (os,qs.map (fe w),[])=z at o L;have c3:∀m∈(hold w os 0).take i.toNat,m.toNat≠j:=λm hm e=>by
    obtain ⟨a,A⟩:=List.getElem?_of_mem hm;rw [List.getElem?_take] at A;split at A
    ·rename_i b7;obtain ⟨j2,d2,_⟩:=E9 (List.mem_of_getElem? A);have em:m=(j:Int):=by omega
     rw [em] at A;have b9:=CF (w:=w) (os:=os) (i:=0);obtain ⟨b1,b2⟩:=List.getElem?_eq_some_iff.1 A;obtain ⟨c1,c2⟩:=List.getElem?_eq_some_iff.1 B;exact List.pairwise_iff_getElem.1 b9 a i.toNat b1 c1 (by omega) (b2.trans c2.symm)
    ·cases A
   have T:=Io ((hold w os 0).take i.toNat) (os,qs.map (fe w),[]) j c3;rw [I] at T;have c7:=MB ((hold w os 0).take i.toNat) (os,qs.map (fe w),[]);rw [I] at c7;have d3:j<qs.length:=by grind
   obtain ⟨q,Z⟩:∃q,z.2.1[j]? =some q:=⟨_,List.getElem?_eq_getElem (by grind)⟩;have c8:z.1[j]? =some w:=T.1.trans c4;obtain ⟨E,_,C,_,J⟩:=o.fst;obtain ⟨h6,_,R,_,d0⟩:=C.fst;have c0:((hold w os 0).take (i.toNat+1)).foldl lU (os,qs.map (fe w),[])=lU z (j:Int):=by rw [List.take_add_one,B,List.foldl_append,I];rfl
   have W:z.2.1.getD j []=q:=nT Z;have fin:∀(v:Int) c,(lU z (j:Int)).2.2=z.2.2++ [v]->Has h6 (nB p (lU z (j:Int)).1 (lU z (j:Int)).2.1) c->
     bh [.int .i64 (j:Int),.int .i64 v] (λa E=>fu 2 16 [(.int .i64 (0:Int)),(.int .i64 (0:Int))] ⟨t.base,t.len,t.cap⟩ ⟨(some a),1,1⟩ (λr3 a9=>
      (λ(t:Sl) (i:Int) b=>0<=i/\i<=((hold w os 0).length:Int)/\∃gs:List cq,gs.map cq.dp=(((hold w os 0).take i.toNat).foldl lU (os,qs.map (fe w),[])).2.2/\gs.length=i.toNat/\
       Has h0 (((nB p (((hold w os 0).take i.toNat).foldl lU (os,qs.map (fe w),[])).1 (((hold w os 0).take i.toNat).foldl lU (os,qs.map (fe w),[])).2.1).star (dU 1 fE s (hold w os 0))).star (dU 2 eG t gs)) b) r3 (yw (i+1)) a9/\((hold w os 0).length-yw (i+1)).toNat<((hold w os 0).length-i).toNat) E) c:=by
    intro v c hv l;have oo:=J _ _ (d0 _ _ l);obtain ⟨h8,_,S,_,a8⟩:=oo.snd;refine S.push (e:=⟨(j:Int),v⟩) rfl (λ_=>rfl) (λ_=>rfl) rfl ⟨by omega,by omega⟩ λs2 k3 o9=> ?_;rw [aT];refine ⟨⟨by omega,by omega,gs++ [⟨(j:Int),v⟩],?_,?_,?_⟩,by omega⟩
    ·rw [show (i+1).toNat=i.toNat+1 by omega,c0,hv,List.map_append,L];rfl
    ·rw [List.length_append,b4];simp;omega
    grind
   refine zpn (MC R hw c8 Z (λeq c l=> ?_) λa r eq c l=> ?_)
   ·have hg:lU z (j:Int)=(z.1.set j (-1),z.2.1,z.2.2++ [-1]):=by unfold lU;rw [Int.toNat_natCast,W,eq]
    grind
   ·have hg:lU z (j:Int)=(z.1.set j a,z.2.1.set j r,z.2.2++ [a]):=by unfold lU;rw [Int.toNat_natCast,W,eq]
    grind
  ·rw [if_neg (λe=>P (by grind))];have D:i.toNat=(hold w os 0).length:=by omega
   rw [D,List.take_length,V] at o L;refine hq _ b gs L ?_;obtain ⟨E,_,C,_,J⟩:=o.fst;exact J _ _ C.left
end
section
variable {h0 k:Hp} {p:Addr} {os:List Int} {qs:List (List Int)} {sl:Sl} {xs:List aM}
theorem Has.O6 {c:Type} {sh:Shape} {sz:Nat} {S:sh.T->c->Prop} {l:Sl} {b:List c} {v:sh.T} {q:c} {d zero:List Value} {bytes:Nat} {K:Sl->Hp->Prop} (o:Has h0 (jT (bM.ok (sh:=sh) (sz:=sz) (fp.ok S)) l b) k) (g:S v q)
  (i:d=bp (sh.enc v)) (j:∀x,(bp (sh.enc x)).length=sz) (n:∀x,ji (bp (sh.enc x))=true) (r:zero.length=sz) (hb:b.length+1<=140737488355328/\(b.length+1)*bytes<=140737488355328)
  (m:∀f e,Has h0 (jT (bM.ok (sh:=sh) (sz:=sz) (fp.ok S)) f (b++ [q])) e->K f e):bh d (λa s=>fu sz bytes zero l ⟨some a,1,1⟩ K s) k:=
 Has.row (okQ:=fp.ok S) (o.beside (Has.sV (Hp.le_refl k) ⟨rfl,g⟩ .nil λ_ h=>by cases h)) i j n r hb m
theorem Zt {Q:Sl->Sl->Hp->Prop} (o:Has h0 (nB p os qs) k) (t:qs.length<=1000/\∀q∈qs,q.length<=100) (u:os.length=qs.length)
  (z:∀s a b,Has h0 ((nB p os qs).star ((uH s os).star (xK a qs))) b->Q s a b):Wc prog (some p) Q k:=by
 unfold Wc;obtain ⟨sl,xs,j,l,o⟩:=o.ng;have hs:=o.right.left.jh;refine aP (o.va ?_);have F:Has k (uH (⟨none,0,0⟩:Sl) ([]:List Int)) k:=Has.ou (okQ:=fp.ok Eq) (Hp.le_refl _);have G:Has k (xK (⟨none,0,0⟩:Sl) ([]:List (List Int))) k:=Has.ou (okQ:=kW) (Hp.le_refl _);refine qH.intro (λ(s a:Sl) (i:Int) b=>0<=i/\i<=(qs.length:Int)/\Has h0 ((dt p sl xs qs).star ((uH s (os.take i.toNat)).star (xK a (qs.take i.toNat)))) b) (λ_ _ i _=>(qs.length-i).toNat)
  ⟨by omega,by omega,by simpa using o.beside (F.beside G)⟩ ?_
 rintro s a i b ⟨B,i1,o⟩;by_cases n:i<(qs.length:Int)
 ·rw [if_pos (iV)];refine (Has.left o).Ba.get (λ_=>rfl) (by omega) B (by omega) λ(y:aM) A=> ?_;have r:i.toNat<qs.length:=by omega
  have c:=List.getElem?_eq_getElem r;generalize qs[i.toNat]=q at c;have a9:=t.2 q (List.mem_of_getElem? c);have w:os[i.toNat]? =some y.owner:=by grind
  have g:(⟨s.base,s.len,s.cap⟩:Sl)=s:=rfl;have h:(⟨a.base,a.len,a.cap⟩:Sl)=a:=rfl;rw [g,h];obtain ⟨Y,_,J,T⟩:=o.f2;refine J.O6 (S:=Eq) (v:=y.owner) (q:=y.owner) rfl rfl (λ_=>rfl) (λ_=>rfl) rfl ⟨by rw [List.length_take];omega,by rw [List.length_take];omega⟩ λs1 C K=> ?_;have o:=T _ _ K;refine Nu ?_;unfold EK;obtain ⟨Z,_,L,_⟩:=(Has.left o).right.right.sX A c;refine xA (bG.bO 23 tf rfl) (L.kM (λ_=>rfl)) (by decide) (λ_=>rfl) (λ_=>rfl) rfl ⟨by omega,by omega⟩ λW D a8 E=> ?_;have d:Has C (uH W q) D:=E.jO (f:=λx=>x) (λ_=>rfl) λ_=>rfl;have P:=(o.beside d).assoc;obtain ⟨h7,_,M,_,U⟩:=P.snd;obtain ⟨h8,_,N,_,V⟩:=M.assoc.snd;refine Has.row (sh:=au) (okQ:=kW) N rfl (λ_=>rfl) (λ_=>rfl) rfl ⟨by rw [List.length_take];omega,by rw [List.length_take];omega⟩ λs2 k3 O=> ?_;have H:=U _ _ (V _ _ O);rw [aT];refine ⟨⟨by omega,by omega,?_⟩,by omega⟩;have t1:os.take (i.toNat+1)=os.take i.toNat++ [y.owner]:=by rw [List.take_add_one,w];rfl
  have t2:qs.take (i.toNat+1)=qs.take i.toNat++ [q]:=by rw [List.take_add_one,c];rfl
  rw [show (i+1).toNat=i.toNat+1 by omega,t1,t2];exact H
 ·rw [if_neg (λe=>n (by grind))];refine z _ _ b ?_;have m:i.toNat=qs.length:=by omega
  rw [m,List.take_length,<-u,List.take_length] at o;obtain ⟨X,_,I,_,R⟩:=o.fst;exact R _ _ (I.jv j l)
structure Jv (os:List Int) (qs:List (List Int)):Prop where
 len:os.length=qs.length/\os.length<=8
 own:∀o∈os, -1<=o
 jf:∀(i:Nat) o q,os[i]? =some o->qs[i]? =some q->q.length<=100/\(o= -1->q=[])/\(∀z∈q,0<=z/\z≠o)/\q.Nodup
 once:∀(i j:Nat) q q',qs[i]? =some q->qs[j]? =some q'->i<j->∀z∈q',z∉q
theorem Uj {x:aM} {q:List Int} (c:xs.length=qs.length) (o:Has h0 ((uD xs qs).star (dU 1 fE x.queue q)) k):Has h0 (uD (xs++ [x]) (qs++ [q])) k:=by
 unfold uD;rw [List.length_append];show Has h0 ((dI.first (λi=>dU 1 fE ((xs++ [x]).getD i ud).queue ((qs++ [q]).getD i [])) qs.length).star (dU 1 fE ((xs++ [x]).getD qs.length ud).queue ((qs++ [q]).getD qs.length []))) k;have a:(xs++ [x]).getD qs.length ud=x:=by simp [List.getD,<-c]
 have b:(qs++ [q]).getD qs.length []=q:=by simp [List.getD]
 rw [a,b];refine cast (congrArg (λA=>Has h0 (A.star (dU 1 fE x.queue q)) k) (uq λi d=> ?_)) o;grind
theorem dt.rF {b:Sl} {K:Hp->Prop} (o:Has h0 ((dk EO p ⟨sl⟩).star ((dU 2 eL b xs).star (uD xs qs))) k) (c:∀a,Has h0 (dt p b xs qs) a->K a):cJ k (p.add 0) [b.v] K:=by obtain ⟨f,_,e,put⟩:=o.f1;exact e.st (⟨b⟩:fN) (show (1:Nat)<=1 by decide) rfl λa d=>c a (put _ _ d)
theorem R7 {N sq:Sl} {B:List Sl} {Q:Option Addr->Int->Hp->Prop} (v:Jv os qs) (Y:Is k N os) (M:Rs k au 1 sq B) (a:cZ (Is k) B qs) (hq:∀p c,k<=c->Has k (nB p os qs) c->Q (some p) 0 c):BR prog N sq Q k:=by
 unfold BR;have d3:=Y.1;have d4:=M.1;have d6:=a.len;have a9:=v.len;refine aJ ?_;rw [show (decide ((N.len:Int)>8) || decide ((sq.len:Int)>8))=false by simp;omega,if_neg (by decide),if_neg (by simp;omega)];refine se (sh:=EO) ⟨⟨none,0,0⟩⟩ rfl λp I d2 o1=> ?_;have Bq:Has k (dt p ⟨none,0,0⟩ [] []) I:=o1.beside ((Has.ku (Hp.le_refl I)).beside (Has.fact trivial (Hp.le_refl I)));refine aA.intro (λ(i:Int) c=>0<=i/\i<=(os.length:Int)/\∃(sl:Sl) (xs:List aM),xs.map (·.owner)=os.take i.toNat/\Has k (dt p sl xs (qs.take i.toNat)) c) (λi _=>(os.length-i).toNat) ⟨by omega,by omega,_,[],by simp,by simpa using Bq⟩ ?_;rintro i c ⟨H,i1,sl,xs,l,o⟩;by_cases P:i<(os.length:Int)
 ·rw [if_pos (iV)];have F:xs.length=i.toNat:=by have:=congrArg List.length l;grind
  refine Rs.get (sh:=af .i64) (Rw.mono o.le Y) (λ_=>rfl) (by omega) H P λ(w:Int) D=> ?_;have d5:=v.own w (List.mem_of_getElem? D);have c8:Rs c au 1 sq B:=Rw.mono o.le M;have hi:i.toNat<qs.length:=by omega
  have f:=List.getElem?_eq_getElem hi;generalize qs[i.toNat]=q at f;obtain ⟨y,T,G⟩:=a.get' f;obtain ⟨v1,v2,v3,v4⟩:=v.jf i.toNat w q D f;refine c8.pL (⟨none,0,0⟩:Sl) (λ_=>rfl) (by omega) (λ_=>⟨H,by omega⟩) λ(y0:Sl) b6=> ?_;have g:((w==(-1:Int))&&decide ((y0.len:Int)>0))=false:=by
   by_cases e:w= -1
   ·have:=b6 (by simp [e]);rw [T] at this;cases this;have b0:=G.1;grind
   ·simp [e]
  refine aJ (aJ ?_);rw [g,show decide (w<(-1:Int))=false by simp;omega,if_neg (by decide)];refine aP (o.va ?_);obtain ⟨h4,_,o4,c5⟩:=o.f2;refine o4.push (e:=⟨w,⟨none,0,0⟩⟩) rfl (λ_=>rfl) (λ_=>rfl) rfl ⟨by omega,by omega⟩ λA J o5=> ?_;have o6:=c5 _ _ o5;have nil:Has J (dU 1 fE (⟨w,⟨none,0,0⟩⟩:aM).queue []) J:=Has.ku (Hp.le_refl _);have o7:Has k ((dk EO p ⟨sl⟩).star ((dU 2 eL A (xs++ [⟨w,⟨none,0,0⟩⟩])).star (uD (xs++ [⟨w,⟨none,0,0⟩⟩]) (qs.take i.toNat++ [[]])))) J:=by have oo:=(o6.beside nil).assoc;obtain ⟨h8,_,u,_,c6⟩:=oo.snd;obtain ⟨h9,_,d,_,c7⟩:=u.assoc.snd;exact c6 _ _ (c7 _ _ (Uj (by grind) d))
  refine aP (dt.rF o7 λk3 u=> ?_);have c9:Rs k3 au 1 sq B:=Rw.mono u.le M;refine c9.get (λ_=>rfl) (by omega) H (by omega) λ(h:Sl) U=> ?_;rw [T] at U;cases U;have b0:=G.1;have r:(qs.take i.toNat).length=i.toNat:=by grind
  refine aA.intro (λ(j:Int) c=>0<=j/\j<=(q.length:Int)/\∃(s:Sl),Has k (dt p A (xs++ [⟨w,s⟩]) (qs.take i.toNat++ [q.take j.toNat])) c) (λj _=>(q.length-j).toNat) ⟨by omega,by omega,_,by simpa using u⟩ ?_;rintro j k4 ⟨j0,j1,s,d⟩;by_cases R:j<(q.length:Int)
  ·rw [if_pos (iV)];have b5:Is k4 y q:=Rw.mono d.le G;refine b5.get (λ_=>rfl) (by omega) j0 R λ(z:Int) g=> ?_;have W:=List.mem_of_getElem? g;have d7:=v3 z W;have b3:(xs++ [(⟨w,s⟩:aM)]).length=(qs.take i.toNat++ [q.take j.toNat]).length:=by simp [r,F]
   refine zoe (Lh d b3 ⟨by simp [r];omega,λL hq'=> ?_⟩ (λL hq'=> ?_) ?_)
   ·rcases List.mem_append.1 hq' with hq' | hq'
    ·obtain ⟨b,hb⟩:=List.getElem?_of_mem (List.mem_of_mem_take hq');have d1:=(List.getElem?_eq_some_iff.1 hb).1;exact (v.jf b _ L (List.getElem?_eq_getElem (show b<os.length by omega)) hb).1
    grind
   ·rcases List.mem_append.1 hq' with hq' | hq'
    ·obtain ⟨b,hb⟩:=List.getElem?_of_mem hq';rw [List.getElem?_take] at hb;split at hb
     ·rename_i C;exact v.once b i.toNat L q hb f C z W
     ·cases hb
    ·rw [List.mem_singleton.1 hq'];intro hm;obtain ⟨b,hb⟩:=List.getElem?_of_mem hm;rw [List.getElem?_take] at hb;split at hb
     ·rename_i C;obtain ⟨b1,b2⟩:=List.getElem?_eq_some_iff.1 hb;obtain ⟨c1,c2⟩:=List.getElem?_eq_some_iff.1 g;exact List.pairwise_iff_getElem.1 v4 b j.toNat b1 c1 C (b2.trans c2.symm)
     ·cases hb
   ·refine aJ (aJ ?_);rw [show (false || decide (z<0) || z==w)=false by simp;omega,if_neg (by decide)];have E:(xs++ [(⟨w,s⟩:aM)])[i.toNat]? =some ⟨w,s⟩:=by rw [<-F];simp
    have b4:(qs.take i.toNat++ [q.take j.toNat])[i.toNat]? =some (q.take j.toNat):=by rw [List.getElem?_append_right (by omega),r];simp
    have m:((i.toNat:Nat):Int)=i:=by omega
    refine aP (d.va ?_);refine aP (d.va ?_);have S:=d.rN E (K:=λy=>y=s) rfl;rw [m] at S;obtain ⟨O,Z,V,rfl⟩:=S;refine ⟨O,_,V,?_⟩;obtain ⟨a8,_,b7,c3⟩:=d.f3;obtain ⟨d0,_,b8,c4⟩:=b7.sX E b4;refine mL (xs:=[z]) (sz:=1) (enc:=fE) rfl (λ_=>rfl) λa2 k5 t n5=> ?_;refine ⟨⟨pk t (d.left.fb (n:=1) rfl),pk t (d.left.fb (n:=1) rfl),pk t V,trivial⟩,?_⟩;refine (b8.grow t).app (n5.kM (λ_=>rfl)) (λ_=>rfl) (λ_=>rfl) rfl ⟨by simp [List.length_take];omega,by simp [List.length_take];omega⟩ λs2 k6 b9=> ?_;have X:=c3 _ _ (c4 ⟨w,s2⟩ _ _ b9);refine ⟨⟨X.left.fb (n:=1) rfl,trivial⟩,O,?_⟩;have key:=Has.sY (x:=⟨w,Z⟩) (q:=q.take j.toNat) (h1:=a8) X E λk7 c0=>(show (λh c=>(0<=h/\h<=(q.length:Int)/\∃(s:Sl),Has k (dt p A (xs++ [⟨w,s⟩]) (qs.take i.toNat++ [q.take h.toNat])) c)/\((q.length:Int)-h).toNat<((q.length:Int)-j).toNat) (yw (j+1)) k7 from by
     rw [aT];refine ⟨⟨by omega,by omega,s2,?_⟩,by omega⟩;have t1:(xs++ [(⟨w,Z⟩:aM)]).set i.toNat ⟨w,s2⟩=xs++ [⟨w,s2⟩]:=by rw [List.set_append_right _ _ (by omega),<-F];simp
     have t2:(qs.take i.toNat++ [q.take j.toNat]).set i.toNat (q.take j.toNat++ [z])=qs.take i.toNat++ [q.take (j+1).toNat]:=by rw [List.set_append_right _ _ (by omega),r,show (j+1).toNat=j.toNat+1 by omega,List.take_add_one,g];simp
     rw [<-t1,<-t2];exact c0)
    grind
  ·rw [if_neg (λe=>R (by grind))];rw [aT];have ej:j.toNat=q.length:=by omega
   rw [ej,List.take_length] at d;refine ⟨⟨by omega,by omega,A,xs++ [⟨w,s⟩],?_,?_⟩,by omega⟩
   ·rw [List.map_append,l,show (i+1).toNat=i.toNat+1 by omega,List.take_add_one,D];rfl
   ·rw [show (i+1).toNat=i.toNat+1 by omega,List.take_add_one,f];exact d
 ·rw [if_neg (λe=>P (by grind))];have m:i.toNat=os.length:=by omega
  rw [m,List.take_length] at l;rw [m,a9.1,List.take_length] at o;exact hq p c o.le (o.jv l (by grind))
end
abbrev eE :ay->List Value:=λx=>bp (aY.enc x)
def ly (a b:ay):Prop:=a.due<b.due\/a.due=b.due/\a.dG<b.dG
theorem Ul (a:ay):¬ly a a:=by unfold ly;omega
theorem Jy {a b c:ay} (h:ly a b) (k:ly b c):ly a c:=by unfold ly at*;omega
theorem Um {a b:ay} (h:¬ly a b) (c:a≠b):ly b a:=by
 unfold ly at*;by_cases d:a.due=b.due
 ·by_cases e:a.dG=b.dG
  ·exact absurd (by cases a;cases b;grind) c
  ·omega
 ·omega
def pI (x y:Int):Int:=if x<y then -1 else if x>y then 1 else 0
theorem R8 {x y:Int} {Q:Int->Hp->Prop} {h:Hp} (a:Q (pI x y) h):Wg prog x y Q h:=by
 unfold Wg;refine zqk ?_;unfold W9;refine zqk ?_;unfold W9;dsimp only;rw [lz,if_neg (by simp)];unfold pI at a;by_cases b:x<y
 ·rw [if_pos (by simpa using b)];rw [if_pos b] at a;exact a
 ·rw [if_neg (by simpa using b)];rw [if_neg b] at a;by_cases c:x>y
  ·rw [if_pos (by simpa using c)];rw [if_pos c] at a;exact a
  ·rw [if_neg (by simpa using c)];rw [if_neg c] at a;exact a
theorem Qj {x y:Int} {Q:Int->Hp->Prop} {h:Hp} (a:Q (pI x y) h):W7 prog x y Q h:=by
 unfold W7;refine zta ?_;unfold XT;refine zta ?_;unfold XT;dsimp only;rw [lz,if_neg (by simp)];unfold pI at a;by_cases b:x<y
 ·rw [if_pos (by simpa using b)];rw [if_pos b] at a;exact a
 ·rw [if_neg (by simpa using b)];rw [if_neg b] at a;by_cases c:x>y
  ·rw [if_pos (by simpa using c)];rw [if_pos c] at a;exact a
  ·rw [if_neg (by simpa using c)];rw [if_neg c] at a;exact a
theorem VT {l:Sl} {u v:Int} {Q:Int->Hp->Prop} {h:Hp} (r:Rs h (af .i64) 1 l [u,v]) (d:Q (if u≠0 then u else v) h):Zs prog l Q h:=by
 unfold Zs;have a:=r.1;simp at a;refine aA.intro (λi k=>k=h/\(i=0\/(i=1/\u=0)\/(i=2/\u=0/\v=0))) (λi _=>(2-i).toNat) ⟨rfl,.inl rfl⟩ ?_;rintro i k ⟨rfl,c⟩;have w:yw (i+1)=i+1:=aT;rw [w];by_cases b:i=2
 ·grind
 ·rw [if_pos (show decide (i<(l.len:Int))=true by simp;omega)];refine Rs.get r (λ_=>rfl) (by omega) (by omega) (by simp;omega) λ(x:Int) e=> ?_;grind
def ya (a b:ay):Int:=if pI a.due b.due≠0 then pI a.due b.due else pI a.dG b.dG
theorem uf {a b:ay}:ya a b<0↔ly a b:=by unfold ya pI ly;omega
theorem MD {a b:ay} {Q:Int->Hp->Prop} {h:Hp} (e:∀c,h<=c->Q (ya a b) c):YO prog a b Q h:=by unfold YO;refine zxm (R8 ⟨⟨trivial,trivial,trivial⟩,?_⟩);refine zzz (Qj ?_);refine uP (xs:=([pI a.due b.due,pI a.dG b.dG]:List Int)) (enc:=λx=>bp ((af .i64).enc x)) (sz:=1) (Hp.le_refl h) rfl (λ_=>rfl) λa1 d f g=> ?_;exact TY (eK:=⟨some a1,2,2⟩) (VT (g.rw λ_=>rfl) (e d f))
theorem VU {i j:Int} (d:0<=i) (e:0<=j) (c:i+j<9223372036854775808):yw (gy .u64 (IntKind.wrap .u64 (yw (i+j))) 1)=(i+j) / 2:=by
 rw [wrap64 (by omega) c];have a:IntKind.wrap .u64 (i+j)=i+j:=by
  (try unfold yw);unfold IntKind.wrap
  simp only [IntKind.signed,IntKind.bits];grind
 rw [a];have b:gy .u64 (i+j) 1=(i+j) / 2:=by
  unfold gy;have:min (1:Int).toNat (IntKind.bits .u64)=1:=by decide
  grind
 rw [b,aT]
theorem Qk {x:Sl} {c:List ay} {d:ay} {Q:Int->Bool->Hp->Prop} {h:Hp} (r:Rw h 2 eE x c) (F:c.length<=4398046511104) (K:c.Pairwise ly)
  (P:∀(i:Nat) b f,h<=f->i<=c.length->(∀e∈c.take i,ly e d)->(∀e∈c.drop i,¬ly e d)->Q (i:Int) b f):
  PM prog x d ⟨KD, #[], #[]⟩ Q h:=by
 unfold PM;have T:=r.1;refine bT.intro (λi j k=>h<=k/\0<=i/\i<=j/\j<=(c.length:Int)/\(∀e∈c.take i.toNat,ly e d)/\(∀e∈c.drop j.toNat,¬ly e d)) (λi j _=>(j-i).toNat) ⟨Hp.le_refl h,by omega,by omega,by omega,λe v=>by simp at v,λe v=>by simp [T] at v⟩ ?_;rintro i j k ⟨o,E,W,M,G,D⟩;have B:=r.mono o;split
 ·rename_i e;have e:i<j:=by simpa using e
  rw [VU E (by omega) (by omega)];have H:i<=(i+j) / 2:=by omega
  have O:(i+j) / 2<j:=by omega
  generalize (i+j) / 2=m at H O;refine jU.intro (λs t U=>h<=U/\0<=s/\s<=t/\t<=(c.length:Int)/\(∀e∈c.take s.toNat,ly e d)/\(∀e∈c.drop t.toNat,¬ly e d)/\t - s<j-i) ?_ ?_
  ·refine ⟨by omega,?_⟩;refine pF (sh:=aY) B λ(l:ay) A=> ?_;refine ⟨KD, #[], #[],rfl,rfl,zxd (a:=l) (b:=d) (MD λf u=> ?_)⟩;obtain ⟨I,J⟩:=List.getElem?_eq_some_iff.1 A;by_cases p:ya l d<0
   ·rw [if_pos (by simpa using p),aT];have n:=uf.1 p;refine ⟨Hp.le_trans o u,by omega,by omega,M,λy hy=> ?_,D,by omega⟩;have:(m+1).toNat=m.toNat+1:=by omega
    rw [this,List.take_add_one,A] at hy;rcases List.mem_append.1 hy with hy | hy
    ·obtain ⟨q,g⟩:=List.mem_iff_getElem?.1 hy;rw [List.getElem?_take] at g;split at g
     ·rename_i S;obtain ⟨w,z⟩:=List.getElem?_eq_some_iff.1 g;have:=List.pairwise_iff_getElem.1 K q m.toNat w I S;rw [z,J] at this;exact Jy this n
     ·cases g
    ·have:y=l:=by simpa using hy
     rw [this];exact n
   ·rw [if_neg (by simpa using p)];have n:¬ly l d:=λh=>p (uf.2 h);refine ⟨Hp.le_trans o u,E,H,by omega,G,λy hy=> ?_,by omega⟩;obtain ⟨q,g⟩:=List.mem_iff_getElem?.1 hy;rw [List.getElem?_drop] at g;obtain ⟨w,z⟩:=List.getElem?_eq_some_iff.1 g;by_cases R:q=0
    ·subst R;rw [Nat.add_zero,A] at g;cases g;exact n
    ·have:=List.pairwise_iff_getElem.1 K m.toNat (m.toNat+q) I w (by omega);rw [z,J] at this;exact λhy=>n (Jy this hy)
  grind
 ·rename_i e;have e:¬i<j:=by simpa using e
  have N:j=i:=by omega
  subst N;have X:(j.toNat:Int)=j:=by omega
  have C:∀b f,k<=f->Q j b f:=λb f F=>by have:=P j.toNat b f (Hp.le_trans o F) (by omega) G D;grind
  cases L:decide (j<(x.len:Int)) with
  | false=>refine Rs.pL (sh:=aY) B (⟨0,0⟩:ay) (λ_=>rfl) (by omega) (λe=>by cases e) λ(l:ay) _=> ?_;exact ⟨λe=>(by cases e),λ_=>⟨0,aJ (C _ k (Hp.le_refl k))⟩⟩
  | true=>
   have V:j<(x.len:Int):=by simpa using L
   refine Rs.pL (sh:=aY) B (⟨0,0⟩:ay) (λ_=>rfl) (by omega) (λ_=>by omega) λ(l:ay) _=> ?_;refine uJ ⟨KD, #[], #[],rfl,rfl,zxd (a:=l) (b:=d) (MD λf u=>aJ (C _ f u))⟩
theorem Ng {P:Program} (d:Nat) (a b:Array Value):∀(L:List (Field×IntKind×Int×Int)) (w:World),
  (∀q∈L,q.1.name≠ "_" ∧P.underlying q.1.type=some (.int q.2.1)∧a[q.1.offset]? =some (.int q.2.1 q.2.2.1)∧b[q.1.offset]? =some (.int q.2.1 q.2.2.2))→
  (Op.eqFields (d+1) a b (L.map (·.1))).run P w=.ok (L.all λq=>q.2.2.1==q.2.2.2) w
 | [],w,_=>by simp [Op.eqFields]
 | q::L,w,h=>by
  obtain ⟨e,c,f,g⟩:=h q (List.mem_cons_self ..);have k:=Ng d a b L w λl j=>h l (List.mem_cons_of_mem _ j);have i:(isAgg q.1.type).run P w=.ok false w:=by simp [isAgg,run_underlying c]
  simp only [List.map_cons,Op.eqFields,Sem.run_bind,if_pos e,part,i,Result.andThen_ok,Bool.false_eq_true,if_false,f,g,Sem.run_pure,run_equalIn_int w d q.1.type q.2.1 q.2.1 q.2.2.1 q.2.2.2 c];cases hb:(q.2.2.1==q.2.2.2) with
  | false=>simp [hb]
  | true=>simp [hb,k]
theorem Ql {P:Program} {t:Nat} {x y:Operand} {h:Hp} {a b:Array Value} (L:List (Field×IntKind×Int×Int)) (e:P.underlying t=some (.struct (L.map (·.1)).toArray)) (i:P.eqGuardType P.depth t=false) (hp:P.stoodInHeld t=false)
  (g:∀q∈L,q.1.name≠ "_" ∧P.underlying q.1.type=some (.int q.2.1)∧a[q.1.offset]? =some (.int q.2.1 q.2.2.1)∧b[q.1.offset]? =some (.int q.2.1 q.2.2.2)):
  iC P (cS .eql t x y (.agg a) (.agg b)) h (.bool (L.all λq=>q.2.2.1==q.2.2.2)):=by
 refine ES λw=> ?_;have d:P.fieldsOf t=(L.map (·.1)).toArray:=by unfold Program.fieldsOf;rw [e]
 have j:P.underlying t=some (.struct (P.fieldsOf t)):=by rw [d];exact e
 have c:=run_equalIn_struct (P:=P) w 9999 t a b j hp;rw [d] at c;have f:=Ng (P:=P) 9998 a b L w g;unfold cS;simp only [Sem.run_bind,run_eqGuard_agg w .eql t x y a b i,Result.andThen_ok,run_eql_struct];rw [show (10000:Nat)=9999+1 from rfl,c];simp only [f,Result.andThen_ok]
def Wh (h:Hp) (p:Addr) (a:List ay) (F:List Nat):Prop:=
 ∃(b m:Nat) (sl:Sl) (G:List Nat) (c:List (Int×ay)),p=⟨b,0,none⟩/\F=b::m::G/\fw h b [sl.v,.map (some m)]/\du h 2 eE sl a G/\fF h m .i64 aY.enc c/\b∉G/\b≠m/\m∉G/\
  (c.map (·.1)).Nodup/\(∀id e,gT id c=some e↔e∈a/\e.dG=id)/\a.Pairwise ly
theorem fF.same {V:Type} {h a:Hp} {m:Nat} {k:IntKind} {ev:V->Value} {b:List (Int×V)} (f:fF h m k ev b) (e:a m=h m):fF a m k ev b:=by obtain ⟨g,ck,c,d⟩:=f;exact ⟨g,ck,by rw [e];exact c,d⟩
theorem fF.known {V:Type} {h:Hp} {m:Nat} {k:IntKind} {ev:V->Value} {c:List (Int×V)} (b:fF h m k ev c):h m≠none:=by obtain ⟨e,ck,a,d⟩:=b;rw [a];simp
theorem fF.mv {V:Type} {h b:Hp} {m:Nat} {k:IntKind} {ev:V->Value} {c:List (Int×V)} {F d:List Nat} (g:fF h m k ev c) (a:Mv F h d b) (i:m∉F):fF b m k ev c:=by obtain ⟨j,ck,e,f⟩:=g;exact ⟨j,ck,a.bK m _ e i,f⟩
theorem fw.same {h c:Hp} {b:Nat} {a:List Value} (k:fw h b a) (e:c b=h b):fw c b a:=by obtain ⟨t,d⟩:=k;exact ⟨t,by rw [e];exact d⟩
theorem Wh.same {h e:Hp} {p:Addr} {d:List ay} {F:List Nat} (w:Wh h p d F) (a:∀b∈F,e b=h b):Wh e p d F:=by obtain ⟨b,m,sl,G,o,f,g,i,j,k,l⟩:=w;subst g;exact ⟨b,m,sl,G,o,f,rfl,i.same (a b (by simp)),j.same (λc n=>a c (by simp [n])),k.same (a m (by simp)),l⟩
theorem Wh.known {h:Hp} {p:Addr} {a:List ay} {F:List Nat} (w:Wh h p a F):∀b∈F,h b≠none:=by
 obtain ⟨b,m,sl,G,k,i,d,e,f,g,j⟩:=w;subst d;intro c hc;simp only [List.mem_cons] at hc;rcases hc with rfl | rfl | hc
 ·exact e.known
 ·exact g.known
 ·exact f.known c hc
theorem Wh.sorted {h:Hp} {p:Addr} {a:List ay} {F:List Nat} (w:Wh h p a F):a.Pairwise ly:=by obtain ⟨b,m,sl,G,q,d,f,g,i,j,k,l,n,o,e,c⟩:=w;exact c
theorem Wh.ids {h:Hp} {p:Addr} {a:List ay} {F:List Nat} (w:Wh h p a F) {x y:ay} (d:x∈a) (f:y∈a) (e:x.dG=y.dG):x=y:=by obtain ⟨b,m,sl,G,v,j,l,n,o,q,r,s,t,u,c,k⟩:=w;have g:=(c x.dG x).2 ⟨d,rfl⟩;have i:=(c x.dG y).2 ⟨f,e.symm⟩;grind
theorem vi {h:Hp} {b:Nat} {a:List Value} (k:fw h b a) {sh:Shape} (x:sh.T) {j:Nat} (c:(a.drop j).take (bp (sh.enc x)).length=bp (sh.enc x)) {K:sh.T->Prop} (d:K x):aR none sh h ((⟨b,0,none⟩:Addr).add j) K:=by refine ⟨x,?_,d⟩;show bf h ((⟨b,0,none⟩:Addr).add j) _;rw [kK,Nat.zero_add];exact k.df c
theorem Uo {h:Hp} {b:Nat} {a:List Value} (k:fw h b a) {sh:Shape} (x:sh.T) {j:Nat} {c:Bool} (f:(a.drop j).take (bp (sh.enc x)).length=bp (sh.enc x)) {K:sh.T->Prop} (g:K x):aR (some c) sh h ((⟨b,0,none⟩:Addr).add j) K:=by obtain ⟨y,d,e⟩:=vi k (sh:=sh) x f (K:=λy=>y=x) rfl;exact ⟨y,λ_=>d,e▸g⟩
theorem R9 {Q:Option Addr->Hp->Prop} {h:Hp} (k:∀p F a,h<=a->(∀b∈F,h b=none)->Wh a p [] F->Q (some p) a):Ot prog Q h:=by
 unfold Ot;intro m f;have g:=ni (o:=.map #[] 0) f;intro b t hb;have i:=ni (o:=.cells (([.slice none 0 0,.map (some m)]:List Value).toArray) t (0,0)) hb;have j:b≠m:=λe=>by rw [e,nI] at hb;cases hb
 refine k ⟨b,0,none⟩ [b,m] _ (Hp.le_trans g i) (λc d=> ?_) ⟨b,m,⟨none,0,0⟩,[],[],rfl,rfl,⟨t,nI⟩,⟨rfl,Nat.le_refl _,.inl ⟨rfl,rfl,rfl⟩⟩,⟨[],0,i _ _ nI,rfl⟩,by simp,j,by simp,by simp,λid e=>by simp [gT],List.Pairwise.nil⟩;simp only [List.mem_cons,List.not_mem_nil,or_false] at d;rcases d with rfl | rfl
 ·exact uu g hb
 ·exact f
theorem Sa {p:Addr} {a:List ay} {F:List Nat} {id:Int} {Q:Int->Bool->Hp->Prop} {h:Hp} (w:Wh h p a F) (d:(∀e∈a,e.dG≠id)->Q 0 false h) (k:∀e∈a,e.dG=id->Q e.due true h):
  NS prog (some p) id Q h:=by
 obtain ⟨b,m,sl,G,t,rfl,rfl,g,n,i,o,q,r,s,f,l⟩:=w;unfold NS;refine aP (vi g (sh:=gv) (some m) rfl ?_);refine Eu (sh:=aY) (z:=⟨0,0⟩) i rfl (λj=>d λe c hid=> ?_) λe c=> ?_
 ·have:=(f id e).2 ⟨c,hid⟩;rw [j] at this;cases this
 grind
theorem Sc {a b:List ay} (c:a.Pairwise ly) (h:b.Sublist a):b.Pairwise ly:=c.sublist h
theorem ZB {a:List ay} (b:a.Pairwise ly):a.Nodup:=b.imp λh e=>by subst e;exact Ul _ h
set_option maxHeartbeats 1000000 in
theorem CG {p:Addr} {a:List ay} {F:List Nat} {id:Int} {Q:Bool->Hp->Prop} {h:Hp} (w:Wh h p a F) (hl:a.length<=4398046511104) (X:(∀e∈a,e.dG≠id)->Q false h)
  (u:∀(i:Nat) e d,a[i]? =some e->e.dG=id->Mv F h F d->Wh d p (a.take i++a.drop (i+1)) F->Q true d):NM prog (some p) id Q h:=by
 obtain ⟨b,m,sl,G,E,rfl,rfl,y,B,N,O,R,S,T,L,M⟩:=w;unfold NM;refine aP (vi y (sh:=gv) (some m) rfl ?_);refine Eu (sh:=aY) (z:=⟨0,0⟩) N rfl (λhn=> ?_) λe C=> ?_
 ·rw [if_pos (by rfl)];refine X λe C hid=> ?_;have:=(L id e).2 ⟨C,hid⟩;grind
 rw [lz];obtain ⟨b8,hid⟩:=(L id e).1 C;refine aP (vi y (sh:=au) sl rfl ?_);have b7:=B.1;have rs:Rw h 2 eE sl a:=B.rw λ_=>rfl;refine aA.intro (λi k=>k=h/\0<=i/\i<=(a.length:Int)/\e∉a.take i.toNat) (λi _=>(a.length-i).toNat) ⟨rfl,by omega,by omega,by simp⟩ ?_;rintro i k ⟨rfl,a9,b5,c0⟩;split
 ·rename_i r;have r:i<(sl.len:Int):=by simpa using r
  refine Rs.get (sh:=aY) rs (λ_=>rfl) (by omega) a9 (by omega) λ(x:ay) A=> ?_;refine ⟨_,Ql [(⟨ "due",2,0,false, "", "firebreak/wheel",0⟩,.i64,x.due,e.due),(⟨ "id",3,1,false, "", "firebreak/wheel",8⟩,.i64,x.dG,e.dG)] (bG.bO 205 um rfl) (by kernel_rfl) (by kernel_rfl) (λq U=> ?_),?_⟩
  ·simp only [List.mem_cons,List.not_mem_nil,or_false] at U;rcases U with rfl | rfl
   ·exact ⟨by simp,bG.bO 2 te rfl,rfl,rfl⟩
   ·exact ⟨by simp,bG.bO 3 uO rfl,rfl,rfl⟩
  ·dsimp only;by_cases V:x=e
   ·subst V;rw [if_pos (by simp)];refine aP (vi y (sh:=au) sl rfl ?_);have b6:i.toNat<a.length:=(List.getElem?_eq_some_iff.1 A).1;have b0:((i.toNat:Nat):Int)=i:=by omega
    have b1:((i.toNat+1:Nat):Int)=i+1:=by omega
    rw [aT];have a8:∀(s:Sl->Hp->Prop),(∀l d,du d 2 eE l (a.take i.toNat++a.drop (i.toNat+1)) G->Mv G k G d->s l d)->zdg prog sl i (i+1) s k:=by
     intro s Y;have:=VK (P:=prog) (h:=k) (sz:=2) (enc:=eE) (bytes:=16) (tS:=207) (tE:=205) (z:=.agg #[.int .i64 0,.int .i64 0]) (i:=i.toNat) (j:=i.toNat+1) (Q:=s) (bG.bO 207 wx rfl)
      (λhk=>C5 bG (t:=205) (e:=um) rfl hk)
      (λ_=>rfl) (λ_=>rfl) rfl (λn=>by
       induction n with
       | zero=>rfl
       | succ n ih=>exact ih) B (by omega) (by omega) (by omega) Y
     rw [b0,b1] at this;exact this
    refine zhm (a8 _ λl d o' H=> ?_);have k3:fw d b [sl.v,.map (some m)]:=y.mv H O;refine aP ?_;refine u5 (b:=b) (off:=0) k3 (by simp) λf I k2=> ?_;have o2:du f 2 eE l (a.take i.toNat++a.drop (i.toNat+1)) G:=o'.mv I (λc g=>by grind);have W:fw f b [l.v,.map (some m)]:=by simpa using k2
    refine aP (vi W (sh:=gv) (some m) rfl ?_);have b3:fF f m .i64 aY.enc E:=(N.mv H S).mv I (by grind);refine PV b3 λo ho b4=> ?_;have D:Mv [m] f [m] (f.set m o):=Mv.set;refine u i.toNat x _ A hid ?_ ⟨b,m,l,G,nb id E,rfl,rfl,W.mv D (by simp;exact R),o2.mv D (λc g=>by grind),b4,O,R,S,Zf id T,?_,?_⟩
    ·have J:Mv (b::m::G) k (b::m::G) d:=H.sub (λc g=>by simp [g]) λc g=>.inr (.inl g);have K:Mv (b::m::G) d (b::m::G) f:=I.sub (λc g=>by grind) λc g=>.inr (.inl g);have q3:Mv (b::m::G) f (b::m::G) (f.set m o):=D.sub (λc g=>by grind) λc g=>.inr (.inl g);exact J.trans (K.trans q3)
    ·intro b2 e';rw [Mr b2 id E T];have b9:=ZB M;have c1:a=a.take i.toNat++x::a.drop (i.toNat+1):=by
      have Z:a.drop i.toNat=x::a.drop (i.toNat+1):=by obtain ⟨J,K⟩:=List.getElem?_eq_some_iff.1 A;rw [List.drop_eq_getElem_cons J,K]
      rw [<-Z,List.take_append_drop]
     grind
    ·refine Sc M ?_;have:(a.take i.toNat++a.drop (i.toNat+1)).Sublist (a.take i.toNat++a.drop i.toNat):=by grind
     rw [List.take_append_drop] at this;exact this
   ·rw [if_neg (by
     simp;intro u f;exact V (by cases x;cases e;simp at u f;simp [u,f])),aT]
    refine ⟨⟨rfl,by omega,by omega,?_⟩,by omega⟩;have:(i+1).toNat=i.toNat+1:=by omega
    rw [this,List.take_add_one,A];grind
 ·rename_i r;have r:¬i<(sl.len:Int):=by simpa using r
  have:i.toNat=a.length:=by omega
  grind
theorem Zu {l:List ay} {e:ay} {i:Nat} (c:l.Pairwise ly) (d:∀x∈l.take i,ly x e) (b:∀x∈l.drop i,ly e x):(l.take i++e::l.drop i).Pairwise ly:=by have a:=c;rw [<-List.take_append_drop i l] at a;obtain ⟨a1,a2,a3⟩:=List.pairwise_append.1 a;refine List.pairwise_append.2 ⟨a1,List.pairwise_cons.2 ⟨b,a2⟩,λx f y g=> ?_⟩;grind
set_option maxHeartbeats 1000000 in
theorem Se {p:Addr} {g:List ay} {F:List Nat} {id due:Int} {Q:Int->Hp->Prop} {h:Hp} (w:Wh h p g F) (hl:g.length<=4398046511104) (h0:id<0\/due<0->Q 1 h)
  (h1:0<=id->0<=due->∀L B u,Mv F h B u->Wh u p L B->(∀x,x∈L↔x=⟨due,id⟩\/(x∈g/\x.dG≠id))->L.length<=g.length+1->Q 0 u):NT prog (some p) id due Q h:=by
 unfold NT;refine aJ ?_;by_cases d1:id<0\/due<0
 ·grind
 rw [if_neg (by simp;omega)];have hid:0<=id:=by omega
 have b5:0<=due:=by omega
 have core:∀(f:List ay) (k:Hp),Mv F h F k->Wh k p f F->(∀x,x∈f↔(x∈g/\x.dG≠id))->f.length<=g.length->
   ai none (some p) λp0=>aR none au k (Addr.add p0 0) λx=>
   bu prog Np [x.v,(.agg #[(.int .i64 due),(.int .i64 id)]),(.func (.func 134) #[] #[])] (af .i64) bn (λr1 r2 M=>
    ai none (some p) λp1=>aR none au M (Addr.add p1 0) λx1=>
    bh [(.int .i64 due),(.int .i64 id)] (λa l=>
    (((bf l (Addr.add p1 0) [x1.v])/\True)/\aa prog P9 [x1.v,(.int .i64 r1),(.slice (some a) 1 1)] au (λr3 D=>
    ai none (some p) λp2=>cJ D (Addr.add p2 0) [r3.v] (λr=>
    ai none (some p) λp3=>aR none gv r (Addr.add p3 1) λx2=>
    xD (.int .i64) x2 (.int .i64 id) (.agg #[(.int .i64 due),(.int .i64 id)]) (λh6=>Q 0 h6) r)) l)) M) k:=by
  intro f k mk wk b7 c8;obtain ⟨b,m,sl,G,S,rfl,rfl,H,O,k5,k6,k7,k8,k9,d3,b0⟩:=wk;refine aP (vi H (sh:=au) sl rfl ?_);have hE:(⟨due,id⟩:ay)∉f:=λhm=>((b7 _).1 hm).2 rfl;refine zcm (x:=sl) (target:=⟨due,id⟩) (cmp:=⟨KD, #[], #[]⟩) (Qk (O.rw λ_=>rfl) (by omega) b0 λi _ M T E c0 b8=> ?_);refine aP (vi (H.le T) (sh:=au) sl rfl ?_);refine sQ (xs:=[(⟨due,id⟩:ay)]) (enc:=eE) (sz:=2) rfl (λ_=>rfl) λC l b4 l3 m3 o3=> ?_;have A:=Hp.le_trans T l3;refine ⟨⟨?_,trivial⟩,?_⟩
  ·obtain ⟨y,hy,c3⟩:=vi (H.le A) (sh:=au) sl (j:=0) rfl (K:=λy=>y=sl) rfl;subst c3;exact hy
  have hG:∀c∈G,c≠C:=λc d e=>by have:=O.known c d;rw [e] at this;exact this (uu T b4)
  have o4:du l 2 eE sl f G:=by refine O.mv (Mv.of_le [] A) λc _=>by simp
  have kv:∃X,fw l C X:=by obtain ⟨_,_,d4⟩:=o3;grind
  obtain ⟨X,kv⟩:=kv;have b9:∀(J:Sl->Hp->Prop),(∀z u B,du u 2 eE z (f.take i++⟨due,id⟩::f.drop i) B->Mv G l B u->J z u)->zdf prog sl (i:Int) ⟨some ⟨C,0,none⟩,1,1⟩ J l:=by
   intro J hQ;obtain ⟨ti,e1,_⟩:=bG.info 205 um rfl;exact VI (P:=prog) (h:=l) (sz:=2) (enc:=eE) (bytes:=16) (tS:=207) (tR:=4) (tE:=205) (zero:=[.int .i64 0,.int .i64 0]) (R:=λy K h=>bC prog zfk [y.v,.int .i64 1] K h) (i:=i) (Q:=J)
    (bG.bO 207 wx rfl) e1 (λ_=>rfl) (by omega) (λ_=>rfl) rfl (λn=>by
     induction n with
     | zero=>rfl
     | succ n ih=>exact ih) o4 (o3.rw λ_=>rfl) rfl kv (λd=>hG C d rfl) E (by omega) hQ
  refine zhk (s:=sl) (i:=(i:Int)) (v:=⟨some ⟨C,0,none⟩,1,1⟩) (b9 _ λz D t o5 I=> ?_);have c5:fw D b [sl.v,.map (some m)]:=(H.le A).mv I k6;have b3:b∉t:=λd=>by
   rcases I.from_ b d with q | q
   ·exact k6 q
   ·exact (H.le A).known q
  have b2:fF l m .i64 aY.enc S:=k5.mv (Mv.of_le [] A) (by simp);have c1:m∉t:=λd=>by
   rcases I.from_ m d with q | q
   ·exact k8 q
   ·exact b2.known q
  refine aP ?_;refine u5 (b:=b) (off:=0) c5 (by simp) λr U c4=> ?_;have b1:fw r b [z.v,.map (some m)]:=by simpa using c4
  refine aP (vi b1 (sh:=gv) (some m) rfl ?_);have c6:fF r m .i64 aY.enc S:=(b2.mv I k8).mv U (by grind);have o6:du r 2 eE z (f.take i++⟨due,id⟩::f.drop i) t:=o5.mv U (λc d=>by grind);refine M3 (v:=(⟨due,id⟩:ay)) c6 λo ho c7=> ?_;have N:Mv [m] r [m] (r.set m o):=Mv.set;have d0:∀x,x∈f.take i++(⟨due,id⟩:ay)::f.drop i↔x=⟨due,id⟩\/x∈f:=by
   intro x;constructor
   ·grind
   ·rintro (rfl | hx)
    ·simp
    ·rw [<-List.take_append_drop i f] at hx;grind
  refine h1 hid b5 _ (b::m::t) _ ?_ ⟨b,m,z,t,kT id ⟨due,id⟩ S,rfl,rfl,b1.mv N (by simp;exact k7),o6.mv N (λc d=>by grind),c7,b3,k7,c1,Ki id _ k9,?_,?_⟩ ?_ ?_
  ·have V:Mv (b::m::G) h (b::m::G) l:=mk.trans (Mv.of_le _ A);have W:Mv (b::m::G) l (b::m::t) D:=I.sub (λc d=>by simp [d]) λc d=>by grind
   have q3:Mv (b::m::t) D (b::m::t) r:=U.sub (λc d=>by grind) λc d=>.inr (.inl d);have q4:Mv (b::m::t) r (b::m::t) (r.set m o):=N.sub (λc d=>by grind) λc d=>.inr (.inl d);exact V.trans (W.trans (q3.trans q4))
  ·intro d2 Y;rw [yG];grind
  ·refine Zu b0 c0 λx hx=>Um (b8 x hx) λe=> ?_;grind
  ·grind
  ·simp;omega
 refine II (CG w hl (λhn=> ?_) λi e u E b6 m' w'=> ?_)
 ·exact core g h (Mv.refl _ _) w (λx=>⟨λhx=>⟨hx,hn x hx⟩,λhx=>hx.1⟩) (Nat.le_refl _)
 ·have c9:=(List.getElem?_eq_some_iff.1 E).1;refine core _ u m' w' (λx=> ?_) (by simp;omega);have hd:g.drop i=e::g.drop (i+1):=by obtain ⟨V,W⟩:=List.getElem?_eq_some_iff.1 E;rw [List.drop_eq_getElem_cons V,W]
  have c2:g=g.take i++e::g.drop (i+1):=by rw [<-hd,List.take_append_drop]
  have Z:=ZB w.sorted;rw [c2] at Z;have a8:=List.nodup_append.1 Z;constructor
  ·intro hx;have a9:x∈g:=by
    rcases List.mem_append.1 hx with hx | hx
    ·exact List.mem_of_mem_take hx
    ·exact List.mem_of_mem_drop hx
   refine ⟨a9,λY=> ?_⟩;have:x=e:=w.ids a9 (List.mem_of_getElem? E) (Y.trans b6.symm);subst this;rcases List.mem_append.1 hx with hx | hx
   ·exact a8.2.2 x hx x (List.mem_cons_self ..) rfl
   ·exact (List.nodup_cons.1 a8.2.1).1 hx
  grind
abbrev Fz :Int->List Value:=λx=>bp ((af .i64).enc x)
set_option maxHeartbeats 1000000 in
theorem Sg {p:Addr} {f:List ay} {F:List Nat} {n:Int} {Q:Sl->Hp->Prop} {h:Hp} (w:Wh h p f F) (hl:f.length<=4398046511104)
  (O:∀out h' done rest G F',f=done++rest->(∀x∈done,x.due<=n)->(∀x r,rest=x::r->n<x.due)->du h' 1 Fz out (done.map (·.dG)) G->Wh h' p rest F'->(∀c∈G,c∉F')->Mv F h (F'++G) h'->Q out h'):
  NU prog (some p) n Q h:=by
 unfold NU;refine aA.intro (λout k=>∃done rest G F',f=done++rest/\(∀x∈done,x.due<=n)/\du k 1 Fz out (done.map (·.dG)) G/\Wh k p rest F'/\(∀c∈G,c∉F')/\Mv F h (F'++G) k) (λout _=>f.length-out.len)
  ⟨[],f,[],F,rfl,by simp,⟨rfl,Nat.le_refl _,.inl ⟨rfl,rfl,rfl⟩⟩,w,by simp,by simpa using Mv.refl F h⟩ ?_
 rintro out k ⟨done,rest,G,F',hsp,hdn,ho,wk,hdis,hm⟩;have b2:=ho.1;have s:=wk;obtain ⟨b,m,sl,a,b8,rfl,rfl,z,I,h5,h6⟩:=wk;have M:=I.1;refine aP (vi z (sh:=au) sl rfl ?_);have rs:Rw k 2 eE sl rest:=I.rw λ_=>rfl;refine ⟨_,λ_=>rfl,?_⟩;refine Uo z (sh:=au) sl rfl ?_;refine rs.OW (λ_=>rfl) (by omega) (sh:=af .i64) (λx=>x.due) (j:=0) (λ_=>rfl) (0:Int) (λhc=>by simp at hc;omega) λ(y:Int) hy=> ?_;refine aJ ?_;cases rest with
 | nil=>
  have T:sl.len=0:=by simpa using M
  rw [if_neg (by simp [T])];exact O out k done [] G _ hsp hdn (λx r e=>by cases e) ho s hdis hm
 | cons e r=>
  simp at M;have N:decide ((sl.len:Int)>0)=true:=by simp;omega
  obtain ⟨x,hx,b4⟩:=hy N;have Y:e=x:=by simpa using hx
  subst Y;subst b4;rw [N,Bool.true_and];by_cases B:e.due<=n
  ·rw [if_pos (by simpa using B)];refine aP (vi z (sh:=au) sl rfl ?_);refine rs.vJ (λ_=>rfl) (by omega) (sh:=af .i64) (λx=>x.dG) (j:=1) (λ_=>rfl) (by omega) (by simp<;>omega) λx' b3=> ?_;have:e=x':=by simpa using b3
   subst this;have b7:done.length+(r.length+1)=f.length:=by rw [hsp];simp
   refine sQ (xs:=[e.dG]) (enc:=Fz) (sz:=1) rfl (λ_=>rfl) λS g U C m1 o1=> ?_;have b6:∀c∈G,c≠S:=λc hc t=>ho.known c hc (by rw [t];exact U);have b1:du g 1 Fz out (done.map (·.dG)) G:=ho.mv (Mv.of_le [] C) (by simp);have E:Wh g ⟨b,0,none⟩ (e::r) (b::m::a):=by
    refine s.same λc hc=> ?_;cases l:k c with
    | none=>exact absurd l (s.known c hc)
    | some o=>exact C c o l
   refine xN b1 (o1.rw λ_=>rfl) (λ_=>rfl) (λ_=>rfl) rfl (by simp;omega) λl' v d R D=> ?_;have H:Wh v ⟨b,0,none⟩ (e::r) (b::m::a):=by
    refine E.same λc hc=> ?_;cases l:g c with
    | none=>exact absurd l (E.known c hc)
    | some o=>exact D.bK c o l λV=>hdis c V hc
   have K:∀c∈d,c∉b::m::a:=λc hc J=>by
    rcases D.from_ c hc with q | q
    ·exact hdis c q J
    ·exact E.known c J q
   refine II (CG H (by simp;omega) (λhn=>absurd rfl (hn e (List.mem_cons_self ..))) λi u A L X P w3=> ?_);have W:u=e:=H.ids (List.mem_of_getElem? L) (List.mem_cons_self ..) X;subst W;have Z:i=0:=by have b0:=ZB H.sorted;obtain ⟨a9,a8⟩:=List.getElem?_eq_some_iff.1 L;have:=(List.getElem_inj (i:=i) (j:=0) (h₀:=a9) (h₁:=by simp) b0).1 (by rw [a8];rfl);exact this
   subst Z;have b5:Wh A ⟨b,0,none⟩ r (b::m::a):=by simpa using w3
   have o3:du A 1 Fz l' (done.map (·.dG)++ [u.dG]) d:=R.mv P K;refine ⟨⟨done++ [u],r,d,b::m::a,by rw [hsp];simp,λx hx=> ?_,by simpa using o3,b5,K,?_⟩,?_⟩
   ·rcases List.mem_append.1 hx with hx | hx
    ·exact hdn x hx
    ·rw [List.mem_singleton.1 hx];exact B
   ·have q1:Mv (b::m::a++G) k (b::m::a++G) g:=Mv.of_le _ C;have q2:Mv (b::m::a++G) g (b::m::a++d) v:=D.sub (λc hc=>List.mem_append_right _ hc) λc hc=>by
     rcases List.mem_append.1 hc with hc | hc
     ·exact .inr (.inl (List.mem_append_left _ hc))
     ·exact .inl hc
    have q3:Mv (b::m::a++d) v (b::m::a++d) A:=P.wide d;exact hm.trans (q1.trans (q2.trans q3))
   ·have:=R.1;simp at this b2;omega
  ·rw [if_neg (by simpa using B)];refine O out k done (e::r) G _ hsp hdn (λx r' t=> ?_) ho s hdis hm;cases t;omega
def EG (p:Addr) (d:List ay):dI where
 R k F:=∃B,Wh k p d B/\∀b,F b↔b∈B
 same:=λ⟨B,h,e⟩ f=>⟨B,h.same λc a=>f c ((e c).2 a),e⟩
 known:=λ⟨B,h,e⟩ c a=>h.known c ((e c).1 a)
structure WT (es:List ay) (tm:Nat->Int) (n:Nat):Prop where
 low:∀i,0<=tm i
 An:∀x∈es,0<=x.dG/\x.dG<n/\0<x.due/\tm x.dG.toNat=x.due
 has:∀i:Nat,0<tm i->(⟨tm i,(i:Int)⟩:ay)∈es
def tH (p:Addr) (a:Nat->Int) (n:Nat):dI:=.some_ λes:List ay=>(EG p es).star (.fact (WT es a n))
section
variable {h0 k:Hp} {p:Addr} {es:List ay} {g:Nat->Int} {n:Nat}
theorem Has.both {A B:dI} {F1 F2:Nat->Prop} (f:h0<=k) (a:A.R k F1) (b:B.R k F2) (d:∀c,F1 c->¬F2 c) (f1:∀c,F1 c->h0 c=none) (f2:∀c,F2 c->h0 c=none):Has h0 (A.star B) k:=
 ⟨f,λc=>F1 c\/F2 c,⟨F1,F2,λ_=>Iff.rfl,d,a,b⟩,λc e=>e.elim (f1 c) (f2 c)⟩
theorem slR {i:Type} {sz:Nat} {enc:i->List Value} {l:Sl} {f:List i} {F:List Nat} (o:du k sz enc l f F):(dU sz enc l f).R k λb=>b∈F:=by
 obtain ⟨a,d,q⟩:=o;rcases q with ⟨e,m,rfl⟩ | ⟨b,j,e,rfl,hb,s,r⟩
 ·exact ⟨a,d,.inl ⟨e,m,λ_ h=>by cases h⟩⟩
 ·exact ⟨a,d,.inr ⟨b,0,j,e,λc=>List.mem_singleton,hb,by omega,by simpa using r⟩⟩
theorem Has.Nn (o:Has h0 (EG p es) k):∃B,Wh k p es B/\∀b∈B,h0 b=none:=by obtain ⟨l,F,⟨B,w,e⟩,f⟩:=o;grind
theorem Has.Bi {B a:List Nat} {c:Hp} {d:List ay} (f:h0<=k) (h:∀b∈B,h0 b=none) (m:Mv B k a c) (w:Wh c p d a):Has h0 (EG p d) c:=by
 refine ⟨λb o e=>m.bK b o (f b o e) λhb=> ?_,λb=>b∈a,⟨a,w,λb=>Iff.rfl⟩,λb hb=> ?_⟩
 ·grind
 ·rcases m.from_ b hb with h1 | h1
  ·exact h b h1
  ·cases e:h0 b with
   | none=>rfl
   | some o=>rw [f b o e] at h1;cases h1
theorem Has.qW (o:Has h0 (tH p g n) k):∃es,WT es g n/\Has h0 (EG p es) k:=by obtain ⟨es,o⟩:=Has.ex.1 o;obtain ⟨a,b⟩:=o.j6;grind
theorem Has.nN {k:Hp} (t:WT es g n) (o:Has h0 (EG p es) k):Has h0 (tH p g n) k:=Has.ex.2 ⟨es,o.fB t⟩
theorem B0 {B:List Nat} (t:WT es g n) (w:Wh k p es B):es.length<=n:=by
 have h:(es.map λx=>x.dG.toNat).Nodup:=by
  have m:=w.sorted;have hid:=λx d y f=> @Wh.ids _ _ _ _ w x y d f;clear w;have hp:=t.An;have j:es.Pairwise λa b=>a.dG≠b.dG:=by refine m.imp_of_mem λ{a b} c hb i e=> ?_;have:=hid a c b hb e;subst this;unfold ly at i;omega
  refine List.pairwise_map.2 (j.imp_of_mem λ{a b} c hb l e=>l ?_);have:=hp a c;have:=hp b hb;omega
 have:=Oi n (es.map λx=>x.dG.toNat) h λx d=>by obtain ⟨y,f,rfl⟩:=List.mem_map.1 d;have:=t.An y f;omega
 grind
theorem Si {n:Nat} {Q:Option Addr->Hp->Prop} (d:∀p a,k<=a->Has k (tH p (λ_=>0) n) a->Q (some p) a):Ot prog Q k:=by refine R9 λp F a l c w=>d p a l (Has.nN (es:=[]) ⟨λ_=>Int.le_refl _,by simp,λi h=>absurd h (by decide)⟩ ⟨l,λb=>b∈F,⟨F,w,λb=>Iff.rfl⟩,c⟩)
theorem ME {i:Nat} {Q:Int->Bool->Hp->Prop} (o:Has h0 (tH p g n) k) (f:∀b,Q (g i) b k):NS prog (some p) (i:Int) Q k:=by
 obtain ⟨es,t,o⟩:=o.qW;obtain ⟨B,w,d⟩:=o.Nn;refine Sa w (λc=> ?_) λe a hid=> ?_
 ·have:g i=0:=by
   have:=t.low i;by_cases h:0<g i
   ·exact absurd rfl (c _ (t.has i h))
   ·omega
  grind
 ·have:=(t.An e a).2.2.2;grind
theorem CH {i:Nat} {Q:Bool->Hp->Prop} (o:Has h0 (tH p g n) k) (G:n<=1000000) (s:∀b c,Has h0 (tH p (cp g i 0) n) c->Q b c):NM prog (some p) (i:Int) Q k:=by
 obtain ⟨es,t,o⟩:=o.qW;obtain ⟨B,w,z⟩:=o.Nn;have F:=B0 t w;refine CG w (by omega) (λA=> ?_) λj e c f hid m E=> ?_
 ·refine s false k (Has.nN ?_ o);have y:g i=0:=by
   have:=t.low i;by_cases h:0<g i
   ·exact absurd rfl (A _ (t.has i h))
   ·omega
  have:cp g i 0=g:=by rw [<-y];exact zd
  rw [this];exact t
 ·refine s true c (Has.nN ⟨λa=> ?_,λx C=> ?_,λa d=> ?_⟩ (Has.Bi o.le z m E))
  ·by_cases h:a=i
   ·subst h;rw [ki];omega
   ·rw [kA h];exact t.low a
  ·have v:x∈es:=by grind
   obtain ⟨a1,a2,a3,a4⟩:=t.An x v;refine ⟨a1,a2,a3,?_⟩;have r:=w.sorted;have q:=(List.getElem?_eq_some_iff.1 f);obtain ⟨q,l⟩:=q;have H:x.dG≠(i:Int):=by
    intro ex;have D:x=e:=w.ids v (List.mem_of_getElem? f) (by rw [ex,hid]);subst D;have u:es=es.take j++x::es.drop (j+1):=by rw [<-l,List.getElem_cons_drop,List.take_append_drop]
    rw [u,List.pairwise_append] at r;rcases List.mem_append.1 C with h | h
    ·have:=r.2.2 x h x (List.mem_cons_self ..);unfold ly at this;omega
    ·have:=(List.pairwise_cons.1 r.2.1).1 x h;unfold ly at this;omega
   rw [kA (by omega)];exact a4
  ·by_cases h:a=i
   ·subst h;rw [ki] at d;omega
   ·rw [kA h] at d ⊢;have:=t.has a d;obtain ⟨q,l⟩:=List.getElem?_eq_some_iff.1 f;have u:es=es.take j++e::es.drop (j+1):=by rw [<-l,List.getElem_cons_drop,List.take_append_drop]
    grind
theorem DL {i:Nat} {due:Int} {Q:Int->Hp->Prop} (o:Has h0 (tH p g n) k) (A:n<=1000000) (y:i<n) (f:0<due) (l:∀b,Has h0 (tH p (cp g i due) n) b->Q 0 b):NT prog (some p) (i:Int) due Q k:=by
 obtain ⟨es,t,o⟩:=o.qW;obtain ⟨B,w,j⟩:=o.Nn;have z:=B0 t w;refine Se w (by omega) (λh=>by omega) λ_ _ u s b m r d _=> ?_;refine l b (Has.nN ⟨λa=> ?_,λx q=> ?_,λa c=> ?_⟩ (Has.Bi o.le j m r))
 ·by_cases h:a=i
  ·subst h;rw [ki];omega
  ·rw [kA h];exact t.low a
 ·rcases (d x).1 q with rfl | ⟨e,v⟩
  ·refine ⟨by omega,by grind,f,?_⟩;show cp g i due ((i:Int)).toNat=due;rw [show ((i:Int)).toNat=i by omega];exact ki
  ·obtain ⟨a1,a2,a3,a4⟩:=t.An x e;refine ⟨a1,a2,a3,?_⟩;rw [kA (by omega)];exact a4
 ·refine (d _).2 ?_;by_cases h:a=i
  ·subst h;left;rw [ki]
  ·right;rw [kA h] at c ⊢;exact ⟨t.has a c,by grind⟩
def oK (g:Nat->Int) (a:Int):Nat->Int:=λi=>if 0<g i/\g i<=a then 0 else g i
theorem Sk {c:Int} {Q:Sl->Hp->Prop} (o:Has h0 (tH p g n) k) (N:n<=1000000)
  (H:∀s j (ids:List Int),(∀x∈ids,0<=x/\x<n)->ids.Nodup->(∀i:Nat,(i:Int)∈ids↔0<g i/\g i<=c)->Has h0 ((tH p (oK g c) n).star (dU 1 fE s ids)) j->Q s j):NU prog (some p) c Q k:=by
 obtain ⟨es,t,o⟩:=o.qW;obtain ⟨B,w,v⟩:=o.Nn;have M:=B0 t w;refine Sg w (by omega) λout j done rest G l hsp hd hr ho w' hdis m=> ?_;have u:=w.sorted;have E:=λx hx y f=> @Wh.ids _ _ _ _ w x y hx f;have O:es.Pairwise λa b=>a.dG≠b.dG:=by refine u.imp_of_mem λ{a b} d hb F e=> ?_;have:=E a d b hb e;subst this;unfold ly at F;omega
 have P:∀x∈rest,c<x.due:=by
  cases rest with
  | nil=>simp
  | cons y r=>
   have h1:=hr y r rfl;intro x hx;rcases List.mem_cons.1 hx with rfl | hx
   ·exact h1
   ·rw [hsp,List.pairwise_append] at u;have:=(List.pairwise_cons.1 u.2.1).1 x hx;unfold ly at this;omega
 have D:∀x∈es,(x∈done↔x.due<=c):=by grind
 have A:∀x∈done,x∈es:=λx hx=>by grind
 have I:∀x∈rest,x∈es:=λx hx=>by grind
 refine H out j (done.map (·.dG)) (λx hx=> ?_) ?_ (λi=>⟨λq=> ?_,λq=> ?_⟩) ?_
 ·obtain ⟨y,f,rfl⟩:=List.mem_map.1 hx;have:=t.An y (A y f);omega
 ·grind
 ·obtain ⟨y,f,e⟩:=List.mem_map.1 q;obtain ⟨_,_,a3,a4⟩:=t.An y (A y f);grind
 ·exact List.mem_map.2 ⟨_,(D _ (t.has i q.1)).2 q.2,rfl⟩
 ·have J:Has h0 (EG p rest) j:=by refine Has.Bi o.le v ⟨λb L e hb=>m.bK b L e hb,λb hb=>m.from_ b (List.mem_append_left _ hb)⟩ w'
  have K:WT rest (oK g c) n:=by
   refine ⟨λa=> ?_,λx hx=> ?_,λa d=> ?_⟩
   ·unfold oK;split
    ·omega
    ·exact t.low a
   ·obtain ⟨a1,a2,a3,a4⟩:=t.An x (I x hx);refine ⟨a1,a2,a3,?_⟩;unfold oK;grind
   ·unfold oK at d ⊢;by_cases h:0<g a/\g a<=c
    ·omega
    ·rw [if_neg h] at d ⊢;have h1:=t.has a d;grind
  have z:∀b∈l++G,h0 b=none:=λb hb=>by
   rcases m.from_ b hb with h1 | h1
   ·exact v b h1
   ·cases e:h0 b with
    | none=>rfl
    | some x=>rw [o.le b x e] at h1;cases h1
  refine Has.both J.le (F1:=λb=>b∈l) (F2:=λb=>b∈G) ⟨rest,λb=>b∈l,λ_=>False,λb=>by simp,λb _ h=>h,⟨l,w',λb=>Iff.rfl⟩,K,λ_ h=>h⟩ (slR ho) (λb h1 C=>hdis b C h1) (λb hb=>z b (List.mem_append_left _ hb)) λb hb=>z b (List.mem_append_right _ hb)
end
abbrev f64 :FloatKind:=.f64
def uh (b c:Int):Int:=if c=0 then 0 else if c= -1 then yw ((0:Int)-b) else yw (Int.tdiv b c)
def uL (b:Bool):Int:=if b then 1 else 0
def xM (op b c:Int):Int:=
 if op=3 then yw (b+c)
 else if op=4 then yw (b-c)
 else if op=5 then yw (b*c)
 else if op=6 then uh b c
 else if op=7 then yw (b-yw (uh b c*c))
 else if op=8 then dM .and .i64 b c
 else if op=9 then dM .or .i64 b c
 else if op=10 then dM .xor .i64 b c
 else if op=11 then (if c<0 then b else qV .i64 b (IntKind.wrap .u64 c))
 else if op=12 then (if c<0 then b else gy .i64 b (IntKind.wrap .u64 c))
 else if op=13 then uL (decide (b<c))
 else if op=14 then uL (decide (b=c))
 else 0
def FM :Int:=9221120237041090560
def isNaN (f:Nat):Bool:=f64.format.order f f !=some .eq
def qp (f:Nat):Int:=if isNaN f then FM else yw (f:Int)
def wc :Option Nat->Int
 | some r=>qp r
 | none=>FM
def sx (b:Int):Nat:=(IntKind.wrap .u64 b).toNat
def B4 (f:Nat):Int:=
 if isNaN f then 0
 else if f64.format.order f 4890909195324358656=some .gt\/f64.format.order f 4890909195324358656=some .eq then 9223372036854775807
 else if f64.format.order f 14114281232179134464=some .lt then -9223372036854775808
 else ((f64.decode f).toInt .zero).getD 0
def vK (op b c:Int):Int:=
 if op=15 then wc (f64.format.add (sx b) (sx c))
 else if op=16 then wc (f64.format.sub (sx b) (sx c))
 else if op=17 then wc (f64.format.mul (sx b) (sx c))
 else if op=18 then wc (f64.format.div (sx b) (sx c))
 else if op=19 then uL (f64.format.order (sx b) (sx c)==some .lt)
 else if op=20 then qp (f64.nearest b)
 else if op=21 then B4 (sx b)
 else 0
def fW (op b c:Int):Int:=if 3<=op/\op<=14 then xM op b c else vK op b c
section
variable {P:Program} {h:Hp}
theorem JL {b c:Int} {Q:Int->Hp->Prop} (a:Q (uh b c) h):Yo prog b c Q h:=by
 unfold Yo;unfold uh at a;by_cases d:c=0
 ·rw [if_pos (by simp [d])];rw [if_pos d] at a;exact a
 ·rw [if_neg (by simp [d])];rw [if_neg d] at a;by_cases e:c= -1
  ·rw [if_pos (by simp [e])];rw [if_pos e] at a;exact a
  ·rw [if_neg (by simp [e])];rw [if_neg e] at a;exact ⟨d,a⟩
theorem I9 (c:Int):(0:Int)<=IntKind.wrap .u64 c:=by
 (try unfold yw);unfold IntKind.wrap
 simp only [IntKind.signed,IntKind.bits];simp;omega
theorem Jz {b:Bool} {Q:Int->Hp->Prop} (a:Q (uL b) h):C8 prog b Q h:=by unfold C8;unfold uL at a;cases b<;>simpa using a
theorem Sn {op b c:Int} {Q:Int->Int->Hp->Prop} (a:3<=op/\op<=14->Q (xM op b c) 0 h) (t:¬(3<=op/\op<=14)->Q 0 9 h):DD prog op b c Q h:=by
 have case:∀n:Int,(op==n)=decide (op=n):=λn=>by by_cases e:op=n<;>simp [e]
 unfold DD;unfold xM at a;simp only [case];by_cases l:op=3
 ·subst l;simpa using a
 by_cases m:op=4
 ·subst m;simpa using a
 by_cases o:op=5
 ·subst o;simpa using a
 by_cases p:op=6
 ·subst p;simp only [decide_true,if_true];simp at a ⊢;exact zuu (JL a)
 by_cases q:op=7
 ·subst q;simp at a ⊢;exact zuu (JL a)
 by_cases r:op=8
 ·subst r;simpa using a
 by_cases s:op=9
 ·subst s;simpa using a
 by_cases f:op=10
 ·subst f;simpa using a
 by_cases g:op=11
 ·subst g;simp at a ⊢;refine Wy ?_;unfold Kh;by_cases d:c<0
  ·rw [if_pos (by simpa using d)];rw [if_pos d] at a;exact a
  ·rw [if_neg (by simpa using d)];rw [if_neg d] at a;exact ⟨I9 c,a⟩
 by_cases i:op=12
 ·subst i;simp at a ⊢;refine U4 ?_;unfold JJ;by_cases d:c<0
  ·rw [if_pos (by simpa using d)];rw [if_pos d] at a;exact a
  ·rw [if_neg (by simpa using d)];rw [if_neg d] at a;exact ⟨I9 c,a⟩
 by_cases j:op=13
 ·subst j;simp at a ⊢;exact I5 (Jz a)
 by_cases k:op=14
 ·subst k;have e:(b==c)=decide (b=c):=by by_cases e:b=c<;>simp [e]
  simp at a ⊢;rw [e];exact I5 (Jz a)
 simp only [l,m,o,p,q,r,s,f,g,i,j,k,decide_false,if_false,Bool.false_eq_true];exact t (by omega)
theorem Uq (x y t:Nat):isNaN ((Question.nanBits .f64 x y).cut t)=true:=by
 have key:∀s z:Nat,s<2->z<2^52-1->isNaN (s*2^63+0x7ff0000000000000+1+z)=true:=by
  intro s z e f;have c:(s*2^63+0x7ff0000000000000+1+z)%Ieee.double.signWeight=0x7ff0000000000000+1+z:=by show (s*2^63+0x7ff0000000000000+1+z)%9223372036854775808=_;omega
  have d:Ieee.double.read (s*2^63+0x7ff0000000000000+1+z)=.nan ((s*2^63+0x7ff0000000000000+1+z) / Ieee.double.signWeight%2==1) (1+z):=by unfold Ieee.Format.read;rw [c];have a:Ieee.double.binade=4503599627370496:=rfl;have b:Ieee.double.infRung=9218868437227405312:=rfl;dsimp only;rw [a,b,if_neg (by omega),if_neg (by omega),if_neg (by omega),show 0x7ff0000000000000+1+z-9218868437227405312=1+z by omega]
  unfold isNaN;show ((Ieee.double.read _).order (Ieee.double.read _) !=some .eq)=true;rw [d];rfl
 have:=key (t%2) ((t / 2)%(2^52-1)) (by omega) (Nat.mod_lt _ (by decide));exact this
end
section
variable {P:Program} {h:Hp}
theorem Ut {P:Program} {s:Sem Value} {sh:Shape} {K:sh.T->Hp->Prop} {h:Hp} (b:da P s (λv a=>∃x,v=sh.enc x/\K x a) h):kE P s sh K h:=b
theorem OD {op : BinOp} {t : Nat} {x y : Operand} {a b : Nat} {r : Option Nat} {K : Nat -> Hp -> Prop} (d : cS op t x y (.float .f64 a) (.float .f64 b) = (match r with
      | some r=>Sem.pure (Value.float .f64 r)
      | none=>Sem.bind (choose (.nanBits .f64 a b)) λn=>Sem.pure (Value.float .f64 n)))
  (c:∀f,(∀v,r=some v->f=v)->(r=none->isNaN f=true)->K f h):kE P (cS op t x y (.float .f64 a) (.float .f64 b)) (jP .f64) K h:=by
 refine Ut ?_;rw [d];cases r with
 | some r=>exact ⟨r,rfl,c r (λv e=>(Option.some.inj e)) λe=>by cases e⟩
 | none=>intro n;exact ⟨_,rfl,c _ (λv e=>by cases e) λ_=>Uq a b n⟩
theorem Uv {t : Nat} {x y : Operand} {a b : Nat} : cS .add t x y (.float .f64 a) (.float .f64 b) = (match f64.format.add a b with
      | some r=>Sem.pure (Value.float .f64 r)
      | none=>Sem.bind (choose (.nanBits .f64 a b)) λn=>Sem.pure (Value.float .f64 n)):=by
 cases e:f64.format.add a b<;>(show Op.floatArith .add .f64 a b=_;unfold Op.floatArith;simp only [pure,bind,Sem.bind,e])
theorem Ux {t : Nat} {x y : Operand} {a b : Nat} : cS .sub t x y (.float .f64 a) (.float .f64 b) = (match f64.format.sub a b with
      | some r=>Sem.pure (Value.float .f64 r)
      | none=>Sem.bind (choose (.nanBits .f64 a b)) λn=>Sem.pure (Value.float .f64 n)):=by
 cases e:f64.format.sub a b<;>(show Op.floatArith .sub .f64 a b=_;unfold Op.floatArith;simp only [pure,bind,Sem.bind,e])
theorem Uz {t : Nat} {x y : Operand} {a b : Nat} : cS .mul t x y (.float .f64 a) (.float .f64 b) = (match f64.format.mul a b with
      | some r=>Sem.pure (Value.float .f64 r)
      | none=>Sem.bind (choose (.nanBits .f64 a b)) λn=>Sem.pure (Value.float .f64 n)):=by
 cases e:f64.format.mul a b<;>(show Op.floatArith .mul .f64 a b=_;unfold Op.floatArith;simp only [pure,bind,Sem.bind,e])
theorem UA {t : Nat} {x y : Operand} {a b : Nat} : cS .quo t x y (.float .f64 a) (.float .f64 b) = (match f64.format.div a b with
      | some r=>Sem.pure (Value.float .f64 r)
      | none=>Sem.bind (choose (.nanBits .f64 a b)) λn=>Sem.pure (Value.float .f64 n)):=by
 cases e:f64.format.div a b<;>(show Op.floatArith .quo .f64 a b=_;unfold Op.floatArith;simp only [pure,bind,Sem.bind,e])
theorem M6 {s:Sem Value} {sh:Shape} {v:sh.T} {K:sh.T->Prop} (a:s=Sem.pure (sh.enc v)) (b:K v):iu none P s sh h K:=by refine ⟨v,Ir ?_,b⟩;rw [a];exact ⟨rfl,rfl⟩
theorem MF {b:Int} {Q:Nat->Hp->Prop} (a:Q (sx b) h):BU prog b Q h:=by unfold BU;exact ⟨_,rfl,a⟩
theorem wU {f:Nat} {Q:Int->Hp->Prop} (a:Q (qp f) h):CD prog f Q h:=by
 unfold CD;refine M6 (sh:=bn) (v:=isNaN f) rfl ?_;unfold qp at a;by_cases e:isNaN f=true
 ·rw [if_pos e];rw [if_pos e] at a;exact a
 ·rw [if_neg e];rw [if_neg e] at a;exact ⟨(f:Int),rfl,a⟩
theorem Sq {s:Bool} {n d:Nat}:Ieee.Toward.zero.cut s n d*2^d<=n:=by
 unfold Ieee.Toward.cut;simp only [Bool.toNat_false,Nat.add_zero,Nat.shiftLeft_eq,Nat.one_mul];by_cases a:d<=n.log2+2
 ·rw [Nat.min_eq_left a];exact Nat.div_mul_le_self n (2^d)
 ·rw [Nat.min_eq_right (by omega)];have:n<2^(n.log2+2):=by
   by_cases b:n=0
   ·grind
   ·have:=Nat.lt_log2_self (n:=n);grind
  rw [Nat.div_eq_of_lt this,Nat.zero_mul];omega
theorem wV (m i:Nat):m<<<i=m*2^i:=Nat.shiftLeft_eq m i
theorem Ss {s:Bool} {m:Nat} {i:Int} (a:Ieee.Datum.order (.number s m i) (.number false 4503599627370496 11)=some .lt) (b:Ieee.Datum.order (.number s m i) (.number true 4503599627370496 11)≠some .lt):
  ∃n,(Ieee.Datum.number s m i).toInt .zero=some n/\ -9223372036854775808<=n/\n<=9223372036854775807:=by
 refine ⟨_,rfl,?_⟩;have a:compare (Ieee.signed s m (i-min i 11).toNat) (Ieee.signed false 4503599627370496 (11-min i 11).toNat)=.lt:=Option.some.inj a;have b:compare (Ieee.signed s m (i-min i 11).toNat) (Ieee.signed true 4503599627370496 (11-min i 11).toNat)≠ .lt:=λe=>b (congrArg some e);rw [Int.compare_eq_lt] at a;rw [ne_eq,Int.compare_eq_lt] at b;have g:=Sq (s:=s) (n:=m<<<i.toNat) (d:=(-i).toNat);generalize y:Ieee.Toward.zero.cut s (m<<<i.toNat) (-i).toNat=w at g;have o:Ieee.signed s w 0=if s then -(w:Int) else (w:Int):=by unfold Ieee.signed;simp
 show -9223372036854775808<=Ieee.signed s w 0/\Ieee.signed s w 0<=9223372036854775807;rw [o];have key:∃C B:Nat,0<C/\0<B/\w*B<=(m<<<(i-min i 11).toNat)*C/\(4503599627370496<<<(11-min i 11).toNat)*C=9223372036854775808*B:=by
  by_cases x:i<=11
  ·have j:min i 11=i:=by omega
   rw [j,Int.sub_self];by_cases u:0<=i
   ·refine ⟨2^i.toNat,1,Nat.two_pow_pos _,by decide,?_,?_⟩
    ·have k:(-i).toNat=0:=by omega
     rw [k,Nat.pow_zero,wV] at g;grind
    ·rw [wV,Nat.mul_assoc,<-Nat.pow_add,show (11-i).toNat+i.toNat=11 by omega]
   ·refine ⟨1,2^(-i).toNat,by decide,Nat.two_pow_pos _,?_,?_⟩
    ·grind
    ·rw [wV,Nat.mul_one,show (11-i).toNat=11+(-i).toNat by omega,Nat.pow_add,<-Nat.mul_assoc]
  ·have j:min i 11=11:=by omega
   rw [j];refine ⟨2^11,1,by decide,by decide,?_,by decide⟩;have k:(-i).toNat=0:=by omega
   rw [k,Nat.pow_zero,wV] at g;rw [wV,Nat.mul_assoc,<-Nat.pow_add,show (i-11).toNat+11=i.toNat by omega];exact g
 obtain ⟨C,B,q,p,z,v⟩:=key;generalize r:m<<<(i-min i 11).toNat=c at*;generalize l:4503599627370496<<<(11-min i 11).toNat=f at*;have s1:Ieee.signed s m (i-min i 11).toNat=if s then -(c:Int) else (c:Int):=by unfold Ieee.signed;rw [r]
 have s2:Ieee.signed false 4503599627370496 (11-min i 11).toNat=(f:Int):=by unfold Ieee.signed;rw [l];rfl
 have t:Ieee.signed true 4503599627370496 (11-min i 11).toNat= -(f:Int):=by unfold Ieee.signed;rw [l];rfl
 rw [s1,s2] at a;rw [s1,t] at b;cases s with
 | false=>
  simp only [Bool.false_eq_true,if_false] at a ⊢;have a:c<f:=by omega
  have:c*C<f*C:=Nat.mul_lt_mul_of_pos_right a q;have:w*B<9223372036854775808*B:=by omega
  have:=Nat.lt_of_mul_lt_mul_right this;omega
 | true=>
  simp only [if_true] at b ⊢;have b:c<=f:=by omega
  have:c*C<=f*C:=Nat.mul_le_mul_right C b;have:w*B<=9223372036854775808*B:=by omega
  have:=Nat.le_of_mul_le_mul_right this p;omega
theorem UC {b:Nat} {n:Int} (a:(f64.decode b).toInt .zero=some n) (c:IntKind.min .i64<=n/\n<=IntKind.max .i64):iC prog (convert 322 2 (.float .f64 b)) h (.int .i64 n):=by refine ES λw=> ?_;have d:=aw (e:=wy) bG (t:=322) rfl w;have f:=aw (e:=te) bG (t:=2) rfl w;simp only [convert,Sem.run_bind,d,f,Result.andThen_ok];show (Conv.floatToInt .f64 b .i64).run prog w=_;unfold Conv.floatToInt;rw [a];dsimp only;rw [if_pos c];rfl
theorem UE {b:Int}:iC prog (convert 2 322 (.int .i64 b)) h (.float .f64 (f64.nearest b)):=by refine ES λw=> ?_;have a:=aw (e:=wy) bG (t:=322) rfl w;have c:=aw (e:=te) bG (t:=2) rfl w;simp only [convert,Sem.run_bind,a,c,Result.andThen_ok];rfl
theorem UG :f64.format.read 4890909195324358656=.number false 4503599627370496 11:=by decide
theorem UI :f64.format.read 14114281232179134464=.number true 4503599627370496 11:=by decide
theorem Zv {f:Nat} (g:isNaN f=false) (e:¬(f64.format.order f 4890909195324358656=some .gt\/f64.format.order f 4890909195324358656=some .eq)) (j:f64.format.order f 14114281232179134464≠some .lt):
  ∃n,(f64.decode f).toInt .zero=some n/\IntKind.min .i64<=n/\n<=IntKind.max .i64:=by
 have k:f64.format.order f 4890909195324358656=(f64.format.read f).order (.number false 4503599627370496 11):=by show (f64.format.read f).order (f64.format.read _)=_;rw [UG]
 have l:f64.format.order f 14114281232179134464=(f64.format.read f).order (.number true 4503599627370496 11):=by show (f64.format.read f).order (f64.format.read _)=_;rw [UI]
 rw [k] at e;rw [l] at j;unfold isNaN at g;have g:(((f64.format.read f).order (f64.format.read f)) !=some .eq)=false:=g;show ∃n,(f64.format.read f).toInt .zero=some n/\_;generalize f64.format.read f=d at*;cases d with
 | nan a b=>simp [Ieee.Datum.order] at g
 | infinity a=>cases a<;>simp [Ieee.Datum.order] at e j
 | number a m i=>refine Ss ?_ j;have e:¬(some (compare _ _)=_\/some (compare _ _)=_):=e;show some (compare _ _)=some .lt;generalize compare (Ieee.signed a m (i-min i 11).toNat) (Ieee.signed false 4503599627370496 (11-min i 11).toNat)=c at*;cases c<;>simp at e ⊢
theorem Qo {f:Nat} {Q:Int->Hp->Prop} (a:Q (B4 f) h):BV prog f Q h:=by
 unfold BV;refine M6 (sh:=bn) (v:=isNaN f) rfl ?_;unfold B4 at a;by_cases e:isNaN f=true
 ·rw [if_pos e];rw [if_pos e] at a;exact a
 rw [if_neg e];rw [if_neg e] at a;refine M6 (sh:=bn) (v:=f64.format.order f 4890909195324358656==some .gt || f64.format.order f 4890909195324358656==some .eq) rfl ?_;by_cases b:f64.format.order f 4890909195324358656=some .gt\/f64.format.order f 4890909195324358656=some .eq
 ·grind
 rw [if_neg (by simpa using b)];rw [if_neg b] at a;refine M6 (sh:=bn) (v:=f64.format.order f 14114281232179134464==some .lt) rfl ?_;by_cases c:f64.format.order f 14114281232179134464=some .lt
 ·grind
 rw [if_neg (by simpa using c)];rw [if_neg c] at a;obtain ⟨n,d,g⟩:=Zv (by simpa using e) b c;rw [d] at a;exact ⟨n,UC d g,a⟩
theorem zM {o:Option Nat} {f:Nat} (a:∀v,o=some v->f=v) (b:o=none->isNaN f=true):qp f=wc o:=by
 cases o with
 | some v=>rw [a v rfl];rfl
 | none=>unfold qp;rw [if_pos (b rfl)];rfl
theorem Sv {op b c:Int} {Q:Int->Int->Hp->Prop} (a:15<=op/\op<=21->Q (vK op b c) 0 h) (q:¬(15<=op/\op<=21)->Q 0 9 h):DE prog op b c Q h:=by
 have case:∀n:Int,(op==n)=decide (op=n):=λn=>by by_cases e:op=n<;>simp [e]
 unfold DE;refine H8 (MF ?_);refine H8 (MF ?_);unfold vK at a;simp only [case];by_cases i:op=15
 ·subst i;refine OD Uv λf d g=>KE (wU ?_);rw [zM d g];simpa using a
 by_cases j:op=16
 ·subst j;refine OD Ux λf d g=>KE (wU ?_);rw [zM d g];simpa using a
 by_cases k:op=17
 ·subst k;refine OD Uz λf d g=>KE (wU ?_);rw [zM d g];simpa using a
 by_cases l:op=18
 ·subst l;refine OD UA λf d g=>KE (wU ?_);rw [zM d g];simpa using a
 by_cases m:op=19
 ·subst m;refine M6 (sh:=bn) (v:=f64.format.order (sx b) (sx c)==some .lt) rfl ?_;simp [uL] at a ⊢;by_cases e:f64.format.order (sx b) (sx c)=some .lt
  ·rw [if_pos e];rw [if_pos e] at a;exact a
  ·rw [if_neg e];rw [if_neg e] at a;exact a
 by_cases o:op=20
 ·subst o;refine ⟨f64.nearest b,UE,KE (wU ?_)⟩;simpa using a
 by_cases p:op=21
 ·subst p;refine U6 (Qo ?_);simpa using a
 grind
end
def gN (c:bc):List Int:=[c.cw,c.cx,c.cC,c.cD,c.cE,c.cF,c.cG,c.cH]
def gG (c:bc):Core:=⟨c.PC,gN c⟩
def tD (w:eD):Want:=⟨w.Kind,w.To,w.fh⟩
def rowOf (c:bc):gQ:=⟨c.cw,c.cx,c.cC,c.cD,c.cE,c.cF,c.cG,c.cH⟩
def FY (c:bc):Nat->Int->bc
 | 0,v=>{c with cw:=v}
 | 1,v=>{c with cx:=v}
 | 2,v=>{c with cC:=v}
 | 3,v=>{c with cD:=v}
 | 4,v=>{c with cE:=v}
 | 5,v=>{c with cF:=v}
 | 6,v=>{c with cG:=v}
 | 7,v=>{c with cH:=v}
 | _,_=>c
section
variable {h0 k:Hp} {p:Addr} {c:bc}
theorem Qp {n:Nat} {v:Int} (a:n<8):gG (FY c n v)=⟨c.PC,(gN c).set n v⟩:=by
 match n,a with
 | 0,_=>rfl
 | 1,_=>rfl
 | 2,_=>rfl
 | 3,_=>rfl
 | 4,_=>rfl
 | 5,_=>rfl
 | 6,_=>rfl
 | 7,_=>rfl
theorem xi {i:Int} {K:Int->Prop} (h:0<=i/\i<8) (a:K (fA (gN c) i)):
  ((0:Int)<=i/\i<(8:Int))/\∃x:Int,((List.get?Internal [(.int .i64 (rowOf c).a0),(.int .i64 (rowOf c).a1),(.int .i64 (rowOf c).a2),(.int .i64 (rowOf c).a3),(.int .i64 (rowOf c).a4),(.int .i64 (rowOf c).a5),(.int .i64 (rowOf c).a6),(.int .i64 (rowOf c).a7)] (0+((Int.toNat i)*1)))=(some (Value.int .i64 x))/\K x):=by
 refine ⟨h,_,?_,a⟩;unfold fA;have:i.toNat<8:=by omega
 generalize i.toNat=n at*
 match n,this with
 | 0,_=>rfl
 | 1,_=>rfl
 | 2,_=>rfl
 | 3,_=>rfl
 | 4,_=>rfl
 | 5,_=>rfl
 | 6,_=>rfl
 | 7,_=>rfl
theorem AS {a v:Int} {Q:Hp->Prop} (o:Has h0 (dk fk p c) k) (f:∀e b,Has h0 (dk fk p e) b->gG e=⟨c.PC,j8 (gN c) a v⟩->Q b):Ym prog (some p) a v Q k:=by
 unfold Ym;refine aJ ?_;by_cases h:0<=a/\a<8
 ·rw [if_pos (by simp [h.1,h.2])];refine aP ⟨h,?_⟩;rw [tF,Nat.mul_one];have d:a.toNat<8:=by omega
  refine o.st (FY c a.toNat v) (by show 1+a.toNat+1<=9;omega) ?_ λb g=>f _ b g ?_
  ·generalize a.toNat=n at d
   match n,d with
   | 0,_=>rfl
   | 1,_=>rfl
   | 2,_=>rfl
   | 3,_=>rfl
   | 4,_=>rfl
   | 5,_=>rfl
   | 6,_=>rfl
   | 7,_=>rfl
  ·rw [Qp d];unfold j8;rw [if_pos h]
 ·rw [if_neg (by simp;omega)];refine f c k o ?_;unfold j8;rw [if_neg h];rfl
theorem Ef {K:Addr->Hp->Prop} (b:∀p a,k<=a->Has k (dk fk p c) a->K p a):bh [(.int .i64 c.PC),(.int .i64 c.cw),(.int .i64 c.cx),(.int .i64 c.cC),(.int .i64 c.cD),(.int .i64 c.cE),(.int .i64 c.cF),(.int .i64 c.cG),(.int .i64 c.cH)] K k:=se (sh:=fk) c rfl b
theorem Ew {Q:bc->Hp->Prop} (hp:0<=c.PC/\c.PC<4611686018427387904) (b:∀a,gG a=fP (gG c)->Q a k):Cx prog c Q k:=by unfold Cx;refine b _ ?_;unfold gG fP gN;dsimp only;rw [aT]
variable {l:Sl} {xs:List aK}
theorem B9 {Q:aK->Bool->Hp->Prop} (r:mV k l xs) (a:∀x:aK,ie (xs.map bd) c.PC=some (bd x)->0<=c.PC->c.PC<(xs.length:Int)->Q x true k) (b:ie (xs.map bd) c.PC=none->Q ⟨0,0,0,0,0⟩ false k):DC prog c l Q k:=by
 unfold DC;refine aJ ?_;have d:=r.1;unfold ie at a b;by_cases h:c.PC<0\/(xs.length:Int)<=c.PC
 ·grind
 ·rw [if_neg (by simp;omega)];refine pF r λx e=>a x ?_ (by omega) (by omega);grind
theorem UK {x:cX} {n m:Int} (h:(jj x n m).1=0):(0<=x.a/\x.a<8)/\(0<=x.b/\x.b<8)/\(0<=x.c/\x.c<8):=by
 have key:∀ {b:Bool} {v:Int},di b v=0->0<=v/\v<8:=by
  intro b v h;unfold di at h;by_cases d:b=false/\v≠0
  ·rw [if_pos d] at h;cases h
  ·rw [if_neg d] at h;by_cases hp:v<0\/8<=v
   ·rw [if_pos hp] at h;cases h
   ·omega
 obtain ⟨_,a,b,c,_⟩:=yg h;grind
theorem Qq {x:aK} {Q:eD->Bool->Bool->Hp->Prop} (q:0<=x.A/\x.A<8) (hb:0<=x.B/\x.B<8) (t:0<=x.C/\x.C<8) (b:lT (bd x) (gN c)=none->Q ⟨0,0,0⟩ false false k)
  (a:∀w st,lT (bd x) (gN c)=some (tD w,st)->Q w st true k):BS prog x (rowOf c) Q k:=by
 have case:∀n:Int,(x.Op==n)=decide (x.Op=n):=λn=>by by_cases e:x.Op=n<;>simp [e]
 unfold BS;unfold lT at b a;simp only [case,decide_eq_true_eq];have s:(bd x).op=x.Op:=rfl;rw [s] at b a;by_cases d:x.Op=0
 ·rw [if_pos d];rw [if_pos d] at a;exact a ⟨1,0,0⟩ true rfl
 rw [if_neg d];rw [if_neg d] at b a;by_cases f:x.Op=24
 ·rw [if_pos f];rw [if_pos f] at a;exact xi hb (xi t (a ⟨2,_,_⟩ true rfl))
 rw [if_neg f];rw [if_neg f] at b a;by_cases g:x.Op=25
 ·rw [if_pos g];rw [if_pos g] at a;exact a ⟨3,0,0⟩ true rfl
 rw [if_neg g];rw [if_neg g] at b a;by_cases h:x.Op=26
 ·rw [if_pos h];rw [if_pos h] at a;exact a ⟨4,0,0⟩ true rfl
 rw [if_neg h];rw [if_neg h] at b a;by_cases i:x.Op=27
 ·rw [if_pos i];rw [if_pos i] at a;exact xi q (a ⟨5,0,_⟩ false rfl)
 rw [if_neg i];rw [if_neg i] at b a;by_cases j:x.Op=28
 ·rw [if_pos j];rw [if_pos j] at a;exact xi q (a ⟨6,0,_⟩ true rfl)
 rw [if_neg j];rw [if_neg j] at b a;by_cases m:x.Op=29
 ·rw [if_pos m];rw [if_pos m] at a;exact a ⟨7,x.iU,0⟩ true rfl
 rw [if_neg m];rw [if_neg m] at b a;by_cases o:x.Op=30
 ·rw [if_pos o];rw [if_pos o] at a;exact a ⟨8,x.iU,0⟩ false rfl
 rw [if_neg o];rw [if_neg o] at b a;by_cases r:x.Op=31
 ·rw [if_pos r];rw [if_pos r] at a;exact xi q (a ⟨9,0,_⟩ false rfl)
 grind
theorem Sx {v:Int} {Q:bc->Hp->Prop} (r:mV k l xs) (hp:0<=c.PC/\c.PC<4611686018427387904) (j:∀b g,k<=g->gG b=lf (xs.map bd) (gG c) v->Q b g):CC prog c l v Q k:=by
 unfold CC;refine Ef λp w u o=> ?_;unfold lf at j;refine cL.intro (λg=>∃b,Has k (dk fk p b) g/\fP (gG b)=(match ie (xs.map bd) (gG c).pc with
  | some n=>⟨(gG c).pc+1,j8 (gG c).bw n.a v⟩
  | none=>fP (gG c))) ?_ ?_
 ·refine o.u9 (shf:=fk) c rfl ?_;refine BW (B9 (r.mono u) (λx f _ _=> ?_) λf=> ?_)
  ·rw [if_pos rfl];refine AE (AS o λb m h e=>⟨b,h,?_⟩);have f:ie (xs.map bd) (gG c).pc=some (bd x):=f;rw [f,e];rfl
  ·rw [if_neg (by decide)];have f:ie (xs.map bd) (gG c).pc=none:=f;refine ⟨c,o,?_⟩;rw [f]
 ·rintro m ⟨b,h,e⟩;refine h.u9 (shf:=fk) b rfl ?_;have t:b.PC=c.PC:=by
   have d:(fP (gG b)).pc=b.PC+1:=rfl;rw [e] at d;cases i:ie (xs.map bd) (gG c).pc with
   | none=>rw [i] at d;have d:c.PC+1=b.PC+1:=d;omega
   | some n=>rw [i] at d;have d:c.PC+1=b.PC+1:=d;omega
  exact CS (Ew (by rw [t];exact hp) λq s=>j q m h.le (s.trans e))
theorem DM {v from_:Int} {Q:bc->Hp->Prop} (r:mV k l xs) (hp:0<=c.PC/\c.PC<4611686018427387904) (m:∀d h,k<=h->gG d=gP (xs.map bd) (gG c) v from_->Q d h):CA prog c l v from_ Q k:=by
 unfold CA;refine Ef λp E C o=> ?_;unfold gP at m;refine cL.intro (λh=>∃d,Has k (dk fk p d) h/\fP (gG d)=(match ie (xs.map bd) (gG c).pc with
  | some n=>⟨(gG c).pc+1,j8 (j8 (gG c).bw n.a v) n.b from_⟩
  | none=>fP (gG c))) ?_ ?_
 ·refine o.u9 (shf:=fk) c rfl ?_;refine BW (B9 (r.mono C) (λx g _ _=> ?_) λg=> ?_)
  ·rw [if_pos rfl];refine AE (AS o λd q i e=> ?_);refine AE (AS i λt F D w=>⟨t,D,?_⟩);have g:ie (xs.map bd) (gG c).pc=some (bd x):=g;have y:d.PC=c.PC:=congrArg Core.pc e;have z:gN d=j8 (gN c) x.A v:=congrArg Core.bw e;rw [g,w,y,z];rfl
  ·rw [if_neg (by decide)];have g:ie (xs.map bd) (gG c).pc=none:=g;refine ⟨c,o,?_⟩;rw [g]
 ·rintro q ⟨d,i,e⟩;refine i.u9 (shf:=fk) d rfl ?_;have B:d.PC=c.PC:=by
   have f:(fP (gG d)).pc=d.PC+1:=rfl;rw [e] at f;cases j:ie (xs.map bd) (gG c).pc with
   | none=>rw [j] at f;have f:c.PC+1=d.PC+1:=f;omega
   | some n=>rw [j] at f;have f:c.PC+1=d.PC+1:=f;omega
  exact CS (Ew (by rw [B];exact hp) λs u=>m s q i.le (u.trans e))
end
section
variable {h0 k:Hp} {p:Addr} {c:bc} {l:Sl} {xs:List aK}
theorem wK {a:bc} {r:List Int} (e:gG a=⟨c.PC,r⟩):fP (gG a)=⟨c.PC+1,r⟩:=by rw [e];rfl
theorem Sz {tick self:Int} {Q:bc->eD->Hp->Prop} (r:mV k l xs) (Y:xs.length<1073741824)
  (b:∀d w u,k<=u->gG d=(gO fW (xs.map bd) (gG c) tick self).1->tD w=(gO fW (xs.map bd) (gG c) tick self).2->Q d w u):Cy prog c l tick self Q k:=by
 unfold Cy;refine Ef λp k1 L o=> ?_;refine o.u9 (shf:=fk) c rfl ?_;have X:=r.1;unfold gO at b;refine BW (B9 (r.mono L) (λx m Z i1=> ?_) λm=> ?_)
 case _=>
  refine ⟨λ_=> ?_,λe=>(by cases e)⟩;refine XW (DG λW P=> ?_);have m:ie (xs.map bd) (gG c).pc=some (bd x):=m;rw [m] at b;dsimp only at b;have S:((xs.map bd).length:Int)=(l.len:Int):=by grind
  rw [S] at b;refine aJ ?_;have h:=o.grow P;by_cases q:(jj (bd x) (l.len:Int) 8).1≠0
  ·rw [if_pos q] at b;rw [if_pos (by simp [q])];refine h.u9 (shf:=fk) c rfl ?_;exact b c ⟨1,0,0⟩ _ (Hp.le_trans L P) rfl rfl
  ·rw [if_neg q] at b;rw [if_neg (by simpa using q)];have q:(jj (bd x) (l.len:Int) 8).1=0:=by simpa using q
   obtain ⟨y,hb,t⟩:=UK q;have y:0<=x.A/\x.A<8:=y;have hb:0<=x.B/\x.B<8:=hb;have t:0<=x.C/\x.C<8:=t;have O:0<=c.PC/\c.PC<4611686018427387904:=by omega
   refine h.ld (shf:=xw) (rowOf c) (off:=1) rfl ?_;refine U2 (Qq y hb t (λJ=> ?_) λw st K=> ?_)
   ·rw [if_neg (by decide)];refine h.ld (shf:=xw) (rowOf c) (off:=1) rfl ?_;have J:lT (bd x) (gG c).bw=none:=J;rw [J] at b;dsimp only at b;unfold tg at b;have R:(bd x).op=x.Op:=rfl;rw [R] at b;have case:∀n:Int,(x.Op==n)=decide (x.Op=n):=λn=>by grind
    simp only [case,decide_eq_true_eq];refine jU.intro (λ_ _ u=>∃d,Has k (dk fk p d) u/\d.PC=c.PC/\∀g,gG g=fP (gG d)->Q g ⟨0,0,0⟩ u) ?_ ?_
    ·by_cases z:x.Op=1
     ·rw [if_pos z];rw [if_pos z] at b;refine AE (AS h λd s f e=>⟨d,f,congrArg Core.pc e,λg i=>b g _ _ f.le (i.trans (wK e)) rfl⟩)
     rw [if_neg z];rw [if_neg z] at b;by_cases D:x.Op=2
     ·rw [if_pos D];rw [if_pos D] at b;refine xi hb ?_;refine AE (AS h λd s f e=>⟨d,f,congrArg Core.pc e,λg i=>b g _ _ f.le (i.trans (wK e)) rfl⟩)
     rw [if_neg D];rw [if_neg D] at b;by_cases E:x.Op=32
     ·rw [if_pos E];rw [if_pos E] at b;refine AE (AS h λd s f e=>⟨d,f,congrArg Core.pc e,λg i=>b g _ _ f.le (i.trans (wK e)) rfl⟩)
     rw [if_neg E];rw [if_neg E] at b;by_cases F:x.Op=33
     ·rw [if_pos F];rw [if_pos F] at b;refine AE (AS h λd s f e=>⟨d,f,congrArg Core.pc e,λg i=>b g _ _ f.le (i.trans (wK e)) rfl⟩)
     rw [if_neg F];rw [if_neg F] at b;by_cases G:x.Op=22
     ·rw [if_pos G];rw [if_pos G] at b;refine h.st {c with PC:=x.iU} (by show 0+1<=9;omega) rfl λs f=> ?_;refine f.u9 (shf:=fk) {c with PC:=x.iU} rfl ?_;exact b _ _ _ f.le rfl rfl
     rw [if_neg G];rw [if_neg G] at b;by_cases H:x.Op=23
     ·rw [if_pos H];rw [if_pos H] at b;refine xi y ?_;by_cases j:fA (gN c) x.A=0
      ·rw [if_pos (by simp [j])];have j:fA (gG c).bw (bd x).a=0:=j;rw [if_pos j] at b;exact ⟨c,h,rfl,λg i=>b g _ _ h.le i rfl⟩
      ·rw [if_neg (by simp [j])];have j:¬fA (gG c).bw (bd x).a=0:=j;rw [if_neg j] at b;refine h.st {c with PC:=x.iU} (by show 0+1<=9;omega) rfl λs f=> ?_;refine f.u9 (shf:=fk) {c with PC:=x.iU} rfl ?_;exact b _ _ _ f.le rfl rfl
     rw [if_neg H];rw [if_neg H] at b;refine xi hb (xi t ?_);have I:fW x.Op (fA (gN c) x.B) (fA (gN c) x.C)=if 3<=x.Op/\x.Op<=14 then xM x.Op (fA (gN c) x.B) (fA (gN c) x.C) else vK x.Op (fA (gN c) x.B) (fA (gN c) x.C):=rfl
     have fin:∀v,v=fW x.Op (fA (gN c) x.B) (fA (gN c) x.C)->bC prog wD [(.pointer (some p)),(.int .i64 x.A),(.int .i64 v)] (λN=>∃d,Has k (dk fk p d) N/\d.PC=c.PC/\∀g,gG g=fP (gG d)->Q g ⟨0,0,0⟩ N) W:=by intro v hv;subst hv;exact AE (AS h λd s f e=>⟨d,f,congrArg Core.pc e,λg i=>b g _ _ f.le (i.trans (wK e)) rfl⟩)
     refine X7 (Sn (λM=> ?_) λM=> ?_)
     ·refine cQ.direct ?_;grind
     ·refine cQ.direct ?_;rw [if_pos (by decide)];refine xi hb (xi t ?_);rw [if_neg M] at I;refine X8 (Sv (λU=>fin _ I.symm) λU=>fin _ ?_);rw [I];unfold vK;omega
    ·rintro _ _ s ⟨d,f,T,V⟩;refine f.u9 (shf:=fk) d rfl ?_;exact CS (Ew (by rw [T];exact O) λg i=>V g i)
   ·rw [if_pos rfl];have K:lT (bd x) (gG c).bw=some (tD w,st):=K;rw [K] at b;dsimp only at b;cases st with
    | true=>rw [if_pos rfl];refine h.u9 (shf:=fk) c rfl ?_;exact ⟨⟨trivial,trivial⟩,b c w _ h.le rfl rfl⟩
    | false=>rw [if_neg (by decide)];refine h.u9 (shf:=fk) c rfl ?_;exact CS (Ew O λg i=>⟨⟨trivial,trivial⟩,⟨trivial,trivial⟩,b g w _ h.le i rfl⟩)
 case _=>refine ⟨λe=>(by cases e),λ_=>⟨0,?_⟩⟩;refine aJ ?_;rw [if_pos (by decide)];have m:ie (xs.map bd) (gG c).pc=none:=m;rw [m] at b;refine o.u9 (shf:=fk) c rfl ?_;exact b c ⟨1,0,0⟩ _ L rfl rfl
end
structure MK where
 c:aE
 x:aW
 t:Addr
 sl:Addr
 pt:List Addr
 pr:List Addr
 own:Nat->Sl
 code:Nat->Sl
 ins:Nat->List aK
def Fu (x:aW):an:=⟨x.gB,x.iK,x.lY,x.od,x.my,x.oe,x.gC⟩
structure dF (h:Hp) (K:MK):Prop where
 iz:(fV K.c).1=0
 A8:∀l∈K.c.labels,kQ l
 cfg:fo h (Fu K.x) K.c
 t1:K.x.table=some K.t
 t2:sC h K.t K.c.labels
 s1:K.x.ui=some K.sl
 s2:∃(s:Sl) (n:Int),bf h K.sl [s.v,.int .i64 n]/\Is h s K.c.table
 Nk:K.pt.length=nP K.c
 pt:Rs h ag 1 K.x.parts (K.pt.map some)
 Nj:K.pr.length=nQ K.c
 pr:Rs h ag 1 K.x.procs (K.pr.map some)
 own:∀i,i<nP K.c->Is h (K.own i) ((dT K.c i).map λ(q:Nat)=>(q:Int))
 code:∀p,p<nQ K.c->mV h (K.code p) (K.ins p)/\(K.ins p).map bd=gF K.c p
 owned:∀p,p<nQ K.c->az K.c p<nP K.c
abbrev Fy :qY->List Value:=λe=> [.int .i64 e.tick,.int .i64 e.proc,.int .i64 e.value]
def nn (K:MK) (i:Nat) (x:bg) (lp a:Addr) (y:dv):Prop:=x.procs=K.own i/\x.ah=y.ah/\x.lost=y.lost/\x.forbidden=y.forbidden/\x.ae=some lp/\x.dY=some a
def qh (K:MK) (i:Nat) (x:bg) (lp b:Addr) (y:dv) (a:Nat->Int):dI:=
 (dk xu (K.pt.getD i a0) x).star ((dU 3 Fy x.log y.log).star ((nB lp y.aB y.av).star (tH b a (2*nQ K.c))))
def qg (K:MK) (i:Nat) (y:dv) (b:Nat->Int):dI:=.some_ λx:bg=>.some_ λlp:Addr=>.some_ λa:Addr=>(qh K i x lp a y b).star (.fact (nn K i x lp a y))
def eu (z:aO):bc:=⟨z.j3,z.fZ,z.gg,z.gh,z.gi,z.gk,z.gl,z.gm,z.gr⟩
def fM (K:MK) (p:Nat) (z:aO) (q:Addr) (y:ak):Prop:=z.dG=(p:Int)/\z.part=(az K.c p:Int)/\z.code=K.code p/\z.state=y.state/\gG (eu z)=y.core/\z.bL=y.bL/\z.post=some q
def tL (K:MK) (p:Nat) (z:aO) (q:Addr) (y:ak):dI:=(dk bm (K.pr.getD p a0) z).star (dX q K.c.lane y.aj y.ah)
def qi (K:MK) (p:Nat) (y:ak):dI:=.some_ λz:aO=>.some_ λq:Addr=>(tL K p z q y).star (.fact (fM K p z q y))
def rX (x:aW) (t:Int):aW:=⟨x.gB,x.iK,x.lY,x.od,x.my,x.oe,x.gC,x.table,x.ui,t,x.parts,x.procs⟩
def aF (K:MK) (pm:Addr) (s:MS) (a:Nat->Nat->Int):dI:=
 (dk IY pm (rX K.x s.tick)).star ((dI.first (λi=>qg K i (s.part i) (a i)) (nP K.c)).star (dI.first (λp=>qi K p (s.proc p)) (nQ K.c)))
section
variable {h0 h1 k:Hp} {K:MK} {pm:Addr} {s:MS} {d:Nat->Nat->Int}
theorem dF.mono (m:dF h0 K) (c:h0<=h1):dF h1 K where
 iz:=m.iz
 A8:=m.A8
 cfg:=m.cfg.mono c
 t1:=m.t1
 t2:=m.t2.mono c
 s1:=m.s1
 s2:=by obtain ⟨s,n,a,b⟩:=m.s2;exact ⟨s,n,pk c a,b.mono c⟩
 Nk:=m.Nk
 pt:=m.pt.mono c
 Nj:=m.Nj
 pr:=m.pr.mono c
 own:=λi e=>(m.own i e).mono c
 code:=λp hp=>⟨(m.code p hp).1.mono c,(m.code p hp).2⟩
 owned:=m.owned
theorem Has.Aw {p:Nat} (o:Has h0 (aF K pm s d) k) (hp:p<nQ K.c):∃h1 z q,h0<=h1/\fM K p z q (s.proc p)/\Has h1 (tL K p z q (s.proc p)) k/\
  ∀g a b,fM K p g q a->Has h1 (tL K p g q a) b->Has h0 (aF K pm (s.aL p a) d) b:=by
 obtain ⟨h1,a1,n,put⟩:=o.f3;obtain ⟨h,a2,f,_,t⟩:=n.one hp;obtain ⟨z,f⟩:=Has.ex.1 f;obtain ⟨q,f⟩:=Has.ex.1 f;obtain ⟨r,i⟩:=f.j6;refine ⟨h,z,q,Hp.le_trans a1 a2,i,r,λg a b l m=>put _ _ ?_⟩;have:=t _ _ (Has.ex.2 ⟨g,Has.ex.2 ⟨q,m.fB l⟩⟩:Has h (qi K p a) b);refine cast (congrArg (λA=>Has h1 A b) (uq λj u=> ?_)) this;by_cases e:j=p
 ·subst e;rw [ki];show _=qi K j (cp s.proc j a j);rw [ki];rfl
 ·rw [kA e];show _=qi K j (cp s.proc p a j);rw [kA e]
theorem Has.rP {i:Nat} (o:Has h0 (aF K pm s d) k) (n:i<nP K.c):∃h1 x lp b,h0<=h1/\nn K i x lp b (s.part i)/\Has h1 (qh K i x lp b (s.part i) (d i)) k/\
  ∀l f g h,nn K i l lp b f->Has h1 (qh K i l lp b f g) h->Has h0 (aF K pm (s.dh i f) (cp d i g)) h:=by
 obtain ⟨h1,a1,t,put⟩:=o.f2;obtain ⟨m,a2,a,_,v⟩:=t.one n;obtain ⟨x,a⟩:=Has.ex.1 a;obtain ⟨lp,a⟩:=Has.ex.1 a;obtain ⟨b,a⟩:=Has.ex.1 a;obtain ⟨u,p⟩:=a.j6;refine ⟨m,x,lp,b,Hp.le_trans a1 a2,p,u,λl f g h q r=>put _ _ ?_⟩;have:=v _ _ (Has.ex.2 ⟨l,Has.ex.2 ⟨lp,Has.ex.2 ⟨b,r.fB q⟩⟩⟩:Has m (qg K i f g) h);refine cast (congrArg (λA=>Has h1 A h) (uq λj w=> ?_)) this;by_cases e:j=i
 ·subst e;rw [ki];show _=qg K j (cp s.part j f j) (cp d j g j);rw [ki,ki];rfl
 ·rw [kA e];show _=qg K j (cp s.part i f j) (cp d i g j);rw [kA e,kA e]
theorem Has.eV (o:Has h0 (aF K pm s d) k):Has h0 (dk IY pm (rX K.x s.tick)) k:=Has.left o
theorem dF.v7 (m:dF h0 K) (a:h0<=k) {p:Nat} (hp:p<nQ K.c) {Q:Option Addr->Prop} (b:Q (some (K.pr.getD p a0))):bF K.x.procs.base K.x.procs.len (p:Int)/\aR none ag k (sat K.x.procs.base 1 (p:Int)) Q:=by have e:=m.Nj;refine Rs.get (m.pr.mono a) (λ_=>rfl) (by omega) (by omega) (by rw [List.length_map];omega) λ(y:Option Addr) f=> ?_;grind
theorem dF.partAt (m:dF h0 K) (a:h0<=k) {p:Nat} (hp:p<nP K.c) {Q:Option Addr->Prop} (b:Q (some (K.pt.getD p a0))):bF K.x.parts.base K.x.parts.len (p:Int)/\aR none ag k (sat K.x.parts.base 1 (p:Int)) Q:=by have e:=m.Nk;refine Rs.get (m.pt.mono a) (λ_=>rfl) (by omega) (by omega) (by rw [List.length_map];omega) λ(y:Option Addr) f=> ?_;grind
theorem dF.oZ (m:dF h0 K):K.x.procs.len=nQ K.c:=by have:=m.pr.1;rw [List.length_map,m.Nj] at this;exact this
theorem dF.rQ (m:dF h0 K):K.x.parts.len=nP K.c:=by have:=m.pt.1;rw [List.length_map,m.Nk] at this;exact this
end
abbrev MK.p (K:MK) (p:Nat):Addr:=K.pr.getD p a0
abbrev MK.q (K:MK) (i:Nat):Addr:=K.pt.getD i a0
section
variable {h0 h1 k:Hp} {K:MK} {pm:Addr} {s:MS} {a:Nat->Nat->Int}
theorem Has.dC {p:Nat} (o:Has h0 (aF K pm s a) k) (hp:p<nQ K.c):∃h1 z q,h0<=h1/\fM K p z q (s.proc p)/\Has h1 (dk bm (K.p p) z) k/\
  ∀e b d,fM K p e q b->b.aj=(s.proc p).aj->b.ah=(s.proc p).ah->Has h1 (dk bm (K.p p) e) d->Has h0 (aF K pm (s.aL p b) a) d:=by
 obtain ⟨h1,z,q,i,g,m,put⟩:=o.Aw hp;obtain ⟨f,j,n,_,r⟩:=m.fst;refine ⟨f,z,q,Hp.le_trans i j,g,n,λe b d h t u l=>put e b d h ?_⟩;have:=r _ _ l;unfold tL;grind
theorem Has.oY {p:Nat} (o:Has h0 (aF K pm s a) k) (hp:p<nQ K.c):∃h1 z q,h0<=h1/\fM K p z q (s.proc p)/\Has h0 (dk bm (K.p p) z) k/\Has h1 (dX q K.c.lane (s.proc p).aj (s.proc p).ah) k/\
  ∀e d b,Has h1 (dX q K.c.lane e d) b->Has h0 (aF K pm (s.aL p {s.proc p with aj:=e,ah:=d}) a) b:=by
 obtain ⟨h1,z,q,g,f,h,put⟩:=o.Aw hp;obtain ⟨i,j,m,_,n⟩:=h.snd;exact ⟨i,z,q,Hp.le_trans g j,f,(Has.left h).mono g,m,λe d b l=>put z _ b f (n _ _ l)⟩
def vE (z:aO) (c:bc):aO:=⟨z.dG,z.part,z.code,z.state,c.PC,c.cw,c.cx,c.cC,c.cD,c.cE,c.cF,c.cG,c.cH,z.bL,z.post⟩
def xj (z:aO) (n:Int):aO:=⟨z.dG,z.part,z.code,n,z.j3,z.fZ,z.gg,z.gh,z.gi,z.gk,z.gl,z.gm,z.gr,z.bL,z.post⟩
def uZ (z:aO) (b:Bool):aO:=⟨z.dG,z.part,z.code,z.state,z.j3,z.fZ,z.gg,z.gh,z.gi,z.gk,z.gl,z.gm,z.gr,b,z.post⟩
theorem fM.core {p:Nat} {z:aO} {q:Addr} {y:ak} (b:fM K p z q y) (c:bc):fM K p (vE z c) q (y.put (gG c)):=⟨b.1,b.2.1,b.2.2.1,b.2.2.2.1,rfl,b.2.2.2.2.2⟩
theorem fM.state {p:Nat} {z:aO} {q:Addr} {y:ak} (b:fM K p z q y) (n:Int):fM K p (xj z n) q {y with state:=n}:=⟨b.1,b.2.1,b.2.2.1,rfl,b.2.2.2.2⟩
theorem fM.bL {p:Nat} {z:aO} {q:Addr} {y:ak} (c:fM K p z q y) (b:Bool):fM K p (uZ z b) q {y with bL:=b}:=⟨c.1,c.2.1,c.2.2.1,c.2.2.2.1,c.2.2.2.2.1,rfl,c.2.2.2.2.2.2⟩
theorem Db {n:Int} {Q:Bool->Hp->Prop} (b:Q (decide (n≠5)&&decide (n≠6)) k):XK prog n Q k:=by unfold XK;refine aJ ?_;grind
theorem MG {n:Int} {Q:Int->Hp->Prop} (b:kj n) (c:Q (more n) k):Yk prog n Q k:=by
 unfold Yk;unfold kj at b;rw [aT];have:ju (n+1) 65535=more n:=by unfold ju more;split<;>split<;>omega
 grind
theorem DN {p:Nat} {c:bc} {m:Option Addr} {Q:Hp->Prop} (o:Has h0 (aF K pm s a) k) (hp:p<nQ K.c) (d:∀b,Has h0 (aF K pm (s.aL p (vL (s.proc p) (gG c))) a) b->Q b):TR prog m (some (K.p p)) c Q k:=by unfold TR;obtain ⟨h1,z,q,l,e,f,put⟩:=o.dC hp;refine aP (f.st (xj z 0) (by show 3+1<=15;omega) rfl λi g=> ?_);refine ⟨⟨trivial,trivial⟩,aP (g.st (vE (xj z 0) c) (by show 4+9<=15;omega) rfl λj h=> ?_)⟩;exact d _ (put _ _ _ ((e.state 0).core c) rfl rfl h)
theorem dF.rH (m:dF h0 K) (b:h0<=k) {p:Nat} (hp:p<nQ K.c) {z:aO} {q:Addr} {y:ak} (d:fM K p z q y):mV k z.code (K.ins p):=by rw [d.2.2.1];exact ((m.code p hp).1).mono b
theorem Dq {p:Nat} {v:Int} {n:Option Addr} {Q:Hp->Prop} (m:dF h0 K) (o:Has h0 (aF K pm s a) k) (hp:p<nQ K.c) (u:0<=(s.proc p).pc/\(s.proc p).pc<4611686018427387904) (i:∀d,Has h0 (aF K pm (bV K.c s p v) a) d->Q d):
  RQ prog n (some (K.p p)) v Q k:=by
 unfold RQ;obtain ⟨h1,z,q,x,b,f,put⟩:=o.dC hp;refine aP (f.ld (shf:=fk) (eu z) rfl ?_);refine aP (f.ld (shf:=au) z.code rfl ?_);have e:gG (eu z)=(s.proc p).core:=b.2.2.2.2.1;have t:(eu z).PC=(s.proc p).pc:=congrArg Core.pc e;refine Ww (Sx (m.rH o.le hp b) (by omega) λr w l h=> ?_);refine RY (DN (o.grow l) hp λj g=>i j ?_);rw [h,e,(m.code p hp).2] at g;exact g
theorem DO {p:Nat} {i:Option Addr} {Q:Hp->Prop} (o:Has h0 (aF K pm s a) k) (hp:p<nQ K.c) (b:∀g,Has h0 (aF K pm (s.aL p (dR (s.proc p))) a) g->Q g):TK prog i (some (K.p p)) Q k:=by
 unfold TK;obtain ⟨h1,z,q,m,d,f,put⟩:=o.dC hp;refine aP (f.ld (shf:=af .i64) z.state rfl ?_);have e:z.state=(s.proc p).state:=d.2.2.2.1;unfold dR at b;by_cases h:(s.proc p).state=1
 ·rw [if_pos (show (z.state==1)=true by rw [e,h];rfl)];rw [if_pos h] at b;exact aP (f.st (xj z 0) (by show 3+1<=15;omega) rfl λl j=>b _ (put _ _ _ (d.state 0) rfl rfl j))
 ·rw [if_neg (show ¬(z.state==1)=true by grind)];rw [if_neg h] at b;exact b _ (put z (s.proc p) k d rfl rfl f)
theorem Dd {lG:Int} {Q:Hp->Prop} (m:dF h0 K) (o:Has h0 (aF K pm s a) k) (t:0<=lG->lG<(nQ K.c:Int)/\0<=(s.proc lG.toNat).pc/\(s.proc lG.toNat).pc<4611686018427387904) (b:∀g,Has h0 (aF K pm (gW s lG) a) g->Q g):
  Td prog (some pm) lG Q k:=by
 unfold Td;unfold gW at b;by_cases h:0<=lG
 ·rw [if_pos (by simpa using h)];rw [if_pos h] at b;obtain ⟨D,A⟩:=t h;have hp:lG.toNat<nQ K.c:=by omega
  have r:((lG.toNat:Nat):Int)=lG:=by omega
  have at_:=m.v7 o.le hp (Q:=λy=>y=some (K.p lG.toNat)) rfl;rw [r] at at_;obtain ⟨f,y,d,rfl⟩:=at_;refine aP (o.eV.ld (shf:=au) K.x.procs rfl ⟨f,_,d,aP (o.eV.ld (shf:=au) K.x.procs rfl ⟨f,_,d,?_⟩)⟩);obtain ⟨h1,z,q,C,u,w,put⟩:=o.dC hp;have e:gG (eu z)=(s.proc lG.toNat).core:=u.2.2.2.2.1;have l:(eu z).PC=(s.proc lG.toNat).pc:=congrArg Core.pc e;refine aP (w.ld (shf:=fk) (eu z) rfl ?_);refine CS (Ew (by rw [l];exact A) λB j=> ?_);refine ⟨⟨o.eV.fb (n:=1) rfl,d,trivial⟩,?_⟩;refine RY (DN o hp λv i=>b v ?_);rw [j,e] at i;exact i
 grind
end
def iO (c:aE) (i j:Nat):Bool:=fl c.labels (i:Int) (j:Int)
structure Fm (n:Nat) (l:bq):Prop where
 values:l.values.length<=64
 waiters:l.waiters.length<=100
 taken:kj l.taken
 dropped:kj l.dropped
 nd:(l.waiters.map (·.proc)).Nodup
 lG:∀w∈l.waiters,0<=w.proc/\w.proc<(n:Int)
structure rj (c:aE) (x:ak):Prop where
 pc:0<=x.pc/\x.pc<=1000
 len:x.aj.length=nP c+1
 cur:0<=x.ah/\x.ah<x.aj.length
 dS:∀l∈x.aj,Fm (nQ c) l
structure Fl (c:aE) (x:dv):Prop where
 cur:0<=x.ah/\x.ah<4611686018427387904
 kG:x.log.length<=4096
 lost:kj x.lost
 me:kj x.forbidden
 ij:x.aB.length=x.av.length
 jg:(x.av.length:Int)=c.ae
 mR:x.av.length<=8/\∀q∈x.av,q.length<=100
 nd:∀q∈x.av,q.Nodup/\∀z∈q,0<=z/\z<(nQ c:Int)
structure jZ (c:aE) (s:MS):Prop where
 proc:∀p,p<nQ c->rj c (s.proc p)
 part:∀i,i<nP c->Fl c (s.part i)
theorem yp {x:ak} {i:Nat} {l:bq} {f:bq->bq} (h:x.aj[i]? =some l):bz x i f={x with aj:=x.aj.set i (f l)}:=by unfold bz;congr 1;refine List.ext_getElem? λj=> ?_;grind
section
variable {h0 h1 k:Hp} {K:MK} {pm:Addr} {s:MS} {d:Nat->Nat->Int}
theorem Has.ug {i:Nat} (o:Has h0 (aF K pm s d) k) (l:i<nP K.c):∃h1 x lp f,h0<=h1/\nn K i x lp f (s.part i)/\Has h1 (dk xu (K.q i) x) k/\
  ∀b a e,nn K i b lp f a->b.log=x.log->a.log=(s.part i).log->a.aB=(s.part i).aB->a.av=(s.part i).av->Has h1 (dk xu (K.q i) b) e->Has h0 (aF K pm (s.dh i a) d) e:=by
 obtain ⟨h1,x,lp,f,p,m,u,put⟩:=o.rP l;obtain ⟨g,r,v,_,w⟩:=u.fst;refine ⟨g,x,lp,f,Hp.le_trans p r,m,v,λb a e n y z A B t=> ?_⟩;have C:=w _ _ t;have h:Has h1 (qh K i b lp f a (d i)) e:=by unfold qh;grind
 have j:=put b a (d i) e n h
 rwa [zd] at j
theorem jZ.told (a:jZ K.c s) {p:Nat} (hp:p<nQ K.c):0<=(s.proc p).pc/\(s.proc p).pc<4611686018427387904:=by have:=(a.proc p hp).pc;omega
theorem dF.ptr (m:dF h0 K) (o:Has h0 (aF K pm s d) k) {p:Nat} (hp:p<nQ K.c):bF K.x.procs.base K.x.procs.len (p:Int)/\bf k (sat K.x.procs.base 1 (p:Int)) [.pointer (some (K.p p))]:=by obtain ⟨a,y,b,rfl⟩:=m.v7 o.le hp (Q:=λy=>y=some (K.p p)) rfl;exact ⟨a,b⟩
theorem dF.uM (m:dF h0 K) (o:Has h0 (aF K pm s d) k) {p:Nat} (hp:p<nP K.c):bF K.x.parts.base K.x.parts.len (p:Int)/\bf k (sat K.x.parts.base 1 (p:Int)) [.pointer (some (K.q p))]:=by obtain ⟨a,y,b,rfl⟩:=m.partAt o.le hp (Q:=λy=>y=some (K.q p)) rfl;exact ⟨a,b⟩
theorem Eg {q i:Nat} {v:Int} {z:aO} {a:Addr} {Q:Int->Hp->Prop} (o:Has h0 (aF K pm s d) k) (I:q<nQ K.c) (P:rj K.c (s.proc q)) (H:K.c.lane<=64) (S:i<=nP K.c) (J:fM K q z a (s.proc q)) (M:Has h1 (dk bm (K.p q) z) k)
  (u:ff K.c (s.proc q) i=true->Q 19 k) (w:∀j,ff K.c (s.proc q) i=false->Has h0 (aF K pm (s.aL q (bz (s.proc q) i (sN v))) d) j->Q 0 j):N1 prog (some a) (i:Int) v Q k:=by
 obtain ⟨R,e,x,U,L,O,N,put⟩:=o.oY I;have ea:x=a:=by
  obtain ⟨b,eb,hb,_⟩:=M.qT;obtain ⟨y,r,G,_⟩:=O.qT;rw [eb] at r;have A:b=y:=congrArg Addr.block r;subst A;obtain ⟨t,B⟩:=hb;obtain ⟨W,f⟩:=G;rw [B] at f;have C:(bp (bm.enc z)).toArray=(bp (bm.enc e)).toArray:=by injection f with f;injection f
  have D:bp (bm.enc z)=bp (bm.enc e):=by simpa using C
  have E:(bp (bm.enc z))[14]? =(bp (bm.enc e))[14]?:=by rw [D]
  have m:some (Value.pointer z.post)=some (Value.pointer e.post):=E;have n:z.post=e.post:=by injection m with m;injection m
  rw [J.2.2.2.2.2.2,L.2.2.2.2.2.2] at n;exact (Option.some.inj n).symm
 subst ea;have T:=P.len;have g:=List.getElem?_eq_getElem (show i<(s.proc q).aj.length by omega);generalize (s.proc q).aj[i]=l at g;have F:ff K.c (s.proc q) i=decide (K.c.lane<=(l.values.length:Int)):=by unfold ff;rw [g]
 rw [F] at u w;refine Ue N g H (λh=>u (decide_eq_true h)) λj h V=>w j (decide_eq_false h) ?_;rw [yp g];grind
end
section
variable {h0 h1 k:Hp} {K:MK} {pm:Addr} {s:MS} {b:Nat->Nat->Int}
theorem Ll {p:Nat}:s.aL p (s.proc p)=s:=by unfold MS.aL;rw [zd]
theorem MH {x:ak}:(dR x).pc=x.pc:=rfl
theorem DP {x:ak} {i:Nat} {f:bq->bq}:(bz x i f).pc=x.pc:=rfl
theorem Av {p q:Nat} {y:ak} (e:y.pc=(s.proc q).pc):((s.aL q y).proc p).pc=(s.proc p).pc:=by
 by_cases h:p=q
 ·subst h;rw [fX,e]
 ·rw [jc h]
theorem MI {q i:Nat} {Q:Hp->Prop} (o:Has h0 (aF K pm s b) k) (n:q<nQ K.c) (h:rj K.c (s.proc q)) (v:i<=nP K.c) {C:Prop} (m:∀e,Has h0 (aF K pm (s.aL q (bz (s.proc q) i jM)) b) e->Q e):
  ∃z a,fM K q z a (s.proc q)/\(∀ {f:Option Addr->Prop},f (some a)->aR none ag k ((K.p q).add 14) f)/\NV prog (some a) (i:Int) Q k:=by
 obtain ⟨u,z,a,x,g,t,r,put⟩:=o.oY n;refine ⟨z,a,g,λj=>t.ld (shf:=ag) z.post rfl (by rw [g.2.2.2.2.2.2];exact j),?_⟩;have w:=h.len;have d:=List.getElem?_eq_getElem (show i<(s.proc q).aj.length by omega);generalize (s.proc q).aj[i]=l at d;refine R3 r d (h.dS l (List.mem_of_getElem? d)).dropped λe y=>m e ?_;rw [yp d];grind
def Eh (c:aE) (s:MS) (p q:Nat) (v:Int):MS:=
 if kB (s.proc q)=false then bV c s p 2
 else if ff c (s.proc q) (az c p) then
  let s1:=s.aL q (bz (s.proc q) (az c p) (im p v))
  s1.aL p {s1.proc p with state:=2}
 else bV c (s.aL q (dR (bz (s.proc q) (az c p) (sN v)))) p 0
theorem Zw {p q:Nat} {v:Int} {Q:Hp->Prop} (m:dF h0 K) (A:cf K.c) (o:Has h0 (aF K pm s b) k) (j:jZ K.c s) (hp:p<nQ K.c) (f:q<nQ K.c) (S:∀l∈(s.proc q).aj,∀z∈l.waiters,z.proc≠(p:Int))
  (d:∀x,Has h0 (aF K pm (Eh K.c s p q v) b) x->Q x):Sd prog (some pm) (some (K.p p)) (some (K.p q)) v Q k:=by
 unfold Sd;obtain ⟨h1,n,ap,l1,E,op,_⟩:=o.dC hp;obtain ⟨h2,a,B,l2,t,i,_⟩:=o.dC f;unfold Eh at d;have T:az K.c p<=nP K.c:=Nat.le_of_lt A.fi;refine aP (i.ld (shf:=af .i64) a.state rfl ?_);refine WG (Db ?_);have R:a.state=(s.proc q).state:=t.2.2.2.1;have P:(decide (a.state≠5)&&decide (a.state≠6))=kB (s.proc q):=by rw [R];rfl
 rw [P];by_cases e:kB (s.proc q)=false
 ·rw [if_pos (by rw [e];rfl)];rw [if_pos e] at d;exact BB (Dq m o hp (j.told hp) d)
 ·rw [if_neg (by grind)];rw [if_neg e] at d;refine aP (i.ld (shf:=ag) a.post rfl ?_);refine aP (op.ld (shf:=af .i64) n.part rfl ?_);have C:n.part=(az K.c p:Int):=E.2.1;have eq:a.post=some B:=t.2.2.2.2.2.2;rw [C,eq];refine WE (Eg o f (j.proc q f) A.lane.2 T t i (λh=> ?_) λx h Y=> ?_)
  ·rw [if_pos (by decide)];rw [if_pos h] at d;refine aP (i.ld (shf:=ag) a.post rfl ?_);refine aP (op.ld (shf:=af .i64) n.part rfl ?_);refine aP (op.ld (shf:=af .i64) n.dG rfl ?_);have O:n.dG=(p:Int):=E.1;rw [C,eq,O];obtain ⟨h3,u,H,l3,U,o3,Z,put⟩:=o.oY f;have ea:H=B:=by
    have I:=o3.ld (shf:=ag) (off:=14) u.post rfl (K:=λy=>y=u.post) rfl;have J:=i.ld (shf:=ag) (off:=14) a.post rfl (K:=λy=>y=a.post) rfl;obtain ⟨y1,w,rfl⟩:=I;obtain ⟨y2,g,rfl⟩:=J;have w:=w 0 (.pointer u.post) rfl;have g:=g 0 (.pointer a.post) rfl;rw [w] at g;have M:u.post=a.post:=by injection g with g;injection g
    rw [t.2.2.2.2.2.2,U.2.2.2.2.2.2] at M;grind
   subst ea;have a9:=(j.proc q f).len;have r:=List.getElem?_eq_getElem (show az K.c p<(s.proc q).aj.length by omega);generalize (s.proc q).aj[az K.c p]=l at r;have N:ff K.c (s.proc q) (az K.c p)=decide (K.c.lane<=(l.values.length:Int)):=by unfold ff;rw [r]
   have D:=λl e=>(j.proc q f).dS l e;have b0:=A.parts;refine Qb (R5 Z ⟨by omega,λl e=>⟨(D l e).waiters,by have:=(D l e).values;omega⟩⟩ S r (by rw [N] at h;exact of_decide_eq_true h) λW o4=> ?_);have G:=put _ _ _ o4;have L:({s.proc q with aj:=(s.proc q).aj.set (az K.c p) (im p v l),ah:=(s.proc q).ah}:ak)=bz (s.proc q) (az K.c p) (im p v):=(yp r).symm;rw [L] at G;obtain ⟨h4,z4,a4,l4,V,o6,a8⟩:=G.dC hp;refine aP (o6.st (xj z4 2) (by show 3+1<=15;omega) rfl λX o7=> ?_);exact d X (a8 _ _ _ (V.state 2) rfl rfl o7)
  ·rw [if_neg (by decide)];rw [if_neg (by rw [h];decide)] at d;refine RW (DO Y f λW F=> ?_);rw [fX,AI] at F;refine BB (Dq m F hp ?_ d);rw [Av (by rw [MH,DP])];exact j.told hp
end
section
variable {h0 h1 k:Hp} {K:MK} {pm:Addr} {s:MS} {b:Nat->Nat->Int}
theorem Has.agree {a:Addr} {z c:aO} (f:Has h0 (dk bm a c) k) (g:Has h1 (dk bm a z) k):c.post=z.post:=by obtain ⟨h,d,rfl⟩:=f.ld (shf:=ag) (off:=14) c.post rfl (K:=λy=>y=c.post) rfl;obtain ⟨i,e,rfl⟩:=g.ld (shf:=ag) (off:=14) z.post rfl (K:=λy=>y=z.post) rfl;have d:=d 0 (.pointer c.post) rfl;have e:=e 0 (.pointer z.post) rfl;grind
theorem fM.same {p:Nat} {z d:aO} {a c:Addr} {y h:ak} (f:fM K p z a y) (g:fM K p d c h) (e:d.post=z.post):c=a:=by rw [f.2.2.2.2.2.2,g.2.2.2.2.2.2] at e;grind
theorem SC {c:aE} {p:Nat} {to v:Int}:jx c (iO c) s p to v=if to<0\/(nQ c:Int)<=to then bV c s p 1
 else if iO c (az c p) (az c to.toNat)=false then bV c (s.dh (az c p) {s.part (az c p) with forbidden:=more (s.part (az c p)).forbidden}) p 0
 else if az c p=az c to.toNat then Eh c s p to.toNat v
 else if kB (s.proc to.toNat)=false\/ff c (s.proc to.toNat) (az c p) then bV c (s.aL to.toNat (bz (s.proc to.toNat) (az c p) jM)) p 0
 else bV c (s.aL to.toNat (dR (bz (s.proc to.toNat) (az c p) (sN v)))) p 0:=rfl
theorem Qr {p:Nat} {to v:Int} {Q:Hp->Prop} (m:dF h0 K) (I:cf K.c) (o:Has h0 (aF K pm s b) k) (t:jZ K.c s) (hp:p<nQ K.c) (hn:∀q,q<nQ K.c->∀l∈(s.proc q).aj,∀z∈l.waiters,z.proc≠(p:Int))
  (a:∀r,Has h0 (aF K pm (jx K.c (iO K.c) s p to v) b) r->Q r):S8 prog (some pm) (some (K.p p)) to v Q k:=by
 unfold S8;rw [SC] at a;have b1:=m.oZ;have e0:(rX K.x s.tick).procs=K.x.procs:=rfl;refine aP (o.eV.vR (shf:=au) K.x.procs rfl ?_);refine aJ ?_;rw [b1];by_cases h:to<0\/(nQ K.c:Int)<=to
 ·rw [if_pos (by simp;omega)];rw [if_pos h] at a;exact BB (Dq m o hp (t.told hp) a)
 rw [if_neg (by simp;omega)];rw [if_neg h] at a;have g:to.toNat<nQ K.c:=by omega
 have Y:((to.toNat:Nat):Int)=to:=by omega
 obtain ⟨M,N⟩:=m.ptr o g;rw [Y] at M N;obtain ⟨h1,j,ap,l1,b2,op,c0⟩:=o.dC hp;obtain ⟨h2,f,S,l2,B,A,_⟩:=o.dC g;have u:az K.c p<nP K.c:=I.fi;have i:j.part=(az K.c p:Int):=b2.2.1;have eq:f.part=(az K.c to.toNat:Int):=B.2.1;have W:f.post=some S:=B.2.2.2.2.2.2;refine aP (o.eV.ld (shf:=au) K.x.procs rfl ⟨M,some (K.p to.toNat),N,?_⟩);refine aP (o.eV.ld (shf:=ag) K.x.table rfl ?_);refine aP (op.ld (shf:=af .i64) j.part rfl ?_);refine aP (A.ld (shf:=af .i64) f.part rfl ?_);rw [m.t1,i,eq];refine zxn (Yc (m.t2.mono o.le) m.A8 ?_);have U:fl K.c.labels (az K.c p:Int) (az K.c to.toNat:Int)=iO K.c (az K.c p) (az K.c to.toNat):=rfl;rw [U];by_cases G:iO K.c (az K.c p) (az K.c to.toNat)=false
 ·rw [if_pos (by rw [G];rfl)];rw [if_pos G] at a;obtain ⟨O,E⟩:=m.uM o u;obtain ⟨h3,x,lp,wp,l3,w,R,b6⟩:=o.ug u;refine aP (o.eV.ld (shf:=au) K.x.parts rfl ?_);refine aP (op.ld (shf:=af .i64) j.part rfl ?_);rw [i];refine ⟨O,_,E,?_⟩;refine aP (o.eV.ld (shf:=au) K.x.parts rfl ?_);refine aP (op.ld (shf:=af .i64) j.part rfl ?_);rw [i];refine ⟨O,_,E,?_⟩;refine aP (R.ld (shf:=af .i64) x.forbidden rfl ?_);have ex:x.forbidden=(s.part (az K.c p)).forbidden:=w.2.2.2.1;rw [ex];refine zut (MG (t.part _ u).me ?_);refine ⟨⟨o.eV.fb (n:=1) rfl,by rw [<-i];exact op.fb (n:=1) rfl,E,trivial⟩,?_⟩;refine aP (R.st (⟨x.procs,x.ah,x.log,x.lost,more (s.part (az K.c p)).forbidden,x.ae,x.dY⟩:bg) (by show 4+1<=7;omega) rfl λk1 D=> ?_);have L:=b6 (⟨x.procs,x.ah,x.log,x.lost,more (s.part (az K.c p)).forbidden,x.ae,x.dY⟩:bg) {s.part (az K.c p) with forbidden:=more (s.part (az K.c p)).forbidden} _ ⟨w.1,w.2.1,w.2.2.1,rfl,w.2.2.2.2⟩ rfl rfl rfl rfl D;exact BB (Dq m L hp (t.told hp) a)
 rw [if_neg (by grind)];rw [if_neg G] at a;refine aP (op.ld (shf:=af .i64) j.part rfl ?_);refine aP (A.ld (shf:=af .i64) f.part rfl ?_);rw [i,eq];by_cases H:az K.c p=az K.c to.toNat
 ·rw [if_pos (by rw [H];simp)];rw [if_pos H] at a;exact zsc (Zw m I o t hp g (hn _ g) a)
 rw [if_neg (by simp;omega)];rw [if_neg H] at a;have sq:=t.proc _ g;refine cL.intro (λr=>∃y:ak,y.pc=(s.proc to.toNat).pc/\Has h0 (aF K pm (s.aL to.toNat y) b) r/\∀d,Has h0 (aF K pm (bV K.c (s.aL to.toNat y) p 0) b) d->Q d) ?_ ?_
 ·have drop:∀(P:kB (s.proc to.toNat)=false\/ff K.c (s.proc to.toNat) (az K.c p)=true),
   ai none (some (K.p to.toNat)) λb4=>
   aR none ag k (Addr.add b4 14) λb7=>
   ai none (some (K.p p)) λb5=>
   aR none (af .i64) k (Addr.add b5 1) λb8=>
   bC prog Jj [(.pointer b7),(.int .i64 b8)] (λF=>∃y:ak,y.pc=(s.proc to.toNat).pc/\Has h0 (aF K pm (s.aL to.toNat y) b) F/\∀d,Has h0 (aF K pm (bV K.c (s.aL to.toNat y) p 0) b) d->Q d) k:=by
   intro P;rw [if_pos P] at a;obtain ⟨z4,a4,b9,b3,T⟩:=MI (C:=True) (Q:=λF=>∃y:ak,y.pc=(s.proc to.toNat).pc/\Has h0 (aF K pm (s.aL to.toNat y) b) F/\∀d,Has h0 (aF K pm (bV K.c (s.aL to.toNat y) p 0) b) d->Q d) o g sq (Nat.le_of_lt u) λr J=>⟨_,DP,J,a⟩;refine aP (b3 (aP (op.ld (shf:=af .i64) j.part rfl ?_)));rw [i];exact zsa T
  refine aP (A.ld (shf:=af .i64) f.state rfl ?_);refine WG (Db ?_);have X:f.state=(s.proc to.toNat).state:=B.2.2.2.1;have V:(decide (f.state≠5)&&decide (f.state≠6))=kB (s.proc to.toNat):=by rw [X];rfl
  rw [V];refine aP (A.vR (shf:=ag) f.post rfl ?_);refine aP (op.vR (shf:=af .i64) j.part rfl ?_);rw [i,W];by_cases hl:kB (s.proc to.toNat)=false
  ·rw [hl];refine ⟨λe=>(by cases e),λ_=>⟨0,aJ ?_⟩⟩;grind
  ·have b0:kB (s.proc to.toNat)=true:=by grind
   rw [b0];refine ⟨λ_=> ?_,λe=>(by cases e)⟩;refine WE (Eg o g sq I.lane.2 (Nat.le_of_lt u) B A (λa8=>aJ ?_) λr a8 J=>aJ ?_)
   ·grind
   ·rw [if_neg (by decide)];rw [if_neg (by grind)] at a;refine RW (DO J g λk1 D=> ?_);rw [fX,AI] at D;exact ⟨_,by rw [MH,DP],D,a⟩
 ·rintro d ⟨y,Z,L,a9⟩;refine BB (Dq m L hp ?_ a9);rw [Av Z];exact t.told hp
theorem Lm {p:Int} {Q:Int->Hp->Prop} (m:dF h0 K) (o:Has h0 (aF K pm s b) k) (a:Q (q9 K.c s p) k):S5 prog (some pm) p Q k:=by
 unfold S5;unfold q9 at a;have l:=m.oZ;refine aP (o.eV.vR (shf:=au) K.x.procs rfl ?_);refine aJ ?_;rw [l];by_cases h:p<0\/(nQ K.c:Int)<=p
 ·rw [if_pos (by simp;omega)];rw [if_pos h] at a;exact a
 rw [if_neg (by simp;omega)];rw [if_neg h] at a;have g:p.toNat<nQ K.c:=by omega
 have j:((p.toNat:Nat):Int)=p:=by omega
 obtain ⟨e,f⟩:=m.ptr o g;rw [j] at e f;obtain ⟨u,d,r,v,n,q,_⟩:=o.dC g;refine aP (o.eV.ld (shf:=au) K.x.procs rfl ⟨e,some (K.p p.toNat),f,?_⟩);refine aP (q.ld (shf:=af .i64) d.state rfl ?_);refine WG (Db ?_);have i:d.state=(s.proc p.toNat).state:=n.2.2.2.1;have t:(decide (d.state≠5)&&decide (d.state≠6))=kB (s.proc p.toNat):=by rw [i];rfl
 grind
theorem Zx {p v:Int} {Q:Int->Hp->Prop} (m:dF h0 K) (A:cf K.c) (o:Has h0 (aF K pm s b) k) (D:jZ K.c s) (a:∀e,Has h0 (aF K pm (zip K.c s p v).1 b) e->Q (zip K.c s p v).2 e):Nv prog (some pm) p v Q k:=by
 unfold Nv;refine zka (Lm m o ?_);unfold zip at a;by_cases h:q9 K.c s p≠0
 ·grind
 rw [if_neg (by simpa using h)];rw [if_neg h] at a;have G:0<=p/\p<(nQ K.c:Int):=by refine Classical.byContradiction λF=>h ?_;unfold q9;omega
 have d:p.toNat<nQ K.c:=by omega
 have w:((p.toNat:Nat):Int)=p:=by omega
 obtain ⟨g,i⟩:=m.ptr o d;rw [w] at g i;obtain ⟨E,q,r,I,j,n,_⟩:=o.dC d;have u:q.post=some r:=j.2.2.2.2.2.2;have sq:=D.proc _ d;refine aP (o.eV.ld (shf:=au) K.x.procs rfl ⟨g,some (K.p p.toNat),i,?_⟩);refine aP (o.eV.ld (shf:=au) K.x.parts rfl ?_);refine aP (n.ld (shf:=ag) q.post rfl ?_);rw [u,m.rQ];refine WE (Eg o d sq A.lane.2 (Nat.le_refl _) j n (λf=> ?_) λe f B=> ?_)
 ·rw [if_pos (by decide)];rw [if_pos f] at a;obtain ⟨J,a4,H,z,t⟩:=MI (C:=True) (Q:=λe=>Q 19 e) o d sq (Nat.le_refl _) a;exact aP (z (zsa t))
 ·rw [if_neg (by decide)];rw [if_neg (by rw [f];decide)] at a;refine RW (DO B d λy l=> ?_);rw [fX,AI] at l;exact a y l
end
def yM :Prop:=∀ {c k:Hp} {p:Addr} {room ah:Int} {a:List bq} {Q:Int->Int->bJ->Bool->Int->Hp->Prop},Has c (dX p room a ah) k->(a.length<=1000/\∀l∈a,kj l.taken/\l.values.length<=64)->(0<=ah/\ah<a.length)->
 (pT ah a=none->∀b,Has c (dX p room a ah) b->Q 0 0 ⟨0,0⟩ false 21 b)->
 (∀(i:Nat) l v d,pT ah a=some i->a[i]? =some l->l.values=v::d->∀b,Has c (dX p room (a.set i (dQ l)) (((i+1:Nat):Int)%(a.length:Int))) b->
  Q v (i:Int) (match l.waiters with | []=>⟨0,0⟩ | w::_=>pf w) (!l.waiters.isEmpty) 0 b)->
 zZ prog Xg [.pointer (some p)] (af .i64) (af .i64) aH bn (af .i64) Q k
section
variable {h0 h1 k:Hp} {K:MK} {pm:Addr} {s:MS} {a:Nat->Nat->Int}
theorem SF {l:List cX} {k:Core} {v f:Int}:(gP l k v f).pc=k.pc+1:=by unfold gP;cases ie l k.pc<;>rfl
theorem wL {p:Nat} {c:bc} {Q:Hp->Prop} (o:Has h0 (aF K pm s a) k) (hp:p<nQ K.c) (d:∀b,Has h0 (aF K pm (s.aL p ((s.proc p).put (gG c))) a) b->Q b):
  cJ k ((K.p p).add 4) [(.int .i64 c.PC),(.int .i64 c.cw),(.int .i64 c.cx),(.int .i64 c.cC),(.int .i64 c.cD),(.int .i64 c.cE),(.int .i64 c.cF),(.int .i64 c.cG),(.int .i64 c.cH)] Q:=by
 obtain ⟨h1,z,q,i,e,f,put⟩:=o.dC hp;exact f.st (vE z c) (by show 4+9<=15;omega) rfl λh g=>d _ (put _ _ _ (e.core c) rfl rfl g)
theorem Ln {p:Nat} {G:Bool} {Q:Hp->Prop} (tk:yM) (m:dF h0 K) (mc:cf K.c) (o:Has h0 (aF K pm s a) k) (t:jZ K.c s) (hp:p<nQ K.c)
  (b:∀M,Has h0 (aF K pm (jb K.c s p G) a) M->Q M):Ta prog (some pm) (some (K.p p)) G Q k:=by
 unfold Ta;obtain ⟨h1,z,q,l1,hz,oz,o1,put⟩:=o.oY hp;have sp:=t.proc p hp;have eq:z.post=some q:=hz.2.2.2.2.2.2;refine aP (oz.ld (shf:=ag) z.post rfl ?_);rw [eq];have a9:=mc.parts;have a8:=sp.len;unfold jb at b;dsimp only at b;refine tk o1 ⟨by omega,λl r=>⟨(sp.dS l r).taken,(sp.dS l r).values⟩⟩ sp.cur (λX k1 E=> ?_) λi l v vs Y r hv k1 E=> ?_
 ·rw [if_neg (by decide)];rw [X] at b;dsimp only at b;have h:=put _ _ _ E;have n:s.aL p {s.proc p with aj:=(s.proc p).aj,ah:=(s.proc p).ah}=s:=Ll;rw [n] at h;obtain ⟨W,d,q2,l2,f,j,F⟩:=h.dC hp;have T:d.bL=(s.proc p).bL:=f.2.2.2.2.2.1;refine aP (j.ld (shf:=bn) d.bL rfl ?_);rw [T];by_cases B:(s.proc p).bL=true
  ·rw [if_pos B];rw [if_pos B] at b;refine aP (j.st (uZ d false) (by show 13+1<=15;omega) rfl λN A=> ?_);have P:=F _ _ _ (f.bL false) rfl rfl A;have e:gG (eu d)=(s.proc p).core:=f.2.2.2.2.1;have u:(eu d).PC=(s.proc p).pc:=congrArg Core.pc e;refine aP (A.ld (shf:=fk) (eu d) rfl ?_);refine aP (A.ld (shf:=au) d.code rfl ?_);refine YU (DM (m.rH P.le hp f) (by rw [u];exact t.told hp) λH O y n=> ?_);refine aP (wL (P.grow y) hp λC g=>b C ?_);rw [fX,AI,n,e,(m.code p hp).2] at g;exact g
  ·rw [if_neg B];rw [if_neg B] at b;cases G with
   | true=>rw [if_pos rfl];rw [if_pos rfl] at b;have e:gG (eu d)=(s.proc p).core:=f.2.2.2.2.1;have u:(eu d).PC=(s.proc p).pc:=congrArg Core.pc e;refine aP (j.ld (shf:=fk) (eu d) rfl ?_);refine aP (j.ld (shf:=au) d.code rfl ?_);refine YU (DM (m.rH h.le hp f) (by rw [u];exact t.told hp) λH O y n=> ?_);refine aP (wL (h.grow y) hp λC g=>b C ?_);rw [n,e,(m.code p hp).2] at g;exact g
   | false=>rw [if_neg (by decide)];rw [if_neg (by decide)] at b;exact aP (j.st (xj d 1) (by show 3+1<=15;omega) rfl λN A=>b N (F _ _ _ (f.state 1) rfl rfl A))
 ·rw [if_pos (by decide)];rw [Y] at b;dsimp only at b;have h:=put _ _ _ E;have R:(s.proc p).aj.getD i ⟨[],[],0,0⟩=l:=nT r;rw [R] at b;have S:({s.proc p with aj:=(s.proc p).aj.set i (dQ l),ah:=((i+1:Nat):Int)%((s.proc p).aj.length:Int)}:ak)={bz (s.proc p) i dQ with ah:=((i+1:Nat):Int)%((s.proc p).aj.length:Int)}:=by rw [yp r]
  rw [S] at h;obtain ⟨W,d,q2,l2,f,j,F⟩:=h.dC hp;rw [fX] at f;have e:gG (eu d)=(s.proc p).core:=f.2.2.2.2.1;have u:(eu d).PC=(s.proc p).pc:=congrArg Core.pc e;refine aP (j.ld (shf:=fk) (eu d) rfl ?_);refine aP (j.ld (shf:=au) d.code rfl ?_);refine YU (DM (m.rH h.le hp f) (by rw [u];exact t.told hp) λH O y n=> ?_);refine aP (wL (h.grow y) hp λC g=> ?_);rw [fX,AI,n,e,(m.code p hp).2] at g;have Z:l.values.headD 0=v:=by rw [hv];rfl
  rw [Z] at b;cases hw:l.waiters with
  | nil=>grind
  | cons w ws=>
   rw [if_pos (by simp)];rw [hw] at b;dsimp only at b;have b0:=(sp.dS l (List.mem_of_getElem? r)).lG w (by grind);have D:w.proc.toNat<nQ K.c:=by omega
   have V:((w.proc.toNat:Nat):Int)=w.proc:=by omega
   obtain ⟨I,J⟩:=m.ptr g D;rw [V] at I J;have U:(pf w).dp=w.proc:=rfl;rw [U];refine aP (g.eV.ld (shf:=au) K.x.procs rfl ⟨I,some (K.p w.proc.toNat),J,?_⟩);refine BB (Dq m g D ?_ b);by_cases L:w.proc.toNat=p
   ·rw [L,fX];show 0<=(gP _ _ _ _).pc/\(gP _ _ _ _).pc<_;rw [SF];have:=(t.proc p hp).pc;show 0<=(s.proc p).pc+1/\(s.proc p).pc+1<_;omega
   ·rw [jc L];exact t.told D
end
section
variable {h0 h1 k:Hp} {K:MK} {pm:Addr} {s:MS} {g:Nat->Nat->Int}
theorem Has.aside {A:dI} {f:Type} {sz:Nat} {enc:f->List Value} {l:Sl} {e:List f} (o:Has h0 (A.star (dU sz enc l e)) k) (i:∀x,(enc x).length=sz):∃h1,h0<=h1/\Has h1 A k/\Rw h1 sz enc l e:=by obtain ⟨h1,a,b,⟨h,c,d⟩,_⟩:=o.fst;exact ⟨h1,a,b,Has.kM (h0:=h0) ⟨a,h,c,d⟩ i⟩
theorem Df {i:Nat}:s.dh i (s.part i)=s:=by unfold MS.dh;rw [zd]
theorem Has.rO {i:Nat} (o:Has h0 (aF K pm s g) k) (m:i<nP K.c):∃h1 x lp d,h0<=h1/\nn K i x lp d (s.part i)/\Has h0 (dk xu (K.q i) x) k/\Has h1 (nB lp (s.part i).aB (s.part i).av) k/\
  ∀os b a,Has h1 (nB lp os b) a->Has h0 (aF K pm (s.dh i {s.part i with aB:=os,av:=b}) g) a:=by
 obtain ⟨h1,x,lp,d,f,e,h,put⟩:=o.rP m;obtain ⟨y,n,t,v⟩:=h.f3;obtain ⟨j,p,u,_,w⟩:=t.fst;refine ⟨j,x,lp,d,Hp.le_trans f (Hp.le_trans n p),e,(Has.left h).mono f,u,λos b a r=> ?_⟩;have l:=put x {s.part i with aB:=os,av:=b} (g i) a e (v _ _ (w _ _ r))
 rwa [zd] at l
theorem Has.jw {i:Nat} (o:Has h0 (aF K pm s g) k) (m:i<nP K.c):∃h1 x lp a,h0<=h1/\nn K i x lp a (s.part i)/\Has h0 (dk xu (K.q i) x) k/\Has h1 (tH a (g i) (2*nQ K.c)) k/\
  ∀d b,Has h1 (tH a d (2*nQ K.c)) b->Has h0 (aF K pm s (cp g i d)) b:=by
 obtain ⟨h1,x,lp,a,f,e,h,put⟩:=o.rP m;obtain ⟨y,n,t,v⟩:=h.f3;obtain ⟨j,p,u,_,w⟩:=t.snd;refine ⟨j,x,lp,a,Hp.le_trans f (Hp.le_trans n p),e,(Has.left h).mono f,u,λd b r=> ?_⟩;have l:=put x (s.part i) d b e (v _ _ (w _ _ r))
 rwa [Df] at l
theorem Has.FT {i:Nat} (o:Has h0 (aF K pm s g) k) (f:i<nP K.c):∃h1 x lp a,h0<=h1/\nn K i x lp a (s.part i)/\Has h0 (dk xu (K.q i) x) k/\Has h1 (dU 3 Fy x.log (s.part i).log) k/\Has h0 (qh K i x lp a (s.part i) (g i)) k/\
  True:=by
 obtain ⟨h1,x,lp,a,b,h,d,put⟩:=o.rP f;obtain ⟨e,j,l,m⟩:=d.f2;exact ⟨e,x,lp,a,Hp.le_trans b j,h,(Has.left d).mono b,l,d.mono b,trivial⟩
theorem Dg :∀(l:List Int) (s:MS) (q:Nat),(s.proc q).pc<=((l.foldl gW s).proc q).pc/\((l.foldl gW s).proc q).pc<=(s.proc q).pc+l.length
 | [],s,q=>⟨Int.le_refl _,by simp⟩
 | a::l,s,q=>by
  have h:=Dg l (gW s a) q;have b:(s.proc q).pc<=((gW s a).proc q).pc/\((gW s a).proc q).pc<=(s.proc q).pc+1:=by
   unfold gW;split
   ·unfold qv;by_cases e:q=a.toNat
    ·subst e;rw [fX];show _<=(s.proc _).pc+1/\(s.proc _).pc+1<=_;omega
    ·rw [jc e];omega
   ·omega
  grind
theorem SH {l:List cX} {k:Core} {v:Int}:(lf l k v).pc=k.pc+1:=by unfold lf;cases ie l k.pc<;>rfl
theorem MJ {c:aE} {v:Int}:∀(l:List mU) (s:MS) (q:Nat),(s.proc q).pc<=((l.foldl (λs w=>bV c s w.proc.toNat v) s).proc q).pc/\((l.foldl (λs w=>bV c s w.proc.toNat v) s).proc q).pc<=(s.proc q).pc+l.length
 | [],s,q=>⟨Int.le_refl _,by simp⟩
 | a::l,s,q=>by
  have h:=MJ (c:=c) (v:=v) l (bV c s a.proc.toNat v) q;have b:(s.proc q).pc<=((bV c s a.proc.toNat v).proc q).pc/\((bV c s a.proc.toNat v).proc q).pc<=(s.proc q).pc+1:=by
   unfold bV;by_cases e:q=a.proc.toNat
   ·subst e;rw [fX];show _<=(lf _ _ _).pc/\(lf _ _ _).pc<=_;rw [SH];show _<=(s.proc _).pc+1/\(s.proc _).pc+1<=_;omega
   ·rw [jc e];omega
  grind
theorem ML {p:Int}:∀ {os:List Int} {qs:List (List Int)},(∀a∈(jk p os qs).2.2,a= -1\/∃q∈qs,a∈q)/\(jk p os qs).2.2.length<=qs.length
 | [],qs=>by cases qs<;>simp [jk]
 | o::os,[]=>by simp [jk]
 | o::os,q::qs=>by
  obtain ⟨h1,h⟩:=ML (p:=p) (os:=os) (qs:=qs);have d:∀a∈(jk p os qs).2.2,a= -1\/∃c∈q::qs,a∈c:=λa ha=>(h1 a ha).imp id λ⟨c,e,f⟩=>⟨c,List.mem_cons_of_mem _ e,f⟩;unfold jk;dsimp only;split
  ·cases q with
   | nil=>
    refine ⟨λa ha=> ?_,by simp;omega⟩;rcases List.mem_cons.1 ha with rfl | ha
    ·exact .inl rfl
    ·exact d a ha
   | cons b r=>
    refine ⟨λa ha=> ?_,by simp;omega⟩;rcases List.mem_cons.1 ha with rfl | ha
    ·exact .inr ⟨a::r,List.mem_cons_self ..,List.mem_cons_self ..⟩
    ·exact d a ha
  grind
theorem KF {c:Type} {f:c->Bool}:∀ {l:List c} {a:c},a∈iL f l->a∈l
 | [],_,h=>by cases h
 | b::l,a,h=>by
  unfold iL at h;split at h
  ·grind
  ·rcases List.mem_cons.1 h with rfl | h
   ·simp
   ·exact List.mem_cons_of_mem _ (KF h)
theorem Yf {p:Int} {l:List Nat} {q:Nat} (h:q∉l):(nj p s l).aL q (nz p ((nj p s l).proc q))=nj p s (l++ [q]):=by unfold nj MS.aL;congr 1;funext r;unfold cp;grind
end
structure cn (c:aE) (V:Nat->Bool) (s s':MS):Prop where
 tick:s.tick=s'.tick
 part:∀i,V i=true->s.part i=s'.part i
 proc:∀p,V (az c p)=true->s.proc p=s'.proc p
structure Twin (V:Nat->Bool) (fl:Nat->Nat->Bool) (A B:aE):Prop where
 nP:nP B=nP A
 nQ:nQ B=nQ A
 xo:az B=az A
 code:∀p,V (az A p)=true->gF A p=gF B p
 table:B.table=A.table
 fuel:B.fuel=A.fuel
 lane:B.lane=A.lane
 ae:B.ae=A.ae
 log:B.log=A.log
 up:∀i j,fl i j=true->V j=true->V i=true
section
variable {A B:aE} {V:Nat->Bool} {fl:Nat->Nat->Bool} {s s' s1:MS} {p:Nat} {D:Int->Int->Int->Int}
theorem cn.refl :cn A V s s:=⟨rfl,λ_ _=>rfl,λ_ _=>rfl⟩
theorem cn.symm (o:cn A V s s'):cn A V s' s:=⟨o.tick.symm,λi h=>(o.part i h).symm,λp h=>(o.proc p h).symm⟩
theorem cn.trans (o:cn A V s s') (a:cn A V s' s1):cn A V s s1:=⟨o.tick.trans a.tick,λi h=>(o.part i h).trans (a.part i h),λp h=>(o.proc p h).trans (a.proc p h)⟩
theorem cn.aL (o:cn A V s s') {x x':ak} (h:V (az A p)=true->x=x'):cn A V (s.aL p x) (s'.aL p x'):=
 ⟨o.tick,o.part,λq a=>by
  show cp s.proc p x q=cp s'.proc p x' q;by_cases e:q=p
  ·subst e;rw [ki,ki];exact h a
  ·rw [kA e,kA e];exact o.proc q a⟩
theorem cn.dh (o:cn A V s s') {i:Nat} {x x':dv} (h:V i=true->x=x'):cn A V (s.dh i x) (s'.dh i x'):=
 ⟨o.tick,λj a=>by
  show cp s.part i x j=cp s'.part i x' j;by_cases e:j=i
  ·subst e;rw [ki,ki];exact h a
  ·rw [kA e,kA e];exact o.part j a,o.proc⟩
theorem cn.iW (o:cn A V s s') (h:V (az A p)=false) {x:ak}:cn A V s (s'.aL p x):=
 ⟨o.tick,o.part,λq a=>by
  show s.proc q=cp s'.proc p x q;by_cases e:q=p
  ·subst e;rw [h] at a;cases a
  ·rw [kA e];exact o.proc q a⟩
theorem cn.rG (o:cn A V s s') {i:Nat} (h:V i=false) {x:dv}:cn A V s (s'.dh i x):=
 ⟨o.tick,λj a=>by
  show s.part j=cp s'.part i x j;by_cases e:j=i
  ·subst e;rw [h] at a;cases a
  ·rw [kA e];exact o.part j a,o.proc⟩
theorem cn.told (o:cn A V s s') (a:Twin V fl A B) {v:Int}:cn A V (bV A s p v) (bV B s' p v):=
 o.aL λh=>by rw [o.proc p h,a.code p h]
theorem cn.given (o:cn A V s s') {a:Int}:cn A V (gW s a) (gW s' a):=by
 unfold gW;split
 ·exact o.aL λh=>by rw [o.proc _ h]
 ·exact o
theorem cn.mZ :∀ {l:List Int} {s s':MS},cn A V s s'->cn A V (l.foldl gW s) (l.foldl gW s')
 | [],_,_,o=>o
 | a::l,s,s',o=>cn.mZ (l:=l) (s:=gW s a) (s':=gW s' a) (cn.given o)
theorem cn.rY (a:Twin V fl A B) {v:Int}:∀ {l:List mU} {s s':MS},cn A V s s'->cn A V (l.foldl (λs w=>bV A s w.proc.toNat v) s) (l.foldl (λs w=>bV B s w.proc.toNat v) s')
 | [],_,_,o=>o
 | w::l,s,s',o=>cn.rY (l:=l) (s:=bV A s w.proc.toNat v) (s':=bV B s' w.proc.toNat v) a (cn.told o a)
theorem Twin.full (a:Twin V fl A B):ff B=ff A:=by funext x i;unfold ff;rw [a.lane]
theorem cn.send (o:cn A V s s') (a:Twin V fl A B) (hp:V (az A p)=true) {to v:Int}:cn A V (jx A fl s p to v) (jx B fl s' p to v):=by
 unfold jx;rw [a.nQ,a.xo,a.full];by_cases d:to<0\/(nQ A:Int)<=to
 ·rw [if_pos d,if_pos d];exact o.told a
 rw [if_neg d,if_neg d];by_cases f:fl (az A p) (az A to.toNat)=false
 ·rw [if_pos f,if_pos f];exact (o.dh λh=>by rw [o.part _ h]).told a
 rw [if_neg f,if_neg f];by_cases b:az A p=az A to.toNat
 ·have j:V (az A to.toNat)=true:=by rw [<-b];exact hp
  have e:=o.proc _ j;rw [if_pos b,if_pos b,e];split
  ·exact o.told a
  ·split
   ·have i:=o.aL (p:=to.toNat) (x:=bz (s'.proc to.toNat) (az A p) (im p v)) (x':=bz (s'.proc to.toNat) (az A p) (im p v)) λ_=>rfl;exact i.aL λh=>by rw [i.proc p h]
   ·exact (o.aL λ_=>rfl).told a
 ·rw [if_neg b,if_neg b];have key:∀(s:MS),(if kB (s.proc to.toNat)=false\/ff A (s.proc to.toNat) (az A p)=true then bz (s.proc to.toNat) (az A p) jM else dR (bz (s.proc to.toNat) (az A p) (sN v)))=(if kB (s.proc to.toNat)=false\/ff A (s.proc to.toNat) (az A p)=true then bz (s.proc to.toNat) (az A p) jM else dR (bz (s.proc to.toNat) (az A p) (sN v))):=λ_=>rfl;have g:∀(c:aE) (s:MS),(if kB (s.proc to.toNat)=false\/ff A (s.proc to.toNat) (az A p)=true then bV c (s.aL to.toNat (bz (s.proc to.toNat) (az A p) jM)) p 0 else bV c (s.aL to.toNat (dR (bz (s.proc to.toNat) (az A p) (sN v)))) p 0)=
    bV c (s.aL to.toNat (if kB (s.proc to.toNat)=false\/ff A (s.proc to.toNat) (az A p)=true then bz (s.proc to.toNat) (az A p) jM else dR (bz (s.proc to.toNat) (az A p) (sN v)))) p 0:=λc s=>by
   split<;>rfl
  rw [g,g];exact (o.aL λh=>by rw [o.proc _ h]).told a
theorem cn.take (o:cn A V s s') (a:Twin V fl A B) (hp:V (az A p)=true) {b:Bool}:cn A V (jb A s p b) (jb B s' p b):=by
 unfold jb;rw [o.proc p hp,a.code p hp];dsimp only;split
 ·split
  ·exact o.aL λ_=>rfl
  ·exact (o.aL λ_=>rfl).told a
 ·split
  ·exact o.aL λ_=>rfl
  ·split
   ·exact o.aL λ_=>rfl
   ·exact o.aL λ_=>rfl
theorem cn.out (o:cn A V s s') (a:Twin V fl A B) (hp:V (az A p)=true) {v:Int}:cn A V (qS A s p v) (qS B s' p v):=by unfold qS;rw [a.xo,a.log,o.part _ hp,o.tick];exact o.dh λ_=>rfl
theorem cn.lock (o:cn A V s s') (b:Twin V fl A B) (hp:V (az A p)=true) {n:Int}:cn A V (iX A s p n) (iX B s' p n):=by
 unfold iX;rw [b.xo,o.part _ hp,o.proc p hp];dsimp only;split
 ·have a:=o.dh (i:=az A p) (x:={s'.part (az A p) with aB:=(s'.part (az A p)).aB.set n.toNat p}) λ_=>rfl;exact a.aL λh=>by rw [a.proc p h]
 ·exact (o.dh λ_=>rfl).aL λ_=>rfl
theorem cn.unlock (o:cn A V s s') (a:Twin V fl A B) (hp:V (az A p)=true) {n:Int}:cn A V (uv A s p n) (uv B s' p n):=by
 unfold uv;rw [a.xo,o.part _ hp];dsimp only;split
 ·split
  ·exact o.dh λ_=>rfl
  ·exact (o.dh λ_=>rfl).given
 ·exact o
theorem cn.ends (o:cn A V s s') (f:Twin V fl A B) (hp:V (az A p)=true) {st:Int}:cn A V (lZ A s p st) (lZ B s' p st):=by
 unfold lZ;rw [f.xo,f.nQ];dsimp only;have a:cn A V (s.aL p {s.proc p with state:=st,bL:=false}) (s'.aL p {s'.proc p with state:=st,bL:=false}):=o.aL λh=>by rw [o.proc p h]
 generalize s.aL p {s.proc p with state:=st,bL:=false}=s1 at a;generalize s'.aL p {s'.proc p with state:=st,bL:=false}=t1 at a;have k:cn A V ⟨s1.tick,s1.part,λq=>if q<nQ A/\az A q=az A p then nz p (s1.proc q) else s1.proc q⟩ ⟨t1.tick,t1.part,λq=>if q<nQ A/\az A q=az A p then nz p (t1.proc q) else t1.proc q⟩:=
  ⟨a.tick,a.part,λq j=>by dsimp only;rw [a.proc q j]⟩
 have g:=a.part _ hp;rw [g];have b:=(k.dh (i:=az A p) (x:=(pZ (↑p) (t1.part (az A p))).1) λ_=>rfl).mZ (l:=(pZ (↑p) (t1.part (az A p))).2);generalize List.foldl gW (MS.dh ⟨s1.tick,s1.part,λq=>if q<nQ A/\az A q=az A p then nz p (s1.proc q) else s1.proc q⟩ (az A p) (pZ (↑p) (t1.part (az A p))).1) (pZ (↑p) (t1.part (az A p))).2=d at b;generalize List.foldl gW (MS.dh ⟨t1.tick,t1.part,λq=>if q<nQ A/\az A q=az A p then nz p (t1.proc q) else t1.proc q⟩ (az A p) (pZ (↑p) (t1.part (az A p))).1) (pZ (↑p) (t1.part (az A p))).2=e at b;have c:cn A V (d.aL p {d.proc p with timer:=0,cv:=0}) (e.aL p {e.proc p with timer:=0,cv:=0}):=b.aL λh=>by rw [b.proc p h]
 generalize d.aL p {d.proc p with timer:=0,cv:=0}=m at c;generalize e.aL p {e.proc p with timer:=0,cv:=0}=n at c;rw [c.proc p hp];exact cn.rY f (c.aL λ_=>rfl)
theorem cn.OS (o:cn A V s s') (b:Twin V fl A B) (hp:V (az A p)=true):cn A V (tU A D fl s p) (tU B D fl s' p):=by
 unfold tU;rw [o.proc p hp,b.code p hp,o.tick];dsimp only;have a:=o.aL (p:=p) (x:=(s'.proc p).put (gO D (gF B p) (s'.proc p).core s'.tick ↑p).1) λ_=>rfl;generalize (gO D (gF B p) (s'.proc p).core s'.tick ↑p).2=w;generalize s.aL p ((s'.proc p).put (gO D (gF B p) (s'.proc p).core s'.tick ↑p).1)=s1 at a;generalize s'.aL p ((s'.proc p).put (gO D (gF B p) (s'.proc p).core s'.tick ↑p).1)=t1 at a;split
 ·exact a.ends b hp
 split
 ·exact a.send b hp
 split
 ·exact a.take b hp
 split
 ·exact a.take b hp
 split
 ·exact a.aL λh=>by rw [a.proc p h]
 split
 ·exact a.aL λh=>by rw [a.proc p h]
 split
 ·exact a.lock b hp
 split
 ·exact a.unlock b hp
 split
 ·exact a.out b hp
 exact a
structure uC (c:aE) (s:MS) (p:Nat):Prop where
 dS:∀l∈(s.proc p).aj,∀w∈l.waiters,az c w.proc.toNat=az c p
 jf:∀q∈(s.part (az c p)).av,∀z∈q,az c z.toNat=az c p
theorem Good.FR {X Z:Nat->Prop} {T:Int} (g:Good A fl s X Z T) (hp:p<nQ A) (d:az A p<nP A):uC A s p:=by
 refine ⟨λl j w a=> ?_,λq m z n=> ?_⟩
 ·obtain ⟨i,f⟩:=List.mem_iff_getElem?.1 j;obtain ⟨_,b,c⟩:=g.dS p hp i l f;have e:=(b (λe=>by rw [e] at a;cases a)).1;have:=(c w a).2.2.1;rw [this,e]
 ·obtain ⟨k,h⟩:=List.mem_iff_getElem?.1 m;exact ((g.jf _ d k q h).2.1 z n).2.2.1
theorem cn.nu (o:cn A V s s') (h:V (az A p)=false) {c:aE} {v:Int}:cn A V s (bV c s' p v):=o.iW h
theorem cn.A5 (o:cn A V s s') {a:Int} (h:V (az A a.toNat)=false):cn A V s (gW s' a):=by
 unfold gW;split
 ·exact o.iW h
 ·exact o
theorem cn.tY :∀ {l:List Int} {s s':MS},cn A V s s'->(∀a∈l,0<=a->V (az A a.toNat)=false)->cn A V s (l.foldl gW s')
 | [],_,_,o,_=>o
 | a::l,s,s',o,h=>by
  refine cn.tY (l:=l) (s':=gW s' a) ?_ λb hb=>h b (List.mem_cons_of_mem _ hb);unfold gW;split
  ·exact o.iW (h a (List.mem_cons_self ..) (by assumption))
  ·exact o
theorem cn.vO {c:aE} {v:Int}:∀ {l:List mU} {s s':MS},cn A V s s'->(∀w∈l,V (az A w.proc.toNat)=false)->cn A V s (l.foldl (λs w=>bV c s w.proc.toNat v) s')
 | [],_,_,o,_=>o
 | w::l,_,s',o,h=>cn.vO (l:=l) (s':=bV c s' w.proc.toNat v) (o.nu (h w (List.mem_cons_self ..))) λb hb=>h b (List.mem_cons_of_mem _ hb)
theorem OE {p:Int}:∀ {os:List Int} {e:List (List Int)} {a:Int},a∈(jk p os e).2.2->a= -1\/∃q∈e,a∈q
 | [],_,_,h=>by unfold jk at h;cases h
 | _::_,[],_,h=>by unfold jk at h;cases h
 | o::os,q::e,a,h=>by
  unfold jk at h;dsimp only at h;split at h
  ·cases q with
   | nil=>
    rcases List.mem_cons.1 h with h | h
    ·exact .inl h
    ·exact (OE h).imp id λ⟨q,d,c⟩=>⟨q,List.mem_cons_of_mem _ d,c⟩
   | cons b q=>
    rcases List.mem_cons.1 h with h | h
    ·exact .inr ⟨_,List.mem_cons_self ..,by rw [h];exact List.mem_cons_self ..⟩
    ·exact (OE h).imp id λ⟨q,d,c⟩=>⟨q,List.mem_cons_of_mem _ d,c⟩
  ·exact (OE h).imp id λ⟨q,d,c⟩=>⟨q,List.mem_cons_of_mem _ d,c⟩
theorem cn.Ak (w:uC A s p) (hp:V (az A p)=false) {st:Int}:cn A V s (lZ A s p st):=by
 unfold lZ;dsimp only;have i:cn A V s (s.aL p {s.proc p with state:=st,bL:=false}):=cn.refl.iW hp;have j:((s.aL p {s.proc p with state:=st,bL:=false}).proc p).aj=(s.proc p).aj:=by show (cp (α:=ak) _ p _ p).aj=_;rw [ki]
 have k:(s.aL p {s.proc p with state:=st,bL:=false}).part=s.part:=rfl;generalize s.aL p {s.proc p with state:=st,bL:=false}=s1 at i j k;have C:cn A V s ⟨s1.tick,s1.part,λq=>if q<nQ A/\az A q=az A p then nz p (s1.proc q) else s1.proc q⟩:=⟨i.tick,i.part,λq f=>by
  dsimp only;rw [if_neg λh=>by rw [h.2,hp] at f;cases f];exact i.proc q f⟩
 have u:∀l∈((if p<nQ A/\az A p=az A p then nz p (s1.proc p) else s1.proc p):ak).aj,∀z∈l.waiters,V (az A z.proc.toNat)=false:=by
  intro l e z d;have:∃g∈(s.proc p).aj,z∈g.waiters:=by
   split at e
   ·unfold nz at e;obtain ⟨g,b,rfl⟩:=List.mem_map.1 e;rw [j] at b;exact ⟨g,b,KF d⟩
   ·rw [j] at e;exact ⟨l,e,d⟩
  obtain ⟨g,b,n⟩:=this;rw [w.dS g b z n];exact hp
 rw [k];have o:=(C.rG hp (x:=(pZ (↑p) (s.part (az A p))).1)).tY (l:=(pZ (↑p) (s.part (az A p))).2) λa v F=>by
  rcases OE v with h | ⟨q,f,d⟩
  ·omega
  ·obtain ⟨E,y,rfl⟩:=List.mem_map.1 f;rw [w.jf E y a (KF d)];exact hp
 have m:((List.foldl gW (MS.dh ⟨s1.tick,s.part,λq=>if q<nQ A/\az A q=az A p then nz p (s1.proc q) else s1.proc q⟩ (az A p) (pZ (↑p) (s.part (az A p))).1) (pZ (↑p) (s.part (az A p))).2).proc p).aj=((if p<nQ A/\az A p=az A p then nz p (s1.proc p) else s1.proc p):ak).aj:=(BD (q:=p)).1;rw [<-k] at o m ⊢;generalize List.foldl gW (MS.dh ⟨s1.tick,s1.part,λq=>if q<nQ A/\az A q=az A p then nz p (s1.proc q) else s1.proc q⟩ (az A p) (pZ (↑p) (s1.part (az A p))).1) (pZ (↑p) (s1.part (az A p))).2=c at o m;have t:cn A V s (c.aL p {c.proc p with timer:=0,cv:=0}):=o.iW hp;have r:((c.aL p {c.proc p with timer:=0,cv:=0}).proc p).aj=(c.proc p).aj:=by show (cp (α:=ak) _ p _ p).aj=_;rw [ki]
 generalize c.aL p {c.proc p with timer:=0,cv:=0}=G at t r;refine cn.vO (t.iW hp) λz d=> ?_;obtain ⟨l,b,n⟩:=List.mem_flatMap.1 d;rw [r,m] at b;exact u l b z n
theorem cn.FE (up:∀i j,fl i j=true->V j=true->V i=true) (hp:V (az A p)=false) {to v:Int}:cn A V s (jx A fl s p to v):=by
 unfold jx;have o:cn A V s s:=cn.refl;split
 ·exact o.nu hp
 split
 ·exact (o.rG hp).nu hp
 rename_i b;have a:V (az A to.toNat)=false:=Bool.eq_false_iff.2 λh=>by rw [up _ _ (Bool.not_eq_false _▸b) h] at hp;cases hp
 split
 ·split
  ·exact o.nu hp
  split
  ·exact (o.iW a).iW hp
  exact (o.iW a).nu hp
 ·split
  ·exact (o.iW a).nu hp
  ·exact (o.iW a).nu hp
theorem Qs {l:List bq} {i:Nat} {w:mU} (h:w∈(l.getD i ⟨[],[],0,0⟩).waiters):∃x∈l,w∈x.waiters:=by
 rw [List.getD_eq_getElem?_getD] at h;cases e:l[i]? with
 | none=>rw [e] at h;cases h
 | some x=>rw [e] at h;exact ⟨x,List.mem_of_getElem? e,h⟩
theorem cn.Am (w:uC A s p) (hp:V (az A p)=false) {b:Bool}:cn A V s (jb A s p b):=by
 have o:cn A V s s:=cn.refl;unfold jb;dsimp only;split
 ·split
  ·exact o.iW hp
  ·rename_i d;refine (o.iW hp).nu ?_;obtain ⟨x,a,c⟩:=Qs (l:=(s.proc p).aj) (by rw [d];exact List.mem_cons_self ..);rw [w.dS x a _ c];exact hp
 ·split
  ·exact o.iW hp
  ·split
   ·exact o.iW hp
   ·exact o.iW hp
theorem cn.xS (w:uC A s p) (hp:V (az A p)=false) {n:Int}:cn A V s (uv A s p n):=by
 have o:cn A V s s:=cn.refl;unfold uv;dsimp only;split
 ·split
  ·exact o.rG hp
  ·rename_i a r b;refine (o.rG hp).A5 ?_;have:∃q∈(s.part (az A p)).av,a∈q:=by
    rw [List.getD_eq_getElem?_getD] at b;cases e:(s.part (az A p)).av[n.toNat]? with
    | none=>rw [e] at b;cases b
    | some q=>rw [e] at b;exact ⟨q,List.mem_of_getElem? e,by have:q=a::r:=b;rw [this];exact List.mem_cons_self ..⟩
   obtain ⟨q,c,d⟩:=this;rw [w.jf q c a d];exact hp
 ·exact o
theorem cn.hDo (up:∀i j,fl i j=true->V j=true->V i=true) (w:uC A s p) (hp:V (az A p)=false):cn A V s (tU A D fl s p):=by
 unfold tU;dsimp only;generalize (gO D (gF A p) (s.proc p).core s.tick ↑p).2=z;generalize (gO D (gF A p) (s.proc p).core s.tick ↑p).1=k;have a:cn A V s (s.aL p ((s.proc p).put k)):=cn.refl.iW hp;have b:uC A (s.aL p ((s.proc p).put k)) p:=⟨by
  show ∀l∈(cp (α:=ak) _ p _ p).aj,∀w∈l.waiters,_;rw [ki];exact w.dS,w.jf⟩
 generalize s.aL p ((s.proc p).put k)=s1 at a b;split
 ·exact a.trans (cn.Ak b hp)
 split
 ·exact a.trans (cn.FE up hp)
 split
 ·exact a.trans (cn.Am b hp)
 split
 ·exact a.trans (cn.Am b hp)
 split
 ·exact a.iW hp
 split
 ·exact a.iW hp
 split
 ·unfold iX;dsimp only;split
  ·exact (a.rG hp).iW hp
  ·exact (a.rG hp).iW hp
 split
 ·exact a.trans (cn.xS b hp)
 split
 ·exact a.rG hp
 exact a
end
section
variable {A B:aE} {V:Nat->Bool} {fl:Nat->Nat->Bool} {s s':MS} {D:Int->Int->Int->Int} {T T':Int}
theorem Twin.Z8 (a:Twin V fl A B) {i:Nat}:dT B i=dT A i:=by unfold dT;rw [a.nQ,a.xo]
theorem Cb {c:aE} {i a:Nat} (h:a<(dT c i).length):(dT c i).getD a 0<nQ c/\az c ((dT c i).getD a 0)=i:=by
 have:(dT c i).getD a 0∈dT c i:=by rw [List.getD_eq_getElem?_getD,List.getElem?_eq_getElem h];exact List.getElem_mem h
 exact fS.1 this
theorem Kr {c:Type} {p q:c->Bool}:∀ {l:List c},(∀a∈l,p a=q a)->l.find? p=l.find? q
 | [],_=>rfl
 | a::l,h=>by rw [List.find?_cons,List.find?_cons,h a (List.mem_cons_self ..),Kr λb hb=>h b (List.mem_cons_of_mem _ hb)]
theorem cn.due (o:cn A V s s') (a:Twin V fl A B) {i:Nat}:cn A V (iv A s i) (iv B s' i):=
 ⟨o.tick,o.part,λq b=>by
  show (if q<nQ A/\az A q=i then mD s.tick (s.proc q) else s.proc q)=(if q<nQ B/\az B q=i then mD s'.tick (s'.proc q) else s'.proc q);rw [a.nQ,a.xo,o.tick,o.proc q b]⟩
theorem cn.pick (o:cn A V s s') (g:Twin V fl A B) {i:Nat} (b:V i=true):iY A s i=iY B s' i:=by
 unfold iY;rw [g.Z8,o.part i b];refine Kr λa d=> ?_;obtain ⟨k,e,rfl⟩:=List.mem_map.1 d;have f:0<(dT A i).length:=by have:=List.mem_range.1 e;omega
 have c:=Cb (Nat.mod_lt ((s'.part i).ah.toNat+k) f);rw [o.proc _ (by rw [c.2];exact b)]
theorem cn.turns (c:Twin V fl A B) {i:Nat} (b:V i=true):∀(n:Nat) {s s':MS},cn A V s s'->cn A V (mo A D fl i n s) (mo B D fl i n s')
 | 0,_,_,o=>o
 | n+1,s,s',o=>by
  unfold mo;rw [o.pick c b];split
  ·exact o
  ·rename_i a h;refine cn.turns c b n ?_;rw [<-o.pick c b] at h;obtain ⟨d,e⟩:=Ch h;unfold jR;rw [c.Z8,o.part i b];exact (o.dh λ_=>rfl).OS c (by rw [(Cb d).2];exact b)
theorem cn.sK (m:cf A) (up:∀i j,fl i j=true->V j=true->V i=true) {i:Nat} (e:i<nP A) (d:V i=false):∀(n:Nat) {s:MS},Good A fl s No No T->T=s.tick+1->cn A V s (mo A D fl i n s)
 | 0,_,_,_=>cn.refl
 | n+1,s,g,f=>by
  unfold mo;split
  ·exact cn.refl
  ·rename_i a h;obtain ⟨o,t⟩:=Ch h;obtain ⟨r,c⟩:=Cb o;have l:=Good.Bt (D:=D) m g e f h;have k:(jR A D fl s i a).tick=s.tick:=by unfold jR;rw [DZ];rfl
   refine cn.trans ?_ (cn.sK m up e d n l (by rw [k];exact f));unfold jR;have w:=g.FR r (by rw [c];exact e);refine (cn.refl.rG (s:=s) d).trans (cn.hDo up ⟨w.dS,λq b z p=> ?_⟩ (by rw [c];exact d));refine w.jf q ?_ z p;have b:q∈(cp s.part i _ (az A ((dT A i).getD a 0))).av:=b;rw [c,ki] at b;rw [c];exact b
theorem cn.wi (o:cn A V s s') (a:Twin V fl A B) (c:cf A) (m:cf B) (g:Good A fl s No No s.tick) (f:Good B fl s' No No s'.tick):cn A V (jy A D fl s) (jy B D fl s')/\iT A s.tick=iT B s'.tick:=by
 have d:iT B s'.tick=iT A s.tick:=by unfold iT;rw [a.table,o.tick]
 refine ⟨?_,d.symm⟩;unfold jy;rw [d,a.fuel];dsimp only;have e:=o.due a (i:=iT A s.tick)
 suffices key:cn A V (mo A D fl (iT A s.tick) A.fuel.toNat (iv A s (iT A s.tick))) (mo B D fl (iT A s.tick) A.fuel.toNat (iv B s' (iT A s.tick))) from ⟨by show _+1=_+1;rw [key.tick],key.part,key.proc⟩
 cases hv:V (iT A s.tick) with
 | true=>exact cn.turns a hv _ e
 | false=>have h:=(g.rZ (T':=s.tick+1) (by omega)).due (i:=iT A s.tick);have j:=(f.rZ (T':=s'.tick+1) (by omega)).due (i:=iT A s.tick);have k:=cn.sK (D:=D) (V:=V) c a.up c.jN hv A.fuel.toNat h rfl;have b:=cn.sK (D:=D) (V:=V) m a.up (by rw [a.nP];exact c.jN) hv A.fuel.toNat j rfl;have l:cn A V (iv B s' (iT A s.tick)) (mo B D fl (iT A s.tick) A.fuel.toNat (iv B s' (iT A s.tick))):=⟨b.tick,b.part,λp hp=>b.proc p (by rw [a.xo];exact hp)⟩;exact (k.symm.trans e).trans l
theorem Lo (o:cn A V s s') (a:Twin V fl A B) {p:Int} (hp:0<=p->p<(nQ A:Int)->V (az A p.toNat)=true):q9 A s p=q9 B s' p:=by
 unfold q9;rw [a.nQ];split
 ·rfl
 ·rename_i h;rw [o.proc _ (hp (by omega) (by omega))]
theorem cn.inj (o:cn A V s s') (a:Twin V fl A B) {p v:Int} (hp:0<=p->p<(nQ A:Int)->V (az A p.toNat)=true):cn A V (zip A s p v).1 (zip B s' p v).1:=by
 have e:=Lo o a hp;unfold zip;rw [e];split
 ·exact o
 ·rename_i h;have b:q9 A s p=0:=by rw [e];exact Classical.not_not.1 h
  obtain ⟨t1,t2,_⟩:=DU b;have hv:=hp t1 (by omega);rw [a.full,a.nP,o.proc _ hv];split
  ·exact o.aL λ_=>rfl
  ·exact o.aL λ_=>rfl
theorem cn.kill (o:cn A V s s') (a:Twin V fl A B) {p:Int} (hp:0<=p->p<(nQ A:Int)->V (az A p.toNat)=true):cn A V (iD A s p).1 (iD B s' p).1:=by
 have e:=Lo o a hp;unfold iD;rw [e];split
 ·exact o
 ·rename_i h;have b:q9 A s p=0:=by rw [e];exact Classical.not_not.1 h
  obtain ⟨t1,t2,_⟩:=DU b;exact o.ends a (hp t1 (by omega))
theorem cn.OZ {p v:Int} (hp:0<=p->p<(nQ A:Int)->V (az A p.toNat)=false):cn A V s (zip A s p v).1:=by
 unfold zip;split
 ·exact cn.refl
 ·rename_i h;obtain ⟨t1,t2,_⟩:=DU (Classical.not_not.1 h);have hv:=hp t1 (by omega);split
  ·exact cn.refl.iW hv
  ·exact cn.refl.iW hv
theorem cn.FD (m:cf A) {X Z:Nat->Prop} (g:Good A fl s X Z T) {p:Int} (hp:0<=p->p<(nQ A:Int)->V (az A p.toNat)=false):cn A V s (iD A s p).1:=by
 unfold iD;split
 ·exact cn.refl
 ·rename_i h;obtain ⟨t1,t2,_⟩:=DU (Classical.not_not.1 h);exact cn.Ak (g.FR t2 m.fi) (hp t1 (by omega))
theorem cn.first (a:Twin V fl A B):cn A V (qF A) (qF B):=by unfold qF;rw [a.ae,a.nP];exact cn.refl
end
section
variable {h0 h1 k:Hp} {K:MK} {pm:Addr} {s:MS} {a:Nat->Nat->Int}
theorem yO {p:Nat} {Q:Int->Hp->Prop} (hp:p<=1000) (b:Q ((2*p:Nat):Int) k):NZ prog (p:Int) Q k:=by unfold NZ;rw [aT,show (2:Int)*(p:Int)=((2*p:Nat):Int) by omega];exact b
theorem yQ {p:Nat} {Q:Int->Hp->Prop} (hp:p<=1000) (b:Q ((2*p+1:Nat):Int) k):N0 prog (p:Int) Q k:=by unfold N0;rw [wrap64 (show -9223372036854775808<=(2:Int)*p by omega) (by omega),aT,show (2:Int)*(p:Int)+1=((2*p+1:Nat):Int) by omega];exact b
theorem Qt {gs:List cq} {sl:Sl} {Q:Hp->Prop} {rest:Hp->Prop} (m:dF h0 K) (o:Has h0 (aF K pm s a) k) (r:Rw h0 2 eG sl gs) (z:gs.length<=1000) (y:∀g∈gs,0<=g.dp->g.dp<(nQ K.c:Int))
  (D:∀q,q<nQ K.c->0<=(s.proc q).pc/\(s.proc q).pc<=2000) (u:∀b,Has h0 (aF K pm ((gs.map (·.dp)).foldl gW s) a) b->rest b):
  aA (α1:=Int) (λj f i=>
 (if (decide (f<((sl.len:Nat):Int)))=true then
 ((bF sl.base sl.len f)/\aR none N2 i (sat sl.base 2 f) λx=>
 bC prog BQ [(.pointer (some pm)),(.int .i64 x.dp)] (λn=>
 j (yw (f+(1:Int))) n) i)
 else rest i)) (0:Int) k:=by
 have B:=r.1;refine aA.intro (λ(t:Int) b=>0<=t/\t<=(gs.length:Int)/\Has h0 (aF K pm (((gs.map (·.dp)).take t.toNat).foldl gW s) a) b) (λt _=>(gs.length-t).toNat) ⟨by omega,by omega,by simpa using o⟩ ?_;rintro t b ⟨w,t1,d⟩;by_cases h:t<(gs.length:Int)
 ·rw [if_pos (iV)];refine Rs.get (sh:=N2) (Rw.mono d.le r) (λ_=>rfl) (by omega) w h λ(g:cq) p=> ?_;have C:=List.mem_of_getElem? p;have hb:=Dg ((gs.map (·.dp)).take t.toNat) s g.dp.toNat;have A:((gs.map (·.dp)).take t.toNat).length<=1000:=by grind
  refine Rk (Dd m d (λh0=> ?_) λE v=> ?_)
  ·grind
  ·rw [aT];refine ⟨⟨by omega,by omega,?_⟩,by omega⟩;have e:(t+1).toNat=t.toNat+1:=by omega
   have l:(gs.map (·.dp))[t.toNat]? =some g.dp:=by grind
   rw [e,List.take_add_one,l];simpa using v
 ·rw [if_neg (λe=>h (by have:=of_decide_eq_true e;omega))];refine u b ?_;have e:t.toNat=gs.length:=by omega
  rw [e,List.take_of_length_le (by simp)] at d;exact d
theorem SI {b:List mU} {sl:Sl} {rest:Hp->Prop} (m:dF h0 K) (o:Has h0 (aF K pm s a) k) (r:Rw h0 2 eW sl b) (P:b.length<=10000) (G:∀w∈b,0<=w.proc/\w.proc<(nQ K.c:Int))
  (T:∀q,q<nQ K.c->0<=(s.proc q).pc/\(s.proc q).pc<=4000) (H:∀d,Has h0 (aF K pm (b.foldl (λs w=>bV K.c s w.proc.toNat 2) s) a) d->rest d):
  aA (α1:=Int) (λC l i=>
 (if (decide (l<((sl.len:Nat):Int)))=true then
 ((bF sl.base sl.len l)/\aR none aH i (sat sl.base 2 l) λB=>
 ai none (some pm) λJ=>
 aR none au i (Addr.add J 11) λn=>
 ((bF n.base n.len B.dp)/\aR none ag i (sat n.base 1 B.dp) λN=>
 bC prog xq [(.pointer (some pm)),(.pointer N),(.int .i64 (2:Int))] (λF=>
 C (yw (l+(1:Int))) F) i))
 else rest i)) (0:Int) k:=by
 have L:Rs h0 aH 2 sl (b.map pf):=r.map (f:=pf) (enc:=λx=>bp (aH.enc x));have R:=r.1;refine aA.intro (λ(t:Int) d=>0<=t/\t<=(b.length:Int)/\Has h0 (aF K pm ((b.take t.toNat).foldl (λs w=>bV K.c s w.proc.toNat 2) s) a) d) (λt _=>(b.length-t).toNat) ⟨by omega,by omega,by simpa using o⟩ ?_;rintro t d ⟨M,t1,j⟩;by_cases h:t<(b.length:Int)
 ·rw [if_pos (iV)];refine Rs.get (sh:=aH) (L.mono j.le) (λ_=>rfl) (by omega) M (by grind) λ(g:bJ) O=> ?_;obtain ⟨w,z,rfl⟩:∃w,b[t.toNat]? =some w/\pf w=g:=by grind
  have S:=G w (List.mem_of_getElem? z);have hb:=MJ (c:=K.c) (v:=2) (b.take t.toNat) s w.proc.toNat;have Q:(b.take t.toNat).length<=10000:=by grind
  have A:w.proc.toNat<nQ K.c:=by omega
  have E:((w.proc.toNat:Nat):Int)=w.proc:=by omega
  obtain ⟨u,y⟩:=m.ptr j A;rw [E] at u y;have D:(pf w).dp=w.proc:=rfl;rw [D];refine aP (j.eV.ld (shf:=au) K.x.procs rfl ⟨u,some (K.p w.proc.toNat),y,?_⟩);refine BB (Dq m j A ?_ λU I=> ?_)
  ·grind
  ·rw [aT];refine ⟨⟨by omega,by omega,?_⟩,by omega⟩;have e:(t+1).toNat=t.toNat+1:=by omega
   rw [e,List.take_add_one,z];simpa using I
 ·rw [if_neg (λe=>h (by have:=of_decide_eq_true e;omega))];refine H d ?_;have e:t.toNat=b.length:=by omega
  grind
end
section
variable {h0 h1 k:Hp} {K:MK} {pm:Addr} {s:MS} {d:Nat->Nat->Int}
theorem Qv {p i:Nat} {rest:Hp->Prop} (m:dF h0 K) (D:cf K.c) (o:Has h0 (aF K pm s d) k) (sa:∀q,q<nQ K.c->rj K.c (s.proc q)) (hp:p<nQ K.c) (O:i<nP K.c)
  (P:∀j,Has h0 (aF K pm (nj p s (dT K.c i)) d) j->rest j):
  aA (α1:=Int) (λH u f=>
 (if (decide (u<(((K.own i).len:Nat):Int)))=true then
 ((bF (K.own i).base (K.own i).len u)/\aR none (af .i64) f (sat (K.own i).base 1 u) λF=>
 ai none (some pm) λZ=>
 aR none au f (Addr.add Z 11) λy=>
 ((bF y.base y.len F)/\aR none ag f (sat y.base 1 F) λx6=>
 ai none x6 λp7=>
 aR none ag f (Addr.add p7 14) λx7=>
 ai none (some (K.p p)) λp8=>
 aR none (af .i64) f (Addr.add p8 0) λx8=>
 aa prog WQ [(.pointer x7),(.int .i64 x8)] bn (λr M=>
 H (yw (u+(1:Int))) M) f))
 else rest f)) (0:Int) k:=by
 have r:=m.own i O;have R:=r.1;rw [List.length_map] at R;have a8:(dT K.c i).length<=1000:=by have h1:(dT K.c i).length<=(List.range (nQ K.c)).length:=List.length_filter_le ..;rw [List.length_range] at h1;have:=D.procs;omega
 refine aA.intro (λ(t:Int) j=>0<=t/\t<=((dT K.c i).length:Int)/\Has h0 (aF K pm (nj p s ((dT K.c i).take t.toNat)) d) j) (λt _=>((dT K.c i).length-t).toNat) ⟨by omega,by omega,by
  have e:nj p s ((dT K.c i).take (0:Int).toNat)=s:=by unfold nj;simp
  rw [e];exact o⟩ ?_
 rintro t j ⟨t0,t1,n⟩;by_cases h:t<((dT K.c i).length:Int)
 ·rw [if_pos (iV)];refine Rs.get (sh:=af .i64) (r.mono n.le) (λ_=>rfl) (by omega) t0 (by grind) λ(g:Int) a9=> ?_;obtain ⟨q,w,rfl⟩:∃q:Nat,(dT K.c i)[t.toNat]? =some q/\(q:Int)=g:=by grind
  have S:=List.mem_of_getElem? w;have v:=(fS.1 S).1;have C:q∉(dT K.c i).take t.toNat:=by
   intro b0;have b3:=KI (c:=K.c) (i:=i);obtain ⟨b2,N⟩:=List.getElem?_eq_some_iff.1 w;have b5:(dT K.c i)=(dT K.c i).take t.toNat++q::(dT K.c i).drop (t.toNat+1):=by rw [<-N,List.getElem_cons_drop,List.take_append_drop]
   grind
  obtain ⟨J,L⟩:=m.ptr n v;refine aP (n.eV.ld (shf:=au) K.x.procs rfl ⟨J,some (K.p q),L,?_⟩);obtain ⟨h2,z,a,l2,T,Y,E,put⟩:=n.oY v;have eq:z.post=some a:=T.2.2.2.2.2.2;refine aP (Y.ld (shf:=ag) z.post rfl ?_);obtain ⟨f,G,ap,l3,U,op,_⟩:=n.dC hp;refine aP (op.ld (shf:=af .i64) G.dG rfl ?_);have I:G.dG=(p:Int):=U.1;rw [eq,I];have B:(nj p s ((dT K.c i).take t.toNat)).proc q=s.proc q:=if_neg C;rw [B] at E put;have sq:=sa q v;have b4:=D.parts;have b1:=sq.len;refine zzx (Qc E ⟨by omega,λl Q=>(sq.dS l Q).waiters⟩ λb V W=> ?_);have X:=put _ _ _ W;rw [aT];refine ⟨⟨by omega,by omega,?_⟩,by omega⟩;have e:(t+1).toNat=t.toNat+1:=by omega
  have A:=Yf (p:=p) (s:=s) C;rw [B] at A;rw [e,List.take_add_one,w];show Has h0 (aF K pm (nj p s ((dT K.c i).take t.toNat++ [q])) d) V;rw [<-A];exact X
 ·rw [if_neg (λe=>h (by have:=of_decide_eq_true e;omega))];refine P j ?_;have e:t.toNat=(dT K.c i).length:=by omega
  grind
theorem Ja {q:Nat}:∀ {l:List Int} {s:MS},((l.foldl gW s).proc q).aj=(s.proc q).aj
 | [],s=>rfl
 | a::l,s=>by
  rw [List.foldl_cons,Ja];unfold gW;split
  ·unfold qv;by_cases e:q=a.toNat
   ·subst e;rw [fX];rfl
   ·rw [jc e]
  ·rfl
theorem IP {a:Type} {f:a->Bool}:∀ {l:List a},(iL f l).length<=l.length
 | []=>Nat.le_refl _
 | b::l=>by have:=IP (f:=f) (l:=l);unfold iL;grind
def sj (y:ak):ak:={y with timer:=0,cv:=0}
def u6 (s:MS):MS:=⟨s.tick,s.part,λq=>sj (s.proc q)⟩
theorem ET :aF K pm s d=aF K pm (u6 s) d:=rfl
theorem EX {p:Nat} {y:ak}:u6 (s.aL p y)=(u6 s).aL p (sj y):=by unfold u6 MS.aL;dsimp only;rw [Q7]
theorem Yg {c:aE} {p:Nat} {v:Int}:u6 (bV c s p v)=bV c (u6 s) p v:=by unfold bV;rw [EX];rfl
theorem ZH {c:aE} {v:Int}:∀ {l:List mU} {s:MS},u6 (l.foldl (λs w=>bV c s w.proc.toNat v) s)=l.foldl (λs w=>bV c s w.proc.toNat v) (u6 s)
 | [],s=>rfl
 | a::l,s=>by rw [List.foldl_cons,ZH,Yg,List.foldl_cons]
theorem Qw {p:Nat} (o:Has h0 (aF K pm (((s.proc p).aj.flatMap (·.waiters)).foldl (λs w=>bV K.c s w.proc.toNat 2) (jE s p)) d) k):Has h0 (aF K pm (rA K.c (iw s p) p) d) k:=by
 have a:((iw s p).proc p).aj=(s.proc p).aj:=by unfold iw;rw [fX]
 have b:u6 (jE (iw s p) p)=u6 (jE s p):=by unfold jE iw;rw [fX,AI,EX,EX];rfl
 unfold rA;rw [a,ET,ZH,b,<-ZH,<-ET];exact o
def rB (d:Nat->Nat->Int) (i p:Nat):Nat->Nat->Int:=cp d i (cp (cp (d i) (2*p) 0) (2*p+1) 0)
theorem MM {p:Nat} {st:Int} {Q:Hp->Prop} (m:dF h0 K) (y:cf K.c) (o:Has h0 (aF K pm s d) k) (j:jZ K.c s) (hp:p<nQ K.c)
  (M:∀t,Has h0 (aF K pm (lZ K.c s p st) (rB d (az K.c p) p)) t->Q t):TN prog (some pm) (some (K.p p)) st Q k:=by
 unfold TN;rw [y9] at M;have r:az K.c p<nP K.c:=y.fi;have i2:=y.procs;have i0:=y.parts;obtain ⟨h1,z,a,l1,T,oz,put⟩:=o.dC hp;refine aP (o.eV.ld (shf:=au) K.x.parts rfl ?_);refine aP (oz.ld (shf:=af .i64) z.part rfl ?_);have ep:z.part=(az K.c p:Int):=T.2.1;rw [ep];obtain ⟨g1,g2⟩:=m.uM o r;refine ⟨g1,some (K.q (az K.c p)),g2,?_⟩;refine aP (oz.st (xj z st) (by show 3+1<=15;omega) rfl λk1 o1=> ?_);refine aP (o1.st (uZ (xj z st) false) (by show 13+1<=15;omega) rfl λk2 o2=> ?_);have B:=put _ _ _ ((T.state st).bL false) rfl rfl o2;have B:Has h0 (aF K pm (gw s p st) d) k2:=B;obtain ⟨h2,x,lp,wp,l2,hx,ox,_⟩:=B.ug r;refine aP (ox.ld (shf:=au) x.procs rfl ?_);have ex:x.procs=K.own (az K.c p):=hx.1;rw [ex];have b3:∀q,q<nQ K.c->rj K.c ((gw s p st).proc q):=λq f=>by
  unfold gw;by_cases e:q=p
  ·subst e;rw [fX];have:=j.proc q f;exact ⟨this.pc,this.len,this.cur,this.dS⟩
  ·rw [jc e];exact j.proc q f
 have c4:∀q,((eH K.c s p st).proc q).pc=(s.proc q).pc:=λq=>by
  have h1:((gw s p st).proc q).pc=(s.proc q).pc:=by
   unfold gw;by_cases e:q=p
   ·subst e;rw [fX]
   ·rw [jc e]
  show (if q∈dT K.c (az K.c p) then nz p ((gw s p st).proc q) else (gw s p st).proc q).pc=_;split<;>exact h1
 refine Qv m y B b3 hp r λk3 C=> ?_;have C:Has h0 (aF K pm (eH K.c s p st) d) k3:=C;obtain ⟨I,x4,d7,j0,l4,d0,e9,ol,b0⟩:=C.rO r;have el:x4.ae=some d7:=d0.2.2.2.2.1;obtain ⟨h5,z5,a5,l5,d5,f5,_⟩:=C.dC hp;refine aP (e9.ld (shf:=ag) x4.ae rfl ?_);refine aP (f5.ld (shf:=af .i64) z5.dG rfl ?_);have ei:z5.dG=(p:Int):=d5.1;rw [el,ei];have v:=j.part _ r;have c0:(eH K.c s p st).part=s.part:=rfl;rw [c0] at ol b0;refine zzy (R6 ol ⟨by have:=v.mR.1;omega,v.mR.2⟩ v.ij (by omega) λsl k4 gs c3 o5=> ?_);have o6:Has h0 ((aF K pm (qL K.c (eH K.c s p st) p) d).star (dU 2 eG sl gs)) k4:=o5.carry λt F=>b0 _ _ t F;obtain ⟨J,W,o7,hr⟩:=o6.aside (λ_=>rfl);have X:=m.mono W;have L:=ML (p:=(p:Int)) (os:=(s.part (az K.c p)).aB) (qs:=(s.part (az K.c p)).av.map (fe p));have g9:gs.length<=8:=by have:=L.2;rw [<-c3,List.length_map,List.length_map] at this;have:=v.mR.1;omega
 have c7:∀g∈gs,0<=g.dp->g.dp<(nQ K.c:Int):=by
  intro g hg h0;have:g.dp∈(jk (p:Int) (s.part (az K.c p)).aB ((s.part (az K.c p)).av.map (fe p))).2.2:=by grind
  rcases L.1 _ this with h | ⟨q,f,hm⟩
  ·omega
  ·obtain ⟨q',c5,rfl⟩:=List.mem_map.1 f;exact ((v.nd q' c5).2 _ (KF hm)).2
 have S:∀q,((qL K.c (eH K.c s p st) p).proc q).pc=(s.proc q).pc:=c4;refine Qt (Q:=Q) X o7 hr (by omega) c7 (λq f=> ?_) λk5 G=> ?_
 ·rw [S];have:=(j.proc q f).pc;omega
 have H:(gs.map (·.dp)).foldl gW (qL K.c (eH K.c s p st) p)=jD K.c (eH K.c s p st) p:=by show _=(jk (p:Int) ((eH K.c s p st).part (az K.c p)).aB (((eH K.c s p st).part (az K.c p)).av.map (fe p))).2.2.foldl gW _;grind
 rw [H] at G;have i1:∀q,q<nQ K.c->0<=((jD K.c (eH K.c s p st) p).proc q).pc/\((jD K.c (eH K.c s p st) p).proc q).pc<=2000:=λq f=>by have:=Dg (gs.map (·.dp)) (qL K.c (eH K.c s p st) p) q;rw [H,S,List.length_map] at this;have:=(j.proc q f).pc;omega
 have R:∀q,((jD K.c (eH K.c s p st) p).proc q).aj=((eH K.c s p st).proc q).aj:=λq=>by unfold jD;rw [Ja];rfl
 generalize i3:jD K.c (eH K.c s p st) p=b at*;obtain ⟨h7,x7,i6,g0,l7,d1,Z,ow,f8⟩:=G.jw r;have c1:x7.dY=some g0:=d1.2.2.2.2.2;obtain ⟨h8,z8,a8,l8,d6,f6,_⟩:=G.dC hp;refine aP (Z.ld (shf:=ag) x7.dY rfl ?_);refine aP (f6.ld (shf:=af .i64) z8.dG rfl ?_);have b8:z8.dG=(p:Int):=d6.1;rw [b8];refine I0 (yO (by omega) ?_);refine ⟨⟨Z.fb (n:=1) rfl,trivial⟩,?_⟩;rw [c1];refine II (CH ow (by omega) λb1 k6 o9=> ?_);have Y:=f8 _ _ o9;obtain ⟨h9,x9,i7,g3,l9,d2,a9,e7,f9⟩:=Y.jw r;have c2:x9.dY=some g3:=d2.2.2.2.2.2;obtain ⟨g5,b4,g4,i4,d3,f0,_⟩:=Y.dC hp;refine aP (a9.ld (shf:=ag) x9.dY rfl ?_);refine aP (f0.ld (shf:=af .i64) b4.dG rfl ?_);have b7:b4.dG=(p:Int):=d3.1;rw [b7];refine I1 (yQ (by omega) ?_);refine ⟨⟨a9.fb (n:=1) rfl,trivial⟩,?_⟩;rw [c2];refine II (CH e7 (by omega) λb2 k7 d8=> ?_);have A:=f9 _ _ d8;rw [ki,LK] at A;have A:Has J (aF K pm b (rB d (az K.c p) p)) k7:=A;obtain ⟨g6,b5,b6,i5,d4,f4,e5,f7⟩:=A.oY hp;have b9:b5.post=some b6:=d4.2.2.2.2.2.2;refine aP (f4.ld (shf:=ag) b5.post rfl ?_);rw [b9];have i9:=b3 p hp;have P:∀l∈(b.proc p).aj,∃u∈(s.proc p).aj,l.waiters.length<=u.waiters.length/\∀w∈l.waiters,w∈u.waiters:=by
  intro l i;rw [R] at i;have D:((gw s p st).proc p).aj=(s.proc p).aj:=by unfold gw;rw [fX]
  have N:l∈(if p∈dT K.c (az K.c p) then nz p ((gw s p st).proc p) else (gw s p st).proc p).aj:=i;rw [if_pos (fS.2 ⟨hp,rfl⟩)] at N;obtain ⟨l0,O,rfl⟩:=List.mem_map.1 N;rw [D] at O;exact ⟨l0,O,IP,λw E=>KF E⟩
 have h4:(b.proc p).aj.length=nP K.c+1:=by
  rw [R];have D:((gw s p st).proc p).aj=(s.proc p).aj:=by unfold gw;rw [fX]
  show (if p∈dT K.c (az K.c p) then nz p ((gw s p st).proc p) else (gw s p st).proc p).aj.length=_;rw [if_pos (fS.2 ⟨hp,rfl⟩)];show (List.map _ _).length=_;rw [List.length_map,D];exact (j.proc p hp).len
 have c8:∀l∈(b.proc p).aj,l.waiters.length<=100:=λl i=>by obtain ⟨u,h1,h2,_⟩:=P l i;have:=((j.proc p hp).dS u h1).waiters;omega
 refine QH (Ug e5 ⟨by omega,c8⟩ λsw k8 d9=> ?_);have e0:Has J ((aF K pm (jE b p) (rB d (az K.c p) p)).star (dU 2 eW sw ((b.proc p).aj.flatMap (·.waiters)))) k8:=d9.carry λt F=>f7 _ _ t F;obtain ⟨g7,V,e2,c6⟩:=e0.aside (λ_=>rfl);have g8:((b.proc p).aj.flatMap (·.waiters)).length<=900:=by
  have key:∀(m:List bq),(∀l∈m,l.waiters.length<=100)->(m.flatMap (·.waiters)).length<=m.length*100:=λm=>by
   induction m with
   | nil=>intro _;simp
   | cons a m ih=>intro h;have:=ih λl i=>h l (List.mem_cons_of_mem _ i);have:=h a (List.mem_cons_self ..);simp only [List.flatMap_cons,List.length_append,List.length_cons];omega
  grind
 refine SI (X.mono V) e2 c6 (by omega) (λw E=> ?_) (λq f=> ?_) λU e3=>M U ?_
 ·obtain ⟨l,i,c9⟩:=List.mem_flatMap.1 E;obtain ⟨u,h1,_,I⟩:=P l i;exact ((j.proc p hp).dS u h1).lG w (I w c9)
 ·have e6:((jE b p).proc q).pc=(b.proc q).pc:=by
   unfold jE;by_cases e:q=p
   ·subst e;rw [fX]
   ·rw [jc e]
  grind
 · -- timers are in the dY alone
  have e4:Has h0 (aF K pm (((b.proc p).aj.flatMap (·.waiters)).foldl (λs w=>bV K.c s w.proc.toNat 2) (jE b p)) (rB d (az K.c p) p)) U:=e3.mono (Hp.le_trans W V);exact Qw e4
end
end Lf
