/-
  Part 4 of the texts that the claim leans on.
-/
import Derived.Laws.StructEq
import Derived.Test.YtgplfmccdkfddaaGreatMgRnOwners2
set_option maxRecDepth 100000
namespace Lf
open Go
theorem ZG {r:Type} {h0 h:Hp} {sz n bytes:Nat} {enc:r->List Value} {zero m:List Value} {l:Sl} {i f:List r} {K:Sl->Hp->Prop} (q:h0<=h) (o:Own h0 h sz enc l i) (s:m=f.flatMap enc) (w:n=f.length)
  (j:∀x,(enc x).length=sz) (B:∀x,hH (enc x)=true) (C:zero.length=sz) (hb:i.length+f.length<=140737488355328/\(i.length+f.length)*bytes<=140737488355328)
  (t:∀g c,h0<=c->Own h0 c sz enc g (i++f)->(∀b d,h b=some d->(∀a,l.base=some a->a.block≠b)->c b=some d)->K g c):bc m (λa p=>eS sz bytes zero l ⟨some a,n,n⟩ K p) h:=by
 subst w;refine tK (h0:=h0) q s j λa p k A=> ?_;refine Cw (Hp.le_trans q k) (o.mono k) (A.rw j) j B C hb λg c v z u=>t g c v z λb d e y=>u b d (k b d e) y
def eB (b:UInt8):List Value:=[.int .u8 (b.toNat:Int)]
theorem rP (b:UInt8):(eB b).length=1:=rfl
theorem Gb (b:UInt8):hH (eB b)=true:=rfl
abbrev Bs (h:Hp) (l:Sl) (a:List UInt8):Prop:=Rw h 1 eB l a
abbrev kG (a h:Hp) (l:Sl) (bs:List UInt8):Prop:=Own a h 1 eB l bs
theorem U2 (a:List UInt8):a.flatMap eB=a.map λb=>.int .u8 (b.toNat:Int):=by
 induction a with
 | nil=>rfl
 | cons b a c=>rw [List.flatMap_cons,c];rfl
theorem Lj (n:Int):((UInt8.ofNat (n%256).toNat).toNat:Int)=n%256:=by rw [UInt8.toNat_ofNat'];omega
theorem oY (n:Int):IntKind.wrap .u8 n=((UInt8.ofNat (n%256).toNat).toNat:Int):=by rw [Lj];rfl
theorem JN (n:Int):∀(k i:Nat),i<k->(cM n k)[i]? =some (UInt8.ofNat ((n / ((256^i:Nat):Int))%256).toNat)
 | 0,_,h=>by omega
 | k+1,0,_=>by simp [cM]
 | k+1,i+1,h=>by
  simp only [cM,List.getElem?_cons_succ];have e:n / 256 / ((256^i:Nat):Int)=n / ((256^(i+1):Nat):Int):=by rw [Int.ediv_ediv_of_nonneg (by decide)];grind
  rw [JN (n / 256) k i (by omega),e]
theorem U5 {n m:Int} {k:Nat} (h:n%((256^k:Nat):Int)=m%((256^k:Nat):Int)):cM n k=cM m k:=by
 have c:=vB n k;have d:=vB m k;have e:eN (cM n k)=eN (cM m k):=by omega
 have a:=EW (cM n k);have b:=EW (cM m k);rw [lQ] at a b;rw [<-a,e,b]
theorem yx {n:Int} {k:Nat} (b:k<=8):cM (IntKind.wrap .u64 n) k=cM n k:=by apply U5;have e:IntKind.wrap .u64 n=n%((256^8:Nat):Int):=rfl;rw [e];have a:((256^k:Nat):Int) ∣ ((256^8:Nat):Int):=Int.natCast_dvd_natCast.2 (Nat.pow_dvd_pow 256 b);exact Int.emod_emod_of_dvd n a
theorem XW (n:Int) {i:Nat} (b:i<8):gF .u64 n (8*(i:Int))=n / ((256^i:Nat):Int):=by
 have e:((256^i:Nat):Int)=2^(8*i):=by rw [show (256:Nat)=2^8 from rfl,<-Nat.pow_mul];exact Int.natCast_pow 2 (8*i)
 rw [e];have a:min (8*(i:Int)).toNat IntKind.u64.bits=8*i:=by have:IntKind.u64.bits=64:=rfl;omega
 unfold gF;grind
theorem XX (n:Int) {i:Int} (a:0<=i) (b:i<8):yw (8*i)=8*i/\IntKind.wrap .u8 (gF .u64 n (8*i))=((UInt8.ofNat ((n / ((256^i.toNat:Nat):Int))%256).toNat).toNat:Int):=by
 refine ⟨wrap64 (by omega) (by omega),?_⟩;have e:(8*i)=8*((i.toNat:Nat):Int):=by omega
 rw [e,XW n (by omega),oY]
section
variable {h0 h:Hp} {l:Sl} {bs:List UInt8} {K:Sl->Hp->Prop}
theorem EB (p:h0<=h) (o:kG h0 h l bs) {e:List Value} (c:List UInt8) {n:Nat} (j:e=c.map λb=>.int .u8 (b.toNat:Int)) (m:n=c.length) (hb:bs.length+c.length<=1099511627776)
  (k:∀f d,h0<=d->kG h0 d f (bs++c)->(∀b g,h b=some g->(∀a,l.base=some a->a.block≠b)->d b=some g)->K f d):bc e (λa i=>eS 1 1 [.int .u8 0] l ⟨some a,n,n⟩ K i) h:=
 ZG p o (by rw [j,U2]) m rP Gb rfl (by omega) k
theorem JO {n m:Int} {k:Nat} (A:m=(k:Int)) (F:k<=8) (C:h0<=h) (o:kG h0 h l bs) (hb:bs.length+8<=1099511627776) (E:∀g d,h0<=d->kG h0 d g (bs++cM n k)->K g d):
  bD (α1:=Sl) (α2:=Int) (λq b f c=>
   (if (decide (f<m))=true then
    ((0:Int)<=(yw ((8:Int)*f))/\bc [(.int .u8 (IntKind.wrap .u8 (gF .u64 n (yw ((8:Int)*f)))))] (λa v=>
     eS 1 1 [(.int .u8 (0:Int))] ⟨b.base,b.len,b.cap⟩ ⟨(some a),1,1⟩ (λr w=>
      q r (yw (f+(1:Int))) w) v) c)
   else K b c)) l (0:Int) h:=by
 subst A;refine bD.intro (λb i c=>0<=i/\i<=(k:Int)/\h0<=c/\kG h0 c b (bs++(cM n k).take i.toNat)) (λ_ i _=>(k-i).toNat) ⟨by omega,by omega,C,by simpa using o⟩ ?_;rintro b i c ⟨x,D,y,p⟩;by_cases j:i<(k:Int)
 ·rw [if_pos (decide_eq_true j)];obtain ⟨s,t⟩:=XX n x (by omega);rw [s,t];refine ⟨by omega,?_⟩;refine EB y p [UInt8.ofNat ((n / ((256^i.toNat:Nat):Int))%256).toNat] rfl rfl (by grind) λg d z B _=> ?_;rw [wrap64 (by omega) (by omega)];refine ⟨⟨by omega,by omega,z,?_⟩,by omega⟩;have u:(i+1).toNat=i.toNat+1:=by omega
  rw [u,List.take_add_one,JN n k i.toNat (by omega),<-List.append_assoc];exact B
 ·rw [if_neg (λe=>j (of_decide_eq_true e))];have:i.toNat=k:=by omega
  rw [this,List.take_of_length_le (by rw [lQ];omega)] at p;grind
end
abbrev qN (x:Int):Prop:=0<=x/\x<18446744073709551616
def bit (x:Int) (n:Nat):Bool:=x.toNat.testBit n
theorem oZ {x:Int} (h:qN x):IntKind.wrap .u64 x=x:=by
 (try unfold yw);unfold IntKind.wrap
 simp only [IntKind.signed,IntKind.bits];have:=h.1;have:=h.2;simp;omega
theorem xX {x:Int} (h:qN x):BitVec.ofInt 64 x=BitVec.ofNat 64 x.toNat:=by obtain ⟨n,rfl⟩:=Int.eq_ofNat_of_zero_le h.1;rfl
theorem ZI {a b:Int} (j:qN a) (hb:qN b):(du .andNot .u64 a b==0)=true↔∀n,n<64->bit a n=true->bit b n=true:=by
 have e:du .andNot .u64 a b=(((BitVec.ofNat 64 a.toNat)&&& ~~~ (BitVec.ofNat 64 b.toNat)).toNat:Int):=by show IntKind.wrap .u64 ((BitVec.ofInt 64 a&&& ~~~ BitVec.ofInt 64 b).toNat:Int)=_;rw [xX j,xX hb,oZ ⟨by omega,by have:=((BitVec.ofNat 64 a.toNat)&&& ~~~ (BitVec.ofNat 64 b.toNat)).isLt;omega⟩]
 rw [e];have i:((((BitVec.ofNat 64 a.toNat)&&& ~~~ (BitVec.ofNat 64 b.toNat)).toNat:Int)==0)=true↔(BitVec.ofNat 64 a.toNat)&&& ~~~ (BitVec.ofNat 64 b.toNat)=0#64:=by rw [BitVec.toNat_eq];simp
 rw [i];have f:∀n,n<64->(BitVec.ofNat 64 a.toNat).getLsbD n=bit a n:=λn c=>by rw [BitVec.getLsbD_ofNat];simp [bit,c]
 have g:∀n,n<64->(BitVec.ofNat 64 b.toNat).getLsbD n=bit b n:=λn c=>by rw [BitVec.getLsbD_ofNat];simp [bit,c]
 constructor
 ·intro h n c d;have:=congrArg (λv=>v.getLsbD n) h;simp only [BitVec.getLsbD_and,BitVec.getLsbD_not,f n c,g n c,d,c,decide_true,Bool.true_and,BitVec.getLsbD_zero] at this;simpa using this
 ·intro h;apply BitVec.eq_of_getLsbD_eq;intro n c;simp only [BitVec.getLsbD_and,BitVec.getLsbD_not,f n c,g n c,c,decide_true,Bool.true_and,BitVec.getLsbD_zero];cases d:bit a n with
  | false=>rfl
  | true=>simp [h n c d]
end Lf
namespace Lf
open Go Go.Proofs Tryz
abbrev Us (h:Hp) (l:Sl) (a:List Int):Prop:=Rs h (af .u64) 1 l a
abbrev Is (h:Hp) (l:Sl) (a:List Int):Prop:=Rs h (af .i64) 1 l a
theorem aa7 {P:Program} {l:Sl} {a:List Int} {Q:Int->Int->Hp->Prop} {h:Hp} (r:Us h l a) (C:a.length<=8) (j:a.Pairwise (· < ·)) (n:a=[]->Q 1 0 h) (z:a≠ []->Q 0 0 h):Kt P l Q h:=by
 unfold Kt;have D:=r.1;split
 ·rename_i e;have e:(l.len:Int)=0:=by simpa using e
  exact n (List.length_eq_zero_iff.1 (by omega))
 ·rename_i e;have e:¬(l.len:Int)=0:=by simpa using e
  split
  ·grind
  ·refine aC.intro (λi k=>k=h/\1<=i/\i<=(a.length:Int)) (λi _=>(a.length-i).toNat) ⟨rfl,by omega,by omega⟩ ?_;rintro i k ⟨rfl,A,B⟩;split
   ·rename_i b;have b:i<(l.len:Int):=by simpa using b
    have o:yw (i-1)=i-1:=wrap64 (by omega) (by omega);rw [o];refine r.get (λ_=>rfl) (by omega) (by omega) (by omega) λ(x:Int) c=> ?_;refine r.get (λ_=>rfl) (by omega) (by omega) (by omega) λ(y:Int) f=> ?_;have E:y<x:=by
     have m:(i-1).toNat<i.toNat:=by omega
     have t:=(List.getElem?_eq_some_iff.1 c);have w:=(List.getElem?_eq_some_iff.1 f);obtain ⟨q,s⟩:=t;obtain ⟨u,v⟩:=w;rw [<-s,<-v];exact List.pairwise_iff_getElem.1 j _ _ u q m
    rw [if_neg (show ¬((x==y)=true) by simp;omega)];refine r.get (λ_=>rfl) (by omega) (by omega) (by omega) λ(F:Int) d=> ?_;rw [c] at d;cases d;refine r.get (λ_=>rfl) (by omega) (by omega) (by omega) λ(G:Int) g=> ?_;rw [f] at g;cases g;rw [if_neg (show ¬(decide (x<y)=true) by simp;omega)];have p:yw (i+1)=i+1:=wrap64 (by omega) (by omega);rw [p];exact ⟨⟨rfl,by omega,by omega⟩,by omega⟩
   grind
abbrev NH (a h:Hp) (l:Sl) (b:List Int):Prop:=Own a h 1 (λx=>bg ((af .u64).enc x)) l b
abbrev NG (a h:Hp) (l:Sl) (b:List Int):Prop:=Own a h 1 (λx=>bg ((af .i64).enc x)) l b
def oy (a b:Int):Bool:=(List.range 64).all λn=> !bit a n || bit b n
theorem U9 {a b:Int}:oy a b=true↔∀n,n<64->bit a n=true->bit b n=true:=by unfold oy;grind
theorem abM {a b:Int} {Q:Bool->Hp->Prop} {h:Hp} (c:qN a) (hb:qN b) (d:Q (oy a b) h):zwt prog a b Q h:=by
 unfold zwt;have:(du .andNot .u64 a b==0)=oy a b:=by rw [Bool.eq_iff_iff,ZI c hb,U9]
 grind
def fl (a:List Int) (i j:Int):Bool:=if 0<=i/\i<(a.length:Int)/\0<=j/\j<(a.length:Int) then oy (a.getD i.toNat 0) (a.getD j.toNat 0) else false
theorem Gf {xs:List Int} {i j:Int} {x y:Int} (h:0<=i/\0<=j) (a:xs[i.toNat]? =some x) (b:xs[j.toNat]? =some y):fl xs i j=oy x y:=by have c:=(List.getElem?_eq_some_iff.1 a).1;have d:=(List.getElem?_eq_some_iff.1 b).1;unfold fl;grind
theorem KI {xs:List Int} {i j:Int} (h:¬(0<=i/\i<(xs.length:Int)/\0<=j/\j<(xs.length:Int))):fl xs i j=false:=by unfold fl;rw [if_neg h]
def nM :List Int->Nat->List MapEntry
 | [],_=> []
 | x::r,j=>{key:=.int .u64 x,val:=.int .i64 (j:Int),born:=j}::nM r (j+1)
def place (a:Int):List Int->Nat->Option Nat
 | [],_=>none
 | x::r,j=>if a=x then some j else place a r (j+1)
theorem L4 (a:Int):∀(b:List Int) (j:Nat),Instr.findNow (.int .u64) (.int .u64 a) (nM b j) j=some ((place a b j).map λ(k:Nat)=>(k,Value.int .i64 (k:Int)))
 | [],j=>rfl
 | x::r,j=>by
  simp only [nM,Instr.findNow,Instr.sameNow,if_true,place];by_cases h:a=x
  ·simp [h]
  ·have:(a==x)=false:=by simpa using h
   rw [this];simp only [if_neg h];exact L4 a r (j+1)
theorem L5 :∀(a:List Int) (x:Int) (j:Nat),nM (a++ [x]) j=nM a j++ [{key:=.int .u64 x,val:=.int .i64 ((j+a.length:Nat):Int),born:=j+a.length}]
 | [],x,j=>by simp [nM]
 | y::r,x,j=>by simp only [List.cons_append,nM,L5 r x (j+1),List.length_cons];grind
theorem Lk {a:Int}:∀ {b:List Int} {j:Nat},a∉b->place a b j=none
 | [],_,_=>rfl
 | x::r,j,h=>by simp only [place];rw [if_neg λe=>h (by grind)];exact Lk λe=>h (List.mem_cons_of_mem _ e)
structure qW (h:Hp) (p:Addr) (ls:List Int):Prop where
 ex:∃(sl:Sl) (m:Nat),aV h p [sl.v,.map (some m)]/\Us h sl ls/\h m=some (.map (nM ls 0).toArray ls.length)
theorem qW.mono {h b:Hp} {p:Addr} {c:List Int} (a:h<=b) (t:qW h p c):qW b p c:=by obtain ⟨sl,m,d,e,f⟩:=t.ex;exact ⟨sl,m,ns a d,e.mono a,a _ _ f⟩
theorem qW.sl {h:Hp} {p:Addr} {a:List Int} (t:qW h p a) {K:Sl->Prop} (d:∀sl,Us h sl a->K sl):aP none av h (p.add 0) K:=by
 obtain ⟨sl,m,b,c,e⟩:=t.ex;refine ⟨sl,λi v hv=> ?_,d sl c⟩;cases i with
 | zero=>have:=b 0 v (by simpa [bg,Sl.v] using hv);rw [sP];exact this
 | succ i=>simp [bg] at hv
theorem qW.GC {h:Hp} {p:Addr} {a:List Int} (t:qW h p a) {c:Bool} {K:Sl->Prop} (e:∀sl,Us h sl a->K sl):aP (some c) av h (p.add 0) K:=by obtain ⟨sl,b,d⟩:=t.sl e;exact ⟨sl,λ_=>b,d⟩
theorem qW.map {h:Hp} {p:Addr} {a:List Int} (t:qW h p a) {K:Option Nat->Prop} (d:∀m,h m=some (.map (nM a 0).toArray a.length)->K (some m)):aP none fN h (p.add 1) K:=by
 obtain ⟨sl,m,b,e,c⟩:=t.ex;refine ⟨some m,λi v hv=> ?_,d m c⟩;cases i with
 | zero=>have:=b 1 v (by simpa [bg] using hv);rw [sP];exact this
 | succ i=>simp [bg] at hv
theorem IC {p:Addr} {a:List Int} {i:Int} {Q:Bool->Hp->Prop} {h:Hp} (t:qW h p a) (b:Q (decide (0<=i)&&decide (i<(a.length:Int))) h):Xt prog (some p) i Q h:=by unfold Xt;refine aD (t.GC λsl c=>aU ?_);rw [c.1];exact b
theorem Pv {p:Addr} {a:List Int} {i j:Int} {Q:Bool->Hp->Prop} {h:Hp} (t:qW h p a) (l:∀x∈a,qN x) (d:Q (fl a i j) h):UL prog (some p) i j Q h:=by
 unfold UL;refine zsg (IC t ?_);generalize c:(decide (0<=i)&&decide (i<(a.length:Int)))=ci;refine ⟨λe=>zsg (IC t ?_),λe=>⟨false,?_⟩⟩
 ·generalize b:(decide (0<=j)&&decide (j<(a.length:Int)))=q;refine aU ?_;subst e;rw [Bool.true_and];simp at c;refine aD (t.GC λsl f=> ?_);refine Rs.mP f (0:Int) (λ_=>rfl) (by omega) (λ_=>c) λ(x:Int) m=> ?_;refine aD (t.GC λo g=> ?_);refine Rs.mP g (0:Int) (λ_=>rfl) (by omega) (λe=>by grind) λ(y:Int) n=> ?_;refine ⟨λe=> ?_,λe=>⟨false,?_⟩⟩
  ·have ex:=m e;have k:=n e;rw [e] at b;simp at b;refine VE (abM (l x (List.mem_of_getElem? ex)) (l y (List.mem_of_getElem? k)) (aU ?_));rw [e,Bool.true_and,<-Gf ⟨c.1,b.1⟩ ex k];exact d
  ·refine aU ?_;rw [e] at b ⊢;rw [Bool.false_and,<-KI (xs:=a) (i:=i) (j:=j) (by simp at b;omega)];exact d
 ·subst e;simp at c;refine aU ?_;rw [Bool.false_and];refine aD (t.GC λsl f=> ?_);refine Rs.mP f (0:Int) (λ_=>rfl) (by omega) (λe=>by cases e) λ(x:Int) m=> ?_;refine aD (t.GC λo g=> ?_);refine Rs.mP g (0:Int) (λ_=>rfl) (by omega) (λe=>by cases e) λ(y:Int) n=> ?_;refine ⟨λe=>(by cases e),λe=>⟨false,aU ?_⟩⟩;rw [Bool.false_and,<-KI (xs:=a) (i:=i) (j:=j) (by omega)];exact d
theorem XY {s:Sl} {xs:List Int} {Q:Sl->Hp->Prop} {h:Hp} (r:Us h s xs) (j:xs.length<=1000000) (f:∀out b,h<=b->NH h b out xs->Q out b):Mz prog s Q h:=by
 unfold Mz;refine ⟨s.base.isNone,Nu (an.aN 22 xi rfl) s,?_⟩;cases hb:s.base with
 | none=>
  rw [if_pos (show (none:Option Addr).isNone=true from rfl)];have:xs=[]:=by
   rcases r.2.2 with e | ⟨a,i,_⟩
   ·exact List.length_eq_zero_iff.1 (by omega)
   grind
  subst this;exact f _ h (Hp.le_refl h) ⟨rfl,Nat.le_refl _,.inl ⟨rfl,rfl⟩⟩
 | some a=>
  rw [if_neg (by simp)];refine tK (xs:=([]:List Int)) (enc:=λx=>bg ((af .u64).enc x)) (sz:=1) (Hp.le_refl h) rfl (λ_=>rfl) λa g c d=> ?_;refine Cw c d (Rw.mono c r) (λ_=>rfl) (λ_=>rfl) rfl ?_ λm b k l _=> ?_
  ·simp;omega
  grind
theorem SP {b:List Int} (g:b.Pairwise (· < ·)) {t:Nat} {x:Int} (h:b[t]? =some x):x∉b.take t:=by
 intro f;obtain ⟨i,a⟩:=List.mem_iff_getElem?.1 f;rw [List.getElem?_take] at a;split at a
 ·rename_i e;obtain ⟨c,j⟩:=List.getElem?_eq_some_iff.1 a;obtain ⟨d,k⟩:=List.getElem?_eq_some_iff.1 h;have:=List.pairwise_iff_getElem.1 g i t c d e;omega
 ·cases a
theorem aba {l:Sl} {a:List Int} {Q:Option Addr->Int->Int->Hp->Prop} {h:Hp} (r:Us h l a) (G:a.length<=8) (s:a.Pairwise (· < ·)) (L:a=[]->Q none 1 0 h)
  (E:a≠ []->∀p g,h<=g->qW g p a->Q (some p) 0 0 g):Kw prog l Q h:=by
 unfold Kw;refine Z7 (aa7 r G s (λe=> ?_) (λe=> ?_))
 ·grind
 rw [if_neg (by simp)];refine zfu (XY r (by omega) λout q y J=> ?_);intro m A;have z:q<=q.set m (.map #[] 0):=lz A;intro b t hb;have n:=lz (o:=.cells (([out.v,.map (some m)]:List Value).toArray) t (0,0)) hb;have I:h m=none:=pH y A;have M:b≠m:=λe=>by rw [e,lZ] at hb;cases hb
 have K:Us q out a:=J.rw λ_=>rfl;refine ⟨_,rfl,out,?_,?_⟩
 ·intro i v hv;cases i with
  | zero=>rw [sP];exact EV 0 v (by simpa [bg,Sl.v] using hv)
  | succ i=>simp [bg] at hv
 refine aC.intro (λi k=>h<=k/\0<=i/\i<=(a.length:Int)/\Us k out a/\aV k ⟨b,0,none⟩ [out.v,.map (some m)]/\k m=some (.map (nM (a.take i.toNat) 0).toArray i.toNat)) (λi _=>(a.length-i).toNat)
  ⟨Hp.le_trans y (Hp.le_trans z n),by omega,by omega,Rw.mono (Hp.le_trans z n) K,EV,n _ _ lZ⟩ ?_
 rintro i k ⟨w,F,N,f,hp,d⟩;have O:=f.1;split
 ·rename_i e;have e:i<(out.len:Int):=by simpa using e
  refine Rs.get f (λ_=>rfl) (by omega) F (by omega) λ(x:Int) B=> ?_;refine ⟨_,rfl,some m,?_,?_⟩
  ·intro j v hv;cases j with
   | zero=>have:=hp 1 v (by simpa [bg] using hv);rw [sP];exact this
   | succ j=>simp [bg] at hv
  have H:(a.take i.toNat).length=i.toNat:=by grind
  refine ⟨m,_,_,rfl,d,.inl ⟨?_,?_⟩⟩
  ·have:=L4 x (a.take i.toNat) 0;rw [Lk (SP s B)] at this;exact this
  ·have u:∀o,nZ k (k.set m o):=λo=>aaR d rfl;rw [wrap64 (by omega) (by omega)];refine ⟨⟨vA w I,by omega,by omega,Rw.ck (u _) f,Jy (u _) hp,?_⟩,by omega⟩;rw [lZ];have C:(i+1).toNat=i.toNat+1:=by omega
   have c:a.take (i.toNat+1)=a.take i.toNat++ [x]:=by rw [List.take_add_one,B];rfl
   rw [C,c,L5,H];grind
 ·rename_i c;have c:¬i<(out.len:Int):=by simpa using c
  have D:i.toNat=a.length:=by omega
  rw [D,List.take_length] at d;exact E e _ _ w ⟨out,m,hp,f,d⟩
def pB :Int->List Int->Int->Int×Int
 | _,[],_=>(0,0)
 | p,x::r,i=>if x=p then (8,i) else if x<p then (7,i) else pB x r (i+1)
def iG :List Int->Int×Int
 | []=>(1,0)
 | x::r=>if 8<r.length+1 then (3,8) else pB x r 1
theorem L6 :∀ {r:List Int} {p i:Int},(pB p r i).1=0↔(p::r).Pairwise (· < ·)
 | [],p,i=>by simp [pB]
 | x::r,p,i=>by
  simp only [pB];by_cases b:x=p
  ·rw [if_pos b,List.pairwise_cons];refine ⟨λe=>(by cases e),λh=> ?_⟩;have:=h.1 x (List.mem_cons_self ..);omega
  ·rw [if_neg b];by_cases c:x<p
   ·rw [if_pos c,List.pairwise_cons];refine ⟨λe=>(by cases e),λh=> ?_⟩;have:=h.1 x (List.mem_cons_self ..);omega
   ·rw [if_neg c,L6,List.pairwise_cons (a:=p)];refine ⟨λh=>⟨λy hy=> ?_,h⟩,λh=>h.2⟩;rcases List.mem_cons.1 hy with rfl | hy
    ·omega
    ·have:=(List.pairwise_cons.1 h).1 y hy;omega
theorem gT {a:List Int}:(iG a).1=0↔a≠ []/\a.length<=8/\a.Pairwise (· < ·):=by
 cases a with
 | nil=>simp [iG]
 | cons x r=>
  simp only [iG,List.length_cons];by_cases h:8<r.length+1
  ·grind
  ·rw [if_neg h,L6];grind
theorem CA {P:Program} {l:Sl} {f:List Int} {Q:Int->Int->Hp->Prop} {h:Hp} (r:Us h l f) (e:Q (iG f).1 (iG f).2 h):Kt P l Q h:=by
 unfold Kt;have o:=r.1;cases u:f with
 | nil=>subst u;rw [if_pos (by simp [o])];exact e
 | cons b a=>
  subst u;simp only [List.length_cons] at o;rw [if_neg (show ¬(((l.len:Int)==0)=true) by simp;omega)];by_cases m:(l.len:Int)>8
  ·rw [if_pos (decide_eq_true m)];have:iG (b::a)=(3,8):=by simp only [iG];rw [if_pos (by omega)]
   grind
  rw [if_neg λg=>m (of_decide_eq_true g)];have E:iG (b::a)=pB b a 1:=by simp only [iG];grind
  rw [E] at e;refine aC.intro (λi k=>k=h/\1<=i/\i<=((a.length:Int)+1)/\∃p,(b::a)[(i-1).toNat]? =some p/\pB p ((b::a).drop i.toNat) i=pB b a 1) (λi _=>(a.length+1-i).toNat)
   ⟨rfl,by omega,by omega,b,rfl,rfl⟩ ?_
  rintro i k ⟨rfl,F,G,p,hp,c⟩;split
  ·rename_i d;have d:i<(l.len:Int):=by simpa using d
   have H:((b::a).length:Int)=(a.length:Int)+1:=by simp
   rw [wrap64 (n:=i-1) (by omega) (by omega)];refine r.get (λ_=>rfl) (by omega) (by omega) (by omega) λ(x:Int) j=> ?_;refine r.get (λ_=>rfl) (by omega) (by omega) (by omega) λ(y:Int) v=> ?_;rw [hp] at v;cases v;have D:(b::a).drop i.toNat=x::(b::a).drop (i.toNat+1):=by obtain ⟨B,C⟩:=List.getElem?_eq_some_iff.1 j;rw [List.drop_eq_getElem_cons B,C]
   rw [D] at c;simp only [pB] at c;by_cases t:x=p
   ·grind
   rw [if_neg (by simpa using t)];rw [if_neg t] at c;refine r.get (λ_=>rfl) (by omega) (by omega) (by omega) λ(I:Int) s=> ?_;rw [j] at s;cases s;refine r.get (λ_=>rfl) (by omega) (by omega) (by omega) λ(J:Int) w=> ?_;rw [hp] at w;cases w;by_cases q:x<p
   ·grind
   rw [if_neg λg=>q (of_decide_eq_true g)];rw [if_neg q] at c;rw [wrap64 (by omega) (by omega)];have z:(i+1).toNat=i.toNat+1:=by omega
   have A:(i+1-1).toNat=i.toNat:=by omega
   exact ⟨⟨rfl,by omega,by omega,x,by rw [A];exact j,by rw [z];exact c⟩,by omega⟩
  ·rename_i d;have d:¬i<(l.len:Int):=by simpa using d
   rw [List.drop_eq_nil_of_le (by simp;omega)] at c;rw [<-c] at e;exact e
theorem ZK {l:Sl} {a:List Int} {Q:Option Addr->Int->Int->Hp->Prop} {h:Hp} (r:Us h l a) (j:(iG a).1≠0->Q none (iG a).1 (iG a).2 h)
  (d:(iG a).1=0->∀p b,h<=b->qW b p a->Q (some p) 0 0 b):Kw prog l Q h:=by
 by_cases c:(iG a).1=0
 ·obtain ⟨i,g,f⟩:=gT.1 c;exact aba r g f (λe=>absurd e i) λ_=>d c
 ·unfold Kw;refine Z7 (CA r ?_);grind
def dj {c d:Type} (R:c->d->Prop):List c->List d->Prop
 | [],[]=>True
 | a::l,b::m=>R a b/\dj R l m
 | _,_=>False
section
variable {α β:Type} {R S:α->β->Prop}
theorem dj.len :∀ {l:List α} {m:List β},dj R l m->l.length=m.length
 | [],[],_=>rfl
 | _::l,_::m,h=>by simp [dj.len h.2]
 | [],_::_,h=>h.elim
 | _::_,[],h=>h.elim
theorem dj.imp (c:∀a b,R a b->S a b):∀ {l:List α} {m:List β},dj R l m->dj S l m
 | [],[],_=>trivial
 | _::_,_::_,h=>⟨c _ _ h.1,dj.imp c h.2⟩
 | [],_::_,h=>h.elim
 | _::_,[],h=>h.elim
theorem dj.get :∀ {l:List α} {m:List β} {i:Nat} {a:α},dj R l m->l[i]? =some a->∃b,m[i]? =some b/\R a b
 | [],_,_,_,_,e=>by simp at e
 | _::_,[],_,_,h,_=>h.elim
 | _::_,b::_,0,_,h,e=>by simp at e;subst e;exact ⟨b,rfl,h.1⟩
 | _::_,_::_,i+1,_,h,e=>by rw [List.getElem?_cons_succ] at e;obtain ⟨b,c,d⟩:=dj.get h.2 e;grind
theorem dj.get' :∀ {l:List α} {m:List β} {i:Nat} {b:β},dj R l m->m[i]? =some b->∃a,l[i]? =some a/\R a b
 | _,[],_,_,_,e=>by simp at e
 | [],_::_,_,_,h,_=>h.elim
 | a::_,_::_,0,_,h,e=>by simp at e;subst e;exact ⟨a,rfl,h.1⟩
 | _::_,_::_,i+1,_,h,e=>by rw [List.getElem?_cons_succ] at e;obtain ⟨b,c,d⟩:=dj.get' h.2 e;grind
theorem dj.app :∀ {l a:List α} {m b:List β},dj R l m->dj R a b->dj R (l++a) (m++b)
 | [],_,[],_,_,h=>h
 | _::_,_,_::_,_,h,c=>⟨h.1,dj.app h.2 c⟩
 | [],_,_::_,_,h,_=>h.elim
 | _::_,_,[],_,h,_=>h.elim
theorem dj.drop :∀ {l:List α} {m:List β} (n:Nat),dj R l m->dj R (l.drop n) (m.drop n)
 | _,_,0,h=>h
 | [],[],_+1,h=>h
 | _::_,_::_,n+1,h=>dj.drop n h.2
 | [],_::_,_+1,h=>h.elim
 | _::_,[],_+1,h=>h.elim
theorem dj.take :∀ {l:List α} {m:List β} (n:Nat),dj R l m->dj R (l.take n) (m.take n)
 | _,_,0,_=>trivial
 | [],[],_+1,h=>h
 | _::_,_::_,n+1,h=>⟨h.1,dj.take n h.2⟩
 | [],_::_,_+1,h=>h.elim
 | _::_,[],_+1,h=>h.elim
end
def lF (h:Hp) (q:bK) (p:fq):Prop:=q.Part=p.part/\∃a,nF h q.Code a/\a.map ba=p.code
abbrev FV (h:Hp) (l:Sl) (a:List bK):Prop:=Rs h bC 2 l a
structure gL (h:Hp) (c:al) (p:aI):Prop where
 labels:Us h c.aE p.labels
 table:Is h c.Table p.table
 fuel:c.Fuel=p.fuel
 lane:c.gz=p.lane
 ag:c.bG=p.ag
 log:c.Log=p.log
 procs:∃ps,FV h c.aQ ps/\dj (lF h) ps p.procs
section
variable {h b:Hp}
theorem lF.mono (f:h<=b) {q:bK} {p:fq} (a:lF h q p):lF b q p:=by obtain ⟨c,g,d,e⟩:=a;exact ⟨c,g,Rw.mono f d,e⟩
theorem gL.mono (d:h<=b) {c:al} {p:aI} (a:gL h c p):gL b c p:=by obtain ⟨i,f,g⟩:=a.procs;exact ⟨Rw.mono d a.labels,Rw.mono d a.table,a.fuel,a.lane,a.ag,a.log,i,Rw.mono d f,g.imp λ_ _ e=>e.mono d⟩
end
section
variable {P:Program} {h:Hp}
theorem vu {n a b:Int} {Q:Bool->Hp->Prop} (c:Q (within n a b) h):zwv P n a b Q h:=by unfold zwv;exact aU c
theorem CC {n dR:Int} {Q:Int->Hp->Prop} (a:Q (eK dR n) h):CW P n dR Q h:=by unfold CW;unfold eK at a;grind
def nz (part n:Int):Int:=if part=2 then cn 1 256 n else if part=3 then cn 1 64 n else if part=4 then cn 0 8 n else if part=5 then cn 0 4096 n else 0
theorem L7 {part n:Int} {Q:Int->Hp->Prop} (c:Q (nz part n) h):zwu prog part n Q h:=by
 unfold zwu;unfold nz at c;have one:∀a b,Q (cn a b n) h->(if (!(within n a b))=true then Q 2 h else Q 0 h):=λa b c=>by unfold cn at c;grind
 by_cases d:part=2
 ·rw [if_pos d] at c;rw [if_pos (by simpa using d)];exact I9 (vu (one 1 256 c))
 ·rw [if_neg d] at c;rw [if_neg (by simpa using d)];by_cases e:part=3
  ·rw [if_pos e] at c;rw [if_pos (by simpa using e)];exact I9 (vu (one 1 64 c))
  ·rw [if_neg e] at c;rw [if_neg (by simpa using e)];by_cases f:part=4
   ·rw [if_pos f] at c;rw [if_pos (by simpa using f)];exact I9 (vu (one 0 8 c))
   ·rw [if_neg f] at c;rw [if_neg (by simpa using f)];by_cases g:part=5
    ·rw [if_pos g] at c;rw [if_pos (by simpa using g)];exact I9 (vu (one 0 4096 c))
    grind
end
theorem JH {h:Hp} {s:Sl} {a:List Int} {p:Int->Bool} {f:wg} {Q:Int->Hp->Prop} (r:Is h s a) (w:a.length<=1000000)
  (n:∀x∈a,∀(k:Hp) (K:Bool->Hp->Prop),h<=k->(∀d,h<=d->K (p x) d)->fX prog tb (.func (.func f.g) f.first f.captured) [.int .i64 x] bB K k)
  (q:∀i j,h<=j->(0<=i↔a.any p=true)->Q i j):Qm prog s f Q h:=by
 unfold Qm;have z:=r.1;refine aC.intro (λi k=>h<=k/\0<=i/\i<=(a.length:Int)/\∀x∈a.take i.toNat,p x=false) (λi _=>(a.length-i).toNat) ⟨Hp.le_refl h,by omega,by omega,λx b=>by simp at b⟩ ?_;rintro i k ⟨c,m,v,u⟩;by_cases l:i<(a.length:Int)
 ·rw [if_pos (decide_eq_true (by omega))];refine Rs.get (sh:=af .i64) (Rw.mono c r) (λ_=>rfl) (by omega) m l λx b=> ?_;refine n x (List.mem_of_getElem? b) k _ c λd o=> ?_;cases hp:p x with
  | true=>grind
  | false=>
   rw [if_neg (by simp),wrap64 (by omega) (by omega)];refine ⟨⟨o,by omega,by omega,λy t=> ?_⟩,by omega⟩;have:(i+1).toNat=i.toNat+1:=by omega
   rw [this,List.take_add_one,b] at t;grind
 ·rw [if_neg (λe=>l (by have:=of_decide_eq_true e;omega))];refine q (-1) k c ⟨λe=>by omega,λe=> ?_⟩;obtain ⟨x,b,hp⟩:=List.any_eq_true.1 e;have:a.take i.toNat=a:=List.take_of_length_le (by omega);grind
theorem Vb {s:Sl} {xs:List Int} {Q:Sl->Hp->Prop} {h:Hp} (r:Is h s xs) (j:xs.length<=1000000) (f:∀out b,h<=b->NG h b out xs->Q out b):Fu prog s Q h:=by
 unfold Fu;refine ⟨s.base.isNone,Nu (an.aN 23 rA rfl) s,?_⟩;cases hb:s.base with
 | none=>
  rw [if_pos (show (none:Option Addr).isNone=true from rfl)];have:xs=[]:=by
   rcases r.2.2 with e | ⟨a,i,_⟩
   ·exact List.length_eq_zero_iff.1 (by omega)
   grind
  subst this;exact f _ h (Hp.le_refl h) ⟨rfl,Nat.le_refl _,.inl ⟨rfl,rfl⟩⟩
 | some a=>
  rw [if_neg (by simp)];refine tK (xs:=([]:List Int)) (enc:=λx=>bg ((af .i64).enc x)) (sz:=1) (Hp.le_refl h) rfl (λ_=>rfl) λa g c d=> ?_;refine Cw c d (Rw.mono c r) (λ_=>rfl) (λ_=>rfl) rfl ?_ λm b k l _=> ?_
  ·simp;omega
  grind
theorem Pz {h:Hp} {t:Sl} {xs:List Int} {n:Int} {Q:Option Addr->Int->Int->Hp->Prop} (r:Is h t xs) (D:1<=n) (F:n<=8) (B:xs≠ []) (G:xs.length<=64)
  (m:∀p i d,h<=d->Q p (if (xs.all λx=>within x 0 (n-1))=false then 2 else 0) i d):Kv prog t n Q h:=by
 unfold Kv;have H:=r.1;have J:0<xs.length:=List.length_pos_iff.2 B;intro b ty z;have l:=lz (o:=.cells (#[Value.int .i64 n]) ty (0,0)) z;have a:aV (h.set b (.cells (#[Value.int .i64 n]) ty (0,0))) ⟨b,0,none⟩ [.int .i64 n]:=EV (cs:=[Value.int .i64 n]);refine bt (sh:=af .i64) n a ?_;refine ⟨n,λ_=>a,?_⟩;refine aU (aU ?_);rw [if_neg (by simp;omega),if_neg (by simp;omega)];have y:(xs.any λx=>decide (x<0) || decide (x>=n))= !(xs.all λx=>within x 0 (n-1)):=by
  rw [Bool.eq_iff_iff];simp only [List.any_eq_true,Bool.not_eq_true',List.all_eq_false,Bool.or_eq_true,decide_eq_true_eq];constructor
  ·rintro ⟨x,q,hb⟩;exact ⟨x,q,by rw [cR];omega⟩
  ·rintro ⟨x,q,hb⟩;exact ⟨x,q,by rw [cR] at hb;omega⟩
 refine zhj (f:=⟨JP, #[], #[.pointer (some ⟨b,0,none⟩)]⟩) (JH (p:=λx=>decide (x<0) || decide (x>=n)) (Rw.mono l r) (by omega) (λx _ k K u w=> ?_) λi d c j=> ?_)
 ·refine sN (g:=JP) rfl (zzb ?_);unfold zwy;refine ⟨n,λ_=>ns u a,aU (w k u)⟩
 ·dsimp only;rw [y] at j;cases s:(xs.all λx=>within x 0 (n-1)) with
  | false=>rw [s] at j m;rw [if_pos (decide_eq_true (j.2 rfl))];exact m none i d (Hp.le_trans l c)
  | true=>rw [s] at j m;rw [if_neg (λe=>by grind)];refine bt (sh:=af .i64) n (ns c a) ?_;refine MD (Vb (Rw.mono (Hp.le_trans l c) r) (by omega) λout E v I=> ?_);refine ⟨⟨ns (Hp.le_trans c v) a,trivial⟩,?_⟩;intro C t2 A;exact m _ 0 _ (Hp.le_trans (Hp.le_trans l c) (Hp.le_trans v (lz A)))
def mV :List Int->Int->Int×Int->Int×Int
 | [],_,z=>z
 | n::r,i,z=>if nz i n≠0 then (nz i n,i) else mV r (i+1) z
def qn (c:aI):Int×Int:=if c.procs=[] then (1,6) else if 32<c.procs.length then (3,6) else sX c.labels.length c.ag c.procs 0
theorem Vd (m:Int) (c:aI):qX m c=if m≠0 then (m,0) else if c.table=[] then (1,1) else if 64<c.table.length then (3,1)
  else if (c.table.all λp=>within p 0 (c.labels.length-1))=false then (2,1) else mV [0,0,c.fuel,c.lane,c.ag,c.log] 0 (qn c):=by
 unfold qX;have a:nz 0 0=0:=rfl;have b:nz (0+1) 0=0:=rfl;have d:nz (0+1+1) c.fuel=cn 1 256 c.fuel:=rfl;have e:nz (0+1+1+1) c.lane=cn 1 64 c.lane:=rfl;have f:nz (0+1+1+1+1) c.ag=cn 0 8 c.ag:=rfl;have g:nz (0+1+1+1+1+1) c.log=cn 0 4096 c.log:=rfl;simp only [mV,a,b,d,e,f,g,ne_eq,not_true_eq_false,if_false];unfold cn qn;grind
def hU (c:aI):Int×Int:=qX (iG c.labels).1 c
theorem SR {h:Hp} {c:al} {p:aI} {Q:Int->Int->Hp->Prop} (a:gL h c p) (b:∀z,h<=z->Q (hU p).1 (hU p).2 z):Dh prog c Q h:=by
 unfold Dh;have le:=Hp.le_refl h;unfold hU at b;rw [Vd] at b;refine Z7 (CA a.labels ?_);dsimp only;by_cases m:(iG p.labels).1≠0
 ·grind
 rw [if_neg m] at b;rw [if_neg (by simpa using m)];obtain ⟨O,b1,_⟩:=gT.1 (Classical.not_not.1 m);have R:=a.labels.1;have U:=a.table.1;have b2:0<p.labels.length:=List.length_pos_iff.2 O;refine Z5 (CC ?_);by_cases g:p.table=[]
 ·rw [if_pos g] at b;have e:eK 64 (c.Table.len:Int)=1:=by unfold eK;rw [if_pos (by rw [U,g];rfl)]
  grind
 rw [if_neg g] at b;have b4:0<p.table.length:=List.length_pos_iff.2 g;by_cases A:64<p.table.length
 ·rw [if_pos A] at b;have e:eK 64 (c.Table.len:Int)=3:=by unfold eK;rw [if_neg (by omega),if_pos (by omega)]
  grind
 rw [if_neg A] at b;have e:eK 64 (c.Table.len:Int)=0:=by unfold eK;omega
 rw [e,if_neg (by simp)];rw [R];refine HR (Pz a.table (by omega) (by omega) g (by omega) λsp si B a8=> ?_);dsimp only;by_cases L:(p.table.all λx=>within x 0 (p.labels.length-1))=false
 ·grind
 rw [if_neg L] at b;rw [if_neg (by grind)];refine tK (h0:=B) (xs:=([0,0,p.fuel,p.lane,p.ag,p.log]:List Int)) (enc:=λx=>bg ((af .i64).enc x)) (sz:=1) (Hp.le_refl B) (by rw [a.fuel,a.lane,a.ag,a.log];rfl) (λ_=>rfl) λy C a9 o4=> ?_;have r4:Is C ⟨some y,6,6⟩ [0,0,p.fuel,p.lane,p.ag,p.log]:=o4.rw λ_=>rfl;have b0:=Hp.le_trans a8 a9;obtain ⟨w,H,F⟩:=a.procs;have S:=H.1;have T:=F.len;refine aC.intro (λi k=>C<=k/\0<=i/\i<=6/\mV (([0,0,p.fuel,p.lane,p.ag,p.log]:List Int).drop i.toNat) i (qn p)=mV [0,0,p.fuel,p.lane,p.ag,p.log] 0 (qn p)) (λi _=>(6-i).toNat) ⟨Hp.le_refl _,by omega,by omega,rfl⟩ ?_;rintro i k ⟨t,h0,M,d⟩;have P:=Hp.le_trans b0 t;by_cases o:i<6
 ·rw [if_pos (decide_eq_true o)];refine Rs.get (sh:=af .i64) (l:=⟨some y,6,6⟩) (Rw.mono t r4) (λ_=>rfl) (by omega) h0 (by simpa using o) λx I=> ?_;refine zza (L7 ?_);have s:([0,0,p.fuel,p.lane,p.ag,p.log]:List Int).drop i.toNat=x::([0,0,p.fuel,p.lane,p.ag,p.log]:List Int).drop (i.toNat+1):=by grind
  rw [s,mV] at d;by_cases f:nz i x≠0
  ·grind
  ·rw [if_neg f] at d;rw [if_neg (by simpa using f),wrap64 (by omega) (by omega)];refine ⟨⟨t,by omega,by omega,?_⟩,by omega⟩;have:(i+1).toNat=i.toNat+1:=by omega
   grind
 ·rw [if_neg (λe=>o (of_decide_eq_true e))];have:i=6:=by omega
  subst this;rw [show ([0,0,p.fuel,p.lane,p.ag,p.log]:List Int).drop (6:Int).toNat=[] from rfl,mV] at d;rw [<-d] at b;unfold qn at b;refine Z5 (CC ?_);by_cases f:p.procs=[]
  ·rw [if_pos f] at b;have e:eK 32 (c.aQ.len:Int)=1:=by unfold eK;rw [if_pos (by rw [S,T,f];rfl)]
   grind
  rw [if_neg f] at b;have b3:0<p.procs.length:=List.length_pos_iff.2 f;by_cases D:32<p.procs.length
  ·rw [if_pos D] at b;have e:eK 32 (c.aQ.len:Int)=3:=by unfold eK;rw [if_neg (by omega),if_pos (by omega)]
   grind
  rw [if_neg D] at b;have e:eK 32 (c.aQ.len:Int)=0:=by unfold eK;omega
  rw [e,if_neg (by simp)];refine aC.intro (λi J=>k<=J/\0<=i/\i<=(w.length:Int)/\sX p.labels.length p.ag (p.procs.drop i.toNat) i=sX p.labels.length p.ag p.procs 0) (λi _=>(w.length-i).toNat) ⟨Hp.le_refl _,by omega,by omega,rfl⟩ ?_;rintro i J ⟨G,h0,M,d⟩;have u:=Hp.le_trans P G;by_cases E:i<(w.length:Int)
  ·rw [if_pos (decide_eq_true (by omega))];refine Rs.get (sh:=bC) (Rw.mono u H) (λ_=>rfl) (by omega) h0 E λq I=> ?_;obtain ⟨v,W,X,is,N,V⟩:=F.get I;have s:p.procs.drop i.toNat=v::p.procs.drop (i.toNat+1):=by obtain ⟨b5,Y⟩:=List.getElem?_eq_some_iff.1 W;rw [<-Y];simp
   rw [s,sX] at d;rw [wrap64 (n:=(p.labels.length:Int)-1) (by omega) (by omega)];refine I9 (vu ?_);rw [X];by_cases r:within v.part 0 ((p.labels.length:Int)-1)=false
   ·rw [if_pos r] at d;rw [if_pos (by rw [r];rfl),wrap64 (by omega) (by omega)];grind
   rw [if_neg r] at d;rw [if_neg (by grind)];refine abv (SN (Rw.mono u N) λZ K=> ?_);dsimp only;rw [V,a.ag];by_cases j:(iK v.code p.ag).1≠0
   ·rw [if_pos j] at d;rw [if_pos (by simpa using j),wrap64 (by omega) (by omega)];rw [<-d] at b;exact b Z (Hp.le_trans u K)
   ·rw [if_neg j] at d;rw [if_neg (by simpa using j),wrap64 (by omega) (by omega)];refine ⟨⟨Hp.le_trans G K,by omega,by omega,?_⟩,by omega⟩;grind
  ·rw [if_neg (λe=>E (by have:=of_decide_eq_true e;omega))];rw [List.drop_eq_nil_of_le (by omega),sX] at d;grind
def vG (x:bH):mr:=⟨x.dd,x.dV⟩
def vR (x:fF):pJ:=⟨x.gO,x.dd,x.dV⟩
abbrev F7 (h:Hp) (l:Sl) (a:List bH):Prop:=Rs h aF 2 l a
abbrev NC (h:Hp) (l:Sl) (a:List fF):Prop:=Rs h fO 3 l a
structure kF (h:Hp) (x:cH) (p:bm):Prop where
 values:Is h x.fK p.values
 waiters:∃ws,F7 h x.dk ws/\ws.map vG=p.waiters
 taken:x.kT=p.taken
 dropped:x.ie=p.dropped
structure fm (h:Hp) (x:bR) (p:au):Prop where
 state:x.State=p.state
 pc:x.PC=p.pc
 br: [x.cv,x.cw,x.cx,x.cC,x.cD,x.cE,x.cF,x.cG]=p.br
 aj:x.Cursor=p.aj
 timer:x.Timer=p.timer
 bN:x.kP=p.bN
 cJ:x.pT=p.cJ
 ak:∃ls,Rs h cL 4 x.jH ls/\dj (kF h) ls p.ak
structure jI (h:Hp) (x:cU) (p:dB):Prop where
 aj:x.Cursor=p.aj
 log:∃es,NC h x.Log es/\es.map vR=p.log
 lost:x.pP=p.lost
 forbidden:x.fE=p.forbidden
 az:Is h x.eA p.az
 aw:∃qs,Rs h av 1 x.gl qs/\dj (Is h) qs p.aw
structure fA (h:Hp) (x:aZ) (p:gN):Prop where
 tick:x.gO=p.tick
 parts:∃ps,Rs h dI 6 x.eo ps/\dj (jI h) ps p.parts
 procs:∃ps,Rs h cO 15 x.aQ ps/\dj (fm h) ps p.procs
section
variable {h b:Hp}
theorem kF.mono (c:h<=b) {x:cH} {p:bm} (a:kF h x p):kF b x p:=by obtain ⟨f,d,e⟩:=a.waiters;exact ⟨Rw.mono c a.values,⟨f,Rw.mono c d,e⟩,a.taken,a.dropped⟩
theorem fm.mono (c:h<=b) {x:bR} {p:au} (a:fm h x p):fm b x p:=by obtain ⟨g,d,f⟩:=a.ak;exact ⟨a.state,a.pc,a.br,a.aj,a.timer,a.bN,a.cJ,g,Rw.mono c d,f.imp λ_ _ e=>e.mono c⟩
theorem jI.mono (c:h<=b) {x:cU} {p:dB} (a:jI h x p):jI b x p:=by obtain ⟨es,d,f⟩:=a.log;obtain ⟨qs,g,i⟩:=a.aw;exact ⟨a.aj,⟨es,Rw.mono c d,f⟩,a.lost,a.forbidden,Rw.mono c a.az,qs,Rw.mono c g,i.imp λ_ _ e=>Rw.mono c e⟩
theorem fA.mono (c:h<=b) {x:aZ} {p:gN} (a:fA h x p):fA b x p:=by obtain ⟨j,d,f⟩:=a.parts;obtain ⟨qs,g,i⟩:=a.procs;exact ⟨a.tick,⟨j,Rw.mono c d,f.imp λ_ _ e=>e.mono c⟩,qs,Rw.mono c g,i.imp λ_ _ e=>e.mono c⟩
end
section
variable {h:Hp} {c:aI} {s:gN}
end
theorem uM {a:Type} {c:Bool} {A:(a->Hp->Prop)->Hp->Prop} {K:a->Hp->Prop} {h:Hp} (p:a->Prop) (f:a) (g:c=true->(∀x,p x->K x h)->A K h) (d:∀x,(c=true->p x)->K x h):dy (some c) A K h:=
 ⟨λb=>g b λx hp=>d x λ_=>hp,λb=>⟨f,d f λe=>by grind⟩⟩
theorem su {sh:Shape} {c:Bool} {h:Hp} {a:Addr} {K:sh.T->Prop} (x:sh.T) (d:aV h a (bg (sh.enc x))) (b:K x):aP (some c) sh h a K:=⟨x,λ_=>d,b⟩
section
variable {h:Hp} {c:aI} {s:gN}
end
def nH {e f:Type} (R:e->f->Hp->List Nat->Prop):List e->List f->Hp->List Nat->Prop
 | [],[],_,B=>B=[]
 | a::l,b::m,h,B=>∃c d,B=c++d/\R a b h c/\nH R l m h d
 | _,_,_,_=>False
structure gH {α β:Type} (R:α->β->Hp->List Nat->Prop):Prop where
 same:∀ {a b h h' B},R a b h B->(∀c∈B,h' c=h c)->R a b h' B
 known:∀ {a b h B},R a b h B->∀c∈B,h c≠none
section
variable {α β:Type} {R:α->β->Hp->List Nat->Prop} {h d:Hp}
theorem nH.same (ok:gH R):∀ {l:List α} {m:List β} {B:List Nat},nH R l m h B->(∀c∈B,d c=h c)->nH R l m d B
 | [],[],_,o,_=>o
 | _::_,_::_,_,⟨b,f,e,i,j⟩,a=>⟨b,f,e,ok.same i λc g=>a c (by grind),nH.same ok j λc g=>a c (by grind)⟩
 | [],_::_,_,o,_=>o.elim
 | _::_,[],_,o,_=>o.elim
theorem nH.known (ok:gH R):∀ {l:List α} {m:List β} {B:List Nat},nH R l m h B->∀c∈B,h c≠none
 | [],[],_,o,c,hc=>by rw [show _=[] from o] at hc;cases hc
 | _::_,_::_,_,⟨f,g,e,a,b⟩,c,hc=>by
  rw [e] at hc;rcases List.mem_append.1 hc with hc | hc
  ·exact ok.known a c hc
  ·exact nH.known ok b c hc
 | [],_::_,_,o,_,_=>o.elim
 | _::_,[],_,o,_,_=>o.elim
theorem nH.snoc {a:α} {b:β} {B':List Nat} (e:R a b h B'):∀ {l:List α} {m:List β} {B:List Nat},nH R l m h B->nH R (l++ [a]) (m++ [b]) h (B++B')
 | [],[],_,o=>by rw [show _=[] from o];exact ⟨B',[],by simp,e,rfl⟩
 | _::_,_::_,_,⟨c,f,j,g,i⟩=>⟨c,f++B',by grind,g,nH.snoc e i⟩
 | [],_::_,_,o=>o.elim
 | _::_,[],_,o=>o.elim
theorem nH.Bp {S:α->β->Prop} (c:∀a b B,R a b h B->S a b):∀ {l:List α} {m:List β} {B:List Nat},nH R l m h B->dj S l m
 | [],[],_,_=>trivial
 | _::_,_::_,_,⟨e,_,_,f,g⟩=>⟨c _ _ e f,nH.Bp c g⟩
 | [],_::_,_,o=>o.elim
 | _::_,[],_,o=>o.elim
theorem c9.one {sz:Nat} {enc:α->List Value} {l:Sl} {a:List α} {F:List Nat} (o:c9 h sz enc l a F):F=[]\/∃b,F=[b]:=by obtain ⟨_,_,o⟩:=o;grind
theorem c9.nodup {sz:Nat} {enc:α->List Value} {l:Sl} {a:List α} {F:List Nat} (o:c9 h sz enc l a F):F.Nodup:=by rcases o.one with e | ⟨b,e⟩<;>rw [e]<;>simp
end
def dO {c d:Type} (S:c->d->Prop) (a:c) (b:d) (_:Hp) (B:List Nat):Prop:=B=[]/\S a b
theorem dO.ok {α β:Type} (S:α->β->Prop):gH (dO S):=⟨λo _=>o,λo c a=>by rw [o.1] at a;cases a⟩
def bu {c:Type} (sh:Shape) (sz:Nat) (R:sh.T->c->Hp->List Nat->Prop) (l:Sl) (d:List c) (h:Hp) (B:List Nat):Prop:=
 ∃(xs:List sh.T) (a b:List Nat),B=a++b/\c9 h sz (λx=>bg (sh.enc x)) l xs a/\nH R xs d h b
section
variable {β:Type} {sh:Shape} {sz:Nat} {R:sh.T->β->Hp->List Nat->Prop} {l:Sl} {ps:List β} {h d:Hp} {B:List Nat}
theorem bu.nil :bu sh sz R ⟨none,0,0⟩ [] h []:=⟨[],[],[],rfl,⟨rfl,Nat.le_refl _,.inl ⟨rfl,rfl,rfl⟩⟩,rfl⟩
theorem bu.ok (ok:gH R):gH (bu sh sz R) where
 same:=by rintro a b h d B ⟨xs,i,j,e,f,g⟩ k;exact ⟨xs,i,j,e,f.same λc hc=>k c (by grind),g.same ok λc hc=>k c (by grind)⟩
 known:=by
  rintro a b h B ⟨xs,i,j,e,f,g⟩ c hc;rw [e] at hc;rcases List.mem_append.1 hc with hc | hc
  ·exact f.known c hc
  ·exact g.known ok c hc
theorem bu.len (o:bu sh sz R l ps h B):l.len=ps.length:=by obtain ⟨xs,c,f,e,a,b⟩:=o;have:=(b.Bp (S:=λ_ _=>True) λ_ _ _ _=>trivial).len;rw [<-this];exact a.1
theorem bu.rows {S:sh.T->β->Prop} (f:∀x,(bg (sh.enc x)).length=sz) (g:∀a b B,R a b h B->S a b) (o:bu sh sz R l ps h B):∃c,Rs h sh sz l c/\dj S c ps:=by obtain ⟨c,k,m,e,i,j⟩:=o;exact ⟨c,i.rw f,j.Bp g⟩
theorem tB (ok:gH R) (o:bu sh sz R l ps h B) {v:sh.T} {p:β} {B':List Nat} (e:R v p h B') (nd:(B++B').Nodup) {x:Sl} (J:Rs h sh sz x [v]) (D:∀x,(bg (sh.enc x)).length=sz) (I:∀x,hH (bg (sh.enc x))=true)
  {zero:List Value} {bytes:Nat} (M:zero.length=sz) (hb:ps.length+1<=140737488355328/\(ps.length+1)*bytes<=140737488355328) {K:Sl->Hp->Prop}
  (F:∀i d k,bu sh sz R i (ps++ [p]) d k->k.Nodup->(∀b j,h b=some j->b∉B->d b=some j)->(∀c∈k,c∈B++B'\/h c=none)->K i d):eS sz bytes zero l x K h:=by
 have G:=o.len;obtain ⟨w,y,f,g,s,u⟩:=o;have L:w.length=ps.length:=by rw [<-G];exact s.1.symm
 have N:=u.known ok;have O:=ok.known e;refine wQ s J D I M (by rw [L];exact hb) λi d n t m=> ?_;rw [g] at nd;have W:=nd;rw [List.append_assoc,List.nodup_append] at nd;obtain ⟨V,Q,S⟩:=nd;have q:∀c∈f++B',c∉y:=λc hc hb=>S c hb c hc rfl;have P:∀c∈f++B',h c≠none:=λc hc=>by
  rcases List.mem_append.1 hc with hc | hc
  ·exact N c hc
  ·exact O c hc
 have r:∀c∈f++B',d c=h c:=rF m P q;have U:=(u.same ok λc hc=>r c (List.mem_append_left _ hc)).snoc (ok.same e λc hc=>r c (List.mem_append_right _ hc));have E:∀c∈n++(f++B'),c∈B++B'\/h c=none:=λc hc=>by
  rcases List.mem_append.1 hc with hc | hc
  ·rcases m.from_ c hc with hc | hc
   ·exact .inl (by rw [g];simp [hc])
   ·exact .inr hc
  ·refine .inl ?_;rw [g,List.append_assoc];exact List.mem_append_right _ hc
 refine F i d (n++(f++B')) ⟨w++ [v],n,f++B',rfl,t,U⟩ ?_ (λb j hb H=>m.bq b j hb λC=>H (by rw [g];simp [C])) E;rw [List.nodup_append];refine ⟨t.nodup,Q,λa z b hb A=> ?_⟩;subst A;rcases m.from_ a z with hc | hc
 ·exact q a hb hc
 grind
end
abbrev wh (l:Sl) (a:List Int) (h:Hp) (B:List Nat):Prop:=bu (af .i64) 1 (dO Eq) l a h B
abbrev Bo (l:Sl) (a:List Int) (h:Hp) (B:List Nat):Prop:=bu (af .u64) 1 (dO Eq) l a h B
abbrev pf (l:Sl) (xs:List cp) (h:Hp) (B:List Nat):Prop:=bu aM 5 (dO λx p=>ba x=p) l xs h B
def oe (q:bK) (p:fq) (h:Hp) (B:List Nat):Prop:=q.Part=p.part/\pf q.Code p.code h B
abbrev xL (l:Sl) (a:List fq) (h:Hp) (B:List Nat):Prop:=bu bC 2 oe l a h B
def pN (x:cH) (p:bm) (h:Hp) (B:List Nat):Prop:=
 ∃a b,B=a++b/\wh x.fK p.values h a/\bu aF 2 (dO λx p=>vG x=p) x.dk p.waiters h b/\x.kT=p.taken/\x.ie=p.dropped
def kS (x:bR) (p:au) (h:Hp) (B:List Nat):Prop:=
 bu cL 4 pN x.jH p.ak h B/\x.State=p.state/\x.PC=p.pc/\ [x.cv,x.cw,x.cx,x.cC,x.cD,x.cE,x.cF,x.cG]=p.br/\x.Cursor=p.aj/\x.Timer=p.timer/\x.kP=p.bN/\x.pT=p.cJ
def sb (x:cU) (p:dB) (h:Hp) (B:List Nat):Prop:=
 ∃a b c,B=a++(b++c)/\bu fO 3 (dO λx p=>vR x=p) x.Log p.log h a/\wh x.eA p.az h b/\bu av 1 wh x.gl p.aw h c/\x.Cursor=p.aj/\x.pP=p.lost/\x.fE=p.forbidden
def qV (x:aZ) (p:gN) (h:Hp) (B:List Nat):Prop:=
 ∃a b,B=a++b/\bu dI 6 sb x.eo p.parts h a/\bu cO 15 kS x.aQ p.procs h b/\x.gO=p.tick
def nE (x:al) (c:aI) (h:Hp) (B:List Nat):Prop:=
 ∃a b d,B=a++(b++d)/\Bo x.aE c.labels h a/\wh x.Table c.table h b/\xL x.aQ c.procs h d/\x.Fuel=c.fuel/\x.gz=c.lane/\x.bG=c.ag/\x.Log=c.log
theorem gu :gH wh:=bu.ok (dO.ok _)
theorem fM :gH Bo:=bu.ok (dO.ok _)
theorem gE :gH pf:=bu.ok (dO.ok _)
theorem rQ :gH oe:=⟨λo a=>⟨o.1,gE.same o.2 a⟩,λo=>gE.known o.2⟩
theorem iu :gH xL:=bu.ok rQ
theorem cN {a b:List Nat} {c:Nat} (h:c∈a):c∈a++b:=List.mem_append_left _ h
theorem cq {b a:List Nat} {c:Nat} (h:c∈a):c∈b++a:=List.mem_append_right _ h
theorem rR :gH pN where
 same:=by rintro a b h k B ⟨f,g,rfl,d,e,j⟩ i;exact ⟨f,g,rfl,gu.same d λc hc=>i c (cN hc),(bu.ok (dO.ok _)).same e λc hc=>i c (cq hc),j⟩
 known:=by
  rintro a b h B ⟨f,g,rfl,d,e,j⟩ c hc;rcases List.mem_append.1 hc with hc | hc
  ·exact gu.known d c hc
  ·exact (bu.ok (dO.ok _)).known e c hc
theorem vv :gH kS:=⟨λo a=>⟨(bu.ok rR).same o.1 a,o.2⟩,λo=>(bu.ok rR).known o.1⟩
theorem wc :gH sb where
 same:=by rintro a b h m B ⟨i,j,k,rfl,e,f,g,l⟩ d;exact ⟨i,j,k,rfl,(bu.ok (dO.ok _)).same e λc hc=>d c (cN hc),gu.same f λc hc=>d c (cq (cN hc)),(bu.ok gu).same g λc hc=>d c (cq (cq hc)),l⟩
 known:=by
  rintro a b h B ⟨i,j,k,rfl,e,f,g,l⟩ c hc;rcases List.mem_append.1 hc with hc | hc
  ·exact (bu.ok (dO.ok _)).known e c hc
  ·rcases List.mem_append.1 hc with hc | hc
   ·exact gu.known f c hc
   ·exact (bu.ok gu).known g c hc
theorem ZM :gH qV where
 same:=by rintro a b h k B ⟨f,g,rfl,d,e,j⟩ i;exact ⟨f,g,rfl,(bu.ok wc).same d λc hc=>i c (cN hc),(bu.ok vv).same e λc hc=>i c (cq hc),j⟩
 known:=by
  rintro a b h B ⟨f,g,rfl,d,e,j⟩ c hc;rcases List.mem_append.1 hc with hc | hc
  ·exact (bu.ok wc).known d c hc
  ·exact (bu.ok vv).known e c hc
theorem ir :gH nE where
 same:=by rintro a b h m B ⟨i,j,k,rfl,e,f,g,l⟩ d;exact ⟨i,j,k,rfl,fM.same e λc hc=>d c (cN hc),gu.same f λc hc=>d c (cq (cN hc)),iu.same g λc hc=>d c (cq (cq hc)),l⟩
 known:=by
  rintro a b h B ⟨i,j,k,rfl,e,f,g,l⟩ c hc;rcases List.mem_append.1 hc with hc | hc
  ·exact fM.known e c hc
  ·rcases List.mem_append.1 hc with hc | hc
   ·exact gu.known f c hc
   ·exact iu.known g c hc
theorem CD {a:Type}:∀ {l m:List a},dj Eq l m->l=m
 | [],[],_=>rfl
 | _::_,_::_,h=>by rw [h.1,CD h.2]
 | [],_::_,h=>h.elim
 | _::_,[],h=>h.elim
theorem yy {a b:Type} {f:a->b}:∀ {l:List a} {m:List b},dj (λx p=>f x=p) l m->l.map f=m
 | [],[],_=>rfl
 | _::_,_::_,h=>by rw [List.map_cons,h.1,yy h.2]
 | [],_::_,h=>h.elim
 | _::_,[],h=>h.elim
section
variable {h:Hp} {B:List Nat}
theorem wh.rd {l:Sl} {xs:List Int} (o:wh l xs h B):Is h l xs:=by obtain ⟨e,c,d⟩:=bu.rows (S:=Eq) (λ_=>rfl) (λa b B o=>o.2) o;rw [<-CD d];exact c
theorem Bo.rd {l:Sl} {xs:List Int} (o:Bo l xs h B):Us h l xs:=by obtain ⟨e,c,d⟩:=bu.rows (S:=Eq) (λ_=>rfl) (λa b B o=>o.2) o;rw [<-CD d];exact c
theorem oe.rd {q:bK} {p:fq} (o:oe q p h B):lF h q p:=by obtain ⟨e,o⟩:=o;obtain ⟨f,c,d⟩:=bu.rows (S:=λx p=>ba x=p) (λ_=>rfl) (λa b B o=>o.2) o;exact ⟨e,f,c,yy d⟩
theorem nE.rd {x:al} {c:aI} (o:nE x c h B):gL h x c:=by obtain ⟨i,j,k,_,e,f,g,f1,f2,f3,d⟩:=o;exact ⟨e.rd,f.rd,f1,f2,f3,d,bu.rows (λ_=>rfl) (λa b B o=>o.rd) g⟩
theorem pN.rd {x:cH} {p:bm} (o:pN x p h B):kF h x p:=by obtain ⟨i,j,_,e,f,f1,f2⟩:=o;obtain ⟨g,c,d⟩:=bu.rows (S:=λx p=>vG x=p) (λ_=>rfl) (λa b B o=>o.2) f;exact ⟨e.rd,⟨g,c,yy d⟩,f1,f2⟩
theorem kS.rd {x:bR} {p:au} (o:kS x p h B):fm h x p:=by obtain ⟨g,f1,f2,f3,c,d,e,f⟩:=o;exact ⟨f1,f2,f3,c,d,e,f,bu.rows (λ_=>rfl) (λa b B o=>o.rd) g⟩
theorem sb.rd {x:cU} {p:dB} (o:sb x p h B):jI h x p:=by obtain ⟨j,k,l,_,e,f,g,f1,f2,f3⟩:=o;obtain ⟨i,c,d⟩:=bu.rows (S:=λx p=>vR x=p) (λ_=>rfl) (λa b B o=>o.2) e;exact ⟨f1,⟨i,c,yy d⟩,f2,f3,f.rd,bu.rows (λ_=>rfl) (λa b B o=>wh.rd o) g⟩
theorem qV.rd {x:aZ} {p:gN} (o:qV x p h B):fA h x p:=by obtain ⟨e,f,_,c,d,f1⟩:=o;exact ⟨f1,bu.rows (λ_=>rfl) (λa b B o=>o.rd) c,bu.rows (λ_=>rfl) (λa b B o=>o.rd) d⟩
end
def iS {d f:Type} {R:d->f->Hp->List Nat->Prop} (ok:gH R) (v:d) (p:f):dh where
 R k F:=∃B,R v p k B/\B.Nodup/\∀b,F b↔b∈B
 same:=λ⟨B,h,n,e⟩ g=>⟨B,ok.same h λc a=>g c ((e c).2 a),n,e⟩
 known:=λ⟨B,h,n,e⟩ c a=>ok.known h c ((e c).1 a)
def fB {d:Type} (sz:Nat) (enc:d->List Value) (l:Sl) (g:List d):dh where
 R k F:=∃B,c9 k sz enc l g B/\∀b,F b↔b∈B
 same:=λ⟨B,h,e⟩ f=>⟨B,h.same λc a=>f c ((e c).2 a),e⟩
 known:=λ⟨B,h,e⟩ c a=>h.known c ((e c).1 a)
section
variable {h0 k:Hp} {α β:Type} {R:α->β->Hp->List Nat->Prop} {ok:gH R}
theorem Has.as_ {v:α} {p:β} (o:Has h0 (iS ok v p) k):∃B,R v p k B/\B.Nodup/\∀b∈B,h0 b=none:=by obtain ⟨_,F,⟨B,h,n,e⟩,a⟩:=o;grind
theorem Has.rm {v:α} {p:β} {B:List Nat} (c:h0<=k) (h:R v p k B) (n:B.Nodup) (a:∀b∈B,h0 b=none):Has h0 (iS ok v p) k:=⟨c,(· ∈B),⟨B,h,n,λ_=>Iff.rfl⟩,a⟩
theorem Has.u4 {sz:Nat} {enc:α->List Value} {l:Sl} {a:List α} (o:Has h0 (fB sz enc l a) k):Has h0 (dK sz enc l a) k:=by obtain ⟨d,F,⟨B,h,e⟩,c⟩:=o;exact Has.BH h d λb hb=>c b ((e b).2 hb)
theorem EZ {b c:Type} {S:b->c->Prop} {h:Hp}:∀ {l:List b} {m:List c},dj S l m->nH (dO S) l m h []
 | [],[],_=>rfl
 | _::_,_::_,a=>⟨[],[],rfl,⟨rfl,a.1⟩,EZ a.2⟩
 | [],_::_,a=>a.elim
 | _::_,[],a=>a.elim
theorem Has.two {i j:Type} {f:i->j->Hp->List Nat->Prop} {l:gH f} {v:α} {p:β} {h:i} {g:j} (o:Has h0 ((iS ok v p).star (iS l h g)) k):
  ∃B c,R v p k B/\f h g k c/\(B++c).Nodup/\∀b∈B++c,h0 b=none:=by
 obtain ⟨_,F,⟨m,q,e,d,⟨B,a,n,r⟩,⟨c,b,u,s⟩⟩,t⟩:=o;grind
theorem Has.row {j:Type} {sh:Shape} {sz:Nat} {Q:sh.T->j->Hp->List Nat->Prop} {okQ:gH Q} {l:Sl} {g:List j} {v:sh.T} {p:j} {cs zero:List Value} {bytes:Nat} {K:Sl->Hp->Prop} (o:Has h0 ((iS (bu.ok (sh:=sh) (sz:=sz) okQ) l g).star (iS okQ v p)) k)
  (u:cs=bg (sh.enc v)) (i:∀x,(bg (sh.enc x)).length=sz) (D:∀x,hH (bg (sh.enc x))=true) (E:zero.length=sz) (hb:g.length+1<=140737488355328/\(g.length+1)*bytes<=140737488355328)
  (z:∀f d,Has h0 (iS (bu.ok (sh:=sh) (sz:=sz) okQ) f (g++ [p])) d->K f d):bc cs (λa m=>eS sz bytes zero l ⟨some a,1,1⟩ K m) k:=by
 refine ju (xs:=[v]) (sz:=sz) (enc:=λx=>bg (sh.enc x)) (by rw [u];simp) i λa m C n=> ?_;have o:=o.grow C;obtain ⟨B,H,r,e,nd,w⟩:=o.two;refine tB okQ r e nd (n.jE i) i D E hb λf d I G F A y=> ?_;refine z f d (Has.rm (λb q s=>A b q (o.1 b q s) λhb=> ?_) G F λc t=> ?_)
 ·grind
 ·rcases y c t with h | h
  ·exact w c h
  ·exact pH o.1 h
theorem Has.mU {a:Type} {sh:Shape} {sz:Nat} {Q:sh.T->a->Hp->List Nat->Prop} {okQ:gH Q} (b:h0<=k):Has h0 (iS (bu.ok (sh:=sh) (sz:=sz) okQ) (⟨none,0,0⟩:Sl) ([]:List a)) k:=
 Has.rm b bu.nil .nil λ_ h=>by cases h
theorem Has.iN {d:Type} {sh:Shape} {sz:Nat} {enc:d->List Value} {S:sh.T->d->Prop} {f:d->sh.T} {l:Sl} {c:List d} (o:Has h0 (fB sz enc l c) k) (n:∀x,enc x=bg (sh.enc (f x))) (j:∀x,S (f x) x):
  Has h0 (iS (bu.ok (sh:=sh) (sz:=sz) (dO.ok S)) l c) k:=by
 obtain ⟨q,F,⟨B,⟨s,h,t⟩,e⟩,p⟩:=o;have u:c.flatMap enc=(c.map f).flatMap λx=>bg (sh.enc x):=by rw [List.flatMap_map];congr 1;exact funext n
 have i:∀m:List d,dj S (m.map f) m:=λm=>by
  induction m with
  | nil=>trivial
  | cons a m r=>exact ⟨j a,r⟩
 have g:c9 k sz (λx=>bg (sh.enc x)) l (c.map f) B:=⟨by grind,h,by grind⟩;refine Has.rm q ⟨c.map f,B,[],by simp,g,EZ (i c)⟩ g.nodup λb hb=>p b ((e b).2 hb)
theorem wD {P:Program} {sz:Nat} {enc:α->List Value} {s:Sl} {xs:List α} {p B bytes:Nat} {zero:List Value} {x y:Operand} {Q:Sl->Hp->Prop} (w:P.underlying p=some (.slice B)) (r:Rw k sz enc s xs) (G:0<sz) (j:∀x,(enc x).length=sz) (u:∀x,hH (enc x)=true) (z:zero.length=sz)
  (hb:xs.length<=140737488355328/\xs.length*bytes<=140737488355328) (l:∀f d,k<=d->Has k (fB sz enc f xs) d->Q f d):
  iC none P (cX .eql p x y s.v (.slice none 0 0)) bB k λx=>(if x=true then Q ⟨none,0,0⟩ k else bc [] (λa q=>eS sz bytes zero ⟨(some a),0,0⟩ s (λr t=>Q r t) q) k):=by
 refine ⟨s.base.isNone,Nu w s,?_⟩;cases D:s.base with
 | none=>
  rw [if_pos (show (none:Option Addr).isNone=true from rfl)];have:xs=[]:=by
   rcases r.2.2 with e | ⟨a,C,_⟩
   ·exact List.length_eq_zero_iff.1 ((Nat.mul_eq_zero.1 e).resolve_right (by omega))
   grind
  subst this;exact l _ k (Hp.le_refl k) ⟨Hp.le_refl k,λ_=>False,⟨[],⟨rfl,Nat.le_refl _,.inl ⟨rfl,rfl,rfl⟩⟩,λb=>by simp⟩,λ_ h=>h.elim⟩
 | some a=>
  rw [if_neg (by simp)];refine mn (xs:=([]:List α)) (enc:=enc) (sz:=sz) rfl j λb H E n I A=> ?_;refine wQ A (Rw.mono n r) j u z (by simpa using hb) λf d i o m=> ?_;have g:=m.le (h0:=k) n λc F=>by grind
  exact l f d g.1 ⟨g.1,(· ∈i),⟨i,by simpa using o,λ_=>Iff.rfl⟩,g.2⟩
end
abbrev te (l:Sl) (a:List Int):dh:=iS gu l a
abbrev NI (l:Sl) (a:List mr):dh:=iS (bu.ok (sh:=aF) (sz:=2) (dO.ok λx p=>vG x=p)) l a
section
variable {h0 k:Hp} {q:Addr} {room:Int} {l:bm}
theorem L8 {Q:cH->Hp->Prop} (o:Has h0 (dm q room l) k) (hv:l.values.length<=100) (D:l.waiters.length<=100) (z:∀r g,Has h0 ((dm q room l).star (iS rR r l)) g->Q r g):Wb prog (some q) Q k:=by
 unfold Wb;obtain ⟨x,u,c,d,o⟩:=o.bE;refine aD (o.left.ld (shf:=av) x.values rfl ?_);refine aD (o.left.ld (shf:=av) x.waiters rfl ?_);refine aD (o.left.ld (shf:=af .i64) x.taken rfl ?_);refine aD (o.left.ld (shf:=af .i64) x.dropped rfl ?_);refine zhi ?_;unfold Ql;refine wD (an.aN 184 sH rfl) (o.right.left.jE (λ_=>rfl)) (by decide) (λ_=>rfl) (λ_=>rfl) rfl ⟨by omega,by omega⟩ λj h w A=> ?_;have a:=o.grow w;refine ⟨⟨a.left.eh (n:=1) rfl,a.left.eh (n:=1) rfl,a.left.eh (n:=1) rfl,trivial⟩,?_⟩;refine zdp ?_;unfold OY;refine wD (an.aN 185 qw rfl) (a.right.right.jE (λ_=>rfl)) (by decide) (λ_=>rfl) (λ_=>rfl) rfl ⟨by omega,by omega⟩ λm b y C=> ?_;have i:=a.grow y;refine ⟨⟨i.left.eh (n:=1) rfl,i.left.eh (n:=1) rfl,trivial⟩,?_⟩;refine z _ b ?_;have s:Has k (te j l.values) h:=A.iN (f:=λx=>x) (λ_=>rfl) λ_=>rfl;have t:Has h (NI m l.waiters) b:=C.iN (f:=nk) (λ_=>rfl) λ_=>rfl;have both:=s.beside t;have lane:Has k (iS rR (⟨j,m,x.taken,x.dropped⟩:cH) l) b:=by obtain ⟨B,p,r,e,nd,v⟩:=both.two;exact Has.rm both.le ⟨B,p,rfl,r,e,c,d⟩ nd v
 exact (Has.je o u c d).beside lane
end
section
variable {h0 k:Hp} {q:Addr} {room:Int} {l:bm}
theorem XZ {s:Sl} {b:List mr} {Q:Bool->Hp->Prop} (r:Rw k 2 eW s b) (O:b.length<=1000000) (B:(b.map (·.proc)).Nodup) (S:∀c,k<=c->Q false c):Ck prog s Q k:=by
 unfold Ck;have P:=r.1;intro m u;have J:k<=k.set m (.map #[] 0):=lz u;refine aC.intro (λi c=>k<=c/\0<=i/\i<=(b.length:Int)/\∃f:List (Int×Int),eT c m .i64 (af .i64).enc f/\(∀a,fU a f≠none->a∈(b.take i.toNat).map (·.proc))) (λi _=>(b.length-i).toNat)
  ⟨J,by omega,by omega,[],⟨[],0,lZ,rfl⟩,λa h=>absurd rfl h⟩ ?_
 rintro i c ⟨p,N,T,f,A,t⟩;by_cases F:i<(b.length:Int)
 ·rw [if_pos (decide_eq_true (by omega))];have rs:Rs c aF 2 s (b.map nk):=(r.mono p).map (enc:=λx=>bg (aF.enc x));refine rs.get (λ_=>rfl) (by omega) N (by rw [List.length_map];exact F) λ(x:bH) d=> ?_;rw [List.getElem?_map] at d;cases g:b[i.toNat]? with
  | none=>rw [g] at d;cases d
  | some w=>
   rw [g] at d;have d:x=nk w:=by simpa using d.symm
   subst d;have L:fU w.proc f=none:=by
    cases e:fU w.proc f with
    | none=>rfl
    | some v=>
     have D:=t w.proc (by rw [e];simp);obtain ⟨E,G⟩:=List.getElem?_eq_some_iff.1 g;have H:(b.map (·.proc))=(b.take i.toNat).map (·.proc)++(w.proc::(b.drop (i.toNat+1)).map (·.proc)):=by
      have:b=b.take i.toNat++w::b.drop (i.toNat+1):=by rw [<-G,<-List.drop_eq_getElem_cons E,List.take_append_drop]
      conv=>lhs;rw [this]
      simp
     rw [H] at B;exact absurd rfl ((List.nodup_append.1 B).2.2 _ D _ (List.mem_cons_self ..))
   refine Fh (sh:=af .i64) (z:=(0:Int)) A rfl (λ_=> ?_) λv hv=>by rw [show (nk w).dd=w.proc from rfl,L] at hv;cases hv
   rw [wrap64 (by omega) (by omega)];refine FO (ev:=(af .i64).enc) (v:=(1:Int)) A λo R y=> ?_;have K:k m=none:=u;have I:k<=c.set m o:=vA p K;have n:fU w.proc (jb w.proc (1:Int) f)=some 1:=by rw [vE,if_pos rfl]
   refine Fh (sh:=af .i64) (z:=(0:Int)) y rfl (λhv=>by rw [show (nk w).dd=w.proc from rfl,n] at hv;cases hv) λv hv=> ?_;have M:v=1:=by rw [show (nk w).dd=w.proc from rfl,n] at hv;exact (Option.some.inj hv).symm
   subst M;dsimp only;rw [if_neg (by decide),wrap64 (by omega) (by omega)];refine ⟨⟨I,by omega,by omega,_,y,λa j=> ?_⟩,by omega⟩;have C:(i+1).toNat=i.toNat+1:=by omega
   rw [C,List.take_add_one,g];rw [vE] at j;by_cases e:a=(nk w).dd
   ·rw [e];simp [nk]
   ·rw [if_neg e] at j;have:=t a j;simp only [List.map_append,List.mem_append];exact .inl this
 grind
theorem ZO {Q:Option Addr->Int->Hp->Prop} (d:1<=room/\room<=64) (c:∀p a,k<=a->Has k (da C7 p ⟨room,⟨none,0,0⟩,⟨none,0,0⟩,0,0⟩) a->Q (some p) 0 a):Dn prog room Q k:=by unfold Dn;refine XF ?_;unfold Nh;refine aU ?_;rw [show (decide (room>=1)&&decide (room<=64))=true by simp;omega];dsimp only;rw [if_neg (by decide)];exact qJ (sh:=C7) ⟨room,⟨none,0,0⟩,⟨none,0,0⟩,0,0⟩ rfl λp a b o=>c p a b o
structure ND (room:Int) (l:bm):Prop where
 len:(l.values.length:Int)<=room
 full:l.waiters≠ []->(l.values.length:Int)=room
 taken:jl l.taken
 dropped:jl l.dropped
 once:(l.waiters.map (·.proc)).Nodup
 qY:l.waiters.length<=100
theorem ID {n:Int} {Q:Bool->Hp->Prop} (h:jl n) (a:Q true k):Nh prog n 0 65535 Q k:=by
 unfold Nh;refine aU ?_;have:(decide (n>=0)&&decide (n<=65535))=true:=by unfold jl at h;simp;omega
 grind
theorem ZQ {x:cH} {Q:Option Addr->Int->Hp->Prop} (g:1<=room/\room<=64) (a:kF k x l) (v:ND room l) (C:∀p f,k<=f->Has k (dm p room l) f->Q (some p) 0 f):Dk prog room x Q k:=by
 unfold Dk;refine abE (ZO g λp r h s=> ?_);have hv:=a.values.1;obtain ⟨u,n,D⟩:=a.waiters;have m:u.length=l.waiters.length:=by grind
 have R:=n.1;have P:=v.len;have N:=v.qY;rw [if_neg (by decide)];have w:(decide (((x.dk.len:Nat):Int)>(0:Int))&&decide (((x.fK.len:Nat):Int)<room))=false:=by
  by_cases e:l.waiters=[]
  ·grind
  ·have:=v.full e;grind
 refine aU (aU ?_);rw [w,Bool.or_false,show decide (((x.fK.len:Nat):Int)>room)=false by simp;omega];refine ⟨λ_=>XF (ID (by rw [a.taken];exact v.taken) ?_),λe=>by cases e⟩;refine aU ⟨λ_=>XF (ID (by rw [a.dropped];exact v.dropped) ?_),λe=>by cases e⟩;refine aU ⟨λ_=>XO ?_,λe=>by cases e⟩;have j:Rw r 2 eW x.dk l.waiters:=by have A:Rw r 2 (λx=>bg (aF.enc x)) x.dk u:=Rw.mono h n;obtain ⟨y,z⟩:=A;refine ⟨by rw [y,m],?_⟩;rw [<-m,<-D,List.flatMap_map];exact z
 refine XZ j (by omega) v.once λS c=> ?_;refine aU ?_;rw [if_neg (by decide)];refine zhi ?_;unfold Ql;have hb:=g.2;refine LU (an.aN 184 sH rfl) (xs:=l.values) (enc:=fo) (Rw.mono (Hp.le_trans h c) a.values) (by decide) (λ_=>rfl) (λ_=>rfl) rfl ⟨by omega,by omega⟩ λb T i G=> ?_;refine ⟨⟨trivial,trivial⟩,?_⟩;refine zdp ?_;unfold OY;refine LU (an.aN 185 qw rfl) (xs:=l.waiters) (Rw.mono (Hp.le_trans c i) j) (by decide) (λ_=>rfl) (λ_=>rfl) rfl ⟨by omega,by omega⟩ λd E B H=> ?_;have o:=(s.grow (Hp.le_trans c (Hp.le_trans i B)));have o:Has k ((da C7 p ⟨room,⟨none,0,0⟩,⟨none,0,0⟩,0,0⟩).star ((dK 1 fo b l.values).star (dK 2 eW d l.waiters))) E:=(s.grow c).grow (Hp.le_refl _) |>.beside (G.beside H)
 obtain ⟨O,_,I,put⟩:=o.f1;refine aD (I.st (⟨room,b,⟨none,0,0⟩,0,0⟩:dp) (show (2:Nat)<=5 by decide) rfl λU J=> ?_);refine aD (J.st (⟨room,b,d,0,0⟩:dp) (show (3:Nat)<=5 by decide) rfl λV K=> ?_);refine aD (K.st (⟨room,b,d,x.kT,0⟩:dp) (show (4:Nat)<=5 by decide) rfl λW L=> ?_);refine ⟨⟨trivial,trivial⟩,?_⟩;refine aD (L.st (⟨room,b,d,x.kT,x.ie⟩:dp) (show (5:Nat)<=5 by decide) rfl λF M=> ?_);have t:=put _ _ M;exact C p F t.le (Has.je t rfl a.taken a.dropped)
end
abbrev eP :Addr->List Value:=λa=> [.pointer (some a)]
def a0 :Addr:=⟨0,0,none⟩
def kW :bm:=⟨[],[],0,0⟩
def we (b:List Addr) (room:Int) (a:List bm):dh:=dh.first (λi=>dm (b.getD i a0) room (a.getD i kW)) a.length
def gM (p:Addr) (x:db) (a:List Addr) (room:Int) (b:List bm):dh:=(da Nn p x).star ((dK 1 eP x.ak a).star (we a room b))
def dC (p:Addr) (room:Int) (a:List bm) (aj:Int):dh:=
 .some_ λx:db=>.some_ λb:List Addr=>(gM p x b room a).star (.fact (x.aj=aj/\b.length=a.length))
section
variable {h0 k:Hp} {p:Addr} {room aj:Int} {ls:List bm} {x:db} {c:List Addr}
theorem pL {b:Type} {l:List b} {i:Nat} {a d:b} (h:l[i]? =some a):l.getD i d=a:=by grind
theorem Has.na (o:Has h0 (dC p room ls aj) k):∃x c,x.aj=aj/\c.length=ls.length/\Has h0 (gM p x c room ls) k:=by obtain ⟨x,o⟩:=Has.ex.1 o;obtain ⟨c,o⟩:=Has.ex.1 o;obtain ⟨o,a,b⟩:=o.jc;grind
theorem Has.jQ (o:Has h0 (gM p x c room ls) k) (a:x.aj=aj) (b:c.length=ls.length):Has h0 (dC p room ls aj) k:=Has.ex.2 ⟨x,Has.ex.2 ⟨c,o.fj ⟨a,b⟩⟩⟩
theorem Has.mS {i:Nat} {l:bm} (o:Has h0 (gM p x c room ls) k) (f:ls[i]? =some l):∃a,h0<=a/\Has a (dm (c.getD i a0) room l) k/\∀d b,Has a (dm (c.getD i a0) room d) b->Has h0 (gM p x c room (ls.set i d)) b:=by
 obtain ⟨a,a1,r,put⟩:=o.f3;have m:i<ls.length:=(List.getElem?_eq_some_iff.1 f).1;obtain ⟨h,a2,g,_,s⟩:=r.one m;rw [pL f] at g;refine ⟨h,Hp.le_trans a1 a2,g,λd b q=>put _ _ ?_⟩;have:=s _ _ q;unfold we;rw [List.length_set];refine cast (congrArg (λA=>Has a A b) (sL λj n=> ?_)) this;by_cases e:j=i
 ·subst e;rw [kK,pL (List.getElem?_set_self n)]
 ·rw [kB e];grind
theorem Has.ptr (o:Has h0 (gM p x c room ls) k) (a:c.length=ls.length) {i:Nat} (b:i<ls.length) {K:Option Addr->Prop} (d:K (some (c.getD i a0))):bJ x.ak.base x.ak.len (i:Int)/\aP none ah k (sat x.ak.base 1 (i:Int)) K:=by have rs:Rs k ah 1 x.ak (c.map some):=(o.right.left.jE (λ_=>rfl)).map (f:=some) (enc:=λx=>bg (ah.enc x));refine rs.get (λ_=>rfl) (by omega) (by omega) (by rw [List.length_map];omega) λ(y:Option Addr) e=> ?_;grind
theorem E0 {n:Int} {Q:Bool->Hp->Prop} (o:Has h0 (dC p room ls aj) k) (d:0<=n/\n<ls.length) (e:Q true k):Wd prog (some p) n Q k:=by obtain ⟨x,c,a,b,o⟩:=o.na;unfold Wd;have f:=o.right.left.ic;refine aD ((Has.left o).su (shf:=av) x.ak rfl ?_);refine aU ?_;grind
theorem Has.uV {i:Nat} {l:bm} (o:Has h0 (dC p room ls aj) k) (g:ls[i]? =some l):∃(x:db) (a:Addr) (b:Hp),(∀ {K:Sl->Prop},K x.ak->aP none av k (p.add 0) K)/\(∀ {K:Option Addr->Prop},K (some a)->bJ x.ak.base x.ak.len (i:Int)/\aP none ah k (sat x.ak.base 1 (i:Int)) K)/\h0<=b/\Has b (dm a room l) k/\
  ∀e d,Has b (dm a room e) d->Has h0 (dC p room (ls.set i e) aj) d:=by
 obtain ⟨x,c,h,j,o⟩:=o.na;obtain ⟨b,a1,n,put⟩:=o.mS g;exact ⟨x,_,b,λf=>(Has.left o).ld (shf:=av) x.ak rfl f,λf=>o.ptr j (List.getElem?_eq_some_iff.1 g).1 f,a1,n,λe d m=>(put e d m).jQ h (by grind)⟩
theorem ZR {i:Nat} {l:bm} {v:Int} {Q:Int->Hp->Prop} (o:Has h0 (dC p room ls aj) k) (d:ls[i]? =some l) (h:room<=64) (e:room<=(l.values.length:Int)->Q 19 k)
  (g:∀b,¬room<=(l.values.length:Int)->Has h0 (dC p room (ls.set i (uT v l)) aj) b->Q 0 b):Na prog (some p) (i:Int) v Q k:=by
 unfold Na;refine T9 (E0 o ⟨by omega,by have:=(List.getElem?_eq_some_iff.1 d).1;omega⟩ ?_);obtain ⟨x,a,q,ld,j,_,n,put⟩:=o.uV d;rw [if_neg (by decide)];refine aD (ld (j ?_));exact Sb (ZB n h e λb f m=>g b f (put _ _ m))
theorem X0 {i:Nat} {l:bm} {Q:Hp->Prop} (o:Has h0 (dC p room ls aj) k) (d:ls[i]? =some l) (e:jl l.dropped) (f:∀b,Has h0 (dC p room (ls.set i (lf l)) aj) b->Q b):M4 prog (some p) (i:Int) Q k:=by unfold M4;refine T9 (E0 o ⟨by omega,by have:=(List.getElem?_eq_some_iff.1 d).1;omega⟩ ?_);obtain ⟨x,a,m,ld,g,_,j,put⟩:=o.uV d;rw [if_pos rfl];refine aD (ld (g ?_));exact Q4 (XL j e λb h=>f b (put _ _ h))
theorem yz {b:Type} {f:b->b} {a:List b} {t:Nat} {y:b} (h:a[t]? =some y):((a.take t).map f++a.drop t).set t (f y)=(a.take (t+1)).map f++a.drop (t+1):=by
 obtain ⟨d,g⟩:=List.getElem?_eq_some_iff.1 h;have i:((a.take t).map f).length=t:=by rw [List.length_map,List.length_take];omega
 have e:a.drop t=y::a.drop (t+1):=by rw [List.drop_eq_getElem_cons d,g]
 rw [e,List.set_append_right _ _ (by omega),i,Nat.sub_self,List.set_cons_zero,List.take_add_one,h];simp
theorem E1 {a:Type} {f:a->a} {b:List a} {t:Nat} {y:a} (h:b[t]? =some y):((b.take t).map f++b.drop t)[t]? =some y:=by grind
theorem Vf {w:Int} {Q:Bool->Hp->Prop} (o:Has h0 (dC p room ls aj) k) (u:ls.length<=1000000/\∀l∈ls,l.waiters.length<=100) (t:∀b a,Has h0 (dC p room (ls.map (qK w)) aj) a->Q b a):Wf prog (some p) w Q k:=by
 obtain ⟨x,c,j,C,o⟩:=o.na;unfold Wf;have E:=o.right.left.ic;refine aD ((Has.left o).ld (shf:=av) x.ak rfl ?_);refine bD.intro (λ(_:Bool) (i:Int) a=>0<=i/\i<=(ls.length:Int)/\Has h0 (gM p x c room ((ls.take i.toNat).map (qK w)++ls.drop i.toNat)) a) (λ_ i _=>(ls.length-i).toNat) ⟨by omega,by omega,by simpa using o⟩ ?_;rintro b i a ⟨F,G,o⟩;by_cases q:i<(ls.length:Int)
 ·rw [if_pos (decide_eq_true (by omega))];have s:i.toNat<ls.length:=by omega
  have d:=List.getElem?_eq_getElem s;generalize ls[i.toNat]=l at d;have m:c.length=((ls.take i.toNat).map (qK w)++ls.drop i.toNat).length:=by grind
  obtain ⟨D,_,A,put⟩:=o.mS (E1 d);have g:=o.ptr m (i:=i.toNat) (by omega) (K:=λy=>y=some (c.getD i.toNat a0)) rfl;have f:((i.toNat:Nat):Int)=i:=by omega
  rw [f] at g;refine ⟨λr n=>0<=i/\i<(ls.length:Int)/\Has h0 (gM p x c room ((ls.take (i.toNat+1)).map (qK w)++ls.drop (i.toNat+1))) n,⟨g.1,?_⟩,?_⟩
  ·obtain ⟨y,v,rfl⟩:=g.2;refine ⟨_,v,?_⟩;refine P7 (UU A (u.2 l (List.mem_of_getElem? d)) λh z B=> ?_);have o:=put _ _ B;rw [yz d] at o;grind
  ·rintro h z ⟨_,_,o⟩;rw [wrap64 (by omega) (by omega)];grind
 ·rw [if_neg (λe=>q (by grind))];refine t b a ?_;have f:i.toNat=ls.length:=by omega
  rw [f,List.take_length,List.drop_length,List.append_nil] at o;exact o.jQ j (by grind)
end
section
variable {h0 k:Hp} {p:Addr} {room aj:Int} {ls:List bm} {x:db} {c:List Addr}
theorem Fi {d:Type}:∀ {l:List d} {i:Nat} {a:d},l[i]? =some a->l.set i a=l
 | [],_,_,h=>by cases h
 | b::l,0,a,h=>by cases h;rfl
 | b::l,i+1,a,h=>by rw [List.set_cons_succ,Fi (by simpa using h)]
theorem X1 {w:Int} {Q:Int->Hp->Prop} (o:Has h0 (dC p room ls aj) k) (g:ls.length<=1000000/\∀l∈ls,l.waiters.length<=100/\l.values.length<=100) (F:∀l∈ls,∀z∈l.waiters,z.proc≠w) (H:∀a,Has h0 (dC p room ls aj) a->Q (-1) a):Wr prog (some p) w Q k:=by
 obtain ⟨x,c,v,m,o⟩:=o.na;unfold Wr;have T:=o.right.left.ic;refine aD ((Has.left o).ld (shf:=av) x.ak rfl ?_);refine aC.intro (λ(i:Int) a=>0<=i/\i<=(ls.length:Int)/\Has h0 (gM p x c room ls) a) (λi _=>(ls.length-i).toNat) ⟨by omega,by omega,o⟩ ?_;rintro i a ⟨V,W,o⟩;by_cases D:i<(ls.length:Int)
 ·rw [if_pos (decide_eq_true (by omega))];have q:i.toNat<ls.length:=by omega
  have b:=List.getElem?_eq_getElem q;generalize ls[i.toNat]=l at b;have d:=List.mem_of_getElem? b;obtain ⟨P,_,N,put⟩:=o.mS b;have A:((i.toNat:Nat):Int)=i:=by omega
  have s:=o.ptr m q (K:=λy=>y=some (c.getD i.toNat a0)) rfl;rw [A] at s;obtain ⟨C,y,h,rfl⟩:=s;refine ⟨C,_,h,?_⟩;refine zqe (L8 N (g.2 l d).2 (g.2 l d).1 λr M u=> ?_);have I:ls.set i.toNat l=ls:=Fi b;have O:=put _ _ u.left;rw [I] at O;obtain ⟨B,E,_⟩:=u.right.as_;obtain ⟨f,t,J⟩:=(pN.rd E).waiters;have U:f.length=l.waiters.length:=by grind
  have S:=t.1;have R:=(g.2 l d).1;refine aC.intro (λ(j:Int) a=>a=M/\0<=j/\j<=(f.length:Int)) (λj _=>(f.length-j).toNat) ⟨rfl,by omega,by omega⟩ ?_;rintro j _ ⟨rfl,L,X⟩;by_cases n:j<(f.length:Int)
  ·rw [if_pos (decide_eq_true (by omega))];refine Rs.get (sh:=aF) t (λ_=>rfl) (by omega) L n λ(y:bH) h=> ?_;have G:y.dd≠w:=by
    have:vG y∈l.waiters:=by rw [<-J];exact List.mem_map_of_mem (List.mem_of_getElem? h)
    exact F l d _ this
   rw [if_neg (show ¬(y.dd==w)=true by simp [G]),wrap64 (by omega) (by omega)];grind
  ·rw [if_neg (λe=>n (by have:=of_decide_eq_true e;omega)),wrap64 (by omega) (by omega)];grind
 ·rw [if_neg (λe=>D (by grind))];exact H a (o.jQ v m)
theorem X2 {i:Nat} {l:bm} {w v:Int} {Q:Int->Hp->Prop} (o:Has h0 (dC p room ls aj) k) (g:ls.length<=1000000/\∀l∈ls,l.waiters.length<=100/\l.values.length<=100) (f:∀l∈ls,∀z∈l.waiters,z.proc≠w) (d:ls[i]? =some l) (h:room<=(l.values.length:Int))
  (j:∀b,Has h0 (dC p room (ls.set i (gZ w v l)) aj) b->Q 0 b):Xw prog (some p) (i:Int) w v Q k:=by
 unfold Xw;refine T9 (E0 o ⟨by omega,by grind⟩ ?_);rw [if_neg (by decide)];refine Qc (X1 o g f λs o=> ?_);rw [if_neg (by decide)];obtain ⟨x,a,r,ld,m,_,q,put⟩:=o.uV d;refine aD (ld (m ?_));have e:=List.mem_of_getElem? d;exact Ra (XR q (g.2 l e).1 h (f l e) λb n=>j b (put _ _ n))
theorem ZS {Q:Sl->Hp->Prop} (o:Has h0 (dC p room ls aj) k) (G:ls.length<=1000/\∀l∈ls,l.waiters.length<=100) (F:∀s d,Has h0 ((dC p room (ls.map tj) aj).star (dK 2 eW s (ls.flatMap (·.waiters)))) d->Q s d):YE prog (some p) Q k:=by
 obtain ⟨x,c,v,V,o⟩:=o.na;unfold YE;have hs:=o.right.left.ic;refine aD ((Has.left o).ld (shf:=av) x.ak rfl ?_);have nil:Has k (dK 2 eW (⟨none,0,0⟩:Sl) ([]:List mr)) k:=Has.km (Hp.le_refl _);have D:∀t,((ls.take t).flatMap (·.waiters)).length<=t*100:=by
  have:∀m:List bm,(∀l∈m,l.waiters.length<=100)->(m.flatMap (·.waiters)).length<=m.length*100:=λm=>by
   induction m with
   | nil=>intro _;simp
   | cons a m I=>intro h;have:=I λl b=>h l (List.mem_cons_of_mem _ b);have:=h a (List.mem_cons_self ..);simp only [List.flatMap_cons,List.length_append,List.length_cons];omega
  grind
 refine bD.intro (λ(s:Sl) (i:Int) d=>0<=i/\i<=(ls.length:Int)/\Has h0 ((gM p x c room ((ls.take i.toNat).map tj++ls.drop i.toNat)).star (dK 2 eW s ((ls.take i.toNat).flatMap (·.waiters)))) d) (λ_ i _=>(ls.length-i).toNat)
  ⟨by omega,by omega,by simpa using o.beside nil⟩ ?_
 rintro s i d ⟨i0,i1,o⟩;by_cases C:i<(ls.length:Int)
 ·rw [if_pos (decide_eq_true (by omega))];have E:i.toNat<ls.length:=by omega
  have b:=List.getElem?_eq_getElem E;generalize ls[i.toNat]=l at b;have w:c.length=((ls.take i.toNat).map tj++ls.drop i.toNat).length:=by grind
  obtain ⟨B,_,f,_,j⟩:=o.fst;obtain ⟨W,_,M,put⟩:=f.mS (E1 b);have n:=f.ptr w (i:=i.toNat) (by omega) (K:=λy=>y=some (c.getD i.toNat a0)) rfl;have g:((i.toNat:Nat):Int)=i:=by omega
  rw [g] at n;obtain ⟨A,y,H,rfl⟩:=n;refine ⟨A,_,H,?_⟩;refine Sh (ZC M λr J N=> ?_);have q:Has h0 (((gM p x c room ((ls.take (i.toNat+1)).map tj++ls.drop (i.toNat+1))).star (dK 2 eW s ((ls.take i.toNat).flatMap (·.waiters)))).star (dK 2 eW r l.waiters)) J:=
   N.carry λd L=>by have op:=put _ _ L;rw [yz b] at op;exact j _ _ op
  have a8:l.waiters.length<=100:=G.2 l (List.mem_of_getElem? b);have X:=D i.toNat;have u:(⟨s.base,s.len,s.cap⟩:Sl)=s:=rfl;rw [u];obtain ⟨Y,_,O,_,T⟩:=q.fst;obtain ⟨Z,_,P,_,U⟩:=O.snd;refine P.app (q.right.jE (λ_=>rfl)) (λ_=>rfl) (λ_=>rfl) rfl ⟨by omega,by omega⟩ λs' k3 R=> ?_;have S:=T _ _ (U _ _ R);rw [wrap64 (by omega) (by omega)];refine ⟨⟨by omega,by omega,?_⟩,by omega⟩;rw [show (i+1).toNat=i.toNat+1 by omega];have z:(ls.take (i.toNat+1)).flatMap (·.waiters)=(ls.take i.toNat).flatMap (·.waiters)++l.waiters:=by rw [List.take_add_one,b];simp
  rw [z];exact S.left
 ·rw [if_neg (λe=>C (by grind))];refine F _ d ?_;have g:i.toNat=ls.length:=by omega
  rw [g,List.take_length,List.drop_length,List.append_nil] at o;obtain ⟨B,_,f,_,j⟩:=o.fst;exact j _ _ (f.jQ v (by grind))
end
abbrev ux (l:Sl) (a:List bm):dh:=iS (bu.ok (sh:=cL) (sz:=4) rR) l a
section
variable {h0 k:Hp} {p:Addr} {room aj:Int} {ls:List bm} {x:db} {b:List Addr}
theorem Vh {Q:Sl->Int->Hp->Prop} (o:Has h0 (dC p room ls aj) k) (A:ls.length<=1000/\∀l∈ls,l.waiters.length<=100/\l.values.length<=100) (z:∀s a,Has h0 ((dC p room ls aj).star (ux s ls)) a->Q s aj a):V6 prog (some p) Q k:=by
 obtain ⟨x,b,h,j,o⟩:=o.na;unfold V6;have O:=o.right.left.ic;refine aD ((Has.left o).ld (shf:=av) x.ak rfl ?_);have nil:Has k (ux (⟨none,0,0⟩:Sl) ([]:List bm)) k:=Has.mU (okQ:=rR) (Hp.le_refl _);refine bD.intro (λ(s:Sl) (i:Int) a=>0<=i/\i<=(ls.length:Int)/\Has h0 ((gM p x b room ls).star (ux s (ls.take i.toNat))) a) (λ_ i _=>(ls.length-i).toNat) ⟨by omega,by omega,by simpa using o.beside nil⟩ ?_;rintro s i a ⟨P,R,o⟩;by_cases w:i<(ls.length:Int)
 ·rw [if_pos (decide_eq_true (by omega))];have m:i.toNat<ls.length:=by omega
  have c:=List.getElem?_eq_getElem m;generalize ls[i.toNat]=l at c;have q:=A.2 l (List.mem_of_getElem? c);obtain ⟨v,_,d,_,g⟩:=o.fst;obtain ⟨M,_,E,put⟩:=d.mS c;have n:=d.ptr j m (K:=λy=>y=some (b.getD i.toNat a0)) rfl;have f:((i.toNat:Nat):Int)=i:=by omega
  rw [f] at n;obtain ⟨u,y,B,rfl⟩:=n;refine ⟨u,_,B,?_⟩;refine zqe (L8 E q.2 q.1 λr C F=> ?_);have I:Has h0 (((gM p x b room ls).star (ux s (ls.take i.toNat))).star (iS rR r l)) C:=F.carry λa D=>by have op:=put _ _ D;rw [Fi c] at op;exact g _ _ op
  obtain ⟨N,_,G,_,J⟩:=I.assoc.snd;have t:(⟨s.base,s.len,s.cap⟩:Sl)=s:=rfl;rw [t];refine G.row rfl (λ_=>rfl) (λ_=>rfl) rfl ⟨by rw [List.length_take];omega,by rw [List.length_take];omega⟩ λU S H=> ?_;have T:=J _ _ H;rw [wrap64 (by omega) (by omega)];refine ⟨⟨by omega,by omega,?_⟩,by omega⟩;have L:ls.take (i.toNat+1)=ls.take i.toNat++ [l]:=by rw [List.take_add_one,c];rfl
  grind
 ·rw [if_neg (λe=>w (by grind))];refine aD ((Has.left (Has.left o)).ld (shf:=af .i64) x.aj rfl ?_);rw [h];refine z _ a ?_;have f:i.toNat=ls.length:=by omega
  rw [f,List.take_length] at o;obtain ⟨v,_,d,_,g⟩:=o.fst;exact g _ _ (d.jQ h j)
theorem SS {q:Addr} {l:bm} (d:b.length=ls.length) (o:Has h0 ((we b room ls).star (dm q room l)) k):Has h0 (we (b++ [q]) room (ls++ [l])) k:=by
 unfold we;rw [List.length_append];show Has h0 ((dh.first (λi=>dm ((b++ [q]).getD i a0) room ((ls++ [l]).getD i kW)) ls.length).star (dm ((b++ [q]).getD ls.length a0) room ((ls++ [l]).getD ls.length kW))) k;have a:(b++ [q]).getD ls.length a0=q:=by simp [List.getD,<-d]
 have c:(ls++ [l]).getD ls.length kW=l:=by simp [List.getD]
 rw [a,c];refine cast (congrArg (λA=>Has h0 (A.star (dm q room l)) k) (sL λi e=> ?_)) o;grind
theorem ZT {s:Sl} {u:List cH} {Q:Option Addr->Int->Hp->Prop} (w:1<=room/\room<=64) (W:1<=ls.length/\ls.length<=9) (S:0<=aj/\aj<ls.length) (r:Rs k cL 4 s u) (a:dj (kF k) u ls) (hv:∀l∈ls,ND room l)
  (D:∀p c,k<=c->Has k (dC p room ls aj) c->Q (some p) 0 c):Dj prog room s aj Q k:=by
 unfold Dj;have V:=r.1;have X:=a.len;refine aU (aU (aU ?_));rw [show (decide ((s.len:Int)<1) || decide ((s.len:Int)>9) || decide (room<1) || decide (room>64))=false by simp;omega,if_neg (by decide)];refine aU ?_;rw [show (decide (aj<0) || decide (aj>=(s.len:Int)))=false by simp;omega,if_neg (by decide)];refine qJ (sh:=Nn) ⟨⟨none,0,0⟩,aj⟩ rfl λp d T G=> ?_;have BS:Has k (gM p ⟨⟨none,0,0⟩,aj⟩ [] room []) d:=G.beside ((Has.km (Hp.le_refl d)).beside (Has.fact trivial (Hp.le_refl d)));refine aC.intro (λ(i:Int) c=>0<=i/\i<=(ls.length:Int)/\∃(sl:Sl) (b:List Addr),b.length=i.toNat/\Has k (gM p ⟨sl,aj⟩ b room (ls.take i.toNat)) c) (λi _=>(ls.length-i).toNat) ⟨by omega,by omega,_,[],rfl,BS⟩ ?_;rintro i c ⟨F,Y,sl,b,hp,o⟩;by_cases z:i<(ls.length:Int)
 ·rw [if_pos (decide_eq_true (by omega))];refine Rs.get (sh:=cL) (Rw.mono o.le r) (λ_=>rfl) (by omega) F (by omega) λ(y:cH) E=> ?_;obtain ⟨l,n,C⟩:=a.get E;refine abz (ZQ w (C.mono o.le) (hv l (List.mem_of_getElem? n)) λq Z U H=> ?_);rw [if_neg (by decide)];have o:=(o.beside H);refine aD ((Has.left (Has.left o)).ld (shf:=av) sl rfl ?_);obtain ⟨A,_,f,_,h⟩:=o.fst;obtain ⟨B,_,g,j⟩:=f.f2;refine g.push (e:=q) rfl (λ_=>rfl) (λ_=>rfl) rfl ⟨by omega,by omega⟩ λt k3 I=> ?_;have o:=h _ _ (j _ _ I);obtain ⟨A,_,f,_,h⟩:=o.fst;obtain ⟨B,_,g,j⟩:=f.f1;refine aD (g.st (⟨t,aj⟩:db) (show (1:Nat)<=2 by decide) rfl λk4 J=> ?_);have o:=h _ _ (j _ _ J);rw [wrap64 (by omega) (by omega)];have v:ls.take (i.toNat+1)=ls.take i.toNat++ [l]:=by rw [List.take_add_one,n];rfl
  refine ⟨⟨by omega,by omega,t,b++ [q],by simp;omega,?_⟩,by omega⟩;rw [show (i+1).toNat=i.toNat+1 by omega,v];have M:=o.assoc;obtain ⟨P,_,K,_,N⟩:=M.snd;obtain ⟨R,_,L,_,O⟩:=K.assoc.snd;exact N _ _ (O _ _ (SS (by grind) L))
 ·rw [if_neg (λe=>z (by grind))];have m:i.toNat=ls.length:=by omega
  rw [m,List.take_length] at o;rw [m] at hp;exact D p c o.le (o.jQ rfl hp)
end
abbrev eL :aG->List Value:=λx=>bg (eO.enc x)
def sy :aG:=⟨0,⟨none,0,0⟩⟩
def sY (b:List aG) (a:List (List Int)):dh:=dh.first (λi=>dK 1 fo (b.getD i sy).queue (a.getD i [])) a.length
def cZ (p:Addr) (sl:Sl) (a:List aG) (b:List (List Int)):dh:=(da Fy p ⟨sl⟩).star ((dK 2 eL sl a).star (sY a b))
def mb (p:Addr) (os:List Int) (qs:List (List Int)):dh:=
 .some_ λsl:Sl=>.some_ λa:List aG=>(cZ p sl a qs).star (.fact (a.map (·.owner)=os/\a.length=qs.length))
section
variable {h0 k:Hp} {p:Addr} {os:List Int} {qs:List (List Int)} {sl:Sl} {xs:List aG}
theorem Has.lN (o:Has h0 (mb p os qs) k):∃sl xs,xs.map (·.owner)=os/\xs.length=qs.length/\Has h0 (cZ p sl xs qs) k:=by obtain ⟨sl,o⟩:=Has.ex.1 o;obtain ⟨xs,o⟩:=Has.ex.1 o;obtain ⟨o,a,b⟩:=o.jc;grind
theorem Has.iq (o:Has h0 (cZ p sl xs qs) k) (a:xs.map (·.owner)=os) (b:xs.length=qs.length):Has h0 (mb p os qs) k:=Has.ex.2 ⟨sl,Has.ex.2 ⟨xs,o.fj ⟨a,b⟩⟩⟩
theorem Has.rn {i:Nat} {x:aG} {q:List Int} (o:Has h0 (sY xs qs) k) (f:xs[i]? =some x) (d:qs[i]? =some q):∃h1,h0<=h1/\Has h1 (dK 1 fo x.queue q) k/\∀c b a,Has h1 (dK 1 fo c.queue b) a->Has h0 (sY (xs.set i c) (qs.set i b)) a:=by
 have h:i<qs.length:=(List.getElem?_eq_some_iff.1 d).1;have l:i<xs.length:=(List.getElem?_eq_some_iff.1 f).1;obtain ⟨h1,a1,g,_,put⟩:=Has.one h o;rw [pL f,pL d] at g;refine ⟨h1,a1,g,λc b a n=> ?_⟩;have:=put _ _ n;unfold sY;rw [List.length_set];refine cast (congrArg (λA=>Has h0 A a) (sL λj m=> ?_)) this;by_cases e:j=i
 ·subst e;rw [kK,pL (List.getElem?_set_self l),pL (List.getElem?_set_self m)]
 ·rw [kB e];grind
theorem Has.ub (o:Has h0 (cZ p sl xs qs) k) {K:Sl->Prop} (a:K sl):aP none av k (p.add 0) K:=(Has.left o).ld (shf:=av) sl rfl a
theorem Has.BD (o:Has h0 (cZ p sl xs qs) k):Rs k eO 2 sl xs:=o.right.left.jE (λ_=>rfl)
theorem Has.pA {i:Nat} {x:aG} (o:Has h0 (cZ p sl xs qs) k) (c:xs[i]? =some x) {K:Int->Prop} (b:K x.owner):bJ sl.base sl.len (i:Int)/\aP none (af .i64) k ((sat sl.base 2 (i:Int)).add 0) K:=
 Rw.Fp (sh:=af .i64) (o.right.left.jE (λ_=>rfl)) (λ_=>rfl) (by decide) (λx=>x.owner) (j:=0) (λ_=>rfl) (by omega) (by grind) λy a=>by rw [Int.toNat_natCast,c] at a;cases a;exact b
theorem Has.qh {i:Nat} {x:aG} (o:Has h0 (cZ p sl xs qs) k) (c:xs[i]? =some x) {K:Sl->Prop} (b:K x.queue):bJ sl.base sl.len (i:Int)/\aP none av k ((sat sl.base 2 (i:Int)).add 1) K:=
 Rw.Fp (sh:=av) (o.right.left.jE (λ_=>rfl)) (λ_=>rfl) (by decide) (λx=>x.queue) (j:=1) (λ_=>rfl) (by omega) (by grind) λy a=>by rw [Int.toNat_natCast,c] at a;cases a;exact b
theorem Vj {i:Nat} {x x':aG} (a:xs[i]? =some x) (e:x'.queue=x.queue):sY (xs.set i x') qs=sY xs qs:=by unfold sY;grind
theorem Has.nh {i:Nat} {x:aG} {v:Int} {K:Hp->Prop} (o:Has h0 (cZ p sl xs qs) k) (b:xs[i]? =some x) (c:∀a,Has h0 (cZ p sl (xs.set i ⟨v,x.queue⟩) qs) a->K a):bW k ((sat sl.base 2 (i:Int)).add 0) [.int .i64 v] K:=by obtain ⟨f,_,e,put⟩:=o.f2;refine e.BR (λ_=>rfl) b (x':=⟨v,x.queue⟩) (show (1:Nat)<=2 by decide) rfl λa d=>c a ?_;have:=put _ _ d;unfold cZ;rw [Vj (x':=⟨v,x.queue⟩) b rfl];exact this
theorem Has.rp {i:Nat} {x:aG} {s:Sl} {q b:List Int} {K:Hp->Prop} {h1:Hp} (g:Has h0 ((da Fy p ⟨sl⟩).star ((dK 2 eL sl xs).star (sY (xs.set i ⟨x.owner,s⟩) (qs.set i b)))) k) (d:xs[i]? =some x)
  (c:∀a,Has h0 (cZ p sl (xs.set i ⟨x.owner,s⟩) (qs.set i b)) a->K a):bW k ((sat sl.base 2 (i:Int)).add 1) [s.v] K:=by
 obtain ⟨h,_,f,put⟩:=g.f2;refine f.BR (λ_=>rfl) d (x':=⟨x.owner,s⟩) (show (2:Nat)<=2 by decide) rfl λa e=>c a (put _ _ e)
theorem L9 {n w:Int} {Q:Int->Hp->Prop} (o:Has h0 (mb p os qs) k) (c:0<=n/\n<qs.length) (f:0<=w) (d:Q 0 k):UM prog (some p) n w Q k:=by obtain ⟨sl,xs,a,b,o⟩:=o.lN;unfold UM;have e:=o.right.left.ic;refine aD ((Has.left o).su (shf:=av) sl rfl ?_);refine aU ?_;grind
theorem Ma {w:Int} {Q:Int->Bool->Hp->Prop} (o:Has h0 (cZ p sl xs qs) k) (l:xs.length=qs.length) (d:qs.length<=1000/\∀q∈qs,q.length<=100) (e:∀q∈qs,w∉q) (r:Q 0 false k):UH prog (some p) w Q k:=by
 unfold UH;have s:=o.right.left.ic;refine aD (o.ub ?_);refine aC.intro (λ(i:Int) h=>h=k/\0<=i/\i<=(qs.length:Int)) (λi _=>(qs.length-i).toNat) ⟨rfl,by omega,by omega⟩ ?_;rintro i _ ⟨rfl,g,t⟩;by_cases n:i<(qs.length:Int)
 ·rw [if_pos (decide_eq_true (by omega))];refine o.BD.get (λ_=>rfl) (by omega) g (by omega) λ(y:aG) f=> ?_;have c:i.toNat<qs.length:=by omega
  have a:=List.getElem?_eq_getElem c;generalize qs[i.toNat]=q at a;have b:=List.mem_of_getElem? a;obtain ⟨m,_,j,_⟩:=o.right.right.rn f a;refine zih (JG (j.jE (λ_=>rfl)) (by have:=d.2 q b;omega) ?_);dsimp only;rw [if_neg (by simpa using e q b),wrap64 (by omega) (by omega)];exact ⟨⟨rfl,by omega,by omega⟩,by omega⟩
 grind
theorem Vl {n:Nat} {w a:Int} {Q:Bool->Int->Hp->Prop} {q:List Int} (o:Has h0 (mb p os qs) k) (h:qs.length<=1000/\∀q∈qs,q.length<=100) (y:∀q∈qs,w∉q) (B:0<=w) (z:os[n]? =some a) (f:qs[n]? =some q)
  (h1:(a= -1\/a=w)->∀b,Has h0 (mb p (os.set n w) qs) b->Q true 0 b) (r:¬(a= -1\/a=w)->∀b,Has h0 (mb p os (qs.set n (q++ [w]))) b->Q false 0 b):Vz prog (some p) (n:Int) w Q k:=by
 unfold Vz;have O:n<qs.length:=(List.getElem?_eq_some_iff.1 f).1;refine znr (L9 o ⟨by omega,by omega⟩ B ?_);rw [if_neg (by decide)];obtain ⟨sl,xs,l,m,o⟩:=o.lN;refine znp (Ma o m h y ?_);rw [if_neg (by decide)];obtain ⟨x,d,C⟩:∃x,xs[n]? =some x/\x.owner=a:=by grind
 have t:=(o.pA d (K:=λ_=>True) trivial).1;refine aD (o.ub ⟨t,?_⟩);refine ⟨λ_ b=>∃v,((a= -1/\v=w)\/(a≠ -1/\v=a))/\Has h0 (cZ p sl (xs.set n ⟨v,x.queue⟩) qs) b,?_,?_⟩
 ·refine aD (o.pA d ?_).2;rw [C];by_cases e:a= -1
  ·rw [if_pos (by simp [e])];refine aD (o.nh d λb S=> ?_);grind
  ·rw [if_neg (by simp [e])];refine ⟨a,.inr ⟨e,rfl⟩,?_⟩;have:(⟨a,x.queue⟩:aG)=x:=by cases x;grind
   rw [this,Fi d];exact o
 ·rintro _ E ⟨v,hv,o⟩;have c:(xs.set n ⟨v,x.queue⟩)[n]? =some ⟨v,x.queue⟩:=List.getElem?_set_self (List.getElem?_eq_some_iff.1 d).1;have u:(xs.set n ⟨v,x.queue⟩).length=qs.length:=by grind
  have i:(xs.set n ⟨v,x.queue⟩).map (·.owner)=os.set n v:=by rw [List.map_set,l]
  refine aD (o.pA c ?_).2;dsimp only;by_cases e:v=w
  ·rw [if_neg (show ¬(v !=w)=true by simp [e])];refine aD (o.pA c ?_).2;rw [show (v==w)=true by simp [e]];refine h1 (by omega) E (o.iq ?_ u);rw [i,e]
  ·rw [if_pos (show (v !=w)=true by simp [e])];refine aD (o.qh c ?_).2;obtain ⟨s,_,G,L⟩:=o.f3;obtain ⟨N,_,H,M⟩:=G.rn c f;have P:=h.2 q (List.mem_of_getElem? f);refine H.push (e:=w) rfl (λ_=>rfl) (λ_=>rfl) rfl ⟨by omega,by omega⟩ λg R I=> ?_;have J:=L _ _ (M ⟨v,g⟩ _ _ I);refine aD (Has.rp (x:=⟨v,x.queue⟩) (q:=q) (h1:=s) J c λF j=> ?_);have D:((xs.set n ⟨v,x.queue⟩).set n ⟨v,g⟩)[n]? =some ⟨v,g⟩:=List.getElem?_set_self (List.getElem?_eq_some_iff.1 c).1;refine aD (j.pA D ?_).2;rw [show (v==w)=false by simp [e]];refine r (by omega) F (j.iq ?_ (by grind));rw [List.map_set,i];have A:v=a:=by omega
   subst A;rw [List.set_set,Fi z]
end
def hold (w:Int):List Int->Nat->List Int
 | [],_=> []
 | o::r,i=>if o=w then (i:Int)::hold w r (i+1) else hold w r (i+1)
theorem tC {w:Int}:∀ {os:List Int} {i:Nat} {n:Int},n∈hold w os i->∃j:Nat,n=((i+j:Nat):Int)/\os[j]? =some w
 | [],_,_,h=>by cases h
 | o::r,i,n,h=>by
  unfold hold at h;split at h
  ·rename_i e;rcases List.mem_cons.1 h with h | h
   ·grind
   ·obtain ⟨j,b,a⟩:=tC h;exact ⟨j+1,by omega,by simpa using a⟩
  ·obtain ⟨j,b,a⟩:=tC h;exact ⟨j+1,by omega,by simpa using a⟩
theorem DB {w:Int}:∀ {os:List Int} {i:Nat},(hold w os i).Nodup
 | [],_=>.nil
 | o::r,i=>by
  unfold hold;split
  ·refine List.nodup_cons.2 ⟨λh=> ?_,DB⟩;obtain ⟨j,a,_⟩:=tC h;omega
  ·exact DB
theorem E2 {w:Int}:∀ {os:List Int} {i:Nat},(hold w os i).length<=os.length
 | [],_=>by simp [hold]
 | o::r,i=>by unfold hold;have:=E2 (w:=w) (os:=r) (i:=i+1);grind
theorem Mb {w:Int}:∀ {os:List Int} {i t:Nat} {o:Int},os[t]? =some o->hold w (os.take (t+1)) i=hold w (os.take t) i++(if o=w then [((i+t:Nat):Int)] else [])
 | [],_,_,_,h=>by cases h
 | a::r,i,0,o,h=>by
  have h:a=o:=by simpa using h
  subst h;simp [hold]
 | a::r,i,t+1,o,h=>by have b:=Mb (w:=w) (i:=i+1) (t:=t) (o:=o) (os:=r) (by simpa using h);rw [List.take_succ_cons,List.take_succ_cons];unfold hold;grind
def kC (z:List Int×List (List Int)×List Int) (n:Int):List Int×List (List Int)×List Int:=
 match z.2.1.getD n.toNat [] with
 | []=>(z.1.set n.toNat (-1),z.2.1,z.2.2++ [-1])
 | a::r=>(z.1.set n.toNat a,z.2.1.set n.toNat r,z.2.2++ [a])
theorem Mc {w:Int}:∀ {os:List Int} {qs:List (List Int)} {po:List Int} {pq:List (List Int)} {G:List Int},os.length=qs.length->po.length=pq.length->
  (hold w os po.length).foldl kC (po++os,pq++qs,G)=(po++(iR w os qs).1,pq++(iR w os qs).2.1,G++(iR w os qs).2.2)
 | [],[],po,pq,G,_,_=>by simp [hold,iR]
 | o::os,q::qs,po,pq,G,f,hp=>by
  have f:os.length=qs.length:=by simpa using f
  have step:∀(c:Int) (d:List Int) (b:List Int),(hold w os (po.length+1)).foldl kC (po++c::os,pq++d::qs,b)=(po++c::(iR w os qs).1,pq++d::(iR w os qs).2.1,b++(iR w os qs).2.2):=λc d b=>by have:=Mc (w:=w) (po:=po++ [c]) (pq:=pq++ [d]) (G:=b) f (by simp [hp]);simpa using this
  by_cases e:o=w
  ·unfold hold iR;rw [if_pos e,if_pos e,List.foldl_cons];have i:(pq++q::qs).getD po.length []=q:=by rw [hp];simp [List.getD]
   have g:∀v:Int,(po++o::os).set po.length v=po++v::os:=λv=>by rw [List.set_append_right _ _ (Nat.le_refl _)];simp
   have j:∀v:List Int,(pq++q::qs).set po.length v=pq++v::qs:=λv=>by rw [hp,List.set_append_right _ _ (Nat.le_refl _)];simp
   have k:kC (po++o::os,pq++q::qs,G) (po.length:Int)=(match q with
     | []=>(po++ -1::os,pq++ []::qs,G++ [-1])
     | a::r=>(po++a::os,pq++r::qs,G++ [a])):=by
    unfold kC;dsimp only;rw [Int.toNat_natCast,i];cases q with
    | nil=>dsimp only;rw [g]
    | cons a r=>dsimp only;rw [g,j]
   grind
  ·unfold hold iR;grind
 | [],_::_,_,_,_,h,_=>by cases h
 | _::_,[],_,_,_,h,_=>by cases h
theorem SU (z:List Int×List (List Int)×List Int) (n:Int):(kC z n).1.length=z.1.length/\(kC z n).2.1.length=z.2.1.length:=by unfold kC;split<;>simp
theorem IE :∀(l:List Int) (z:List Int×List (List Int)×List Int),(l.foldl kC z).1.length=z.1.length/\(l.foldl kC z).2.1.length=z.2.1.length
 | [],_=>⟨rfl,rfl⟩
 | n::l,z=>by have a:=IE l (kC z n);have b:=SU z n;grind
theorem JR :∀(l:List Int) (z:List Int×List (List Int)×List Int) (j:Nat),(∀n∈l,n.toNat≠j)->(l.foldl kC z).1[j]? =z.1[j]?/\(l.foldl kC z).2.1[j]? =z.2.1[j]?
 | [],_,_,_=>⟨rfl,rfl⟩
 | n::l,z,j,h=>by
  have c:=JR l (kC z n) j λm b=>h m (List.mem_cons_of_mem _ b);have a:=h n (List.mem_cons_self ..);have d:(kC z n).1[j]? =z.1[j]?/\(kC z n).2.1[j]? =z.2.1[j]?:=by
   unfold kC;split
   ·exact ⟨List.getElem?_set_ne a,rfl⟩
   ·exact ⟨List.getElem?_set_ne a,List.getElem?_set_ne a⟩
  grind
section
variable {h0 k:Hp} {p:Addr} {os:List Int} {qs:List (List Int)} {sl:Sl} {xs:List aG}
theorem abc {n:Nat} {w:Int} (a:xs.map (·.owner)=os) (b:os[n]? =some w):∃x,xs[n]? =some x/\x.owner=w:=by grind
theorem IF {n:Nat} {w:Int} {q:List Int} {Q:Int->Int->Hp->Prop} (o:Has h0 (mb p os qs) k) (E:0<=w) (D:os[n]? =some w) (j:qs[n]? =some q)
  (h1:q=[]->∀g,Has h0 (mb p (os.set n (-1)) qs) g->Q (-1) 0 g) (A:∀a r,q=a::r->∀g,Has h0 (mb p (os.set n a) (qs.set n r)) g->Q a 0 g):VB prog (some p) (n:Int) w Q k:=by
 unfold VB;have V:n<qs.length:=(List.getElem?_eq_some_iff.1 j).1;refine znr (L9 o ⟨by omega,by omega⟩ E ?_);rw [if_neg (by decide)];obtain ⟨sl,xs,h,R,o⟩:=o.lN;obtain ⟨x,b,G⟩:=abc h D;have C:=(o.pA b (K:=λ_=>True) trivial).1;have l:=(List.getElem?_eq_some_iff.1 b).1;refine aD (o.ub ⟨C,?_⟩);refine aD (o.pA b ?_).2;rw [if_neg (show ¬(x.owner !=w)=true by simp [G])];refine aD (o.qh b ?_).2;obtain ⟨S,_,I,W⟩:=o.f3;obtain ⟨T,_,u,X⟩:=I.rn b j;have f:=u.ic;cases q with
 | nil=>have f:x.queue.len=0:=f;rw [if_pos (by simp [f])];refine aD (o.nh (v:= -1) b λs e=> ?_);have d:(xs.set n (⟨-1,x.queue⟩:aG))[n]? =some ⟨-1,x.queue⟩:=List.getElem?_set_self l;refine aD (e.pA d ?_).2;exact h1 rfl s (e.iq (by rw [List.map_set,h]) (by grind))
 | cons a r=>
  have f:x.queue.len=r.length+1:=by simpa using f
  rw [if_neg (by simp;omega)];refine aD (o.qh b ?_).2;have P:Rs k (af .i64) 1 x.queue (a::r):=u.jE (λ_=>rfl);refine P.get (λ_=>rfl) (by omega) (by omega) (by simp) λ(y:Int) m=> ?_;have m:y=a:=by grind
  subst m;refine aD (o.nh (v:=y) b λs e=> ?_);have d:(xs.set n (⟨y,x.queue⟩:aG))[n]? =some ⟨y,x.queue⟩:=List.getElem?_set_self l;refine aD (e.qh d ?_).2;refine aD (e.qh d ?_).2;refine aD (e.qh d ?_).2;obtain ⟨B,_,J,N⟩:=e.f3;obtain ⟨U,_,z,O⟩:=J.rn d j;have i:=z.vc;have i:x.queue.len<=x.queue.cap:=i;refine ⟨by dsimp only;omega,aU ?_⟩;dsimp only;rw [Int.toNat_natCast];have L:=z.pn (λ_=>rfl) (c:=x.queue.len) (Nat.le_refl _) i;have M:=N _ _ (O ⟨y,⟨aW x.queue.base 1 1 x.queue.len,x.queue.len-1,x.queue.len-1⟩⟩ _ _ L);refine aD (Has.rp (x:=⟨y,x.queue⟩) (q:=y::r) (h1:=B) M d λH t=> ?_);have F:((xs.set n (⟨y,x.queue⟩:aG)).set n ⟨y,⟨aW x.queue.base 1 1 x.queue.len,x.queue.len-1,x.queue.len-1⟩⟩)[n]? =some ⟨y,⟨aW x.queue.base 1 1 x.queue.len,x.queue.len-1,x.queue.len-1⟩⟩:=List.getElem?_set_self (by grind);refine aD (t.pA F ?_).2;exact A y r rfl H (t.iq (by rw [List.map_set,List.map_set,h,List.set_set]) (by grind))
theorem Me {w:Int} {Q:Sl->Hp->Prop} (o:Has h0 (mb p os qs) k) (v:qs.length<=1000) (A:0<=w) (t:∀s a,Has h0 ((mb p os qs).star (dK 1 fo s (hold w os 0))) a->Q s a):UJ prog (some p) w Q k:=by
 unfold UJ;obtain ⟨sl,xs,j,l,o⟩:=o.lN;have z:=o.right.left.ic;have x:os.length=qs.length:=by grind
 refine aD (o.ub ?_);have nil:Has k (dK 1 fo (⟨none,0,0⟩:Sl) ([]:List Int)) k:=Has.km (Hp.le_refl _);refine bD.intro (λ(s:Sl) (i:Int) a=>0<=i/\i<=(qs.length:Int)/\Has h0 ((cZ p sl xs qs).star (dK 1 fo s (hold w (os.take i.toNat) 0))) a) (λ_ i _=>(qs.length-i).toNat) ⟨by omega,by omega,by simpa [hold] using o.beside nil⟩ ?_;rintro s i a ⟨u,C,o⟩;by_cases g:i<(qs.length:Int)
 ·rw [if_pos (decide_eq_true (by omega))];refine ⟨λf c=>i<(qs.length:Int)/\Has h0 ((cZ p sl xs qs).star (dK 1 fo f (hold w (os.take (i.toNat+1)) 0))) c,?_,?_⟩
  ·refine (Has.left o).BD.get (λ_=>rfl) (by omega) u (by omega) λ(y:aG) B=>aU ?_;have r:os[i.toNat]? =some y.owner:=by grind
   have b:=Mb (w:=w) (i:=0) r;rw [show (w !=(-1:Int))=true by simp;omega,Bool.and_true];by_cases e:y.owner=w
   ·rw [if_pos (by simp [e])];rw [if_pos e] at b;obtain ⟨n,_,d,_,h⟩:=o.snd;have q:=E2 (w:=w) (os:=os.take i.toNat) (i:=0);rw [List.length_take] at q;refine d.push (e:=i) rfl (λ_=>rfl) (λ_=>rfl) rfl ⟨by omega,by omega⟩ λf c D=> ?_;grind
   ·rw [if_neg (by simp [e])];rw [if_neg e,List.append_nil] at b;exact ⟨g,by rw [b];exact o⟩
  ·rintro f c ⟨_,o⟩;rw [wrap64 (by omega) (by omega)];grind
 ·rw [if_neg (λe=>g (by grind))];refine t _ a ?_;have m:i.toNat=os.length:=by omega
  rw [m,List.take_length] at o;obtain ⟨n,_,d,_,h⟩:=o.fst;exact h _ _ (d.iq j l)
end
abbrev eG :bY->List Value:=λg=> [.int .i64 g.Bk,.int .i64 g.dd]
abbrev wO (l:Sl) (a:List (List Int)):dh:=iS (bu.ok (sh:=av) (sz:=1) gu) l a
section
variable {h0 k:Hp} {p:Addr} {os:List Int} {qs:List (List Int)} {sl:Sl} {xs:List aG}
def eu (w:Int) (q:List Int):List Int:=gP (λz=>decide (z=w)) q
theorem X3 {w:Int} {Q:Sl->Hp->Prop} (o:Has h0 (mb p os qs) k) (hl:qs.length<=1000/\∀q∈qs,q.length<=100) (d6:os.length=qs.length) (hw:0<=w)
  (hq:∀s b gs,gs.map bY.dd=(iR w os (qs.map (eu w))).2.2->Has h0 ((mb p (iR w os (qs.map (eu w))).1 (iR w os (qs.map (eu w))).2.1).star (dK 2 eG s gs)) b->Q s b):Wi prog (some p) w Q k:=by
 unfold Wi;obtain ⟨sl,xs,d,u,o⟩:=o.lN;have hs:=o.right.left.ic;refine aD (o.ub ?_);refine aC.intro (λ(i:Int) b=>0<=i/\i<=(qs.length:Int)/\∃xs,xs.map (·.owner)=os/\xs.length=qs.length/\Has h0 (cZ p sl xs ((qs.take i.toNat).map (eu w)++qs.drop i.toNat)) b) (λi _=>(qs.length-i).toNat) ⟨by omega,by omega,xs,d,u,by simpa using o⟩ ?_;rintro i b ⟨i0,i1,xs,d,u,o⟩;by_cases O:i<(qs.length:Int)
 ·rw [if_pos (decide_eq_true (by omega))];have hi:i.toNat<qs.length:=by omega
  have F:=List.getElem?_eq_getElem hi;generalize qs[i.toNat]=q at F;have Y:=E1 (f:=eu w) F;have b5:i.toNat<xs.length:=by omega
  have H:=List.getElem?_eq_getElem b5;generalize xs[i.toNat]=x at H;have D:((i.toNat:Nat):Int)=i:=by omega
  have d7:=hl.2 q (List.mem_of_getElem? F);refine ⟨λ_ c=>i<(qs.length:Int)/\∃xs,xs.map (·.owner)=os/\xs.length=qs.length/\Has h0 (cZ p sl xs ((qs.take (i.toNat+1)).map (eu w)++qs.drop (i.toNat+1))) c,?_,?_⟩
  ·refine aD (o.ub ?_);have X:=o.qh H (K:=λy=>y=x.queue) rfl;rw [D] at X;obtain ⟨N,y,hy,rfl⟩:=X;refine ⟨N,_,hy,?_⟩;obtain ⟨P,_,o4,d0⟩:=o.f3;obtain ⟨E,_,C,J⟩:=o4.rn H Y;refine zkw (L3 (C.jE (λ_=>rfl)) (by omega) ?_);have U:=Ca (λz:Int=>decide (z=w)) q;by_cases hp:nS w q>=0
   ·rw [if_pos (decide_eq_true hp)];have b7:nS w q<q.length:=JA hp;refine aD (o.ub ?_);refine aD (o.ub ?_);refine ⟨N,_,hy,?_⟩;obtain ⟨n,B⟩:∃n:Nat,nS w q=n:=⟨(nS w q).toNat,by omega⟩;have I:prog.underlying 23=some (.slice 3):=an.aN 23 rA rfl;have b3:∀(M:Sl->Hp->Prop),(∀g b,Has E (dK 1 fo g (q.take n++q.drop (n+1))) b->M g b)->Rp prog x.queue (n:Int) ((n+1:Nat):Int) M b:=λM b0=>by
     unfold Rp;exact Has.Gy (bytes:=8) (z:=.int .i64 0) I (λhK=>D9 an (e:=Fs) rfl hK) (λ_=>rfl) (λ_=>rfl) rfl (λm=>by induction m with
      | zero=>rfl
      | succ m ih=>exact ih) C (by omega) (by omega) ⟨by omega,by omega⟩ b0
    rw [B,wrap64 (by omega) (by omega)];refine zsz (b3 _ λg c R=> ?_);have l:=d0 _ _ (J ⟨x.owner,g⟩ _ _ R);refine ⟨⟨l.left.eh (n:=1) rfl,trivial⟩,N,?_⟩;have c6:q.take n++q.drop (n+1)=eu w q:=by have b8:ia (λz:Int=>decide (z=w)) q=n:=B;show _=gP (λz=>decide (z=w)) q;rw [U,b8,if_pos (by omega),Int.toNat_natCast]
    rw [c6,yz F] at l;have key:bW c ((sat sl.base 2 ((i.toNat:Nat):Int)).add 1) [g.v] λk4=>i<(qs.length:Int)/\∃xs,xs.map (·.owner)=os/\xs.length=qs.length/\Has h0 (cZ p sl xs ((qs.take (i.toNat+1)).map (eu w)++qs.drop (i.toNat+1))) k4:=by obtain ⟨h8,_,S,a8⟩:=l.f2;refine S.BR (λ_=>rfl) H (x':=⟨x.owner,g⟩) (show (2:Nat)<=2 by decide) rfl λk4 o9=> ?_;refine ⟨O,xs.set i.toNat ⟨x.owner,g⟩,?_,by rw [List.length_set];exact u,a8 _ _ o9⟩;rw [List.map_set,d];refine Fi ?_;rw [<-d,List.getElem?_map,H];rfl
    grind
   ·rw [if_neg (λh=>hp (of_decide_eq_true h))];refine ⟨O,xs,d,u,?_⟩;have c5:eu w q=q:=by show gP (λz=>decide (z=w)) q=q;rw [U,if_neg (show ¬0<=ia (λz:Int=>decide (z=w)) q from hp)]
    have:=yz (f:=eu w) F;rw [c5,Fi Y] at this;grind
  ·rintro _ c ⟨_,xs,d,u,o⟩;rw [wrap64 (by omega) (by omega)];refine ⟨⟨by omega,by omega,xs,d,u,?_⟩,by omega⟩;rw [show (i+1).toNat=i.toNat+1 by omega];exact o
 ·rw [if_neg (λe=>O (by grind))];have D:i.toNat=qs.length:=by omega
  rw [D,List.take_length,List.drop_length,List.append_nil] at o;have o:Has h0 (mb p os (qs.map (eu w))) b:=o.iq d (by grind);refine znq (Me o (by grind) hw λs k1 o=> ?_);have d5:=o.right.ic;have d2:=E2 (w:=w) (os:=os) (i:=0);have rs:∀c,Has h0 ((mb p os (qs.map (eu w))).star (dK 1 fo s (hold w os 0))) c->Rw c 1 fo s (hold w os 0):=λc o=>o.right.jE (λ_=>rfl);have nil:Has k1 (dK 2 eG (⟨none,0,0⟩:Sl) ([]:List bY)) k1:=Has.km (Hp.le_refl _);have V:=Mc (w:=w) (os:=os) (qs:=qs.map (eu w)) (po:=[]) (pq:=[]) (G:=[]) (by grind) rfl;simp only [List.nil_append,List.length_nil] at V;refine bD.intro (λ(t:Sl) (i:Int) b=>0<=i/\i<=((hold w os 0).length:Int)/\∃gs:List bY,gs.map bY.dd=(((hold w os 0).take i.toNat).foldl kC (os,qs.map (eu w),[])).2.2/\gs.length=i.toNat/\
   Has h0 (((mb p (((hold w os 0).take i.toNat).foldl kC (os,qs.map (eu w),[])).1 (((hold w os 0).take i.toNat).foldl kC (os,qs.map (eu w),[])).2.1).star (dK 1 fo s (hold w os 0))).star (dK 2 eG t gs)) b) (λ_ i _=>((hold w os 0).length-i).toNat)
   ⟨by omega,by omega,[],by simp,rfl,by simpa using o.beside nil⟩ ?_
  rintro t i b ⟨i0,i1,gs,L,b4,o⟩;by_cases P:i<((hold w os 0).length:Int)
  ·rw [if_pos (decide_eq_true (by omega))];have hr:Rs b (af .i64) 1 s (hold w os 0):=o.left.right.jE (λ_=>rfl);refine hr.get (λ_=>rfl) (by omega) i0 P λ(n:Int) B=> ?_;obtain ⟨j,hj,c4⟩:=tC (List.mem_of_getElem? B);have b6:n=(j:Int):=by omega
   subst b6;generalize I:((hold w os 0).take i.toNat).foldl kC (os,qs.map (eu w),[])=z at o L;have c3:∀m∈(hold w os 0).take i.toNat,m.toNat≠j:=λm hm e=>by
    obtain ⟨a,A⟩:=List.getElem?_of_mem hm;rw [List.getElem?_take] at A;split at A
    ·rename_i b7;obtain ⟨j2,d3,_⟩:=tC (List.mem_of_getElem? A);have em:m=(j:Int):=by omega
     rw [em] at A;have b9:=DB (w:=w) (os:=os) (i:=0);obtain ⟨b1,b2⟩:=List.getElem?_eq_some_iff.1 A;obtain ⟨c1,c2⟩:=List.getElem?_eq_some_iff.1 B;exact List.pairwise_iff_getElem.1 b9 a i.toNat b1 c1 (by omega) (b2.trans c2.symm)
    ·cases A
   have T:=JR ((hold w os 0).take i.toNat) (os,qs.map (eu w),[]) j c3;rw [I] at T;have c7:=IE ((hold w os 0).take i.toNat) (os,qs.map (eu w),[]);rw [I] at c7;have d4:j<qs.length:=by grind
   obtain ⟨q,Z⟩:∃q,z.2.1[j]? =some q:=⟨_,List.getElem?_eq_getElem (by grind)⟩;have c8:z.1[j]? =some w:=T.1.trans c4;obtain ⟨E,_,C,_,J⟩:=o.fst;obtain ⟨h6,_,R,_,d1⟩:=C.fst;have c0:((hold w os 0).take (i.toNat+1)).foldl kC (os,qs.map (eu w),[])=kC z (j:Int):=by rw [List.take_add_one,B,List.foldl_append,I];rfl
   have W:z.2.1.getD j []=q:=pL Z;have fin:∀(v:Int) c,(kC z (j:Int)).2.2=z.2.2++ [v]->Has h6 (mb p (kC z (j:Int)).1 (kC z (j:Int)).2.1) c->
     bc [.int .i64 (j:Int),.int .i64 v] (λa E=>eS 2 16 [(.int .i64 (0:Int)),(.int .i64 (0:Int))] ⟨t.base,t.len,t.cap⟩ ⟨(some a),1,1⟩ (λr3 a9=>
      (λ(t:Sl) (i:Int) b=>0<=i/\i<=((hold w os 0).length:Int)/\∃gs:List bY,gs.map bY.dd=(((hold w os 0).take i.toNat).foldl kC (os,qs.map (eu w),[])).2.2/\gs.length=i.toNat/\
       Has h0 (((mb p (((hold w os 0).take i.toNat).foldl kC (os,qs.map (eu w),[])).1 (((hold w os 0).take i.toNat).foldl kC (os,qs.map (eu w),[])).2.1).star (dK 1 fo s (hold w os 0))).star (dK 2 eG t gs)) b) r3 (yw (i+1)) a9/\((hold w os 0).length-yw (i+1)).toNat<((hold w os 0).length-i).toNat) E) c:=by
    intro v c hv l;have oo:=J _ _ (d1 _ _ l);obtain ⟨h8,_,S,_,a8⟩:=oo.snd;refine S.push (e:=⟨(j:Int),v⟩) rfl (λ_=>rfl) (λ_=>rfl) rfl ⟨by omega,by omega⟩ λs2 k3 o9=> ?_;rw [wrap64 (by omega) (by omega)];refine ⟨⟨by omega,by omega,gs++ [⟨(j:Int),v⟩],?_,?_,?_⟩,by omega⟩
    ·rw [show (i+1).toNat=i.toNat+1 by omega,c0,hv,List.map_append,L];rfl
    ·rw [List.length_append,b4];simp;omega
    grind
   refine zpg (IF R hw c8 Z (λeq c l=> ?_) λa r eq c l=> ?_)
   ·have hg:kC z (j:Int)=(z.1.set j (-1),z.2.1,z.2.2++ [-1]):=by unfold kC;rw [Int.toNat_natCast,W,eq]
    grind
   ·have hg:kC z (j:Int)=(z.1.set j a,z.2.1.set j r,z.2.2++ [a]):=by unfold kC;rw [Int.toNat_natCast,W,eq]
    grind
  ·rw [if_neg (λe=>P (by grind))];have D:i.toNat=(hold w os 0).length:=by omega
   rw [D,List.take_length,V] at o L;refine hq _ b gs L ?_;obtain ⟨E,_,C,_,J⟩:=o.fst;exact J _ _ C.left
end
section
variable {h0 k:Hp} {p:Addr} {os:List Int} {qs:List (List Int)} {sl:Sl} {xs:List aG}
theorem Has.NT {c:Type} {sh:Shape} {sz:Nat} {S:sh.T->c->Prop} {l:Sl} {b:List c} {v:sh.T} {q:c} {d zero:List Value} {bytes:Nat} {K:Sl->Hp->Prop} (o:Has h0 (iS (bu.ok (sh:=sh) (sz:=sz) (dO.ok S)) l b) k) (g:S v q)
  (i:d=bg (sh.enc v)) (j:∀x,(bg (sh.enc x)).length=sz) (n:∀x,hH (bg (sh.enc x))=true) (r:zero.length=sz) (hb:b.length+1<=140737488355328/\(b.length+1)*bytes<=140737488355328)
  (m:∀f e,Has h0 (iS (bu.ok (sh:=sh) (sz:=sz) (dO.ok S)) f (b++ [q])) e->K f e):bc d (λa s=>eS sz bytes zero l ⟨some a,1,1⟩ K s) k:=
 Has.row (okQ:=dO.ok S) (o.beside (Has.rm (Hp.le_refl k) ⟨rfl,g⟩ .nil λ_ h=>by cases h)) i j n r hb m
theorem SV {Q:Sl->Sl->Hp->Prop} (o:Has h0 (mb p os qs) k) (t:qs.length<=1000/\∀q∈qs,q.length<=100) (u:os.length=qs.length)
  (z:∀s a b,Has h0 ((mb p os qs).star ((te s os).star (wO a qs))) b->Q s a b):UE prog (some p) Q k:=by
 unfold UE;obtain ⟨sl,xs,j,l,o⟩:=o.lN;have hs:=o.right.left.ic;refine aD (o.ub ?_);have F:Has k (te (⟨none,0,0⟩:Sl) ([]:List Int)) k:=Has.mU (okQ:=dO.ok Eq) (Hp.le_refl _);have G:Has k (wO (⟨none,0,0⟩:Sl) ([]:List (List Int))) k:=Has.mU (okQ:=gu) (Hp.le_refl _);refine ph.intro (λ(s a:Sl) (i:Int) b=>0<=i/\i<=(qs.length:Int)/\Has h0 ((cZ p sl xs qs).star ((te s (os.take i.toNat)).star (wO a (qs.take i.toNat)))) b) (λ_ _ i _=>(qs.length-i).toNat)
  ⟨by omega,by omega,by simpa using o.beside (F.beside G)⟩ ?_
 rintro s a i b ⟨B,i1,o⟩;by_cases n:i<(qs.length:Int)
 ·rw [if_pos (decide_eq_true (by omega))];refine (Has.left o).BD.get (λ_=>rfl) (by omega) B (by omega) λ(y:aG) A=> ?_;have r:i.toNat<qs.length:=by omega
  have c:=List.getElem?_eq_getElem r;generalize qs[i.toNat]=q at c;have a9:=t.2 q (List.mem_of_getElem? c);have w:os[i.toNat]? =some y.owner:=by grind
  have g:(⟨s.base,s.len,s.cap⟩:Sl)=s:=rfl;have h:(⟨a.base,a.len,a.cap⟩:Sl)=a:=rfl;rw [g,h];obtain ⟨Y,_,J,T⟩:=o.f2;refine J.NT (S:=Eq) (v:=y.owner) (q:=y.owner) rfl rfl (λ_=>rfl) (λ_=>rfl) rfl ⟨by rw [List.length_take];omega,by rw [List.length_take];omega⟩ λs1 C K=> ?_;have o:=T _ _ K;refine MD ?_;unfold Fu;obtain ⟨Z,_,L,_⟩:=(Has.left o).right.right.rn A c;refine wD (an.aN 23 rA rfl) (L.jE (λ_=>rfl)) (by decide) (λ_=>rfl) (λ_=>rfl) rfl ⟨by omega,by omega⟩ λW D a8 E=> ?_;have d:Has C (te W q) D:=E.iN (f:=λx=>x) (λ_=>rfl) λ_=>rfl;have P:=(o.beside d).assoc;obtain ⟨h7,_,M,_,U⟩:=P.snd;obtain ⟨h8,_,N,_,V⟩:=M.assoc.snd;refine Has.row (sh:=av) (okQ:=gu) N rfl (λ_=>rfl) (λ_=>rfl) rfl ⟨by rw [List.length_take];omega,by rw [List.length_take];omega⟩ λs2 k3 O=> ?_;have H:=U _ _ (V _ _ O);rw [wrap64 (by omega) (by omega)];refine ⟨⟨by omega,by omega,?_⟩,by omega⟩;have t1:os.take (i.toNat+1)=os.take i.toNat++ [y.owner]:=by rw [List.take_add_one,w];rfl
  have t2:qs.take (i.toNat+1)=qs.take i.toNat++ [q]:=by rw [List.take_add_one,c];rfl
  rw [show (i+1).toNat=i.toNat+1 by omega,t1,t2];exact H
 ·rw [if_neg (λe=>n (by grind))];refine z _ _ b ?_;have m:i.toNat=qs.length:=by omega
  rw [m,List.take_length,<-u,List.take_length] at o;obtain ⟨X,_,I,_,R⟩:=o.fst;exact R _ _ (I.iq j l)
structure KJ (os:List Int) (qs:List (List Int)):Prop where
 len:os.length=qs.length/\os.length<=8
 own:∀o∈os, -1<=o
 jg:∀(i:Nat) o q,os[i]? =some o->qs[i]? =some q->q.length<=100/\(o= -1->q=[])/\(∀z∈q,0<=z/\z≠o)/\q.Nodup
 once:∀(i j:Nat) q q',qs[i]? =some q->qs[j]? =some q'->i<j->∀z∈q',z∉q
theorem ZU {x:aG} {q:List Int} (c:xs.length=qs.length) (o:Has h0 ((sY xs qs).star (dK 1 fo x.queue q)) k):Has h0 (sY (xs++ [x]) (qs++ [q])) k:=by
 unfold sY;rw [List.length_append];show Has h0 ((dh.first (λi=>dK 1 fo ((xs++ [x]).getD i sy).queue ((qs++ [q]).getD i [])) qs.length).star (dK 1 fo ((xs++ [x]).getD qs.length sy).queue ((qs++ [q]).getD qs.length []))) k;have a:(xs++ [x]).getD qs.length sy=x:=by simp [List.getD,<-c]
 have b:(qs++ [q]).getD qs.length []=q:=by simp [List.getD]
 rw [a,b];refine cast (congrArg (λA=>Has h0 (A.star (dK 1 fo x.queue q)) k) (sL λi d=> ?_)) o;grind
theorem cZ.tl {b:Sl} {K:Hp->Prop} (o:Has h0 ((da Fy p ⟨sl⟩).star ((dK 2 eL b xs).star (sY xs qs))) k) (c:∀a,Has h0 (cZ p b xs qs) a->K a):bW k (p.add 0) [b.v] K:=by obtain ⟨f,_,e,put⟩:=o.f1;exact e.st (⟨b⟩:gw) (show (1:Nat)<=1 by decide) rfl λa d=>c a (put _ _ d)
theorem X4 {N sq:Sl} {B:List Sl} {Q:Option Addr->Int->Hp->Prop} (v:KJ os qs) (Y:Is k N os) (M:Rs k av 1 sq B) (a:dj (Is k) B qs) (hq:∀p c,k<=c->Has k (mb p os qs) c->Q (some p) 0 c):CX prog N sq Q k:=by
 unfold CX;have d4:=Y.1;have d5:=M.1;have d7:=a.len;have a9:=v.len;refine aU ?_;rw [show (decide ((N.len:Int)>8) || decide ((sq.len:Int)>8))=false by simp;omega,if_neg (by decide),if_neg (by simp;omega)];refine qJ (sh:=Fy) ⟨⟨none,0,0⟩⟩ rfl λp I d3 o1=> ?_;have BS:Has k (cZ p ⟨none,0,0⟩ [] []) I:=o1.beside ((Has.km (Hp.le_refl I)).beside (Has.fact trivial (Hp.le_refl I)));refine aC.intro (λ(i:Int) c=>0<=i/\i<=(os.length:Int)/\∃(sl:Sl) (xs:List aG),xs.map (·.owner)=os.take i.toNat/\Has k (cZ p sl xs (qs.take i.toNat)) c) (λi _=>(os.length-i).toNat) ⟨by omega,by omega,_,[],by simp,by simpa using BS⟩ ?_;rintro i c ⟨H,i1,sl,xs,l,o⟩;by_cases P:i<(os.length:Int)
 ·rw [if_pos (decide_eq_true (by omega))];have F:xs.length=i.toNat:=by have:=congrArg List.length l;grind
  refine Rs.get (sh:=af .i64) (Rw.mono o.le Y) (λ_=>rfl) (by omega) H P λ(w:Int) D=> ?_;have d6:=v.own w (List.mem_of_getElem? D);have c8:Rs c av 1 sq B:=Rw.mono o.le M;have hi:i.toNat<qs.length:=by omega
  have f:=List.getElem?_eq_getElem hi;generalize qs[i.toNat]=q at f;obtain ⟨y,T,G⟩:=a.get' f;obtain ⟨v1,v2,v3,v4⟩:=v.jg i.toNat w q D f;refine c8.mP (⟨none,0,0⟩:Sl) (λ_=>rfl) (by omega) (λ_=>⟨H,by omega⟩) λ(y0:Sl) b6=> ?_;have g:((w==(-1:Int))&&decide ((y0.len:Int)>0))=false:=by
   by_cases e:w= -1
   ·have:=b6 (by simp [e]);rw [T] at this;cases this;have b0:=G.1;grind
   ·simp [e]
  refine aU (aU ?_);rw [g,show decide (w<(-1:Int))=false by simp;omega,if_neg (by decide)];refine aD (o.ub ?_);obtain ⟨h4,_,o4,c5⟩:=o.f2;refine o4.push (e:=⟨w,⟨none,0,0⟩⟩) rfl (λ_=>rfl) (λ_=>rfl) rfl ⟨by omega,by omega⟩ λA J o5=> ?_;have o6:=c5 _ _ o5;have nil:Has J (dK 1 fo (⟨w,⟨none,0,0⟩⟩:aG).queue []) J:=Has.km (Hp.le_refl _);have o7:Has k ((da Fy p ⟨sl⟩).star ((dK 2 eL A (xs++ [⟨w,⟨none,0,0⟩⟩])).star (sY (xs++ [⟨w,⟨none,0,0⟩⟩]) (qs.take i.toNat++ [[]])))) J:=by have oo:=(o6.beside nil).assoc;obtain ⟨h8,_,u,_,c6⟩:=oo.snd;obtain ⟨h9,_,d,_,c7⟩:=u.assoc.snd;exact c6 _ _ (c7 _ _ (ZU (by grind) d))
  refine aD (cZ.tl o7 λk3 u=> ?_);have d0:Rs k3 av 1 sq B:=Rw.mono u.le M;refine d0.get (λ_=>rfl) (by omega) H (by omega) λ(h:Sl) U=> ?_;rw [T] at U;cases U;have b0:=G.1;have r:(qs.take i.toNat).length=i.toNat:=by grind
  refine aC.intro (λ(j:Int) c=>0<=j/\j<=(q.length:Int)/\∃(s:Sl),Has k (cZ p A (xs++ [⟨w,s⟩]) (qs.take i.toNat++ [q.take j.toNat])) c) (λj _=>(q.length-j).toNat) ⟨by omega,by omega,_,by simpa using u⟩ ?_;rintro j k4 ⟨j0,j1,s,d⟩;by_cases R:j<(q.length:Int)
  ·rw [if_pos (decide_eq_true (by omega))];have b5:Is k4 y q:=Rw.mono d.le G;refine b5.get (λ_=>rfl) (by omega) j0 R λ(z:Int) g=> ?_;have W:=List.mem_of_getElem? g;have d8:=v3 z W;have b3:(xs++ [(⟨w,s⟩:aG)]).length=(qs.take i.toNat++ [q.take j.toNat]).length:=by simp [r,F]
   refine znp (Ma d b3 ⟨by simp [r];omega,λL hq'=> ?_⟩ (λL hq'=> ?_) ?_)
   ·rcases List.mem_append.1 hq' with hq' | hq'
    ·obtain ⟨b,hb⟩:=List.getElem?_of_mem (List.mem_of_mem_take hq');have d2:=(List.getElem?_eq_some_iff.1 hb).1;exact (v.jg b _ L (List.getElem?_eq_getElem (show b<os.length by omega)) hb).1
    grind
   ·rcases List.mem_append.1 hq' with hq' | hq'
    ·obtain ⟨b,hb⟩:=List.getElem?_of_mem hq';rw [List.getElem?_take] at hb;split at hb
     ·rename_i C;exact v.once b i.toNat L q hb f C z W
     ·cases hb
    ·rw [List.mem_singleton.1 hq'];intro hm;obtain ⟨b,hb⟩:=List.getElem?_of_mem hm;rw [List.getElem?_take] at hb;split at hb
     ·rename_i C;obtain ⟨b1,b2⟩:=List.getElem?_eq_some_iff.1 hb;obtain ⟨c1,c2⟩:=List.getElem?_eq_some_iff.1 g;exact List.pairwise_iff_getElem.1 v4 b j.toNat b1 c1 C (b2.trans c2.symm)
     ·cases hb
   ·refine aU (aU ?_);rw [show (false || decide (z<0) || z==w)=false by simp;omega,if_neg (by decide)];have E:(xs++ [(⟨w,s⟩:aG)])[i.toNat]? =some ⟨w,s⟩:=by rw [<-F];simp
    have b4:(qs.take i.toNat++ [q.take j.toNat])[i.toNat]? =some (q.take j.toNat):=by rw [List.getElem?_append_right (by omega),r];simp
    have m:((i.toNat:Nat):Int)=i:=by omega
    refine aD (d.ub ?_);refine aD (d.ub ?_);have S:=d.qh E (K:=λy=>y=s) rfl;rw [m] at S;obtain ⟨O,Z,V,rfl⟩:=S;refine ⟨O,_,V,?_⟩;obtain ⟨a8,_,b7,c3⟩:=d.f3;obtain ⟨d1,_,b8,c4⟩:=b7.rn E b4;refine ju (xs:=[z]) (sz:=1) (enc:=fo) rfl (λ_=>rfl) λa2 k5 t n5=> ?_;refine ⟨⟨ns t (d.left.eh (n:=1) rfl),ns t (d.left.eh (n:=1) rfl),ns t V,trivial⟩,?_⟩;refine (b8.grow t).app (n5.jE (λ_=>rfl)) (λ_=>rfl) (λ_=>rfl) rfl ⟨by simp [List.length_take];omega,by simp [List.length_take];omega⟩ λs2 k6 b9=> ?_;have X:=c3 _ _ (c4 ⟨w,s2⟩ _ _ b9);refine ⟨⟨X.left.eh (n:=1) rfl,trivial⟩,O,?_⟩;have key:=Has.rp (x:=⟨w,Z⟩) (q:=q.take j.toNat) (h1:=a8) X E λk7 c0=>(show (λh c=>(0<=h/\h<=(q.length:Int)/\∃(s:Sl),Has k (cZ p A (xs++ [⟨w,s⟩]) (qs.take i.toNat++ [q.take h.toNat])) c)/\((q.length:Int)-h).toNat<((q.length:Int)-j).toNat) (yw (j+1)) k7 from by
     rw [wrap64 (by omega) (by omega)];refine ⟨⟨by omega,by omega,s2,?_⟩,by omega⟩;have t1:(xs++ [(⟨w,Z⟩:aG)]).set i.toNat ⟨w,s2⟩=xs++ [⟨w,s2⟩]:=by rw [List.set_append_right _ _ (by omega),<-F];simp
     have t2:(qs.take i.toNat++ [q.take j.toNat]).set i.toNat (q.take j.toNat++ [z])=qs.take i.toNat++ [q.take (j+1).toNat]:=by rw [List.set_append_right _ _ (by omega),r,show (j+1).toNat=j.toNat+1 by omega,List.take_add_one,g];simp
     rw [<-t1,<-t2];exact c0)
    grind
  ·rw [if_neg (λe=>R (by grind))];rw [wrap64 (by omega) (by omega)];have ej:j.toNat=q.length:=by omega
   rw [ej,List.take_length] at d;refine ⟨⟨by omega,by omega,A,xs++ [⟨w,s⟩],?_,?_⟩,by omega⟩
   ·rw [List.map_append,l,show (i+1).toNat=i.toNat+1 by omega,List.take_add_one,D];rfl
   ·rw [show (i+1).toNat=i.toNat+1 by omega,List.take_add_one,f];exact d
 ·rw [if_neg (λe=>P (by grind))];have m:i.toNat=os.length:=by omega
  rw [m,List.take_length] at l;rw [m,a9.1,List.take_length] at o;exact hq p c o.le (o.iq l (by grind))
end
abbrev eE :ay->List Value:=λx=>bg (aR.enc x)
def j8 (a b:ay):Prop:=a.due<b.due\/a.due=b.due/\a.dg<b.dg
theorem ZV (a:ay):¬j8 a a:=by unfold j8;omega
theorem KL {a b c:ay} (h:j8 a b) (k:j8 b c):j8 a c:=by unfold j8 at*;omega
theorem ZW {a b:ay} (h:¬j8 a b) (c:a≠b):j8 b a:=by
 unfold j8 at*;by_cases d:a.due=b.due
 ·by_cases e:a.dg=b.dg
  ·exact absurd (by cases a;cases b;grind) c
  ·omega
 ·omega
def nK (x y:Int):Int:=if x<y then -1 else if x>y then 1 else 0
theorem X5 {x y:Int} {Q:Int->Hp->Prop} {h:Hp} (a:Q (nK x y) h):UK prog x y Q h:=by
 unfold UK;refine zqf ?_;unfold Wo;refine zqf ?_;unfold Wo;dsimp only;rw [if_neg (by simp),if_neg (by simp)];unfold nK at a;by_cases b:x<y
 ·rw [if_pos (by simpa using b)];rw [if_pos b] at a;exact a
 ·rw [if_neg (by simpa using b)];rw [if_neg b] at a;by_cases c:x>y
  ·rw [if_pos (by simpa using c)];rw [if_pos c] at a;exact a
  ·rw [if_neg (by simpa using c)];rw [if_neg c] at a;exact a
theorem Vp {x y:Int} {Q:Int->Hp->Prop} {h:Hp} (a:Q (nK x y) h):Wk prog x y Q h:=by
 unfold Wk;refine ztk ?_;unfold YN;refine ztk ?_;unfold YN;dsimp only;rw [if_neg (by simp),if_neg (by simp)];unfold nK at a;by_cases b:x<y
 ·rw [if_pos (by simpa using b)];rw [if_pos b] at a;exact a
 ·rw [if_neg (by simpa using b)];rw [if_neg b] at a;by_cases c:x>y
  ·rw [if_pos (by simpa using c)];rw [if_pos c] at a;exact a
  ·rw [if_neg (by simpa using c)];rw [if_neg c] at a;exact a
theorem abe {l:Sl} {u v:Int} {Q:Int->Hp->Prop} {h:Hp} (r:Rs h (af .i64) 1 l [u,v]) (d:Q (if u≠0 then u else v) h):Cl prog l Q h:=by
 unfold Cl;have a:=r.1;simp at a;refine aC.intro (λi k=>k=h/\(i=0\/(i=1/\u=0)\/(i=2/\u=0/\v=0))) (λi _=>(2-i).toNat) ⟨rfl,.inl rfl⟩ ?_;rintro i k ⟨rfl,c⟩;have w:yw (i+1)=i+1:=wrap64 (by omega) (by omega);rw [w];by_cases b:i=2
 ·grind
 ·rw [if_pos (show decide (i<(l.len:Int))=true by simp;omega)];refine Rs.get r (λ_=>rfl) (by omega) (by omega) (by simp;omega) λ(x:Int) e=> ?_;grind
def xd (a b:ay):Int:=if nK a.due b.due≠0 then nK a.due b.due else nK a.dg b.dg
theorem sA {a b:ay}:xd a b<0↔j8 a b:=by unfold xd nK j8;omega
theorem IG {a b:ay} {Q:Int->Hp->Prop} {h:Hp} (e:∀c,h<=c->Q (xd a b) c):zwz prog a b Q h:=by unfold zwz;refine Og (X5 ⟨⟨trivial,trivial,trivial⟩,?_⟩);refine P3 (Vp ?_);refine tK (xs:=([nK a.due b.due,nK a.dg b.dg]:List Int)) (enc:=λx=>bg ((af .i64).enc x)) (sz:=1) (Hp.le_refl h) rfl (λ_=>rfl) λa1 d f g=> ?_;exact XQ (dN:=⟨some a1,2,2⟩) (abe (g.rw λ_=>rfl) (e d f))
theorem abg {i j:Int} (d:0<=i) (e:0<=j) (c:i+j<9223372036854775808):yw (gF .u64 (IntKind.wrap .u64 (yw (i+j))) 1)=(i+j) / 2:=by
 rw [wrap64 (by omega) c];have a:IntKind.wrap .u64 (i+j)=i+j:=by
  (try unfold yw);unfold IntKind.wrap
  simp only [IntKind.signed,IntKind.bits];grind
 rw [a];have b:gF .u64 (i+j) 1=(i+j) / 2:=by
  unfold gF;have:min (1:Int).toNat (IntKind.bits .u64)=1:=by decide
  grind
 rw [b,wrap64 (by omega) (by omega)]
theorem Vs {x:Sl} {c:List ay} {d:ay} {Q:Int->Bool->Hp->Prop} {h:Hp} (r:Rw h 2 eE x c) (F:c.length<=4398046511104) (K:c.Pairwise j8)
  (P:∀(i:Nat) b f,h<=f->i<=c.length->(∀e∈c.take i,j8 e d)->(∀e∈c.drop i,¬j8 e d)->Q (i:Int) b f):
  Om prog x d ⟨JQ, #[], #[]⟩ Q h:=by
 unfold Om;have T:=r.1;refine bD.intro (λi j k=>h<=k/\0<=i/\i<=j/\j<=(c.length:Int)/\(∀e∈c.take i.toNat,j8 e d)/\(∀e∈c.drop j.toNat,¬j8 e d)) (λi j _=>(j-i).toNat) ⟨Hp.le_refl h,by omega,by omega,by omega,λe v=>by simp at v,λe v=>by simp [T] at v⟩ ?_;rintro i j k ⟨o,E,W,M,G,D⟩;have B:=r.mono o;split
 ·rename_i e;have e:i<j:=by simpa using e
  rw [abg E (by omega) (by omega)];have H:i<=(i+j) / 2:=by omega
  have O:(i+j) / 2<j:=by omega
  generalize (i+j) / 2=m at H O;refine iT.intro (λs t U=>h<=U/\0<=s/\s<=t/\t<=(c.length:Int)/\(∀e∈c.take s.toNat,j8 e d)/\(∀e∈c.drop t.toNat,¬j8 e d)/\t - s<j-i) ?_ ?_
  ·refine ⟨by omega,?_⟩;refine Rs.get (sh:=aR) B (λ_=>rfl) (by omega) (by omega) (by omega) λ(l:ay) A=> ?_;refine ⟨JQ, #[], #[],rfl,rfl,zzc (a:=l) (b:=d) (IG λf u=> ?_)⟩;obtain ⟨I,J⟩:=List.getElem?_eq_some_iff.1 A;by_cases p:xd l d<0
   ·rw [if_pos (by simpa using p),wrap64 (by omega) (by omega)];have n:=sA.1 p;refine ⟨Hp.le_trans o u,by omega,by omega,M,λy hy=> ?_,D,by omega⟩;have:(m+1).toNat=m.toNat+1:=by omega
    rw [this,List.take_add_one,A] at hy;rcases List.mem_append.1 hy with hy | hy
    ·obtain ⟨q,g⟩:=List.mem_iff_getElem?.1 hy;rw [List.getElem?_take] at g;split at g
     ·rename_i S;obtain ⟨w,z⟩:=List.getElem?_eq_some_iff.1 g;have:=List.pairwise_iff_getElem.1 K q m.toNat w I S;rw [z,J] at this;exact KL this n
     ·cases g
    ·have:y=l:=by simpa using hy
     rw [this];exact n
   ·rw [if_neg (by simpa using p)];have n:¬j8 l d:=λh=>p (sA.2 h);refine ⟨Hp.le_trans o u,E,H,by omega,G,λy hy=> ?_,by omega⟩;obtain ⟨q,g⟩:=List.mem_iff_getElem?.1 hy;rw [List.getElem?_drop] at g;obtain ⟨w,z⟩:=List.getElem?_eq_some_iff.1 g;by_cases R:q=0
    ·subst R;rw [Nat.add_zero,A] at g;cases g;exact n
    ·have:=List.pairwise_iff_getElem.1 K m.toNat (m.toNat+q) I w (by omega);rw [z,J] at this;exact λhy=>n (KL this hy)
  grind
 ·rename_i e;have e:¬i<j:=by simpa using e
  have N:j=i:=by omega
  subst N;have X:(j.toNat:Int)=j:=by omega
  have C:∀b f,k<=f->Q j b f:=λb f F=>by have:=P j.toNat b f (Hp.le_trans o F) (by omega) G D;grind
  cases L:decide (j<(x.len:Int)) with
  | false=>refine Rs.mP (sh:=aR) B (⟨0,0⟩:ay) (λ_=>rfl) (by omega) (λe=>by cases e) λ(l:ay) _=> ?_;exact ⟨λe=>(by cases e),λ_=>⟨0,aU (C _ k (Hp.le_refl k))⟩⟩
  | true=>
   have V:j<(x.len:Int):=by simpa using L
   refine Rs.mP (sh:=aR) B (⟨0,0⟩:ay) (λ_=>rfl) (by omega) (λ_=>by omega) λ(l:ay) _=> ?_;refine NL ⟨JQ, #[], #[],rfl,rfl,zzc (a:=l) (b:=d) (IG λf u=>aU (C _ f u))⟩
theorem eqF {P:Program} (d:Nat) (a b:Array Value):∀(L:List (Field×IntKind×Int×Int)) (w:World),
  (∀q∈L,q.1.name≠ "_" ∧P.underlying q.1.type=some (.int q.2.1)∧a[q.1.offset]? =some (.int q.2.1 q.2.2.1)∧b[q.1.offset]? =some (.int q.2.1 q.2.2.2))→
  (Op.eqFields (d+1) a b (L.map (·.1))).run P w=.ok (L.all λq=>q.2.2.1==q.2.2.2) w
 | [],w,_=>by simp [Op.eqFields]
 | q::L,w,h=>by
  obtain ⟨e,c,f,g⟩:=h q (List.mem_cons_self ..);have k:=eqF d a b L w λl j=>h l (List.mem_cons_of_mem _ j);have i:(isAgg q.1.type).run P w=.ok false w:=by simp [isAgg,run_underlying c]
  simp only [List.map_cons,Op.eqFields,Sem.run_bind,if_pos e,part,i,Result.andThen_ok,Bool.false_eq_true,if_false,f,g,Sem.run_pure,run_equalIn_int w d q.1.type q.2.1 q.2.1 q.2.2.1 q.2.2.2 c];cases hb:(q.2.2.1==q.2.2.2) with
  | false=>simp [hb]
  | true=>simp [hb,k]
theorem Mf {P:Program} {t:Nat} {x y:Operand} {h:Hp} {xs ys:Array Value} (L:List (Field×IntKind×Int×Int)) (c:P.underlying t=some (.struct (L.map (·.1)).toArray)) (f:P.eqGuardType P.depth t=false) (hp:P.stoodInHeld t=false)
  (e:∀q∈L,q.1.name≠ "_" ∧P.underlying q.1.type=some (.int q.2.1)∧xs[q.1.offset]? =some (.int q.2.1 q.2.2.1)∧ys[q.1.offset]? =some (.int q.2.1 q.2.2.2)):
  jL P (cX .eql t x y (.agg xs) (.agg ys)) h (.bool (L.all λq=>q.2.2.1==q.2.2.2)):=by
 refine B9 λw=> ?_;have b:P.fieldsOf t=(L.map (·.1)).toArray:=by unfold Program.fieldsOf;rw [c]
 have g:P.underlying t=some (.struct (P.fieldsOf t)):=by rw [b];exact c
 have a:=run_equalIn_struct (P:=P) w 9999 t xs ys g hp;rw [b] at a;have d:=eqF (P:=P) 9998 xs ys L w e;unfold cX;simp only [Sem.run_bind,run_eqGuard_agg w .eql t x y xs ys f,Result.andThen_ok,run_eql_struct];rw [show (10000:Nat)=9999+1 from rfl,a];simp only [d,Result.andThen_ok]
def Wh (h:Hp) (p:Addr) (a:List ay) (F:List Nat):Prop:=
 ∃(b m:Nat) (sl:Sl) (G:List Nat) (c:List (Int×ay)),p=⟨b,0,none⟩/\F=b::m::G/\eI h b [sl.v,.map (some m)]/\c9 h 2 eE sl a G/\eT h m .i64 aR.enc c/\b∉G/\b≠m/\m∉G/\
  (c.map (·.1)).Nodup/\(∀id e,fU id c=some e↔e∈a/\e.dg=id)/\a.Pairwise j8
theorem eT.same {V:Type} {h a:Hp} {m:Nat} {k:IntKind} {ev:V->Value} {b:List (Int×V)} (f:eT h m k ev b) (e:a m=h m):eT a m k ev b:=by obtain ⟨g,ck,c,d⟩:=f;exact ⟨g,ck,by rw [e];exact c,d⟩
theorem eT.known {V:Type} {h:Hp} {m:Nat} {k:IntKind} {ev:V->Value} {c:List (Int×V)} (b:eT h m k ev c):h m≠none:=by obtain ⟨e,ck,a,d⟩:=b;rw [a];simp
theorem eT.mv {V:Type} {h b:Hp} {m:Nat} {k:IntKind} {ev:V->Value} {c:List (Int×V)} {F d:List Nat} (g:eT h m k ev c) (a:Mv F h d b) (i:m∉F):eT b m k ev c:=by obtain ⟨j,ck,e,f⟩:=g;exact ⟨j,ck,a.bq m _ e i,f⟩
theorem eI.same {h c:Hp} {b:Nat} {a:List Value} (k:eI h b a) (e:c b=h b):eI c b a:=by obtain ⟨t,d⟩:=k;exact ⟨t,by rw [e];exact d⟩
theorem Wh.same {h e:Hp} {p:Addr} {d:List ay} {F:List Nat} (w:Wh h p d F) (a:∀b∈F,e b=h b):Wh e p d F:=by obtain ⟨b,m,sl,G,o,f,g,i,j,k,l⟩:=w;subst g;exact ⟨b,m,sl,G,o,f,rfl,i.same (a b (by simp)),j.same (λc n=>a c (by simp [n])),k.same (a m (by simp)),l⟩
theorem Wh.known {h:Hp} {p:Addr} {a:List ay} {F:List Nat} (w:Wh h p a F):∀b∈F,h b≠none:=by
 obtain ⟨b,m,sl,G,k,i,d,e,f,g,j⟩:=w;subst d;intro c hc;simp only [List.mem_cons] at hc;rcases hc with rfl | rfl | hc
 ·exact e.known
 ·exact g.known
 ·exact f.known c hc
theorem Wh.sorted {h:Hp} {p:Addr} {a:List ay} {F:List Nat} (w:Wh h p a F):a.Pairwise j8:=by obtain ⟨b,m,sl,G,q,d,f,g,i,j,k,l,n,o,e,c⟩:=w;exact c
theorem Wh.ids {h:Hp} {p:Addr} {a:List ay} {F:List Nat} (w:Wh h p a F) {x y:ay} (d:x∈a) (f:y∈a) (e:x.dg=y.dg):x=y:=by obtain ⟨b,m,sl,G,v,j,l,n,o,q,r,s,t,u,c,k⟩:=w;have g:=(c x.dg x).2 ⟨d,rfl⟩;have i:=(c x.dg y).2 ⟨f,e.symm⟩;grind
theorem um {h:Hp} {b:Nat} {a:List Value} (k:eI h b a) {sh:Shape} (x:sh.T) {j:Nat} (c:(a.drop j).take (bg (sh.enc x)).length=bg (sh.enc x)) {K:sh.T->Prop} (d:K x):aP none sh h ((⟨b,0,none⟩:Addr).add j) K:=by refine ⟨x,?_,d⟩;show aV h ((⟨b,0,none⟩:Addr).add j) _;rw [jC,Nat.zero_add];exact k.bI c
theorem ZX {h:Hp} {b:Nat} {a:List Value} (k:eI h b a) {sh:Shape} (x:sh.T) {j:Nat} {c:Bool} (f:(a.drop j).take (bg (sh.enc x)).length=bg (sh.enc x)) {K:sh.T->Prop} (g:K x):aP (some c) sh h ((⟨b,0,none⟩:Addr).add j) K:=by obtain ⟨y,d,e⟩:=um k (sh:=sh) x f (K:=λy=>y=x) rfl;exact ⟨y,λ_=>d,e▸g⟩
theorem X6 {Q:Option Addr->Hp->Prop} {h:Hp} (k:∀p F a,h<=a->(∀b∈F,h b=none)->Wh a p [] F->Q (some p) a):NA prog Q h:=by
 unfold NA;intro m f;have g:=lz (o:=.map #[] 0) f;intro b t hb;have i:=lz (o:=.cells (([.slice none 0 0,.map (some m)]:List Value).toArray) t (0,0)) hb;have j:b≠m:=λe=>by rw [e,lZ] at hb;cases hb
 refine k ⟨b,0,none⟩ [b,m] _ (Hp.le_trans g i) (λc d=> ?_) ⟨b,m,⟨none,0,0⟩,[],[],rfl,rfl,⟨t,lZ⟩,⟨rfl,Nat.le_refl _,.inl ⟨rfl,rfl,rfl⟩⟩,⟨[],0,i _ _ lZ,rfl⟩,by simp,j,by simp,by simp,λid e=>by simp [fU],List.Pairwise.nil⟩;simp only [List.mem_cons,List.not_mem_nil,or_false] at d;rcases d with rfl | rfl
 ·exact pH g hb
 ·exact f
theorem X7 {p:Addr} {a:List ay} {F:List Nat} {id:Int} {Q:Int->Bool->Hp->Prop} {h:Hp} (w:Wh h p a F) (d:(∀e∈a,e.dg≠id)->Q 0 false h) (k:∀e∈a,e.dg=id->Q e.due true h):
  M0 prog (some p) id Q h:=by
 obtain ⟨b,m,sl,G,t,rfl,rfl,g,n,i,o,q,r,s,f,l⟩:=w;unfold M0;refine aD (um g (sh:=fN) (some m) rfl ?_);refine Fh (sh:=aR) (z:=⟨0,0⟩) i rfl (λj=>d λe c hid=> ?_) λe c=> ?_
 ·have:=(f id e).2 ⟨c,hid⟩;rw [j] at this;cases this
 grind
theorem X8 {a b:List ay} (c:a.Pairwise j8) (h:b.Sublist a):b.Pairwise j8:=c.sublist h
theorem Cs {a:List ay} (b:a.Pairwise j8):a.Nodup:=b.imp λh e=>by subst e;exact ZV _ h
set_option maxHeartbeats 1000000 in
theorem DC {p:Addr} {a:List ay} {F:List Nat} {id:Int} {Q:Bool->Hp->Prop} {h:Hp} (w:Wh h p a F) (hl:a.length<=4398046511104) (X:(∀e∈a,e.dg≠id)->Q false h)
  (u:∀(i:Nat) e d,a[i]? =some e->e.dg=id->Mv F h F d->Wh d p (a.take i++a.drop (i+1)) F->Q true d):MV prog (some p) id Q h:=by
 obtain ⟨b,m,sl,G,E,rfl,rfl,y,B,N,O,R,S,T,L,M⟩:=w;unfold MV;refine aD (um y (sh:=fN) (some m) rfl ?_);refine Fh (sh:=aR) (z:=⟨0,0⟩) N rfl (λhn=> ?_) λe C=> ?_
 ·rw [if_pos (by rfl)];refine X λe C hid=> ?_;have:=(L id e).2 ⟨C,hid⟩;grind
 rw [if_neg (by simp)];obtain ⟨b8,hid⟩:=(L id e).1 C;refine aD (um y (sh:=av) sl rfl ?_);have b7:=B.1;have rs:Rw h 2 eE sl a:=B.rw λ_=>rfl;refine aC.intro (λi k=>k=h/\0<=i/\i<=(a.length:Int)/\e∉a.take i.toNat) (λi _=>(a.length-i).toNat) ⟨rfl,by omega,by omega,by simp⟩ ?_;rintro i k ⟨rfl,a9,b5,c0⟩;split
 ·rename_i r;have r:i<(sl.len:Int):=by simpa using r
  refine Rs.get (sh:=aR) rs (λ_=>rfl) (by omega) a9 (by omega) λ(x:ay) A=> ?_;refine ⟨_,Mf [(⟨ "due",2,0,false, "", "firebreak/wheel",0⟩,.i64,x.due,e.due),(⟨ "id",3,1,false, "", "firebreak/wheel",8⟩,.i64,x.dg,e.dg)] (an.aN 203 qx rfl) (by kernel_rfl) (by kernel_rfl) (λq U=> ?_),?_⟩
  ·simp only [List.mem_cons,List.not_mem_nil,or_false] at U;rcases U with rfl | rfl
   ·exact ⟨by simp,an.aN 2 wj rfl,rfl,rfl⟩
   ·exact ⟨by simp,an.aN 3 Fs rfl,rfl,rfl⟩
  ·dsimp only;by_cases V:x=e
   ·subst V;rw [if_pos (by simp)];refine aD (um y (sh:=av) sl rfl ?_);have b6:i.toNat<a.length:=(List.getElem?_eq_some_iff.1 A).1;have b0:((i.toNat:Nat):Int)=i:=by omega
    have b1:((i.toNat+1:Nat):Int)=i+1:=by omega
    rw [wrap64 (by omega) (by omega)];have a8:∀(s:Sl->Hp->Prop),(∀l d,c9 d 2 eE l (a.take i.toNat++a.drop (i.toNat+1)) G->Mv G k G d->s l d)->zdo prog sl i (i+1) s k:=by
     intro s Y;have:=aaV (P:=prog) (h:=k) (sz:=2) (enc:=eE) (bytes:=16) (tS:=205) (tE:=203) (z:=.agg #[.int .i64 0,.int .i64 0]) (i:=i.toNat) (j:=i.toNat+1) (Q:=s) (an.aN 205 sI rfl)
      (λhk=>D9 an (t:=203) (e:=qx) rfl hk)
      (λ_=>rfl) (λ_=>rfl) rfl (λn=>by
       induction n with
       | zero=>rfl
       | succ n ih=>exact ih) B (by omega) (by omega) (by omega) Y
     rw [b0,b1] at this;exact this
    refine zhl (a8 _ λl d o' H=> ?_);have k3:eI d b [sl.v,.map (some m)]:=y.mv H O;refine aD ?_;refine qE (b:=b) (off:=0) k3 (by simp) λf I k2=> ?_;have o2:c9 f 2 eE l (a.take i.toNat++a.drop (i.toNat+1)) G:=o'.mv I (λc g=>by grind);have W:eI f b [l.v,.map (some m)]:=by simpa using k2
    refine aD (um W (sh:=fN) (some m) rfl ?_);have b3:eT f m .i64 aR.enc E:=(N.mv H S).mv I (by grind);refine US b3 λo ho b4=> ?_;have D:Mv [m] f [m] (f.set m o):=Mv.set;refine u i.toNat x _ A hid ?_ ⟨b,m,l,G,lM id E,rfl,rfl,W.mv D (by simp;exact R),o2.mv D (λc g=>by grind),b4,O,R,S,SH id T,?_,?_⟩
    ·have J:Mv (b::m::G) k (b::m::G) d:=H.sub (λc g=>by simp [g]) λc g=>.inr (.inl g);have K:Mv (b::m::G) d (b::m::G) f:=I.sub (λc g=>by grind) λc g=>.inr (.inl g);have q3:Mv (b::m::G) f (b::m::G) (f.set m o):=D.sub (λc g=>by grind) λc g=>.inr (.inl g);exact J.trans (K.trans q3)
    ·intro b2 e';rw [Iu b2 id E T];have b9:=Cs M;have c1:a=a.take i.toNat++x::a.drop (i.toNat+1):=by
      have Z:a.drop i.toNat=x::a.drop (i.toNat+1):=by obtain ⟨J,K⟩:=List.getElem?_eq_some_iff.1 A;rw [List.drop_eq_getElem_cons J,K]
      rw [<-Z,List.take_append_drop]
     grind
    ·refine X8 M ?_;have:(a.take i.toNat++a.drop (i.toNat+1)).Sublist (a.take i.toNat++a.drop i.toNat):=by grind
     rw [List.take_append_drop] at this;exact this
   ·rw [if_neg (by
     simp;intro u f;exact V (by cases x;cases e;simp at u f;simp [u,f])),wrap64 (by omega) (by omega)]
    refine ⟨⟨rfl,by omega,by omega,?_⟩,by omega⟩;have:(i+1).toNat=i.toNat+1:=by omega
    rw [this,List.take_add_one,A];grind
 ·rename_i r;have r:¬i<(sl.len:Int):=by simpa using r
  have:i.toNat=a.length:=by omega
  grind
theorem SW {l:List ay} {e:ay} {i:Nat} (c:l.Pairwise j8) (d:∀x∈l.take i,j8 x e) (b:∀x∈l.drop i,j8 e x):(l.take i++e::l.drop i).Pairwise j8:=by have a:=c;rw [<-List.take_append_drop i l] at a;obtain ⟨a1,a2,a3⟩:=List.pairwise_append.1 a;refine List.pairwise_append.2 ⟨a1,List.pairwise_cons.2 ⟨b,a2⟩,λx f y g=> ?_⟩;grind
set_option maxHeartbeats 1000000 in
theorem X9 {p:Addr} {g:List ay} {F:List Nat} {id due:Int} {Q:Int->Hp->Prop} {h:Hp} (w:Wh h p g F) (hl:g.length<=4398046511104) (h0:id<0\/due<0->Q 1 h)
  (h1:0<=id->0<=due->∀L B u,Mv F h B u->Wh u p L B->(∀x,x∈L↔x=⟨due,id⟩\/(x∈g/\x.dg≠id))->L.length<=g.length+1->Q 0 u):M1 prog (some p) id due Q h:=by
 unfold M1;refine aU ?_;by_cases d2:id<0\/due<0
 ·grind
 rw [if_neg (by simp;omega)];have hid:0<=id:=by omega
 have b5:0<=due:=by omega
 have core:∀(f:List ay) (k:Hp),Mv F h F k->Wh k p f F->(∀x,x∈f↔(x∈g/\x.dg≠id))->f.length<=g.length->
   ai none (some p) λp0=>aP none av k (Addr.add p0 0) λx=>
   bh prog Mw [x.v,(.agg #[(.int .i64 due),(.int .i64 id)]),(.func (.func 145) #[] #[])] (af .i64) bB (λr1 r2 M=>
    ai none (some p) λp1=>aP none av M (Addr.add p1 0) λx1=>
    bc [(.int .i64 due),(.int .i64 id)] (λa l=>
    (((aV l (Addr.add p1 0) [x1.v])/\True)/\ae prog OM [x1.v,(.int .i64 r1),(.slice (some a) 1 1)] av (λr3 D=>
    ai none (some p) λp2=>bW D (Addr.add p2 0) [r3.v] (λr=>
    ai none (some p) λp3=>aP none fN r (Addr.add p3 1) λx2=>
    uh (.int .i64) x2 (.int .i64 id) (.agg #[(.int .i64 due),(.int .i64 id)]) (λh6=>Q 0 h6) r)) l)) M) k:=by
  intro f k mk wk b7 c8;obtain ⟨b,m,sl,G,S,rfl,rfl,H,O,k5,k6,k7,k8,k9,d4,b0⟩:=wk;refine aD (um H (sh:=av) sl rfl ?_);have hE:(⟨due,id⟩:ay)∉f:=λhm=>((b7 _).1 hm).2 rfl;refine zcn (x:=sl) (target:=⟨due,id⟩) (cmp:=⟨JQ, #[], #[]⟩) (Vs (O.rw λ_=>rfl) (by omega) b0 λi _ M T E c0 b8=> ?_);refine aD (um (H.le T) (sh:=av) sl rfl ?_);refine mn (xs:=[(⟨due,id⟩:ay)]) (enc:=eE) (sz:=2) rfl (λ_=>rfl) λC l b4 l3 m3 o3=> ?_;have A:=Hp.le_trans T l3;refine ⟨⟨?_,trivial⟩,?_⟩
  ·obtain ⟨y,hy,c3⟩:=um (H.le A) (sh:=av) sl (j:=0) rfl (K:=λy=>y=sl) rfl;subst c3;exact hy
  have hG:∀c∈G,c≠C:=λc d e=>by have:=O.known c d;rw [e] at this;exact this (pH T b4)
  have o4:c9 l 2 eE sl f G:=by refine O.mv (Mv.of_le [] A) λc _=>by simp
  have kv:∃X,eI l C X:=by obtain ⟨_,_,d5⟩:=o3;grind
  obtain ⟨X,kv⟩:=kv;have b9:∀(J:Sl->Hp->Prop),(∀z u B,c9 u 2 eE z (f.take i++⟨due,id⟩::f.drop i) B->Mv G l B u->J z u)->zdn prog sl (i:Int) ⟨some ⟨C,0,none⟩,1,1⟩ J l:=by
   intro J hQ;obtain ⟨ti,e1,_⟩:=an.info 203 qx rfl;exact aaT (P:=prog) (h:=l) (sz:=2) (enc:=eE) (bytes:=16) (tS:=205) (tR:=4) (tE:=203) (zero:=[.int .i64 0,.int .i64 0]) (R:=λy K h=>aY prog zfi [y.v,.int .i64 1] K h) (i:=i) (Q:=J)
    (an.aN 205 sI rfl) e1 (λ_=>rfl) (by omega) (λ_=>rfl) rfl (λn=>by
     induction n with
     | zero=>rfl
     | succ n ih=>exact ih) o4 (o3.rw λ_=>rfl) rfl kv (λd=>hG C d rfl) E (by omega) hQ
  refine zhk (s:=sl) (i:=(i:Int)) (v:=⟨some ⟨C,0,none⟩,1,1⟩) (b9 _ λz D t o5 I=> ?_);have c5:eI D b [sl.v,.map (some m)]:=(H.le A).mv I k6;have b3:b∉t:=λd=>by
   rcases I.from_ b d with q | q
   ·exact k6 q
   ·exact (H.le A).known q
  have b2:eT l m .i64 aR.enc S:=k5.mv (Mv.of_le [] A) (by simp);have c1:m∉t:=λd=>by
   rcases I.from_ m d with q | q
   ·exact k8 q
   ·exact b2.known q
  refine aD ?_;refine qE (b:=b) (off:=0) c5 (by simp) λr U c4=> ?_;have b1:eI r b [z.v,.map (some m)]:=by simpa using c4
  refine aD (um b1 (sh:=fN) (some m) rfl ?_);have c6:eT r m .i64 aR.enc S:=(b2.mv I k8).mv U (by grind);have o6:c9 r 2 eE z (f.take i++⟨due,id⟩::f.drop i) t:=o5.mv U (λc d=>by grind);refine FO (v:=(⟨due,id⟩:ay)) c6 λo ho c7=> ?_;have N:Mv [m] r [m] (r.set m o):=Mv.set;have d1:∀x,x∈f.take i++(⟨due,id⟩:ay)::f.drop i↔x=⟨due,id⟩\/x∈f:=by
   intro x;constructor
   ·grind
   ·rintro (rfl | hx)
    ·simp
    ·rw [<-List.take_append_drop i f] at hx;grind
  refine h1 hid b5 _ (b::m::t) _ ?_ ⟨b,m,z,t,jb id ⟨due,id⟩ S,rfl,rfl,b1.mv N (by simp;exact k7),o6.mv N (λc d=>by grind),c7,b3,k7,c1,Le id _ k9,?_,?_⟩ ?_ ?_
  ·have V:Mv (b::m::G) h (b::m::G) l:=mk.trans (Mv.of_le _ A);have W:Mv (b::m::G) l (b::m::t) D:=I.sub (λc d=>by simp [d]) λc d=>by grind
   have q3:Mv (b::m::t) D (b::m::t) r:=U.sub (λc d=>by grind) λc d=>.inr (.inl d);have q4:Mv (b::m::t) r (b::m::t) (r.set m o):=N.sub (λc d=>by grind) λc d=>.inr (.inl d);exact V.trans (W.trans (q3.trans q4))
  ·intro d3 Y;rw [vE];grind
  ·refine SW b0 c0 λx hx=>ZW (b8 x hx) λe=> ?_;grind
  ·grind
  ·simp;omega
 refine HI (DC w hl (λhn=> ?_) λi e u E b6 m' w'=> ?_)
 ·exact core g h (Mv.refl _ _) w (λx=>⟨λhx=>⟨hx,hn x hx⟩,λhx=>hx.1⟩) (Nat.le_refl _)
 ·have d0:=(List.getElem?_eq_some_iff.1 E).1;refine core _ u m' w' (λx=> ?_) (by simp;omega);have hd:g.drop i=e::g.drop (i+1):=by obtain ⟨V,W⟩:=List.getElem?_eq_some_iff.1 E;rw [List.drop_eq_getElem_cons V,W]
  have c2:g=g.take i++e::g.drop (i+1):=by rw [<-hd,List.take_append_drop]
  have Z:=Cs w.sorted;rw [c2] at Z;have a8:=List.nodup_append.1 Z;constructor
  ·intro hx;have a9:x∈g:=by
    rcases List.mem_append.1 hx with hx | hx
    ·exact List.mem_of_mem_take hx
    ·exact List.mem_of_mem_drop hx
   refine ⟨a9,λY=> ?_⟩;have:x=e:=w.ids a9 (List.mem_of_getElem? E) (Y.trans b6.symm);subst this;rcases List.mem_append.1 hx with hx | hx
   ·exact a8.2.2 x hx x (List.mem_cons_self ..) rfl
   ·exact (List.nodup_cons.1 a8.2.1).1 hx
  grind
abbrev Gd :Int->List Value:=λx=>bg ((af .i64).enc x)
set_option maxHeartbeats 1000000 in
theorem Ya {p:Addr} {f:List ay} {F:List Nat} {n:Int} {Q:Sl->Hp->Prop} {h:Hp} (w:Wh h p f F) (hl:f.length<=4398046511104)
  (O:∀out h' done rest G F',f=done++rest->(∀x∈done,x.due<=n)->(∀x r,rest=x::r->n<x.due)->c9 h' 1 Gd out (done.map (·.dg)) G->Wh h' p rest F'->(∀c∈G,c∉F')->Mv F h (F'++G) h'->Q out h'):
  M3 prog (some p) n Q h:=by
 unfold M3;refine aC.intro (λout k=>∃done rest G F',f=done++rest/\(∀x∈done,x.due<=n)/\c9 k 1 Gd out (done.map (·.dg)) G/\Wh k p rest F'/\(∀c∈G,c∉F')/\Mv F h (F'++G) k) (λout _=>f.length-out.len)
  ⟨[],f,[],F,rfl,by simp,⟨rfl,Nat.le_refl _,.inl ⟨rfl,rfl,rfl⟩⟩,w,by simp,by simpa using Mv.refl F h⟩ ?_
 rintro out k ⟨done,rest,G,F',hsp,hdn,ho,wk,hdis,hm⟩;have b2:=ho.1;have s:=wk;obtain ⟨b,m,sl,a,b8,rfl,rfl,z,I,h5,h6⟩:=wk;have M:=I.1;refine aD (um z (sh:=av) sl rfl ?_);have rs:Rw k 2 eE sl rest:=I.rw λ_=>rfl;refine ⟨_,λ_=>rfl,?_⟩;refine ZX z (sh:=av) sl rfl ?_;refine rs.Gg (λ_=>rfl) (by omega) (sh:=af .i64) (λx=>x.due) (j:=0) (λ_=>rfl) (0:Int) (λhc=>by simp at hc;omega) λ(y:Int) hy=> ?_;refine aU ?_;cases rest with
 | nil=>
  have T:sl.len=0:=by simpa using M
  rw [if_neg (by simp [T])];exact O out k done [] G _ hsp hdn (λx r e=>by cases e) ho s hdis hm
 | cons e r=>
  simp at M;have N:decide ((sl.len:Int)>0)=true:=by simp;omega
  obtain ⟨x,hx,b4⟩:=hy N;have Y:e=x:=by simpa using hx
  subst Y;subst b4;rw [N,Bool.true_and];by_cases B:e.due<=n
  ·rw [if_pos (by simpa using B)];refine aD (um z (sh:=av) sl rfl ?_);refine rs.Fp (λ_=>rfl) (by omega) (sh:=af .i64) (λx=>x.dg) (j:=1) (λ_=>rfl) (by omega) (by simp<;>omega) λx' b3=> ?_;have:e=x':=by simpa using b3
   subst this;have b7:done.length+(r.length+1)=f.length:=by rw [hsp];simp
   refine mn (xs:=[e.dg]) (enc:=Gd) (sz:=1) rfl (λ_=>rfl) λS g U C m1 o1=> ?_;have b6:∀c∈G,c≠S:=λc hc t=>ho.known c hc (by rw [t];exact U);have b1:c9 g 1 Gd out (done.map (·.dg)) G:=ho.mv (Mv.of_le [] C) (by simp);have E:Wh g ⟨b,0,none⟩ (e::r) (b::m::a):=by
    refine s.same λc hc=> ?_;cases l:k c with
    | none=>exact absurd l (s.known c hc)
    | some o=>exact C c o l
   refine wQ b1 (o1.rw λ_=>rfl) (λ_=>rfl) (λ_=>rfl) rfl (by simp;omega) λl' v d R D=> ?_;have H:Wh v ⟨b,0,none⟩ (e::r) (b::m::a):=by
    refine E.same λc hc=> ?_;cases l:g c with
    | none=>exact absurd l (E.known c hc)
    | some o=>exact D.bq c o l λV=>hdis c V hc
   have K:∀c∈d,c∉b::m::a:=λc hc J=>by
    rcases D.from_ c hc with q | q
    ·exact hdis c q J
    ·exact E.known c J q
   refine HI (DC H (by simp;omega) (λhn=>absurd rfl (hn e (List.mem_cons_self ..))) λi u A L X P w3=> ?_);have W:u=e:=H.ids (List.mem_of_getElem? L) (List.mem_cons_self ..) X;subst W;have Z:i=0:=by have b0:=Cs H.sorted;obtain ⟨a9,a8⟩:=List.getElem?_eq_some_iff.1 L;have:=(List.getElem_inj (i:=i) (j:=0) (h₀:=a9) (h₁:=by simp) b0).1 (by rw [a8];rfl);exact this
   subst Z;have b5:Wh A ⟨b,0,none⟩ r (b::m::a):=by simpa using w3
   have o3:c9 A 1 Gd l' (done.map (·.dg)++ [u.dg]) d:=R.mv P K;refine ⟨⟨done++ [u],r,d,b::m::a,by rw [hsp];simp,λx hx=> ?_,by simpa using o3,b5,K,?_⟩,?_⟩
   ·rcases List.mem_append.1 hx with hx | hx
    ·exact hdn x hx
    ·rw [List.mem_singleton.1 hx];exact B
   ·have q1:Mv (b::m::a++G) k (b::m::a++G) g:=Mv.of_le _ C;have q2:Mv (b::m::a++G) g (b::m::a++d) v:=D.sub (λc hc=>List.mem_append_right _ hc) λc hc=>by
     rcases List.mem_append.1 hc with hc | hc
     ·exact .inr (.inl (List.mem_append_left _ hc))
     ·exact .inl hc
    have q3:Mv (b::m::a++d) v (b::m::a++d) A:=P.wide d;exact hm.trans (q1.trans (q2.trans q3))
   ·have:=R.1;simp at this b2;omega
  ·rw [if_neg (by simpa using B)];refine O out k done (e::r) G _ hsp hdn (λx r' t=> ?_) ho s hdis hm;cases t;omega
def Fm (p:Addr) (d:List ay):dh where
 R k F:=∃B,Wh k p d B/\∀b,F b↔b∈B
 same:=λ⟨B,h,e⟩ f=>⟨B,h.same λc a=>f c ((e c).2 a),e⟩
 known:=λ⟨B,h,e⟩ c a=>h.known c ((e c).1 a)
structure WT (es:List ay) (tm:Nat->Int) (n:Nat):Prop where
 low:∀i,0<=tm i
 zh:∀x∈es,0<=x.dg/\x.dg<n/\0<x.due/\tm x.dg.toNat=x.due
 has:∀i:Nat,0<tm i->(⟨tm i,(i:Int)⟩:ay)∈es
def rU (p:Addr) (a:Nat->Int) (n:Nat):dh:=.some_ λes:List ay=>(Fm p es).star (.fact (WT es a n))
section
variable {h0 k:Hp} {p:Addr} {es:List ay} {g:Nat->Int} {n:Nat}
theorem Has.both {A B:dh} {F1 F2:Nat->Prop} (f:h0<=k) (a:A.R k F1) (b:B.R k F2) (d:∀c,F1 c->¬F2 c) (f1:∀c,F1 c->h0 c=none) (f2:∀c,F2 c->h0 c=none):Has h0 (A.star B) k:=
 ⟨f,λc=>F1 c\/F2 c,⟨F1,F2,λ_=>Iff.rfl,d,a,b⟩,λc e=>e.elim (f1 c) (f2 c)⟩
theorem slR {i:Type} {sz:Nat} {enc:i->List Value} {l:Sl} {f:List i} {F:List Nat} (o:c9 k sz enc l f F):(dK sz enc l f).R k λb=>b∈F:=by
 obtain ⟨a,d,q⟩:=o;rcases q with ⟨e,m,rfl⟩ | ⟨b,j,e,rfl,hb,s,r⟩
 ·exact ⟨a,d,.inl ⟨e,m,λ_ h=>by cases h⟩⟩
 ·exact ⟨a,d,.inr ⟨b,0,j,e,λc=>List.mem_singleton,hb,by omega,by simpa using r⟩⟩
theorem Has.Mu (o:Has h0 (Fm p es) k):∃B,Wh k p es B/\∀b∈B,h0 b=none:=by obtain ⟨l,F,⟨B,w,e⟩,f⟩:=o;grind
theorem Has.BL {B a:List Nat} {c:Hp} {d:List ay} (f:h0<=k) (h:∀b∈B,h0 b=none) (m:Mv B k a c) (w:Wh c p d a):Has h0 (Fm p d) c:=by
 refine ⟨λb o e=>m.bq b o (f b o e) λhb=> ?_,λb=>b∈a,⟨a,w,λb=>Iff.rfl⟩,λb hb=> ?_⟩
 ·grind
 ·rcases m.from_ b hb with h1 | h1
  ·exact h b h1
  ·cases e:h0 b with
   | none=>rfl
   | some o=>rw [f b o e] at h1;cases h1
theorem Has.pG (o:Has h0 (rU p g n) k):∃es,WT es g n/\Has h0 (Fm p es) k:=by obtain ⟨es,o⟩:=Has.ex.1 o;obtain ⟨a,b⟩:=o.jc;grind
theorem Has.mC {k:Hp} (t:WT es g n) (o:Has h0 (Fm p es) k):Has h0 (rU p g n) k:=Has.ex.2 ⟨es,o.fj t⟩
theorem DM {B:List Nat} (t:WT es g n) (w:Wh k p es B):es.length<=n:=by
 have h:(es.map λx=>x.dg.toNat).Nodup:=by
  have m:=w.sorted;have hid:=λx d y f=> @Wh.ids _ _ _ _ w x y d f;clear w;have hp:=t.zh;have j:es.Pairwise λa b=>a.dg≠b.dg:=by refine m.imp_of_mem λ{a b} c hb i e=> ?_;have:=hid a c b hb e;subst this;unfold j8 at i;omega
  refine List.pairwise_map.2 (j.imp_of_mem λ{a b} c hb l e=>l ?_);have:=hp a c;have:=hp b hb;omega
 have:=Nt n (es.map λx=>x.dg.toNat) h λx d=>by obtain ⟨y,f,rfl⟩:=List.mem_map.1 d;have:=t.zh y f;omega
 grind
theorem Yb {n:Nat} {Q:Option Addr->Hp->Prop} (d:∀p a,k<=a->Has k (rU p (λ_=>0) n) a->Q (some p) a):NA prog Q k:=by refine X6 λp F a l c w=>d p a l (Has.mC (es:=[]) ⟨λ_=>Int.le_refl _,by simp,λi h=>absurd h (by decide)⟩ ⟨l,λb=>b∈F,⟨F,w,λb=>Iff.rfl⟩,c⟩)
theorem IH {i:Nat} {Q:Int->Bool->Hp->Prop} (o:Has h0 (rU p g n) k) (f:∀b,Q (g i) b k):M0 prog (some p) (i:Int) Q k:=by
 obtain ⟨es,t,o⟩:=o.pG;obtain ⟨B,w,d⟩:=o.Mu;refine X7 w (λc=> ?_) λe a hid=> ?_
 ·have:g i=0:=by
   have:=t.low i;by_cases h:0<g i
   ·exact absurd rfl (c _ (t.has i h))
   ·omega
  grind
 ·have:=(t.zh e a).2.2.2;grind
theorem DD {i:Nat} {Q:Bool->Hp->Prop} (o:Has h0 (rU p g n) k) (G:n<=1000000) (s:∀b c,Has h0 (rU p (cg g i 0) n) c->Q b c):MV prog (some p) (i:Int) Q k:=by
 obtain ⟨es,t,o⟩:=o.pG;obtain ⟨B,w,z⟩:=o.Mu;have F:=DM t w;refine DC w (by omega) (λA=> ?_) λj e c f hid m E=> ?_
 ·refine s false k (Has.mC ?_ o);have y:g i=0:=by
   have:=t.low i;by_cases h:0<g i
   ·exact absurd rfl (A _ (t.has i h))
   ·omega
  have:cg g i 0=g:=by rw [<-y];exact yo
  rw [this];exact t
 ·refine s true c (Has.mC ⟨λa=> ?_,λx C=> ?_,λa d=> ?_⟩ (Has.BL o.le z m E))
  ·by_cases h:a=i
   ·subst h;rw [kK];omega
   ·rw [kB h];exact t.low a
  ·have v:x∈es:=by grind
   obtain ⟨a1,a2,a3,a4⟩:=t.zh x v;refine ⟨a1,a2,a3,?_⟩;have r:=w.sorted;have q:=(List.getElem?_eq_some_iff.1 f);obtain ⟨q,l⟩:=q;have H:x.dg≠(i:Int):=by
    intro ex;have D:x=e:=w.ids v (List.mem_of_getElem? f) (by rw [ex,hid]);subst D;have u:es=es.take j++x::es.drop (j+1):=by rw [<-l,List.getElem_cons_drop,List.take_append_drop]
    rw [u,List.pairwise_append] at r;rcases List.mem_append.1 C with h | h
    ·have:=r.2.2 x h x (List.mem_cons_self ..);unfold j8 at this;omega
    ·have:=(List.pairwise_cons.1 r.2.1).1 x h;unfold j8 at this;omega
   rw [kB (by omega)];exact a4
  ·by_cases h:a=i
   ·subst h;rw [kK] at d;omega
   ·rw [kB h] at d ⊢;have:=t.has a d;obtain ⟨q,l⟩:=List.getElem?_eq_some_iff.1 f;have u:es=es.take j++e::es.drop (j+1):=by rw [<-l,List.getElem_cons_drop,List.take_append_drop]
    grind
theorem E3 {i:Nat} {due:Int} {Q:Int->Hp->Prop} (o:Has h0 (rU p g n) k) (A:n<=1000000) (y:i<n) (f:0<due) (l:∀b,Has h0 (rU p (cg g i due) n) b->Q 0 b):M1 prog (some p) (i:Int) due Q k:=by
 obtain ⟨es,t,o⟩:=o.pG;obtain ⟨B,w,j⟩:=o.Mu;have z:=DM t w;refine X9 w (by omega) (λh=>by omega) λ_ _ u s b m r d _=> ?_;refine l b (Has.mC ⟨λa=> ?_,λx q=> ?_,λa c=> ?_⟩ (Has.BL o.le j m r))
 ·by_cases h:a=i
  ·subst h;rw [kK];omega
  ·rw [kB h];exact t.low a
 ·rcases (d x).1 q with rfl | ⟨e,v⟩
  ·refine ⟨by omega,by grind,f,?_⟩;show cg g i due ((i:Int)).toNat=due;rw [show ((i:Int)).toNat=i by omega];exact kK
  ·obtain ⟨a1,a2,a3,a4⟩:=t.zh x e;refine ⟨a1,a2,a3,?_⟩;rw [kB (by omega)];exact a4
 ·refine (d _).2 ?_;by_cases h:a=i
  ·subst h;left;rw [kK]
  ·right;rw [kB h] at c ⊢;exact ⟨t.has a c,by grind⟩
def mZ (g:Nat->Int) (a:Int):Nat->Int:=λi=>if 0<g i/\g i<=a then 0 else g i
theorem Yc {c:Int} {Q:Sl->Hp->Prop} (o:Has h0 (rU p g n) k) (N:n<=1000000)
  (H:∀s j (ids:List Int),(∀x∈ids,0<=x/\x<n)->ids.Nodup->(∀i:Nat,(i:Int)∈ids↔0<g i/\g i<=c)->Has h0 ((rU p (mZ g c) n).star (dK 1 fo s ids)) j->Q s j):M3 prog (some p) c Q k:=by
 obtain ⟨es,t,o⟩:=o.pG;obtain ⟨B,w,v⟩:=o.Mu;have M:=DM t w;refine Ya w (by omega) λout j done rest G l hsp hd hr ho w' hdis m=> ?_;have u:=w.sorted;have E:=λx hx y f=> @Wh.ids _ _ _ _ w x y hx f;have O:es.Pairwise λa b=>a.dg≠b.dg:=by refine u.imp_of_mem λ{a b} d hb F e=> ?_;have:=E a d b hb e;subst this;unfold j8 at F;omega
 have P:∀x∈rest,c<x.due:=by
  cases rest with
  | nil=>simp
  | cons y r=>
   have h1:=hr y r rfl;intro x hx;rcases List.mem_cons.1 hx with rfl | hx
   ·exact h1
   ·rw [hsp,List.pairwise_append] at u;have:=(List.pairwise_cons.1 u.2.1).1 x hx;unfold j8 at this;omega
 have D:∀x∈es,(x∈done↔x.due<=c):=by grind
 have A:∀x∈done,x∈es:=λx hx=>by grind
 have I:∀x∈rest,x∈es:=λx hx=>by grind
 refine H out j (done.map (·.dg)) (λx hx=> ?_) ?_ (λi=>⟨λq=> ?_,λq=> ?_⟩) ?_
 ·obtain ⟨y,f,rfl⟩:=List.mem_map.1 hx;have:=t.zh y (A y f);omega
 ·grind
 ·obtain ⟨y,f,e⟩:=List.mem_map.1 q;obtain ⟨_,_,a3,a4⟩:=t.zh y (A y f);grind
 ·exact List.mem_map.2 ⟨_,(D _ (t.has i q.1)).2 q.2,rfl⟩
 ·have J:Has h0 (Fm p rest) j:=by refine Has.BL o.le v ⟨λb L e hb=>m.bq b L e hb,λb hb=>m.from_ b (List.mem_append_left _ hb)⟩ w'
  have K:WT rest (mZ g c) n:=by
   refine ⟨λa=> ?_,λx hx=> ?_,λa d=> ?_⟩
   ·unfold mZ;split
    ·omega
    ·exact t.low a
   ·obtain ⟨a1,a2,a3,a4⟩:=t.zh x (I x hx);refine ⟨a1,a2,a3,?_⟩;unfold mZ;grind
   ·unfold mZ at d ⊢;by_cases h:0<g a/\g a<=c
    ·omega
    ·rw [if_neg h] at d ⊢;have h1:=t.has a d;grind
  have z:∀b∈l++G,h0 b=none:=λb hb=>by
   rcases m.from_ b hb with h1 | h1
   ·exact v b h1
   ·cases e:h0 b with
    | none=>rfl
    | some x=>rw [o.le b x e] at h1;cases h1
  refine Has.both J.le (F1:=λb=>b∈l) (F2:=λb=>b∈G) ⟨rest,λb=>b∈l,λ_=>False,λb=>by simp,λb _ h=>h,⟨l,w',λb=>Iff.rfl⟩,K,λ_ h=>h⟩ (slR ho) (λb h1 C=>hdis b C h1) (λb hb=>z b (List.mem_append_left _ hb)) λb hb=>z b (List.mem_append_right _ hb)
end
abbrev f64 :FloatKind:=.f64
def sC (b c:Int):Int:=if c=0 then 0 else if c= -1 then yw ((0:Int)-b) else yw (Int.tdiv b c)
def tn (b:Bool):Int:=if b then 1 else 0
def wP (op b c:Int):Int:=
 if op=3 then yw (b+c)
 else if op=4 then yw (b-c)
 else if op=5 then yw (b*c)
 else if op=6 then sC b c
 else if op=7 then yw (b-yw (sC b c*c))
 else if op=8 then du .and .i64 b c
 else if op=9 then du .or .i64 b c
 else if op=10 then du .xor .i64 b c
 else if op=11 then (if c<0 then b else ni .i64 b (IntKind.wrap .u64 c))
 else if op=12 then (if c<0 then b else gF .i64 b (IntKind.wrap .u64 c))
 else if op=13 then tn (decide (b<c))
 else if op=14 then tn (decide (b=c))
 else 0
def Gn :Int:=9221120237041090560
def isNaN (f:Nat):Bool:=f64.format.order f f !=some .eq
def oj (f:Nat):Int:=if isNaN f then Gn else yw (f:Int)
def vb :Option Nat->Int
 | some r=>oj r
 | none=>Gn
def qS (b:Int):Nat:=(IntKind.wrap .u64 b).toNat
def DN (f:Nat):Int:=
 if isNaN f then 0
 else if f64.format.order f 4890909195324358656=some .gt\/f64.format.order f 4890909195324358656=some .eq then 9223372036854775807
 else if f64.format.order f 14114281232179134464=some .lt then -9223372036854775808
 else ((f64.decode f).toInt .zero).getD 0
def uQ (op b c:Int):Int:=
 if op=15 then vb (f64.format.add (qS b) (qS c))
 else if op=16 then vb (f64.format.sub (qS b) (qS c))
 else if op=17 then vb (f64.format.mul (qS b) (qS c))
 else if op=18 then vb (f64.format.div (qS b) (qS c))
 else if op=19 then tn (f64.format.order (qS b) (qS c)==some .lt)
 else if op=20 then oj (f64.nearest b)
 else if op=21 then DN (qS b)
 else 0
def fT (op b c:Int):Int:=if 3<=op/\op<=14 then wP op b c else uQ op b c
section
variable {P:Program} {h:Hp}
theorem Kj {b c:Int} {Q:Int->Hp->Prop} (a:Q (sC b c) h):ZP prog b c Q h:=by
 unfold ZP;unfold sC at a;by_cases d:c=0
 ·rw [if_pos (by simp [d])];rw [if_pos d] at a;exact a
 ·rw [if_neg (by simp [d])];rw [if_neg d] at a;by_cases e:c= -1
  ·rw [if_pos (by simp [e])];rw [if_pos e] at a;exact a
  ·rw [if_neg (by simp [e])];rw [if_neg e] at a;exact ⟨d,a⟩
theorem JI (c:Int):(0:Int)<=IntKind.wrap .u64 c:=by
 (try unfold yw);unfold IntKind.wrap
 simp only [IntKind.signed,IntKind.bits];simp;omega
theorem KN {b:Bool} {Q:Int->Hp->Prop} (a:Q (tn b) h):Ee prog b Q h:=by unfold Ee;unfold tn at a;cases b<;>simpa using a
theorem Yd {op b c:Int} {Q:Int->Int->Hp->Prop} (a:3<=op/\op<=14->Q (wP op b c) 0 h) (t:¬(3<=op/\op<=14)->Q 0 9 h):EO prog op b c Q h:=by
 have case:∀n:Int,(op==n)=decide (op=n):=λn=>by by_cases e:op=n<;>simp [e]
 unfold EO;unfold wP at a;simp only [case];by_cases l:op=3
 ·subst l;simpa using a
 by_cases m:op=4
 ·subst m;simpa using a
 by_cases o:op=5
 ·subst o;simpa using a
 by_cases p:op=6
 ·subst p;simp only [decide_true,if_true];simp at a ⊢;exact zvq (Kj a)
 by_cases q:op=7
 ·subst q;simp at a ⊢;exact zvq (Kj a)
 by_cases r:op=8
 ·subst r;simpa using a
 by_cases s:op=9
 ·subst s;simpa using a
 by_cases f:op=10
 ·subst f;simpa using a
 by_cases g:op=11
 ·subst g;simp at a ⊢;refine abI ?_;unfold Ld;by_cases d:c<0
  ·rw [if_pos (by simpa using d)];rw [if_pos d] at a;exact a
  ·rw [if_neg (by simpa using d)];rw [if_neg d] at a;exact ⟨JI c,a⟩
 by_cases i:op=12
 ·subst i;simp at a ⊢;refine Zp ?_;unfold Kb;by_cases d:c<0
  ·rw [if_pos (by simpa using d)];rw [if_pos d] at a;exact a
  ·rw [if_neg (by simpa using d)];rw [if_neg d] at a;exact ⟨JI c,a⟩
 by_cases j:op=13
 ·subst j;simp at a ⊢;exact JE (KN a)
 by_cases k:op=14
 ·subst k;have e:(b==c)=decide (b=c):=by by_cases e:b=c<;>simp [e]
  simp at a ⊢;rw [e];exact JE (KN a)
 simp only [l,m,o,p,q,r,s,f,g,i,j,k,decide_false,if_false,Bool.false_eq_true];exact t (by omega)
theorem ZY (x y t:Nat):isNaN ((Question.nanBits .f64 x y).cut t)=true:=by
 have key:∀s z:Nat,s<2->z<2^52-1->isNaN (s*2^63+0x7ff0000000000000+1+z)=true:=by
  intro s z e f;have c:(s*2^63+0x7ff0000000000000+1+z)%Ieee.double.signWeight=0x7ff0000000000000+1+z:=by show (s*2^63+0x7ff0000000000000+1+z)%9223372036854775808=_;omega
  have d:Ieee.double.read (s*2^63+0x7ff0000000000000+1+z)=.nan ((s*2^63+0x7ff0000000000000+1+z) / Ieee.double.signWeight%2==1) (1+z):=by unfold Ieee.Format.read;rw [c];have a:Ieee.double.binade=4503599627370496:=rfl;have b:Ieee.double.infRung=9218868437227405312:=rfl;dsimp only;rw [a,b,if_neg (by omega),if_neg (by omega),if_neg (by omega),show 0x7ff0000000000000+1+z-9218868437227405312=1+z by omega]
  unfold isNaN;show ((Ieee.double.read _).order (Ieee.double.read _) !=some .eq)=true;rw [d];rfl
 have:=key (t%2) ((t / 2)%(2^52-1)) (by omega) (Nat.mod_lt _ (by decide));exact this
end
section
variable {P:Program} {h:Hp}
theorem ZZ {P:Program} {s:Sem Value} {sh:Shape} {K:sh.T->Hp->Prop} {h:Hp} (b:cP P s (λv a=>∃x,v=sh.enc x/\K x a) h):jy P s sh K h:=b
theorem xy {op : BinOp} {t : Nat} {x y : Operand} {a b : Nat} {r : Option Nat} {K : Nat -> Hp -> Prop} (d : cX op t x y (.float .f64 a) (.float .f64 b) = (match r with
      | some r=>Sem.pure (Value.float .f64 r)
      | none=>Sem.bind (choose (.nanBits .f64 a b)) λn=>Sem.pure (Value.float .f64 n)))
  (c:∀f,(∀v,r=some v->f=v)->(r=none->isNaN f=true)->K f h):jy P (cX op t x y (.float .f64 a) (.float .f64 b)) (iO .f64) K h:=by
 refine ZZ ?_;rw [d];cases r with
 | some r=>exact ⟨r,rfl,c r (λv e=>(Option.some.inj e)) λe=>by cases e⟩
 | none=>intro n;exact ⟨_,rfl,c _ (λv e=>by cases e) λ_=>ZY a b n⟩
theorem Z0 {t : Nat} {x y : Operand} {a b : Nat} : cX .add t x y (.float .f64 a) (.float .f64 b) = (match f64.format.add a b with
      | some r=>Sem.pure (Value.float .f64 r)
      | none=>Sem.bind (choose (.nanBits .f64 a b)) λn=>Sem.pure (Value.float .f64 n)):=by
 cases e:f64.format.add a b<;>(show Op.floatArith .add .f64 a b=_;unfold Op.floatArith;simp only [pure,bind,Sem.bind,e])
theorem Z1 {t : Nat} {x y : Operand} {a b : Nat} : cX .sub t x y (.float .f64 a) (.float .f64 b) = (match f64.format.sub a b with
      | some r=>Sem.pure (Value.float .f64 r)
      | none=>Sem.bind (choose (.nanBits .f64 a b)) λn=>Sem.pure (Value.float .f64 n)):=by
 cases e:f64.format.sub a b<;>(show Op.floatArith .sub .f64 a b=_;unfold Op.floatArith;simp only [pure,bind,Sem.bind,e])
theorem Z2 {t : Nat} {x y : Operand} {a b : Nat} : cX .mul t x y (.float .f64 a) (.float .f64 b) = (match f64.format.mul a b with
      | some r=>Sem.pure (Value.float .f64 r)
      | none=>Sem.bind (choose (.nanBits .f64 a b)) λn=>Sem.pure (Value.float .f64 n)):=by
 cases e:f64.format.mul a b<;>(show Op.floatArith .mul .f64 a b=_;unfold Op.floatArith;simp only [pure,bind,Sem.bind,e])
theorem Z3 {t : Nat} {x y : Operand} {a b : Nat} : cX .quo t x y (.float .f64 a) (.float .f64 b) = (match f64.format.div a b with
      | some r=>Sem.pure (Value.float .f64 r)
      | none=>Sem.bind (choose (.nanBits .f64 a b)) λn=>Sem.pure (Value.float .f64 n)):=by
 cases e:f64.format.div a b<;>(show Op.floatArith .quo .f64 a b=_;unfold Op.floatArith;simp only [pure,bind,Sem.bind,e])
theorem vw {s:Sem Value} {sh:Shape} {v:sh.T} {K:sh.T->Prop} (a:s=Sem.pure (sh.enc v)) (b:K v):iC none P s sh h K:=by refine ⟨v,I5 ?_,b⟩;rw [a];exact ⟨rfl,rfl⟩
theorem II {b:Int} {Q:Nat->Hp->Prop} (a:Q (qS b) h):C0 prog b Q h:=by unfold C0;exact ⟨_,rfl,a⟩
theorem vS {f:Nat} {Q:Int->Hp->Prop} (a:Q (oj f) h):Dr prog f Q h:=by
 unfold Dr;refine vw (sh:=bB) (v:=isNaN f) rfl ?_;unfold oj at a;by_cases e:isNaN f=true
 ·rw [if_pos e];rw [if_pos e] at a;exact a
 ·rw [if_neg e];rw [if_neg e] at a;exact ⟨(f:Int),rfl,a⟩
theorem Ye {s:Bool} {n d:Nat}:Ieee.Toward.zero.cut s n d*2^d<=n:=by
 unfold Ieee.Toward.cut;simp only [Bool.toNat_false,Nat.add_zero,Nat.shiftLeft_eq,Nat.one_mul];by_cases a:d<=n.log2+2
 ·rw [Nat.min_eq_left a];exact Nat.div_mul_le_self n (2^d)
 ·rw [Nat.min_eq_right (by omega)];have:n<2^(n.log2+2):=by
   by_cases b:n=0
   ·grind
   ·have:=Nat.lt_log2_self (n:=n);grind
  rw [Nat.div_eq_of_lt this,Nat.zero_mul];omega
theorem vT (m i:Nat):m<<<i=m*2^i:=Nat.shiftLeft_eq m i
theorem Yf {s:Bool} {m:Nat} {i:Int} (a:Ieee.Datum.order (.number s m i) (.number false 4503599627370496 11)=some .lt) (b:Ieee.Datum.order (.number s m i) (.number true 4503599627370496 11)≠some .lt):
  ∃n,(Ieee.Datum.number s m i).toInt .zero=some n/\ -9223372036854775808<=n/\n<=9223372036854775807:=by
 refine ⟨_,rfl,?_⟩;have a:compare (Ieee.signed s m (i-min i 11).toNat) (Ieee.signed false 4503599627370496 (11-min i 11).toNat)=.lt:=Option.some.inj a;have b:compare (Ieee.signed s m (i-min i 11).toNat) (Ieee.signed true 4503599627370496 (11-min i 11).toNat)≠ .lt:=λe=>b (congrArg some e);rw [Int.compare_eq_lt] at a;rw [ne_eq,Int.compare_eq_lt] at b;have g:=Ye (s:=s) (n:=m<<<i.toNat) (d:=(-i).toNat);generalize y:Ieee.Toward.zero.cut s (m<<<i.toNat) (-i).toNat=w at g;have o:Ieee.signed s w 0=if s then -(w:Int) else (w:Int):=by unfold Ieee.signed;simp
 show -9223372036854775808<=Ieee.signed s w 0/\Ieee.signed s w 0<=9223372036854775807;rw [o];have key:∃C B:Nat,0<C/\0<B/\w*B<=(m<<<(i-min i 11).toNat)*C/\(4503599627370496<<<(11-min i 11).toNat)*C=9223372036854775808*B:=by
  by_cases x:i<=11
  ·have j:min i 11=i:=by omega
   rw [j,Int.sub_self];by_cases u:0<=i
   ·refine ⟨2^i.toNat,1,Nat.two_pow_pos _,by decide,?_,?_⟩
    ·have k:(-i).toNat=0:=by omega
     rw [k,Nat.pow_zero,vT] at g;grind
    ·rw [vT,Nat.mul_assoc,<-Nat.pow_add,show (11-i).toNat+i.toNat=11 by omega]
   ·refine ⟨1,2^(-i).toNat,by decide,Nat.two_pow_pos _,?_,?_⟩
    ·grind
    ·rw [vT,Nat.mul_one,show (11-i).toNat=11+(-i).toNat by omega,Nat.pow_add,<-Nat.mul_assoc]
  ·have j:min i 11=11:=by omega
   rw [j];refine ⟨2^11,1,by decide,by decide,?_,by decide⟩;have k:(-i).toNat=0:=by omega
   rw [k,Nat.pow_zero,vT] at g;rw [vT,Nat.mul_assoc,<-Nat.pow_add,show (i-11).toNat+11=i.toNat by omega];exact g
 obtain ⟨C,B,q,p,z,v⟩:=key;generalize r:m<<<(i-min i 11).toNat=c at*;generalize l:4503599627370496<<<(11-min i 11).toNat=f at*;have s1:Ieee.signed s m (i-min i 11).toNat=if s then -(c:Int) else (c:Int):=by unfold Ieee.signed;rw [r]
 have s2:Ieee.signed false 4503599627370496 (11-min i 11).toNat=(f:Int):=by unfold Ieee.signed;rw [l];rfl
 have t:Ieee.signed true 4503599627370496 (11-min i 11).toNat= -(f:Int):=by unfold Ieee.signed;rw [l];rfl
 rw [s1,s2] at a;rw [s1,t] at b;cases s with
 | false=>
  simp only [Bool.false_eq_true,if_false] at a ⊢;have a:c<f:=by omega
  have:c*C<f*C:=Nat.mul_lt_mul_of_pos_right a q;have:w*B<9223372036854775808*B:=by omega
  have:=Nat.lt_of_mul_lt_mul_right this;omega
 | true=>
  simp only [if_true] at b ⊢;have b:c<=f:=by omega
  have:c*C<=f*C:=Nat.mul_le_mul_right C b;have:w*B<=9223372036854775808*B:=by omega
  have:=Nat.le_of_mul_le_mul_right this p;omega
theorem Z4 {b:Nat} {n:Int} (a:(f64.decode b).toInt .zero=some n) (c:IntKind.min .i64<=n/\n<=IntKind.max .i64):jL prog (convert 314 2 (.float .f64 b)) h (.int .i64 n):=by refine B9 λw=> ?_;have d:=ax (e:=sJ) an (t:=314) rfl w;have f:=ax (e:=wj) an (t:=2) rfl w;simp only [convert,Sem.run_bind,d,f,Result.andThen_ok];show (Conv.floatToInt .f64 b .i64).run prog w=_;unfold Conv.floatToInt;rw [a];dsimp only;rw [if_pos c];rfl
theorem Z6 {b:Int}:jL prog (convert 2 314 (.int .i64 b)) h (.float .f64 (f64.nearest b)):=by refine B9 λw=> ?_;have a:=ax (e:=sJ) an (t:=314) rfl w;have c:=ax (e:=wj) an (t:=2) rfl w;simp only [convert,Sem.run_bind,a,c,Result.andThen_ok];rfl
theorem Z8 :f64.format.read 4890909195324358656=.number false 4503599627370496 11:=by decide
theorem Z9 :f64.format.read 14114281232179134464=.number true 4503599627370496 11:=by decide
theorem SX {f:Nat} (g:isNaN f=false) (e:¬(f64.format.order f 4890909195324358656=some .gt\/f64.format.order f 4890909195324358656=some .eq)) (j:f64.format.order f 14114281232179134464≠some .lt):
  ∃n,(f64.decode f).toInt .zero=some n/\IntKind.min .i64<=n/\n<=IntKind.max .i64:=by
 have k:f64.format.order f 4890909195324358656=(f64.format.read f).order (.number false 4503599627370496 11):=by show (f64.format.read f).order (f64.format.read _)=_;rw [Z8]
 have l:f64.format.order f 14114281232179134464=(f64.format.read f).order (.number true 4503599627370496 11):=by show (f64.format.read f).order (f64.format.read _)=_;rw [Z9]
 rw [k] at e;rw [l] at j;unfold isNaN at g;have g:(((f64.format.read f).order (f64.format.read f)) !=some .eq)=false:=g;show ∃n,(f64.format.read f).toInt .zero=some n/\_;generalize f64.format.read f=d at*;cases d with
 | nan a b=>simp [Ieee.Datum.order] at g
 | infinity a=>cases a<;>simp [Ieee.Datum.order] at e j
 | number a m i=>refine Yf ?_ j;have e:¬(some (compare _ _)=_\/some (compare _ _)=_):=e;show some (compare _ _)=some .lt;generalize compare (Ieee.signed a m (i-min i 11).toNat) (Ieee.signed false 4503599627370496 (11-min i 11).toNat)=c at*;cases c<;>simp at e ⊢
theorem Vw {f:Nat} {Q:Int->Hp->Prop} (a:Q (DN f) h):C1 prog f Q h:=by
 unfold C1;refine vw (sh:=bB) (v:=isNaN f) rfl ?_;unfold DN at a;by_cases e:isNaN f=true
 ·rw [if_pos e];rw [if_pos e] at a;exact a
 rw [if_neg e];rw [if_neg e] at a;refine vw (sh:=bB) (v:=f64.format.order f 4890909195324358656==some .gt || f64.format.order f 4890909195324358656==some .eq) rfl ?_;by_cases b:f64.format.order f 4890909195324358656=some .gt\/f64.format.order f 4890909195324358656=some .eq
 ·grind
 rw [if_neg (by simpa using b)];rw [if_neg b] at a;refine vw (sh:=bB) (v:=f64.format.order f 14114281232179134464==some .lt) rfl ?_;by_cases c:f64.format.order f 14114281232179134464=some .lt
 ·grind
 rw [if_neg (by simpa using c)];rw [if_neg c] at a;obtain ⟨n,d,g⟩:=SX (by simpa using e) b c;rw [d] at a;exact ⟨n,Z4 d g,a⟩
theorem xM {o:Option Nat} {f:Nat} (a:∀v,o=some v->f=v) (b:o=none->isNaN f=true):oj f=vb o:=by
 cases o with
 | some v=>rw [a v rfl];rfl
 | none=>unfold oj;rw [if_pos (b rfl)];rfl
theorem Yg {op b c:Int} {Q:Int->Int->Hp->Prop} (a:15<=op/\op<=21->Q (uQ op b c) 0 h) (q:¬(15<=op/\op<=21)->Q 0 9 h):EP prog op b c Q h:=by
 have case:∀n:Int,(op==n)=decide (op=n):=λn=>by by_cases e:op=n<;>simp [e]
 unfold EP;refine HT (II ?_);refine HT (II ?_);unfold uQ at a;simp only [case];by_cases i:op=15
 ·subst i;refine xy Z0 λf d g=>JT (vS ?_);rw [xM d g];simpa using a
 by_cases j:op=16
 ·subst j;refine xy Z1 λf d g=>JT (vS ?_);rw [xM d g];simpa using a
 by_cases k:op=17
 ·subst k;refine xy Z2 λf d g=>JT (vS ?_);rw [xM d g];simpa using a
 by_cases l:op=18
 ·subst l;refine xy Z3 λf d g=>JT (vS ?_);rw [xM d g];simpa using a
 by_cases m:op=19
 ·subst m;refine vw (sh:=bB) (v:=f64.format.order (qS b) (qS c)==some .lt) rfl ?_;simp [tn] at a ⊢;by_cases e:f64.format.order (qS b) (qS c)=some .lt
  ·rw [if_pos e];rw [if_pos e] at a;exact a
  ·rw [if_neg e];rw [if_neg e] at a;exact a
 by_cases o:op=20
 ·subst o;refine ⟨f64.nearest b,Z6,JT (vS ?_)⟩;simpa using a
 by_cases p:op=21
 ·subst p;refine Zq (Vw ?_);simpa using a
 grind
end
section
variable (c:aI) (fl:Nat->Nat->Bool)
def dv (p:Nat) (x:au):Option cp:=gC (ji c p) x.pc
def NF (T:Int) (i:Nat) (l:List pJ):Prop:=
 l.Pairwise (λa b=>a.tick<=b.tick)/\∀e∈l,0<=e.tick/\e.tick<T/\0<=e.proc/\e.proc.toNat<nQ c/\aA c e.proc.toNat=i
structure uB (T:Int) (i:Nat) (x:dB):Prop where
 cur:0<=x.aj/\(0<x.aj->x.aj<(dS c i).length)
 jP:(x.log.length:Int)<=c.log
 log:NF c T i x.log
 lost:jl x.lost
 kH:jl x.forbidden
 full:0<x.lost->c.log<=x.log.length
 gK:(x.az.length:Int)=c.ag
 ib:(x.aw.length:Int)=c.ag
structure cm (t:Int) (p:Nat) (z:Prop) (x:au):Prop where
 st:0<=x.state/\x.state<=6
 pc:0<=x.pc/\x.pc<=(ji c p).length
 lx:x.ak.length=nP c+1
 cur:0<=x.aj/\x.aj<x.ak.length
 mD:0<=x.timer/\x.timer<=t+1099511627776
 mE:0<=x.cJ/\x.cJ<=t+1099511627776
 nj:z\/(0<x.cJ↔x.state=4)
 dead:x.state=5\/x.state=6->(z\/x.timer=0)/\x.bN=false
 dQ:∀(i:Nat) l,x.ak[i]? =some l->(l.values.length:Int)<=c.lane/\jl l.taken/\jl l.dropped/\(tc l->i<nP c->fl i (aA c p)=true)
 recv:x.state=1->(∃n,dv c p x=some n/\n.op=25)/\(∀l∈x.ak,l.values=[])/\x.bN=false
 snd:x.state=2->∃n,dv c p x=some n/\n.op=24
 pz:x.state=3->∃n,dv c p x=some n/\n.op=29
 iP:x.state=4->∃n,dv c p x=some n/\n.op=28
 br:x.br.length=8
variable (s:MS) (X Z:Nat->Prop)
def pj (i k:Nat) (z:Int):Prop:=
 0<=z/\z.toNat<nQ c/\aA c z.toNat=i/\¬X z.toNat/\(Z z.toNat\/((s.proc z.toNat).state=3/\∃n,dv c z.toNat (s.proc z.toNat)=some n/\n.op=29/\n.gW=(k:Int)))
def me (i r:Nat) (w:mr):Prop:=
 0<=w.proc/\w.proc.toNat<nQ c/\aA c w.proc.toNat=i/\¬X w.proc.toNat/\
  (Z w.proc.toNat\/((s.proc w.proc.toNat).state=2/\∃n,dv c w.proc.toNat (s.proc w.proc.toNat)=some n/\n.op=24/\fi (s.proc w.proc.toNat).br n.b=(r:Int)/\fi (s.proc w.proc.toNat).br n.c=w.value))
structure Good (T:Int):Prop where
 tick:0<=s.tick
 part:∀i,i<nP c->uB c T i (s.part i)
 proc:∀p,p<nQ c->cm c fl s.tick p (Z p) (s.proc p)
 own:∀i,i<nP c->∀(k:Nat) o,(s.part i).az[k]? =some o->o= -1\/(0<=o/\o.toNat<nQ c/\aA c o.toNat=i/\(jF (s.proc o.toNat)=true\/Z o.toNat))
 jg:∀i,i<nP c->∀(k:Nat) q,(s.part i).aw[k]? =some q->q.Nodup/\(∀z∈q,pj c s X Z i k z)/\(q≠ []->∃o,(s.part i).az[k]? =some o/\o≠ -1/\o∉q)
 dQ:∀r,r<nQ c->∀(i:Nat) l,(s.proc r).ak[i]? =some l->(l.waiters.map (·.proc)).Nodup/\(l.waiters≠ []->i=aA c r/\(jF (s.proc r)=true\/Z r)/\(l.values.length:Int)=c.lane)/\∀w∈l.waiters,me c s X Z i r w
 rf:∀p,p<nQ c->¬X p->(s.proc p).state=3->∃(k:Nat) (q:List Int),(s.part (aA c p)).aw[k]? =some q/\(p:Int)∈q
 re:∀p,p<nQ c->¬X p->(s.proc p).state=2->∃r,r<nQ c/\∃l,(s.proc r).ak[aA c p]? =some l/\∃w∈l.waiters,w.proc=(p:Int)
end
structure bT (c:aI):Prop where
 parts:1<=nP c/\nP c<=8
 table:c.table≠ []/\c.table.length<=64/\∀i∈c.table,0<=i/\i<(nP c:Int)
 fuel:1<=c.fuel/\c.fuel<=256
 lane:1<=c.lane/\c.lane<=64
 ag:0<=c.ag/\c.ag<=8
 log:0<=c.log/\c.log<=4096
 procs:1<=nQ c/\nQ c<=32
 part:∀y∈c.procs,0<=y.part/\y.part<(nP c:Int)
 code:∀y∈c.procs,y.code.length<=256/\∀x∈y.code,(gG x y.code.length c.ag).1=0
section
variable {c:aI} {fl:Nat->Nat->Bool} {s:MS} {X Z:Nat->Prop} {T:Int}
theorem bT.eR (m:bT c) {p:Nat}:aA c p<nP c:=by
 unfold aA;cases h:c.procs[p]? with
 | none=>simp;have:=m.parts;omega
 | some y=>have:=m.part y (List.mem_of_getElem? h);simp;omega
theorem bT.pV (m:bT c) {p:Nat}:(ji c p).length<=256:=by
 unfold ji;cases h:c.procs[p]? with
 | none=>simp
 | some y=>exact (m.code y (List.mem_of_getElem? h)).1
theorem bT.ins (m:bT c) {p:Nat} {x:au} {n:cp} (h:dv c p x=some n):(gG n (ji c p).length c.ag).1=0/\0<=x.pc/\x.pc<(ji c p).length:=by
 unfold dv gC at h;split at h
 ·rename_i b;have a:=List.mem_of_getElem? h;have d:=(List.getElem?_eq_some_iff.1 h).1;refine ⟨?_,b,by omega⟩;unfold ji at a ⊢;cases e:c.procs[p]? with
  | none=>grind
  | some y=>rw [e] at a;exact (m.code y (List.mem_of_getElem? e)).2 n a
 ·cases h
theorem cW {x:au}:jF x=true↔x.state≠5/\x.state≠6:=by unfold jF;simp
theorem aaa {p:Prop} [Decidable p] {e:Int} {i:Int} {r:Int×Int} (a:e≠0) (h:(if p then (e,i) else r).1=0):¬p/\r.1=0:=by grind
theorem aac {has:Bool} {v:Int} {i:Int} {r:Int×Int} (h:(if cS has v≠0 then (cS has v,i) else r).1=0):cS has v=0/\r.1=0:=by grind
theorem CE {v:Int} (h:cS true v=0):0<=v/\v<8:=by unfold cS at h;omega
theorem xY {n:cp} {k l:Int} (h:(gG n k l).1=0):(0<=n.op/\n.op<34)/\cS (gQ n.op).1 n.a=0/\cS (gQ n.op).2.1 n.b=0/\cS (gQ n.op).2.2.1 n.c=0/\
  ((n.op=22\/n.op=23)->0<=n.gW/\n.gW<=k)/\((n.op=29\/n.op=30)->0<=n.gW/\n.gW<l):=by
 unfold gG at h;obtain ⟨d,h⟩:=aaa (by decide) h;obtain ⟨e,h⟩:=aac h;grind
theorem xz {n:cp} {k l:Int} (h:(gG n k l).1=0) (a:n.op=29\/n.op=30):0<=n.gW/\n.gW<l:=(xY h).2.2.2.2.2 a
theorem SY {n:cp} {k l:Int} (h:(gG n k l).1=0) (g:n.op=24):(0<=n.a/\n.a<8)/\(0<=n.b/\n.b<8)/\(0<=n.c/\n.c<8):=by obtain ⟨_,d,e,f,_⟩:=xY h;rw [g] at d e f;exact ⟨CE d,CE e,CE f⟩
end
def gh (c:aX):List Int:=[c.cv,c.cw,c.cx,c.cC,c.cD,c.cE,c.cF,c.cG]
def fS (c:aX):Core:=⟨c.PC,gh c⟩
def rS (w:eD):Want:=⟨w.Kind,w.To,w.dV⟩
def rowOf (c:aX):gV:=⟨c.cv,c.cw,c.cx,c.cC,c.cD,c.cE,c.cF,c.cG⟩
def GA (c:aX):Nat->Int->aX
 | 0,v=>{c with cv:=v}
 | 1,v=>{c with cw:=v}
 | 2,v=>{c with cx:=v}
 | 3,v=>{c with cC:=v}
 | 4,v=>{c with cD:=v}
 | 5,v=>{c with cE:=v}
 | 6,v=>{c with cF:=v}
 | 7,v=>{c with cG:=v}
 | _,_=>c
section
variable {h0 k:Hp} {p:Addr} {c:aX}
theorem Vy {n:Nat} {v:Int} (a:n<8):fS (GA c n v)=⟨c.PC,(gh c).set n v⟩:=by
 match n,a with
 | 0,_=>rfl
 | 1,_=>rfl
 | 2,_=>rfl
 | 3,_=>rfl
 | 4,_=>rfl
 | 5,_=>rfl
 | 6,_=>rfl
 | 7,_=>rfl
theorem nu {i:Int} {K:Int->Prop} (h:0<=i/\i<8) (a:K (fi (gh c) i)):
  ((0:Int)<=i/\i<(8:Int))/\∃x:Int,((List.get?Internal [(.int .i64 (rowOf c).a0),(.int .i64 (rowOf c).a1),(.int .i64 (rowOf c).a2),(.int .i64 (rowOf c).a3),(.int .i64 (rowOf c).a4),(.int .i64 (rowOf c).a5),(.int .i64 (rowOf c).a6),(.int .i64 (rowOf c).a7)] (0+((Int.toNat i)*1)))=(some (Value.int .i64 x))/\K x):=by
 refine ⟨h,_,?_,a⟩;unfold fi;have:i.toNat<8:=by omega
 generalize i.toNat=n at*
 match n,this with
 | 0,_=>rfl
 | 1,_=>rfl
 | 2,_=>rfl
 | 3,_=>rfl
 | 4,_=>rfl
 | 5,_=>rfl
 | 6,_=>rfl
 | 7,_=>rfl
theorem qA {a v:Int} {Q:Hp->Prop} (o:Has h0 (da eJ p c) k) (f:∀e b,Has h0 (da eJ p e) b->fS e=⟨c.PC,jf (gh c) a v⟩->Q b):ZN prog (some p) a v Q k:=by
 unfold ZN;refine aU ?_;by_cases h:0<=a/\a<8
 ·rw [if_pos (by simp [h.1,h.2])];refine aD ⟨h,?_⟩;rw [sP,Nat.mul_one];have d:a.toNat<8:=by omega
  refine o.st (GA c a.toNat v) (by show 1+a.toNat+1<=9;omega) ?_ λb g=>f _ b g ?_
  ·generalize a.toNat=n at d
   match n,d with
   | 0,_=>rfl
   | 1,_=>rfl
   | 2,_=>rfl
   | 3,_=>rfl
   | 4,_=>rfl
   | 5,_=>rfl
   | 6,_=>rfl
   | 7,_=>rfl
  ·rw [Vy d];unfold jf;rw [if_pos h]
 ·rw [if_neg (by simp;omega)];refine f c k o ?_;unfold jf;rw [if_neg h];rfl
theorem CF {K:Addr->Hp->Prop} (b:∀p a,k<=a->Has k (da eJ p c) a->K p a):bc [(.int .i64 c.PC),(.int .i64 c.cv),(.int .i64 c.cw),(.int .i64 c.cx),(.int .i64 c.cC),(.int .i64 c.cD),(.int .i64 c.cE),(.int .i64 c.cF),(.int .i64 c.cG)] K k:=qJ (sh:=eJ) c rfl b
theorem Fj {Q:aX->Hp->Prop} (hp:0<=c.PC/\c.PC<4611686018427387904) (b:∀a,fS a=fz (fS c)->Q a k):Dl prog c Q k:=by unfold Dl;refine b _ ?_;unfold fS fz gh;dsimp only;rw [wrap64 (by omega) (by omega)]
variable {l:Sl} {xs:List aL}
theorem DO {Q:aL->Bool->Hp->Prop} (r:nF k l xs) (a:∀x:aL,gC (xs.map ba) c.PC=some (ba x)->0<=c.PC->c.PC<(xs.length:Int)->Q x true k) (b:gC (xs.map ba) c.PC=none->Q ⟨0,0,0,0,0⟩ false k):EN prog c l Q k:=by
 unfold EN;refine aU ?_;have d:=r.1;unfold gC at a b;by_cases h:c.PC<0\/(xs.length:Int)<=c.PC
 ·grind
 ·rw [if_neg (by simp;omega)];refine Rs.get r (λ_=>rfl) (by omega) (by omega) (by omega) λx e=>a x ?_ (by omega) (by omega);grind
theorem aae {x:cp} {n m:Int} (h:(gG x n m).1=0):(0<=x.a/\x.a<8)/\(0<=x.b/\x.b<8)/\(0<=x.c/\x.c<8):=by
 have key:∀ {b:Bool} {v:Int},cS b v=0->0<=v/\v<8:=by
  intro b v h;unfold cS at h;by_cases d:b=false/\v≠0
  ·rw [if_pos d] at h;cases h
  ·rw [if_neg d] at h;by_cases hp:v<0\/8<=v
   ·rw [if_pos hp] at h;cases h
   ·omega
 obtain ⟨_,a,b,c,_⟩:=xY h;grind
theorem VD {x:aL} {Q:eD->Bool->Bool->Hp->Prop} (q:0<=x.A/\x.A<8) (hb:0<=x.B/\x.B<8) (t:0<=x.C/\x.C<8) (b:kA (ba x) (gh c)=none->Q ⟨0,0,0⟩ false false k)
  (a:∀w st,kA (ba x) (gh c)=some (rS w,st)->Q w st true k):CZ prog x (rowOf c) Q k:=by
 have case:∀n:Int,(x.Op==n)=decide (x.Op=n):=λn=>by by_cases e:x.Op=n<;>simp [e]
 unfold CZ;unfold kA at b a;simp only [case,decide_eq_true_eq];have s:(ba x).op=x.Op:=rfl;rw [s] at b a;by_cases d:x.Op=0
 ·rw [if_pos d];rw [if_pos d] at a;exact a ⟨1,0,0⟩ true rfl
 rw [if_neg d];rw [if_neg d] at b a;by_cases f:x.Op=24
 ·rw [if_pos f];rw [if_pos f] at a;exact nu hb (nu t (a ⟨2,_,_⟩ true rfl))
 rw [if_neg f];rw [if_neg f] at b a;by_cases g:x.Op=25
 ·rw [if_pos g];rw [if_pos g] at a;exact a ⟨3,0,0⟩ true rfl
 rw [if_neg g];rw [if_neg g] at b a;by_cases h:x.Op=26
 ·rw [if_pos h];rw [if_pos h] at a;exact a ⟨4,0,0⟩ true rfl
 rw [if_neg h];rw [if_neg h] at b a;by_cases i:x.Op=27
 ·rw [if_pos i];rw [if_pos i] at a;exact nu q (a ⟨5,0,_⟩ false rfl)
 rw [if_neg i];rw [if_neg i] at b a;by_cases j:x.Op=28
 ·rw [if_pos j];rw [if_pos j] at a;exact nu q (a ⟨6,0,_⟩ true rfl)
 rw [if_neg j];rw [if_neg j] at b a;by_cases m:x.Op=29
 ·rw [if_pos m];rw [if_pos m] at a;exact a ⟨7,x.jm,0⟩ true rfl
 rw [if_neg m];rw [if_neg m] at b a;by_cases o:x.Op=30
 ·rw [if_pos o];rw [if_pos o] at a;exact a ⟨8,x.jm,0⟩ false rfl
 rw [if_neg o];rw [if_neg o] at b a;by_cases r:x.Op=31
 ·rw [if_pos r];rw [if_pos r] at a;exact nu q (a ⟨9,0,_⟩ false rfl)
 grind
theorem Yh {v:Int} {Q:aX->Hp->Prop} (r:nF k l xs) (hp:0<=c.PC/\c.PC<4611686018427387904) (j:∀b g,k<=g->fS b=jU (xs.map ba) (fS c) v->Q b g):Dp prog c l v Q k:=by
 unfold Dp;refine CF λp w u o=> ?_;unfold jU at j;refine bF.intro (λg=>∃b,Has k (da eJ p b) g/\fz (fS b)=(match gC (xs.map ba) (fS c).pc with
  | some n=>⟨(fS c).pc+1,jf (fS c).br n.a v⟩
  | none=>fz (fS c))) ?_ ?_
 ·refine o.ua (shf:=eJ) c rfl ?_;refine C2 (DO (r.mono u) (λx f _ _=> ?_) λf=> ?_)
  ·rw [if_pos rfl];refine A7 (qA o λb m h e=>⟨b,h,?_⟩);have f:gC (xs.map ba) (fS c).pc=some (ba x):=f;rw [f,e];rfl
  ·rw [if_neg (by decide)];have f:gC (xs.map ba) (fS c).pc=none:=f;refine ⟨c,o,?_⟩;rw [f]
 ·rintro m ⟨b,h,e⟩;refine h.ua (shf:=eJ) b rfl ?_;have t:b.PC=c.PC:=by
   have d:(fz (fS b)).pc=b.PC+1:=rfl;rw [e] at d;cases i:gC (xs.map ba) (fS c).pc with
   | none=>rw [i] at d;have d:c.PC+1=b.PC+1:=d;omega
   | some n=>rw [i] at d;have d:c.PC+1=b.PC+1:=d;omega
  exact C5 (Fj (by rw [t];exact hp) λq s=>j q m h.le (s.trans e))
theorem E4 {v from_:Int} {Q:aX->Hp->Prop} (r:nF k l xs) (hp:0<=c.PC/\c.PC<4611686018427387904) (m:∀d h,k<=h->fS d=gi (xs.map ba) (fS c) v from_->Q d h):Dq prog c l v from_ Q k:=by
 unfold Dq;refine CF λp E C o=> ?_;unfold gi at m;refine bF.intro (λh=>∃d,Has k (da eJ p d) h/\fz (fS d)=(match gC (xs.map ba) (fS c).pc with
  | some n=>⟨(fS c).pc+1,jf (jf (fS c).br n.a v) n.b from_⟩
  | none=>fz (fS c))) ?_ ?_
 ·refine o.ua (shf:=eJ) c rfl ?_;refine C2 (DO (r.mono C) (λx g _ _=> ?_) λg=> ?_)
  ·rw [if_pos rfl];refine A7 (qA o λd q i e=> ?_);refine A7 (qA i λt F D w=>⟨t,D,?_⟩);have g:gC (xs.map ba) (fS c).pc=some (ba x):=g;have y:d.PC=c.PC:=congrArg Core.pc e;have z:gh d=jf (gh c) x.A v:=congrArg Core.br e;rw [g,w,y,z];rfl
  ·rw [if_neg (by decide)];have g:gC (xs.map ba) (fS c).pc=none:=g;refine ⟨c,o,?_⟩;rw [g]
 ·rintro q ⟨d,i,e⟩;refine i.ua (shf:=eJ) d rfl ?_;have B:d.PC=c.PC:=by
   have f:(fz (fS d)).pc=d.PC+1:=rfl;rw [e] at f;cases j:gC (xs.map ba) (fS c).pc with
   | none=>rw [j] at f;have f:c.PC+1=d.PC+1:=f;omega
   | some n=>rw [j] at f;have f:c.PC+1=d.PC+1:=f;omega
  exact C5 (Fj (by rw [B];exact hp) λs u=>m s q i.le (u.trans e))
end
section
variable {h0 k:Hp} {p:Addr} {c:aX} {l:Sl} {xs:List aL}
theorem vH {a:aX} {r:List Int} (e:fS a=⟨c.PC,r⟩):fz (fS a)=⟨c.PC+1,r⟩:=by rw [e];rfl
theorem Yi {tick self:Int} {Q:aX->eD->Hp->Prop} (r:nF k l xs) (Y:xs.length<1073741824)
  (b:∀d w u,k<=u->fS d=(jw fT (xs.map ba) (fS c) tick self).1->rS w=(jw fT (xs.map ba) (fS c) tick self).2->Q d w u):Dm prog c l tick self Q k:=by
 unfold Dm;refine CF λp k1 L o=> ?_;refine o.ua (shf:=eJ) c rfl ?_;have X:=r.1;unfold jw at b;refine C2 (DO (r.mono L) (λx m Z i1=> ?_) λm=> ?_)
 case _=>
  refine ⟨λ_=> ?_,λe=>(by cases e)⟩;refine Y5 (EY λW P=> ?_);have m:gC (xs.map ba) (fS c).pc=some (ba x):=m;rw [m] at b;dsimp only at b;have S:((xs.map ba).length:Int)=(l.len:Int):=by grind
  rw [S] at b;refine aU ?_;have h:=o.grow P;by_cases q:(gG (ba x) (l.len:Int) 8).1≠0
  ·rw [if_pos q] at b;rw [if_pos (by simp [q])];refine h.ua (shf:=eJ) c rfl ?_;exact b c ⟨1,0,0⟩ _ (Hp.le_trans L P) rfl rfl
  ·rw [if_neg q] at b;rw [if_neg (by simpa using q)];have q:(gG (ba x) (l.len:Int) 8).1=0:=by simpa using q
   obtain ⟨y,hb,t⟩:=aae q;have y:0<=x.A/\x.A<8:=y;have hb:0<=x.B/\x.B<8:=hb;have t:0<=x.C/\x.C<8:=t;have O:0<=c.PC/\c.PC<4611686018427387904:=by omega
   refine h.ld (shf:=wA) (rowOf c) (off:=1) rfl ?_;refine Zo (VD y hb t (λJ=> ?_) λw st K=> ?_)
   ·rw [if_neg (by decide)];refine h.ld (shf:=wA) (rowOf c) (off:=1) rfl ?_;have J:kA (ba x) (fS c).br=none:=J;rw [J] at b;dsimp only at b;unfold rG at b;have R:(ba x).op=x.Op:=rfl;rw [R] at b;have case:∀n:Int,(x.Op==n)=decide (x.Op=n):=λn=>by grind
    simp only [case,decide_eq_true_eq];refine iT.intro (λ_ _ u=>∃d,Has k (da eJ p d) u/\d.PC=c.PC/\∀g,fS g=fz (fS d)->Q g ⟨0,0,0⟩ u) ?_ ?_
    ·by_cases z:x.Op=1
     ·rw [if_pos z];rw [if_pos z] at b;refine A7 (qA h λd s f e=>⟨d,f,congrArg Core.pc e,λg i=>b g _ _ f.le (i.trans (vH e)) rfl⟩)
     rw [if_neg z];rw [if_neg z] at b;by_cases D:x.Op=2
     ·rw [if_pos D];rw [if_pos D] at b;refine nu hb ?_;refine A7 (qA h λd s f e=>⟨d,f,congrArg Core.pc e,λg i=>b g _ _ f.le (i.trans (vH e)) rfl⟩)
     rw [if_neg D];rw [if_neg D] at b;by_cases E:x.Op=32
     ·rw [if_pos E];rw [if_pos E] at b;refine A7 (qA h λd s f e=>⟨d,f,congrArg Core.pc e,λg i=>b g _ _ f.le (i.trans (vH e)) rfl⟩)
     rw [if_neg E];rw [if_neg E] at b;by_cases F:x.Op=33
     ·rw [if_pos F];rw [if_pos F] at b;refine A7 (qA h λd s f e=>⟨d,f,congrArg Core.pc e,λg i=>b g _ _ f.le (i.trans (vH e)) rfl⟩)
     rw [if_neg F];rw [if_neg F] at b;by_cases G:x.Op=22
     ·rw [if_pos G];rw [if_pos G] at b;refine h.st {c with PC:=x.jm} (by show 0+1<=9;omega) rfl λs f=> ?_;refine f.ua (shf:=eJ) {c with PC:=x.jm} rfl ?_;exact b _ _ _ f.le rfl rfl
     rw [if_neg G];rw [if_neg G] at b;by_cases H:x.Op=23
     ·rw [if_pos H];rw [if_pos H] at b;refine nu y ?_;by_cases j:fi (gh c) x.A=0
      ·rw [if_pos (by simp [j])];have j:fi (fS c).br (ba x).a=0:=j;rw [if_pos j] at b;exact ⟨c,h,rfl,λg i=>b g _ _ h.le i rfl⟩
      ·rw [if_neg (by simp [j])];have j:¬fi (fS c).br (ba x).a=0:=j;rw [if_neg j] at b;refine h.st {c with PC:=x.jm} (by show 0+1<=9;omega) rfl λs f=> ?_;refine f.ua (shf:=eJ) {c with PC:=x.jm} rfl ?_;exact b _ _ _ f.le rfl rfl
     rw [if_neg H];rw [if_neg H] at b;refine nu hb (nu t ?_);have I:fT x.Op (fi (gh c) x.B) (fi (gh c) x.C)=if 3<=x.Op/\x.Op<=14 then wP x.Op (fi (gh c) x.B) (fi (gh c) x.C) else uQ x.Op (fi (gh c) x.B) (fi (gh c) x.C):=rfl
     have fin:∀v,v=fT x.Op (fi (gh c) x.B) (fi (gh c) x.C)->aY prog vx [(.pointer (some p)),(.int .i64 x.A),(.int .i64 v)] (λN=>∃d,Has k (da eJ p d) N/\d.PC=c.PC/\∀g,fS g=fz (fS d)->Q g ⟨0,0,0⟩ N) W:=by intro v hv;subst hv;exact A7 (qA h λd s f e=>⟨d,f,congrArg Core.pc e,λg i=>b g _ _ f.le (i.trans (vH e)) rfl⟩)
     refine Pg (Yd (λM=> ?_) λM=> ?_)
     ·refine cY.direct ?_;grind
     ·refine cY.direct ?_;rw [if_pos (by decide)];refine nu hb (nu t ?_);rw [if_neg M] at I;refine Pj (Yg (λU=>fin _ I.symm) λU=>fin _ ?_);rw [I];unfold uQ;omega
    ·rintro _ _ s ⟨d,f,T,V⟩;refine f.ua (shf:=eJ) d rfl ?_;exact C5 (Fj (by rw [T];exact O) λg i=>V g i)
   ·rw [if_pos rfl];have K:kA (ba x) (fS c).br=some (rS w,st):=K;rw [K] at b;dsimp only at b;cases st with
    | true=>rw [if_pos rfl];refine h.ua (shf:=eJ) c rfl ?_;exact ⟨⟨trivial,trivial⟩,b c w _ h.le rfl rfl⟩
    | false=>rw [if_neg (by decide)];refine h.ua (shf:=eJ) c rfl ?_;exact C5 (Fj O λg i=>⟨⟨trivial,trivial⟩,⟨trivial,trivial⟩,b g w _ h.le i rfl⟩)
 case _=>refine ⟨λe=>(by cases e),λ_=>⟨0,?_⟩⟩;refine aU ?_;rw [if_pos (by decide)];have m:gC (xs.map ba) (fS c).pc=none:=m;rw [m] at b;refine o.ua (shf:=eJ) c rfl ?_;exact b c ⟨1,0,0⟩ _ L rfl rfl
end
structure MK where
 c:aI
 x:aT
 t:Addr
 sl:Addr
 pt:List Addr
 pr:List Addr
 own:Nat->Sl
 code:Nat->Sl
 ins:Nat->List aL
def F9 (x:aT):al:=⟨x.gA,x.ik,x.lI,x.pk,x.my,x.om,x.gx⟩
structure dq (h:Hp) (K:MK):Prop where
 iF:(hU K.c).1=0
 BB:∀l∈K.c.labels,qN l
 cfg:gL h (F9 K.x) K.c
 t1:K.x.table=some K.t
 t2:qW h K.t K.c.labels
 s1:K.x.qq=some K.sl
 s2:∃(s:Sl) (n:Int),aV h K.sl [s.v,.int .i64 n]/\Is h s K.c.table
 Mr:K.pt.length=nP K.c
 pt:Rs h ah 1 K.x.parts (K.pt.map some)
 Mq:K.pr.length=nQ K.c
 pr:Rs h ah 1 K.x.procs (K.pr.map some)
 own:∀i,i<nP K.c->Is h (K.own i) ((dS K.c i).map λ(q:Nat)=>(q:Int))
 code:∀p,p<nQ K.c->nF h (K.code p) (K.ins p)/\(K.ins p).map ba=ji K.c p
 owned:∀p,p<nQ K.c->aA K.c p<nP K.c
abbrev Gc :pJ->List Value:=λe=> [.int .i64 e.tick,.int .i64 e.proc,.int .i64 e.value]
def lS (K:MK) (i:Nat) (x:be) (lp a:Addr) (y:dB):Prop:=x.procs=K.own i/\x.aj=y.aj/\x.lost=y.lost/\x.forbidden=y.forbidden/\x.ag=some lp/\x.dx=some a
def oa (K:MK) (i:Nat) (x:be) (lp b:Addr) (y:dB) (a:Nat->Int):dh:=
 (da wy (K.pt.getD i a0) x).star ((dK 3 Gc x.log y.log).star ((mb lp y.az y.aw).star (rU b a (2*nQ K.c))))
def n9 (K:MK) (i:Nat) (y:dB) (b:Nat->Int):dh:=.some_ λx:be=>.some_ λlp:Addr=>.some_ λa:Addr=>(oa K i x lp a y b).star (.fact (lS K i x lp a y))
def dG (z:aH):aX:=⟨z.il,z.eZ,z.fa,z.fb,z.fc,z.fe,z.ff,z.fg,z.fh⟩
def ft (K:MK) (p:Nat) (z:aH) (q:Addr) (y:au):Prop:=z.dg=(p:Int)/\z.part=(aA K.c p:Int)/\z.code=K.code p/\z.state=y.state/\fS (dG z)=y.core/\z.bN=y.bN/\z.post=some q
def sc (K:MK) (p:Nat) (z:aH) (q:Addr) (y:au):dh:=(da bf (K.pr.getD p a0) z).star (dC q K.c.lane y.ak y.aj)
def od (K:MK) (p:Nat) (y:au):dh:=.some_ λz:aH=>.some_ λq:Addr=>(sc K p z q y).star (.fact (ft K p z q y))
def qv (x:aT) (t:Int):aT:=⟨x.gA,x.ik,x.lI,x.pk,x.my,x.om,x.gx,x.table,x.qq,t,x.parts,x.procs⟩
def aB (K:MK) (pm:Addr) (s:MS) (a:Nat->Nat->Int):dh:=
 (da H5 pm (qv K.x s.tick)).star ((dh.first (λi=>n9 K i (s.part i) (a i)) (nP K.c)).star (dh.first (λp=>od K p (s.proc p)) (nQ K.c)))
section
variable {h0 h1 k:Hp} {K:MK} {pm:Addr} {s:MS} {d:Nat->Nat->Int}
theorem dq.mono (m:dq h0 K) (c:h0<=h1):dq h1 K where
 iF:=m.iF
 BB:=m.BB
 cfg:=m.cfg.mono c
 t1:=m.t1
 t2:=m.t2.mono c
 s1:=m.s1
 s2:=by obtain ⟨s,n,a,b⟩:=m.s2;exact ⟨s,n,ns c a,b.mono c⟩
 Mr:=m.Mr
 pt:=m.pt.mono c
 Mq:=m.Mq
 pr:=m.pr.mono c
 own:=λi e=>(m.own i e).mono c
 code:=λp hp=>⟨(m.code p hp).1.mono c,(m.code p hp).2⟩
 owned:=m.owned
theorem Has.zr {p:Nat} (o:Has h0 (aB K pm s d) k) (hp:p<nQ K.c):∃h1 z q,h0<=h1/\ft K p z q (s.proc p)/\Has h1 (sc K p z q (s.proc p)) k/\
  ∀g a b,ft K p g q a->Has h1 (sc K p g q a) b->Has h0 (aB K pm (s.bd p a) d) b:=by
 obtain ⟨h1,a1,n,put⟩:=o.f3;obtain ⟨h,a2,f,_,t⟩:=n.one hp;obtain ⟨z,f⟩:=Has.ex.1 f;obtain ⟨q,f⟩:=Has.ex.1 f;obtain ⟨r,i⟩:=f.jc;refine ⟨h,z,q,Hp.le_trans a1 a2,i,r,λg a b l m=>put _ _ ?_⟩;have:=t _ _ (Has.ex.2 ⟨g,Has.ex.2 ⟨q,m.fj l⟩⟩:Has h (od K p a) b);refine cast (congrArg (λA=>Has h1 A b) (sL λj u=> ?_)) this;by_cases e:j=p
 ·subst e;rw [kK];show _=od K j (cg s.proc j a j);rw [kK];rfl
 ·rw [kB e];show _=od K j (cg s.proc p a j);rw [kB e]
theorem Has.qj {i:Nat} (o:Has h0 (aB K pm s d) k) (n:i<nP K.c):∃h1 x lp b,h0<=h1/\lS K i x lp b (s.part i)/\Has h1 (oa K i x lp b (s.part i) (d i)) k/\
  ∀l f g h,lS K i l lp b f->Has h1 (oa K i l lp b f g) h->Has h0 (aB K pm (s.dZ i f) (cg d i g)) h:=by
 obtain ⟨h1,a1,t,put⟩:=o.f2;obtain ⟨m,a2,a,_,v⟩:=t.one n;obtain ⟨x,a⟩:=Has.ex.1 a;obtain ⟨lp,a⟩:=Has.ex.1 a;obtain ⟨b,a⟩:=Has.ex.1 a;obtain ⟨u,p⟩:=a.jc;refine ⟨m,x,lp,b,Hp.le_trans a1 a2,p,u,λl f g h q r=>put _ _ ?_⟩;have:=v _ _ (Has.ex.2 ⟨l,Has.ex.2 ⟨lp,Has.ex.2 ⟨b,r.fj q⟩⟩⟩:Has m (n9 K i f g) h);refine cast (congrArg (λA=>Has h1 A h) (sL λj w=> ?_)) this;by_cases e:j=i
 ·subst e;rw [kK];show _=n9 K j (cg s.part j f j) (cg d j g j);rw [kK,kK];rfl
 ·rw [kB e];show _=n9 K j (cg s.part i f j) (cg d i g j);rw [kB e,kB e]
theorem Has.dY (o:Has h0 (aB K pm s d) k):Has h0 (da H5 pm (qv K.x s.tick)) k:=Has.left o
theorem dq.u6 (m:dq h0 K) (a:h0<=k) {p:Nat} (hp:p<nQ K.c) {Q:Option Addr->Prop} (b:Q (some (K.pr.getD p a0))):bJ K.x.procs.base K.x.procs.len (p:Int)/\aP none ah k (sat K.x.procs.base 1 (p:Int)) Q:=by have e:=m.Mq;refine Rs.get (m.pr.mono a) (λ_=>rfl) (by omega) (by omega) (by rw [List.length_map];omega) λ(y:Option Addr) f=> ?_;grind
theorem dq.partAt (m:dq h0 K) (a:h0<=k) {p:Nat} (hp:p<nP K.c) {Q:Option Addr->Prop} (b:Q (some (K.pt.getD p a0))):bJ K.x.parts.base K.x.parts.len (p:Int)/\aP none ah k (sat K.x.parts.base 1 (p:Int)) Q:=by have e:=m.Mr;refine Rs.get (m.pt.mono a) (λ_=>rfl) (by omega) (by omega) (by rw [List.length_map];omega) λ(y:Option Addr) f=> ?_;grind
theorem dq.nf (m:dq h0 K):K.x.procs.len=nQ K.c:=by have:=m.pr.1;rw [List.length_map,m.Mq] at this;exact this
theorem dq.qk (m:dq h0 K):K.x.parts.len=nP K.c:=by have:=m.pt.1;rw [List.length_map,m.Mr] at this;exact this
end
abbrev MK.p (K:MK) (p:Nat):Addr:=K.pr.getD p a0
abbrev MK.q (K:MK) (i:Nat):Addr:=K.pt.getD i a0
section
variable {h0 h1 k:Hp} {K:MK} {pm:Addr} {s:MS} {a:Nat->Nat->Int}
theorem Has.df {p:Nat} (o:Has h0 (aB K pm s a) k) (hp:p<nQ K.c):∃h1 z q,h0<=h1/\ft K p z q (s.proc p)/\Has h1 (da bf (K.p p) z) k/\
  ∀e b d,ft K p e q b->b.ak=(s.proc p).ak->b.aj=(s.proc p).aj->Has h1 (da bf (K.p p) e) d->Has h0 (aB K pm (s.bd p b) a) d:=by
 obtain ⟨h1,z,q,i,g,m,put⟩:=o.zr hp;obtain ⟨f,j,n,_,r⟩:=m.fst;refine ⟨f,z,q,Hp.le_trans i j,g,n,λe b d h t u l=>put e b d h ?_⟩;have:=r _ _ l;unfold sc;grind
theorem Has.nb {p:Nat} (o:Has h0 (aB K pm s a) k) (hp:p<nQ K.c):∃h1 z q,h0<=h1/\ft K p z q (s.proc p)/\Has h0 (da bf (K.p p) z) k/\Has h1 (dC q K.c.lane (s.proc p).ak (s.proc p).aj) k/\
  ∀e d b,Has h1 (dC q K.c.lane e d) b->Has h0 (aB K pm (s.bd p {s.proc p with ak:=e,aj:=d}) a) b:=by
 obtain ⟨h1,z,q,g,f,h,put⟩:=o.zr hp;obtain ⟨i,j,m,_,n⟩:=h.snd;exact ⟨i,z,q,Hp.le_trans g j,f,(Has.left h).mono g,m,λe d b l=>put z _ b f (n _ _ l)⟩
def uK (z:aH) (c:aX):aH:=⟨z.dg,z.part,z.code,z.state,c.PC,c.cv,c.cw,c.cx,c.cC,c.cD,c.cE,c.cF,c.cG,z.bN,z.post⟩
def nv (z:aH) (n:Int):aH:=⟨z.dg,z.part,z.code,n,z.il,z.eZ,z.fa,z.fb,z.fc,z.fe,z.ff,z.fg,z.fh,z.bN,z.post⟩
def tV (z:aH) (b:Bool):aH:=⟨z.dg,z.part,z.code,z.state,z.il,z.eZ,z.fa,z.fb,z.fc,z.fe,z.ff,z.fg,z.fh,b,z.post⟩
theorem ft.core {p:Nat} {z:aH} {q:Addr} {y:au} (b:ft K p z q y) (c:aX):ft K p (uK z c) q (y.put (fS c)):=⟨b.1,b.2.1,b.2.2.1,b.2.2.2.1,rfl,b.2.2.2.2.2⟩
theorem ft.state {p:Nat} {z:aH} {q:Addr} {y:au} (b:ft K p z q y) (n:Int):ft K p (nv z n) q {y with state:=n}:=⟨b.1,b.2.1,b.2.2.1,rfl,b.2.2.2.2⟩
theorem ft.bN {p:Nat} {z:aH} {q:Addr} {y:au} (c:ft K p z q y) (b:Bool):ft K p (tV z b) q {y with bN:=b}:=⟨c.1,c.2.1,c.2.2.1,c.2.2.2.1,c.2.2.2.2.1,rfl,c.2.2.2.2.2.2⟩
theorem Eg {n:Int} {Q:Bool->Hp->Prop} (b:Q (decide (n≠5)&&decide (n≠6)) k):Yz prog n Q k:=by unfold Yz;refine aU ?_;grind
theorem IJ {n:Int} {Q:Int->Hp->Prop} (b:jl n) (c:Q (more n) k):ZL prog n Q k:=by
 unfold ZL;unfold jl at b;rw [wrap64 (by omega) (by omega)];have:im (n+1) 65535=more n:=by unfold im more;split<;>split<;>omega
 grind
theorem E5 {p:Nat} {c:aX} {m:Option Addr} {Q:Hp->Prop} (o:Has h0 (aB K pm s a) k) (hp:p<nQ K.c) (d:∀b,Has h0 (aB K pm (s.bd p (uR (s.proc p) (fS c))) a) b->Q b):Sn prog m (some (K.p p)) c Q k:=by unfold Sn;obtain ⟨h1,z,q,l,e,f,put⟩:=o.df hp;refine aD (f.st (nv z 0) (by show 3+1<=15;omega) rfl λi g=> ?_);refine ⟨⟨trivial,trivial⟩,aD (g.st (uK (nv z 0) c) (by show 4+9<=15;omega) rfl λj h=> ?_)⟩;exact d _ (put _ _ _ ((e.state 0).core c) rfl rfl h)
theorem dq.qb (m:dq h0 K) (b:h0<=k) {p:Nat} (hp:p<nQ K.c) {z:aH} {q:Addr} {y:au} (d:ft K p z q y):nF k z.code (K.ins p):=by rw [d.2.2.1];exact ((m.code p hp).1).mono b
theorem DL {p:Nat} {v:Int} {n:Option Addr} {Q:Hp->Prop} (m:dq h0 K) (o:Has h0 (aB K pm s a) k) (hp:p<nQ K.c) (u:0<=(s.proc p).pc/\(s.proc p).pc<4611686018427387904) (i:∀d,Has h0 (aB K pm (cf K.c s p v) a) d->Q d):
  Qq prog n (some (K.p p)) v Q k:=by
 unfold Qq;obtain ⟨h1,z,q,x,b,f,put⟩:=o.df hp;refine aD (f.ld (shf:=eJ) (dG z) rfl ?_);refine aD (f.ld (shf:=av) z.code rfl ?_);have e:fS (dG z)=(s.proc p).core:=b.2.2.2.2.1;have t:(dG z).PC=(s.proc p).pc:=congrArg Core.pc e;refine abG (Yh (m.qb o.le hp b) (by omega) λr w l h=> ?_);refine Qt (E5 (o.grow l) hp λj g=>i j ?_);rw [h,e,(m.code p hp).2] at g;exact g
theorem E6 {p:Nat} {i:Option Addr} {Q:Hp->Prop} (o:Has h0 (aB K pm s a) k) (hp:p<nQ K.c) (b:∀g,Has h0 (aB K pm (s.bd p (ed (s.proc p))) a) g->Q g):Sd prog i (some (K.p p)) Q k:=by
 unfold Sd;obtain ⟨h1,z,q,m,d,f,put⟩:=o.df hp;refine aD (f.ld (shf:=af .i64) z.state rfl ?_);have e:z.state=(s.proc p).state:=d.2.2.2.1;unfold ed at b;by_cases h:(s.proc p).state=1
 ·rw [if_pos (show (z.state==1)=true by rw [e,h];rfl)];rw [if_pos h] at b;exact aD (f.st (nv z 0) (by show 3+1<=15;omega) rfl λl j=>b _ (put _ _ _ (d.state 0) rfl rfl j))
 ·rw [if_neg (show ¬(z.state==1)=true by grind)];rw [if_neg h] at b;exact b _ (put z (s.proc p) k d rfl rfl f)
theorem Eh {kf:Int} {Q:Hp->Prop} (m:dq h0 K) (o:Has h0 (aB K pm s a) k) (t:0<=kf->kf<(nQ K.c:Int)/\0<=(s.proc kf.toNat).pc/\(s.proc kf.toNat).pc<4611686018427387904) (b:∀g,Has h0 (aB K pm (jj s kf) a) g->Q g):
  Rl prog (some pm) kf Q k:=by
 unfold Rl;unfold jj at b;by_cases h:0<=kf
 ·rw [if_pos (by simpa using h)];rw [if_pos h] at b;obtain ⟨D,A⟩:=t h;have hp:kf.toNat<nQ K.c:=by omega
  have r:((kf.toNat:Nat):Int)=kf:=by omega
  have at_:=m.u6 o.le hp (Q:=λy=>y=some (K.p kf.toNat)) rfl;rw [r] at at_;obtain ⟨f,y,d,rfl⟩:=at_;refine aD (o.dY.ld (shf:=av) K.x.procs rfl ⟨f,_,d,aD (o.dY.ld (shf:=av) K.x.procs rfl ⟨f,_,d,?_⟩)⟩);obtain ⟨h1,z,q,C,u,w,put⟩:=o.df hp;have e:fS (dG z)=(s.proc kf.toNat).core:=u.2.2.2.2.1;have l:(dG z).PC=(s.proc kf.toNat).pc:=congrArg Core.pc e;refine aD (w.ld (shf:=eJ) (dG z) rfl ?_);refine C5 (Fj (by rw [l];exact A) λB j=> ?_);refine ⟨⟨o.dY.eh (n:=1) rfl,d,trivial⟩,?_⟩;refine Qt (E5 o hp λv i=>b v ?_);rw [j,e] at i;exact i
 grind
end
section
variable {c:aI} {fl:Nat->Nat->Bool} {s:MS} {X Z:Nat->Prop} {T:Int} {p:Nat} {x':au}
theorem fC {s:MS} {p:Nat} {x:au}:(s.bd p x).proc p=x:=kK
theorem hO {s:MS} {p q:Nat} {x:au} (h:q≠p):(s.bd p x).proc q=s.proc q:=kB h
theorem Bb {s:MS} {p:Nat} {x y:au}:(s.bd p x).bd p y=s.bd p y:=by unfold MS.bd;rw [LA]
theorem sV {s:MS} {i:Nat} {x:dB}:(s.dZ i x).part i=x:=kK
theorem tO {s:MS} {i j:Nat} {x:dB} (h:j≠i):(s.dZ i x).part j=s.part j:=kB h
def Out (s:MS) (X Z:Nat->Prop) (p:Nat):Prop:=¬Z p/\(X p\/((s.proc p).state≠2/\(s.proc p).state≠3))
theorem pj.out {i k:Nat} {z:Int} (h:pj c s X Z i k z) (o:Out s X Z p):z.toNat≠p:=λe=>by
 subst e;obtain ⟨_,_,_,a,h2⟩:=h;rcases o.2 with o2 | o2
 ·exact a o2
 ·rcases h2 with h2 | h2
  ·exact o.1 h2
  ·exact o2.2 h2.1
theorem me.out {i r:Nat} {w:mr} (h:me c s X Z i r w) (o:Out s X Z p):w.proc.toNat≠p:=λe=>by
 subst e;obtain ⟨_,_,_,a,h2⟩:=h;rcases o.2 with o2 | o2
 ·exact a o2
 ·rcases h2 with h2 | h2
  ·exact o.1 h2
  ·exact o2.1 h2.1
theorem pj.bq {b:MS} {a:Nat->Prop} {i k:Nat} {z:Int} (h:pj c s X Z i k z) (m:a z.toNat->X z.toNat) (e:b.proc z.toNat=s.proc z.toNat):pj c b a Z i k z:=by obtain ⟨d,f,g,j,l⟩:=h;exact ⟨d,f,g,λh=>j (m h),by rw [e];exact l⟩
theorem me.bq {b:MS} {a:Nat->Prop} {i r:Nat} {w:mr} (h:me c s X Z i r w) (l:a w.proc.toNat->X w.proc.toNat) (e:b.proc w.proc.toNat=s.proc w.proc.toNat):me c b a Z i r w:=by obtain ⟨d,f,g,j,k⟩:=h;exact ⟨d,f,g,λh=>j (l h),by rw [e];exact k⟩
theorem Good.run (g:Good c fl s X Z T) (o:Out s X Z p) (pm:cm c fl s.tick p (Z p) x') (A:x'.state≠2/\x'.state≠3) (v:x'.ak=(s.proc p).ak) (hv:jF (s.proc p)=true->jF x'=true):
  Good c fl (s.bd p x') (λq=>X q/\q≠p) Z T where
 tick:=g.tick
 part:=g.part
 proc q hq:=by
  by_cases e:q=p
  ·subst e;rw [fC];exact pm
  ·rw [hO e];exact g.proc q hq
 own i hi k ow h:=by
  rcases g.own i hi k ow h with h | ⟨n,f,j,t⟩
  ·exact .inl h
  ·refine .inr ⟨n,f,j,t.imp (λt=> ?_) id⟩;by_cases e:ow.toNat=p
   ·rw [e,fC];grind
   ·rw [hO e];exact t
 jg i hi k q h:=by obtain ⟨n,f,j⟩:=g.jg i hi k q h;exact ⟨n,λz y=>(f z y).bq (λh=>h.1) (hO ((f z y).out o)),j⟩
 dQ r u i l h:=by
  have e:((s.bd p x').proc r).ak=(s.proc r).ak:=by
   by_cases e:r=p
   ·subst e;rw [fC];exact v
   ·rw [hO e]
  rw [e] at h;obtain ⟨n,f,j⟩:=g.dQ r u i l h;refine ⟨n,λm=> ?_,λw m=>(j w m).bq (λh=>h.1) (hO ((j w m).out o))⟩;obtain ⟨a,b,d⟩:=f m;refine ⟨a,b.imp (λb=> ?_) id,d⟩;by_cases e:r=p
  ·subst e;rw [fC];exact hv b
  ·rw [hO e];exact b
 rf q hq hx j:=by
  by_cases e:q=p
  ·subst e;rw [fC] at j;omega
  ·rw [hO e] at j;exact g.rf q hq (λh=>hx ⟨h,e⟩) j
 re q hq hx f:=by
  by_cases e:q=p
  ·subst e;rw [fC] at f;omega
  ·rw [hO e] at f;obtain ⟨r,u,l,x,m⟩:=g.re q hq (λh=>hx ⟨h,e⟩) f;refine ⟨r,u,l,?_,m⟩;by_cases e:r=p
   ·subst e;rw [fC,v];exact x
   ·rw [hO e];exact x
theorem Good.ak {X':Nat->Prop} (g:Good c fl s X Z T) (pm:cm c fl s.tick p (Z p) x') (c0:x'.state=(s.proc p).state\/((s.proc p).state=1/\x'.state=0)) (b8:x'.pc=(s.proc p).pc) (hr:x'.br=(s.proc p).br)
  (hl:x'.ak.length=(s.proc p).ak.length) (Q:∀(i:Nat) l o,(s.proc p).ak[i]? =some l->x'.ak[i]? =some o->o.waiters.Sublist l.waiters/\(o.waiters≠ []->(o.values.length:Int)=c.lane)/\∀w∈l.waiters,w∈o.waiters\/X' w.proc.toNat)
  (hp:p<nQ c) (S:∀q,X q->X' q) (K:∀q,X' q->X q\/(¬Z q/\∃(i:Nat) (l o:bm) (w:mr),(s.proc p).ak[i]? =some l/\x'.ak[i]? =some o/\w∈l.waiters/\w.proc∉o.waiters.map (·.proc)/\w.proc=(q:Int))):
  Good c fl (s.bd p x') X' Z T:=by
 have I:∀q,((s.bd p x').proc q).pc=(s.proc q).pc/\((s.bd p x').proc q).br=(s.proc q).br/\(((s.bd p x').proc q).state=(s.proc q).state\/((s.proc q).state=1/\((s.bd p x').proc q).state=0)):=λq=>by
  by_cases e:q=p
  ·subst e;rw [fC];grind
  ·rw [hO e];simp
 have a8:∀q,jF (s.proc q)=true->jF ((s.bd p x').proc q)=true:=λq h=>by rw [cW] at h ⊢;grind
 have c1:∀q n,n=2\/n=3->(s.proc q).state=n->((s.bd p x').proc q).state=n:=λq n hn h=>by grind
 have b6:∀q,dv c q ((s.bd p x').proc q)=dv c q (s.proc q):=λq=>by unfold dv;rw [(I q).1]
 have b0:∀ {i k z},pj c s X Z i k z->¬X' z.toNat:=λ{i k z} h m=>by
  obtain ⟨t,d,f,B,F⟩:=h;rcases K _ m with C | ⟨E,j,l,o,w,A,N,x,O,P⟩
  ·exact B C
  ·obtain ⟨_,_,L⟩:=g.dQ p hp j l A;obtain ⟨_,_,_,_,b4⟩:=L w x;grind
 have b7:∀ {i r w},r≠p->me c s X Z i r w->¬X' w.proc.toNat:=λ{i r w} b9 h m=>by
  obtain ⟨t,d,f,B,F⟩:=h;rcases K _ m with C | ⟨E,j,l,o,M,A,N,x,O,P⟩
  ·exact B C
  ·obtain ⟨_,_,L⟩:=g.dQ p hp j l A;obtain ⟨_,_,_,_,b4⟩:=L M x;grind
 have Y:∀ {i r w},me c s X Z i r w->¬X' w.proc.toNat->me c (s.bd p x') X' Z i r w:=λ{i r w} h m=>by obtain ⟨t,d,f,B,F⟩:=h;refine ⟨t,d,f,m,F.imp id λF=> ?_⟩;grind
 refine ⟨g.tick,g.part,λq v=> ?_,λi u k ow h=> ?_,λi u k q h=> ?_,λr y i l h=> ?_,λq v m f=> ?_,λq v m d=> ?_⟩
 ·by_cases e:q=p
  ·subst e;rw [fC];exact pm
  ·rw [hO e];exact g.proc q v
 ·rcases g.own i u k ow h with h | ⟨t,d,f,B⟩
  ·exact .inl h
  grind
 ·obtain ⟨t,d,f⟩:=g.jg i u k q h;refine ⟨t,λz E=> ?_,f⟩;have v:=b0 (d z E);obtain ⟨a1,a2,a3,a4,a5⟩:=d z E;refine ⟨a1,a2,a3,v,a5.imp id λa5=> ?_⟩;grind
 ·by_cases e:r=p
  ·subst e;rw [fC] at h ⊢;have u:i<(s.proc r).ak.length:=by grind
   have G:(s.proc r).ak[i]? =some ((s.proc r).ak[i]):=List.getElem?_eq_getElem u;generalize (s.proc r).ak[i]=U at G;obtain ⟨t,d,f⟩:=g.dQ r y i U G;obtain ⟨V,w2,w3⟩:=Q i U l G h;refine ⟨t.sublist (V.map _),λa9=> ?_,λw J=> ?_⟩
   ·obtain ⟨a,b,_⟩:=d λe=>by grind
    refine ⟨a,b.imp (λb=> ?_) id,w2 a9⟩;have:=a8 r b;rw [fC] at this;exact this
   ·have D:=V.subset J;refine Y (f w D) λm=> ?_;rcases K _ m with C | ⟨E,j,l1,o,M,A,N,x,O,P⟩
    ·exact (f w D).2.2.2.1 C
    · -- the same lane
     obtain ⟨b1,W,b3⟩:=g.dQ r y j l1 A;have hj:j=aA c r:=(W λe=>by rw [e] at x;cases x).1;have b5:i=aA c r:=(d λe=>by rw [e] at D;cases D).1;have e7:M.proc=w.proc:=by have:=(f w D).1;omega
     grind
  ·rw [hO e] at h ⊢;obtain ⟨t,d,f⟩:=g.dQ r y i l h;grind
 ·have:=(I q).2.2;exact g.rf q v (λh=>m (S q h)) (by omega)
 ·have:=(I q).2.2;obtain ⟨r,y,l,H,w,J,R⟩:=g.re q v (λh=>m (S q h)) (by omega);by_cases e:r=p
  ·subst e;have u:aA c q<x'.ak.length:=by rw [hl];exact (List.getElem?_eq_some_iff.1 H).1
   obtain ⟨_,_,w3⟩:=Q _ l _ H (List.getElem?_eq_getElem u);refine ⟨r,y,x'.ak[aA c q],by rw [fC];exact List.getElem?_eq_getElem u,w,?_,R⟩;grind
  ·exact ⟨r,y,l,by rw [hO e];exact H,w,J,R⟩
theorem Good.parts {i:Nat} {y:dB} (g:Good c fl s X Z T) (pm:uB c T i y) (d:y.az=(s.part i).az) (l:y.aw=(s.part i).aw):Good c fl (s.dZ i y) X Z T:=by
 have f:∀j,((s.dZ i y).part j).az=(s.part j).az:=λj=>by
  by_cases e:j=i
  ·subst e;rw [sV,d]
  ·rw [tO e]
 have m:∀j,((s.dZ i y).part j).aw=(s.part j).aw:=λj=>by
  by_cases e:j=i
  ·subst e;rw [sV,l]
  ·rw [tO e]
 refine ⟨g.tick,λj a=> ?_,g.proc,λj a k o h=>g.own j a k o (by grind),λj a k q h=> ?_,g.dQ,λq n r b=> ?_,g.re⟩
 ·by_cases e:j=i
  ·subst e;rw [sV];exact pm
  ·rw [tO e];exact g.part j a
 ·rw [f];exact g.jg j a k q (by grind)
 ·rw [m];exact g.rf q n r b
end
section
variable {c:aI} {fl:Nat->Nat->Bool} {s:MS} {X Z:Nat->Prop} {T:Int} {p:Nat} {x:au} {t:Int} {z:Prop}
theorem Good.congr {a:Nat->Prop} (g:Good c fl s X Z T) (h:∀q,X q↔a q):Good c fl s a Z T:=by have:X=a:=funext λq=>propext (h q);grind
theorem gY {r:List Int} {i v:Int}:(jf r i v).length=r.length:=by unfold jf;split<;>simp
theorem vI {n:Int} (h:jl n):jl (more n):=by unfold jl more at*;split<;>omega
theorem Yj {l:List cp} {k:Core} {v:Int} (h:∃n,gC l k.pc=some n):(jU l k v).pc=k.pc+1/\(jU l k v).br.length=k.br.length:=by obtain ⟨n,a⟩:=h;unfold jU;rw [a];exact ⟨rfl,gY⟩
theorem Yk {l:List cp} {k:Core} {v w:Int} (h:∃n,gC l k.pc=some n):(gi l k v w).pc=k.pc+1/\(gi l k v w).br.length=k.br.length:=by obtain ⟨n,a⟩:=h;unfold gi;rw [a];exact ⟨rfl,by simp [gY]⟩
theorem cm.go (pm:cm c fl t p z x) (b:x.state≠4) {k:Core} (d:0<=k.pc/\k.pc<=(ji c p).length) (e:k.br.length=8):cm c fl t p z (uR x k) where
 st:=by show (0:Int)<=0/\(0:Int)<=6;omega
 pc:=d
 lx:=pm.lx
 cur:=pm.cur
 mD:=pm.mD
 mE:=pm.mE
 nj:=pm.nj.imp id λh=>⟨λa=>absurd (h.1 a) b,λa=>by have:(0:Int)=4:=a;omega⟩
 dead:=λh=>by have:(0:Int)=5\/(0:Int)=6:=h;omega
 dQ:=pm.dQ
 recv:=λh=>by have:(0:Int)=1:=h;omega
 snd:=λh=>by have:(0:Int)=2:=h;omega
 pz:=λh=>by have:(0:Int)=3:=h;omega
 iP:=λh=>by have:(0:Int)=4:=h;omega
 br:=e
theorem cm.put (pm:cm c fl t p z x) (a:x.state=0) {k:Core} (b:0<=k.pc/\k.pc<=(ji c p).length) (d:k.br.length=8):cm c fl t p z (x.put k):=by
 have:=pm.go (by omega) b d;have e:x.put k=uR x k:=by unfold au.put uR;rw [<-a]
 rw [e];exact this
theorem qB {n:cp} (h:dv c p x=some n):0<=x.pc/\x.pc<(ji c p).length:=by unfold dv gC at h;grind
theorem Good.told (g:Good c fl s X Z T) (hp:p<nQ c) (o:Out s X Z p) (e:(s.proc p).state≠4) (a:∃n,dv c p (s.proc p)=some n) (v:Int):Good c fl (cf c s p v) (λq=>X q/\q≠p) Z T:=by have pm:=g.proc p hp;have d:=Yj (l:=ji c p) (k:=(s.proc p).core) (v:=v) a;have h:0<=(s.proc p).pc/\(s.proc p).pc<(ji c p).length:=a.elim λn f=>qB f;have b:(jU (ji c p) (s.proc p).core v).pc=(s.proc p).pc+1:=d.1;refine g.run o (pm.go e ⟨by rw [b];omega,by rw [b];omega⟩ (d.2.trans pm.br)) ⟨by show (0:Int)≠2;omega,by show (0:Int)≠3;omega⟩ rfl λ_=>rfl
theorem Good.NO (g:Good c fl s X Z T) (hp:p<nQ c) (o:Out s X Z p) (a:(s.proc p).state≠4) (b:∃n,dv c p (s.proc p)=some n):Good c fl (oH s p) (λq=>X q/\q≠p) Z T:=by have pm:=g.proc p hp;have e:0<=(s.proc p).pc/\(s.proc p).pc<(ji c p).length:=b.elim λn d=>qB d;refine g.run o (pm.go a ⟨by show 0<=(s.proc p).pc+1;omega,by show (s.proc p).pc+1<=_;omega⟩ pm.br) ⟨by show (0:Int)≠2;omega,by show (0:Int)≠3;omega⟩ rfl λ_=>rfl
theorem cm.lane (pm:cm c fl t p z x) {i:Nat} {f:bm->bm} (r:∀l,x.ak[i]? =some l->((f l).values.length:Int)<=c.lane/\jl (f l).taken/\jl (f l).dropped/\(tc (f l)->i<nP c->fl i (aA c p)=true)) (o:x.state=1->∀l,l.values=[]->(f l).values=[]):
  cm c fl t p z (bE x i f) where
 st:=pm.st
 pc:=pm.pc
 lx:=by show (x.ak.modify i f).length=_;rw [List.length_modify];exact pm.lx
 cur:=by show 0<=x.aj/\x.aj<((x.ak.modify i f).length:Int);rw [List.length_modify];exact pm.cur
 mD:=pm.mD
 mE:=pm.mE
 nj:=pm.nj
 dead:=pm.dead
 dQ:=λj l h=>by
  have h:(x.ak.modify i f)[j]? =some l:=h;rw [List.getElem?_modify] at h;cases e:x.ak[j]? with
  | none=>grind
  | some k=>
   rw [e] at h;by_cases m:i=j
   ·grind
   ·simp [m] at h;subst h;exact pm.dQ j k e
 recv:=λh=>by
  obtain ⟨a,b,d⟩:=pm.recv h;refine ⟨a,λl q=> ?_,d⟩;obtain ⟨j,g⟩:=List.getElem?_of_mem (show l∈x.ak.modify i f from q);rw [List.getElem?_modify] at g;cases e:x.ak[j]? with
  | none=>grind
  | some k=>
   rw [e] at g;have n:=b k (List.mem_of_getElem? e);by_cases m:i=j
   ·simp [m] at g;rw [<-g];exact o h k n
   grind
 snd:=pm.snd
 pz:=pm.pz
 iP:=pm.iP
 br:=pm.br
theorem cm.cJ (pm:cm c fl t p z x):cm c fl t p z (ed x):=by
 by_cases h:x.state=1
 ·have:ed x=uR x x.core:=by unfold ed uR au.core;rw [if_pos h]
  rw [this];exact pm.go (by omega) pm.pc pm.br
 ·have:ed x=x:=by unfold ed;rw [if_neg h]
  grind
theorem Good.lane (g:Good c fl s X Z T) (hp:p<nQ c) {i:Nat} {f:bm->bm} (b:∀l,(s.proc p).ak[i]? =some l->((f l).values.length:Int)<=c.lane/\jl (f l).taken/\jl (f l).dropped/\(tc (f l)->i<nP c->fl i (aA c p)=true))
  (v:∀l,(s.proc p).ak[i]? =some l->(f l).waiters=l.waiters/\(l.waiters≠ []->(f l).values.length=l.values.length)) (a:Bool) (m:a=false->∀l,l.values=[]->(f l).values=[]):
  Good c fl (s.bd p (if a then ed (bE (s.proc p) i f) else bE (s.proc p) i f)) X Z T:=by
 have pm:=g.proc p hp;have o:cm c fl s.tick p (Z p) (if a then ed (bE (s.proc p) i f) else bE (s.proc p) i f):=by
  cases a with
  | false=>exact pm.lane b λ_=>m rfl
  | true=>
   by_cases h:(s.proc p).state=1
   ·have r:cm c fl s.tick p (Z p) (uR (s.proc p) (s.proc p).core):=pm.go (by omega) pm.pc pm.br;have:=r.lane (i:=i) (f:=f) b λh=>by have:(0:Int)=1:=h;omega
    have e:ed (bE (s.proc p) i f)=bE (uR (s.proc p) (s.proc p).core) i f:=by unfold ed bE uR au.core;simp [h]
    grind
   ·exact (pm.lane b λk=>absurd k h).cJ
 have n:(if a then ed (bE (s.proc p) i f) else bE (s.proc p) i f).ak=(s.proc p).ak.modify i f:=by cases a<;>rfl
 refine g.ak o ?_ (by cases a<;>rfl) (by cases a<;>rfl) (by grind) (λj l w d e2=> ?_) hp (λ_ h=>h) λq h=>.inl h
 ·cases a with
  | false=>exact .inl rfl
  | true=>
   by_cases h:(s.proc p).state=1
   ·refine .inr ⟨h,?_⟩;show (if (s.proc p).state=1 then (0:Int) else (s.proc p).state)=0;rw [if_pos h]
   ·refine .inl ?_;show (if (s.proc p).state=1 then (0:Int) else (s.proc p).state)=_;rw [if_neg h]
 ·rw [n,List.getElem?_modify,d] at e2;obtain ⟨_,u,_⟩:=g.dQ p hp j l d;grind
theorem E7 {D:Int->Int->Int->Int} {l:List cp} {k:Core} {tk self:Int}:((jw D l k tk self).2.kind=1/\(jw D l k tk self).1=k)\/(∃n,gC l k.pc=some n/\(gG n l.length 8).1=0/\
  ((kA n k.br=none/\jw D l k tk self=(rG D n k tk self,⟨0,0,0⟩))\/∃w a,kA n k.br=some (w,a)/\jw D l k tk self=(if a then k else fz k,w))):=by
 unfold jw;grind
theorem Mg {n:cp} {r:List Int} {w:Want} {st:Bool} (h:kA n r=some (w,st)):
  (w.kind=1/\st=true)\/(n.op=24/\w=⟨2,fi r n.b,fi r n.c⟩/\st=true)\/(n.op=25/\w.kind=3/\st=true)\/(n.op=26/\w.kind=4/\st=true)\/(w.kind=5/\st=false)\/(n.op=28/\w.kind=6/\st=true)\/
   (n.op=29/\w.kind=7/\w.to=n.gW/\st=true)\/(n.op=30/\w.kind=8/\w.to=n.gW/\st=false)\/(w.kind=9/\st=false):=by
 unfold kA at h;split at h
 ·cases h;exact .inl ⟨rfl,rfl⟩
 split at h
 ·rename_i e;cases h;exact .inr (.inl ⟨e,rfl,rfl⟩)
 split at h
 ·rename_i e;cases h;exact .inr (.inr (.inl ⟨e,rfl,rfl⟩))
 split at h
 ·rename_i e;cases h;exact .inr (.inr (.inr (.inl ⟨e,rfl,rfl⟩)))
 split at h
 ·rename_i e;cases h;exact .inr (.inr (.inr (.inr (.inl ⟨rfl,rfl⟩))))
 split at h
 ·rename_i e;cases h;exact .inr (.inr (.inr (.inr (.inr (.inl ⟨e,rfl,rfl⟩)))))
 grind
theorem Mh {D:Int->Int->Int->Int} {l:List cp} {k:Core} {tk self:Int} {n:cp} (b:gC l k.pc=some n) (d:(gG n l.length 8).1=0) (a:k.br.length=8):
  (0<=(rG D n k tk self).pc/\(rG D n k tk self).pc<=l.length)/\(rG D n k tk self).br.length=8:=by
 have g:0<=k.pc/\k.pc<l.length:=qB (c:=⟨[],[],0,0,0,0,[⟨0,l⟩]⟩) (p:=0) (x:=⟨0,k.pc,[],0,0,false,0,[]⟩) b;have f:=(xY d).2.2.2.2.1;unfold rG;split
 ·exact ⟨⟨by grind,by show k.pc+1<=_;omega⟩,gY.trans a⟩
 split
 ·exact ⟨⟨by show 0<=k.pc+1;omega,by show k.pc+1<=_;omega⟩,gY.trans a⟩
 split
 ·exact ⟨⟨by show 0<=k.pc+1;omega,by show k.pc+1<=_;omega⟩,gY.trans a⟩
 split
 ·exact ⟨⟨by show 0<=k.pc+1;omega,by show k.pc+1<=_;omega⟩,gY.trans a⟩
 split
 ·grind
 split
 ·rename_i e;split
  ·exact ⟨⟨by show 0<=k.pc+1;omega,by show k.pc+1<=_;omega⟩,a⟩
  grind
 ·exact ⟨⟨by grind,by show k.pc+1<=_;omega⟩,gY.trans a⟩
end
def lR (p:Int) (s:MS) (l:List Nat):MS:=⟨s.tick,s.part,λq=>if q∈l then qQ p (s.proc q) else s.proc q⟩
def No :Nat->Prop:=λ_=>False
section
variable {c:aI} {fl:Nat->Nat->Bool} {s:MS} {T:Int} {p:Nat} {x:au} {t:Int} {z:Prop}
theorem wE (h:(s.proc p).state≠2/\(s.proc p).state≠3) {X:Nat->Prop}:Out s X No p:=⟨λh=>h,.inr h⟩
theorem wG (g:Good c fl s (λq=>No q/\q≠p) No T):Good c fl s No No T:=g.congr λ_=>⟨λh=>h.1,λh=>h.elim⟩
theorem Good.wZ {X Z:Nat->Prop} (g:Good c fl s X Z T) {q i:Nat} (a:q<nQ c) (b:i<=nP c):∃l,(s.proc q).ak[i]? =some l:=by have:=(g.proc q a).lx;exact ⟨_,List.getElem?_eq_getElem (by omega)⟩
theorem cm.wait (pm:cm c fl t p z x) (e:x.state=0) {m:Int} (f:m=2\/m=3) {n:cp} (a:dv c p x=some n) (b:(m=2->n.op=24)/\(m=3->n.op=29)):cm c fl t p z {x with state:=m} where
 st:=by grind
 pc:=pm.pc
 lx:=pm.lx
 cur:=pm.cur
 mD:=pm.mD
 mE:=pm.mE
 nj:=pm.nj.imp id λh=>⟨λd=>by grind,λd=>by grind⟩
 dead:=λh=>by grind
 dQ:=pm.dQ
 recv:=λh=>by grind
 snd:=λh=>⟨n,a,b.1 h⟩
 pz:=λh=>⟨n,a,b.2 h⟩
 iP:=λh=>by grind
 br:=pm.br
theorem Ei {d:Type} {l:List d} {i j:Nat} {f:d->d} {a:d} (h:(l.modify i f)[j]? =some a):∃b,l[j]? =some b/\((i=j/\a=f b)\/(i≠j/\a=b)):=by grind
theorem vJ {a:Type} {l:List a} {i:Nat} {f:a->a} {b:a} (h:l[i]? =some b):(l.modify i f)[i]? =some (f b):=by grind
theorem E8 {a:Type} {l:List a} {i j:Nat} {f:a->a} (h:i≠j):(l.modify i f)[j]? =l[j]?:=by grind
def iQ (c:aI) (s:MS) (p q:Nat) (v:Int):MS:=(s.bd q (bE (s.proc q) (aA c p) (gZ p v))).bd p {(s.bd q (bE (s.proc q) (aA c p) (gZ p v))).proc p with state:=2}
theorem SZ {q:Nat} {v:Int} (r:Nat):(iQ c s p q v).proc r={(if r=q then bE (s.proc q) (aA c p) (gZ p v) else s.proc r) with state:=if r=p then 2 else (s.proc r).state}:=by
 unfold iQ;by_cases b:r=p
 ·subst b;rw [fC,if_pos rfl];by_cases a:r=q
  ·subst a;rw [fC,if_pos rfl]
  ·rw [hO a,if_neg a]
 ·rw [hO b,if_neg b];by_cases a:r=q
  ·subst a;rw [fC,if_pos rfl];rfl
  ·rw [hO a,if_neg a]
theorem Good.wait (m:bT c) (g:Good c fl s No No T) {q:Nat} {v:Int} {n:cp} (hp:p<nQ c) (M:q<nQ c) (h0:(s.proc p).state=0) (hn:dv c p (s.proc p)=some n) (ho:n.op=24) (hb:fi (s.proc p).br n.b=(q:Int)) (hc:fi (s.proc p).br n.c=v)
  (b4:aA c p=aA c q) (hv:jF (s.proc q)=true) (Y:∀l,(s.proc q).ak[aA c p]? =some l->(l.values.length:Int)=c.lane):Good c fl (iQ c s p q v) No No T:=by
 have H:Out s No No p:=wE ⟨by omega,by omega⟩;have A:=SZ (c:=c) (s:=s) (p:=p) (q:=q) (v:=v);have b0:∀r,((iQ c s p q v).proc r).pc=(s.proc r).pc/\((iQ c s p q v).proc r).br=(s.proc r).br:=λr=>by
  rw [A];by_cases e:r=q
  ·subst e;rw [if_pos rfl];exact ⟨rfl,rfl⟩
  grind
 have O:∀r,r≠p->((iQ c s p q v).proc r).state=(s.proc r).state:=λr e=>by grind
 have b6:((iQ c s p q v).proc p).state=2:=by grind
 have a9:∀r,r≠q->((iQ c s p q v).proc r).ak=(s.proc r).ak:=λr e=>by rw [A,if_neg e]
 have G:((iQ c s p q v).proc q).ak=(s.proc q).ak.modify (aA c p) (gZ p v):=by rw [A,if_pos rfl];rfl
 have Z:∀r,dv c r ((iQ c s p q v).proc r)=dv c r (s.proc r):=λr=>by unfold dv;rw [(b0 r).1]
 have a8:∀r,jF (s.proc r)=true->jF ((iQ c s p q v).proc r)=true:=λr h=>by rw [cW] at h ⊢;grind
 have V:∀ {i r w},me c s No No i r w->me c (iQ c s p q v) No No i r w:=λ{i r w} h=>by have C:=h.out H;obtain ⟨a1,a2,a3,a4,a5⟩:=h;refine ⟨a1,a2,a3,a4,?_⟩;grind
 have b5:me c (iQ c s p q v) No No (aA c p) q ⟨(p:Int),v⟩:=by refine ⟨by show (0:Int)<=(p:Int);omega,hp,rfl,λh=>h,.inr ?_⟩;grind
 refine ⟨g.tick,g.part,λr d=> ?_,λi F k ow h=> ?_,λi F k l h=> ?_,λr d i l h=> ?_,λr d _ u=> ?_,λr d _ j=> ?_⟩
 ·have pm:=g.proc r d;have R:cm c fl s.tick r (No r) (if r=q then bE (s.proc q) (aA c p) (gZ p v) else s.proc r):=by
   by_cases e:r=q
   ·subst e;rw [if_pos rfl];exact pm.lane (λl f=>pm.dQ _ l f) λ_ l f=>f
   grind
  have B:(if r=q then bE (s.proc q) (aA c p) (gZ p v) else s.proc r).state=(s.proc r).state:=by
   by_cases e:r=q
   ·subst e;rw [if_pos rfl];rfl
   ·rw [if_neg e]
  rw [A];by_cases e:r=p
  ·rw [if_pos e];refine R.wait (n:=n) (by grind) (.inl rfl) ?_ ⟨λ_=>ho,λh=>by omega⟩;have:=Z r;rw [A] at this;rw [e] at this ⊢;rw [<-hn];exact this
  ·rw [if_neg e,<-B];exact R
 ·rcases g.own i F k ow h with h | ⟨L,j,u,h4⟩
  ·exact .inl h
  grind
 ·obtain ⟨L,j,u⟩:=g.jg i F k l h;refine ⟨L,λy Q=> ?_,u⟩;have C:=(j y Q).out H;obtain ⟨a1,a2,a3,a4,a5⟩:=j y Q;refine ⟨a1,a2,a3,a4,?_⟩;grind
 ·by_cases e:r=q
  ·subst e;rw [G] at h;obtain ⟨D,B,X⟩:=Ei h;obtain ⟨J,S,E⟩:=g.dQ r d i D B;rcases X with ⟨K,o⟩ | ⟨K,o⟩
   ·subst K;subst o;refine ⟨?_,λ_=>⟨b4,.inl (a8 r hv),Y D B⟩,λw hw=> ?_⟩
    ·show ((D.waiters++ [(⟨(p:Int),v⟩:mr)]).map (·.proc)).Nodup;rw [List.map_append,List.nodup_append];refine ⟨J,by simp,λa W b hb=> ?_⟩;obtain ⟨w,hw,rfl⟩:=List.mem_map.1 W;have C:=(E w hw).out H;have:b=(p:Int):=by simpa using hb
     rw [this];intro e;rw [e] at C;exact C rfl
    ·rcases List.mem_append.1 (show w∈D.waiters++ [⟨(p:Int),v⟩] from hw) with hw | hw
     ·exact V (E w hw)
     ·rw [List.mem_singleton.1 hw];exact b5
   grind
  ·rw [a9 r e] at h;obtain ⟨J,S,E⟩:=g.dQ r d i l h;grind
 ·have e:r≠p:=λe=>by grind
  rw [O r e] at u;exact g.rf r d (λh=>h) u
 ·by_cases e:r=p
  ·subst e;obtain ⟨l,f⟩:=g.wZ (c:=c) (i:=aA c r) M (Nat.le_of_lt m.eR);exact ⟨q,M,gZ r v l,by grind,⟨(r:Int),v⟩,by show _∈l.waiters++ [(⟨(r:Int),v⟩:mr)];simp,rfl⟩
  ·rw [O r e] at j;obtain ⟨I,N,l,f,w,hw,P⟩:=g.re r d (λh=>h) j;by_cases U:I=q
   ·subst U;by_cases o:aA c p=aA c r
    ·exact ⟨I,N,gZ p v l,by rw [G,o];exact vJ f,w,by show w∈l.waiters++ [_];exact List.mem_append_left _ hw,P⟩
    ·exact ⟨I,N,l,by rw [G,E8 o];exact f,w,hw,P⟩
   grind
end
theorem fL {c:aI} {i q:Nat}:q∈dS c i↔q<nQ c/\aA c q=i:=by unfold dS;simp
theorem Mi {c:aI} {i:Nat}:(dS c i).Nodup:=(List.Pairwise.filter _ List.nodup_range)
def sr (l:bm):bm:={l with waiters:=[]}
def fH (s:MS) (p:Nat) (st:Int):MS:=s.bd p {s.proc p with state:=st,bN:=false}
def dL (c:aI) (s:MS) (p:Nat) (st:Int):MS:=lR p (fH s p st) (dS c (aA c p))
def pw (c:aI) (s:MS) (p:Nat):MS:=s.dZ (aA c p) (yp p (s.part (aA c p))).1
def iD (c:aI) (s:MS) (p:Nat):MS:=(yp p (s.part (aA c p))).2.foldl jj (pw c s p)
def gJ (s:MS) (p:Nat):MS:=s.bd p {s.proc p with timer:=0,cJ:=0}
def iE (s:MS) (p:Nat):MS:=s.bd p {s.proc p with ak:=(s.proc p).ak.map sr}
def pX (c:aI) (s:MS) (p:Nat):MS:=((s.proc p).ak.flatMap (·.waiters)).foldl (λs w=>cf c s w.proc.toNat 2) (iE s p)
theorem yU {c:aI} {s:MS} {p:Nat} {st:Int}:nL c s p st=pX c (gJ (iD c (dL c s p st) p) p) p:=by
 have e:(⟨(fH s p st).tick,(fH s p st).part,λq=>if q<nQ c/\aA c q=aA c p then qQ p ((fH s p st).proc q) else (fH s p st).proc q⟩:MS)=dL c s p st:=by
  unfold dL lR;congr 1;funext q;by_cases h:q<nQ c/\aA c q=aA c p
  ·rw [if_pos h,if_pos (fL.2 h)]
  ·rw [if_neg h,if_neg λb=>h (fL.1 b)]
 have a:nL c s p st=(let s2:MS:=⟨(fH s p st).tick,(fH s p st).part,λq=>if q<nQ c/\aA c q=aA c p then qQ p ((fH s p st).proc q) else (fH s p st).proc q⟩;pX c (gJ (iD c s2 p) p) p):=rfl;rw [a,e]
def jN (c:aI) (i j:Nat):Bool:=fl c.labels (i:Int) (j:Int)
structure FY (n:Nat) (l:bm):Prop where
 values:l.values.length<=64
 waiters:l.waiters.length<=100
 taken:jl l.taken
 dropped:jl l.dropped
 nd:(l.waiters.map (·.proc)).Nodup
 kf:∀w∈l.waiters,0<=w.proc/\w.proc<(n:Int)
structure pR (c:aI) (x:au):Prop where
 pc:0<=x.pc/\x.pc<=1000
 len:x.ak.length=nP c+1
 cur:0<=x.aj/\x.aj<x.ak.length
 dQ:∀l∈x.ak,FY (nQ c) l
structure FX (c:aI) (x:dB):Prop where
 cur:0<=x.aj/\x.aj<4611686018427387904
 jP:x.log.length<=4096
 lost:jl x.lost
 kH:jl x.forbidden
 gK:x.az.length=x.aw.length
 ib:(x.aw.length:Int)=c.ag
 qY:x.aw.length<=8/\∀q∈x.aw,q.length<=100
 nd:∀q∈x.aw,q.Nodup/\∀z∈q,0<=z/\z<(nQ c:Int)
structure iX (c:aI) (s:MS):Prop where
 proc:∀p,p<nQ c->pR c (s.proc p)
 part:∀i,i<nP c->FX c (s.part i)
theorem xZ {x:au} {i:Nat} {l:bm} {f:bm->bm} (h:x.ak[i]? =some l):bE x i f={x with ak:=x.ak.set i (f l)}:=by
 unfold bE;congr 1;refine List.ext_getElem? λj=> ?_;by_cases e:i=j
 ·subst e;rw [vJ h,List.getElem?_set_self (List.getElem?_eq_some_iff.1 h).1]
 ·rw [E8 e,List.getElem?_set_ne e]
section
variable {h0 h1 k:Hp} {K:MK} {pm:Addr} {s:MS} {d:Nat->Nat->Int}
theorem Has.sB {i:Nat} (o:Has h0 (aB K pm s d) k) (t:i<nP K.c):∃h1 x lp f,h0<=h1/\lS K i x lp f (s.part i)/\Has h1 (da wy (K.q i) x) k/\
  ∀b a e,lS K i b lp f a->b.log=x.log->a.log=(s.part i).log->a.az=(s.part i).az->a.aw=(s.part i).aw->Has h1 (da wy (K.q i) b) e->Has h0 (aB K pm (s.dZ i a) d) e:=by
 obtain ⟨h1,x,lp,f,w,u,A,put⟩:=o.qj t;obtain ⟨m,y,B,_,C⟩:=A.fst;refine ⟨m,x,lp,f,Hp.le_trans w y,u,B,λb a e v g h j l z=> ?_⟩;have n:=C _ _ z;have p:Has h1 (oa K i b lp f a (d i)) e:=by unfold oa;rw [g,h,j,l];exact n
 have r:=put b a (d i) e v p
 rwa [yo] at r
theorem iX.told (a:iX K.c s) {p:Nat} (hp:p<nQ K.c):0<=(s.proc p).pc/\(s.proc p).pc<4611686018427387904:=by have:=(a.proc p hp).pc;omega
theorem dq.ptr (m:dq h0 K) (o:Has h0 (aB K pm s d) k) {p:Nat} (hp:p<nQ K.c):bJ K.x.procs.base K.x.procs.len (p:Int)/\aV k (sat K.x.procs.base 1 (p:Int)) [.pointer (some (K.p p))]:=by obtain ⟨a,y,b,rfl⟩:=m.u6 o.le hp (Q:=λy=>y=some (K.p p)) rfl;exact ⟨a,b⟩
theorem dq.tr (m:dq h0 K) (o:Has h0 (aB K pm s d) k) {p:Nat} (hp:p<nP K.c):bJ K.x.parts.base K.x.parts.len (p:Int)/\aV k (sat K.x.parts.base 1 (p:Int)) [.pointer (some (K.q p))]:=by obtain ⟨a,y,b,rfl⟩:=m.partAt o.le hp (Q:=λy=>y=some (K.q p)) rfl;exact ⟨a,b⟩
theorem CG {q i:Nat} {v:Int} {z:aH} {a:Addr} {Q:Int->Hp->Prop} (o:Has h0 (aB K pm s d) k) (L:q<nQ K.c) (T:pR K.c (s.proc q)) (J:K.c.lane<=64) (V:i<=nP K.c) (M:ft K q z a (s.proc q)) (O:Has h1 (da bf (K.p q) z) k)
  (u:fy K.c (s.proc q) i=true->Q 19 k) (w:∀e,fy K.c (s.proc q) i=false->Has h0 (aB K pm (s.bd q (bE (s.proc q) i (uT v))) d) e->Q 0 e):Na prog (some a) (i:Int) v Q k:=by
 obtain ⟨U,f,x,X,N,S,R,put⟩:=o.nb L;have F:x=a:=by
  obtain ⟨b,G,hb,_⟩:=O.pD;obtain ⟨y,r,I,_⟩:=S.pD;rw [G] at r;have A:b=y:=congrArg Addr.block r;subst A;obtain ⟨t,B⟩:=hb;obtain ⟨Y,g⟩:=I;rw [B] at g;have C:(bg (bf.enc z)).toArray=(bg (bf.enc f)).toArray:=by injection g with g;injection g
  have D:bg (bf.enc z)=bg (bf.enc f):=by simpa using C
  have E:(bg (bf.enc z))[14]? =(bg (bf.enc f))[14]?:=by rw [D]
  have m:some (Value.pointer z.post)=some (Value.pointer f.post):=E;have n:z.post=f.post:=by injection m with m;injection m
  rw [M.2.2.2.2.2.2,N.2.2.2.2.2.2] at n;exact (Option.some.inj n).symm
 subst F;have W:=T.len;have j:=List.getElem?_eq_getElem (show i<(s.proc q).ak.length by omega);generalize (s.proc q).ak[i]=l at j;have H:fy K.c (s.proc q) i=decide (K.c.lane<=(l.values.length:Int)):=by unfold fy;rw [j]
 rw [H] at u w;refine ZR R j J (λh=>u (decide_eq_true h)) λe h P=>w e (decide_eq_false h) ?_;rw [xZ j];exact put _ _ e P
end
section
variable {h0 h1 k:Hp} {K:MK} {pm:Addr} {s:MS} {b:Nat->Nat->Int}
theorem Mj {p:Nat}:s.bd p (s.proc p)=s:=by unfold MS.bd;rw [yo]
theorem IK {x:au}:(ed x).pc=x.pc:=rfl
theorem E9 {x:au} {i:Nat} {f:bm->bm}:(bE x i f).pc=x.pc:=rfl
theorem zo {p q:Nat} {y:au} (e:y.pc=(s.proc q).pc):((s.bd q y).proc p).pc=(s.proc p).pc:=by
 by_cases h:p=q
 ·subst h;rw [fC,e]
 ·rw [hO h]
theorem IL {q i:Nat} {Q:Hp->Prop} (o:Has h0 (aB K pm s b) k) (n:q<nQ K.c) (h:pR K.c (s.proc q)) (w:i<=nP K.c) {C:Prop} (m:∀d,Has h0 (aB K pm (s.bd q (bE (s.proc q) i lf)) b) d->Q d):
  ∃z a,ft K q z a (s.proc q)/\(∀ {f:Option Addr->Prop},f (some a)->aP none ah k ((K.p q).add 14) f)/\M4 prog (some a) (i:Int) Q k:=by
 obtain ⟨v,z,a,y,g,u,t,put⟩:=o.nb n;refine ⟨z,a,g,λj=>u.ld (shf:=ah) z.post rfl (by rw [g.2.2.2.2.2.2];exact j),?_⟩;have x:=h.len;have e:=List.getElem?_eq_getElem (show i<(s.proc q).ak.length by omega);generalize (s.proc q).ak[i]=l at e;refine X0 t e (h.dQ l (List.mem_of_getElem? e)).dropped λd r=>m d ?_;rw [xZ e];exact put _ _ d r
def CH (c:aI) (s:MS) (p q:Nat) (v:Int):MS:=
 if jF (s.proc q)=false then cf c s p 2
 else if fy c (s.proc q) (aA c p) then
  let s1:=s.bd q (bE (s.proc q) (aA c p) (gZ p v))
  s1.bd p {s1.proc p with state:=2}
 else cf c (s.bd q (ed (bE (s.proc q) (aA c p) (uT v)))) p 0
theorem S0 {p q:Nat} {v:Int} {Q:Hp->Prop} (m:dq h0 K) (B:bT K.c) (o:Has h0 (aB K pm s b) k) (n:iX K.c s) (hp:p<nQ K.c) (g:q<nQ K.c) (U:∀l∈(s.proc q).ak,∀z∈l.waiters,z.proc≠(p:Int))
  (f:∀A,Has h0 (aB K pm (CH K.c s p q v) b) A->Q A):QH prog (some pm) (some (K.p p)) (some (K.p q)) v Q k:=by
 unfold QH;obtain ⟨h1,r,ap,l1,G,op,_⟩:=o.df hp;obtain ⟨h2,a,C,l2,u,j,_⟩:=o.df g;unfold CH at f;have V:aA K.c p<=nP K.c:=Nat.le_of_lt B.eR;refine aD (j.ld (shf:=af .i64) a.state rfl ?_);refine VN (Eg ?_);have T:a.state=(s.proc q).state:=u.2.2.2.1;have S:(decide (a.state≠5)&&decide (a.state≠6))=jF (s.proc q):=by rw [T];rfl
 rw [S];by_cases d:jF (s.proc q)=false
 ·rw [if_pos (by rw [d];rfl)];rw [if_pos d] at f;exact Cb (DL m o hp (n.told hp) f)
 ·rw [if_neg (by cases e:jF (s.proc q)<;>simp [e] at d ⊢)];rw [if_neg d] at f;refine aD (j.ld (shf:=ah) a.post rfl ?_);refine aD (op.ld (shf:=af .i64) r.part rfl ?_);have E:r.part=(aA K.c p:Int):=G.2.1;have eq:a.post=some C:=u.2.2.2.2.2.2;rw [E,eq];refine VI (CG o g (n.proc q g) B.lane.2 V u j (λi=> ?_) λA i o'=> ?_)
  ·rw [if_pos (by decide)];rw [if_pos i] at f;refine aD (j.ld (shf:=ah) a.post rfl ?_);refine aD (op.ld (shf:=af .i64) r.part rfl ?_);refine aD (op.ld (shf:=af .i64) r.dg rfl ?_);have R:r.dg=(p:Int):=G.1;rw [E,eq,R];obtain ⟨h3,w,J,l3,W,o3,o2,put⟩:=o.nb g;have O:J=C:=by
    have L:=o3.ld (shf:=ah) (off:=14) w.post rfl (K:=λy=>y=w.post) rfl;have M:=j.ld (shf:=ah) (off:=14) a.post rfl (K:=λy=>y=a.post) rfl;obtain ⟨y1,x,rfl⟩:=L;obtain ⟨y2,h,rfl⟩:=M;have x:=x 0 (.pointer w.post) rfl;have h:=h 0 (.pointer a.post) rfl;rw [x] at h;have D:w.post=a.post:=by injection h with h;injection h
    rw [u.2.2.2.2.2.2,W.2.2.2.2.2.2] at D;exact Option.some.inj D
   subst O;have a9:=(n.proc q g).len;have t:=List.getElem?_eq_getElem (show aA K.c p<(s.proc q).ak.length by omega);generalize (s.proc q).ak[aA K.c p]=l at t;have P:fy K.c (s.proc q) (aA K.c p)=decide (K.c.lane<=(l.values.length:Int)):=by unfold fy;rw [t]
   have F:=λl d=>(n.proc q g).dQ l d;have b0:=B.parts;refine Q7 (X2 o2 ⟨by omega,λl d=>⟨(F l d).waiters,by have:=(F l d).values;omega⟩⟩ U t (by rw [P] at i;exact of_decide_eq_true i) λY o4=> ?_);have I:=put _ _ _ o4;have N:({s.proc q with ak:=(s.proc q).ak.set (aA K.c p) (gZ p v l),aj:=(s.proc q).aj}:au)=bE (s.proc q) (aA K.c p) (gZ p v):=(xZ t).symm;rw [N] at I;obtain ⟨h4,z4,a4,l4,X,o6,a8⟩:=I.df hp;refine aD (o6.st (nv z4 2) (by show 3+1<=15;omega) rfl λZ o7=> ?_);exact f Z (a8 _ _ _ (X.state 2) rfl rfl o7)
  ·rw [if_neg (by decide)];rw [if_neg (by rw [i];decide)] at f;refine Qs (E6 o' g λY H=> ?_);rw [fC,Bb] at H;refine Cb (DL m H hp ?_ f);rw [zo (by rw [IK,E9])];exact n.told hp
end
section
variable {h0 h1 k:Hp} {K:MK} {pm:Addr} {s:MS} {b:Nat->Nat->Int}
theorem Has.agree {a:Addr} {z c:aH} (f:Has h0 (da bf a c) k) (g:Has h1 (da bf a z) k):c.post=z.post:=by obtain ⟨h,d,rfl⟩:=f.ld (shf:=ah) (off:=14) c.post rfl (K:=λy=>y=c.post) rfl;obtain ⟨i,e,rfl⟩:=g.ld (shf:=ah) (off:=14) z.post rfl (K:=λy=>y=z.post) rfl;have d:=d 0 (.pointer c.post) rfl;have e:=e 0 (.pointer z.post) rfl;grind
theorem ft.same {p:Nat} {z d:aH} {a c:Addr} {y h:au} (f:ft K p z a y) (g:ft K p d c h) (e:d.post=z.post):c=a:=by rw [f.2.2.2.2.2.2,g.2.2.2.2.2.2] at e;grind
theorem Yl {c:aI} {p:Nat} {to v:Int}:lj c (jN c) s p to v=if to<0\/(nQ c:Int)<=to then cf c s p 1
 else if jN c (aA c p) (aA c to.toNat)=false then cf c (s.dZ (aA c p) {s.part (aA c p) with forbidden:=more (s.part (aA c p)).forbidden}) p 0
 else if aA c p=aA c to.toNat then CH c s p to.toNat v
 else if jF (s.proc to.toNat)=false\/fy c (s.proc to.toNat) (aA c p) then cf c (s.bd to.toNat (bE (s.proc to.toNat) (aA c p) lf)) p 0
 else cf c (s.bd to.toNat (ed (bE (s.proc to.toNat) (aA c p) (uT v)))) p 0:=rfl
theorem VF {p:Nat} {to v:Int} {Q:Hp->Prop} (m:dq h0 K) (I:bT K.c) (o:Has h0 (aB K pm s b) k) (t:iX K.c s) (hp:p<nQ K.c) (hn:∀q,q<nQ K.c->∀l∈(s.proc q).ak,∀z∈l.waiters,z.proc≠(p:Int))
  (a:∀r,Has h0 (aB K pm (lj K.c (jN K.c) s p to v) b) r->Q r):Rm prog (some pm) (some (K.p p)) to v Q k:=by
 unfold Rm;rw [Yl] at a;have b1:=m.nf;have e0:(qv K.x s.tick).procs=K.x.procs:=rfl;refine aD (o.dY.su (shf:=av) K.x.procs rfl ?_);refine aU ?_;rw [b1];by_cases h:to<0\/(nQ K.c:Int)<=to
 ·rw [if_pos (by simp;omega)];rw [if_pos h] at a;exact Cb (DL m o hp (t.told hp) a)
 rw [if_neg (by simp;omega)];rw [if_neg h] at a;have g:to.toNat<nQ K.c:=by omega
 have Y:((to.toNat:Nat):Int)=to:=by omega
 obtain ⟨M,N⟩:=m.ptr o g;rw [Y] at M N;obtain ⟨h1,j,ap,l1,b2,op,c0⟩:=o.df hp;obtain ⟨h2,f,S,l2,B,A,_⟩:=o.df g;have u:aA K.c p<nP K.c:=I.eR;have i:j.part=(aA K.c p:Int):=b2.2.1;have eq:f.part=(aA K.c to.toNat:Int):=B.2.1;have W:f.post=some S:=B.2.2.2.2.2.2;refine aD (o.dY.ld (shf:=av) K.x.procs rfl ⟨M,some (K.p to.toNat),N,?_⟩);refine aD (o.dY.ld (shf:=ah) K.x.table rfl ?_);refine aD (op.ld (shf:=af .i64) j.part rfl ?_);refine aD (A.ld (shf:=af .i64) f.part rfl ?_);rw [m.t1,i,eq];refine Oh (Pv (m.t2.mono o.le) m.BB ?_);have U:fl K.c.labels (aA K.c p:Int) (aA K.c to.toNat:Int)=jN K.c (aA K.c p) (aA K.c to.toNat):=rfl;rw [U];by_cases G:jN K.c (aA K.c p) (aA K.c to.toNat)=false
 ·rw [if_pos (by rw [G];rfl)];rw [if_pos G] at a;obtain ⟨O,E⟩:=m.tr o u;obtain ⟨h3,x,lp,wp,l3,w,R,b6⟩:=o.sB u;refine aD (o.dY.ld (shf:=av) K.x.parts rfl ?_);refine aD (op.ld (shf:=af .i64) j.part rfl ?_);rw [i];refine ⟨O,_,E,?_⟩;refine aD (o.dY.ld (shf:=av) K.x.parts rfl ?_);refine aD (op.ld (shf:=af .i64) j.part rfl ?_);rw [i];refine ⟨O,_,E,?_⟩;refine aD (R.ld (shf:=af .i64) x.forbidden rfl ?_);have ex:x.forbidden=(s.part (aA K.c p)).forbidden:=w.2.2.2.1;rw [ex];refine zvp (IJ (t.part _ u).kH ?_);refine ⟨⟨o.dY.eh (n:=1) rfl,by rw [<-i];exact op.eh (n:=1) rfl,E,trivial⟩,?_⟩;refine aD (R.st (⟨x.procs,x.aj,x.log,x.lost,more (s.part (aA K.c p)).forbidden,x.ag,x.dx⟩:be) (by show 4+1<=7;omega) rfl λk1 D=> ?_);have L:=b6 (⟨x.procs,x.aj,x.log,x.lost,more (s.part (aA K.c p)).forbidden,x.ag,x.dx⟩:be) {s.part (aA K.c p) with forbidden:=more (s.part (aA K.c p)).forbidden} _ ⟨w.1,w.2.1,w.2.2.1,rfl,w.2.2.2.2⟩ rfl rfl rfl rfl D;exact Cb (DL m L hp (t.told hp) a)
 rw [if_neg (by grind)];rw [if_neg G] at a;refine aD (op.ld (shf:=af .i64) j.part rfl ?_);refine aD (A.ld (shf:=af .i64) f.part rfl ?_);rw [i,eq];by_cases H:aA K.c p=aA K.c to.toNat
 ·rw [if_pos (by rw [H];simp)];rw [if_pos H] at a;exact zsf (S0 m I o t hp g (hn _ g) a)
 rw [if_neg (by simp;omega)];rw [if_neg H] at a;have sq:=t.proc _ g;refine bF.intro (λr=>∃y:au,y.pc=(s.proc to.toNat).pc/\Has h0 (aB K pm (s.bd to.toNat y) b) r/\∀d,Has h0 (aB K pm (cf K.c (s.bd to.toNat y) p 0) b) d->Q d) ?_ ?_
 ·have drop:∀(P:jF (s.proc to.toNat)=false\/fy K.c (s.proc to.toNat) (aA K.c p)=true),
   ai none (some (K.p to.toNat)) λb4=>
   aP none ah k (Addr.add b4 14) λb7=>
   ai none (some (K.p p)) λb5=>
   aP none (af .i64) k (Addr.add b5 1) λb8=>
   aY prog I7 [(.pointer b7),(.int .i64 b8)] (λF=>∃y:au,y.pc=(s.proc to.toNat).pc/\Has h0 (aB K pm (s.bd to.toNat y) b) F/\∀d,Has h0 (aB K pm (cf K.c (s.bd to.toNat y) p 0) b) d->Q d) k:=by
   intro P;rw [if_pos P] at a;obtain ⟨z4,a4,b9,b3,T⟩:=IL (C:=True) (Q:=λF=>∃y:au,y.pc=(s.proc to.toNat).pc/\Has h0 (aB K pm (s.bd to.toNat y) b) F/\∀d,Has h0 (aB K pm (cf K.c (s.bd to.toNat y) p 0) b) d->Q d) o g sq (Nat.le_of_lt u) λr J=>⟨_,E9,J,a⟩;refine aD (b3 (aD (op.ld (shf:=af .i64) j.part rfl ?_)));rw [i];exact zsc T
  refine aD (A.ld (shf:=af .i64) f.state rfl ?_);refine VN (Eg ?_);have X:f.state=(s.proc to.toNat).state:=B.2.2.2.1;have V:(decide (f.state≠5)&&decide (f.state≠6))=jF (s.proc to.toNat):=by rw [X];rfl
  rw [V];refine aD (A.su (shf:=ah) f.post rfl ?_);refine aD (op.su (shf:=af .i64) j.part rfl ?_);rw [i,W];by_cases hl:jF (s.proc to.toNat)=false
  ·rw [hl];refine ⟨λe=>(by cases e),λ_=>⟨0,aU ?_⟩⟩;grind
  ·have b0:jF (s.proc to.toNat)=true:=by grind
   rw [b0];refine ⟨λ_=> ?_,λe=>(by cases e)⟩;refine VI (CG o g sq I.lane.2 (Nat.le_of_lt u) B A (λa8=>aU ?_) λr a8 J=>aU ?_)
   ·grind
   ·rw [if_neg (by decide)];rw [if_neg (by grind)] at a;refine Qs (E6 J g λk1 D=> ?_);rw [fC,Bb] at D;exact ⟨_,by rw [IK,E9],D,a⟩
 ·rintro d ⟨y,Z,L,a9⟩;refine Cb (DL m L hp ?_ a9);rw [zo Z];exact t.told hp
theorem Mk {p:Int} {Q:Int->Hp->Prop} (m:dq h0 K) (o:Has h0 (aB K pm s b) k) (a:Q (tY K.c s p) k):Rh prog (some pm) p Q k:=by
 unfold Rh;unfold tY at a;have l:=m.nf;refine aD (o.dY.su (shf:=av) K.x.procs rfl ?_);refine aU ?_;rw [l];by_cases h:p<0\/(nQ K.c:Int)<=p
 ·rw [if_pos (by simp;omega)];rw [if_pos h] at a;exact a
 rw [if_neg (by simp;omega)];rw [if_neg h] at a;have g:p.toNat<nQ K.c:=by omega
 have j:((p.toNat:Nat):Int)=p:=by omega
 obtain ⟨e,f⟩:=m.ptr o g;rw [j] at e f;obtain ⟨u,d,r,v,n,q,_⟩:=o.df g;refine aD (o.dY.ld (shf:=av) K.x.procs rfl ⟨e,some (K.p p.toNat),f,?_⟩);refine aD (q.ld (shf:=af .i64) d.state rfl ?_);refine VN (Eg ?_);have i:d.state=(s.proc p.toNat).state:=n.2.2.2.1;have t:(decide (d.state≠5)&&decide (d.state≠6))=jF (s.proc p.toNat):=by rw [i];rfl
 grind
theorem S1 {p v:Int} {Q:Int->Hp->Prop} (m:dq h0 K) (A:bT K.c) (o:Has h0 (aB K pm s b) k) (D:iX K.c s) (a:∀e,Has h0 (aB K pm (uj K.c s p v).1 b) e->Q (uj K.c s p v).2 e):ME prog (some pm) p v Q k:=by
 unfold ME;refine zju (Mk m o ?_);unfold uj at a;by_cases h:tY K.c s p≠0
 ·grind
 rw [if_neg (by simpa using h)];rw [if_neg h] at a;have G:0<=p/\p<(nQ K.c:Int):=by refine Classical.byContradiction λF=>h ?_;unfold tY;omega
 have d:p.toNat<nQ K.c:=by omega
 have w:((p.toNat:Nat):Int)=p:=by omega
 obtain ⟨g,i⟩:=m.ptr o d;rw [w] at g i;obtain ⟨E,q,r,I,j,n,_⟩:=o.df d;have u:q.post=some r:=j.2.2.2.2.2.2;have sq:=D.proc _ d;refine aD (o.dY.ld (shf:=av) K.x.procs rfl ⟨g,some (K.p p.toNat),i,?_⟩);refine aD (o.dY.ld (shf:=av) K.x.parts rfl ?_);refine aD (n.ld (shf:=ah) q.post rfl ?_);rw [u,m.qk];refine VI (CG o d sq A.lane.2 (Nat.le_refl _) j n (λf=> ?_) λe f B=> ?_)
 ·rw [if_pos (by decide)];rw [if_pos f] at a;obtain ⟨J,a4,H,z,t⟩:=IL (C:=True) (Q:=λe=>Q 19 e) o d sq (Nat.le_refl _) a;exact aD (z (zsc t))
 ·rw [if_neg (by decide)];rw [if_neg (by rw [f];decide)] at a;refine Qs (E6 B d λy l=> ?_);rw [fC,Bb] at l;exact a y l
end
def yA :Prop:=∀ {c k:Hp} {p:Addr} {room aj:Int} {a:List bm} {Q:Int->Int->bH->Bool->Int->Hp->Prop},Has c (dC p room a aj) k->(a.length<=1000/\∀l∈a,jl l.taken/\l.values.length<=64)->(0<=aj/\aj<a.length)->
 (nV aj a=none->∀b,Has c (dC p room a aj) b->Q 0 0 ⟨0,0⟩ false 21 b)->
 (∀(i:Nat) l v d,nV aj a=some i->a[i]? =some l->l.values=v::d->∀b,Has c (dC p room (a.set i (dw l)) (((i+1:Nat):Int)%(a.length:Int))) b->
  Q v (i:Int) (match l.waiters with | []=>⟨0,0⟩ | w::_=>nk w) (!l.waiters.isEmpty) 0 b)->
 y9 prog Xb [.pointer (some p)] (af .i64) (af .i64) aF bB (af .i64) Q k
section
variable {h0 h1 k:Hp} {K:MK} {pm:Addr} {s:MS} {a:Nat->Nat->Int}
theorem Yn {l:List cp} {k:Core} {v f:Int}:(gi l k v f).pc=k.pc+1:=by unfold gi;cases gC l k.pc<;>rfl
theorem vK {p:Nat} {c:aX} {Q:Hp->Prop} (o:Has h0 (aB K pm s a) k) (hp:p<nQ K.c) (d:∀b,Has h0 (aB K pm (s.bd p ((s.proc p).put (fS c))) a) b->Q b):
  bW k ((K.p p).add 4) [(.int .i64 c.PC),(.int .i64 c.cv),(.int .i64 c.cw),(.int .i64 c.cx),(.int .i64 c.cC),(.int .i64 c.cD),(.int .i64 c.cE),(.int .i64 c.cF),(.int .i64 c.cG)] Q:=by
 obtain ⟨h1,z,q,i,e,f,put⟩:=o.df hp;exact f.st (uK z c) (by show 4+9<=15;omega) rfl λh g=>d _ (put _ _ _ (e.core c) rfl rfl g)
theorem Hi {p:Nat} {G:Bool} {Q:Hp->Prop} (tk:yA) (m:dq h0 K) (mc:bT K.c) (o:Has h0 (aB K pm s a) k) (t:iX K.c s) (hp:p<nQ K.c)
  (b:∀M,Has h0 (aB K pm (kz K.c s p G) a) M->Q M):Rn prog (some pm) (some (K.p p)) G Q k:=by
 unfold Rn;obtain ⟨h1,z,q,l1,hz,oz,o1,put⟩:=o.nb hp;have sp:=t.proc p hp;have eq:z.post=some q:=hz.2.2.2.2.2.2;refine aD (oz.ld (shf:=ah) z.post rfl ?_);rw [eq];have a9:=mc.parts;have a8:=sp.len;unfold kz at b;dsimp only at b;refine tk o1 ⟨by omega,λl r=>⟨(sp.dQ l r).taken,(sp.dQ l r).values⟩⟩ sp.cur (λX k1 E=> ?_) λi l v vs Y r hv k1 E=> ?_
 ·rw [if_neg (by decide)];rw [X] at b;dsimp only at b;have h:=put _ _ _ E;have n:s.bd p {s.proc p with ak:=(s.proc p).ak,aj:=(s.proc p).aj}=s:=Mj;rw [n] at h;obtain ⟨W,d,q2,l2,f,j,F⟩:=h.df hp;have T:d.bN=(s.proc p).bN:=f.2.2.2.2.2.1;refine aD (j.ld (shf:=bB) d.bN rfl ?_);rw [T];by_cases B:(s.proc p).bN=true
  ·rw [if_pos B];rw [if_pos B] at b;refine aD (j.st (tV d false) (by show 13+1<=15;omega) rfl λN A=> ?_);have P:=F _ _ _ (f.bN false) rfl rfl A;have e:fS (dG d)=(s.proc p).core:=f.2.2.2.2.1;have u:(dG d).PC=(s.proc p).pc:=congrArg Core.pc e;refine aD (A.ld (shf:=eJ) (dG d) rfl ?_);refine aD (A.ld (shf:=av) d.code rfl ?_);refine zyq (E4 (m.qb P.le hp f) (by rw [u];exact t.told hp) λH O y n=> ?_);refine aD (vK (P.grow y) hp λC g=>b C ?_);rw [fC,Bb,n,e,(m.code p hp).2] at g;exact g
  ·rw [if_neg B];rw [if_neg B] at b;cases G with
   | true=>rw [if_pos rfl];rw [if_pos rfl] at b;have e:fS (dG d)=(s.proc p).core:=f.2.2.2.2.1;have u:(dG d).PC=(s.proc p).pc:=congrArg Core.pc e;refine aD (j.ld (shf:=eJ) (dG d) rfl ?_);refine aD (j.ld (shf:=av) d.code rfl ?_);refine zyq (E4 (m.qb h.le hp f) (by rw [u];exact t.told hp) λH O y n=> ?_);refine aD (vK (h.grow y) hp λC g=>b C ?_);rw [n,e,(m.code p hp).2] at g;exact g
   | false=>rw [if_neg (by decide)];rw [if_neg (by decide)] at b;exact aD (j.st (nv d 1) (by show 3+1<=15;omega) rfl λN A=>b N (F _ _ _ (f.state 1) rfl rfl A))
 ·rw [if_pos (by decide)];rw [Y] at b;dsimp only at b;have h:=put _ _ _ E;have R:(s.proc p).ak.getD i ⟨[],[],0,0⟩=l:=pL r;rw [R] at b;have S:({s.proc p with ak:=(s.proc p).ak.set i (dw l),aj:=((i+1:Nat):Int)%((s.proc p).ak.length:Int)}:au)={bE (s.proc p) i dw with aj:=((i+1:Nat):Int)%((s.proc p).ak.length:Int)}:=by rw [xZ r]
  rw [S] at h;obtain ⟨W,d,q2,l2,f,j,F⟩:=h.df hp;rw [fC] at f;have e:fS (dG d)=(s.proc p).core:=f.2.2.2.2.1;have u:(dG d).PC=(s.proc p).pc:=congrArg Core.pc e;refine aD (j.ld (shf:=eJ) (dG d) rfl ?_);refine aD (j.ld (shf:=av) d.code rfl ?_);refine zyq (E4 (m.qb h.le hp f) (by rw [u];exact t.told hp) λH O y n=> ?_);refine aD (vK (h.grow y) hp λC g=> ?_);rw [fC,Bb,n,e,(m.code p hp).2] at g;have Z:l.values.headD 0=v:=by rw [hv];rfl
  rw [Z] at b;cases hw:l.waiters with
  | nil=>grind
  | cons w ws=>
   rw [if_pos (by simp)];rw [hw] at b;dsimp only at b;have b0:=(sp.dQ l (List.mem_of_getElem? r)).kf w (by grind);have D:w.proc.toNat<nQ K.c:=by omega
   have V:((w.proc.toNat:Nat):Int)=w.proc:=by omega
   obtain ⟨I,J⟩:=m.ptr g D;rw [V] at I J;have U:(nk w).dd=w.proc:=rfl;rw [U];refine aD (g.dY.ld (shf:=av) K.x.procs rfl ⟨I,some (K.p w.proc.toNat),J,?_⟩);refine Cb (DL m g D ?_ b);by_cases L:w.proc.toNat=p
   ·rw [L,fC];show 0<=(gi _ _ _ _).pc/\(gi _ _ _ _).pc<_;rw [Yn];have:=(t.proc p hp).pc;show 0<=(s.proc p).pc+1/\(s.proc p).pc+1<_;omega
   ·rw [hO L];exact t.told D
end
section
variable {h0 h1 k:Hp} {K:MK} {pm:Addr} {s:MS} {g:Nat->Nat->Int}
theorem Has.aside {A:dh} {f:Type} {sz:Nat} {enc:f->List Value} {l:Sl} {e:List f} (o:Has h0 (A.star (dK sz enc l e)) k) (i:∀x,(enc x).length=sz):∃h1,h0<=h1/\Has h1 A k/\Rw h1 sz enc l e:=by obtain ⟨h1,a,b,⟨h,c,d⟩,_⟩:=o.fst;exact ⟨h1,a,b,Has.jE (h0:=h0) ⟨a,h,c,d⟩ i⟩
theorem Ej {i:Nat}:s.dZ i (s.part i)=s:=by unfold MS.dZ;rw [yo]
theorem Has.qi {i:Nat} (o:Has h0 (aB K pm s g) k) (m:i<nP K.c):∃h1 x lp d,h0<=h1/\lS K i x lp d (s.part i)/\Has h0 (da wy (K.q i) x) k/\Has h1 (mb lp (s.part i).az (s.part i).aw) k/\
  ∀os b a,Has h1 (mb lp os b) a->Has h0 (aB K pm (s.dZ i {s.part i with az:=os,aw:=b}) g) a:=by
 obtain ⟨h1,x,lp,d,f,e,h,put⟩:=o.qj m;obtain ⟨y,n,t,v⟩:=h.f3;obtain ⟨j,p,u,_,w⟩:=t.fst;refine ⟨j,x,lp,d,Hp.le_trans f (Hp.le_trans n p),e,(Has.left h).mono f,u,λos b a r=> ?_⟩;have l:=put x {s.part i with az:=os,aw:=b} (g i) a e (v _ _ (w _ _ r))
 rwa [yo] at l
theorem Has.iv {i:Nat} (o:Has h0 (aB K pm s g) k) (m:i<nP K.c):∃h1 x lp a,h0<=h1/\lS K i x lp a (s.part i)/\Has h0 (da wy (K.q i) x) k/\Has h1 (rU a (g i) (2*nQ K.c)) k/\
  ∀d b,Has h1 (rU a d (2*nQ K.c)) b->Has h0 (aB K pm s (cg g i d)) b:=by
 obtain ⟨h1,x,lp,a,f,e,h,put⟩:=o.qj m;obtain ⟨y,n,t,v⟩:=h.f3;obtain ⟨j,p,u,_,w⟩:=t.snd;refine ⟨j,x,lp,a,Hp.le_trans f (Hp.le_trans n p),e,(Has.left h).mono f,u,λd b r=> ?_⟩;have l:=put x (s.part i) d b e (v _ _ (w _ _ r))
 rwa [Ej] at l
theorem Has.Gu {i:Nat} (o:Has h0 (aB K pm s g) k) (f:i<nP K.c):∃h1 x lp a,h0<=h1/\lS K i x lp a (s.part i)/\Has h0 (da wy (K.q i) x) k/\Has h1 (dK 3 Gc x.log (s.part i).log) k/\Has h0 (oa K i x lp a (s.part i) (g i)) k/\
  True:=by
 obtain ⟨h1,x,lp,a,b,h,d,put⟩:=o.qj f;obtain ⟨e,j,l,m⟩:=d.f2;exact ⟨e,x,lp,a,Hp.le_trans b j,h,(Has.left d).mono b,l,d.mono b,trivial⟩
theorem Ek :∀(l:List Int) (s:MS) (q:Nat),(s.proc q).pc<=((l.foldl jj s).proc q).pc/\((l.foldl jj s).proc q).pc<=(s.proc q).pc+l.length
 | [],s,q=>⟨Int.le_refl _,by simp⟩
 | a::l,s,q=>by
  have h:=Ek l (jj s a) q;have b:(s.proc q).pc<=((jj s a).proc q).pc/\((jj s a).proc q).pc<=(s.proc q).pc+1:=by
   unfold jj;split
   ·unfold oH;by_cases e:q=a.toNat
    ·subst e;rw [fC];show _<=(s.proc _).pc+1/\(s.proc _).pc+1<=_;omega
    ·rw [hO e];omega
   ·omega
  grind
theorem Yo {l:List cp} {k:Core} {v:Int}:(jU l k v).pc=k.pc+1:=by unfold jU;cases gC l k.pc<;>rfl
theorem IM {c:aI} {v:Int}:∀(l:List mr) (s:MS) (q:Nat),(s.proc q).pc<=((l.foldl (λs w=>cf c s w.proc.toNat v) s).proc q).pc/\((l.foldl (λs w=>cf c s w.proc.toNat v) s).proc q).pc<=(s.proc q).pc+l.length
 | [],s,q=>⟨Int.le_refl _,by simp⟩
 | a::l,s,q=>by
  have h:=IM (c:=c) (v:=v) l (cf c s a.proc.toNat v) q;have b:(s.proc q).pc<=((cf c s a.proc.toNat v).proc q).pc/\((cf c s a.proc.toNat v).proc q).pc<=(s.proc q).pc+1:=by
   unfold cf;by_cases e:q=a.proc.toNat
   ·subst e;rw [fC];show _<=(jU _ _ _).pc/\(jU _ _ _).pc<=_;rw [Yo];show _<=(s.proc _).pc+1/\(s.proc _).pc+1<=_;omega
   ·rw [hO e];omega
  grind
theorem IN {p:Int}:∀ {os:List Int} {qs:List (List Int)},(∀a∈(iR p os qs).2.2,a= -1\/∃q∈qs,a∈q)/\(iR p os qs).2.2.length<=qs.length
 | [],qs=>by cases qs<;>simp [iR]
 | o::os,[]=>by simp [iR]
 | o::os,q::qs=>by
  obtain ⟨h1,h⟩:=IN (p:=p) (os:=os) (qs:=qs);have d:∀a∈(iR p os qs).2.2,a= -1\/∃c∈q::qs,a∈c:=λa ha=>(h1 a ha).imp id λ⟨c,e,f⟩=>⟨c,List.mem_cons_of_mem _ e,f⟩;unfold iR;dsimp only;split
  ·cases q with
   | nil=>
    refine ⟨λa ha=> ?_,by simp;omega⟩;rcases List.mem_cons.1 ha with rfl | ha
    ·exact .inl rfl
    ·exact d a ha
   | cons b r=>
    refine ⟨λa ha=> ?_,by simp;omega⟩;rcases List.mem_cons.1 ha with rfl | ha
    ·exact .inr ⟨a::r,List.mem_cons_self ..,List.mem_cons_self ..⟩
    ·exact d a ha
  grind
theorem zyu {c:Type} {f:c->Bool}:∀ {l:List c} {a:c},a∈gP f l->a∈l
 | [],_,h=>by cases h
 | b::l,a,h=>by
  unfold gP at h;split at h
  ·grind
  ·rcases List.mem_cons.1 h with rfl | h
   ·simp
   ·exact List.mem_cons_of_mem _ (zyu h)
theorem PH {p:Int} {l:List Nat} {q:Nat} (h:q∉l):(lR p s l).bd q (qQ p ((lR p s l).proc q))=lR p s (l++ [q]):=by unfold lR MS.bd;congr 1;funext r;unfold cg;grind
end
section
variable {h0 h1 k:Hp} {K:MK} {pm:Addr} {s:MS} {a:Nat->Nat->Int}
theorem yB {p:Nat} {Q:Int->Hp->Prop} (hp:p<=1000) (b:Q ((2*p:Nat):Int) k):M8 prog (p:Int) Q k:=by unfold M8;rw [wrap64 (by omega) (by omega),show (2:Int)*(p:Int)=((2*p:Nat):Int) by omega];exact b
theorem yC {p:Nat} {Q:Int->Hp->Prop} (hp:p<=1000) (b:Q ((2*p+1:Nat):Int) k):M9 prog (p:Int) Q k:=by unfold M9;rw [wrap64 (show -9223372036854775808<=(2:Int)*p by omega) (by omega),wrap64 (by omega) (by omega),show (2:Int)*(p:Int)+1=((2*p+1:Nat):Int) by omega];exact b
theorem VH {gs:List bY} {sl:Sl} {Q:Hp->Prop} {rest:Hp->Prop} (m:dq h0 K) (o:Has h0 (aB K pm s a) k) (r:Rw h0 2 eG sl gs) (B:gs.length<=1000) (u:∀g∈gs,0<=g.dd->g.dd<(nQ K.c:Int))
  (x:∀q,q<nQ K.c->0<=(s.proc q).pc/\(s.proc q).pc<=2000) (v:∀b,Has h0 (aB K pm ((gs.map (·.dd)).foldl jj s) a) b->rest b):
  aC (α1:=Int) (λl f i=>
 (if (decide (f<((sl.len:Nat):Int)))=true then
 ((bJ sl.base sl.len f)/\aP none Nc i (sat sl.base 2 f) λA=>
 aY prog Cp [(.pointer (some pm)),(.int .i64 A.dd)] (λp=>
 l (yw (f+(1:Int))) p) i)
 else rest i)) (0:Int) k:=by
 have D:=r.1;refine aC.intro (λ(t:Int) b=>0<=t/\t<=(gs.length:Int)/\Has h0 (aB K pm (((gs.map (·.dd)).take t.toNat).foldl jj s) a) b) (λt _=>(gs.length-t).toNat) ⟨by omega,by omega,by simpa using o⟩ ?_;rintro t b ⟨z,t1,d⟩;by_cases h:t<(gs.length:Int)
 ·rw [if_pos (decide_eq_true (by omega))];refine Rs.get (sh:=Nc) (Rw.mono d.le r) (λ_=>rfl) (by omega) z h λ(g:bY) j=> ?_;have w:=List.mem_of_getElem? j;have hb:=Ek ((gs.map (·.dd)).take t.toNat) s g.dd.toNat;have C:((gs.map (·.dd)).take t.toNat).length<=1000:=by rw [List.length_take,List.length_map];omega
  refine Qn (Eh m d (λh0=> ?_) λE y=> ?_)
  ·have:=u g w h0;have:=x g.dd.toNat (by omega);omega
  ·rw [wrap64 (by omega) (by omega)];refine ⟨⟨by omega,by omega,?_⟩,by omega⟩;have e:(t+1).toNat=t.toNat+1:=by omega
   have n:(gs.map (·.dd))[t.toNat]? =some g.dd:=by rw [List.getElem?_map,j];rfl
   rw [e,List.take_add_one,n];simpa using y
 ·rw [if_neg (λe=>h (by have:=of_decide_eq_true e;omega))];refine v b ?_;have e:t.toNat=gs.length:=by omega
  rw [e,List.take_of_length_le (by simp)] at d;exact d
theorem Yp {b:List mr} {sl:Sl} {rest:Hp->Prop} (m:dq h0 K) (o:Has h0 (aB K pm s a) k) (r:Rw h0 2 eW sl b) (Q:b.length<=10000) (H:∀w∈b,0<=w.proc/\w.proc<(nQ K.c:Int))
  (J:∀q,q<nQ K.c->0<=(s.proc q).pc/\(s.proc q).pc<=4000) (I:∀d,Has h0 (aB K pm (b.foldl (λs w=>cf K.c s w.proc.toNat 2) s) a) d->rest d):
  aC (α1:=Int) (λD n j=>
 (if (decide (n<((sl.len:Nat):Int)))=true then
 ((bJ sl.base sl.len n)/\aP none aF j (sat sl.base 2 n) λC=>
 ai none (some pm) λM=>
 aP none av j (Addr.add M 11) λy=>
 ((bJ y.base y.len C.dd)/\aP none ah j (sat y.base 1 C.dd) λP=>
 aY prog wu [(.pointer (some pm)),(.pointer P),(.int .i64 (2:Int))] (λG=>
 D (yw (n+(1:Int))) G) j))
 else rest j)) (0:Int) k:=by
 have N:Rs h0 aF 2 sl (b.map nk):=r.map (f:=nk) (enc:=λx=>bg (aF.enc x));have S:=r.1;refine aC.intro (λ(t:Int) d=>0<=t/\t<=(b.length:Int)/\Has h0 (aB K pm ((b.take t.toNat).foldl (λs w=>cf K.c s w.proc.toNat 2) s) a) d) (λt _=>(b.length-t).toNat) ⟨by omega,by omega,by simpa using o⟩ ?_;rintro t d ⟨O,t1,i⟩;by_cases h:t<(b.length:Int)
 ·rw [if_pos (decide_eq_true (by omega))];refine Rs.get (sh:=aF) (N.mono i.le) (λ_=>rfl) (by omega) O (by rw [List.length_map];exact h) λ(g:bH) l=> ?_;obtain ⟨w,B,rfl⟩:∃w,b[t.toNat]? =some w/\nk w=g:=by
   rw [List.getElem?_map] at l;cases e:b[t.toNat]? with
   | none=>rw [e] at l;cases l
   | some w=>rw [e] at l;exact ⟨w,rfl,Option.some.inj l⟩
  have T:=H w (List.mem_of_getElem? B);have hb:=IM (c:=K.c) (v:=2) (b.take t.toNat) s w.proc.toNat;have R:(b.take t.toNat).length<=10000:=by rw [List.length_take];omega
  have u:w.proc.toNat<nQ K.c:=by omega
  have F:((w.proc.toNat:Nat):Int)=w.proc:=by omega
  obtain ⟨z,A⟩:=m.ptr i u;rw [F] at z A;have E:(nk w).dd=w.proc:=rfl;rw [E];refine aD (i.dY.ld (shf:=av) K.x.procs rfl ⟨z,some (K.p w.proc.toNat),A,?_⟩);refine Cb (DL m i u ?_ λU L=> ?_)
  ·have:=J w.proc.toNat u;omega
  ·rw [wrap64 (by omega) (by omega)];refine ⟨⟨by omega,by omega,?_⟩,by omega⟩;have e:(t+1).toNat=t.toNat+1:=by omega
   rw [e,List.take_add_one,B];simpa using L
 ·rw [if_neg (λe=>h (by have:=of_decide_eq_true e;omega))];refine I d ?_;have e:t.toNat=b.length:=by omega
  rw [e,List.take_of_length_le (by simp)] at i;exact i
end
section
variable {h0 h1 k:Hp} {K:MK} {pm:Addr} {s:MS} {d:Nat->Nat->Int}
theorem VK {p i:Nat} {rest:Hp->Prop} (m:dq h0 K) (D:bT K.c) (o:Has h0 (aB K pm s d) k) (sa:∀q,q<nQ K.c->pR K.c (s.proc q)) (hp:p<nQ K.c) (O:i<nP K.c)
  (P:∀j,Has h0 (aB K pm (lR p s (dS K.c i)) d) j->rest j):
  aC (α1:=Int) (λH u f=>
 (if (decide (u<(((K.own i).len:Nat):Int)))=true then
 ((bJ (K.own i).base (K.own i).len u)/\aP none (af .i64) f (sat (K.own i).base 1 u) λF=>
 ai none (some pm) λZ=>
 aP none av f (Addr.add Z 11) λy=>
 ((bJ y.base y.len F)/\aP none ah f (sat y.base 1 F) λx6=>
 ai none x6 λp7=>
 aP none ah f (Addr.add p7 14) λx7=>
 ai none (some (K.p p)) λp8=>
 aP none (af .i64) f (Addr.add p8 0) λx8=>
 ae prog V0 [(.pointer x7),(.int .i64 x8)] bB (λr M=>
 H (yw (u+(1:Int))) M) f))
 else rest f)) (0:Int) k:=by
 have r:=m.own i O;have R:=r.1;rw [List.length_map] at R;have a8:(dS K.c i).length<=1000:=by have h1:(dS K.c i).length<=(List.range (nQ K.c)).length:=List.length_filter_le ..;rw [List.length_range] at h1;have:=D.procs;omega
 refine aC.intro (λ(t:Int) j=>0<=t/\t<=((dS K.c i).length:Int)/\Has h0 (aB K pm (lR p s ((dS K.c i).take t.toNat)) d) j) (λt _=>((dS K.c i).length-t).toNat) ⟨by omega,by omega,by
  have e:lR p s ((dS K.c i).take (0:Int).toNat)=s:=by unfold lR;simp
  rw [e];exact o⟩ ?_
 rintro t j ⟨t0,t1,n⟩;by_cases h:t<((dS K.c i).length:Int)
 ·rw [if_pos (decide_eq_true (by omega))];refine Rs.get (sh:=af .i64) (r.mono n.le) (λ_=>rfl) (by omega) t0 (by grind) λ(g:Int) a9=> ?_;obtain ⟨q,w,rfl⟩:∃q:Nat,(dS K.c i)[t.toNat]? =some q/\(q:Int)=g:=by grind
  have S:=List.mem_of_getElem? w;have v:=(fL.1 S).1;have C:q∉(dS K.c i).take t.toNat:=by
   intro b0;have b3:=Mi (c:=K.c) (i:=i);obtain ⟨b2,N⟩:=List.getElem?_eq_some_iff.1 w;have b5:(dS K.c i)=(dS K.c i).take t.toNat++q::(dS K.c i).drop (t.toNat+1):=by rw [<-N,List.getElem_cons_drop,List.take_append_drop]
   grind
  obtain ⟨J,L⟩:=m.ptr n v;refine aD (n.dY.ld (shf:=av) K.x.procs rfl ⟨J,some (K.p q),L,?_⟩);obtain ⟨h2,z,a,l2,T,Y,E,put⟩:=n.nb v;have eq:z.post=some a:=T.2.2.2.2.2.2;refine aD (Y.ld (shf:=ah) z.post rfl ?_);obtain ⟨f,G,ap,l3,U,op,_⟩:=n.df hp;refine aD (op.ld (shf:=af .i64) G.dg rfl ?_);have I:G.dg=(p:Int):=U.1;rw [eq,I];have B:(lR p s ((dS K.c i).take t.toNat)).proc q=s.proc q:=if_neg C;rw [B] at E put;have sq:=sa q v;have b4:=D.parts;have b1:=sq.len;refine PY (Vf E ⟨by omega,λl Q=>(sq.dQ l Q).waiters⟩ λb V W=> ?_);have X:=put _ _ _ W;rw [wrap64 (by omega) (by omega)];refine ⟨⟨by omega,by omega,?_⟩,by omega⟩;have e:(t+1).toNat=t.toNat+1:=by omega
  have A:=PH (p:=p) (s:=s) C;rw [B] at A;rw [e,List.take_add_one,w];show Has h0 (aB K pm (lR p s ((dS K.c i).take t.toNat++ [q])) d) V;rw [<-A];exact X
 ·rw [if_neg (λe=>h (by have:=of_decide_eq_true e;omega))];refine P j ?_;have e:t.toNat=(dS K.c i).length:=by omega
  grind
theorem JK {q:Nat}:∀ {l:List Int} {s:MS},((l.foldl jj s).proc q).ak=(s.proc q).ak
 | [],s=>rfl
 | a::l,s=>by
  rw [List.foldl_cons,JK];unfold jj;split
  ·unfold oH;by_cases e:q=a.toNat
   ·subst e;rw [fC];rfl
   ·rw [hO e]
  ·rfl
theorem Jf {a:Type} {f:a->Bool}:∀ {l:List a},(gP f l).length<=l.length
 | []=>Nat.le_refl _
 | b::l=>by have:=Jf (f:=f) (l:=l);unfold gP;grind
def qL (y:au):au:={y with timer:=0,cJ:=0}
def tP (s:MS):MS:=⟨s.tick,s.part,λq=>qL (s.proc q)⟩
theorem FC :aB K pm s d=aB K pm (tP s) d:=rfl
theorem FH {p:Nat} {y:au}:tP (s.bd p y)=(tP s).bd p (qL y):=by unfold tP MS.bd;dsimp only;rw [Xp]
theorem PJ {c:aI} {p:Nat} {v:Int}:tP (cf c s p v)=cf c (tP s) p v:=by unfold cf;rw [FH];rfl
theorem Cx {c:aI} {v:Int}:∀ {l:List mr} {s:MS},tP (l.foldl (λs w=>cf c s w.proc.toNat v) s)=l.foldl (λs w=>cf c s w.proc.toNat v) (tP s)
 | [],s=>rfl
 | a::l,s=>by rw [List.foldl_cons,Cx,PJ,List.foldl_cons]
theorem VM {p:Nat} (o:Has h0 (aB K pm (((s.proc p).ak.flatMap (·.waiters)).foldl (λs w=>cf K.c s w.proc.toNat 2) (iE s p)) d) k):Has h0 (aB K pm (pX K.c (gJ s p) p) d) k:=by
 have a:((gJ s p).proc p).ak=(s.proc p).ak:=by unfold gJ;rw [fC]
 have b:tP (iE (gJ s p) p)=tP (iE s p):=by unfold iE gJ;rw [fC,Bb,FH,FH];rfl
 unfold pX;rw [a,FC,Cx,b,<-Cx,<-FC];exact o
def pY (d:Nat->Nat->Int) (i p:Nat):Nat->Nat->Int:=cg d i (cg (cg (d i) (2*p) 0) (2*p+1) 0)
theorem IP {p:Nat} {st:Int} {Q:Hp->Prop} (m:dq h0 K) (y:bT K.c) (o:Has h0 (aB K pm s d) k) (j:iX K.c s) (hp:p<nQ K.c)
  (M:∀t,Has h0 (aB K pm (nL K.c s p st) (pY d (aA K.c p) p)) t->Q t):Sg prog (some pm) (some (K.p p)) st Q k:=by
 unfold Sg;rw [yU] at M;have r:aA K.c p<nP K.c:=y.eR;have i3:=y.procs;have i1:=y.parts;obtain ⟨h1,z,a,l1,T,oz,put⟩:=o.df hp;refine aD (o.dY.ld (shf:=av) K.x.parts rfl ?_);refine aD (oz.ld (shf:=af .i64) z.part rfl ?_);have ep:z.part=(aA K.c p:Int):=T.2.1;rw [ep];obtain ⟨g1,g2⟩:=m.tr o r;refine ⟨g1,some (K.q (aA K.c p)),g2,?_⟩;refine aD (oz.st (nv z st) (by show 3+1<=15;omega) rfl λk1 o1=> ?_);refine aD (o1.st (tV (nv z st) false) (by show 13+1<=15;omega) rfl λk2 o2=> ?_);have B:=put _ _ _ ((T.state st).bN false) rfl rfl o2;have B:Has h0 (aB K pm (fH s p st) d) k2:=B;obtain ⟨h2,x,lp,wp,l2,hx,ox,_⟩:=B.sB r;refine aD (ox.ld (shf:=av) x.procs rfl ?_);have ex:x.procs=K.own (aA K.c p):=hx.1;rw [ex];have b3:∀q,q<nQ K.c->pR K.c ((fH s p st).proc q):=λq f=>by
  unfold fH;by_cases e:q=p
  ·subst e;rw [fC];have:=j.proc q f;exact ⟨this.pc,this.len,this.cur,this.dQ⟩
  ·rw [hO e];exact j.proc q f
 have c4:∀q,((dL K.c s p st).proc q).pc=(s.proc q).pc:=λq=>by
  have h1:((fH s p st).proc q).pc=(s.proc q).pc:=by
   unfold fH;by_cases e:q=p
   ·subst e;rw [fC]
   ·rw [hO e]
  show (if q∈dS K.c (aA K.c p) then qQ p ((fH s p st).proc q) else (fH s p st).proc q).pc=_;split<;>exact h1
 refine VK m y B b3 hp r λk3 C=> ?_;have C:Has h0 (aB K pm (dL K.c s p st) d) k3:=C;obtain ⟨I,x4,d8,j1,l4,d1,f0,ol,b0⟩:=C.qi r;have el:x4.ag=some d8:=d1.2.2.2.2.1;obtain ⟨h5,z5,a5,l5,d6,f6,_⟩:=C.df hp;refine aD (f0.ld (shf:=ah) x4.ag rfl ?_);refine aD (f6.ld (shf:=af .i64) z5.dg rfl ?_);have ei:z5.dg=(p:Int):=d6.1;rw [el,ei];have v:=j.part _ r;have c0:(dL K.c s p st).part=s.part:=rfl;rw [c0] at ol b0;refine P0 (X3 ol ⟨by have:=v.qY.1;omega,v.qY.2⟩ v.gK (by omega) λsl k4 gs c3 o5=> ?_);have o6:Has h0 ((aB K pm (pw K.c (dL K.c s p st) p) d).star (dK 2 eG sl gs)) k4:=o5.carry λt F=>b0 _ _ t F;obtain ⟨J,W,o7,hr⟩:=o6.aside (λ_=>rfl);have X:=m.mono W;have L:=IN (p:=(p:Int)) (os:=(s.part (aA K.c p)).az) (qs:=(s.part (aA K.c p)).aw.map (eu p));have h4:gs.length<=8:=by have:=L.2;rw [<-c3,List.length_map,List.length_map] at this;have:=v.qY.1;omega
 have c7:∀g∈gs,0<=g.dd->g.dd<(nQ K.c:Int):=by
  intro g hg h0;have:g.dd∈(iR (p:Int) (s.part (aA K.c p)).az ((s.part (aA K.c p)).aw.map (eu p))).2.2:=by grind
  rcases L.1 _ this with h | ⟨q,f,hm⟩
  ·omega
  ·obtain ⟨q',c5,rfl⟩:=List.mem_map.1 f;exact ((v.nd q' c5).2 _ (zyu hm)).2
 have S:∀q,((pw K.c (dL K.c s p st) p).proc q).pc=(s.proc q).pc:=c4;refine VH (Q:=Q) X o7 hr (by omega) c7 (λq f=> ?_) λk5 G=> ?_
 ·rw [S];have:=(j.proc q f).pc;omega
 have H:(gs.map (·.dd)).foldl jj (pw K.c (dL K.c s p st) p)=iD K.c (dL K.c s p st) p:=by show _=(iR (p:Int) ((dL K.c s p st).part (aA K.c p)).az (((dL K.c s p st).part (aA K.c p)).aw.map (eu p))).2.2.foldl jj _;grind
 rw [H] at G;have i2:∀q,q<nQ K.c->0<=((iD K.c (dL K.c s p st) p).proc q).pc/\((iD K.c (dL K.c s p st) p).proc q).pc<=2000:=λq f=>by have:=Ek (gs.map (·.dd)) (pw K.c (dL K.c s p st) p) q;rw [H,S,List.length_map] at this;have:=(j.proc q f).pc;omega
 have R:∀q,((iD K.c (dL K.c s p st) p).proc q).ak=((dL K.c s p st).proc q).ak:=λq=>by unfold iD;rw [JK];rfl
 generalize i4:iD K.c (dL K.c s p st) p=b at*;obtain ⟨h7,x7,i7,g3,l7,d2,Z,ow,f9⟩:=G.iv r;have c1:x7.dx=some g3:=d2.2.2.2.2.2;obtain ⟨h8,z8,a8,l8,d7,f7,_⟩:=G.df hp;refine aD (Z.ld (shf:=ah) x7.dx rfl ?_);refine aD (f7.ld (shf:=af .i64) z8.dg rfl ?_);have b8:z8.dg=(p:Int):=d7.1;rw [b8];refine Ia (yB (by omega) ?_);refine ⟨⟨Z.eh (n:=1) rfl,trivial⟩,?_⟩;rw [c1];refine HI (DD ow (by omega) λb1 k6 o9=> ?_);have Y:=f9 _ _ o9;obtain ⟨h9,x9,i9,g4,l9,d3,a9,e9,g0⟩:=Y.iv r;have c2:x9.dx=some g4:=d3.2.2.2.2.2;obtain ⟨g6,b4,g5,i5,d4,f4,_⟩:=Y.df hp;refine aD (a9.ld (shf:=ah) x9.dx rfl ?_);refine aD (f4.ld (shf:=af .i64) b4.dg rfl ?_);have b7:b4.dg=(p:Int):=d4.1;rw [b7];refine Ib (yC (by omega) ?_);refine ⟨⟨a9.eh (n:=1) rfl,trivial⟩,?_⟩;rw [c2];refine HI (DD e9 (by omega) λb2 k7 d9=> ?_);have A:=g0 _ _ d9;rw [kK,LA] at A;have A:Has J (aB K pm b (pY d (aA K.c p) p)) k7:=A;obtain ⟨g7,b5,b6,i6,d5,f5,e7,f8⟩:=A.nb hp;have b9:b5.post=some b6:=d5.2.2.2.2.2.2;refine aD (f5.ld (shf:=ah) b5.post rfl ?_);rw [b9];have j0:=b3 p hp;have P:∀l∈(b.proc p).ak,∃u∈(s.proc p).ak,l.waiters.length<=u.waiters.length/\∀w∈l.waiters,w∈u.waiters:=by
  intro l i;rw [R] at i;have D:((fH s p st).proc p).ak=(s.proc p).ak:=by unfold fH;rw [fC]
  have N:l∈(if p∈dS K.c (aA K.c p) then qQ p ((fH s p st).proc p) else (fH s p st).proc p).ak:=i;rw [if_pos (fL.2 ⟨hp,rfl⟩)] at N;obtain ⟨l0,O,rfl⟩:=List.mem_map.1 N;rw [D] at O;exact ⟨l0,O,Jf,λw E=>zyu E⟩
 have i0:(b.proc p).ak.length=nP K.c+1:=by
  rw [R];have D:((fH s p st).proc p).ak=(s.proc p).ak:=by unfold fH;rw [fC]
  show (if p∈dS K.c (aA K.c p) then qQ p ((fH s p st).proc p) else (fH s p st).proc p).ak.length=_;rw [if_pos (fL.2 ⟨hp,rfl⟩)];show (List.map _ _).length=_;rw [List.length_map,D];exact (j.proc p hp).len
 have c8:∀l∈(b.proc p).ak,l.waiters.length<=100:=λl i=>by obtain ⟨u,h1,h2,_⟩:=P l i;have:=((j.proc p hp).dQ u h1).waiters;omega
 refine Se (ZS e7 ⟨by omega,c8⟩ λsw k8 e0=> ?_);have e2:Has J ((aB K pm (iE b p) (pY d (aA K.c p) p)).star (dK 2 eW sw ((b.proc p).ak.flatMap (·.waiters)))) k8:=e0.carry λt F=>f8 _ _ t F;obtain ⟨g8,V,e3,c6⟩:=e2.aside (λ_=>rfl);have g9:((b.proc p).ak.flatMap (·.waiters)).length<=900:=by
  have key:∀(m:List bm),(∀l∈m,l.waiters.length<=100)->(m.flatMap (·.waiters)).length<=m.length*100:=λm=>by
   induction m with
   | nil=>intro _;simp
   | cons a m ih=>intro h;have:=ih λl i=>h l (List.mem_cons_of_mem _ i);have:=h a (List.mem_cons_self ..);simp only [List.flatMap_cons,List.length_append,List.length_cons];omega
  grind
 refine Yp (X.mono V) e3 c6 (by omega) (λw E=> ?_) (λq f=> ?_) λU e4=>M U ?_
 ·obtain ⟨l,i,d0⟩:=List.mem_flatMap.1 E;obtain ⟨u,h1,_,I⟩:=P l i;exact ((j.proc p hp).dQ u h1).kf w (I w d0)
 ·have e6:((iE b p).proc q).pc=(b.proc q).pc:=by
   unfold iE;by_cases e:q=p
   ·subst e;rw [fC]
   ·rw [hO e]
  grind
 · -- timers are in the dx alone
  have e5:Has h0 (aB K pm (((b.proc p).ak.flatMap (·.waiters)).foldl (λs w=>cf K.c s w.proc.toNat 2) (iE b p)) (pY d (aA K.c p) p)) U:=e4.mono (Hp.le_trans W V);exact VM e5
end
end Lf
