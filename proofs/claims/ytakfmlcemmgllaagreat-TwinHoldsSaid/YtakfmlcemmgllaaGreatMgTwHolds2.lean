/-
  Part 3 of the texts that the claim leans on.
-/
import Derived.Test.YtakfmlcemmgllaaGreatRows
import Derived.Laws.Externs
import Derived.Test.YtakfmlcemmgllaaGreatMgTwHolds1
set_option maxRecDepth 100000
namespace Lf
open Go
section
variable {P:Program} {α:Type} {h0 k:Hp} {sz:Nat} {enc:α->List Value} {s:Sl} {xs:List α}
theorem Iq {g q bytes:Nat} {zero:List Value} {x y:Operand} {Q:Sl->Hp->Prop} (m:P.underlying g=some (.slice q)) (r:Rw k sz enc s xs) (w:0<sz) (d:∀x,(enc x).length=sz) (l:∀x,jE (enc x)=true) (p:zero.length=sz)
  (hb:xs.length<=140737488355328/\xs.length*bytes<=140737488355328) (f:∀c b,k<=b->Has k (eu sz enc c xs) b->Q c b):
  gw none P (cT .eql g x y s.v (.slice none 0 0)) aR k λx=>(if x=true then Q ⟨none,0,0⟩ k else bP [] (λa h=>gF sz bytes zero ⟨(some a),0,0⟩ s (λr i=>Q r i) h) k):=by
 refine ⟨s.base.isNone,OB m s,?_⟩;cases u:s.base with
 | none=>
  rw [if_pos (show (none:Option Addr).isNone=true from rfl)];have:xs=[]:=by
   rcases r.2.2 with e | ⟨a,t,_⟩
   ·exact List.length_eq_zero_iff.1 ((Nat.mul_eq_zero.1 e).resolve_right (by omega))
   grind
  subst this;exact f _ k (Hp.le_refl k) (Has.jO (Hp.le_refl k))
 | some a=>rw [if_neg (by simp)];refine iA (xs:=([]:List α)) (enc:=enc) (sz:=sz) rfl d λa z j n=> ?_;refine n.app (Rw.mono j r) d l p (by simpa using hb) λc b o=> ?_;exact f c b o.le (by simpa using o)
def iY (f:α->Bool) (xs:List α):Int:=match xs.findIdx? f with
 | some i=>i
 | none=> -1
theorem Dk (f:α->Bool):∀xs:List α,iD f xs=if 0<=iY f xs then xs.take (iY f xs).toNat++xs.drop ((iY f xs).toNat+1) else xs
 | []=>by simp [iD,iY]
 | a::l=>by
  unfold iD;by_cases h:f a=true
  ·have:iY f (a::l)=0:=by unfold iY;grind
   rw [if_pos h,this];simp
  ·have b:=Dk f l;rw [if_neg h,b];unfold iY;grind
theorem LC {f:α->Bool} {xs:List α} (h:0<=iY f xs):iY f xs<xs.length:=by
 unfold iY at*;cases e:xs.findIdx? f with
 | none=>grind
 | some i=>have:=(List.findIdx?_eq_some_iff_getElem.1 e).1;grind
theorem LD {f:α->Bool} {xs:List α} {t:Nat} {x:α} (c:xs[t]? =some x) (a:f x=true) (b:∀(j:Nat) y,j<t->xs[j]? =some y->f y=false):iY f xs=t:=by
 have:xs.findIdx? f=some t:=by rw [List.findIdx?_eq_some_iff_getElem];grind
 unfold iY;rw [this]
theorem yy {f:α->Bool} {xs:List α} (a:∀x∈xs,f x=false):iY f xs= -1:=by have:xs.findIdx? f=none:=List.findIdx?_eq_none_iff.2 a;unfold iY;rw [this]
theorem Has.Hn {bytes r G:Nat} {z:Value} {i j:Nat} {Q:Sl->Hp->Prop} (ht:P.underlying r=some (.slice G)) (b0:∀ {K:Value->Hp->Prop} {h:Hp},K z h->du P (zeroValue G) K h) (e:∀x,(enc x).length=sz) (X:∀x,jE (enc x)=true) (hz:(bu z).length=sz) (a9:∀n,jE (fW (bu z) n)=true)
  (o:Has h0 (eu sz enc s xs) k) (b6:i<j) (T:j<=xs.length) (hb:xs.length<=140737488355328/\xs.length*bytes<=140737488355328)
  (Y:∀C A,Has h0 (eu sz enc C (xs.take i++xs.drop j)) A->Q C A):xv P sz bytes (bu z) r s (i:Int) (j:Int) Q k:=by
 obtain ⟨U,F,⟨hs,c0,L⟩,v⟩:=o;unfold xv;have it:(i:Int).toNat=i:=by omega
 have jt:(j:Int).toNat=j:=by omega
 have st:(s.len:Int).toNat=xs.length:=by omega
 rw [it,jt,st];refine ⟨by omega,aJ ?_⟩;rw [if_neg (show ¬(((i:Int)==(j:Int))=true) by simp;omega)];have l:∀a b:Nat,a<=b->a*sz<=b*sz:=λa b M=>Nat.mul_le_mul_right sz M;have a8:((xs.take i).flatMap enc).length=i*sz:=by rw [jo e,List.length_take];congr 1;omega
 have q7:((xs.drop j).flatMap enc).length=(xs.length-j)*sz:=by rw [jo e,List.length_drop]
 rcases L with ⟨D,oc,_⟩ | ⟨b,off,d,D,u,q,b4,f⟩
 ·omega
 rw [D];rw [hs] at f;have hn:h0 b=none:=v b ((u b).2 rfl);have b5:off+xs.length*sz<=d.length:=by grind
 have N:bh (some (⟨b,off,none⟩:Addr)) sz 0 s.cap=some ⟨b,off,none⟩:=by rw [uG (by omega)];simp
 have b7:=l i xs.length (by omega);have b8:=l j xs.length T;have c3:xs.length*sz=j*sz+(xs.length-j)*sz:=by rw [<-Nat.add_mul];congr 1;omega
 have c2:i*sz<=j*sz:=l _ _ (by omega);have c1:(d.drop off).take (i*sz)=(xs.take i).flatMap enc:=by rw [Cc e,<-f,List.take_take];congr 1;omega
 have b2:pI k (some ⟨b,off,none⟩) ((i-0)*sz) ((xs.take i).flatMap enc):=q.rd a8 (by omega);have b1:pI k (bh (some (⟨b,off,none⟩:Addr)) sz j s.cap) ((xs.length-j)*sz) ((xs.drop j).flatMap enc):=by
  by_cases R:s.cap=j
  ·refine ⟨q7,.inl ?_⟩;grind
  ·rw [uG R];refine q.rd q7 ?_;rw [yV e,<-f,List.drop_take,List.drop_drop];grind
 refine ⟨by omega,aJ ⟨by omega,aJ ?_⟩⟩;rw [N];have V:i-0+(xs.length-j)<=xs.length:=by omega
 have b3:(i-0+(xs.length-j))*bytes<=xs.length*bytes:=Nat.mul_le_mul_right _ V;have y:(⟨bh (some (⟨b,off,none⟩:Addr)) sz j s.cap,s.len-j,s.cap-j⟩:Sl).len=xs.length-j:=by grind
 have g:i-0=i:=by omega
 refine My (n:=xs.length-j) q b2 (by rw [y];exact b1) y (sZ X _) ⟨by omega,by omega⟩ (by omega) (by
  grind) λJ m1 B=> ?_
 rw [g] at B;show ((0:Int)<=((i-0+(xs.length-j):Nat):Int)/\((i-0+(xs.length-j):Nat):Int)<=(s.len:Int)/\(s.len:Int)<=((s.cap-0:Nat):Int))/\aI (α:=Sl) ⟨bh (some ⟨b,off,none⟩) sz (((i-0+(xs.length-j):Nat):Int)).toNat (s.cap-0),xs.length-(((i-0+(xs.length-j):Nat):Int)).toNat,s.cap-0-(((i-0+(xs.length-j):Nat):Int)).toNat⟩ _;refine ⟨by omega,aJ ?_⟩;have W:(((i-0+(xs.length-j):Nat):Int)).toNat=i+(xs.length-j):=by omega
 have O:s.cap-0=s.cap:=by omega
 rw [W,O,uG (show s.cap≠i+(xs.length-j) by omega)];have S:xs.length-(i+(xs.length-j))=j-i:=by omega
 have p:(i+(xs.length-j))*sz=i*sz+(xs.length-j)*sz:=Nat.add_mul _ _ _;have w:(d.take (off+i*sz)++(xs.drop j).flatMap enc++d.drop (off+i*sz+(xs.length-j)*sz)).length=d.length:=by grind
 show mY P (Builtin.clear_ #[r] 0 #[.slice (some ⟨b,off+(i+(xs.length-j))*sz,none⟩) (xs.length-(i+(xs.length-j))) (s.cap-(i+(xs.length-j)))]) uf _ J;rw [S];have b9:i*sz+(j-i)*sz=j*sz:=by rw [<-Nat.add_mul];congr 1;omega
 refine Ip ht b0 a9 B (by
  grind) λh2 m2 k2=> ?_
 have Z:(xs.take i++xs.drop j).length=i+(xs.length-j):=by simp;omega
 have m:=m1.trans m2;refine Y _ _ ⟨λc E I=>m.cW c E (U c E I) (λhc=>(by grind)),F,⟨?_,?_,.inr ⟨b,off,_,rfl,u,k2,?_,?_⟩⟩,v⟩
 ·rw [Z,g]
 ·grind
 ·simp only [List.length_append,List.length_take,List.length_drop,w,yA,hz];omega
 ·show List.take ((i-0+(xs.length-j))*sz) _=_;have t1:((d.take (off+i*sz)).drop off)=(xs.take i).flatMap enc:=by grind
  have t:i*sz+(xs.length-j)*sz=((xs.take i).flatMap enc++(xs.drop j).flatMap enc).length:=by grind
  have H:List.drop off (List.take (off+(i+(xs.length-j))*sz) (d.take (off+i*sz)++(xs.drop j).flatMap enc++d.drop (off+i*sz+(xs.length-j)*sz)))=(xs.take i).flatMap enc++(xs.drop j).flatMap enc:=by rw [List.drop_take,show off+(i+(xs.length-j))*sz-off=i*sz+(xs.length-j)*sz by rw [p];omega,List.append_assoc,List.drop_append_of_le_length (by grind),t1,<-List.append_assoc,t,List.take_left]
  rw [g,List.append_assoc,List.drop_append_of_le_length (by rw [List.length_take,w,p];omega),H,p,t,List.flatMap_append,List.take_left]
end
structure az where
 be:Sl
 Table:Sl
 Fuel:Int
 hZ:Int
 cv:Int
 Log:Int
 aE:Sl
def az.v (x:az):Value:=.agg #[.slice x.be.base x.be.len x.be.cap,.slice x.Table.base x.Table.len x.Table.cap,.int .i64 x.Fuel,.int .i64 x.hZ,.int .i64 x.cv,.int .i64 x.Log,.slice x.aE.base x.aE.len x.aE.cap]
@[reducible] def aN : Shape where
 T:=az
 enc:=λx=>.agg #[.slice x.be.base x.be.len x.be.cap,.slice x.Table.base x.Table.len x.Table.cap,.int .i64 x.Fuel,.int .i64 x.hZ,.int .i64 x.cv,.int .i64 x.Log,.slice x.aE.base x.aE.len x.aE.cap]
 dec:=λv=>match v with
  | .agg ⟨[.slice a0 a d,.slice a1 b e,.int .i64 a2,.int .i64 a3,.int .i64 a4,.int .i64 a5,.slice a6 c f]⟩=>some ⟨⟨a0,a,d⟩,⟨a1,b,e⟩,a2,a3,a4,a5,⟨a6,c,f⟩⟩
  | _=>none
 ok:=by intro v x h;split at h<;>cases h;rfl
structure bK where
 bU:Sl
 cI:Sl
 dT:Int
 dU:Int
 dk:Int
 fJ:Int
 bM:Sl
 cn:Sl
 cR:Sl
 fb:Int
 fc:Int
 dF:Int
 gh:Int
 cp:Sl
 S:Sl
 T:Sl
 Label:Int
def bK.v (x:bK):Value:=.agg #[.slice x.bU.base x.bU.len x.bU.cap,.slice x.cI.base x.cI.len x.cI.cap,.int .i64 x.dT,.int .i64 x.dU,.int .i64 x.dk,.int .i64 x.fJ,.slice x.bM.base x.bM.len x.bM.cap,.slice x.cn.base x.cn.len x.cn.cap,.slice x.cR.base x.cR.len x.cR.cap,.int .i64 x.fb,.int .i64 x.fc,.int .i64 x.dF,.int .i64 x.gh,.slice x.cp.base x.cp.len x.cp.cap,.slice x.S.base x.S.len x.S.cap,.slice x.T.base x.T.len x.T.cap,.int .u64 x.Label]
@[reducible] def dj : Shape where
 T:=bK
 enc:=λx=>.agg #[.slice x.bU.base x.bU.len x.bU.cap,.slice x.cI.base x.cI.len x.cI.cap,.int .i64 x.dT,.int .i64 x.dU,.int .i64 x.dk,.int .i64 x.fJ,.slice x.bM.base x.bM.len x.bM.cap,.slice x.cn.base x.cn.len x.cn.cap,.slice x.cR.base x.cR.len x.cR.cap,.int .i64 x.fb,.int .i64 x.fc,.int .i64 x.dF,.int .i64 x.gh,.slice x.cp.base x.cp.len x.cp.cap,.slice x.S.base x.S.len x.S.cap,.slice x.T.base x.T.len x.T.cap,.int .u64 x.Label]
 dec:=λv=>match v with
  | .agg ⟨[.slice a0 k s,.slice a1 l t,.int .i64 a2,.int .i64 a3,.int .i64 a4,.int .i64 a5,.slice a6 p z,.slice a7 q A,.slice i r B,.int .i64 j,.int .i64 a,.int .i64 b,.int .i64 c,.slice d m u,.slice e n w,.slice f o y,.int .u64 g]⟩=>some ⟨⟨a0,k,s⟩,⟨a1,l,t⟩,a2,a3,a4,a5,⟨a6,p,z⟩,⟨a7,q,A⟩,⟨i,r,B⟩,j,a,b,c,⟨d,m,u⟩,⟨e,n,w⟩,⟨f,o,y⟩,g⟩
  | _=>none
 ok:=by intro v x h;split at h<;>cases h;rfl
structure cS where
 bU:Sl
 cI:Sl
 dT:Int
 dU:Int
 dk:Int
 fJ:Int
 bM:Sl
 cn:Sl
 cR:Sl
 fb:Int
 fc:Int
 dF:Int
 gh:Int
 cp:Sl
 S:Sl
 T:Sl
 Label:Int
def cS.v (x:cS):Value:=.agg #[.slice x.bU.base x.bU.len x.bU.cap,.slice x.cI.base x.cI.len x.cI.cap,.int .i64 x.dT,.int .i64 x.dU,.int .i64 x.dk,.int .i64 x.fJ,.slice x.bM.base x.bM.len x.bM.cap,.slice x.cn.base x.cn.len x.cn.cap,.slice x.cR.base x.cR.len x.cR.cap,.int .i64 x.fb,.int .i64 x.fc,.int .i64 x.dF,.int .i64 x.gh,.slice x.cp.base x.cp.len x.cp.cap,.slice x.S.base x.S.len x.S.cap,.slice x.T.base x.T.len x.T.cap,.int .u64 x.Label]
@[reducible] def DO : Shape where
 T:=cS
 enc:=λx=>.agg #[.slice x.bU.base x.bU.len x.bU.cap,.slice x.cI.base x.cI.len x.cI.cap,.int .i64 x.dT,.int .i64 x.dU,.int .i64 x.dk,.int .i64 x.fJ,.slice x.bM.base x.bM.len x.bM.cap,.slice x.cn.base x.cn.len x.cn.cap,.slice x.cR.base x.cR.len x.cR.cap,.int .i64 x.fb,.int .i64 x.fc,.int .i64 x.dF,.int .i64 x.gh,.slice x.cp.base x.cp.len x.cp.cap,.slice x.S.base x.S.len x.S.cap,.slice x.T.base x.T.len x.T.cap,.int .u64 x.Label]
 dec:=λv=>match v with
  | .agg ⟨[.slice a0 k s,.slice a1 l t,.int .i64 a2,.int .i64 a3,.int .i64 a4,.int .i64 a5,.slice a6 p z,.slice a7 q A,.slice i r B,.int .i64 j,.int .i64 a,.int .i64 b,.int .i64 c,.slice d m u,.slice e n w,.slice f o y,.int .u64 g]⟩=>some ⟨⟨a0,k,s⟩,⟨a1,l,t⟩,a2,a3,a4,a5,⟨a6,p,z⟩,⟨a7,q,A⟩,⟨i,r,B⟩,j,a,b,c,⟨d,m,u⟩,⟨e,n,w⟩,⟨f,o,y⟩,g⟩
  | _=>none
 ok:=by intro v x h;split at h<;>cases h;rfl
structure av where
 Kind:Int
 N:Int
 V:Int
def av.v (x:av):Value:=.agg #[.int .i64 x.Kind,.int .i64 x.N,.int .i64 x.V]
@[reducible] def bI : Shape where
 T:=av
 enc:=λx=>.agg #[.int .i64 x.Kind,.int .i64 x.N,.int .i64 x.V]
 dec:=λv=>match v with
  | .agg ⟨[.int .i64 a0,.int .i64 a1,.int .i64 a2]⟩=>some ⟨a0,a1,a2⟩
  | _=>none
 ok:=by intro v x h;split at h<;>cases h;rfl
structure aD where
 ee:Int
 bz:Sl
 aE:Sl
def aD.v (x:aD):Value:=.agg #[.int .i64 x.ee,.slice x.bz.base x.bz.len x.bz.cap,.slice x.aE.base x.aE.len x.aE.cap]
@[reducible] def kW : Shape where
 T:=aD
 enc:=λx=>.agg #[.int .i64 x.ee,.slice x.bz.base x.bz.len x.bz.cap,.slice x.aE.base x.aE.len x.aE.cap]
 dec:=λv=>match v with
  | .agg ⟨[.int .i64 a0,.slice a1 a c,.slice a2 b d]⟩=>some ⟨a0,⟨a1,a,c⟩,⟨a2,b,d⟩⟩
  | _=>none
 ok:=by intro v x h;split at h<;>cases h;rfl
structure fH where
 fm:Sl
 fY:Sl
 nF:Int
 nG:Int
 mg:Int
 qO:Int
 fX:Sl
 Steps:Sl
def fH.v (x:fH):Value:=.agg #[.slice x.fm.base x.fm.len x.fm.cap,.slice x.fY.base x.fY.len x.fY.cap,.int .i64 x.nF,.int .i64 x.nG,.int .i64 x.mg,.int .i64 x.qO,.slice x.fX.base x.fX.len x.fX.cap,.slice x.Steps.base x.Steps.len x.Steps.cap]
@[reducible] def Ql : Shape where
 T:=fH
 enc:=λx=>.agg #[.slice x.fm.base x.fm.len x.fm.cap,.slice x.fY.base x.fY.len x.fY.cap,.int .i64 x.nF,.int .i64 x.nG,.int .i64 x.mg,.int .i64 x.qO,.slice x.fX.base x.fX.len x.fX.cap,.slice x.Steps.base x.Steps.len x.Steps.cap]
 dec:=λv=>match v with
  | .agg ⟨[.slice a0 a e,.slice a1 b f,.int .i64 a2,.int .i64 a3,.int .i64 a4,.int .i64 a5,.slice a6 c g,.slice a7 d i]⟩=>some ⟨⟨a0,a,e⟩,⟨a1,b,f⟩,a2,a3,a4,a5,⟨a6,c,g⟩,⟨a7,d,i⟩⟩
  | _=>none
 ok:=by intro v x h;split at h<;>cases h;rfl
structure aS where
 Part:Int
 Code:Sl
def aS.v (x:aS):Value:=.agg #[.int .i64 x.Part,.slice x.Code.base x.Code.len x.Code.cap]
@[reducible] def bq : Shape where
 T:=aS
 enc:=λx=>.agg #[.int .i64 x.Part,.slice x.Code.base x.Code.len x.Code.cap]
 dec:=λv=>match v with
  | .agg ⟨[.int .i64 a0,.slice a1 a b]⟩=>some ⟨a0,⟨a1,a,b⟩⟩
  | _=>none
 ok:=by intro v x h;split at h<;>cases h;rfl
structure nM where
 a0:Int
 a1:Int
def nM.v (x:nM):Value:=.agg #[.int .i64 x.a0,.int .i64 x.a1]
@[reducible] def Ze : Shape where
 T:=nM
 enc:=λx=>.agg #[.int .i64 x.a0,.int .i64 x.a1]
 dec:=λv=>match v with
  | .agg ⟨[.int .i64 a0,.int .i64 a1]⟩=>some ⟨a0,a1⟩
  | _=>none
 ok:=by intro v x h;split at h<;>cases h;rfl
structure iK where
 a0:Int
 a1:Int
 a2:Int
 a3:Int
 a4:Int
 a5:Int
 a6:Int
 a7:Int
def iK.v (x:iK):Value:=.agg #[.int .i64 x.a0,.int .i64 x.a1,.int .i64 x.a2,.int .i64 x.a3,.int .i64 x.a4,.int .i64 x.a5,.int .i64 x.a6,.int .i64 x.a7]
@[reducible] def xf : Shape where
 T:=iK
 enc:=λx=>.agg #[.int .i64 x.a0,.int .i64 x.a1,.int .i64 x.a2,.int .i64 x.a3,.int .i64 x.a4,.int .i64 x.a5,.int .i64 x.a6,.int .i64 x.a7]
 dec:=λv=>match v with
  | .agg ⟨[.int .i64 a0,.int .i64 a1,.int .i64 a2,.int .i64 a3,.int .i64 a4,.int .i64 a5,.int .i64 a6,.int .i64 a7]⟩=>some ⟨a0,a1,a2,a3,a4,a5,a6,a7⟩
  | _=>none
 ok:=by intro v x h;split at h<;>cases h;rfl
structure aL where
 State:Int
 PC:Int
 bW:Int
 bX:Int
 bY:Int
 bZ:Int
 cc:Int
 cd:Int
 cf:Int
 cg:Int
 Cursor:Int
 Timer:Int
 gi:Bool
 jI:Int
 eO:Sl
def aL.v (x:aL):Value:=.agg #[.int .i64 x.State,.int .i64 x.PC,.int .i64 x.bW,.int .i64 x.bX,.int .i64 x.bY,.int .i64 x.bZ,.int .i64 x.cc,.int .i64 x.cd,.int .i64 x.cf,.int .i64 x.cg,.int .i64 x.Cursor,.int .i64 x.Timer,.bool x.gi,.int .i64 x.jI,.slice x.eO.base x.eO.len x.eO.cap]
@[reducible] def aF : Shape where
 T:=aL
 enc:=λx=>.agg #[.int .i64 x.State,.int .i64 x.PC,.int .i64 x.bW,.int .i64 x.bX,.int .i64 x.bY,.int .i64 x.bZ,.int .i64 x.cc,.int .i64 x.cd,.int .i64 x.cf,.int .i64 x.cg,.int .i64 x.Cursor,.int .i64 x.Timer,.bool x.gi,.int .i64 x.jI,.slice x.eO.base x.eO.len x.eO.cap]
 dec:=λv=>match v with
  | .agg ⟨[.int .i64 a0,.int .i64 a1,.int .i64 a2,.int .i64 a3,.int .i64 a4,.int .i64 a5,.int .i64 a6,.int .i64 a7,.int .i64 f,.int .i64 g,.int .i64 a,.int .i64 b,.bool c,.int .i64 d,.slice e i j]⟩=>some ⟨a0,a1,a2,a3,a4,a5,a6,a7,f,g,a,b,c,d,⟨e,i,j⟩⟩
  | _=>none
 ok:=by intro v x h;split at h<;>cases h;rfl
structure bc where
 Op:Int
 A:Int
 B:Int
 C:Int
 iV:Int
def bc.v (x:bc):Value:=.agg #[.int .i64 x.Op,.int .i64 x.A,.int .i64 x.B,.int .i64 x.C,.int .i64 x.iV]
@[reducible] def bn : Shape where
 T:=bc
 enc:=λx=>.agg #[.int .i64 x.Op,.int .i64 x.A,.int .i64 x.B,.int .i64 x.C,.int .i64 x.iV]
 dec:=λv=>match v with
  | .agg ⟨[.int .i64 a0,.int .i64 a1,.int .i64 a2,.int .i64 a3,.int .i64 a4]⟩=>some ⟨a0,a1,a2,a3,a4⟩
  | _=>none
 ok:=by intro v x h;split at h<;>cases h;rfl
structure dY where
 m:Option Addr
 l:Sl
 at_:Int
 left:Int
 aG:Int
 owner:Int
def dY.v (x:dY):Value:=.agg #[.pointer x.m,.slice x.l.base x.l.len x.l.cap,.int .i64 x.at_,.int .i64 x.left,.int .i64 x.aG,.int .i64 x.owner]
@[reducible] def dH : Shape where
 T:=dY
 enc:=λx=>.agg #[.pointer x.m,.slice x.l.base x.l.len x.l.cap,.int .i64 x.at_,.int .i64 x.left,.int .i64 x.aG,.int .i64 x.owner]
 dec:=λv=>match v with
  | .agg ⟨[.pointer a0,.slice a1 a b,.int .i64 a2,.int .i64 a3,.int .i64 a4,.int .i64 a5]⟩=>some ⟨a0,⟨a1,a,b⟩,a2,a3,a4,a5⟩
  | _=>none
 ok:=by intro v x h;split at h<;>cases h;rfl
structure bf where
 Cursor:Int
 Log:Sl
 jG:Int
 cU:Int
 dq:Sl
 di:Sl
def bf.v (x:bf):Value:=.agg #[.int .i64 x.Cursor,.slice x.Log.base x.Log.len x.Log.cap,.int .i64 x.jG,.int .i64 x.cU,.slice x.dq.base x.dq.len x.dq.cap,.slice x.di.base x.di.len x.di.cap]
@[reducible] def aP : Shape where
 T:=bf
 enc:=λx=>.agg #[.int .i64 x.Cursor,.slice x.Log.base x.Log.len x.Log.cap,.int .i64 x.jG,.int .i64 x.cU,.slice x.dq.base x.dq.len x.dq.cap,.slice x.di.base x.di.len x.di.cap]
 dec:=λv=>match v with
  | .agg ⟨[.int .i64 a0,.slice a1 a d,.int .i64 a2,.int .i64 a3,.slice a4 b e,.slice a5 c f]⟩=>some ⟨a0,⟨a1,a,d⟩,a2,a3,⟨a4,b,e⟩,⟨a5,c,f⟩⟩
  | _=>none
 ok:=by intro v x h;split at h<;>cases h;rfl
structure bd where
 db:Sl
 dA:Sl
 ir:Int
 jB:Int
 hH:Int
 ki:Int
 dm:Sl
 table:Option Addr
 rD:Option Addr
 tick:Int
 parts:Sl
 procs:Sl
def bd.v (x:bd):Value:=.agg #[.slice x.db.base x.db.len x.db.cap,.slice x.dA.base x.dA.len x.dA.cap,.int .i64 x.ir,.int .i64 x.jB,.int .i64 x.hH,.int .i64 x.ki,.slice x.dm.base x.dm.len x.dm.cap,.pointer x.table,.pointer x.rD,.int .i64 x.tick,.slice x.parts.base x.parts.len x.parts.cap,.slice x.procs.base x.procs.len x.procs.cap]
@[reducible] def Jp : Shape where
 T:=bd
 enc:=λx=>.agg #[.slice x.db.base x.db.len x.db.cap,.slice x.dA.base x.dA.len x.dA.cap,.int .i64 x.ir,.int .i64 x.jB,.int .i64 x.hH,.int .i64 x.ki,.slice x.dm.base x.dm.len x.dm.cap,.pointer x.table,.pointer x.rD,.int .i64 x.tick,.slice x.parts.base x.parts.len x.parts.cap,.slice x.procs.base x.procs.len x.procs.cap]
 dec:=λv=>match v with
  | .agg ⟨[.slice a0 e k,.slice a1 f l,.int .i64 a2,.int .i64 a3,.int .i64 a4,.int .i64 a5,.slice a6 j o,.pointer a7,.pointer c,.int .i64 d,.slice a g m,.slice b i n]⟩=>some ⟨⟨a0,e,k⟩,⟨a1,f,l⟩,a2,a3,a4,a5,⟨a6,j,o⟩,a7,c,d,⟨a,g,m⟩,⟨b,i,n⟩⟩
  | _=>none
 ok:=by intro v x h;split at h<;>cases h;rfl
structure bC where
 procs:Sl
 af:Int
 log:Sl
 lost:Int
 forbidden:Int
 ai:Option Addr
 eD:Option Addr
def bC.v (x:bC):Value:=.agg #[.slice x.procs.base x.procs.len x.procs.cap,.int .i64 x.af,.slice x.log.base x.log.len x.log.cap,.int .i64 x.lost,.int .i64 x.forbidden,.pointer x.ai,.pointer x.eD]
@[reducible] def xd : Shape where
 T:=bC
 enc:=λx=>.agg #[.slice x.procs.base x.procs.len x.procs.cap,.int .i64 x.af,.slice x.log.base x.log.len x.log.cap,.int .i64 x.lost,.int .i64 x.forbidden,.pointer x.ai,.pointer x.eD]
 dec:=λv=>match v with
  | .agg ⟨[.slice a0 a c,.int .i64 a1,.slice a2 b d,.int .i64 a3,.int .i64 a4,.pointer a5,.pointer a6]⟩=>some ⟨⟨a0,a,c⟩,a1,⟨a2,b,d⟩,a3,a4,a5,a6⟩
  | _=>none
 ok:=by intro v x h;split at h<;>cases h;rfl
structure dv where
 ee:Int
 dB:Int
 dV:Int
def dv.v (x:dv):Value:=.agg #[.int .i64 x.ee,.int .i64 x.dB,.int .i64 x.dV]
@[reducible] def cK : Shape where
 T:=dv
 enc:=λx=>.agg #[.int .i64 x.ee,.int .i64 x.dB,.int .i64 x.dV]
 dec:=λv=>match v with
  | .agg ⟨[.int .i64 a0,.int .i64 a1,.int .i64 a2]⟩=>some ⟨a0,a1,a2⟩
  | _=>none
 ok:=by intro v x h;split at h<;>cases h;rfl
structure bm where
 PC:Int
 bW:Int
 bX:Int
 bY:Int
 bZ:Int
 cc:Int
 cd:Int
 cf:Int
 cg:Int
def bm.v (x:bm):Value:=.agg #[.int .i64 x.PC,.int .i64 x.bW,.int .i64 x.bX,.int .i64 x.bY,.int .i64 x.bZ,.int .i64 x.cc,.int .i64 x.cd,.int .i64 x.cf,.int .i64 x.cg]
@[reducible] def fE : Shape where
 T:=bm
 enc:=λx=>.agg #[.int .i64 x.PC,.int .i64 x.bW,.int .i64 x.bX,.int .i64 x.bY,.int .i64 x.bZ,.int .i64 x.cc,.int .i64 x.cd,.int .i64 x.cf,.int .i64 x.cg]
 dec:=λv=>match v with
  | .agg ⟨[.int .i64 a0,.int .i64 a1,.int .i64 a2,.int .i64 a3,.int .i64 a4,.int .i64 a5,.int .i64 a6,.int .i64 a7,.int .i64 a]⟩=>some ⟨a0,a1,a2,a3,a4,a5,a6,a7,a⟩
  | _=>none
 ok:=by intro v x h;split at h<;>cases h;rfl
structure aU where
 dP:Int
 part:Int
 code:Sl
 state:Int
 jf:Int
 fM:Int
 fN:Int
 fO:Int
 fP:Int
 fQ:Int
 fR:Int
 fS:Int
 fT:Int
 bN:Bool
 post:Option Addr
def aU.v (x:aU):Value:=.agg #[.int .i64 x.dP,.int .i64 x.part,.slice x.code.base x.code.len x.code.cap,.int .i64 x.state,.int .i64 x.jf,.int .i64 x.fM,.int .i64 x.fN,.int .i64 x.fO,.int .i64 x.fP,.int .i64 x.fQ,.int .i64 x.fR,.int .i64 x.fS,.int .i64 x.fT,.bool x.bN,.pointer x.post]
@[reducible] def bE : Shape where
 T:=aU
 enc:=λx=>.agg #[.int .i64 x.dP,.int .i64 x.part,.slice x.code.base x.code.len x.code.cap,.int .i64 x.state,.int .i64 x.jf,.int .i64 x.fM,.int .i64 x.fN,.int .i64 x.fO,.int .i64 x.fP,.int .i64 x.fQ,.int .i64 x.fR,.int .i64 x.fS,.int .i64 x.fT,.bool x.bN,.pointer x.post]
 dec:=λv=>match v with
  | .agg ⟨[.int .i64 a0,.int .i64 a1,.slice a2 i j,.int .i64 a3,.int .i64 a4,.int .i64 a5,.int .i64 a6,.int .i64 a7,.int .i64 f,.int .i64 g,.int .i64 a,.int .i64 b,.int .i64 c,.bool d,.pointer e]⟩=>some ⟨a0,a1,⟨a2,i,j⟩,a3,a4,a5,a6,a7,f,g,a,b,c,d,e⟩
  | _=>none
 ok:=by intro v x h;split at h<;>cases h;rfl
structure mO where
 a0:Bool
 a1:Bool
 a2:Bool
 a3:Bool
def mO.v (x:mO):Value:=.agg #[.bool x.a0,.bool x.a1,.bool x.a2,.bool x.a3]
@[reducible] def V9 : Shape where
 T:=mO
 enc:=λx=>.agg #[.bool x.a0,.bool x.a1,.bool x.a2,.bool x.a3]
 dec:=λv=>match v with
  | .agg ⟨[.bool a0,.bool a1,.bool a2,.bool a3]⟩=>some ⟨a0,a1,a2,a3⟩
  | _=>none
 ok:=by intro v x h;split at h<;>cases h;rfl
structure iL where
 b:Sl
def iL.v (x:iL):Value:=.agg #[.slice x.b.base x.b.len x.b.cap]
@[reducible] def ZX : Shape where
 T:=iL
 enc:=λx=>.agg #[.slice x.b.base x.b.len x.b.cap]
 dec:=λv=>match v with
  | .agg ⟨[.slice a0 a c]⟩=>some ⟨⟨a0,a,c⟩⟩
  | _=>none
 ok:=by intro v x h;split at h<;>cases h;rfl
structure jx where
 iH:Sl
def jx.v (x:jx):Value:=.agg #[.slice x.iH.base x.iH.len x.iH.cap]
@[reducible] def ack : Shape where
 T:=jx
 enc:=λx=>.agg #[.slice x.iH.base x.iH.len x.iH.cap]
 dec:=λv=>match v with
  | .agg ⟨[.slice a0 a b]⟩=>some ⟨⟨a0,a,b⟩⟩
  | _=>none
 ok:=by intro v x h;split at h<;>cases h;rfl
structure jw where
 b:Sl
 at_:Int
 e:Int
 place:Int
def jw.v (x:jw):Value:=.agg #[.slice x.b.base x.b.len x.b.cap,.int .i64 x.at_,.int .i64 x.e,.int .i64 x.place]
@[reducible] def acn : Shape where
 T:=jw
 enc:=λx=>.agg #[.slice x.b.base x.b.len x.b.cap,.int .i64 x.at_,.int .i64 x.e,.int .i64 x.place]
 dec:=λv=>match v with
  | .agg ⟨[.slice a0 a c,.int .i64 a1,.int .i64 a2,.int .i64 a3]⟩=>some ⟨⟨a0,a,c⟩,a1,a2,a3⟩
  | _=>none
 ok:=by intro v x h;split at h<;>cases h;rfl
structure jv where
 jT:Sl
 qg:Int
 rE:Int
 mF:Int
 db:Sl
 dA:Sl
 ir:Int
 jB:Int
 hH:Int
 ki:Int
 dm:Sl
def jv.v (x:jv):Value:=.agg #[.slice x.jT.base x.jT.len x.jT.cap,.int .i64 x.qg,.int .i64 x.rE,.int .i64 x.mF,.slice x.db.base x.db.len x.db.cap,.slice x.dA.base x.dA.len x.dA.cap,.int .i64 x.ir,.int .i64 x.jB,.int .i64 x.hH,.int .i64 x.ki,.slice x.dm.base x.dm.len x.dm.cap]
@[reducible] def acp : Shape where
 T:=jv
 enc:=λx=>.agg #[.slice x.jT.base x.jT.len x.jT.cap,.int .i64 x.qg,.int .i64 x.rE,.int .i64 x.mF,.slice x.db.base x.db.len x.db.cap,.slice x.dA.base x.dA.len x.dA.cap,.int .i64 x.ir,.int .i64 x.jB,.int .i64 x.hH,.int .i64 x.ki,.slice x.dm.base x.dm.len x.dm.cap]
 dec:=λv=>match v with
  | .agg ⟨[.slice a0 d i,.int .i64 a1,.int .i64 a2,.int .i64 a3,.slice a4 f k,.slice a5 g l,.int .i64 a6,.int .i64 a7,.int .i64 b,.int .i64 c,.slice a e j]⟩=>some ⟨⟨a0,d,i⟩,a1,a2,a3,⟨a4,f,k⟩,⟨a5,g,l⟩,a6,a7,b,c,⟨a,e,j⟩⟩
  | _=>none
 ok:=by intro v x h;split at h<;>cases h;rfl
structure fe where
 fm:Sl
 fY:Sl
 nF:Int
 nG:Int
 mg:Int
 qO:Int
 fX:Sl
 vc:Int
 kY:Sl
 kZ:Sl
def fe.v (x:fe):Value:=.agg #[.slice x.fm.base x.fm.len x.fm.cap,.slice x.fY.base x.fY.len x.fY.cap,.int .i64 x.nF,.int .i64 x.nG,.int .i64 x.mg,.int .i64 x.qO,.slice x.fX.base x.fX.len x.fX.cap,.int .i64 x.vc,.slice x.kY.base x.kY.len x.kY.cap,.slice x.kZ.base x.kZ.len x.kZ.cap]
@[reducible] def zwg : Shape where
 T:=fe
 enc:=λx=>.agg #[.slice x.fm.base x.fm.len x.fm.cap,.slice x.fY.base x.fY.len x.fY.cap,.int .i64 x.nF,.int .i64 x.nG,.int .i64 x.mg,.int .i64 x.qO,.slice x.fX.base x.fX.len x.fX.cap,.int .i64 x.vc,.slice x.kY.base x.kY.len x.kY.cap,.slice x.kZ.base x.kZ.len x.kZ.cap]
 dec:=λv=>match v with
  | .agg ⟨[.slice a0 c i,.slice a1 d j,.int .i64 a2,.int .i64 a3,.int .i64 a4,.int .i64 a5,.slice a6 e k,.int .i64 a7,.slice a f l,.slice b g m]⟩=>some ⟨⟨a0,c,i⟩,⟨a1,d,j⟩,a2,a3,a4,a5,⟨a6,e,k⟩,a7,⟨a,f,l⟩,⟨b,g,m⟩⟩
  | _=>none
 ok:=by intro v x h;split at h<;>cases h;rfl
structure bA where
 dy:Sl
 cq:Sl
 gJ:Int
 eH:Int
def bA.v (x:bA):Value:=.agg #[.slice x.dy.base x.dy.len x.dy.cap,.slice x.cq.base x.cq.len x.cq.cap,.int .i64 x.gJ,.int .i64 x.eH]
@[reducible] def aX : Shape where
 T:=bA
 enc:=λx=>.agg #[.slice x.dy.base x.dy.len x.dy.cap,.slice x.cq.base x.cq.len x.cq.cap,.int .i64 x.gJ,.int .i64 x.eH]
 dec:=λv=>match v with
  | .agg ⟨[.slice a0 a c,.slice a1 b d,.int .i64 a2,.int .i64 a3]⟩=>some ⟨⟨a0,a,c⟩,⟨a1,b,d⟩,a2,a3⟩
  | _=>none
 ok:=by intro v x h;split at h<;>cases h;rfl
structure gZ where
 l:Sl
def gZ.v (x:gZ):Value:=.agg #[.slice x.l.base x.l.len x.l.cap]
@[reducible] def Gm : Shape where
 T:=gZ
 enc:=λx=>.agg #[.slice x.l.base x.l.len x.l.cap]
 dec:=λv=>match v with
  | .agg ⟨[.slice a0 a b]⟩=>some ⟨⟨a0,a,b⟩⟩
  | _=>none
 ok:=by intro v x h;split at h<;>cases h;rfl
structure aT where
 owner:Int
 queue:Sl
def aT.v (x:aT):Value:=.agg #[.int .i64 x.owner,.slice x.queue.base x.queue.len x.queue.cap]
@[reducible] def fG : Shape where
 T:=aT
 enc:=λx=>.agg #[.int .i64 x.owner,.slice x.queue.base x.queue.len x.queue.cap]
 dec:=λv=>match v with
  | .agg ⟨[.int .i64 a0,.slice a1 a b]⟩=>some ⟨a0,⟨a1,a,b⟩⟩
  | _=>none
 ok:=by intro v x h;split at h<;>cases h;rfl
structure dK where
 ag:Sl
 af:Int
def dK.v (x:dK):Value:=.agg #[.slice x.ag.base x.ag.len x.ag.cap,.int .i64 x.af]
@[reducible] def Ow : Shape where
 T:=dK
 enc:=λx=>.agg #[.slice x.ag.base x.ag.len x.ag.cap,.int .i64 x.af]
 dec:=λv=>match v with
  | .agg ⟨[.slice a0 a b,.int .i64 a1]⟩=>some ⟨⟨a0,a,b⟩,a1⟩
  | _=>none
 ok:=by intro v x h;split at h<;>cases h;rfl
structure ay where
 due:Int
 dP:Int
def ay.v (x:ay):Value:=.agg #[.int .i64 x.due,.int .i64 x.dP]
@[reducible] def aZ : Shape where
 T:=ay
 enc:=λx=>.agg #[.int .i64 x.due,.int .i64 x.dP]
 dec:=λv=>match v with
  | .agg ⟨[.int .i64 a0,.int .i64 a1]⟩=>some ⟨a0,a1⟩
  | _=>none
 ok:=by intro v x h;split at h<;>cases h;rfl
structure jA where
 l:Sl
 of_:Option Nat
def jA.v (x:jA):Value:=.agg #[.slice x.l.base x.l.len x.l.cap,.map x.of_]
@[reducible] def acr : Shape where
 T:=jA
 enc:=λx=>.agg #[.slice x.l.base x.l.len x.l.cap,.map x.of_]
 dec:=λv=>match v with
  | .agg ⟨[.slice a0 a b,.map a1]⟩=>some ⟨⟨a0,a,b⟩,a1⟩
  | _=>none
 ok:=by intro v x h;split at h<;>cases h;rfl
structure ju where
 table:Sl
 parts:Int
def ju.v (x:ju):Value:=.agg #[.slice x.table.base x.table.len x.table.cap,.int .i64 x.parts]
@[reducible] def acu : Shape where
 T:=ju
 enc:=λx=>.agg #[.slice x.table.base x.table.len x.table.cap,.int .i64 x.parts]
 dec:=λv=>match v with
  | .agg ⟨[.slice a0 a b,.int .i64 a1]⟩=>some ⟨⟨a0,a,b⟩,a1⟩
  | _=>none
 ok:=by intro v x h;split at h<;>cases h;rfl
structure fC where
 Kind:Int
 To:Int
 dV:Int
def fC.v (x:fC):Value:=.agg #[.int .i64 x.Kind,.int .i64 x.To,.int .i64 x.dV]
@[reducible] def EG : Shape where
 T:=fC
 enc:=λx=>.agg #[.int .i64 x.Kind,.int .i64 x.To,.int .i64 x.dV]
 dec:=λv=>match v with
  | .agg ⟨[.int .i64 a0,.int .i64 a1,.int .i64 a2]⟩=>some ⟨a0,a1,a2⟩
  | _=>none
 ok:=by intro v x h;split at h<;>cases h;rfl
structure dO where
 db:Sl
 dA:Sl
 ir:Int
 jB:Int
 hH:Int
 ki:Int
 dm:Sl
 vQ:Int
 lg:Sl
 lj:Sl
 t:Option Addr
def dO.v (x:dO):Value:=.agg #[.slice x.db.base x.db.len x.db.cap,.slice x.dA.base x.dA.len x.dA.cap,.int .i64 x.ir,.int .i64 x.jB,.int .i64 x.hH,.int .i64 x.ki,.slice x.dm.base x.dm.len x.dm.cap,.int .i64 x.vQ,.slice x.lg.base x.lg.len x.lg.cap,.slice x.lj.base x.lj.len x.lj.cap,.pointer x.t]
@[reducible] def Yg : Shape where
 T:=dO
 enc:=λx=>.agg #[.slice x.db.base x.db.len x.db.cap,.slice x.dA.base x.dA.len x.dA.cap,.int .i64 x.ir,.int .i64 x.jB,.int .i64 x.hH,.int .i64 x.ki,.slice x.dm.base x.dm.len x.dm.cap,.int .i64 x.vQ,.slice x.lg.base x.lg.len x.lg.cap,.slice x.lj.base x.lj.len x.lj.cap,.pointer x.t]
 dec:=λv=>match v with
  | .agg ⟨[.slice a0 d j,.slice a1 e k,.int .i64 a2,.int .i64 a3,.int .i64 a4,.int .i64 a5,.slice a6 f l,.int .i64 a7,.slice b g m,.slice c i n,.pointer a]⟩=>some ⟨⟨a0,d,j⟩,⟨a1,e,k⟩,a2,a3,a4,a5,⟨a6,f,l⟩,a7,⟨b,g,m⟩,⟨c,i,n⟩,a⟩
  | _=>none
 ok:=by intro v x h;split at h<;>cases h;rfl
structure bB where
 dB:Int
 dV:Int
def bB.v (x:bB):Value:=.agg #[.int .i64 x.dB,.int .i64 x.dV]
@[reducible] def aH : Shape where
 T:=bB
 enc:=λx=>.agg #[.int .i64 x.dB,.int .i64 x.dV]
 dec:=λv=>match v with
  | .agg ⟨[.int .i64 a0,.int .i64 a1]⟩=>some ⟨a0,a1⟩
  | _=>none
 ok:=by intro v x h;split at h<;>cases h;rfl
structure fI where
 PC:Int
 bW:Int
 bX:Int
 bY:Int
 bZ:Int
 cc:Int
 cd:Int
 cf:Int
 cg:Int
def fI.v (x:fI):Value:=.agg #[.int .i64 x.PC,.int .i64 x.bW,.int .i64 x.bX,.int .i64 x.bY,.int .i64 x.bZ,.int .i64 x.cc,.int .i64 x.cd,.int .i64 x.cf,.int .i64 x.cg]
@[reducible] def Qm : Shape where
 T:=fI
 enc:=λx=>.agg #[.int .i64 x.PC,.int .i64 x.bW,.int .i64 x.bX,.int .i64 x.bY,.int .i64 x.bZ,.int .i64 x.cc,.int .i64 x.cd,.int .i64 x.cf,.int .i64 x.cg]
 dec:=λv=>match v with
  | .agg ⟨[.int .i64 a0,.int .i64 a1,.int .i64 a2,.int .i64 a3,.int .i64 a4,.int .i64 a5,.int .i64 a6,.int .i64 a7,.int .i64 a]⟩=>some ⟨a0,a1,a2,a3,a4,a5,a6,a7,a⟩
  | _=>none
 ok:=by intro v x h;split at h<;>cases h;rfl
structure jy where
 labels:Sl
 by_:Option Nat
def jy.v (x:jy):Value:=.agg #[.slice x.labels.base x.labels.len x.labels.cap,.map x.by_]
@[reducible] def acw : Shape where
 T:=jy
 enc:=λx=>.agg #[.slice x.labels.base x.labels.len x.labels.cap,.map x.by_]
 dec:=λv=>match v with
  | .agg ⟨[.slice a0 a b,.map a1]⟩=>some ⟨⟨a0,a,b⟩,a1⟩
  | _=>none
 ok:=by intro v x h;split at h<;>cases h;rfl
structure cY where
 Cl:Int
 dB:Int
def cY.v (x:cY):Value:=.agg #[.int .i64 x.Cl,.int .i64 x.dB]
@[reducible] def Ol : Shape where
 T:=cY
 enc:=λx=>.agg #[.int .i64 x.Cl,.int .i64 x.dB]
 dec:=λv=>match v with
  | .agg ⟨[.int .i64 a0,.int .i64 a1]⟩=>some ⟨a0,a1⟩
  | _=>none
 ok:=by intro v x h;split at h<;>cases h;rfl
structure dX where
 room:Int
 values:Sl
 waiters:Sl
 taken:Int
 dropped:Int
def dX.v (x:dX):Value:=.agg #[.int .i64 x.room,.slice x.values.base x.values.len x.values.cap,.slice x.waiters.base x.waiters.len x.waiters.cap,.int .i64 x.taken,.int .i64 x.dropped]
@[reducible] def Ep : Shape where
 T:=dX
 enc:=λx=>.agg #[.int .i64 x.room,.slice x.values.base x.values.len x.values.cap,.slice x.waiters.base x.waiters.len x.waiters.cap,.int .i64 x.taken,.int .i64 x.dropped]
 dec:=λv=>match v with
  | .agg ⟨[.int .i64 a0,.slice a1 a c,.slice a2 b d,.int .i64 a3,.int .i64 a4]⟩=>some ⟨a0,⟨a1,a,c⟩,⟨a2,b,d⟩,a3,a4⟩
  | _=>none
 ok:=by intro v x h;split at h<;>cases h;rfl
structure jz where
 place:Int
 held:Int
def jz.v (x:jz):Value:=.agg #[.int .i64 x.place,.int .u64 x.held]
@[reducible] def acy : Shape where
 T:=jz
 enc:=λx=>.agg #[.int .i64 x.place,.int .u64 x.held]
 dec:=λv=>match v with
  | .agg ⟨[.int .i64 a0,.int .u64 a1]⟩=>some ⟨a0,a1⟩
  | _=>none
 ok:=by intro v x h;split at h<;>cases h;rfl
structure j4 where
 l:Sl
 BZ:Option Nat
def j4.v (x:j4):Value:=.agg #[.slice x.l.base x.l.len x.l.cap,.map x.BZ]
@[reducible] def aeb : Shape where
 T:=j4
 enc:=λx=>.agg #[.slice x.l.base x.l.len x.l.cap,.map x.BZ]
 dec:=λv=>match v with
  | .agg ⟨[.slice a0 a b,.map a1]⟩=>some ⟨⟨a0,a,b⟩,a1⟩
  | _=>none
 ok:=by intro v x h;split at h<;>cases h;rfl
structure jr where
 b:Sl
 at_:Int
 e:Int
 place:Int
def jr.v (x:jr):Value:=.agg #[.slice x.b.base x.b.len x.b.cap,.int .i64 x.at_,.int .i64 x.e,.int .i64 x.place]
@[reducible] def acA : Shape where
 T:=jr
 enc:=λx=>.agg #[.slice x.b.base x.b.len x.b.cap,.int .i64 x.at_,.int .i64 x.e,.int .i64 x.place]
 dec:=λv=>match v with
  | .agg ⟨[.slice a0 a c,.int .i64 a1,.int .i64 a2,.int .i64 a3]⟩=>some ⟨⟨a0,a,c⟩,a1,a2,a3⟩
  | _=>none
 ok:=by intro v x h;split at h<;>cases h;rfl
structure fo where
 has:Bool
 n:Int
def fo.v (x:fo):Value:=.agg #[.bool x.has,.int .i64 x.n]
@[reducible] def zxx : Shape where
 T:=fo
 enc:=λx=>.agg #[.bool x.has,.int .i64 x.n]
 dec:=λv=>match v with
  | .agg ⟨[.bool a0,.int .i64 a1]⟩=>some ⟨a0,a1⟩
  | _=>none
 ok:=by intro v x h;split at h<;>cases h;rfl
def dh (n:String) (t o b:Nat):Field:={name:=n,type:=t,offset:=o,embedded:=false,tag:= "",pkgPath:= "",byteOffset:=b}
def ty0 :Ty:={aM:=(.tuple #[]),size:=1,bytes:=0,zero:=(.tuple #[]),sh:=uf}
def qF :Ty:={aM:=(.int .i64),size:=1,bytes:=8,zero:=(.int .i64 0),sh:=ab .i64}
def sO :Ty:={aM:=(.int .i64),size:=1,bytes:=8,zero:=(.int .i64 0),sh:=ab .i64}
def ty4 :Ty:={aM:=.bool,size:=1,bytes:=1,zero:=(.bool false),sh:=aR}
def ty5 :Ty:={aM:=(.int .u8),size:=1,bytes:=1,zero:=(.int .u8 0),sh:=ab .u8}
def ty9 :Ty:={aM:=.string,size:=1,bytes:=16,zero:=(.string ByteArray.empty),sh:=qf}
def Hw :Ty:={aM:=(.interface #[]),size:=1,bytes:=16,zero:=.nilIface,sh:=aeg}
def vY :Ty:={aM:=(.slice 28),size:=1,bytes:=24,zero:=(.slice none 0 0),sh:=an}
def pG :Ty:={aM:=(.slice 3),size:=1,bytes:=24,zero:=(.slice none 0 0),sh:=an}
def xI :Ty:={aM:=(.slice 77),size:=1,bytes:=24,zero:=(.slice none 0 0),sh:=an}
def CR :Ty:={aM:=(.struct #[dh "Labels" 22 0 0,dh "Table" 23 1 24,dh "Fuel" 3 2 48,dh "Lane" 3 3 56,dh "Locks" 3 4 64,dh "Log" 3 5 72,dh "Procs" 24 6 80]),size:=7,bytes:=104,zero:=(.agg #[(.slice none 0 0),(.slice none 0 0),(.int .i64 0),(.int .i64 0),(.int .i64 0),(.int .i64 0),(.slice none 0 0)]),sh:=aN}
def CS :Ty:={aM:=(.slice 43),size:=1,bytes:=24,zero:=(.slice none 0 0),sh:=an}
def CT :Ty:={aM:=(.int .u64),size:=1,bytes:=8,zero:=(.int .u64 0),sh:=ab .u64}
def CU :Ty:={aM:=(.struct #[dh "A" 26 0 0,dh "B" 26 7 104,dh "S" 27 14 208,dh "T" 27 15 232,dh "Label" 28 16 256]),size:=17,bytes:=264,zero:=(.agg #[(.slice none 0 0),(.slice none 0 0),(.int .i64 0),(.int .i64 0),(.int .i64 0),(.int .i64 0),(.slice none 0 0),(.slice none 0 0),(.slice none 0 0),(.int .i64 0),(.int .i64 0),(.int .i64 0),(.int .i64 0),(.slice none 0 0),(.slice none 0 0),(.slice none 0 0),(.int .u64 0)]),sh:=dj}
def Hx :Ty:={aM:=(.struct #[dh "A" 26 0 0,dh "B" 26 7 104,dh "S" 27 14 208,dh "T" 27 15 232,dh "Label" 28 16 256]),size:=17,bytes:=264,zero:=(.agg #[(.slice none 0 0),(.slice none 0 0),(.int .i64 0),(.int .i64 0),(.int .i64 0),(.int .i64 0),(.slice none 0 0),(.slice none 0 0),(.slice none 0 0),(.int .i64 0),(.int .i64 0),(.int .i64 0),(.int .i64 0),(.slice none 0 0),(.slice none 0 0),(.slice none 0 0),(.int .u64 0)]),sh:=DO}
def Hy :Ty:={aM:=(.tuple #[4,2]),size:=1,bytes:=0,zero:=(.tuple #[(.bool false),(.int .i64 0)]),sh:=nj aR (ab .i64)}
def Hz :Ty:={aM:=(.pointer 111),size:=1,bytes:=8,zero:=(.pointer none),sh:=aj}
def HA :Ty:={aM:=(.int .i64),size:=1,bytes:=8,zero:=(.int .i64 0),sh:=ab .i64}
def HB :Ty:={aM:=(.tuple #[38,39]),size:=1,bytes:=0,zero:=(.tuple #[(.pointer none),(.int .i64 0)]),sh:=nj aj (ab .i64)}
def xJ :Ty:={aM:=(.struct #[dh "Kind" 3 0 0,dh "N" 3 1 8,dh "V" 2 2 16]),size:=3,bytes:=24,zero:=(.agg #[(.int .i64 0),(.int .i64 0),(.int .i64 0)]),sh:=bI}
def HC :Ty:={aM:=(.slice 104),size:=1,bytes:=24,zero:=(.slice none 0 0),sh:=an}
def HD :Ty:={aM:=(.slice 82),size:=1,bytes:=24,zero:=(.slice none 0 0),sh:=an}
def HE :Ty:={aM:=(.struct #[dh "Tick" 2 0 0,dh "Parts" 46 1 8,dh "Procs" 47 2 32]),size:=3,bytes:=56,zero:=(.agg #[(.int .i64 0),(.slice none 0 0),(.slice none 0 0)]),sh:=kW}
def HF :Ty:={aM:=(.tuple #[39,3]),size:=1,bytes:=0,zero:=(.tuple #[(.int .i64 0),(.int .i64 0)]),sh:=nj (ab .i64) (ab .i64)}
def HH :Ty:={aM:=(.tuple #[3,39]),size:=1,bytes:=0,zero:=(.tuple #[(.int .i64 0),(.int .i64 0)]),sh:=nj (ab .i64) (ab .i64)}
def HI :Ty:={aM:=(.slice 5),size:=1,bytes:=24,zero:=(.slice none 0 0),sh:=an}
def HJ :Ty:={aM:=(.tuple #[57,39]),size:=1,bytes:=0,zero:=(.tuple #[(.slice none 0 0),(.int .i64 0)]),sh:=nj an (ab .i64)}
def HK :Ty:={aM:=(.tuple #[26,49,39,3]),size:=1,bytes:=0,zero:=(.tuple #[(.agg #[(.slice none 0 0),(.slice none 0 0),(.int .i64 0),(.int .i64 0),(.int .i64 0),(.int .i64 0),(.slice none 0 0)]),(.agg #[(.int .i64 0),(.slice none 0 0),(.slice none 0 0)]),(.int .i64 0),(.int .i64 0)]),sh:=wb aN kW (ab .i64) (ab .i64)}
def HL :Ty:={aM:=(.struct #[dh "C" 26 0 0,dh "Steps" 27 7 104]),size:=8,bytes:=128,zero:=(.agg #[(.slice none 0 0),(.slice none 0 0),(.int .i64 0),(.int .i64 0),(.int .i64 0),(.int .i64 0),(.slice none 0 0),(.slice none 0 0)]),sh:=Ql}
def HM :Ty:={aM:=(.slice 78),size:=1,bytes:=24,zero:=(.slice none 0 0),sh:=an}
def HN :Ty:={aM:=(.func #[49] #[4] false),size:=1,bytes:=8,zero:=.nilFunc,sh:=fu}
def xK :Ty:={aM:=(.slice 87),size:=1,bytes:=24,zero:=(.slice none 0 0),sh:=an}
def CV :Ty:={aM:=(.struct #[dh "Part" 3 0 0,dh "Code" 75 1 8]),size:=2,bytes:=32,zero:=(.agg #[(.int .i64 0),(.slice none 0 0)]),sh:=bq}
def HO :Ty:={aM:=(.array 2 3),size:=2,bytes:=16,zero:=(.agg #[(.int .i64 0),(.int .i64 0)]),sh:=Ze}
def xL :Ty:={aM:=(.array 8 2),size:=8,bytes:=64,zero:=(.agg #[(.int .i64 0),(.int .i64 0),(.int .i64 0),(.int .i64 0),(.int .i64 0),(.int .i64 0),(.int .i64 0),(.int .i64 0)]),sh:=xf}
def CW :Ty:={aM:=(.slice 203),size:=1,bytes:=24,zero:=(.slice none 0 0),sh:=an}
def HQ :Ty:={aM:=(.struct #[dh "State" 3 0 0,dh "PC" 3 1 8,dh "Regs" 79 2 16,dh "Cursor" 3 10 80,dh "Timer" 2 11 88,dh "Fired" 4 12 96,dh "Wake" 2 13 104,dh "Lanes" 80 14 112]),size:=15,bytes:=136,zero:=(.agg #[(.int .i64 0),(.int .i64 0),(.int .i64 0),(.int .i64 0),(.int .i64 0),(.int .i64 0),(.int .i64 0),(.int .i64 0),(.int .i64 0),(.int .i64 0),(.int .i64 0),(.int .i64 0),(.bool false),(.int .i64 0),(.slice none 0 0)]),sh:=aF}
def xM :Ty:={aM:=(.struct #[dh "Op" 3 0 0,dh "A" 3 1 8,dh "B" 3 2 16,dh "C" 3 3 24,dh "Imm" 2 4 32]),size:=5,bytes:=40,zero:=(.agg #[(.int .i64 0),(.int .i64 0),(.int .i64 0),(.int .i64 0),(.int .i64 0)]),sh:=bn}
def HR :Ty:={aM:=(.pointer 95),size:=1,bytes:=8,zero:=(.pointer none),sh:=aj}
def HS :Ty:={aM:=(.struct #[{name:= "m",type:=38,offset:=0,embedded:=false,tag:= "",pkgPath:= "firebreak/twin",byteOffset:=0},{name:= "l",type:=27,offset:=1,embedded:=false,tag:= "",pkgPath:= "firebreak/twin",byteOffset:=8},{name:= "at",type:=3,offset:=2,embedded:=false,tag:= "",pkgPath:= "firebreak/twin",byteOffset:=32},{name:= "left",type:=3,offset:=3,embedded:=false,tag:= "",pkgPath:= "firebreak/twin",byteOffset:=40},{name:= "ticks",type:=3,offset:=4,embedded:=false,tag:= "",pkgPath:= "firebreak/twin",byteOffset:=48},{name:= "owner",type:=3,offset:=5,embedded:=false,tag:= "",pkgPath:= "firebreak/twin",byteOffset:=56}]),size:=6,bytes:=64,zero:=(.agg #[(.pointer none),(.slice none 0 0),(.int .i64 0),(.int .i64 0),(.int .i64 0),(.int .i64 0)]),sh:=dH}
def HT :Ty:={aM:=(.func #[3] #[39] false),size:=1,bytes:=8,zero:=.nilFunc,sh:=fu}
def Ae :Ty:={aM:=(.func #[104,104] #[4] false),size:=1,bytes:=8,zero:=.nilFunc,sh:=fu}
def rJ :Ty:={aM:=(.slice 121),size:=1,bytes:=24,zero:=(.slice none 0 0),sh:=an}
def vX :Ty:={aM:=(.slice 23),size:=1,bytes:=24,zero:=(.slice none 0 0),sh:=an}
def Af :Ty:={aM:=(.struct #[dh "Cursor" 3 0 0,dh "Log" 101 1 8,dh "Lost" 3 2 32,dh "Forbidden" 3 3 40,dh "Owners" 23 4 48,dh "Queues" 102 5 72]),size:=6,bytes:=96,zero:=(.agg #[(.int .i64 0),(.slice none 0 0),(.int .i64 0),(.int .i64 0),(.slice none 0 0),(.slice none 0 0)]),sh:=aP}
def Ag :Ty:={aM:=(.func #[82,82] #[4] false),size:=1,bytes:=8,zero:=.nilFunc,sh:=fu}
def Ah :Ty:={aM:=(.pointer 279),size:=1,bytes:=8,zero:=(.pointer none),sh:=aj}
def Ai :Ty:={aM:=(.pointer 223),size:=1,bytes:=8,zero:=(.pointer none),sh:=aj}
def Aj :Ty:={aM:=(.slice 112),size:=1,bytes:=24,zero:=(.slice none 0 0),sh:=an}
def Ak :Ty:={aM:=(.slice 122),size:=1,bytes:=24,zero:=(.slice none 0 0),sh:=an}
def Al :Ty:={aM:=(.struct #[{name:= "c",type:=26,offset:=0,embedded:=false,tag:= "",pkgPath:= "firebreak/machine",byteOffset:=0},{name:= "table",type:=106,offset:=7,embedded:=false,tag:= "",pkgPath:= "firebreak/machine",byteOffset:=104},{name:= "slots",type:=107,offset:=8,embedded:=false,tag:= "",pkgPath:= "firebreak/machine",byteOffset:=112},{name:= "tick",type:=2,offset:=9,embedded:=false,tag:= "",pkgPath:= "firebreak/machine",byteOffset:=120},{name:= "parts",type:=108,offset:=10,embedded:=false,tag:= "",pkgPath:= "firebreak/machine",byteOffset:=128},{name:= "procs",type:=109,offset:=11,embedded:=false,tag:= "",pkgPath:= "firebreak/machine",byteOffset:=152}]),size:=12,bytes:=176,zero:=(.agg #[(.slice none 0 0),(.slice none 0 0),(.int .i64 0),(.int .i64 0),(.int .i64 0),(.int .i64 0),(.slice none 0 0),(.pointer none),(.pointer none),(.int .i64 0),(.slice none 0 0),(.slice none 0 0)]),sh:=Jp}
def Am :Ty:={aM:=(.pointer 117),size:=1,bytes:=8,zero:=(.pointer none),sh:=aj}
def An :Ty:={aM:=(.tuple #[23,102]),size:=1,bytes:=0,zero:=(.tuple #[(.slice none 0 0),(.slice none 0 0)]),sh:=nj an an}
def Ao :Ty:={aM:=(.pointer 207),size:=1,bytes:=8,zero:=(.pointer none),sh:=aj}
def Ap :Ty:={aM:=(.pointer 221),size:=1,bytes:=8,zero:=(.pointer none),sh:=aj}
def Aq :Ty:={aM:=(.struct #[{name:= "procs",type:=23,offset:=0,embedded:=false,tag:= "",pkgPath:= "firebreak/machine",byteOffset:=0},{name:= "cursor",type:=3,offset:=1,embedded:=false,tag:= "",pkgPath:= "firebreak/machine",byteOffset:=24},{name:= "log",type:=101,offset:=2,embedded:=false,tag:= "",pkgPath:= "firebreak/machine",byteOffset:=32},{name:= "lost",type:=3,offset:=3,embedded:=false,tag:= "",pkgPath:= "firebreak/machine",byteOffset:=56},{name:= "forbidden",type:=3,offset:=4,embedded:=false,tag:= "",pkgPath:= "firebreak/machine",byteOffset:=64},{name:= "locks",type:=114,offset:=5,embedded:=false,tag:= "",pkgPath:= "firebreak/machine",byteOffset:=72},{name:= "wheel",type:=115,offset:=6,embedded:=false,tag:= "",pkgPath:= "firebreak/machine",byteOffset:=80}]),size:=7,bytes:=88,zero:=(.agg #[(.slice none 0 0),(.int .i64 0),(.slice none 0 0),(.int .i64 0),(.int .i64 0),(.pointer none),(.pointer none)]),sh:=xd}
def tN :Ty:={aM:=(.struct #[dh "Tick" 2 0 0,dh "Proc" 3 1 8,dh "Value" 2 2 16]),size:=3,bytes:=24,zero:=(.agg #[(.int .i64 0),(.int .i64 0),(.int .i64 0)]),sh:=cK}
def Ar :Ty:={aM:=(.pointer 128),size:=1,bytes:=8,zero:=(.pointer none),sh:=aj}
def As :Ty:={aM:=(.tuple #[80,3]),size:=1,bytes:=0,zero:=(.tuple #[(.slice none 0 0),(.int .i64 0)]),sh:=nj an (ab .i64)}
def At :Ty:={aM:=(.struct #[dh "PC" 3 0 0,dh "Regs" 79 1 8]),size:=9,bytes:=72,zero:=(.agg #[(.int .i64 0),(.int .i64 0),(.int .i64 0),(.int .i64 0),(.int .i64 0),(.int .i64 0),(.int .i64 0),(.int .i64 0),(.int .i64 0)]),sh:=fE}
def Au :Ty:={aM:=(.pointer 212),size:=1,bytes:=8,zero:=(.pointer none),sh:=aj}
def Av :Ty:={aM:=(.struct #[{name:= "id",type:=3,offset:=0,embedded:=false,tag:= "",pkgPath:= "firebreak/machine",byteOffset:=0},{name:= "part",type:=3,offset:=1,embedded:=false,tag:= "",pkgPath:= "firebreak/machine",byteOffset:=8},{name:= "code",type:=75,offset:=2,embedded:=false,tag:= "",pkgPath:= "firebreak/machine",byteOffset:=16},{name:= "state",type:=3,offset:=3,embedded:=false,tag:= "",pkgPath:= "firebreak/machine",byteOffset:=40},{name:= "core",type:=125,offset:=4,embedded:=false,tag:= "",pkgPath:= "firebreak/machine",byteOffset:=48},{name:= "fired",type:=4,offset:=13,embedded:=false,tag:= "",pkgPath:= "firebreak/machine",byteOffset:=120},{name:= "post",type:=126,offset:=14,embedded:=false,tag:= "",pkgPath:= "firebreak/machine",byteOffset:=128}]),size:=15,bytes:=136,zero:=(.agg #[(.int .i64 0),(.int .i64 0),(.slice none 0 0),(.int .i64 0),(.int .i64 0),(.int .i64 0),(.int .i64 0),(.int .i64 0),(.int .i64 0),(.int .i64 0),(.int .i64 0),(.int .i64 0),(.int .i64 0),(.bool false),(.pointer none)]),sh:=bE}
def Aw :Ty:={aM:=(.tuple #[2,4]),size:=1,bytes:=0,zero:=(.tuple #[(.int .i64 0),(.bool false)]),sh:=nj (ab .i64) aR}
def Ax :Ty:={aM:=(.tuple #[26,49]),size:=1,bytes:=0,zero:=(.tuple #[(.agg #[(.slice none 0 0),(.slice none 0 0),(.int .i64 0),(.int .i64 0),(.int .i64 0),(.int .i64 0),(.slice none 0 0)]),(.agg #[(.int .i64 0),(.slice none 0 0),(.slice none 0 0)])]),sh:=nj aN kW}
def Ay :Ty:={aM:=(.array 4 4),size:=4,bytes:=4,zero:=(.agg #[(.bool false),(.bool false),(.bool false),(.bool false)]),sh:=V9}
def Az :Ty:={aM:=(.pointer 148),size:=1,bytes:=8,zero:=(.pointer none),sh:=aj}
def AA :Ty:={aM:=(.struct #[{name:= "b",type:=57,offset:=0,embedded:=false,tag:= "",pkgPath:= "firebreak/snap",byteOffset:=0}]),size:=1,bytes:=24,zero:=(.agg #[(.slice none 0 0)]),sh:=ZX}
def AB :Ty:={aM:=(.struct #[{name:= "numbers",type:=146,offset:=0,embedded:=true,tag:= "",pkgPath:= "firebreak/snap",byteOffset:=0}]),size:=1,bytes:=24,zero:=(.agg #[(.slice none 0 0)]),sh:=ack}
def AD :Ty:={aM:=(.pointer 158),size:=1,bytes:=8,zero:=(.pointer none),sh:=aj}
def AE :Ty:={aM:=(.struct #[{name:= "b",type:=57,offset:=0,embedded:=false,tag:= "",pkgPath:= "firebreak/snap",byteOffset:=0},{name:= "at",type:=3,offset:=1,embedded:=false,tag:= "",pkgPath:= "firebreak/snap",byteOffset:=24},{name:= "e",type:=39,offset:=2,embedded:=false,tag:= "",pkgPath:= "firebreak/snap",byteOffset:=32},{name:= "place",type:=3,offset:=3,embedded:=false,tag:= "",pkgPath:= "firebreak/snap",byteOffset:=40}]),size:=4,bytes:=48,zero:=(.agg #[(.slice none 0 0),(.int .i64 0),(.int .i64 0),(.int .i64 0)]),sh:=acn}
def AF :Ty:={aM:=(.struct #[{name:= "source",type:=156,offset:=0,embedded:=true,tag:= "",pkgPath:= "firebreak/snap",byteOffset:=0},{name:= "c",type:=26,offset:=4,embedded:=false,tag:= "",pkgPath:= "firebreak/snap",byteOffset:=48}]),size:=11,bytes:=152,zero:=(.agg #[(.slice none 0 0),(.int .i64 0),(.int .i64 0),(.int .i64 0),(.slice none 0 0),(.slice none 0 0),(.int .i64 0),(.int .i64 0),(.int .i64 0),(.int .i64 0),(.slice none 0 0)]),sh:=acp}
def AG :Ty:={aM:=(.map 3 3),size:=1,bytes:=8,zero:=(.map none),sh:=gU}
def AH :Ty:={aM:=(.tuple #[163,39,3]),size:=1,bytes:=0,zero:=(.tuple #[(.map none),(.int .i64 0),(.int .i64 0)]),sh:=qJ gU (ab .i64) (ab .i64)}
def AI :Ty:={aM:=(.tuple #[3,4]),size:=1,bytes:=0,zero:=(.tuple #[(.int .i64 0),(.bool false)]),sh:=nj (ab .i64) aR}
def AJ :Ty:={aM:=(.func #[176] #[] false),size:=1,bytes:=8,zero:=.nilFunc,sh:=fu}
def AK :Ty:={aM:=(.func #[176] #[] false),size:=1,bytes:=8,zero:=.nilFunc,sh:=fu}
def AL :Ty:={aM:=(.pointer 175),size:=1,bytes:=8,zero:=(.pointer none),sh:=aj}
def AM :Ty:={aM:=(.struct #[dh "C" 26 0 0,dh "S" 49 7 104]),size:=10,bytes:=160,zero:=(.agg #[(.slice none 0 0),(.slice none 0 0),(.int .i64 0),(.int .i64 0),(.int .i64 0),(.int .i64 0),(.slice none 0 0),(.int .i64 0),(.slice none 0 0),(.slice none 0 0)]),sh:=zwg}
def AN :Ty:={aM:=(.func #[3] #[4] false),size:=1,bytes:=8,zero:=.nilFunc,sh:=fu}
def AO :Ty:={aM:=(.func #[23,23] #[4] false),size:=1,bytes:=8,zero:=.nilFunc,sh:=fu}
def AP :Ty:={aM:=(.func #[77,77] #[4] false),size:=1,bytes:=8,zero:=.nilFunc,sh:=fu}
def AQ :Ty:={aM:=(.tuple #[107,39,3]),size:=1,bytes:=0,zero:=(.tuple #[(.pointer none),(.int .i64 0),(.int .i64 0)]),sh:=qJ aj (ab .i64) (ab .i64)}
def AR :Ty:={aM:=(.tuple #[106,39,3]),size:=1,bytes:=0,zero:=(.tuple #[(.pointer none),(.int .i64 0),(.int .i64 0)]),sh:=qJ aj (ab .i64) (ab .i64)}
def AS :Ty:={aM:=(.tuple #[114,39]),size:=1,bytes:=0,zero:=(.tuple #[(.pointer none),(.int .i64 0)]),sh:=nj aj (ab .i64)}
def AT :Ty:={aM:=(.tuple #[126,39]),size:=1,bytes:=0,zero:=(.tuple #[(.pointer none),(.int .i64 0)]),sh:=nj aj (ab .i64)}
def AU :Ty:={aM:=(.func #[203,203] #[4] false),size:=1,bytes:=8,zero:=.nilFunc,sh:=fu}
def rK :Ty:={aM:=(.slice 2),size:=1,bytes:=24,zero:=(.slice none 0 0),sh:=an}
def qi :Ty:={aM:=(.slice 254),size:=1,bytes:=24,zero:=(.slice none 0 0),sh:=an}
def AV :Ty:={aM:=(.struct #[dh "Values" 200 0 0,dh "Waiters" 201 1 24,dh "Taken" 3 2 48,dh "Dropped" 3 3 56]),size:=4,bytes:=64,zero:=(.agg #[(.slice none 0 0),(.slice none 0 0),(.int .i64 0),(.int .i64 0)]),sh:=aX}
def AW :Ty:={aM:=(.slice 209),size:=1,bytes:=24,zero:=(.slice none 0 0),sh:=an}
def AX :Ty:={aM:=(.struct #[{name:= "l",type:=205,offset:=0,embedded:=false,tag:= "",pkgPath:= "firebreak/locks",byteOffset:=0}]),size:=1,bytes:=24,zero:=(.agg #[(.slice none 0 0)]),sh:=Gm}
def AY :Ty:={aM:=(.struct #[{name:= "owner",type:=3,offset:=0,embedded:=false,tag:= "",pkgPath:= "firebreak/locks",byteOffset:=0},{name:= "queue",type:=23,offset:=1,embedded:=false,tag:= "",pkgPath:= "firebreak/locks",byteOffset:=8}]),size:=2,bytes:=32,zero:=(.agg #[(.int .i64 0),(.slice none 0 0)]),sh:=fG}
def AZ :Ty:={aM:=(.slice 213),size:=1,bytes:=24,zero:=(.slice none 0 0),sh:=an}
def A0 :Ty:={aM:=(.struct #[{name:= "lanes",type:=210,offset:=0,embedded:=false,tag:= "",pkgPath:= "firebreak/post",byteOffset:=0},{name:= "cursor",type:=3,offset:=1,embedded:=false,tag:= "",pkgPath:= "firebreak/post",byteOffset:=24}]),size:=2,bytes:=32,zero:=(.agg #[(.slice none 0 0),(.int .i64 0)]),sh:=Ow}
def A2 :Ty:={aM:=(.pointer 298),size:=1,bytes:=8,zero:=(.pointer none),sh:=aj}
def rL :Ty:={aM:=(.struct #[{name:= "due",type:=2,offset:=0,embedded:=false,tag:= "",pkgPath:= "firebreak/wheel",byteOffset:=0},{name:= "id",type:=3,offset:=1,embedded:=false,tag:= "",pkgPath:= "firebreak/wheel",byteOffset:=8}]),size:=2,bytes:=16,zero:=(.agg #[(.int .i64 0),(.int .i64 0)]),sh:=aZ}
def A3 :Ty:={aM:=(.tuple #[216,4]),size:=1,bytes:=0,zero:=(.tuple #[(.agg #[(.int .i64 0),(.int .i64 0)]),(.bool false)]),sh:=nj aZ aR}
def tO :Ty:={aM:=(.slice 216),size:=1,bytes:=24,zero:=(.slice none 0 0),sh:=an}
def A4 :Ty:={aM:=(.map 3 216),size:=1,bytes:=8,zero:=(.map none),sh:=gU}
def A5 :Ty:={aM:=(.struct #[{name:= "l",type:=218,offset:=0,embedded:=false,tag:= "",pkgPath:= "firebreak/wheel",byteOffset:=0},{name:= "of",type:=219,offset:=1,embedded:=false,tag:= "",pkgPath:= "firebreak/wheel",byteOffset:=24}]),size:=2,bytes:=32,zero:=(.agg #[(.slice none 0 0),(.map none)]),sh:=acr}
def A6 :Ty:={aM:=(.struct #[{name:= "table",type:=23,offset:=0,embedded:=false,tag:= "",pkgPath:= "firebreak/slots",byteOffset:=0},{name:= "parts",type:=3,offset:=1,embedded:=false,tag:= "",pkgPath:= "firebreak/slots",byteOffset:=24}]),size:=2,bytes:=32,zero:=(.agg #[(.slice none 0 0),(.int .i64 0)]),sh:=acu}
def A7 :Ty:={aM:=(.struct #[dh "Kind" 3 0 0,dh "To" 2 1 8,dh "Value" 2 2 16]),size:=3,bytes:=24,zero:=(.agg #[(.int .i64 0),(.int .i64 0),(.int .i64 0)]),sh:=EG}
def A8 :Ty:={aM:=(.tuple #[125,228]),size:=1,bytes:=0,zero:=(.tuple #[(.agg #[(.int .i64 0),(.int .i64 0),(.int .i64 0),(.int .i64 0),(.int .i64 0),(.int .i64 0),(.int .i64 0),(.int .i64 0),(.int .i64 0)]),(.agg #[(.int .i64 0),(.int .i64 0),(.int .i64 0)])]),sh:=nj fE EG}
def A9 :Ty:={aM:=(.tuple #[4,39]),size:=1,bytes:=0,zero:=(.tuple #[(.bool false),(.int .i64 0)]),sh:=nj aR (ab .i64)}
def Ba :Ty:={aM:=(.struct #[{name:= "c",type:=26,offset:=0,embedded:=false,tag:= "",pkgPath:= "firebreak/machine",byteOffset:=0},{name:= "s",type:=49,offset:=7,embedded:=false,tag:= "",pkgPath:= "firebreak/machine",byteOffset:=104},{name:= "t",type:=106,offset:=10,embedded:=false,tag:= "",pkgPath:= "firebreak/machine",byteOffset:=160}]),size:=11,bytes:=168,zero:=(.agg #[(.slice none 0 0),(.slice none 0 0),(.int .i64 0),(.int .i64 0),(.int .i64 0),(.int .i64 0),(.slice none 0 0),(.int .i64 0),(.slice none 0 0),(.slice none 0 0),(.pointer none)]),sh:=Yg}
def Bb :Ty:={aM:=(.tuple #[57,39,3]),size:=1,bytes:=0,zero:=(.tuple #[(.slice none 0 0),(.int .i64 0),(.int .i64 0)]),sh:=qJ an (ab .i64) (ab .i64)}
def Bc :Ty:={aM:=(.pointer 146),size:=1,bytes:=8,zero:=(.pointer none),sh:=aj}
def Bd :Ty:={aM:=(.pointer 156),size:=1,bytes:=8,zero:=(.pointer none),sh:=aj}
def rM :Ty:={aM:=(.struct #[dh "Proc" 3 0 0,dh "Value" 2 1 8]),size:=2,bytes:=16,zero:=(.agg #[(.int .i64 0),(.int .i64 0)]),sh:=aH}
def Be :Ty:={aM:=(.map 321 3),size:=1,bytes:=8,zero:=(.map none),sh:=gU}
def Bf :Ty:={aM:=(.tuple #[255,39,3]),size:=1,bytes:=0,zero:=(.tuple #[(.map none),(.int .i64 0),(.int .i64 0)]),sh:=qJ gU (ab .i64) (ab .i64)}
def Bg :Ty:={aM:=(.func #[3,3] #[4] false),size:=1,bytes:=8,zero:=.nilFunc,sh:=fu}
def Bh :Ty:={aM:=(.tuple #[87,4]),size:=1,bytes:=0,zero:=(.tuple #[(.agg #[(.int .i64 0),(.int .i64 0),(.int .i64 0),(.int .i64 0),(.int .i64 0)]),(.bool false)]),sh:=nj bn aR}
def Bi :Ty:={aM:=(.struct #[dh "PC" 3 0 0,dh "Regs" 79 1 8]),size:=9,bytes:=72,zero:=(.agg #[(.int .i64 0),(.int .i64 0),(.int .i64 0),(.int .i64 0),(.int .i64 0),(.int .i64 0),(.int .i64 0),(.int .i64 0),(.int .i64 0)]),sh:=Qm}
def Bj :Ty:={aM:=(.func #[121,121] #[4] false),size:=1,bytes:=8,zero:=.nilFunc,sh:=fu}
def Bk :Ty:={aM:=(.map 28 3),size:=1,bytes:=8,zero:=(.map none),sh:=gU}
def Bl :Ty:={aM:=(.struct #[{name:= "labels",type:=22,offset:=0,embedded:=false,tag:= "",pkgPath:= "firebreak/table",byteOffset:=0},{name:= "by",type:=277,offset:=1,embedded:=false,tag:= "",pkgPath:= "firebreak/table",byteOffset:=24}]),size:=2,bytes:=32,zero:=(.agg #[(.slice none 0 0),(.map none)]),sh:=acw}
def Bm :Ty:={aM:=(.tuple #[213,39]),size:=1,bytes:=0,zero:=(.tuple #[(.pointer none),(.int .i64 0)]),sh:=nj aj (ab .i64)}
def Bn :Ty:={aM:=(.func #[216,216] #[3] false),size:=1,bytes:=8,zero:=.nilFunc,sh:=fu}
def Bo :Ty:={aM:=(.int .u64),size:=1,bytes:=8,zero:=(.int .u64 0),sh:=ab .u64}
def Bp :Ty:={aM:=(.tuple #[286,286]),size:=1,bytes:=0,zero:=(.tuple #[(.int .u64 0),(.int .u64 0)]),sh:=nj (ab .u64) (ab .u64)}
def Bq :Ty:={aM:=(.slice 293),size:=1,bytes:=24,zero:=(.slice none 0 0),sh:=an}
def Br :Ty:={aM:=(.struct #[dh "Lock" 3 0 0,dh "Proc" 3 1 8]),size:=2,bytes:=16,zero:=(.agg #[(.int .i64 0),(.int .i64 0)]),sh:=Ol}
def Bs :Ty:={aM:=(.struct #[{name:= "room",type:=3,offset:=0,embedded:=false,tag:= "",pkgPath:= "firebreak/lane",byteOffset:=0},{name:= "values",type:=200,offset:=1,embedded:=false,tag:= "",pkgPath:= "firebreak/lane",byteOffset:=8},{name:= "waiters",type:=201,offset:=2,embedded:=false,tag:= "",pkgPath:= "firebreak/lane",byteOffset:=32},{name:= "taken",type:=3,offset:=3,embedded:=false,tag:= "",pkgPath:= "firebreak/lane",byteOffset:=56},{name:= "dropped",type:=3,offset:=4,embedded:=false,tag:= "",pkgPath:= "firebreak/lane",byteOffset:=64}]),size:=5,bytes:=72,zero:=(.agg #[(.int .i64 0),(.slice none 0 0),(.slice none 0 0),(.int .i64 0),(.int .i64 0)]),sh:=Ep}
def Bt :Ty:={aM:=(.tuple #[228,4,4]),size:=1,bytes:=0,zero:=(.tuple #[(.agg #[(.int .i64 0),(.int .i64 0),(.int .i64 0)]),(.bool false),(.bool false)]),sh:=qJ EG aR aR}
def Bu :Ty:={aM:=(.tuple #[2,39]),size:=1,bytes:=0,zero:=(.tuple #[(.int .i64 0),(.int .i64 0)]),sh:=nj (ab .i64) (ab .i64)}
def Bv :Ty:={aM:=(.tuple #[2,3,254,4,39]),size:=1,bytes:=0,zero:=(.tuple #[(.int .i64 0),(.int .i64 0),(.agg #[(.int .i64 0),(.int .i64 0)]),(.bool false),(.int .i64 0)]),sh:=yg (ab .i64) (ab .i64) aH aR (ab .i64)}
def Bw :Ty:={aM:=(.pointer 209),size:=1,bytes:=8,zero:=(.pointer none),sh:=aj}
def Bx :Ty:={aM:=(.tuple #[26,39,3]),size:=1,bytes:=0,zero:=(.tuple #[(.agg #[(.slice none 0 0),(.slice none 0 0),(.int .i64 0),(.int .i64 0),(.int .i64 0),(.int .i64 0),(.slice none 0 0)]),(.int .i64 0),(.int .i64 0)]),sh:=qJ aN (ab .i64) (ab .i64)}
def Bz :Ty:={aM:=(.struct #[{name:= "place",type:=3,offset:=0,embedded:=false,tag:= "",pkgPath:= "firebreak/valid",byteOffset:=0},{name:= "held",type:=286,offset:=1,embedded:=false,tag:= "",pkgPath:= "firebreak/valid",byteOffset:=8}]),size:=2,bytes:=16,zero:=(.agg #[(.int .i64 0),(.int .u64 0)]),sh:=acy}
def BA :Ty:={aM:=(.slice 321),size:=1,bytes:=24,zero:=(.slice none 0 0),sh:=an}
def BB :Ty:={aM:=(.struct #[{name:= "l",type:=75,offset:=0,embedded:=false,tag:= "",pkgPath:= "firebreak/valid",byteOffset:=0},{name:= "units",type:=255,offset:=1,embedded:=false,tag:= "",pkgPath:= "firebreak/valid",byteOffset:=24}]),size:=2,bytes:=32,zero:=(.agg #[(.slice none 0 0),(.map none)]),sh:=aeb}
def BC :Ty:={aM:=(.func #[2,2] #[4] false),size:=1,bytes:=8,zero:=.nilFunc,sh:=fu}
def BD :Ty:={aM:=(.func #[254,254] #[4] false),size:=1,bytes:=8,zero:=.nilFunc,sh:=fu}
def BE :Ty:={aM:=(.int .u32),size:=1,bytes:=4,zero:=(.int .u32 0),sh:=ab .u32}
def BF :Ty:={aM:=(.tuple #[341,341]),size:=1,bytes:=0,zero:=(.tuple #[(.int .u32 0),(.int .u32 0)]),sh:=nj (ab .u32) (ab .u32)}
def BG :Ty:={aM:=(.tuple #[28,28]),size:=1,bytes:=0,zero:=(.tuple #[(.int .u64 0),(.int .u64 0)]),sh:=nj (ab .u64) (ab .u64)}
def BH :Ty:={aM:=(.pointer 125),size:=1,bytes:=8,zero:=(.pointer none),sh:=aj}
def tP :Ty:={aM:=(.float .f64),size:=1,bytes:=8,zero:=(.float .f64 0),sh:=jR .f64}
def BI :Ty:={aM:=(.tuple #[2,254,4,39]),size:=1,bytes:=0,zero:=(.tuple #[(.int .i64 0),(.agg #[(.int .i64 0),(.int .i64 0)]),(.bool false),(.int .i64 0)]),sh:=wb (ab .i64) aH aR (ab .i64)}
def BJ :Ty:={aM:=(.tuple #[4,4,4,4]),size:=1,bytes:=0,zero:=(.tuple #[(.bool false),(.bool false),(.bool false),(.bool false)]),sh:=wb aR aR aR aR}
def BK :Ty:={aM:=(.pointer 363),size:=1,bytes:=8,zero:=(.pointer none),sh:=aj}
def BL :Ty:={aM:=(.struct #[{name:= "b",type:=57,offset:=0,embedded:=false,tag:= "",pkgPath:= "firebreak/conf",byteOffset:=0},{name:= "at",type:=3,offset:=1,embedded:=false,tag:= "",pkgPath:= "firebreak/conf",byteOffset:=24},{name:= "e",type:=39,offset:=2,embedded:=false,tag:= "",pkgPath:= "firebreak/conf",byteOffset:=32},{name:= "place",type:=3,offset:=3,embedded:=false,tag:= "",pkgPath:= "firebreak/conf",byteOffset:=40}]),size:=4,bytes:=48,zero:=(.agg #[(.slice none 0 0),(.int .i64 0),(.int .i64 0),(.int .i64 0)]),sh:=acA}
def BM :Ty:={aM:=(.pointer 26),size:=1,bytes:=8,zero:=(.pointer none),sh:=aj}
def BN :Ty:={aM:=(.int .i64),size:=1,bytes:=8,zero:=(.int .i64 0),sh:=ab .i64}
def BO :Ty:={aM:=(.tuple #[3,367]),size:=1,bytes:=0,zero:=(.tuple #[(.int .i64 0),(.int .i64 0)]),sh:=nj (ab .i64) (ab .i64)}
def BP :Ty:={aM:=(.func #[28] #[39] false),size:=1,bytes:=8,zero:=.nilFunc,sh:=fu}
def BQ :Ty:={aM:=(.int .u64),size:=1,bytes:=8,zero:=(.int .u64 0),sh:=ab .u64}
def BR :Ty:={aM:=(.pointer 3),size:=1,bytes:=8,zero:=(.pointer none),sh:=aj}
def BS :Ty:={aM:=(.func #[9] #[4] false),size:=1,bytes:=8,zero:=.nilFunc,sh:=fu}
def BT :Ty:={aM:=(.func #[254] #[4] false),size:=1,bytes:=8,zero:=.nilFunc,sh:=fu}
def BU :Ty:={aM:=(.pointer 386),size:=1,bytes:=8,zero:=(.pointer none),sh:=aj}
def BV :Ty:={aM:=(.tuple #[3,3]),size:=1,bytes:=0,zero:=(.tuple #[(.int .i64 0),(.int .i64 0)]),sh:=nj (ab .i64) (ab .i64)}
def BW :Ty:={aM:=(.array 34 9),size:=34,bytes:=544,zero:=(.agg (List.toArray (List.replicate 34 (.string ByteArray.empty)))),sh:=adb 34}
def BX :Ty:={aM:=(.struct #[{name:= "has",type:=4,offset:=0,embedded:=false,tag:= "",pkgPath:= "firebreak/conf",byteOffset:=0},{name:= "n",type:=3,offset:=1,embedded:=false,tag:= "",pkgPath:= "firebreak/conf",byteOffset:=8}]),size:=2,bytes:=16,zero:=(.agg #[(.bool false),(.int .i64 0)]),sh:=zxx}
def BY :Ty:={aM:=(.slice 404),size:=1,bytes:=24,zero:=(.slice none 0 0),sh:=an}
def qG :List (List (Option Ty)):=[[some ty0,none,some qF,some sO,some ty4,some ty5,none,none,none,some ty9,none,none,none,none,none,none],
 [none,none,none,none,some Hw,none,some vY,some pG,some xI,none,some CR,some CS,some CT,none,some CU,none],
 [none,none,some Hx,none,some Hy,none,some Hz,some HA,some HB,none,none,some xJ,none,none,some HC,some HD],
 [none,some HE,none,none,none,some HF,none,some HH,none,some HI,some HJ,none,none,some HK,none,none],
 [none,none,some HL,none,none,some HM,none,none,some HN,none,none,some xK,none,some CV,some HO,some xL],
 [some CW,none,some HQ,none,none,none,none,some xM,none,none,none,none,none,some HR,none,some HS],
 [none,none,none,some HT,some Ae,some rJ,some vX,none,some Af,some Ag,some Ah,some Ai,some Aj,some Ak,none,some Al],
 [some Am,some An,some Ao,some Ap,none,some Aq,none,none,none,some tN,some Ar,some As,none,some At,some Au,none],
 [some Av,none,some Aw,none,none,none,none,none,some Ax,none,none,none,none,some Ay,none,none],
 [some Az,none,some AA,none,some AB,none,none,none,none,none,some AD,none,some AE,none,some AF,none],
 [none,none,none,some AG,some AH,none,some AI,none,some AJ,some AK,none,none,none,some AL,none,some AM],
 [some AN,none,some AO,none,some AP,none,none,none,none,none,none,some AQ,none,some AR,none,some AS],
 [none,none,some AT,none,none,none,none,some AU,some rK,some qi,none,some AV,none,some AW,none,some AX],
 [none,some AY,some AZ,none,some A0,some A2,none,none,some rL,some A3,some tO,some A4,none,some A5,none,some A6],
 [none,none,none,none,some A7,some A8,none,none,none,some A9,none,none,none,none,none,none],
 [some Ba,none,some Bb,none,some Bc,none,none,none,none,none,none,none,some Bd,none,some rM,some Be],
 [some Bf,none,none,none,none,none,some Bg,some Bh,none,some Bi,none,none,none,none,none,none],
 [none,some Bj,none,none,none,some Bk,none,some Bl,none,some Bm,none,none,some Bn,none,some Bo,some Bp],
 [none,none,some Bq,none,none,some Br,none,none,none,none,some Bs,none,some Bt,none,none,some Bu],
 [none,none,some Bv,none,none,none,some Bw,none,none,none,none,some Bx,none,none,none,none],
 [none,some Bz,some BA,none,none,none,some BB,none,none,none,none,none,some BC,none,some BD,none],
 [none,none,none,none,none,some BE,some BF,none,some BG,none,none,none,some BH,none,none,some tP],
 [none,none,none,none,some BI,none,some BJ,none,none,some BK,none,some BL,none,some BM,none,some BN],
 [some BO,none,none,none,none,none,none,none,none,none,none,none,none,none,some BP,none],
 [none,none,some BQ,none,none,none,some BR,none,none,none,some BS,none,none,some BT,none,some BU],
 [some BV,none,some BW,none,some BX,some BY]]
def CX (t:Nat):Option Ty:=match nth qG (t / 16) with
 | some r=>match nth r (t%16) with
  | some e=>e
  | none=>none
 | none=>none
def qv :List (List Bool):=[[false,false,true,true,true,true,true,true,true,true,true,true,true,true,true,true],
 [true,true,true,true,true,true,true,true,true,true,true,true,true,true,true,true],
 [true,true,true,true,true,true,true,true,true,true,true,true,true,true,true,true],
 [true,true,true,true,true,true,true,true,true,true,true,true,true,true,true,true],
 [true,true,true,true,true,true,true,true,true,true,true,true,true,true,true,true],
 [true,true,true,true,true,true,true,true,true,true,true,true,true,true,true,true],
 [true,true,true,true,true,true,true,true,true,true,true,true,true,true,true,true],
 [true,true,true,true,true,true,true,true,true,true,true,true,true,true,true,true],
 [true,true,true,true,true,true,true,true,true,true,true,true,true,true,true,true],
 [true,true,true,true,true,true,true,true,true,true,true,true,true,true,true,true],
 [true,true,true,true,true,true,true,true,true,true,true,true,true,true,true,true],
 [true,true,true,true,true,true,true,true,true,true,true,true,true,true,true,true],
 [true,true,true,true,true,true,true,true,true,true,true,true,true,true,true,true],
 [true,true,true,true,true,true,true,true,true,true,true,true,true,true,true,true],
 [true,true,true,true,true,true,true,true,true,true,true,true,true,true,true,true],
 [true,true,true,true,true,true,true,true,true,true,true,true,true,true,true,false],
 [true,true,true,true,true,true,true,true,true,true,true,true,true,true,true,true],
 [true,true,true,true,true,true,true,true,true,true,true,true,true,true,true,true],
 [true,true,true,true,true,true,true,true,true,true,true,true,true,true,true,true],
 [true,true,true,true,false,false,true,true,true,true,true,true,true,true,true,true],
 [true,true,true,true,true,true,true,true,true,true,true,true,true,true,true,true],
 [true,true,true,true,true,false,true,true,false,true]]
def Cu (g:Nat):Bool:=match nth qv (g / 16) with
 | some r=>match nth r (g%16) with
  | some e=>e
  | none=>false
 | none=>false
def vu (g:Nat):Option (Array Value->Sem Value):=cond (Nat.beq g 255) (some (Extern.SlicesOverlaps.overlaps #[218,218] #[4])) (cond (Nat.beq g 308) (some Extern.MathFloatBits.float64frombits) (cond (Nat.beq g 309) (some Extern.MathFloatBits.float64bits) (cond (Nat.beq g 344) (some Extern.BytealgIndexByte.indexByte) (none))))
def tb :Tb:={ty:=CX,call:=Cu,ext:=vu}
abbrev zvb :Nat:=3
abbrev zpv :Nat:=7
abbrev zsh :Nat:=8
abbrev xY :Nat:=9
abbrev Uh :Nat:=10
abbrev LG :Nat:=11
abbrev Gn :Nat:=12
abbrev IH :Nat:=13
abbrev Vb :Nat:=14
abbrev Jl :Nat:=15
abbrev wa :Nat:=16
abbrev NS :Nat:=17
abbrev NW :Nat:=19
abbrev Ox :Nat:=36
abbrev zmi :Nat:=37
abbrev zmj :Nat:=38
abbrev I1 :Nat:=39
abbrev Uj :Nat:=40
abbrev Dl :Nat:=41
abbrev ID :Nat:=42
abbrev Gv :Nat:=43
abbrev IF :Nat:=44
abbrev K8 :Nat:=45
abbrev Jt :Nat:=46
abbrev FA :Nat:=47
abbrev OD :Nat:=48
abbrev B5 :Nat:=49
abbrev xZ :Nat:=50
abbrev Jz :Nat:=51
abbrev IG :Nat:=52
abbrev Tc :Nat:=53
abbrev Ul :Nat:=54
abbrev zmk :Nat:=55
abbrev zjr :Nat:=56
abbrev Vc :Nat:=57
abbrev NY :Nat:=58
abbrev Gd :Nat:=59
abbrev N4 :Nat:=60
abbrev Gj :Nat:=61
abbrev xe :Nat:=62
abbrev xR :Nat:=63
abbrev zto :Nat:=64
abbrev Vd :Nat:=65
abbrev Un :Nat:=66
abbrev VC :Nat:=69
abbrev zoo :Nat:=70
abbrev Dg :Nat:=71
abbrev VE :Nat:=72
abbrev HW :Nat:=79
abbrev Up :Nat:=91
abbrev zkk :Nat:=96
abbrev zml :Nat:=97
abbrev zop :Nat:=98
abbrev V3 :Nat:=99
abbrev zjs :Nat:=100
abbrev zpw :Nat:=101
abbrev P3 :Nat:=102
abbrev Mf :Nat:=103
abbrev Oc :Nat:=104
abbrev Od :Nat:=105
abbrev zsi :Nat:=106
abbrev ZY :Nat:=107
abbrev zos :Nat:=108
abbrev ZZ :Nat:=109
abbrev OE :Nat:=110
abbrev D2 :Nat:=111
abbrev OF :Nat:=112
abbrev Kj :Nat:=113
abbrev Gp :Nat:=114
abbrev Eu :Nat:=115
abbrev D3 :Nat:=116
abbrev OG :Nat:=117
abbrev D4 :Nat:=118
abbrev ya :Nat:=119
abbrev xc :Nat:=120
abbrev tQ :Nat:=121
abbrev TF :Nat:=122
abbrev Oe :Nat:=123
abbrev JG :Nat:=124
abbrev IJ :Nat:=125
abbrev NT :Nat:=126
abbrev Ve :Nat:=127
abbrev zmm :Nat:=128
abbrev zpx :Nat:=129
abbrev Gi :Nat:=130
abbrev YB :Nat:=131
abbrev zxy :Nat:=132
abbrev IL :Nat:=133
abbrev xg :Nat:=134
abbrev Ev :Nat:=135
abbrev TH :Nat:=136
abbrev TJ :Nat:=137
abbrev Di :Nat:=138
abbrev N3 :Nat:=139
abbrev NQ :Nat:=140
abbrev NZ :Nat:=141
abbrev Jq :Nat:=142
abbrev Dh :Nat:=143
abbrev Om :Nat:=144
abbrev zpy :Nat:=146
abbrev RX :Nat:=153
abbrev zgr :Nat:=154
abbrev zhm :Nat:=155
abbrev zzo :Nat:=174
abbrev znt :Nat:=175
abbrev zgs :Nat:=176
abbrev NO :Nat:=177
abbrev NK :Nat:=178
abbrev zby :Nat:=179
abbrev V7 :Nat:=180
abbrev ztq :Nat:=181
abbrev Yi :Nat:=182
abbrev zrm :Nat:=183
abbrev Qn :Nat:=184
abbrev zxz :Nat:=185
abbrev zax :Nat:=186
abbrev zsj :Nat:=187
abbrev Z1 :Nat:=188
abbrev zlo :Nat:=189
abbrev K3 :Nat:=190
abbrev Dm :Nat:=191
abbrev N0 :Nat:=192
abbrev Ew :Nat:=193
abbrev NJ :Nat:=194
abbrev K4 :Nat:=195
abbrev QD :Nat:=196
abbrev ztr :Nat:=197
abbrev Of :Nat:=198
abbrev N5 :Nat:=199
abbrev IK :Nat:=200
abbrev Zt :Nat:=201
abbrev YE :Nat:=202
abbrev zya :Nat:=203
abbrev IM :Nat:=204
abbrev xb :Nat:=205
abbrev VG :Nat:=206
abbrev wK :Nat:=207
abbrev D5 :Nat:=208
abbrev wi :Nat:=209
abbrev FZ :Nat:=210
abbrev F0 :Nat:=211
abbrev zts :Nat:=212
abbrev Tf :Nat:=213
abbrev Zv :Nat:=214
abbrev yb :Nat:=215
abbrev zeh :Nat:=216
abbrev Wk :Nat:=217
abbrev Ut :Nat:=218
abbrev zfr :Nat:=240
abbrev zbk :Nat:=241
abbrev zfg :Nat:=242
abbrev zbz :Nat:=243
abbrev zyb :Nat:=244
abbrev Vl :Nat:=245
abbrev zpz :Nat:=246
abbrev zzp :Nat:=247
abbrev Dn :Nat:=248
abbrev Ey :Nat:=249
abbrev Oo :Nat:=250
abbrev K9 :Nat:=251
abbrev La :Nat:=252
abbrev ztt :Nat:=253
abbrev zyc :Nat:=254
abbrev zgt :Nat:=256
abbrev YH :Nat:=258
abbrev Zx :Nat:=259
abbrev D6 :Nat:=260
abbrev zyd :Nat:=261
abbrev zox :Nat:=262
abbrev IS :Nat:=263
abbrev Na :Nat:=264
abbrev zwh :Nat:=265
abbrev Nb :Nat:=266
abbrev LZ :Nat:=267
abbrev Fp :Nat:=268
abbrev D7 :Nat:=269
abbrev Gy :Nat:=270
abbrev L4 :Nat:=271
abbrev Zy :Nat:=272
abbrev HX :Nat:=273
abbrev zye :Nat:=274
abbrev Z4 :Nat:=275
abbrev ZA :Nat:=276
abbrev TN :Nat:=277
abbrev NR :Nat:=278
abbrev zdm :Nat:=298
abbrev zbb :Nat:=299
abbrev zzq :Nat:=300
abbrev Og :Nat:=301
abbrev Kn :Nat:=302
abbrev YK :Nat:=303
abbrev ztu :Nat:=304
abbrev YM :Nat:=306
abbrev zet :Nat:=307
abbrev zyf :Nat:=310
abbrev HY :Nat:=311
abbrev Kr :Nat:=327
abbrev IU :Nat:=328
abbrev zvz :Nat:=329
abbrev zea :Nat:=331
abbrev N1 :Nat:=332
end Lf
set_option linter.unusedVariables false
namespace Lf
open Go
abbrev yI(x:Int):Value:=.int .i64 x
abbrev yP(x:Option Addr):Value:=.pointer x
abbrev yN:Value:=.slice none 0 0
abbrev yH:Shape:=ab .i64
abbrev fK(h:Hp)(p:Addr)(n:Nat)(K:Int->Prop):Prop:=aQ none (ab .i64) h (Addr.add p n) K
abbrev ed(h:Hp)(p:Addr)(n:Nat)(K:Sl->Prop):Prop:=aQ none an h (Addr.add p n) K
abbrev mH(h:Hp)(p:Addr)(n:Nat)(K:Option Addr->Prop):Prop:=aQ none aj h (Addr.add p n) K
def Sb (P:Program) (t:bK) (Q:(Bool->(Hp->Prop))) (h:Hp):Prop:=
 aa P zpv [] aR (λr A=>(if (!r)=true then
 Q false A
 else
 aa P zsh [t.v] aR (λX B=>(if (!X)=true then
 aa P Uh [t.v] DO (λr2 q=>aa P xY [r2.v] aR (λs j=>Q (!s) j) q) B
 else
 aa P Uh [t.v] DO (λr2 q=>bF P LG [r2.v] aR yH (λs r4 j=>(if (!s)=true then
 Q false j
 else
 bF P Gn [(.agg #[t.bU.v,t.cI.v,(yI t.dT),(yI t.dU),(yI t.dk),(yI t.fJ),t.bM.v])] aj yH (λf r6 W=>bF P Gn [(.agg #[t.cn.v,t.cR.v,(yI t.fb),(yI t.fc),(yI t.dF),(yI t.gh),t.cp.v])] aj yH (λg r8 D=>aI ((Option.isNone f) || (Option.isNone g)) λy=>aI (y || (r6 !=0)) λy1=>aI (y1 || (r8 !=0)) λy2=>(if y2 then
 Q false D
 else
 mM (α1:=Int) (α2:=Int) (α3:=Int) (λF i k aG E=>(if decide (aG<400) then
 aA (α1:=Int) (λG a l=>(((decide (a<(t.S.len:Int)))=true->(br t.S.base t.S.len a))/\aQ (some (decide (a<(t.S.len:Int)))) yH l (Addr.add (sat t.S.base 3 a) 0) λx=>aI ((decide (a<(t.S.len:Int)))&&(x !=1)) λy3=>(if y3 then
 ((br t.S.base t.S.len a)/\aQ none bI l (sat t.S.base 3 a) λw=>bV P IH [(yP f),w.v] (λc=>G (yw (a+1)) c) l)
 else
 aA (α1:=Int) (λH b c=>(((decide (b<(t.T.len:Int)))=true->(br t.T.base t.T.len b))/\aQ (some (decide (b<(t.T.len:Int)))) yH c (Addr.add (sat t.T.base 3 b) 0) λw=>aI ((decide (b<(t.T.len:Int)))&&(w !=1)) λy4=>(if y4 then
 ((br t.T.base t.T.len b)/\aQ none bI c (sat t.T.base 3 b) λm=>bV P IH [(yP g),m.v] (λn=>H (yw (b+1)) n) c)
 else
 aa P wa [(yP f)] kW (λr9 n=>((True/\(True/\(True/\(True/\True))))/\aa P Jl [(.agg #[t.bU.v,t.cI.v,(yI t.dT),(yI t.dU),(yI t.dk),(yI t.fJ),t.bM.v]),r9.v,(.int .u64 t.Label)] kW (λY J=>((True/\(True/\True))/\aa P wa [(yP g)] kW (λZ K=>((True/\(True/\True))/\aa P Jl [(.agg #[t.cn.v,t.cR.v,(yI t.fb),(yI t.fc),(yI t.dF),(yI t.gh),t.cp.v]),Z.v,(.int .u64 t.Label)] kW (λa8 L=>aa P Vb [Y.v,a8.v] aR (λa9 o=>(if (!a9)=true then
 Q false o
 else
 aI ((a==(t.S.len:Int)) || (b==(t.T.len:Int))) λy5=>(if y5 then
 aI ((a==(t.S.len:Int))&&(b==(t.T.len:Int))) λz=>Q z o
 else
 dx (α1:=Int) (α2:=Int) (λI u m p=>((br t.S.base t.S.len a)/\aQ none yH p (Addr.add (sat t.S.base 3 a) 1) λx3=>aI ((decide (m<x3))&&(decide (u<400))) λz=>(if z then
 aa P NS [(yP f)] yH (λd M=>aa P NS [(yP g)] yH (λe N=>cP (some (!(d !=e))) (aa P wa [(yP f)] kW) (λb0 O=>((True/\(True/\(True/\(True/\True))))/\cP (some (!(d !=e))) (aa P Jl [(.agg #[t.bU.v,t.cI.v,(yI t.dT),(yI t.dU),(yI t.dk),(yI t.fJ),t.bM.v]),b0.v,(.int .u64 t.Label)] kW) (λb1 R=>((True/\(True/\True))/\cP (some (!(d !=e))) (aa P wa [(yP g)] kW) (λb2 U=>((True/\(True/\True))/\cP (some (!(d !=e))) (aa P Jl [(.agg #[t.cn.v,t.cR.v,(yI t.fb),(yI t.fc),(yI t.dF),(yI t.gh),t.cp.v]),b2.v,(.int .u64 t.Label)] kW) (λb3 V=>cP (some (!(d !=e))) (aa P Vb [b1.v,b3.v] aR) (λb4 C=>aI ((d !=e) || (!b4)) λy7=>(if y7 then
 Q false C
 else
 I (yw (u+1)) (yw (m+1)) C)) V) U)) R)) O)) N) M) p
 else
 F (yw (a+1)) (yw (b+1)) u p))) aG 0 o))) L) K)) J)) n)) c))) k l))) i E
 else
 Q true E)) 0 0 0 D)) W) j)) q) B)) A)) h
def Uw (P:Program)  (Q:(Bool->(Hp->Prop))) (h:Hp):Prop:=
 bP [(.int .u64 0),(.int .u64 1)] (λa c=>bP [(yI 0),(yI 1)] (λa1 f=>bP [(yI 22),(yI 0),(yI 0),(yI 0),(yI 0)] (λa2 g=>bP [(yI 0),(.slice (some a2) 1 1),(yI 1),yN] (λa3 i=>bP [(yI 1),(yI 2),(yI 0),(yI 2),(yI 1),(yI 5),(yI 1),(yI 1),(yI 0)] (λa4 j=>bP [(yI 1),(yI 2),(yI 0),(yI 3),(yI 1),(yI 0),(yI 1),(yI 1),(yI 0)] (λa5 k=>bF P LG [(.agg #[(.slice (some a) 2 2),(.slice (some a1) 2 2),(yI 1),(yI 1),(yI 0),(yI 1),(.slice (some a3) 2 2),(.slice (some a) 2 2),(.slice (some a1) 2 2),(yI 1),(yI 1),(yI 0),(yI 1),(.slice (some a3) 2 2),(.slice (some a4) 3 3),(.slice (some a5) 3 3),(.int .u64 0)])] aR yH (λr o l=>aa P xY [(.agg #[(.slice (some a) 2 2),(.slice (some a1) 2 2),(yI 1),(yI 1),(yI 0),(yI 1),(.slice (some a3) 2 2),(.slice (some a) 2 2),(.slice (some a1) 2 2),(yI 1),(yI 1),(yI 0),(yI 1),(.slice (some a3) 2 2),(.slice (some a4) 3 3),(.slice (some a5) 3 3),(.int .u64 0)])] aR (λr2 m=>bP [(yI 1),(yI 3),(yI 0)] (λa6 n=>bF P LG [(.agg #[(.slice (some a) 2 2),(.slice (some a1) 2 2),(yI 1),(yI 1),(yI 0),(yI 1),(.slice (some a3) 2 2),(.slice (some a) 2 2),(.slice (some a1) 2 2),(yI 1),(yI 1),(yI 0),(yI 1),(.slice (some a3) 2 2),(.slice (some a4) 3 3),(.slice (some a6) 1 1),(.int .u64 0)])] aR yH (λp q d=>aI (r&&r2) λy=>aI (y&&(o==3)) λt=>aI (t&&(!p)) λu=>aI (u&&(q==0)) λb=>cP (some b) (aa P Ox [(.agg #[(.slice (some a) 2 2),(.slice (some a1) 2 2),(yI 1),(yI 1),(yI 0),(yI 1),(.slice (some a3) 2 2)]),(.slice (some a4) 3 3),(.int .u64 0)] an) (λs e=>aI (b&&((s.len:Int)==2)) λv=>Q v e) d) n) m) l) k) j) i) g) f) c) h
def VI (P:Program) (t:bK) (Q:(Bool->(Hp->Prop))) (h:Hp):Prop:=
 aI ((decide ((t.S.len:Int)>1024)) || (decide ((t.T.len:Int)>1024))) λy=>(if y then
 Q false h
 else
 bF P NW [(.agg #[t.bU.v,t.cI.v,(yI t.dT),(yI t.dU),(yI t.dk),(yI t.fJ),t.bM.v])] yH yH (λr z n=>bF P NW [(.agg #[t.cn.v,t.cR.v,(yI t.fb),(yI t.fc),(yI t.dF),(yI t.gh),t.cp.v])] yH yH (λr2 A o=>aI ((r !=0) || (r2 !=0)) λk=>cP (some (!k)) (aa P zmi [(.agg #[t.bU.v,t.cI.v,(yI t.dT),(yI t.dU),(yI t.dk),(yI t.fJ),t.bM.v]),(.agg #[t.cn.v,t.cR.v,(yI t.fb),(yI t.fc),(yI t.dF),(yI t.gh),t.cp.v])] aR) (λq j=>aI (k || (!q)) λu=>(if u then
 Q false j
 else
 aA (α1:=Int) (λl p e=>(if decide (p<(t.bM.len:Int)) then
 ((br t.bM.base t.bM.len p)/\aQ none an e (Addr.add (sat t.bM.base 2 p) 1) λx=>((br t.cp.base t.cp.len p)/\aQ none an e (Addr.add (sat t.cp.base 2 p) 1) λg=>aa P zmj [x.v,g.v] aR (λa f=>aa P I1 [(.agg #[t.bU.v,t.cI.v,(yI t.dT),(yI t.dU),(yI t.dk),(yI t.fJ),t.bM.v]),(yI p),(.int .u64 t.Label)] aR (λc d=>aI (c&&(!a)) λw=>(if w then
 Q false d
 else
 l (yw (p+1)) d)) f) e))
 else
 aa P Uj [(.agg #[t.bU.v,t.cI.v,(yI t.dT),(yI t.dU),(yI t.dk),(yI t.fJ),t.bM.v]),t.S.v,(.int .u64 t.Label)] an (λa f=>aa P Uj [(.agg #[t.cn.v,t.cR.v,(yI t.fb),(yI t.fc),(yI t.dF),(yI t.gh),t.cp.v]),t.T.v,(.int .u64 t.Label)] an (λc d=>(if ((a.len:Int) !=(c.len:Int))=true then
 Q false d
 else
 aA (α1:=Int) (λm i b=>(if decide (i<(a.len:Int)) then
 ((br a.base a.len i)/\aQ none bI b (sat a.base 3 i) λx=>((br c.base c.len i)/\aQ none bI b (sat c.base 3 i) λg=>gw none P (cT .neq 43 (.tmp 111) (.tmp 115) x.v g.v) aR b λs=>(if s then
 Q false b
 else
 m (yw (i+1)) b)))
 else
 Q true b)) 0 d)) f) e)) 0 j)) o) n) h)
def Ez (P:Program) (t:cS) (Q:(Bool->(Hp->Prop))) (h:Hp):Prop:=
 aI ((decide ((t.S.len:Int)>1024)) || (decide ((t.T.len:Int)>1024))) λy=>cP (some (!y)) (aa P Dl [(.agg #[t.bU.v,t.cI.v,(yI t.dT),(yI t.dU),(yI t.dk),(yI t.fJ),t.bM.v])] aR) (λr l=>aI (y || (!r)) λi=>cP (some (!i)) (aa P Dl [(.agg #[t.cn.v,t.cR.v,(yI t.fb),(yI t.fc),(yI t.dF),(yI t.gh),t.cp.v])] aR) (λo m=>aI (i || (!o)) λj=>cP (some (!j)) (aa P ID [(.agg #[t.bU.v,t.cI.v,(yI t.dT),(yI t.dU),(yI t.dk),(yI t.fJ),t.bM.v]),(.agg #[t.cn.v,t.cR.v,(yI t.fb),(yI t.fc),(yI t.dF),(yI t.gh),t.cp.v])] aR) (λr2 g=>aI (j || (!r2)) λs=>(if s then
 Q false g
 else
 aA (α1:=Int) (λk a e=>(if decide (a<(t.bM.len:Int)) then
 ((br t.bM.base t.bM.len a)/\aQ none bq e (sat t.bM.base 2 a) λx=>aa P Gv [(.agg #[t.bU.v,t.cI.v,(yI t.dT),(yI t.dU),(yI t.dk),(yI t.fJ),t.bM.v]),(yI a),(.int .u64 t.Label)] aR (λb c=>((b=true->(br t.cp.base t.cp.len a))/\aQ (some b) an c (Addr.add (sat t.cp.base 2 a) 1) λq=>cP (some b) (aa P IF [x.Code.v,q.v] aR) (λf d=>aI (b&&(!f)) λu=>(if u then
 Q false d
 else
 k (yw (a+1)) d)) c)) e)
 else
 aa P Ox [(.agg #[t.bU.v,t.cI.v,(yI t.dT),(yI t.dU),(yI t.dk),(yI t.fJ),t.bM.v]),t.S.v,(.int .u64 t.Label)] an (λb c=>((True/\(True/\(True/\True)))/\aa P Ox [(.agg #[t.cn.v,t.cR.v,(yI t.fb),(yI t.fc),(yI t.dF),(yI t.gh),t.cp.v]),t.T.v,(.int .u64 t.Label)] an (λf d=>aa P K8 [b.v,f.v] aR (λp n=>Q p n) d) c)) e)) 0 g)) m) l) h
def Uz (P:Program) (t:bK) (Q:(cS->(Hp->Prop))) (h:Hp):Prop:=
 Q ⟨t.bU,t.cI,t.dT,t.dU,t.dk,t.fJ,t.bM,t.cn,t.cR,t.fb,t.fc,t.dF,t.gh,t.cp,t.S,t.T,t.Label⟩ h
def Dq (P:Program) (t:cS) (Q:(Bool->(Int->(Hp->Prop)))) (h:Hp):Prop:=
 aa P xY [t.v] aR (λr o=>(if (!r)=true then
 Q false 0 o
 else
 bF P Gn [(.agg #[t.bU.v,t.cI.v,(yI t.dT),(yI t.dU),(yI t.dk),(yI t.fJ),t.bM.v])] aj yH (λj r2 B=>bF P Gn [(.agg #[t.cn.v,t.cR.v,(yI t.fb),(yI t.fc),(yI t.dF),(yI t.gh),t.cp.v])] aj yH (λl J g=>aI ((r2 !=0) || (J !=0)) λy=>(if y then
 Q false 0 g
 else
 iJ (α1:=Option Addr) (α2:=Option Addr) (λk=>(bP [(yP j),t.S.v,(yI 0),(yI 0),(yI 0),(yI (-1))] (λa d=>((True/\True)/\bP [(yP l),t.T.v,(yI 0),(yI 0),(yI 0),(yI (-1))] (λa1 e=>k (some a) (some a1) e) d)) g/\bP [(yP l),t.T.v,(yI 0),(yI 0),(yI 0),(yI (-1))] (λa d=>((True/\True)/\bP [(yP j),t.S.v,(yI 0),(yI 0),(yI 0),(yI (-1))] (λa1 e=>((True/\True)/\k (some a1) (some a) e)) d)) g))
 (λa b d=>aA (α1:=Bool) (λu n e=>aa P Jt [(yP a)] aR (λq C=>aa P Jt [(yP b)] aR (λK D=>aa P wa [(yP j)] kW (λL E=>((True/\(True/\(True/\(True/\True))))/\aa P FA [(.agg #[t.bU.v,t.cI.v,(yI t.dT),(yI t.dU),(yI t.dk),(yI t.fJ),t.bM.v]),L.v,(.int .u64 t.Label)] kW (λM F=>((True/\(True/\True))/\aa P wa [(yP l)] kW (λN w=>((True/\(True/\True))/\aa P FA [(.agg #[t.cn.v,t.cR.v,(yI t.fb),(yI t.fc),(yI t.dF),(yI t.gh),t.cp.v]),N.v,(.int .u64 t.Label)] kW (λH f=>ah none a λp=>fK f p 5 λx=>ah none b λG=>fK f G 5 λO=>aI ((x !=O) || (!(q==K))) λs=>cP (some (!s)) (aa P OD [M.v,H.v] aR) (λI c=>aI (s || (!I)) λR=>(if R then
 ah none a λi=>fK c i 4 λm=>Q false m c
 else
 (if (!q)=true then
 ah none a λi=>fK c i 4 λm=>Q n m c
 else
 bV P B5 [(yP a)] (λz=>bV P B5 [(yP b)] (λA=>u n A) z) c))) f) w)) F)) E)) D) C) e) true d))) B) o)) h
def zzr (P:Program) (c:az) (Q:(Option Addr->(Int->(Hp->Prop)))) (h:Hp):Prop:=
 bF P xZ [c.v] yH yH (λr f a=>(if (r !=0)=true then
 Q none r a
 else
 aa P IG [c.v] kW (λr2 b=>((True/\True)/\aa P Jz [c.v,r2.v] aj (λe d=>Q e 0 d) b)) a)) h
def UB (P:Program) (m:Option Addr) (s:av) (Q:(Hp->Prop)) (h:Hp):Prop:=
 cC (λk=>(if (s.Kind==2)=true then
 aa P Tc [(yP m),(yI s.N),(yI s.V)] yH (λr a=>k a) h
 else
 k h))
 (λa=>(if (s.Kind==3)=true then
 aa P Ul [(yP m),(yI s.N)] yH (λr b=>Q b) a
 else
 Q a))
def Vf (P:Program) (a:aD) (b:aD) (Q:(Bool->(Hp->Prop))) (h:Hp):Prop:=
 aI ((a.ee !=b.ee) || ((a.bz.len:Int) !=(b.bz.len:Int))) λy=>aI (y || ((a.aE.len:Int) !=(b.aE.len:Int))) λl=>(if l then
 Q false h
 else
 aA (α1:=Int) (λj i e=>(if decide (i<(a.bz.len:Int)) then
 ((br a.bz.base a.bz.len i)/\aQ none aP e (sat a.bz.base 6 i) λx=>((br b.bz.base b.bz.len i)/\aQ none aP e (sat b.bz.base 6 i) λf=>aa P zmk [x.v,f.v] aR (λr c=>(if (!r)=true then
 Q false c
 else
 j (yw (i+1)) c)) e))
 else
 aA (α1:=Int) (λk d c=>(if decide (d<(a.aE.len:Int)) then
 ((br a.aE.base a.aE.len d)/\aQ none aF c (sat a.aE.base 15 d) λx=>((br b.aE.base b.aE.len d)/\aQ none aF c (sat b.aE.base 15 d) λf=>aa P zjr [x.v,f.v] aR (λr g=>(if (!r)=true then
 Q false g
 else
 k (yw (d+1)) g)) c))
 else
 Q true c)) 0 e)) 0 h)
def Wm (P:Program) (c:az) (s:aD) (a:Int) (Q:(aD->(Hp->Prop))) (h:Hp):Prop:=
 dx (α1:=Int) (α2:=aD) (λj i out g=>(if decide (i<(s.bz.len:Int)) then
 dp (α1:=bf) (λk=>aa P Vc [c.v,(yI i),(.int .u64 a)] aR (λr b=>(if r then
 ((br s.bz.base s.bz.len i)/\aQ none aP b (sat s.bz.base 6 i) λx=>k x b)
 else
 k ⟨0,⟨none,0,0⟩,0,0,⟨none,0,0⟩,⟨none,0,0⟩⟩ b)) g)
 (λx b=>bP [(yI x.Cursor),x.Log.v,(yI x.jG),(yI x.cU),x.dq.v,x.di.v] (λa1 d=>gF 6 96 [(yI 0),yN,(yI 0),(yI 0),yN,yN] ⟨out.bz.base,out.bz.len,out.bz.cap⟩ ⟨(some a1),1,1⟩ (λr f=>j (yw (i+1)) ⟨out.ee,r,out.aE⟩ f) d) b)
 else
 dx (α1:=Int) (α2:=aD) (λl p e b=>(if decide (p<(s.aE.len:Int)) then
 dp (α1:=aL) (λk=>aa P I1 [c.v,(yI p),(.int .u64 a)] aR (λr d=>(if r then
 ((br s.aE.base s.aE.len p)/\aQ none aF d (sat s.aE.base 15 p) λx=>k x d)
 else
 k ⟨0,0,0,0,0,0,0,0,0,0,0,0,false,0,⟨none,0,0⟩⟩ d)) b)
 (λx d=>bP [(yI x.State),(yI x.PC),(yI x.bW),(yI x.bX),(yI x.bY),(yI x.bZ),(yI x.cc),(yI x.cd),(yI x.cf),(yI x.cg),(yI x.Cursor),(yI x.Timer),(.bool x.gi),(yI x.jI),x.eO.v] (λa1 f=>gF 15 136 [(yI 0),(yI 0),(yI 0),(yI 0),(yI 0),(yI 0),(yI 0),(yI 0),(yI 0),(yI 0),(yI 0),(yI 0),(.bool false),(yI 0),yN] ⟨e.aE.base,e.aE.len,e.aE.cap⟩ ⟨(some a1),1,1⟩ (λr m=>l (yw (p+1)) ⟨e.ee,e.bz,r⟩ m) f) d)
 else
 Q e b)) 0 out g)) 0 ⟨s.ee,⟨none,0,0⟩,⟨none,0,0⟩⟩ h
def Gh (P:Program) (m:Option Addr) (Q:(aD->(Hp->Prop))) (h:Hp):Prop:=
 ah none m λp=>fK h p 9 λx=>ah none m λU=>ed h U 10 λC=>dx (α1:=Int) (α2:=aD) (λO B s n=>(if decide (B<(C.len:Int)) then
 ((br C.base C.len B)/\aQ none aj n (sat C.base 1 B) λd=>ah none d λF=>mH n F 5 λe=>bF P NY [(yP e)] an an (λr G b=>ah none d λz=>fK b z 1 λE=>ah none d λA=>ed b A 2 λj=>ah none d λt=>fK b t 3 λk=>ah none d λu=>fK b u 4 λw=>aa P Gd [j.v] an (λr2 c=>((True/\((bG c (Addr.add z 1) [(yI E)])/\((bG c (Addr.add t 3) [(yI k)])/\((bG c (Addr.add u 4) [(yI w)])/\True))))/\bP [(yI E),r2.v,(yI k),(yI w),r.v,G.v] (λa g=>((True/\True)/\gF 6 96 [(yI 0),yN,(yI 0),(yI 0),yN,yN] ⟨s.bz.base,s.bz.len,s.bz.cap⟩ ⟨(some a),1,1⟩ (λH i=>O (yw (B+1)) ⟨s.ee,H,s.aE⟩ i) g)) c)) b) n)
 else
 ah none m λF=>ed n F 11 λd=>dx (α1:=Int) (α2:=aD) (λR l s1 b=>(if decide (l<(d.len:Int)) then
 ((br d.base d.len l)/\aQ none aj b (sat d.base 1 l) λe=>ah none e λz=>mH b z 14 λE=>bF P N4 [(yP E)] an yH (λr G c=>ah none m λA=>ed c A 10 λj=>ah none e λt=>fK c t 1 λk=>((br j.base j.len k)/\aQ none aj c (sat j.base 1 k) λw=>ah none w λu=>mH c u 6 λN=>aa P xe [(yI l)] yH (λr2 g=>(((bG g (Addr.add A 10) [j.v])/\((bG g (Addr.add t 1) [(yI k)])/\((bG g (sat j.base 1 k) [(yP w)])/\((bG g (Addr.add u 6) [(yP N)])/\True))))/\bF P Gj [(yP N),(yI r2)] yH aR (λH r4 i=>ah none m λI=>ed i I 10 λy=>ah none e λJ=>fK i J 1 λD=>((br y.base y.len D)/\aQ none aj i (sat y.base 1 D) λL=>ah none L λK=>mH i K 6 λM=>aa P xR [(yI l)] yH (λZ o=>(((bG o (Addr.add I 10) [y.v])/\((bG o (Addr.add J 1) [(yI D)])/\((bG o (sat y.base 1 D) [(yP L)])/\((bG o (Addr.add K 6) [(yP M)])/\True))))/\bF P Gj [(yP M),(yI Z)] yH aR (λr6 r7 q=>ah none e λV=>fK q V 3 λa8=>ah none e λW=>aQ none yH q (Addr.add (Addr.add W 4) 0) λa9=>ah none e λX=>aQ none xf q (Addr.add (Addr.add X 4) 1) λf=>ah none e λY=>aQ none aR q (Addr.add Y 13) λb0=>bP [(yI a8),(yI a9),(yI f.a0),(yI f.a1),(yI f.a2),(yI f.a3),(yI f.a4),(yI f.a5),(yI f.a6),(yI f.a7),(yI G),(yI H),(.bool b0),(yI r6),r.v] (λa S=>((True/\True)/\gF 15 136 [(yI 0),(yI 0),(yI 0),(yI 0),(yI 0),(yI 0),(yI 0),(yI 0),(yI 0),(yI 0),(yI 0),(yI 0),(.bool false),(yI 0),yN] ⟨s1.aE.base,s1.aE.len,s1.aE.cap⟩ ⟨(some a),1,1⟩ (λr8 T=>R (yw (l+1)) ⟨s1.ee,s1.bz,r8⟩ T) S)) q) o)) i)) g)) c)) b)
 else
 Q s1 b)) 0 s n)) 0 ⟨x,⟨none,0,0⟩,⟨none,0,0⟩⟩ h
def NU (P:Program) (m:Option Addr) (Q:(Int->(Hp->Prop))) (h:Hp):Prop:=
 ah none m λp=>mH h p 8 λx=>ah none m λC=>fK h C 9 λL=>aa P zto [(yP x),(yI L)] yH (λr f=>ah none m λF=>ed f F 10 λj=>((br j.base j.len r)/\aQ none aj f (sat j.base 1 r) λb=>bV P Vd [(yP m),(yP b)] (λs=>ah none m λG=>aQ none yH s (Addr.add (Addr.add G 0) 2) λN=>cC (λk=>aA (α1:=Int) (λy t c=>(if decide (t<N) then
 ah none b λg=>ed c g 0 λl=>aA (α1:=Int) (λz d a=>(if decide (d<(l.len:Int)) then
 ah none b λi=>fK a i 1 λn=>ah none b λH=>ed a H 0 λe=>((e.len:Int)≠0/\ah none m λI=>ed a I 11 λo=>ah none b λJ=>ed a J 0 λq=>((br q.base q.len (Int.tmod (yw (n+d)) (e.len:Int)))/\aQ none yH a (sat q.base 1 (Int.tmod (yw (n+d)) (e.len:Int))) λu=>((br o.base o.len u)/\aQ none aj a (sat o.base 1 u) λv=>ah none v λK=>fK a K 3 λM=>(if (M==0)=true then
 ah none b λD=>ed a D 0 λw=>((w.len:Int)≠0/\ah none b λE=>da a (Addr.add E 1) [(yI (Int.tmod (yw ((Int.tmod (yw (n+d)) (e.len:Int))+1)) (w.len:Int)))] (λA=>bV P Un [(yP m),(yP v)] (λB=>y (yw (t+1)) B) A))
 else
 z (yw (d+1)) a))))
 else
 k a)) 0 c
 else
 k c)) 0 s)
 (λc=>ah none m λg=>fK c g 9 λl=>ah none m λi=>da c (Addr.add i 9) [(yI (yw (l+1)))] (λa=>Q r a))) f)) h
def VK (P:Program) (c:az) (Q:(Int->(Int->(Hp->Prop)))) (h:Hp):Prop:=
 bF P VC [c.be.v] yH yH (λr A f=>(if (r !=0)=true then
 Q r 0 f
 else
 aa P zoo [c.Table.v,(yI (c.be.len:Int))] yH (λr2 j=>(if (r2 !=0)=true then
 Q r2 1 j
 else
 aa P Dg [(yI c.Fuel),(yI 1),(yI 256)] aR (λs n=>((True/\(True/\(True/\True)))/\aa P Dg [(yI c.hZ),(yI 1),(yI 64)] aR (λt o=>((True/\(True/\True))/\aa P Dg [(yI c.cv),(yI 0),(yI 8)] aR (λu p=>((True/\True)/\aa P Dg [(yI c.Log),(yI 0),(yI 4096)] aR (λw q=>aA (α1:=Int) (λl i b=>(if decide (i<4) then
 ((0<=i/\i<4)/\∃x:Bool,((List.get?Internal (α:=Value) [(.bool s),(.bool t),(.bool u),(.bool w)] (0+((Int.toNat i)*1)))=(some (.bool x))/\(if (!x)=true then
 Q 2 (yw (2+i)) b
 else
 l (yw (i+1)) b)))
 else
 (if ((c.aE.len:Int)==0)=true then
 Q 1 6 b
 else
 (if decide ((c.aE.len:Int)>32) then
 Q 3 6 b
 else
 aA (α1:=Int) (λm a d=>(if decide (a<(c.aE.len:Int)) then
 ((br c.aE.base c.aE.len a)/\aQ none yH d (Addr.add (sat c.aE.base 2 a) 0) λx=>aa P Dg [(yI x),(yI 0),(yI (yw ((c.be.len:Int)-1)))] aR (λy e=>(if (!y)=true then
 Q 2 (yw (7+a)) e
 else
 ((br c.aE.base c.aE.len a)/\aQ none an e (Addr.add (sat c.aE.base 2 a) 1) λz=>bF P VE [z.v,(yI c.cv)] yH yH (λk B g=>(if (k !=0)=true then
 Q k (yw (7+a)) g
 else
 m (yw (a+1)) g)) e))) d)
 else
 Q 0 0 d)) 0 b)))) 0 q) p)) o)) n)) j)) f)) h
def Dr (P:Program) (c:az) (l:Sl) (a:Int) (Q:(Sl->(Hp->Prop))) (h:Hp):Prop:=
 dx (α1:=Sl) (α2:=Int) (λf out d e=>(if decide (d<(l.len:Int)) then
 dp (α1:=Sl) (λk=>((br l.base l.len d)/\aQ none bI e (sat l.base 3 d) λx=>aI ((x.Kind==2) || (x.Kind==3)) λy=>cP (some (!(!y))) (aa P Gv [c.v,(yI x.N),(.int .u64 a)] aR) (λr b=>aI ((!y) || r) λn=>(if n then
 bP [(yI x.Kind),(yI x.N),(yI x.V)] (λa1 g=>gF 3 24 [(yI 0),(yI 0),(yI 0)] ⟨out.base,out.len,out.cap⟩ ⟨(some a1),1,1⟩ (λm i=>k m i) g) b
 else
 k ⟨out.base,out.len,out.cap⟩ b)) e))
 (λj b=>f j (yw (d+1)) b)
 else
 Q ⟨out.base,out.len,out.cap⟩ e)) ⟨none,0,0⟩ 0 h
def Sm (P:Program) (a:az) (b:az) (Q:(Bool->(Hp->Prop))) (h:Hp):Prop:=
 aa P zkk [a.be.v,b.be.v] aR (λr f=>cP (some (!(!r))) (aa P zml [a.Table.v,b.Table.v] aR) (λg d=>aI ((!r) || (!g)) λy=>aI (y || (a.Fuel !=b.Fuel)) λk=>aI (k || (a.hZ !=b.hZ)) λl=>aI (l || (a.cv !=b.cv)) λm=>aI (m || (a.Log !=b.Log)) λn=>aI (n || ((a.aE.len:Int) !=(b.aE.len:Int))) λo=>(if o then
 Q false d
 else
 aA (α1:=Int) (λe i c=>(if decide (i<(a.aE.len:Int)) then
 ((br a.aE.base a.aE.len i)/\aQ none yH c (Addr.add (sat a.aE.base 2 i) 0) λx=>((br b.aE.base b.aE.len i)/\aQ none yH c (Addr.add (sat b.aE.base 2 i) 0) λj=>(if (x !=j)=true then
 Q false c
 else
 e (yw (i+1)) c)))
 else
 Q true c)) 0 d)) f) h
def Sn (P:Program) (a:Sl) (b:Sl) (Q:(Bool->(Hp->Prop))) (h:Hp):Prop:=
 (if ((a.len:Int) !=(b.len:Int))=true then
 Q false h
 else
 aA (α1:=Int) (λd i c=>(if decide (i<(a.len:Int)) then
 ((br a.base a.len i)/\aQ none bn c (sat a.base 5 i) λx=>((br b.base b.len i)/\aQ none bn c (sat b.base 5 i) λe=>gw none P (cT .neq 87 (.tmp 20) (.tmp 24) x.v e.v) aR c λf=>(if f then
 Q false c
 else
 d (yw (i+1)) c)))
 else
 Q true c)) 0 h)
def Vg (P:Program) (c:az) (p:Int) (a:Int) (Q:(Bool->(Hp->Prop))) (h:Hp):Prop:=
 aI ((decide (p>=0))&&(decide (p<(c.aE.len:Int)))) λy=>((y=true->(br c.aE.base c.aE.len p))/\aQ (some y) yH h (Addr.add (sat c.aE.base 2 p) 0) λx=>cP (some y) (aa P Vc [c.v,(yI x),(.int .u64 a)] aR) (λr b=>aI (y&&r) λd=>Q d b) h)
def UD (P:Program) (c:az) (l:Sl) (a:Int) (Q:(Sl->(Hp->Prop))) (h:Hp):Prop:=
 bP [] (λa1 g=>dx (α1:=Sl) (α2:=Int) (λf out i d=>(if decide (i<(l.len:Int)) then
 dp (α1:=Sl) (λk=>((br l.base l.len i)/\aQ none bI d (sat l.base 3 i) λx=>aa P zop [c.v,x.v,(.int .u64 a)] aR (λr b=>(if (!r)=true then
 ((br l.base l.len i)/\aQ none bI b (sat l.base 3 i) λe=>bP [(yI e.Kind),(yI e.N),(yI e.V)] (λa2 j=>gF 3 24 [(yI 0),(yI 0),(yI 0)] ⟨out.base,out.len,out.cap⟩ ⟨(some a2),1,1⟩ (λo m=>k o m) j) b)
 else
 k ⟨out.base,out.len,out.cap⟩ b)) d))
 (λn b=>f n (yw (i+1)) b)
 else
 Q ⟨out.base,out.len,out.cap⟩ d)) ⟨(some a1),0,0⟩ 0 g) h
def Ds (P:Program) (c:az) (Q:(Bool->(Hp->Prop))) (h:Hp):Prop:=
 bF P xZ [c.v] yH yH (λr b a=>Q (r==0) a) h
def ztv (P:Program) (a:az) (b:az) (Q:(Bool->(Hp->Prop))) (h:Hp):Prop:=
 aa P zjs [a.be.v,b.be.v] aR (λr d=>cP (some r) (aa P zpw [a.Table.v,b.Table.v] aR) (λg e=>aI (r&&g) λy=>aI (y&&(a.Fuel==b.Fuel)) λi=>aI (i&&(a.hZ==b.hZ)) λj=>aI (j&&(a.cv==b.cv)) λk=>aI (k&&(a.Log==b.Log)) λc=>cP (some c) (aa P P3 [a.aE.v,b.aE.v,(.func (.func 99) #[] #[])] aR) (λr2 f=>aI (c&&r2) λl=>Q l f) e) d) h
def D9 (P:Program) (c:az) (p:Int) (a:Int) (Q:(Bool->(Hp->Prop))) (h:Hp):Prop:=
 aI ((decide (p>=0))&&(decide (p<(c.aE.len:Int)))) λy=>((y=true->(br c.aE.base c.aE.len p))/\aQ (some y) yH h (Addr.add (sat c.aE.base 2 p) 0) λx=>cP (some y) (aa P Mf [c.v,(yI x),(.int .u64 a)] aR) (λr b=>aI (y&&r) λd=>Q d b) h)
def ztw (P:Program) (a:Sl) (b:Sl) (Q:(Bool->(Hp->Prop))) (h:Hp):Prop:=
 (if ((a.len:Int) !=(b.len:Int))=true then
 Q false h
 else
 aA (α1:=Int) (λe d c=>(if decide (d<(a.len:Int)) then
 ((br a.base a.len d)/\aQ none bn c (sat a.base 5 d) λx=>((br b.base b.len d)/\aQ none bn c (sat b.base 5 d) λf=>gw none P (cT .neq 87 (.tmp 19) (.tmp 23) x.v f.v) aR c λg=>(if g then
 Q false c
 else
 e (yw (d+1)) c)))
 else
 Q true c)) 0 h)
def Dt (P:Program) (a:Sl) (b:Sl) (Q:(Bool->(Hp->Prop))) (h:Hp):Prop:=
 (if ((a.len:Int) !=(b.len:Int))=true then
 Q false h
 else
 aA (α1:=Int) (λe d c=>(if decide (d<(a.len:Int)) then
 ((br a.base a.len d)/\aQ none bI c (sat a.base 3 d) λx=>((br b.base b.len d)/\aQ none bI c (sat b.base 3 d) λf=>gw none P (cT .neq 43 (.tmp 19) (.tmp 23) x.v f.v) aR c λg=>(if g then
 Q false c
 else
 e (yw (d+1)) c)))
 else
 Q true c)) 0 h)
def Dp (P:Program) (s:Option Addr) (Q:(Bool->(Hp->Prop))) (h:Hp):Prop:=
 kK (λj b=>ah none s λp=>fK b p 3 λx=>(if (x==0)=true then
 ah none s λl=>fK b l 2 λv=>ah none s λm=>ed b m 1 λw=>(if (v==(w.len:Int))=true then
 Q false b
 else
 ah none s λn=>ed b n 1 λg=>ah none s λo=>fK b o 2 λi=>((br g.base g.len i)/\aQ none bI b (sat g.base 3 i) λa=>ah none s λq=>fK b q 2 λz=>ah none s λt=>da b (Addr.add t 2) [(yI (yw (z+1)))] (λc=>cC (λk=>(if (a.Kind==1)=true then
 ah (some (decide (a.N>=1))) s λe=>aQ (some (decide (a.N>=1))) yH c (Addr.add e 4) λf=>aI ((decide (a.N>=1))&&(decide (a.N<=(yw (65536-f))))) λy=>(if y then
 ah none s λu=>da c (Addr.add u 3) [(yI a.N)] (λd=>k d)
 else
 k c)
 else
 (if (a.Kind==2)=true then
 ah none s λe=>mH c e 0 λf=>aa P Tc [(yP f),(yI a.N),(yI a.V)] yH (λr d=>k d) c
 else
 (if (a.Kind==3)=true then
 ah none s λe=>mH c e 0 λf=>aa P Ul [(yP f),(yI a.N)] yH (λr d=>k d) c
 else
 k c))))
 (λd=>j d))))
 else
 Q true b))  h
def Fs (P:Program) (c:az) (s:aD) (a:Int) (Q:(aD->(Hp->Prop))) (h:Hp):Prop:=
 (dL 96 [(yI 0),yN,(yI 0),(yI 0),yN,yN] (s.bz.len:Int) (s.bz.len:Int) (λr o=>((True/\(True/\True))/\dL 136 [(yI 0),(yI 0),(yI 0),(yI 0),(yI 0),(yI 0),(yI 0),(yI 0),(yI 0),(yI 0),(yI 0),(yI 0),(.bool false),(yI 0),yN] (s.aE.len:Int) (s.aE.len:Int) (λi p=>((True/\True)/\aA (α1:=Int) (λm e j=>(if decide (e<(s.bz.len:Int)) then
 cC (λk=>((br s.bz.base s.bz.len e)/\aQ none aP j (sat s.bz.base 6 e) λx=>aa P Mf [c.v,(yI e),(.int .u64 a)] aR (λr2 d=>(if r2 then
 aa P Oc [x.v] aP (λb g=>((True/\True)/\((br r.base r.len e)/\da g (sat r.base 6 e) [(yI b.Cursor),b.Log.v,(yI b.jG),(yI b.cU),b.dq.v,b.di.v] (λl=>k l)))) d
 else
 k d)) j))
 (λd=>m (yw (e+1)) d)
 else
 aA (α1:=Int) (λn f d=>(if decide (f<(s.aE.len:Int)) then
 cC (λk=>((br s.aE.base s.aE.len f)/\aQ none aF d (sat s.aE.base 15 f) λx=>aa P Gv [c.v,(yI f),(.int .u64 a)] aR (λr2 g=>(if r2 then
 aa P Od [x.v] aF (λb l=>((True/\True)/\((br i.base i.len f)/\da l (sat i.base 15 f) [(yI b.State),(yI b.PC),(yI b.bW),(yI b.bX),(yI b.bY),(yI b.bZ),(yI b.cc),(yI b.cd),(yI b.cf),(yI b.cg),(yI b.Cursor),(yI b.Timer),(.bool b.gi),(yI b.jI),b.eO.v] (λq=>k q)))) g
 else
 k g)) d))
 (λg=>n (yw (f+1)) g)
 else
 Q ⟨s.ee,r,i⟩ d)) 0 j)) 0 p)) o)) h/\dL 136 [(yI 0),(yI 0),(yI 0),(yI 0),(yI 0),(yI 0),(yI 0),(yI 0),(yI 0),(yI 0),(yI 0),(yI 0),(.bool false),(yI 0),yN] (s.aE.len:Int) (s.aE.len:Int) (λr o=>((True/\(True/\True))/\dL 96 [(yI 0),yN,(yI 0),(yI 0),yN,yN] (s.bz.len:Int) (s.bz.len:Int) (λi p=>((True/\(True/\True))/\aA (α1:=Int) (λm e j=>(if decide (e<(s.bz.len:Int)) then
 cC (λk=>((br s.bz.base s.bz.len e)/\aQ none aP j (sat s.bz.base 6 e) λx=>aa P Mf [c.v,(yI e),(.int .u64 a)] aR (λr2 d=>(if r2 then
 aa P Oc [x.v] aP (λb g=>((True/\True)/\((br i.base i.len e)/\da g (sat i.base 6 e) [(yI b.Cursor),b.Log.v,(yI b.jG),(yI b.cU),b.dq.v,b.di.v] (λl=>k l)))) d
 else
 k d)) j))
 (λd=>m (yw (e+1)) d)
 else
 aA (α1:=Int) (λn f d=>(if decide (f<(s.aE.len:Int)) then
 cC (λk=>((br s.aE.base s.aE.len f)/\aQ none aF d (sat s.aE.base 15 f) λx=>aa P Gv [c.v,(yI f),(.int .u64 a)] aR (λr2 g=>(if r2 then
 aa P Od [x.v] aF (λb l=>((True/\True)/\((br r.base r.len f)/\da l (sat r.base 15 f) [(yI b.State),(yI b.PC),(yI b.bW),(yI b.bX),(yI b.bY),(yI b.bZ),(yI b.cc),(yI b.cd),(yI b.cf),(yI b.cg),(yI b.Cursor),(yI b.Timer),(.bool b.gi),(yI b.jI),b.eO.v] (λq=>k q)))) g
 else
 k g)) d))
 (λg=>n (yw (f+1)) g)
 else
 Q ⟨s.ee,i,r⟩ d)) 0 j)) 0 p)) o)) h)
def Ea (P:Program) (a:aD) (b:aD) (Q:(Bool->(Hp->Prop))) (h:Hp):Prop:=
 cP (some (a.ee==b.ee)) (aa P zsi [a.bz.v,b.bz.v,(.func (.func 107) #[] #[])] aR) (λr c=>aI ((a.ee==b.ee)&&r) λy=>cP (some y) (aa P zos [a.aE.v,b.aE.v,(.func (.func 109) #[] #[])] aR) (λe d=>aI (y&&e) λf=>Q f d) c) h
def N9 (P:Program) (s:Option Addr) (Q:(Hp->Prop)) (h:Hp):Prop:=
 ah none s λp=>mH h p 0 λx=>aa P NS [(yP x)] yH (λr c=>ah none s λe=>da c (Addr.add e 5) [(yI r)] (λa=>ah none s λf=>fK a f 3 λk=>ah none s λg=>da a (Addr.add g 3) [(yI (yw (k-1)))] (λb=>ah none s λi=>fK b i 4 λl=>ah none s λj=>da b (Addr.add j 4) [(yI (yw (l+1)))] (λd=>Q d)))) h
def EA (P:Program) (c:az) (Q:(Int->(Int->(Hp->Prop)))) (h:Hp):Prop:=
 bF P OE [c.be.v] yH yH (λr w j=>(if (r !=0)=true then
 Q r 0 j
 else
 aa P D2 [(yI (c.Table.len:Int)),(yI 64)] yH (λr2 k=>(if (r2 !=0)=true then
 Q r2 1 k
 else
 mh P OF [c.Table.v,(yI (c.be.len:Int))] aj yH yH (λy o z l=>(if (o !=0)=true then
 Q o 1 l
 else
 bP [(yI 0),(yI 0),(yI c.Fuel),(yI c.hZ),(yI c.cv),(yI c.Log)] (λa t=>aA (α1:=Int) (λq b g=>(if decide (b<6) then
 ((br (some a) 6 b)/\aQ none yH g (sat (some a) 1 b) λx=>aa P Kj [(yI b),(yI x)] yH (λf e=>(if (f !=0)=true then
 Q f b e
 else
 q (yw (b+1)) e)) g)
 else
 aa P D2 [(yI (c.aE.len:Int)),(yI 32)] yH (λf e=>(if (f !=0)=true then
 Q f 6 e
 else
 aA (α1:=Int) (λs d i=>(if decide (d<(c.aE.len:Int)) then
 ((br c.aE.base c.aE.len d)/\aQ none bq i (sat c.aE.base 2 d) λx=>aa P Gp [(yI x.Part),(yI 0),(yI (yw ((c.be.len:Int)-1)))] aR (λu m=>(if (!u)=true then
 Q 2 (yw (7+d)) m
 else
 bF P Eu [x.Code.v,(yI c.cv)] yH yH (λp A n=>(if (p !=0)=true then
 Q p (yw (7+d)) n
 else
 s (yw (d+1)) n)) m)) i)
 else
 Q 0 0 i)) 0 e)) g)) 0 t) l)) k)) j)) h
def zwi (P:Program) (c:az) (s:aD) (Q:(Option Addr->(Hp->Prop))) (h:Hp):Prop:=
 aa P HW [c.v] aN (λr M=>((True/\True)/\bP [r.be.v,r.Table.v,(yI r.Fuel),(yI r.hZ),(yI r.cv),(yI r.Log),r.aE.v,(yP none),(yP none),(yI s.ee),yN,yN] (λa R=>mh P D3 [c.be.v] aj yH yH (λr1 r2 r3 S=>ah none (some a) λp=>da S (Addr.add p 7) [(yP r1)] (λT=>mh P OF [c.Table.v,(yI (c.be.len:Int))] aj yH yH (λr4 r5 r6 U=>ah none (some a) λW=>da U (Addr.add W 8) [(yP r4)] (λV=>aA (α1:=Int) (λK y D=>(if decide (y<(s.bz.len:Int)) then
 ((br s.bz.base s.bz.len y)/\aQ none aP D (sat s.bz.base 6 y) λx=>bF P OG [x.dq.v,x.di.v] aj yH (λF r8 e=>ah none (some a) λg=>ed e g 10 λd=>aa P Gd [x.Log.v] an (λG f=>(((bG f (Addr.add g 10) [d.v])/\(True/\(True/\(True/\True))))/\aa P D4 [] aj (λE l=>(((bG l (Addr.add g 10) [d.v])/\(True/\(True/\(True/\True))))/\bP [yN,(yI x.Cursor),G.v,(yI x.jG),(yI x.cU),(yP F),(yP E)] (λa1 m=>(((bG m (Addr.add g 10) [d.v])/\True)/\bP [(yP (some a1))] (λa2 u=>(((bG u (Addr.add g 10) [d.v])/\True)/\gF 1 8 [(yP none)] d ⟨(some a2),1,1⟩ (λq i=>ah none (some a) λn=>da i (Addr.add n 10) [q.v] (λB=>K (yw (y+1)) B)) u)) m)) l)) f)) e) D)
 else
 aA (α1:=Int) (λL b e=>(if decide (b<(s.aE.len:Int)) then
 cC (λk=>((br s.aE.base s.aE.len b)/\aQ none aF e (sat s.aE.base 15 b) λx=>ah none (some a) λg=>aQ none an e (Addr.add (Addr.add g 0) 6) λd=>((br d.base d.len b)/\aQ none bq e (sat d.base 2 b) λz=>bF P ya [(yI c.hZ),x.eO.v,(yI x.Cursor)] aj yH (λF r8 f=>ah none (some a) λn=>ed f n 11 λH=>bP [(yI b),(yI z.Part),z.Code.v,(yI x.State),(yI x.PC),(yI x.bW),(yI x.bX),(yI x.bY),(yI x.bZ),(yI x.cc),(yI x.cd),(yI x.cf),(yI x.cg),(.bool x.gi),(yP F)] (λa1 l=>(((bG l (Addr.add n 11) [H.v])/\True)/\bP [(yP (some a1))] (λa2 m=>(((bG m (Addr.add n 11) [H.v])/\True)/\gF 1 8 [(yP none)] H ⟨(some a2),1,1⟩ (λG u=>ah none (some a) λX=>da u (Addr.add X 11) [G.v] (λi=>ah none (some a) λY=>ed i Y 10 λI=>((br I.base I.len z.Part)/\aQ none aj i (sat I.base 1 z.Part) λA=>ah none A λZ=>ed i Z 0 λx6=>bP [(yI b)] (λa3 B=>gF 1 8 [(yI 0)] x6 ⟨(some a3),1,1⟩ (λE N=>ah none A λp7=>da N (Addr.add p7 0) [E.v] (λC=>cC (λJ=>(if decide (x.Timer>0) then
 ah none A λo=>mH C o 6 λt=>aa P xe [(yI b)] yH (λq j=>(((bG j (Addr.add o 6) [(yP t)])/\(True/\True))/\aa P xc [(yP t),(yI q),(yI x.Timer)] yH (λa8 w=>J w) j)) C
 else
 J C))
 (λj=>(if decide (x.jI>0) then
 ah none A λo=>mH j o 6 λt=>aa P xR [(yI b)] yH (λq w=>(((bG w (Addr.add o 6) [(yP t)])/\(True/\True))/\aa P xc [(yP t),(yI q),(yI x.jI)] yH (λa8 O=>k O) w)) j
 else
 k j)))) B) i))) m)) l)) f) e)))
 (λf=>L (yw (b+1)) f)
 else
 Q (some a) e)) 0 D)) 0 V)) T)) R) M)) h
def ztx (P:Program) (c:az) (Q:(aD->(Hp->Prop))) (h:Hp):Prop:=
 (dL 96 [(yI 0),yN,(yI 0),(yI 0),yN,yN] (c.be.len:Int) (c.be.len:Int) (λr q=>((True/\True)/\dL 136 [(yI 0),(yI 0),(yI 0),(yI 0),(yI 0),(yI 0),(yI 0),(yI 0),(yI 0),(yI 0),(yI 0),(yI 0),(.bool false),(yI 0),yN] (c.aE.len:Int) (c.aE.len:Int) (λd s=>aA (α1:=Int) (λo b n=>(if decide (b<(r.len:Int)) then
 cC (λk=>(bP [(yI (-1))] (λa e=>((True/\(True/\(True/\(True/\True))))/\(aa P tQ [(.slice (some a) 1 1),(yI c.cv)] an (λr2 g=>((True/\(True/\(True/\True)))/\((br r.base r.len b)/\(dL 24 [yN] c.cv c.cv (λl f=>((True/\(True/\True))/\da f (Addr.add (sat r.base 6 b) 4) [r2.v] (λi=>((True/\True)/\((br r.base r.len b)/\da i (Addr.add (sat r.base 6 b) 5) [l.v] (λj=>k j)))))) g/\da g (Addr.add (sat r.base 6 b) 4) [r2.v] (λf=>((True/\(True/\True))/\dL 24 [yN] c.cv c.cv (λl i=>((True/\(True/\True))/\((br r.base r.len b)/\da i (Addr.add (sat r.base 6 b) 5) [l.v] (λj=>k j)))) f)))))) e/\dL 24 [yN] c.cv c.cv (λr2 g=>((True/\(True/\(True/\True)))/\aa P tQ [(.slice (some a) 1 1),(yI c.cv)] an (λl f=>((True/\(True/\(True/\True)))/\((br r.base r.len b)/\da f (Addr.add (sat r.base 6 b) 4) [l.v] (λi=>((True/\(True/\True))/\((br r.base r.len b)/\da i (Addr.add (sat r.base 6 b) 5) [r2.v] (λj=>k j))))))) g)) e))) n/\dL 24 [yN] c.cv c.cv (λr2 e=>((True/\(True/\(True/\True)))/\bP [(yI (-1))] (λa g=>((True/\(True/\(True/\(True/\True))))/\aa P tQ [(.slice (some a) 1 1),(yI c.cv)] an (λl f=>((True/\(True/\(True/\True)))/\((br r.base r.len b)/\da f (Addr.add (sat r.base 6 b) 4) [l.v] (λi=>((True/\(True/\True))/\((br r.base r.len b)/\da i (Addr.add (sat r.base 6 b) 5) [r2.v] (λj=>k j))))))) g)) e)) n))
 (λe=>o (yw (b+1)) e)
 else
 aA (α1:=Int) (λp m e=>(if decide (m<(d.len:Int)) then
 dL 64 [yN,yN,(yI 0),(yI 0)] (yw ((c.be.len:Int)+1)) (yw ((c.be.len:Int)+1)) (λr2 g=>((True/\True)/\((br d.base d.len m)/\da g (Addr.add (sat d.base 15 m) 14) [r2.v] (λf=>p (yw (m+1)) f)))) e
 else
 Q ⟨0,r,d⟩ e)) 0 n)) 0 s) q)) h/\dL 136 [(yI 0),(yI 0),(yI 0),(yI 0),(yI 0),(yI 0),(yI 0),(yI 0),(yI 0),(yI 0),(yI 0),(yI 0),(.bool false),(yI 0),yN] (c.aE.len:Int) (c.aE.len:Int) (λr q=>((True/\True)/\dL 96 [(yI 0),yN,(yI 0),(yI 0),yN,yN] (c.be.len:Int) (c.be.len:Int) (λd s=>((True/\True)/\aA (α1:=Int) (λo b n=>(if decide (b<(d.len:Int)) then
 cC (λk=>(bP [(yI (-1))] (λa e=>((True/\(True/\(True/\(True/\True))))/\(aa P tQ [(.slice (some a) 1 1),(yI c.cv)] an (λr2 g=>((True/\(True/\(True/\True)))/\((br d.base d.len b)/\(dL 24 [yN] c.cv c.cv (λl f=>((True/\(True/\True))/\da f (Addr.add (sat d.base 6 b) 4) [r2.v] (λi=>((True/\True)/\((br d.base d.len b)/\da i (Addr.add (sat d.base 6 b) 5) [l.v] (λj=>k j)))))) g/\da g (Addr.add (sat d.base 6 b) 4) [r2.v] (λf=>((True/\(True/\True))/\dL 24 [yN] c.cv c.cv (λl i=>((True/\(True/\True))/\((br d.base d.len b)/\da i (Addr.add (sat d.base 6 b) 5) [l.v] (λj=>k j)))) f)))))) e/\dL 24 [yN] c.cv c.cv (λr2 g=>((True/\(True/\(True/\True)))/\aa P tQ [(.slice (some a) 1 1),(yI c.cv)] an (λl f=>((True/\(True/\(True/\True)))/\((br d.base d.len b)/\da f (Addr.add (sat d.base 6 b) 4) [l.v] (λi=>((True/\(True/\True))/\((br d.base d.len b)/\da i (Addr.add (sat d.base 6 b) 5) [r2.v] (λj=>k j))))))) g)) e))) n/\dL 24 [yN] c.cv c.cv (λr2 e=>((True/\(True/\(True/\True)))/\bP [(yI (-1))] (λa g=>((True/\(True/\(True/\(True/\True))))/\aa P tQ [(.slice (some a) 1 1),(yI c.cv)] an (λl f=>((True/\(True/\(True/\True)))/\((br d.base d.len b)/\da f (Addr.add (sat d.base 6 b) 4) [l.v] (λi=>((True/\(True/\True))/\((br d.base d.len b)/\da i (Addr.add (sat d.base 6 b) 5) [r2.v] (λj=>k j))))))) g)) e)) n))
 (λe=>o (yw (b+1)) e)
 else
 aA (α1:=Int) (λp m e=>(if decide (m<(r.len:Int)) then
 dL 64 [yN,yN,(yI 0),(yI 0)] (yw ((c.be.len:Int)+1)) (yw ((c.be.len:Int)+1)) (λr2 g=>((True/\True)/\((br r.base r.len m)/\da g (Addr.add (sat r.base 15 m) 14) [r2.v] (λf=>p (yw (m+1)) f)))) e
 else
 Q ⟨0,d,r⟩ e)) 0 n)) 0 s)) q)) h)
def Ti (P:Program) (m:Option Addr) (p:Int) (v:Int) (Q:(Int->(Hp->Prop))) (h:Hp):Prop:=
 aa P TF [(yP m),(yI p)] yH (λr a=>(if (r !=0)=true then
 Q r a
 else
 ah none m λg=>ed a g 11 λx=>((br x.base x.len p)/\aQ none aj a (sat x.base 1 p) λd=>ah none m λi=>ed a i 10 λf=>ah none d λj=>mH a j 14 λl=>aa P Oe [(yP l),(yI (f.len:Int)),(yI v)] yH (λe b=>(if (e !=0)=true then
 ah none d λk=>mH b k 14 λn=>bV P JG [(yP n),(yI (f.len:Int))] (λc=>Q e c) b
 else
 bV P IJ [(yP m),(yP d)] (λc=>Q 0 c) b)) a))) h
def UF (P:Program) (m:Option Addr) (p:Int) (Q:(Int->(Hp->Prop))) (h:Hp):Prop:=
 aa P TF [(yP m),(yI p)] yH (λr a=>(if (r !=0)=true then
 Q r a
 else
 ah none m λc=>ed a c 11 λx=>((br x.base x.len p)/\aQ none aj a (sat x.base 1 p) λd=>bV P NT [(yP m),(yP d),(yI 6)] (λb=>Q 0 b) a))) h
def Sq (P:Program) (a:bf) (b:bf) (Q:(Bool->(Hp->Prop))) (h:Hp):Prop:=
 aI ((a.Cursor !=b.Cursor) || (a.jG !=b.jG)) λy=>aI (y || (a.cU !=b.cU)) λm=>aI (m || ((a.Log.len:Int) !=(b.Log.len:Int))) λn=>aI (n || ((a.di.len:Int) !=(b.di.len:Int))) λo=>(if o then
 Q false h
 else
 aA (α1:=Int) (λj i c=>(if decide (i<(a.Log.len:Int)) then
 ((br a.Log.base a.Log.len i)/\aQ none cK c (sat a.Log.base 3 i) λx=>((br b.Log.base b.Log.len i)/\aQ none cK c (sat b.Log.base 3 i) λg=>gw none P (cT .neq 121 (.tmp 56) (.tmp 61) x.v g.v) aR c λl=>(if l then
 Q false c
 else
 j (yw (i+1)) c)))
 else
 aA (α1:=Int) (λk d e=>(if decide (d<(a.di.len:Int)) then
 ((br a.di.base a.di.len d)/\aQ none an e (sat a.di.base 1 d) λx=>((br b.di.base b.di.len d)/\aQ none an e (sat b.di.base 1 d) λg=>aa P Ve [x.v,g.v] aR (λr f=>(if (!r)=true then
 Q false f
 else
 k (yw (d+1)) f)) e))
 else
 aa P Ve [a.dq.v,b.dq.v] aR (λr f=>Q r f) e)) 0 c)) 0 h)
def RZ (P:Program) (a:aL) (b:aL) (Q:(Bool->(Hp->Prop))) (h:Hp):Prop:=
 aI ((a.State !=b.State) || (a.PC !=b.PC)) λy=>gw (some (!y)) P (cT .neq 79 (.tmp 21) (.tmp 23) (.agg #[(yI a.bW),(yI a.bX),(yI a.bY),(yI a.bZ),(yI a.cc),(yI a.cd),(yI a.cf),(yI a.cg)]) (.agg #[(yI b.bW),(yI b.bX),(yI b.bY),(yI b.bZ),(yI b.cc),(yI b.cd),(yI b.cf),(yI b.cg)])) aR h λx=>aI (y || x) λj=>aI (j || (a.Cursor !=b.Cursor)) λk=>aI (k || (a.Timer !=b.Timer)) λl=>aI (l || (!(a.gi==b.gi))) λm=>aI (m || (a.jI !=b.jI)) λn=>aI (n || ((a.eO.len:Int) !=(b.eO.len:Int))) λo=>(if o then
 Q false h
 else
 aA (α1:=Int) (λe i c=>(if decide (i<(a.eO.len:Int)) then
 ((br a.eO.base a.eO.len i)/\aQ none aX c (sat a.eO.base 4 i) λf=>((br b.eO.base b.eO.len i)/\aQ none aX c (sat b.eO.base 4 i) λg=>aa P zmm [f.v,g.v] aR (λr d=>(if (!r)=true then
 Q false d
 else
 e (yw (i+1)) d)) c))
 else
 Q true c)) 0 h)
def Vh (P:Program) (c:az) (i:Int) (a:Int) (Q:(Bool->(Hp->Prop))) (h:Hp):Prop:=
 aI ((decide (i>=0))&&(decide (i<(c.be.len:Int)))) λy=>((y=true->(br c.be.base c.be.len i))/\aQ (some y) (ab .u64) h (sat c.be.base 1 i) λx=>cP (some y) (aa P zpx [(.int .u64 x),(.int .u64 a)] aR) (λr b=>aI (y&&r) λd=>Q d b) h)
def Wo (P:Program) (l:Option Addr) (Q:(Sl->(Sl->(Hp->Prop)))) (h:Hp):Prop:=
 ah none l λp=>ed h p 0 λx=>mM (α1:=Sl) (α2:=Sl) (α3:=Int) (λe aC au b c=>(if decide (b<(x.len:Int)) then
 ((br x.base x.len b)/\aQ none fG c (sat x.base 2 b) λd=>bP [(yI d.owner)] (λa f=>gF 1 8 [(yI 0)] ⟨aC.base,aC.len,aC.cap⟩ ⟨(some a),1,1⟩ (λr g=>aa P Gi [d.queue.v] an (λm i=>bP [m.v] (λa1 j=>gF 1 24 [yN] ⟨au.base,au.len,au.cap⟩ ⟨(some a1),1,1⟩ (λr2 k=>e r r2 (yw (b+1)) k) j) i) g) f) c)
 else
 Q ⟨aC.base,aC.len,aC.cap⟩ ⟨au.base,au.len,au.cap⟩ c)) ⟨none,0,0⟩ ⟨none,0,0⟩ 0 h
def NM (P:Program) (s:Sl) (Q:(Sl->(Hp->Prop))) (h:Hp):Prop:=
 gw none P (cT .eql 101 (.tmp 3) (.const yN) s.v yN) aR h λx=>(if x then
 Q ⟨none,0,0⟩ h
 else
 bP [] (λa b=>gF 3 24 [(yI 0),(yI 0),(yI 0)] ⟨(some a),0,0⟩ s (λr c=>Q r c) b) h)
def YP (P:Program) (p:Option Addr) (Q:(Sl->(Int->(Hp->Prop)))) (h:Hp):Prop:=
 ah none p λj=>ed h j 0 λx=>dx (α1:=Sl) (α2:=Int) (λe out c b=>(if decide (c<(x.len:Int)) then
 ((br x.base x.len c)/\aQ none aj b (sat x.base 1 c) λd=>aa P YB [(yP d)] aX (λr f=>bP [r.dy.v,r.cq.v,(yI r.gJ),(yI r.eH)] (λa g=>gF 4 64 [yN,yN,(yI 0),(yI 0)] ⟨out.base,out.len,out.cap⟩ ⟨(some a),1,1⟩ (λl i=>e l (yw (c+1)) i) g) f) b)
 else
 ah none p λk=>fK b k 1 λd=>Q ⟨out.base,out.len,out.cap⟩ d b)) ⟨none,0,0⟩ 0 h
def N6 (P:Program) (w:Option Addr) (dP:Int) (Q:(Int->(Bool->(Hp->Prop)))) (h:Hp):Prop:=
 ah none w λp=>aQ none gU h (Addr.add p 1) λx=>nJ none (.int .i64) aZ (.agg #[(yI 0),(yI 0)]) x (yI dP) h λa ok=>Q a.due ok h
def Oh (P:Program) (p:Int) (Q:(Int->(Hp->Prop))) (h:Hp):Prop:=
 Q (yw (2*p)) h
def Oi (P:Program) (p:Int) (Q:(Int->(Hp->Prop))) (h:Hp):Prop:=
 Q (yw ((yw (2*p))+1)) h
def Wq (P:Program) (s:Option Addr) (t:Int) (Q:(Int->(Hp->Prop))) (h:Hp):Prop:=
 (if decide (t<0) then
 Q (-1) h
 else
 ah none s λp=>ed h p 0 λx=>ah none s λb=>ed h b 0 λa=>((a.len:Int)≠0/\((br x.base x.len (Int.tmod t (a.len:Int)))/\aQ none yH h (sat x.base 1 (Int.tmod t (a.len:Int))) λc=>Q c h)))
def Vi (P:Program) (m:Option Addr) (x:Option Addr) (Q:(Hp->Prop)) (h:Hp):Prop:=
 ah none x λp=>mH h p 6 λz=>ah none m λq=>fK h q 9 λA=>aa P zxy [(yP z),(yI A)] an (λr o=>aA (α1:=Int) (λn e a=>(if decide (e<(r.len:Int)) then
 cC (λk=>((br r.base r.len e)/\aQ none yH a (sat r.base 1 e) λi=>ah none m λs=>ed a s 11 λj=>((2:Int)≠(0:Int)/\((br j.base j.len (yw (Int.tdiv i (2:Int))))/\aQ none aj a (sat j.base 1 (yw (Int.tdiv i (2:Int)))) λb=>ah none b λt=>fK a t 0 λB=>aa P xR [(yI B)] yH (λy c=>(if (i==y)=true then
 ah none b λg=>aQ none fE c (Addr.add g 4) λl=>aa P xg [l.v] fE (λr2 d=>bV P IL [(yP m),(yP b),r2.v] (λf=>k f) d) c
 else
 ah none b λg=>da c (Addr.add g 13) [(.bool true)] (λd=>ah none b λu=>fK d u 3 λl=>(if (l==(1:Int))=true then
 ah none b λw=>da d (Addr.add w 3) [(yI (0:Int))] (λf=>k f)
 else
 k d)))) a))))
 (λc=>n (yw (e+(1:Int))) c)
 else
 Q a)) (0:Int) o) h
def UH (P:Program) (m:Option Addr) (p:Option Addr) (Q:(Hp->Prop)) (h:Hp):Prop:=
 ah none p λH=>aQ none fE h (Addr.add H 4) λx=>ah none p λI=>ed h I 2 λS=>ah none m λJ=>fK h J 9 λT=>ah none p λK=>fK h K 0 λU=>bF P Ev [x.v,S.v,(yI T),(yI U)] fE EG (λr d F=>ah none p λL=>da F (Addr.add L 4) [(yI r.PC),(yI r.bW),(yI r.bX),(yI r.bY),(yI r.bZ),(yI r.cc),(yI r.cd),(yI r.cf),(yI r.cg)] (λu=>ah none m λM=>ed u M 10 λD=>ah none p λN=>fK u N 1 λE=>((br D.base D.len E)/\aQ none aj u (sat D.base 1 E) λn=>(if (d.Kind==1)=true then
 bV P NT [(yP m),(yP p),(yI 5)] (λb=>Q b) u
 else
 (if (d.Kind==2)=true then
 bV P TH [(yP m),(yP p),(yI d.To),(yI d.dV)] (λb=>Q b) u
 else
 dp (α1:=Bool) (λk=>(if (d.Kind==3)=true then
 k (d.Kind==3) u
 else
 k (d.Kind==4) u))
 (λR b=>(if R then
 bV P TJ [(yP m),(yP p),(.bool (d.Kind==4))] (λc=>Q c) b
 else
 (if (d.Kind==5)=true then
 ah none p λq=>da b (Addr.add q 13) [(.bool false)] (λc=>ah none n λs=>mH c s 6 λo=>ah none p λf=>fK c f 0 λt=>aa P xe [(yI t)] yH (λr2 e=>(((bG e (Addr.add s 6) [(yP o)])/\True)/\aa P Di [(yP o),(yI r2)] aR (λA i=>(if decide (d.dV>0) then
 ah none n λl=>mH i l 6 λg=>ah none p λC=>fK i C 0 λy=>ah none m λz=>fK i z 9 λB=>aa P xe [(yI y)] yH (λj w=>(((bG w (Addr.add l 6) [(yP g)])/\((bG w (Addr.add z 9) [(yI B)])/\(True/\True)))/\aa P xc [(yP g),(yI j),(yI (yw (B+(jh d.dV 1099511627776))))] yH (λO G=>Q G) w)) i
 else
 Q i)) e)) c)
 else
 (if (d.Kind==6)=true then
 ah none n λq=>mH b q 6 λo=>ah none p λs=>fK b s 0 λt=>ah none m λf=>fK b f 9 λg=>aa P xR [(yI t)] yH (λr2 c=>(((bG c (Addr.add q 6) [(yP o)])/\((bG c (Addr.add f 9) [(yI g)])/\(True/\True)))/\aa P xc [(yP o),(yI r2),(yI (yw (g+(jh (qd d.dV 1) 1099511627776))))] yH (λA e=>ah none p λl=>da e (Addr.add l 3) [(yI 4)] (λi=>Q i)) c)) b
 else
 (if (d.Kind==7)=true then
 ah none n λq=>mH b q 5 λo=>ah none p λs=>fK b s 0 λt=>bF P N3 [(yP o),(yI d.To),(yI t)] aR yH (λr2 A c=>(if r2 then
 ah none p λf=>aQ none fE c (Addr.add f 4) λg=>aa P xg [g.v] fE (λj e=>ah none p λl=>da e (Addr.add l 4) [(yI j.PC),(yI j.bW),(yI j.bX),(yI j.bY),(yI j.bZ),(yI j.cc),(yI j.cd),(yI j.cf),(yI j.cg)] (λi=>Q i)) c
 else
 ah none p λf=>da c (Addr.add f 3) [(yI 3)] (λe=>Q e))) b
 else
 (if (d.Kind==8)=true then
 ah none n λq=>mH b q 5 λo=>ah none p λs=>fK b s 0 λt=>aa P NZ [(yP o),(yI t)] an (λr2 c=>((True/\True)/\aa P NQ [r2.v,(yI d.To)] aR (λA e=>(if A then
 ah none n λf=>mH e f 5 λg=>ah none p λl=>fK e l 0 λy=>bF P Jq [(yP g),(yI d.To),(yI y)] yH yH (λj O i=>bV P Dh [(yP m),(yI j)] (λw=>Q w) i) e
 else
 Q e)) c)) b
 else
 (if (d.Kind==9)=true then
 ah none n λq=>ed b q 2 λo=>ah none m λs=>aQ none yH b (Addr.add (Addr.add s 0) 5) λt=>(if decide ((o.len:Int)<t) then
 ah none n λf=>ed b f 2 λg=>ah none m λl=>fK b l 9 λy=>ah none p λC=>fK b C 0 λB=>bP [(yI y),(yI B),(yI d.dV)] (λa c=>(((bG c (Addr.add f 2) [g.v])/\True)/\gF 3 24 [(yI 0),(yI 0),(yI 0)] g ⟨(some a),1,1⟩ (λr2 e=>ah none n λz=>da e (Addr.add z 2) [r2.v] (λi=>Q i)) c)) b
 else
 ah none n λf=>fK b f 3 λg=>aa P Om [(yI g)] yH (λr2 c=>ah none n λl=>da c (Addr.add l 3) [(yI r2)] (λe=>Q e)) b)
 else
 Q b)))))))))))) h
def zsk (P:Program) (l:Sl) (Q:(Int->(Int->(Hp->Prop)))) (h:Hp):Prop:=
 (if ((l.len:Int)==0)=true then
 Q 1 0 h
 else
 (if decide ((l.len:Int)>8) then
 Q 3 8 h
 else
 aA (α1:=Int) (λb i a=>(if decide (i<(l.len:Int)) then
 ((br l.base l.len i)/\aQ none (ab .u64) a (sat l.base 1 i) λx=>((br l.base l.len (yw (i-1)))/\aQ none (ab .u64) a (sat l.base 1 (yw (i-1))) λc=>(if (x==c)=true then
 Q 8 i a
 else
 ((br l.base l.len i)/\aQ none (ab .u64) a (sat l.base 1 i) λd=>((br l.base l.len (yw (i-1)))/\aQ none (ab .u64) a (sat l.base 1 (yw (i-1))) λe=>(if decide (d<e) then
 Q 7 i a
 else
 b (yw (i+1)) a))))))
 else
 Q 0 0 a)) 1 h))
def TQ (P:Program) (l:Sl) (parts:Int) (Q:(Int->(Hp->Prop))) (h:Hp):Prop:=
 (if ((l.len:Int)==0)=true then
 Q 1 h
 else
 (if decide ((l.len:Int)>64) then
 Q 3 h
 else
 aA (α1:=Int) (λc i a=>(if decide (i<(l.len:Int)) then
 ((br l.base l.len i)/\aQ none yH a (sat l.base 1 i) λx=>aa P Dg [(yI x),(yI 0),(yI (yw (parts-1)))] aR (λr b=>(if (!r)=true then
 Q 2 b
 else
 c (yw (i+1)) b)) a)
 else
 Q 0 a)) 0 h))
def TR (P:Program) (n:Int) (least:Int) (lU:Int) (Q:(Bool->(Hp->Prop))) (h:Hp):Prop:=
 aI ((decide (n>=least))&&(decide (n<=lU))) λy=>Q y h
def VL (P:Program) (l:Sl) (ai:Int) (Q:(Int->(Int->(Hp->Prop)))) (h:Hp):Prop:=
 aI ((decide (ai<0)) || (decide (ai>8))) λy=>(if y then
 Q 1 0 h
 else
 (if decide ((l.len:Int)>256) then
 Q 3 256 h
 else
 aA (α1:=Int) (λc i a=>(if decide (i<(l.len:Int)) then
 ((br l.base l.len i)/\aQ none bn a (sat l.base 5 i) λx=>aa P zpy [x.v,(yI (l.len:Int)),(yI ai)] yH (λr b=>(if (r !=0)=true then
 Q r i b
 else
 c (yw (i+1)) b)) a)
 else
 Q 0 0 a)) 0 h))
def ZC (P:Program) (c:az) (Q:(az->(Hp->Prop))) (h:Hp):Prop:=
 aa P RX [c.be.v] an (λr e=>((True/\(True/\True))/\aa P Gi [c.Table.v] an (λk f=>((True/\True)/\aa P zgr [c.aE.v] an (λr2 g=>aA (α1:=Int) (λd a b=>(if decide (a<(r2.len:Int)) then
 ((br r2.base r2.len a)/\aQ none bq b (sat r2.base 2 a) λx=>aa P zhm [x.Code.v] an (λl i=>((True/\True)/\((br r2.base r2.len a)/\da i (Addr.add (sat r2.base 2 a) 1) [l.v] (λj=>d (yw (a+1)) j)))) b)
 else
 Q ⟨r,k,c.Fuel,c.hZ,c.cv,c.Log,r2⟩ b)) 0 g) f)) e)) h
def UJ (P:Program) (s:Sl) (v:Int) (Q:(Int->(Hp->Prop))) (h:Hp):Prop:=
 aA (α1:=Int) (λc a b=>(if decide (a<(s.len:Int)) then
 ((br s.base s.len a)/\aQ none yH b (sat s.base 1 a) λx=>(if (v==x)=true then
 Q a b
 else
 c (yw (a+1)) b))
 else
 Q (-1) b)) 0 h
def R7 (P:Program) (a:Sl) (b:Sl) (Q:(Bool->(Hp->Prop))) (h:Hp):Prop:=
 (if ((a.len:Int) !=(b.len:Int))=true then
 Q false h
 else
 aA (α1:=Int) (λd i c=>(if decide (i<(a.len:Int)) then
 ((br a.base a.len i)/\aQ none (ab .u64) c (sat a.base 1 i) λx=>((br b.base b.len i)/\aQ none (ab .u64) c (sat b.base 1 i) λe=>(if (x !=e)=true then
 Q false c
 else
 d (yw (i+1)) c)))
 else
 Q true c)) 0 h)
def Sr (P:Program) (a:Sl) (b:Sl) (Q:(Bool->(Hp->Prop))) (h:Hp):Prop:=
 (if ((a.len:Int) !=(b.len:Int))=true then
 Q false h
 else
 aA (α1:=Int) (λd i c=>(if decide (i<(a.len:Int)) then
 ((br a.base a.len i)/\aQ none yH c (sat a.base 1 i) λx=>((br b.base b.len i)/\aQ none yH c (sat b.base 1 i) λe=>(if (x !=e)=true then
 Q false c
 else
 d (yw (i+1)) c)))
 else
 Q true c)) 0 h)
def zpb (P:Program) (c:az) (s:av) (a:Int) (Q:(Bool->(Hp->Prop))) (h:Hp):Prop:=
 aa P I1 [c.v,(yI s.N),(.int .u64 a)] aR (λr b=>aI ((s.Kind==2) || (s.Kind==3)) λy=>aI (y&&(!r)) λd=>Q d b) h
def zyg (P:Program) (x:aS) (y:aS) (Q:(Bool->(Hp->Prop))) (h:Hp):Prop:=
 Q (x.Part==y.Part) h
def R3 (P:Program) (s1:Sl) (s2:Sl) (Q:(Bool->(Hp->Prop))) (h:Hp):Prop:=
 (if ((s1.len:Int) !=(s2.len:Int))=true then
 Q false h
 else
 aA (α1:=Int) (λc a b=>(if decide (a<(s1.len:Int)) then
 ((br s1.base s1.len a)/\aQ none (ab .u64) b (sat s1.base 1 a) λx=>((br s2.base s2.len a)/\aQ none (ab .u64) b (sat s2.base 1 a) λd=>(if (x !=d)=true then
 Q false b
 else
 c (yw (a+1)) b)))
 else
 Q true b)) 0 h)
def UL (P:Program) (s1:Sl) (s2:Sl) (Q:(Bool->(Hp->Prop))) (h:Hp):Prop:=
 (if ((s1.len:Int) !=(s2.len:Int))=true then
 Q false h
 else
 aA (α1:=Int) (λc a b=>(if decide (a<(s1.len:Int)) then
 ((br s1.base s1.len a)/\aQ none yH b (sat s1.base 1 a) λx=>((br s2.base s2.len a)/\aQ none yH b (sat s2.base 1 a) λd=>(if (x !=d)=true then
 Q false b
 else
 c (yw (a+1)) b)))
 else
 Q true b)) 0 h)
def zca (P:Program) (s1:Sl) (s2:Sl) (eq:nH) (Q:(Bool->(Hp->Prop))) (h:Hp):Prop:=
 (if ((s1.len:Int) !=(s2.len:Int))=true then
 Q false h
 else
 aA (α1:=Int) (λd a b=>(if decide (a<(s1.len:Int)) then
 ((br s1.base s1.len a)/\aQ none bq b (sat s1.base 2 a) λx=>((br s2.base s2.len a)/\aQ none bq b (sat s2.base 2 a) λe=>eN P tb (.func (.func eq.g) eq.first eq.captured) [x.v,e.v] aR (λr c=>(if (!r)=true then
 Q false c
 else
 d (yw (a+1)) c)) b))
 else
 Q true b)) 0 h)
def Eb (P:Program) (c:az) (i:Int) (a:Int) (Q:(Bool->(Hp->Prop))) (h:Hp):Prop:=
 aI ((decide (i>=0))&&(decide (i<(c.be.len:Int)))) λy=>((y=true->(br c.be.base c.be.len i))/\aQ (some y) (ab .u64) h (sat c.be.base 1 i) λx=>cP (some y) (aa P zzo [(.int .u64 x),(.int .u64 a)] aR) (λr b=>aI (y&&r) λd=>Q d b) h)
def zty (P:Program) (x:bf) (Q:(bf->(Hp->Prop))) (h:Hp):Prop:=
 aa P Gd [x.Log.v] an (λr d=>((True/\True)/\aa P Gi [x.dq.v] an (λj e=>aa P znt [x.di.v] an (λr2 f=>aA (α1:=Int) (λc a b=>(if decide (a<(r2.len:Int)) then
 ((br r2.base r2.len a)/\aQ none an b (sat r2.base 1 a) λl=>aa P Gi [l.v] an (λk g=>((True/\True)/\((br r2.base r2.len a)/\da g (sat r2.base 1 a) [k.v] (λi=>c (yw (a+1)) i)))) b)
 else
 Q ⟨x.Cursor,r,x.jG,x.cU,j,r2⟩ b)) 0 f) e) d)) h
def ztz (P:Program) (x:aL) (Q:(aL->(Hp->Prop))) (h:Hp):Prop:=
 aa P zgs [x.eO.v] an (λr e=>aA (α1:=Int) (λd a b=>(if decide (a<(r.len:Int)) then
 ((br r.base r.len a)/\aQ none aX b (sat r.base 4 a) λc=>aa P NO [c.dy.v] an (λk f=>((True/\(True/\(True/\True)))/\aa P NK [c.cq.v] an (λr2 g=>((True/\(True/\True))/\((br r.base r.len a)/\da g (Addr.add (sat r.base 4 a) 0) [k.v] (λi=>((True/\True)/\((br r.base r.len a)/\da i (Addr.add (sat r.base 4 a) 1) [r2.v] (λj=>d (yw (a+1)) j))))))) f)) b)
 else
 Q ⟨x.State,x.PC,x.bW,x.bX,x.bY,x.bZ,x.cc,x.cd,x.cf,x.cg,x.Cursor,x.Timer,x.gi,x.jI,r⟩ b)) 0 e) h
def VM (P:Program) (a:Sl) (b:Sl) (c:nH) (Q:(Bool->(Hp->Prop))) (h:Hp):Prop:=
 aa P zby [a.v,b.v,(.func (.func c.g) c.first c.captured)] aR (λr d=>Q r d) h
def zua (P:Program) (x:bf) (y:bf) (Q:(Bool->(Hp->Prop))) (h:Hp):Prop:=
 cP (some (x.Cursor==y.Cursor)) (aa P zrm [x.Log.v,y.Log.v,(.func (.func 184) #[] #[])] aR) (λr c=>aI ((x.Cursor==y.Cursor)&&r) λg=>aI (g&&(x.jG==y.jG)) λi=>aI (i&&(x.cU==y.cU)) λa=>cP (some a) (aa P ztq [x.dq.v,y.dq.v,(.func (.func 182) #[] #[])] aR) (λf d=>aI (a&&f) λb=>cP (some b) (aa P zxz [x.di.v,y.di.v,(.func (.func 180) #[] #[])] aR) (λr2 e=>aI (b&&r2) λj=>Q j e) d) c) h
def TT (P:Program) (a:Sl) (b:Sl) (c:nH) (Q:(Bool->(Hp->Prop))) (h:Hp):Prop:=
 aa P zax [a.v,b.v,(.func (.func c.g) c.first c.captured)] aR (λr d=>Q r d) h
def zub (P:Program) (x:aL) (y:aL) (Q:(Bool->(Hp->Prop))) (h:Hp):Prop:=
 aI ((x.State==y.State)&&(x.PC==y.PC)) λa=>gw (some a) P (cT .eql 79 (.tmp 19) (.tmp 21) (.agg #[(yI x.bW),(yI x.bX),(yI x.bY),(yI x.bZ),(yI x.cc),(yI x.cd),(yI x.cf),(yI x.cg)]) (.agg #[(yI y.bW),(yI y.bX),(yI y.bY),(yI y.bZ),(yI y.cc),(yI y.cd),(yI y.cf),(yI y.cg)])) aR h λd=>aI (a&&d) λe=>aI (e&&(x.Cursor==y.Cursor)) λf=>aI (f&&(x.Timer==y.Timer)) λg=>aI (g&&(x.gi==y.gi)) λi=>aI (i&&(x.jI==y.jI)) λb=>cP (some b) (aa P zsj [x.eO.v,y.eO.v,(.func (.func 188) #[] #[])] aR) (λr c=>aI (b&&r) λj=>Q j c) h
def Mh (P:Program) (l:Sl) (Q:(Int->(Int->(Hp->Prop)))) (h:Hp):Prop:=
 (if ((l.len:Int)==0)=true then
 Q 1 0 h
 else
 (if decide ((l.len:Int)>8) then
 Q 3 8 h
 else
 aA (α1:=Int) (λb i a=>(if decide (i<(l.len:Int)) then
 ((br l.base l.len i)/\aQ none (ab .u64) a (sat l.base 1 i) λx=>((br l.base l.len (yw (i-1)))/\aQ none (ab .u64) a (sat l.base 1 (yw (i-1))) λc=>(if (x==c)=true then
 Q 8 i a
 else
 ((br l.base l.len i)/\aQ none (ab .u64) a (sat l.base 1 i) λd=>((br l.base l.len (yw (i-1)))/\aQ none (ab .u64) a (sat l.base 1 (yw (i-1))) λe=>(if decide (d<e) then
 Q 7 i a
 else
 b (yw (i+1)) a))))))
 else
 Q 0 0 a)) 1 h))
def Ec (P:Program) (n:Int) (lU:Int) (Q:(Int->(Hp->Prop))) (h:Hp):Prop:=
 (if (n==0)=true then
 Q 1 h
 else
 (if decide (n>lU) then
 Q 3 h
 else
 Q 0 h))
def Mi (P:Program) (table:Sl) (parts:Int) (Q:(Option Addr->(Int->(Int->(Hp->Prop))))) (h:Hp):Prop:=
 bP [(yI parts)] (λa b=>aQ none yH b a λx=>aQ (some (!(decide (x<1)))) yH b a λi=>aI ((decide (x<1)) || (decide (i>8))) λy=>aI (y || ((table.len:Int)==0)) λj=>(if j then
 Q none 1 0 b
 else
 (if decide ((table.len:Int)>64) then
 Q none 3 64 b
 else
 aa P zlo [table.v,(.func (.func 190) #[] #[(yP (some a))])] yH (λr c=>(if decide (r>=0) then
 Q none 2 r c
 else
 aQ none yH c a λe=>aa P Gi [table.v] an (λg d=>(((bG d a [(yI e)])/\True)/\bP [g.v,(yI e)] (λa1 f=>Q (some a1) 0 0 f) d)) c)) b))) h
def zzs (P:Program) (part:Int) (n:Int) (Q:(Int->(Hp->Prop))) (h:Hp):Prop:=
 (if (part==2)=true then
 aa P Gp [(yI n),(yI 1),(yI 256)] aR (λr a=>(if (!r)=true then
 Q 2 a
 else
 Q 0 a)) h
 else
 (if (part==3)=true then
 aa P Gp [(yI n),(yI 1),(yI 64)] aR (λr a=>(if (!r)=true then
 Q 2 a
 else
 Q 0 a)) h
 else
 (if (part==4)=true then
 aa P Gp [(yI n),(yI 0),(yI 8)] aR (λr a=>(if (!r)=true then
 Q 2 a
 else
 Q 0 a)) h
 else
 (if (part==5)=true then
 aa P Gp [(yI n),(yI 0),(yI 4096)] aR (λr a=>(if (!r)=true then
 Q 2 a
 else
 Q 0 a)) h
 else
 Q 0 h))))
def zzt (P:Program) (n:Int) (from_:Int) (to:Int) (Q:(Bool->(Hp->Prop))) (h:Hp):Prop:=
 aI ((decide (n>=from_))&&(decide (n<=to))) λy=>Q y h
def EB (P:Program) (l:Sl) (ai:Int) (Q:(Int->(Int->(Hp->Prop)))) (h:Hp):Prop:=
 aI ((decide (ai<0)) || (decide (ai>8))) λy=>(if y then
 Q 1 0 h
 else
 (if decide ((l.len:Int)>256) then
 Q 3 256 h
 else
 aA (α1:=Int) (λd a b=>(if decide (a<(l.len:Int)) then
 ((br l.base l.len a)/\aQ none bn b (sat l.base 5 a) λx=>aa P Dm [x.v,(yI (l.len:Int)),(yI ai)] yH (λr c=>(if (r !=0)=true then
 Q r a c
 else
 d (yw (a+1)) c)) b)
 else
 Q 0 0 b)) 0 h))
def Mj (P:Program) (l:Sl) (Q:(Option Addr->(Int->(Int->(Hp->Prop))))) (h:Hp):Prop:=
 bF P OE [l.v] yH yH (λr m d=>(if (r !=0)=true then
 Q none r m d
 else
 aa P RX [l.v] an (λr2 g=>wI  (λn i=>bP [r2.v,(.map n)] (λa e=>ah none (some a) λp=>ed e p 0 λx=>aA (α1:=Int) (λf b c=>(if decide (b<(x.len:Int)) then
 ((br x.base x.len b)/\aQ none (ab .u64) c (sat x.base 1 b) λo=>ah none (some a) λk=>aQ none gU c (Addr.add k 1) λq=>sV (.int .u64) q (.int .u64 o) (yI b) (λj=>f (yw (b+1)) j) c)
 else
 Q (some a) 0 0 c)) 0 e) i) g) d)) h
def Ed (P:Program) (aC:Sl) (au:Sl) (Q:(Option Addr->(Int->(Hp->Prop)))) (h:Hp):Prop:=
 aI ((decide ((aC.len:Int)>8)) || (decide ((au.len:Int)>8))) λy=>(if y then
 Q none 3 h
 else
 (if ((aC.len:Int) !=(au.len:Int))=true then
 Q none 4 h
 else
 bP [yN] (λa w=>aA (α1:=Int) (λt b c=>(if decide (b<(aC.len:Int)) then
 ((br aC.base aC.len b)/\aQ none yH c (sat aC.base 1 b) λx=>((((!(decide (x<(-1))))&&(x==(-1)))=true->(br au.base au.len b))/\aQ (some ((!(decide (x<(-1))))&&(x==(-1)))) an c (sat au.base 1 b) λE=>aI ((x==(-1))&&(decide ((E.len:Int)>0))) λy1=>aI ((decide (x<(-1))) || y1) λG=>(if G then
 Q none 4 c
 else
 ah none (some a) λp=>ed c p 0 λF=>bP [(yI x),yN] (λa1 A=>gF 2 32 [(yI 0),yN] F ⟨(some a1),1,1⟩ (λr B=>ah none (some a) λC=>da B (Addr.add C 0) [r.v] (λn=>((br au.base au.len b)/\aQ none an n (sat au.base 1 b) λj=>aA (α1:=Int) (λu i l=>(if decide (i<(j.len:Int)) then
 ((br j.base j.len i)/\aQ none yH l (sat j.base 1 i) λk=>bF P N0 [(yP (some a)),(yI k)] yH aR (λJ r2 d=>aI (r2 || (decide (k<0))) λH=>aI (H || (k==x)) λI=>(if I then
 Q none 4 d
 else
 ah none (some a) λm=>ed d m 0 λe=>ah none (some a) λq=>ed d q 0 λf=>((br f.base f.len b)/\aQ none an d (Addr.add (sat f.base 2 b) 1) λs=>bP [(yI k)] (λa2 g=>(((bG g (Addr.add m 0) [e.v])/\((bG g (Addr.add q 0) [f.v])/\((bG g (Addr.add (sat f.base 2 b) 1) [s.v])/\True)))/\gF 1 8 [(yI 0)] s ⟨(some a2),1,1⟩ (λD o=>(((bG o (Addr.add m 0) [e.v])/\True)/\((br e.base e.len b)/\da o (Addr.add (sat e.base 2 b) 1) [D.v] (λz=>u (yw (i+1)) z)))) g)) d))) l)
 else
 t (yw (b+1)) l)) 0 n))) A) c)))
 else
 Q (some a) 0 c)) 0 w) h))
def OH (P:Program)  (Q:(Option Addr->(Hp->Prop))) (h:Hp):Prop:=
 wI  (λr b=>bP [yN,(.map r)] (λa c=>Q (some a) c) b) h
def EC (P:Program) (room:Int) (l:Sl) (af:Int) (Q:(Option Addr->(Int->(Hp->Prop)))) (h:Hp):Prop:=
 aI ((decide ((l.len:Int)<1)) || (decide ((l.len:Int)>9))) λy=>aI (y || (decide (room<1))) λo=>aI (o || (decide (room>64))) λq=>(if q then
 Q none 1 h
 else
 aI ((decide (af<0)) || (decide (af>=(l.len:Int)))) λs=>(if s then
 Q none 2 h
 else
 bP [yN,(yI af)] (λa f=>aA (α1:=Int) (λe b c=>(if decide (b<(l.len:Int)) then
 ((br l.base l.len b)/\aQ none aX c (sat l.base 4 b) λx=>bF P Ew [(yI room),x.v] aj yH (λr m d=>(if (m !=0)=true then
 Q none 4 d
 else
 ah none (some a) λp=>ed d p 0 λn=>bP [(yP r)] (λa1 g=>gF 1 8 [(yP none)] n ⟨(some a1),1,1⟩ (λr2 i=>ah none (some a) λk=>da i (Addr.add k 0) [r2.v] (λj=>e (yw (b+1)) j)) g) d)) c)
 else
 Q (some a) 0 c)) 0 f) h))
def N7 (P:Program) (w:Option Addr) (dP:Int) (due:Int) (Q:(Int->(Hp->Prop))) (h:Hp):Prop:=
 aI ((decide (dP<0)) || (decide (due<0))) λy=>(if y then
 Q 1 h
 else
 aa P Di [(yP w),(yI dP)] aR (λr b=>ah none w λp=>ed b p 0 λx=>bF P NJ [x.v,(.agg #[(yI due),(yI dP)]),(.func (.func 195) #[] #[])] yH aR (λm r2 c=>ah none w λf=>ed c f 0 λg=>bP [(yI due),(yI dP)] (λa d=>(((bG d (Addr.add f 0) [g.v])/\True)/\aa P QD [g.v,(yI m),(.slice (some a) 1 1)] an (λn i=>ah none w λk=>da i (Addr.add k 0) [n.v] (λe=>ah none w λl=>aQ none gU e (Addr.add l 1) λo=>sV (.int .i64) o (yI dP) (.agg #[(yI due),(yI dP)]) (λj=>Q 0 j) e)) d)) c) b) h)
def TU (P:Program) (x:Sl) (count:Int) (Q:(Sl->(Hp->Prop))) (h:Hp):Prop:=
 cC (λk=>(if decide (count<0) then
 False
 else
 k h))
 (λd=>bF P ztr [(.int .u64 (IntKind.wrap .u64 (x.len:Int))),(.int .u64 (IntKind.wrap .u64 count))] (ab .u64) (ab .u64) (λr a e=>cC (λk=>aI ((decide (r>0)) || (decide (a>9223372036854775807))) λy=>(if y then
 False
 else
 k e))
 (λf=>dL 8 [(yI 0)] (yw a) (yw a) (λr2 g=>gz 1 r2 x (λl i=>aA (α1:=Int) (λc n b=>(if decide (n<(r2.len:Int)) then
 ((0<=n/\n<=(r2.len:Int))/\aI (α:=Sl) ⟨(bh r2.base 1 (Int.toNat n) r2.cap),(r2.len-(Int.toNat n)),(r2.cap-(Int.toNat n))⟩ λy=>((0<=n/\n<=(r2.cap:Int))/\aI (α:=Sl) ⟨(bh r2.base 1 0 r2.cap),((Int.toNat n)-0),(r2.cap-0)⟩ λo=>gz 1 y o (λm j=>c (yw (n+m)) j) b))
 else
 Q r2 b)) l i) g) f)) d)
def TV (P:Program) (m:Option Addr) (p:Int) (Q:(Int->(Hp->Prop))) (h:Hp):Prop:=
 ah (some (!(decide (p<0)))) m λc=>aQ (some (!(decide (p<0)))) an h (Addr.add c 11) λx=>aI ((decide (p<0)) || (decide (p>=(x.len:Int)))) λy=>(if y then
 Q 17 h
 else
 ah none m λd=>ed h d 11 λa=>((br a.base a.len p)/\aQ none aj h (sat a.base 1 p) λf=>ah none f λe=>fK h e 3 λg=>aa P Of [(yI g)] aR (λr b=>(if (!r)=true then
 Q 18 b
 else
 Q 0 b)) h))
def Oj (P:Program) (p:Option Addr) (lane:Int) (v:Int) (Q:(Int->(Hp->Prop))) (h:Hp):Prop:=
 aa P N5 [(yP p),(yI lane)] aR (λr a=>(if (!r)=true then
 Q 2 a
 else
 ah none p λc=>ed a c 0 λx=>((br x.base x.len lane)/\aQ none aj a (sat x.base 1 lane) λe=>aa P IK [(yP e),(yI v)] yH (λd b=>Q d b) a))) h
def Oa (P:Program) (p:Option Addr) (lane:Int) (Q:(Hp->Prop)) (h:Hp):Prop:=
 aa P N5 [(yP p),(yI lane)] aR (λr a=>(if r then
 ah none p λc=>ed a c 0 λx=>((br x.base x.len lane)/\aQ none aj a (sat x.base 1 lane) λd=>bV P Zt [(yP d)] (λb=>Q b) a)
 else
 Q a)) h
def UN (P:Program) (m:Option Addr) (q:Option Addr) (Q:(Hp->Prop)) (h:Hp):Prop:=
 ah none q λp=>fK h p 3 λx=>(if (x==1)=true then
 ah none q λb=>da h (Addr.add b 3) [(yI 0)] (λa=>Q a)
 else
 Q h)
def UP (P:Program) (m:Option Addr) (p:Option Addr) (state:Int) (Q:(Hp->Prop)) (h:Hp):Prop:=
 ah none m λM=>ed h M 10 λx=>ah none p λS=>fK h S 1 λE=>((br x.base x.len E)/\aQ none aj h (sat x.base 1 E) λn=>ah none p λT=>da h (Addr.add T 3) [(yI state)] (λJ=>ah none p λU=>da J (Addr.add U 13) [(.bool false)] (λA=>ah none n λV=>ed A V 0 λo=>aA (α1:=Int) (λG k a=>(if decide (k<(o.len:Int)) then
 ((br o.base o.len k)/\aQ none yH a (sat o.base 1 k) λq=>ah none m λv=>ed a v 11 λe=>((br e.base e.len q)/\aQ none aj a (sat e.base 1 q) λb=>ah none b λw=>mH a w 14 λz=>ah none p λg=>fK a g 0 λs=>aa P YE [(yP z),(yI s)] aR (λr t=>G (yw (k+1)) t) a))
 else
 ah none n λv=>mH a v 5 λq=>ah none p λw=>fK a w 0 λe=>aa P zya [(yP q),(yI e)] an (λr t=>aA (α1:=Int) (λH l d=>(if decide (l<(r.len:Int)) then
 ((br r.base r.len l)/\aQ none Ol d (sat r.base 2 l) λb=>bV P Dh [(yP m),(yI b.dB)] (λf=>H (yw (l+1)) f) d)
 else
 ah none n λg=>mH d g 6 λb=>ah none p λW=>fK d W 0 λz=>aa P xe [(yI z)] yH (λX f=>(((bG f (Addr.add g 6) [(yP b)])/\True)/\aa P Di [(yP b),(yI X)] aR (λr2 u=>ah none n λD=>mH u D 6 λs=>ah none p λN=>fK u N 0 λx9=>aa P xR [(yI x9)] yH (λY B=>(((bG B (Addr.add D 6) [(yP s)])/\True)/\aa P Di [(yP s),(yI Y)] aR (λr4 C=>ah none p λO=>mH C O 14 λZ=>aa P IM [(yP Z)] an (λi K=>aA (α1:=Int) (λI j c=>(if decide (j<(i.len:Int)) then
 ((br i.base i.len j)/\aQ none aH c (sat i.base 2 j) λF=>ah none m λR=>ed c R 11 λy=>((br y.base y.len F.dB)/\aQ none aj c (sat y.base 1 F.dB) λa8=>bV P xb [(yP m),(yP a8),(yI 2)] (λL=>I (yw (j+1)) L) c))
 else
 Q c)) 0 K) C) B)) u) f)) d)) 0 t) a)) 0 A)))
def Vj (P:Program) (a:Sl) (b:Sl) (Q:(Bool->(Hp->Prop))) (h:Hp):Prop:=
 (if ((a.len:Int) !=(b.len:Int))=true then
 Q false h
 else
 aA (α1:=Int) (λd i c=>(if decide (i<(a.len:Int)) then
 ((br a.base a.len i)/\aQ none yH c (sat a.base 1 i) λx=>((br b.base b.len i)/\aQ none yH c (sat b.base 1 i) λe=>(if (x !=e)=true then
 Q false c
 else
 d (yw (i+1)) c)))
 else
 Q true c)) 0 h)
def Su (P:Program) (a:bA) (b:bA) (Q:(Bool->(Hp->Prop))) (h:Hp):Prop:=
 aI (((a.dy.len:Int) !=(b.dy.len:Int)) || ((a.cq.len:Int) !=(b.cq.len:Int))) λy=>aI (y || (a.gJ !=b.gJ)) λl=>aI (l || (a.eH !=b.eH)) λm=>(if m then
 Q false h
 else
 aA (α1:=Int) (λg i e=>(if decide (i<(a.dy.len:Int)) then
 ((br a.dy.base a.dy.len i)/\aQ none yH e (sat a.dy.base 1 i) λx=>((br b.dy.base b.dy.len i)/\aQ none yH e (sat b.dy.base 1 i) λf=>(if (x !=f)=true then
 Q false e
 else
 g (yw (i+1)) e)))
 else
 aA (α1:=Int) (λj d c=>(if decide (d<(a.cq.len:Int)) then
 ((br a.cq.base a.cq.len d)/\aQ none aH c (sat a.cq.base 2 d) λx=>((br b.cq.base b.cq.len d)/\aQ none aH c (sat b.cq.base 2 d) λf=>gw none P (cT .neq 254 (.tmp 66) (.tmp 71) x.v f.v) aR c λk=>(if k then
 Q false c
 else
 j (yw (d+1)) c)))
 else
 Q true c)) 0 e)) 0 h)
def UR (P:Program) (a:Int) (b:Int) (Q:(Bool->(Hp->Prop))) (h:Hp):Prop:=
 aA (α1:=Int) (λe n c=>(if decide (n<64) then
 aa P VG [(.int .u64 a),(yI n)] aR (λr f=>cP (some r) (aa P VG [(.int .u64 b),(yI n)] aR) (λg d=>aI (r&&(!g)) λy=>(if y then
 Q false d
 else
 e (yw (n+1)) d)) f) c
 else
 Q true c)) 0 h
def B0 (P:Program) (s:Sl) (Q:(Sl->(Hp->Prop))) (h:Hp):Prop:=
 gw none P (cT .eql 23 (.tmp 3) (.const yN) s.v yN) aR h λx=>(if x then
 Q ⟨none,0,0⟩ h
 else
 bP [] (λa b=>gF 1 8 [(yI 0)] ⟨(some a),0,0⟩ s (λr c=>Q r c) b) h)
def YR (P:Program) (l:Option Addr) (Q:(bA->(Hp->Prop))) (h:Hp):Prop:=
 ah none l λp=>ed h p 1 λx=>ah none l λg=>ed h g 2 λi=>ah none l λc=>fK h c 3 λe=>ah none l λd=>fK h d 4 λf=>aa P NO [x.v] an (λr a=>(((bG a (Addr.add g 2) [i.v])/\((bG a (Addr.add c 3) [(yI e)])/\((bG a (Addr.add d 4) [(yI f)])/\True)))/\aa P NK [i.v] an (λj b=>(((bG b (Addr.add c 3) [(yI e)])/\((bG b (Addr.add d 4) [(yI f)])/\True))/\Q ⟨r,j,e,f⟩ b)) a)) h
def N8 (P:Program) (w:Option Addr) (k:Int) (Q:(Sl->(Hp->Prop))) (h:Hp):Prop:=
 aA (α1:=Sl) (λf out b=>ah none w λp=>ed b p 0 λx=>ah (some (decide ((x.len:Int)>0))) w λl=>aQ (some (decide ((x.len:Int)>0))) an b (Addr.add l 0) λc=>(((decide ((x.len:Int)>0))=true->(br c.base c.len 0))/\aQ (some (decide ((x.len:Int)>0))) yH b (Addr.add (sat c.base 2 0) 0) λn=>aI ((decide ((x.len:Int)>0))&&(decide (n<=k))) λy=>(if y then
 ah none w λm=>ed b m 0 λd=>((br d.base d.len 0)/\aQ none yH b (Addr.add (sat d.base 2 0) 1) λe=>bP [(yI e)] (λa g=>gF 1 8 [(yI 0)] out ⟨(some a),1,1⟩ (λr i=>aa P Di [(yP w),(yI e)] aR (λo j=>f r j) i) g) b)
 else
 Q out b))) ⟨none,0,0⟩ h
def UT (P:Program) (m:Option Addr) (p:Option Addr) (c:bm) (Q:(Hp->Prop)) (h:Hp):Prop:=
 ah none p λd=>da h (Addr.add d 3) [(yI 0)] (λa=>((True/\True)/\ah none p λe=>da a (Addr.add e 4) [(yI c.PC),(yI c.bW),(yI c.bX),(yI c.bY),(yI c.bZ),(yI c.cc),(yI c.cd),(yI c.cf),(yI c.cg)] (λb=>Q b)))
def ED (P:Program) (c:bm) (Q:(bm->(Hp->Prop))) (h:Hp):Prop:=
 Q ⟨(yw (c.PC+1)),c.bW,c.bX,c.bY,c.bZ,c.cc,c.cd,c.cf,c.cg⟩ h
def EE (P:Program) (c:bm) (l:Sl) (tick:Int) (H:Int) (Q:(bm->(fC->(Hp->Prop)))) (h:Hp):Prop:=
 bP [(yI c.PC),(yI c.bW),(yI c.bX),(yI c.bY),(yI c.bZ),(yI c.cc),(yI c.cd),(yI c.cf),(yI c.cg)] (λa o=>aQ none fE o a λx=>bF P wK [x.v,l.v] bn aR (λr q w=>cP (some (!(!q))) (aa P Dm [r.v,(yI (l.len:Int)),(yI 8)] yH) (λr2 j=>aI ((!q) || (r2 !=0)) λy=>(if y then
 aQ none fE j a λn=>Q n ⟨1,0,0⟩ j
 else
 aQ none xf j (Addr.add a 1) λn=>mh P D5 [r.v,n.v] EG aR aR (λs D E e=>(if E then
 (if D then
 aQ none fE e a λb=>((True/\True)/\Q b s e)
 else
 aQ none fE e a λb=>aa P xg [b.v] fE (λi d=>((True/\True)/\((True/\True)/\Q i s d))) e)
 else
 aQ none xf e (Addr.add a 1) λb=>iJ (α1:=bm) (α2:=fC) (λk=>(if (r.Op==1)=true then
 bV P wi [(yP (some a)),(yI r.A),(yI r.iV)] (λd=>k ⟨0,0,0,0,0,0,0,0,0⟩ ⟨0,0,0⟩ d) e
 else
 (if (r.Op==2)=true then
 ((0<=r.B/\r.B<8)/\∃f:Int,((List.get?Internal (α:=Value) [(yI b.a0),(yI b.a1),(yI b.a2),(yI b.a3),(yI b.a4),(yI b.a5),(yI b.a6),(yI b.a7)] (0+((Int.toNat r.B)*1)))=(some (yI f))/\bV P wi [(yP (some a)),(yI r.A),(yI f)] (λd=>k ⟨0,0,0,0,0,0,0,0,0⟩ ⟨0,0,0⟩ d) e))
 else
 (if (r.Op==32)=true then
 bV P wi [(yP (some a)),(yI r.A),(yI tick)] (λd=>k ⟨0,0,0,0,0,0,0,0,0⟩ ⟨0,0,0⟩ d) e
 else
 (if (r.Op==33)=true then
 bV P wi [(yP (some a)),(yI r.A),(yI H)] (λd=>k ⟨0,0,0,0,0,0,0,0,0⟩ ⟨0,0,0⟩ d) e
 else
 (if (r.Op==22)=true then
 da e (Addr.add a 0) [(yI r.iV)] (λd=>aQ none fE d a λf=>Q f ⟨0,0,0⟩ d)
 else
 (if (r.Op==23)=true then
 ((0<=r.A/\r.A<8)/\∃f:Int,((List.get?Internal (α:=Value) [(yI b.a0),(yI b.a1),(yI b.a2),(yI b.a3),(yI b.a4),(yI b.a5),(yI b.a6),(yI b.a7)] (0+((Int.toNat r.A)*1)))=(some (yI f))/\(if (f==0)=true then
 k ⟨0,0,0,0,0,0,0,0,0⟩ ⟨0,0,0⟩ e
 else
 da e (Addr.add a 0) [(yI r.iV)] (λd=>aQ none fE d a λm=>Q m ⟨0,0,0⟩ d))))
 else
 ((0<=r.B/\r.B<8)/\∃f:Int,((List.get?Internal (α:=Value) [(yI b.a0),(yI b.a1),(yI b.a2),(yI b.a3),(yI b.a4),(yI b.a5),(yI b.a6),(yI b.a7)] (0+((Int.toNat r.B)*1)))=(some (yI f))/\((0<=r.C/\r.C<8)/\∃m:Int,((List.get?Internal (α:=Value) [(yI b.a0),(yI b.a1),(yI b.a2),(yI b.a3),(yI b.a4),(yI b.a5),(yI b.a6),(yI b.a7)] (0+((Int.toNat r.C)*1)))=(some (yI m))/\bF P FZ [(yI r.Op),(yI f),(yI m)] yH yH (λi F d=>dp (α1:=Int) (λp=>(if (F !=0)=true then
 ((0<=r.B/\r.B<8)/\∃t:Int,((List.get?Internal (α:=Value) [(yI b.a0),(yI b.a1),(yI b.a2),(yI b.a3),(yI b.a4),(yI b.a5),(yI b.a6),(yI b.a7)] (0+((Int.toNat r.B)*1)))=(some (yI t))/\((0<=r.C/\r.C<8)/\∃u:Int,((List.get?Internal (α:=Value) [(yI b.a0),(yI b.a1),(yI b.a2),(yI b.a3),(yI b.a4),(yI b.a5),(yI b.a6),(yI b.a7)] (0+((Int.toNat r.C)*1)))=(some (yI u))/\bF P F0 [(yI r.Op),(yI t),(yI u)] yH yH (λG I g=>p G g) d))))
 else
 p i d))
 (λv g=>bV P wi [(yP (some a)),(yI r.A),(yI v)] (λz=>k ⟨0,0,0,0,0,0,0,0,0⟩ ⟨0,0,0⟩ z) g)) e)))))))))))
 (λJ K d=>aQ none fE d a λf=>aa P xg [f.v] fE (λi g=>Q i ⟨0,0,0⟩ g) d))) j)) w) o) h
def TX (P:Program) (m:Option Addr) (p:Option Addr) (to:Int) (v:Int) (Q:(Hp->Prop)) (h:Hp):Prop:=
 ah (some (!(decide (to<0)))) m λC=>aQ (some (!(decide (to<0)))) an h (Addr.add C 11) λx=>aI ((decide (to<0)) || (decide (to>=(x.len:Int)))) λy=>(if y then
 bV P xb [(yP m),(yP p),(yI 1)] (λa=>Q a) h
 else
 ah none m λE=>ed h E 11 λz=>((br z.base z.len to)/\aQ none aj h (sat z.base 1 to) λe=>ah none m λF=>mH h F 7 λI=>ah none p λG=>fK h G 1 λJ=>ah none e λH=>fK h H 1 λK=>aa P zts [(yP I),(yI J),(yI K)] aR (λr a=>(if (!r)=true then
 ah none m λl=>ed a l 10 λf=>ah none p λn=>fK a n 1 λg=>((br f.base f.len g)/\aQ none aj a (sat f.base 1 g) λq=>ah none m λu=>ed a u 10 λj=>ah none p λw=>fK a w 1 λo=>((br j.base j.len o)/\aQ none aj a (sat j.base 1 o) λA=>ah none A λs=>fK a s 4 λB=>aa P Om [(yI B)] yH (λd b=>(((bG b (Addr.add l 10) [f.v])/\((bG b (Addr.add n 1) [(yI g)])/\((bG b (sat f.base 1 g) [(yP q)])/\True)))/\ah none q λt=>da b (Addr.add t 4) [(yI d)] (λc=>bV P xb [(yP m),(yP p),(yI 0)] (λi=>Q i) c))) a))
 else
 ah none p λl=>fK a l 1 λf=>ah none e λn=>fK a n 1 λg=>(if (f==g)=true then
 bV P Tf [(yP m),(yP p),(yP e),(yI v)] (λb=>Q b) a
 else
 cC (λk=>ah none e λu=>fK a u 3 λq=>aa P Of [(yI q)] aR (λd b=>ah (some (!(!d))) e λw=>aQ (some (!(!d))) aj b (Addr.add w 14) λj=>ah (some (!(!d))) p λs=>aQ (some (!(!d))) yH b (Addr.add s 1) λo=>cP (some (!(!d))) (aa P Oe [(yP j),(yI o),(yI v)] yH) (λr2 c=>aI ((!d) || (r2 !=0)) λL=>(if L then
 ah none e λt=>mH c t 14 λA=>ah none p λD=>fK c D 1 λB=>bV P JG [(yP A),(yI B)] (λi=>k i) c
 else
 bV P IJ [(yP m),(yP e)] (λi=>k i) c)) b) a)
 (λb=>bV P xb [(yP m),(yP p),(yI 0)] (λc=>Q c) b)))) h))
def TY (P:Program) (m:Option Addr) (p:Option Addr) (w:Bool) (Q:(Hp->Prop)) (h:Hp):Prop:=
 ah none p λo=>mH h o 14 λx=>zA P Zv [(yP x)] yH yH aH aR yH (λr s r2 t u b=>(if (u==0)=true then
 ah none p λl=>aQ none fE b (Addr.add l 4) λn=>ah none p λe=>ed b e 2 λj=>aa P yb [n.v,j.v,(yI r),(yI s)] fE (λa c=>ah none p λg=>da c (Addr.add g 4) [(yI a.PC),(yI a.bW),(yI a.bX),(yI a.bY),(yI a.bZ),(yI a.cc),(yI a.cd),(yI a.cf),(yI a.cg)] (λd=>(if t then
 ah none m λi=>ed d i 11 λf=>((br f.base f.len r2.dB)/\aQ none aj d (sat f.base 1 r2.dB) λy=>bV P xb [(yP m),(yP y),(yI 0)] (λk=>Q k) d)
 else
 Q d))) b
 else
 ah none p λl=>aQ none aR b (Addr.add l 13) λn=>(if n then
 ah none p λe=>da b (Addr.add e 13) [(.bool false)] (λc=>ah none p λg=>aQ none fE c (Addr.add g 4) λj=>ah none p λi=>ed c i 2 λf=>aa P yb [j.v,f.v,(yI 0),(yI (-2))] fE (λa d=>ah none p λq=>da d (Addr.add q 4) [(yI a.PC),(yI a.bW),(yI a.bX),(yI a.bY),(yI a.bZ),(yI a.cc),(yI a.cd),(yI a.cf),(yI a.cg)] (λk=>Q k)) c)
 else
 (if w then
 ah none p λe=>aQ none fE b (Addr.add e 4) λj=>ah none p λg=>ed b g 2 λf=>aa P yb [j.v,f.v,(yI 0),(yI (-1))] fE (λa c=>ah none p λi=>da c (Addr.add i 4) [(yI a.PC),(yI a.bW),(yI a.bX),(yI a.bY),(yI a.bZ),(yI a.cc),(yI a.cd),(yI a.cf),(yI a.cg)] (λd=>Q d)) b
 else
 ah none p λe=>da b (Addr.add e 3) [(yI 1)] (λc=>Q c))))) h
def N2 (P:Program) (w:Option Addr) (dP:Int) (Q:(Bool->(Hp->Prop))) (h:Hp):Prop:=
 ah none w λp=>aQ none gU h (Addr.add p 1) λx=>nJ none (.int .i64) aZ (.agg #[(yI 0),(yI 0)]) x (yI dP) h λn ok=>(if (!ok)=true then
 Q false h
 else
 ah none w λk=>ed h k 0 λc=>aA (α1:=Int) (λi b a=>(if decide (b<(c.len:Int)) then
 ((br c.base c.len b)/\aQ none aZ a (sat c.base 2 b) λf=>gw none P (cT .eql 216 (.tmp 30) (.tmp 31) f.v n.v) aR a λo=>(if o then
 ah none w λe=>ed a e 0 λq=>aa P zeh [q.v,(yI b),(yI (yw (b+1)))] an (λr d=>ah none w λl=>da d (Addr.add l 0) [r.v] (λg=>ah none w λm=>aQ none gU g (Addr.add m 1) λs=>wQ (.int .i64) s (yI dP) (λj=>Q true j) g)) a
 else
 i (yw (b+1)) a))
 else
 ah none w λe=>aQ none gU a (Addr.add e 1) λf=>wQ (.int .i64) f (yI dP) (λd=>Q true d) a)) 0 h)
def X3 (P:Program) (l:Option Addr) (n:Int) (p:Int) (Q:(Bool->(Int->(Hp->Prop)))) (h:Hp):Prop:=
 aa P Wk [(yP l),(yI n),(yI p)] yH (λr i=>(if (r !=0)=true then
 Q false r i
 else
 bF P N0 [(yP l),(yI p)] yH aR (λy r2 c=>(if r2 then
 Q false 20 c
 else
 ah none l λq=>ed c q 0 λx=>((br x.base x.len n)/\cC (λk=>ah none (some (sat x.base 2 n)) λe=>fK c e 0 λf=>(if (f==(-1))=true then
 ah none (some (sat x.base 2 n)) λd=>da c (Addr.add d 0) [(yI p)] (λb=>k b)
 else
 k c))
 (λb=>ah none (some (sat x.base 2 n)) λe=>fK b e 0 λf=>(if (f !=p)=true then
 ah none (some (sat x.base 2 n)) λd=>ed b d 1 λg=>bP [(yI p)] (λa m=>gF 1 8 [(yI 0)] g ⟨(some a),1,1⟩ (λu o=>ah none (some (sat x.base 2 n)) λs=>da o (Addr.add s 1) [u.v] (λj=>ah none (some (sat x.base 2 n)) λt=>fK j t 0 λw=>Q (w==p) 0 j)) m) b
 else
 ah none (some (sat x.base 2 n)) λd=>fK b d 0 λg=>Q (g==p) 0 b))))) i)) h
def Sx (P:Program) (s:Sl) (v:Int) (Q:(Bool->(Hp->Prop))) (h:Hp):Prop:=
 aa P Up [s.v,(yI v)] yH (λr a=>Q (decide (r>=0)) a) h
def Wt (P:Program) (l:Option Addr) (p:Int) (Q:(Sl->(Hp->Prop))) (h:Hp):Prop:=
 ah none l λi=>ed h i 0 λx=>dx (α1:=Sl) (α2:=Int) (λe out b c=>(if decide (b<(x.len:Int)) then
 dp (α1:=Sl) (λk=>((br x.base x.len b)/\aQ none fG c (sat x.base 2 b) λj=>aI ((j.owner==p)&&(p !=(-1))) λy=>(if y then
 bP [(yI b)] (λa d=>gF 1 8 [(yI 0)] ⟨out.base,out.len,out.cap⟩ ⟨(some a),1,1⟩ (λr f=>k r f) d) c
 else
 k ⟨out.base,out.len,out.cap⟩ c)))
 (λg d=>e g (yw (b+1)) d)
 else
 Q ⟨out.base,out.len,out.cap⟩ c)) ⟨none,0,0⟩ 0 h
def X5 (P:Program) (l:Option Addr) (n:Int) (p:Int) (Q:(Int->(Int->(Hp->Prop)))) (h:Hp):Prop:=
 aa P Wk [(yP l),(yI n),(yI p)] yH (λr a=>(if (r !=(0:Int))=true then
 Q (0:Int) r a
 else
 ah none l λo=>ed a o 0 λx=>((br x.base x.len n)/\ah none (some (sat x.base 2 n)) λs=>fK a s 0 λA=>(if (A !=p)=true then
 ah none (some (sat x.base 2 n)) λe=>fK a e 0 λi=>Q i (0:Int) a
 else
 ah none (some (sat x.base 2 n)) λe=>ed a e 1 λi=>(if ((i.len:Int)==(0:Int))=true then
 ah none (some (sat x.base 2 n)) λf=>da a (Addr.add f 0) [(yI (-1:Int))] (λb=>ah none (some (sat x.base 2 n)) λg=>fK b g 0 λc=>Q c (0:Int) b)
 else
 ah none (some (sat x.base 2 n)) λf=>ed a f 1 λc=>((br c.base c.len (0:Int))/\aQ none yH a (sat c.base 1 (0:Int)) λB=>ah none (some (sat x.base 2 n)) λg=>da a (Addr.add g 0) [(yI B)] (λb=>ah none (some (sat x.base 2 n)) λt=>ed b t 1 λm=>ah none (some (sat x.base 2 n)) λu=>ed b u 1 λj=>ah none (some (sat x.base 2 n)) λw=>ed b w 1 λd=>(((0:Int)<=(1:Int)/\((1:Int)<=(j.len:Int)/\((j.len:Int)<=(d.len:Int)/\(d.len:Int)<=(m.cap:Int))))/\aI (α:=Sl) ⟨(bh m.base 1 1 (Int.toNat (d.len:Int))),((Int.toNat (j.len:Int))-1),((Int.toNat (d.len:Int))-1)⟩ λy=>ah none (some (sat x.base 2 n)) λz=>da b (Addr.add z 1) [y.v] (λk=>ah none (some (sat x.base 2 n)) λq=>fK k q 0 λC=>Q C (0:Int) k))))))))) h
def T1 (P:Program) (m:Option Addr) (lz:Int) (Q:(Hp->Prop)) (h:Hp):Prop:=
 (if decide (lz>=0) then
 ah none m λp=>ed h p 11 λx=>((br x.base x.len lz)/\aQ none aj h (sat x.base 1 lz) λc=>ah none m λe=>ed h e 11 λb=>((br b.base b.len lz)/\aQ none aj h (sat b.base 1 lz) λg=>ah none g λf=>aQ none fE h (Addr.add f 4) λi=>aa P xg [i.v] fE (λr a=>(((bG a (Addr.add p 11) [x.v])/\((bG a (sat x.base 1 lz) [(yP c)])/\True))/\bV P IL [(yP m),(yP c),r.v] (λd=>Q d) a)) h))
 else
 Q h)
def zwj (P:Program) (n:Int) (Q:(Int->(Hp->Prop))) (h:Hp):Prop:=
 Q (jh (yw (n+1)) 65535) h
def UW (P:Program) (x:bc) (n:Int) (ai:Int) (Q:(Int->(Hp->Prop))) (h:Hp):Prop:=
 bF P Ut [x.v,(yI n),(yI ai)] yH yH (λr b a=>Q r a) h
def NN (P:Program) (s:Sl) (Q:(Sl->(Hp->Prop))) (h:Hp):Prop:=
 gw none P (cT .eql 22 (.tmp 3) (.const yN) s.v yN) aR h λx=>(if x then
 Q ⟨none,0,0⟩ h
 else
 bP [] (λa b=>gF 1 8 [(.int .u64 0)] ⟨(some a),0,0⟩ s (λr c=>Q r c) b) h)
def zgu (P:Program) (s:Sl) (Q:(Sl->(Hp->Prop))) (h:Hp):Prop:=
 gw none P (cT .eql 24 (.tmp 3) (.const yN) s.v yN) aR h λx=>(if x then
 Q ⟨none,0,0⟩ h
 else
 bP [] (λa b=>gF 2 32 [(yI 0),yN] ⟨(some a),0,0⟩ s (λr c=>Q r c) b) h)
def zhn (P:Program) (s:Sl) (Q:(Sl->(Hp->Prop))) (h:Hp):Prop:=
 gw none P (cT .eql 75 (.tmp 3) (.const yN) s.v yN) aR h λx=>(if x then
 Q ⟨none,0,0⟩ h
 else
 bP [] (λa b=>gF 5 40 [(yI 0),(yI 0),(yI 0),(yI 0),(yI 0)] ⟨(some a),0,0⟩ s (λr c=>Q r c) b) h)
def zzv (P:Program) (a:Int) (b:Int) (Q:(Bool->(Hp->Prop))) (h:Hp):Prop:=
 Q ((fj .andNot .u64 a b)==0) h
def znu (P:Program) (s:Sl) (Q:(Sl->(Hp->Prop))) (h:Hp):Prop:=
 gw none P (cT .eql 102 (.tmp 3) (.const yN) s.v yN) aR h λx=>(if x then
 Q ⟨none,0,0⟩ h
 else
 bP [] (λa b=>gF 1 24 [yN] ⟨(some a),0,0⟩ s (λr c=>Q r c) b) h)
def zgv (P:Program) (s:Sl) (Q:(Sl->(Hp->Prop))) (h:Hp):Prop:=
 gw none P (cT .eql 80 (.tmp 3) (.const yN) s.v yN) aR h λx=>(if x then
 Q ⟨none,0,0⟩ h
 else
 bP [] (λa b=>gF 4 64 [yN,yN,(yI 0),(yI 0)] ⟨(some a),0,0⟩ s (λr c=>Q r c) b) h)
def NP (P:Program) (s:Sl) (Q:(Sl->(Hp->Prop))) (h:Hp):Prop:=
 gw none P (cT .eql 200 (.tmp 3) (.const yN) s.v yN) aR h λx=>(if x then
 Q ⟨none,0,0⟩ h
 else
 bP [] (λa b=>gF 1 8 [(yI 0)] ⟨(some a),0,0⟩ s (λr c=>Q r c) b) h)
def NL (P:Program) (s:Sl) (Q:(Sl->(Hp->Prop))) (h:Hp):Prop:=
 gw none P (cT .eql 201 (.tmp 3) (.const yN) s.v yN) aR h λx=>(if x then
 Q ⟨none,0,0⟩ h
 else
 bP [] (λa b=>gF 2 16 [(yI 0),(yI 0)] ⟨(some a),0,0⟩ s (λr c=>Q r c) b) h)
def zcb (P:Program) (s1:Sl) (s2:Sl) (eq:nH) (Q:(Bool->(Hp->Prop))) (h:Hp):Prop:=
 (if ((s1.len:Int) !=(s2.len:Int))=true then
 Q false h
 else
 aA (α1:=Int) (λd a b=>(if decide (a<(s1.len:Int)) then
 ((br s1.base s1.len a)/\aQ none aP b (sat s1.base 6 a) λx=>((br s2.base s2.len a)/\aQ none aP b (sat s2.base 6 a) λe=>eN P tb (.func (.func eq.g) eq.first eq.captured) [x.v,e.v] aR (λr c=>(if (!r)=true then
 Q false c
 else
 d (yw (a+1)) c)) b))
 else
 Q true b)) 0 h)
def zyh (P:Program) (a:Sl) (b:Sl) (Q:(Bool->(Hp->Prop))) (h:Hp):Prop:=
 aa P ztq [a.v,b.v,(.func (.func 182) #[] #[])] aR (λr c=>Q r c) h
def zuf (P:Program) (a:Sl) (b:Sl) (c:nH) (Q:(Bool->(Hp->Prop))) (h:Hp):Prop:=
 aa P zfr [a.v,b.v,(.func (.func c.g) c.first c.captured)] aR (λr d=>Q r d) h
def HZ (P:Program) (x:Int) (y:Int) (Q:(Bool->(Hp->Prop))) (h:Hp):Prop:=
 Q (x==y) h
def Vk (P:Program) (a:Sl) (b:Sl) (c:nH) (Q:(Bool->(Hp->Prop))) (h:Hp):Prop:=
 aa P zbk [a.v,b.v,(.func (.func c.g) c.first c.captured)] aR (λr d=>Q r d) h
def zqa (P:Program) (x:dv) (y:dv) (Q:(Bool->(Hp->Prop))) (h:Hp):Prop:=
 gw none P (cT .eql 121 (.tmp 5) (.tmp 6) x.v y.v) aR h λa=>Q a h
def YU (P:Program) (a:Sl) (b:Sl) (is:nH) (Q:(Bool->(Hp->Prop))) (h:Hp):Prop:=
 aa P zfg [a.v,b.v,(.func (.func is.g) is.first is.captured)] aR (λr c=>Q r c) h
def zay (P:Program) (s1:Sl) (s2:Sl) (eq:nH) (Q:(Bool->(Hp->Prop))) (h:Hp):Prop:=
 (if ((s1.len:Int) !=(s2.len:Int))=true then
 Q false h
 else
 aA (α1:=Int) (λd a b=>(if decide (a<(s1.len:Int)) then
 ((br s1.base s1.len a)/\aQ none aF b (sat s1.base 15 a) λx=>((br s2.base s2.len a)/\aQ none aF b (sat s2.base 15 a) λe=>eN P tb (.func (.func eq.g) eq.first eq.captured) [x.v,e.v] aR (λr c=>(if (!r)=true then
 Q false c
 else
 d (yw (a+1)) c)) b))
 else
 Q true b)) 0 h)
def VN (P:Program) (a:Sl) (b:Sl) (c:nH) (Q:(Bool->(Hp->Prop))) (h:Hp):Prop:=
 aa P zbz [a.v,b.v,(.func (.func c.g) c.first c.captured)] aR (λr d=>Q r d) h
def zug (P:Program) (x:bA) (y:bA) (Q:(Bool->(Hp->Prop))) (h:Hp):Prop:=
 aa P zyb [x.dy.v,y.dy.v,(.func (.func 245) #[] #[])] aR (λr a=>cP (some r) (aa P zpz [x.cq.v,y.cq.v,(.func (.func 247) #[] #[])] aR) (λc b=>aI (r&&c) λd=>aI (d&&(x.gJ==y.gJ)) λe=>aI (e&&(x.eH==y.eH)) λf=>Q f b) a) h
def Sd (P:Program) (s:Sl) (f:nH) (Q:(Int->(Hp->Prop))) (h:Hp):Prop:=
 aA (α1:=Int) (λd a b=>(if decide (a<(s.len:Int)) then
 ((br s.base s.len a)/\aQ none yH b (sat s.base 1 a) λx=>eN P tb (.func (.func f.g) f.first f.captured) [(yI x)] aR (λr c=>(if r then
 Q a c
 else
 d (yw (a+1)) c)) b)
 else
 Q (-1) b)) 0 h
def zzw (P:Program) (p:Int) (a1:Addr) (Q:(Bool->(Hp->Prop))) (h:Hp):Prop:=
 aQ (some (!(decide (p<0)))) yH h a1 λx=>aI ((decide (p<0)) || (decide (p>=x))) λy=>Q y h
def Du (P:Program) (x:bc) (n:Int) (ai:Int) (Q:(Int->(Hp->Prop))) (h:Hp):Prop:=
 bF P Dn [x.v,(yI n),(yI ai)] yH yH (λr b a=>Q r a) h
def Ww (P:Program) (l:Option Addr) (p:Int) (Q:(Int->(Bool->(Hp->Prop)))) (h:Hp):Prop:=
 ah none l λe=>ed h e 0 λx=>aA (α1:=Int) (λd a b=>(if decide (a<(x.len:Int)) then
 ((br x.base x.len a)/\aQ none fG b (sat x.base 2 a) λf=>aa P NQ [f.queue.v,(yI p)] aR (λr c=>(if r then
 Q a true c
 else
 d (yw (a+1)) c)) b)
 else
 Q 0 false b)) 0 h
def EF (P:Program) (room:Int) (s:bA) (Q:(Option Addr->(Int->(Hp->Prop)))) (h:Hp):Prop:=
 bF P Ey [(yI room)] aj yH (λr c a=>(if (c !=0)=true then
 Q none c a
 else
 aI ((decide ((s.cq.len:Int)>0))&&(decide ((s.dy.len:Int)<room))) λy=>aI ((decide ((s.dy.len:Int)>room)) || y) λd=>cP (some (!d)) (aa P Oo [(yI s.gJ),(yI 0),(yI 65535)] aR) (λr2 i=>aI (d || (!r2)) λe=>cP (some (!e)) (aa P Oo [(yI s.eH),(yI 0),(yI 65535)] aR) (λw j=>aI (e || (!w)) λf=>cP (some (!f)) (aa P K9 [s.cq.v] aR) (λr4 b=>aI (f || r4) λA=>(if A then
 Q none 4 b
 else
 aa P NO [s.dy.v] an (λx k=>((True/\True)/\aa P NK [s.cq.v] an (λz l=>ah none r λp=>da l (Addr.add p 1) [x.v] (λm=>ah none r λq=>da m (Addr.add q 2) [z.v] (λn=>ah none r λt=>da n (Addr.add t 3) [(yI s.gJ)] (λo=>((True/\True)/\ah none r λu=>da o (Addr.add u 4) [(yI s.eH)] (λg=>Q r 0 g)))))) k)) b)) j) i) a)) h
def PW (P:Program) (x:Sl) (target:ay) (cmp:nH) (Q:(Int->(Bool->(Hp->Prop)))) (h:Hp):Prop:=
 dx (α1:=Int) (α2:=Int) (λd i j b=>(if decide (i<j) then
 iJ (α1:=Int) (α2:=Int) (λk=>((0:Int)<=(1:Int)/\((br x.base x.len (yw (iC .u64 (IntKind.wrap .u64 (yw (i+j))) (1:Int))))/\aQ none aZ b (sat x.base 2 (yw (iC .u64 (IntKind.wrap .u64 (yw (i+j))) (1:Int)))) λc=>eN P tb (.func (.func cmp.g) cmp.first cmp.captured) [c.v,target.v] yH (λr a=>(if decide (r<(0:Int)) then
 k (yw ((yw (iC .u64 (IntKind.wrap .u64 (yw (i+j))) (1:Int)))+(1:Int))) j a
 else
 k i (yw (iC .u64 (IntKind.wrap .u64 (yw (i+j))) (1:Int))) a)) b)))
 (λe f a=>d e f a)
 else
 (((decide (i<(x.len:Int)))=true->(br x.base x.len i))/\aQ (some (decide (i<(x.len:Int)))) aZ b (sat x.base 2 i) λc=>cP (some (decide (i<(x.len:Int)))) (eN P tb (.func (.func cmp.g) cmp.first cmp.captured) [c.v,target.v] yH) (λr a=>aI ((decide (i<(x.len:Int)))&&(r==(0:Int))) λy=>Q i y a) b))) (0:Int) (x.len:Int) h
def zzx (P:Program) (a:ay) (b:ay) (Q:(Int->(Hp->Prop))) (h:Hp):Prop:=
 aa P ztt [(yI a.due),(yI b.due)] yH (λr c=>((True/\(True/\True))/\aa P zyc [(yI a.dP),(yI b.dP)] yH (λg d=>bP [(yI r),(yI g)] (λa1 e=>aa P La [(.slice (some a1) 2 2)] yH (λr2 f=>Q r2 f) e) d) c)) h
def zei (P:Program) (s:Sl) (i:Int) (v:Sl) (Q:(Sl->(Hp->Prop))) (h:Hp):Prop:=
 ((0<=i/\i<=(s.len:Int))/\aI (α:=Sl) ⟨(bh s.base 2 (Int.toNat i) s.cap),(s.len-(Int.toNat i)),(s.cap-(Int.toNat i))⟩ λy=>(if ((v.len:Int)==0)=true then
 Q s h
 else
 (if (i==(s.len:Int))=true then
 gF 2 16 [(yI 0),(yI 0)] s v (λr b=>Q r b) h
 else
 (if (decide ((yw ((s.len:Int)+(v.len:Int)))>(s.cap:Int)))=true then
 ((0<=i/\i<=(s.cap:Int))/\aI (α:=Sl) ⟨(bh s.base 2 0 s.cap),((Int.toNat i)-0),(s.cap-0)⟩ λa=>yX 2 16 [(yI 0),(yI 0)] a (yw ((yw ((s.len:Int)+(v.len:Int)))-i)) (λr b=>((0<=i/\i<=(r.len:Int))/\aI (α:=Sl) ⟨(bh r.base 2 (Int.toNat i) r.cap),(r.len-(Int.toNat i)),(r.cap-(Int.toNat i))⟩ λg=>gz 2 g v (λj c=>((0<=(yw (i+(v.len:Int)))/\(yw (i+(v.len:Int)))<=(r.len:Int))/\aI (α:=Sl) ⟨(bh r.base 2 (Int.toNat (yw (i+(v.len:Int)))) r.cap),(r.len-(Int.toNat (yw (i+(v.len:Int))))),(r.cap-(Int.toNat (yw (i+(v.len:Int)))))⟩ λe=>((0<=i/\i<=(s.len:Int))/\aI (α:=Sl) ⟨(bh s.base 2 (Int.toNat i) s.cap),(s.len-(Int.toNat i)),(s.cap-(Int.toNat i))⟩ λf=>gz 2 e f (λr2 d=>Q r d) c))) b)) h)
 else
 ((0<=(yw ((s.len:Int)+(v.len:Int)))/\(yw ((s.len:Int)+(v.len:Int)))<=(s.cap:Int))/\aI (α:=Sl) ⟨(bh s.base 2 0 s.cap),((Int.toNat (yw ((s.len:Int)+(v.len:Int))))-0),(s.cap-0)⟩ λa=>((0<=(yw (i+(v.len:Int)))/\(yw (i+(v.len:Int)))<=(a.len:Int))/\aI (α:=Sl) ⟨(bh a.base 2 (Int.toNat (yw (i+(v.len:Int)))) a.cap),(a.len-(Int.toNat (yw (i+(v.len:Int))))),(a.cap-(Int.toNat (yw (i+(v.len:Int)))))⟩ λg=>ku P (Extern.SlicesOverlaps.overlaps #[218,218] #[4] #[v.v,g.v]) aR (λr b=>(if (!r)=true then
 ((0<=(yw (i+(v.len:Int)))/\(yw (i+(v.len:Int)))<=(a.len:Int))/\aI (α:=Sl) ⟨(bh a.base 2 (Int.toNat (yw (i+(v.len:Int)))) a.cap),(a.len-(Int.toNat (yw (i+(v.len:Int))))),(a.cap-(Int.toNat (yw (i+(v.len:Int)))))⟩ λe=>((0<=i/\i<=(a.len:Int))/\aI (α:=Sl) ⟨(bh a.base 2 (Int.toNat i) a.cap),(a.len-(Int.toNat i)),(a.cap-(Int.toNat i))⟩ λf=>gz 2 e f (λj c=>((0<=i/\i<=(a.len:Int))/\aI (α:=Sl) ⟨(bh a.base 2 (Int.toNat i) a.cap),(a.len-(Int.toNat i)),(a.cap-(Int.toNat i))⟩ λk=>gz 2 k v (λr2 d=>Q a d) c)) b))
 else
 ((0<=(s.len:Int)/\(s.len:Int)<=(a.len:Int))/\aI (α:=Sl) ⟨(bh a.base 2 (Int.toNat (s.len:Int)) a.cap),(a.len-(Int.toNat (s.len:Int))),(a.cap-(Int.toNat (s.len:Int)))⟩ λe=>gz 2 e v (λj c=>((0<=i/\i<=(a.len:Int))/\aI (α:=Sl) ⟨(bh a.base 2 (Int.toNat i) a.cap),(a.len-(Int.toNat i)),(a.cap-(Int.toNat i))⟩ λf=>bV P zgt [f.v,(yI (v.len:Int))] (λd=>Q a d) c)) b))) h))))))
def I2 (P:Program) (x:Int) (y:Int) (Q:(Int->(Int->(Hp->Prop)))) (h:Hp):Prop:=
 bF P YH [(.int .u64 x),(.int .u64 y)] (ab .u64) (ab .u64) (λr b a=>Q r b a) h
def zuh (P:Program) (state:Int) (Q:(Bool->(Hp->Prop))) (h:Hp):Prop:=
 aI ((state !=5)&&(state !=6)) λy=>Q y h
def YW (P:Program) (p:Option Addr) (n:Int) (Q:(Bool->(Hp->Prop))) (h:Hp):Prop:=
 ah (some (decide (n>=0))) p λa=>aQ (some (decide (n>=0))) an h (Addr.add a 0) λx=>aI ((decide (n>=0))&&(decide (n<(x.len:Int)))) λy=>Q y h
def zui (P:Program) (l:Option Addr) (v:Int) (Q:(Int->(Hp->Prop))) (h:Hp):Prop:=
 aa P Zx [(yP l)] aR (λr b=>(if r then
 Q 19 b
 else
 ah none l λp=>ed b p 1 λx=>bP [(yI v)] (λa c=>gF 1 8 [(yI 0)] x ⟨(some a),1,1⟩ (λg d=>ah none l λf=>da d (Addr.add f 1) [g.v] (λe=>Q 0 e)) c) b)) h
def ZD (P:Program) (l:Option Addr) (Q:(Hp->Prop)) (h:Hp):Prop:=
 ah none l λp=>fK h p 4 λx=>aa P D6 [(yI x)] yH (λr a=>ah none l λc=>da a (Addr.add c 4) [(yI r)] (λb=>Q b)) h
def YZ (P:Program) (p:Option Addr) (proc:Int) (Q:(Bool->(Hp->Prop))) (h:Hp):Prop:=
 ah none p λc=>ed h c 0 λx=>dx (α1:=Bool) (α2:=Int) (λagain left t13 h1=>(if decide (t13<(x.len:Int)) then
 dp (α1:=Bool) (λk=>((br x.base x.len t13)/\aQ none aj h1 (sat x.base 1 t13) λd=>aa P zyd [(yP d),(yI proc)] aR (λr a=>(if r then
 k true a
 else
 k left a)) h1))
 (λb a=>again b (yw (t13+1)) a)
 else
 Q left h1)) false 0 h
def Y1 (P:Program) (l:Option Addr) (p:Int) (Q:(Sl->(Hp->Prop))) (h:Hp):Prop:=
 ah none l λw=>ed h w 0 λx=>aA (α1:=Int) (λq c f=>(if decide (c<(x.len:Int)) then
 cC (λk=>ah none l λy=>ed f y 0 λe=>((br e.base e.len c)/\aQ none an f (Addr.add (sat e.base 2 c) 1) λB=>aa P Up [B.v,(yI p)] yH (λr b=>(if decide (r>=0) then
 ah none l λo=>ed b o 0 λi=>ah none l λz=>ed b z 0 λn=>((br n.base n.len c)/\aQ none an b (Addr.add (sat n.base 2 c) 1) λC=>aa P zox [C.v,(yI r),(yI (yw (r+1)))] an (λm d=>(((bG d (Addr.add o 0) [i.v])/\True)/\((br i.base i.len c)/\da d (Addr.add (sat i.base 2 c) 1) [m.v] (λj=>k j)))) b)
 else
 k b)) f))
 (λb=>q (yw (c+1)) b)
 else
 aa P NZ [(yP l),(yI p)] an (λr b=>dx (α1:=Sl) (α2:=Int) (λs out g d=>(if decide (g<(r.len:Int)) then
 ((br r.base r.len g)/\aQ none yH d (sat r.base 1 g) λe=>bF P Jq [(yP l),(yI e),(yI p)] yH yH (λm r2 j=>bP [(yI e),(yI m)] (λa t=>gF 2 16 [(yI 0),(yI 0)] ⟨out.base,out.len,out.cap⟩ ⟨(some a),1,1⟩ (λA u=>s A (yw (g+1)) u) t) j) d)
 else
 Q ⟨out.base,out.len,out.cap⟩ d)) ⟨none,0,0⟩ 0 b) f)) 0 h
def zuj (P:Program) (p:Option Addr) (Q:(Sl->(Hp->Prop))) (h:Hp):Prop:=
 ah none p λf=>ed h f 0 λx=>dx (α1:=Sl) (α2:=Int) (λc out a b=>(if decide (a<(x.len:Int)) then
 ((br x.base x.len a)/\aQ none aj b (sat x.base 1 a) λi=>aa P IS [(yP i)] an (λr d=>gF 2 16 [(yI 0),(yI 0)] ⟨out.base,out.len,out.cap⟩ r (λg e=>c g (yw (a+1)) e) d) b)
 else
 Q ⟨out.base,out.len,out.cap⟩ b)) ⟨none,0,0⟩ 0 h
def Sz (P:Program) (m:Option Addr) (p:Option Addr) (e:Int) (Q:(Hp->Prop)) (h:Hp):Prop:=
 ah none p λc=>aQ none fE h (Addr.add c 4) λx=>ah none p λd=>ed h d 2 λf=>aa P Na [x.v,f.v,(yI e)] fE (λr a=>bV P IL [(yP m),(yP p),r.v] (λb=>Q b) a) h
def VO (P:Program) (a:Int) (n:Int) (Q:(Bool->(Hp->Prop))) (h:Hp):Prop:=
 aI ((decide (n>=0))&&(decide (n<=63))) λy=>((y=true->0<=n)/\aI (y&&((fj .and .u64 (iC .u64 a n) 1)==1)) λb=>Q b h)
def F6 (P:Program) (c:bm) (l:Sl) (Q:(bc->(Bool->(Hp->Prop)))) (h:Hp):Prop:=
 aI ((decide (c.PC<0)) || (decide (c.PC>=(l.len:Int)))) λy=>(if y then
 Q ⟨0,0,0,0,0⟩ false h
 else
 ((br l.base l.len c.PC)/\aQ none bn h (sat l.base 5 c.PC) λx=>Q x true h))
def Ee (P:Program) (x:bc) (r:iK) (Q:(fC->(Bool->(Bool->(Hp->Prop))))) (h:Hp):Prop:=
 (if (x.Op==0)=true then
 Q ⟨1,0,0⟩ true true h
 else
 (if (x.Op==24)=true then
 ((0<=x.B/\x.B<8)/\∃a:Int,((List.get?Internal (α:=Value) [(yI r.a0),(yI r.a1),(yI r.a2),(yI r.a3),(yI r.a4),(yI r.a5),(yI r.a6),(yI r.a7)] (0+((Int.toNat x.B)*1)))=(some (yI a))/\((0<=x.C/\x.C<8)/\∃b:Int,((List.get?Internal (α:=Value) [(yI r.a0),(yI r.a1),(yI r.a2),(yI r.a3),(yI r.a4),(yI r.a5),(yI r.a6),(yI r.a7)] (0+((Int.toNat x.C)*1)))=(some (yI b))/\Q ⟨2,a,b⟩ true true h))))
 else
 (if (x.Op==25)=true then
 Q ⟨3,0,0⟩ true true h
 else
 (if (x.Op==26)=true then
 Q ⟨4,0,0⟩ true true h
 else
 (if (x.Op==27)=true then
 ((0<=x.A/\x.A<8)/\∃a:Int,((List.get?Internal (α:=Value) [(yI r.a0),(yI r.a1),(yI r.a2),(yI r.a3),(yI r.a4),(yI r.a5),(yI r.a6),(yI r.a7)] (0+((Int.toNat x.A)*1)))=(some (yI a))/\Q ⟨5,0,a⟩ false true h))
 else
 (if (x.Op==28)=true then
 ((0<=x.A/\x.A<8)/\∃a:Int,((List.get?Internal (α:=Value) [(yI r.a0),(yI r.a1),(yI r.a2),(yI r.a3),(yI r.a4),(yI r.a5),(yI r.a6),(yI r.a7)] (0+((Int.toNat x.A)*1)))=(some (yI a))/\Q ⟨6,0,a⟩ true true h))
 else
 (if (x.Op==29)=true then
 Q ⟨7,x.iV,0⟩ true true h
 else
 (if (x.Op==30)=true then
 Q ⟨8,x.iV,0⟩ false true h
 else
 (if (x.Op==31)=true then
 ((0<=x.A/\x.A<8)/\∃a:Int,((List.get?Internal (α:=Value) [(yI r.a0),(yI r.a1),(yI r.a2),(yI r.a3),(yI r.a4),(yI r.a5),(yI r.a6),(yI r.a7)] (0+((Int.toNat x.A)*1)))=(some (yI a))/\Q ⟨9,0,a⟩ false true h))
 else
 Q ⟨0,0,0⟩ false false h)))))))))
def zwk (P:Program) (c:Option Addr) (a:Int) (v:Int) (Q:(Hp->Prop)) (h:Hp):Prop:=
 aI ((decide (a>=0))&&(decide (a<8))) λy=>(if y then
 ah none c λp=>((0<=a/\a<8)/\da h (Addr.add (Addr.add p 1) ((Int.toNat a)*1)) [(yI v)] (λb=>Q b))
 else
 Q h)
def F7 (P:Program) (op:Int) (b:Int) (c:Int) (Q:(Int->(Int->(Hp->Prop)))) (h:Hp):Prop:=
 (if (op==3)=true then
 Q (yw (b+c)) 0 h
 else
 (if (op==4)=true then
 Q (yw (b-c)) 0 h
 else
 (if (op==5)=true then
 Q (yw (b*c)) 0 h
 else
 (if (op==6)=true then
 aa P zwh [(yI b),(yI c)] yH (λr a=>Q r 0 a) h
 else
 (if (op==7)=true then
 aa P zwh [(yI b),(yI c)] yH (λr a=>Q (yw (b-(yw (r*c)))) 0 a) h
 else
 (if (op==8)=true then
 Q (fj .and .i64 b c) 0 h
 else
 (if (op==9)=true then
 Q (fj .or .i64 b c) 0 h
 else
 (if (op==10)=true then
 Q (fj .xor .i64 b c) 0 h
 else
 (if (op==11)=true then
 aa P Nb [(yI b),(yI c)] yH (λr a=>Q r 0 a) h
 else
 (if (op==12)=true then
 aa P LZ [(yI b),(yI c)] yH (λr a=>Q r 0 a) h
 else
 (if (op==13)=true then
 aa P Fp [(.bool (decide (b<c)))] yH (λr a=>Q r 0 a) h
 else
 (if (op==14)=true then
 aa P Fp [(.bool (b==c))] yH (λr a=>Q r 0 a) h
 else
 Q 0 9 h))))))))))))
def F8 (P:Program) (op:Int) (b:Int) (c:Int) (Q:(Int->(Int->(Hp->Prop)))) (h:Hp):Prop:=
 aa P D7 [(yI b)] (jR .f64) (λr i=>aa P D7 [(yI c)] (jR .f64) (λg a=>(if (op==15)=true then
 ku P (cT .add 351 (.tmp 17) (.tmp 18) (.float .f64 r) (.float .f64 g)) (jR .f64) (λr2 d=>aa P Gy [(.float .f64 r2)] yH (λf e=>Q f 0 e) d) a
 else
 (if (op==16)=true then
 ku P (cT .sub 351 (.tmp 23) (.tmp 24) (.float .f64 r) (.float .f64 g)) (jR .f64) (λr2 d=>aa P Gy [(.float .f64 r2)] yH (λf e=>Q f 0 e) d) a
 else
 (if (op==17)=true then
 ku P (cT .mul 351 (.tmp 29) (.tmp 30) (.float .f64 r) (.float .f64 g)) (jR .f64) (λr2 d=>aa P Gy [(.float .f64 r2)] yH (λf e=>Q f 0 e) d) a
 else
 (if (op==18)=true then
 ku P (cT .quo 351 (.tmp 35) (.tmp 36) (.float .f64 r) (.float .f64 g)) (jR .f64) (λr2 d=>aa P Gy [(.float .f64 r2)] yH (λf e=>Q f 0 e) d) a
 else
 (if (op==19)=true then
 gw none P (cT .lss 351 (.tmp 41) (.tmp 42) (.float .f64 r) (.float .f64 g)) aR a λx=>(if x then
 Q 1 0 a
 else
 Q 0 0 a)
 else
 (if (op==20)=true then
 gw none P (convert 2 351 (yI b)) (jR .f64) a λx=>aa P Gy [(.float .f64 x)] yH (λr2 d=>Q r2 0 d) a
 else
 (if (op==21)=true then
 aa P L4 [(.float .f64 r)] yH (λr2 d=>Q r2 0 d) a
 else
 Q 0 9 a)))))))) i) h
def Wz (P:Program) (t:Option Addr) (i:Int) (j:Int) (Q:(Bool->(Hp->Prop))) (h:Hp):Prop:=
 aa P Zy [(yP t),(yI i)] aR (λr c=>cP (some r) (aa P Zy [(yP t),(yI j)] aR) (λf a=>aI (r&&f) λy=>ah (some y) t λp=>aQ (some y) an a (Addr.add p 0) λx=>((y=true->(br x.base x.len i))/\aQ (some y) (ab .u64) a (sat x.base 1 i) λg=>ah (some y) t λe=>aQ (some y) an a (Addr.add e 0) λb=>((y=true->(br b.base b.len j))/\aQ (some y) (ab .u64) a (sat b.base 1 j) λk=>cP (some y) (aa P zzo [(.int .u64 g),(.int .u64 k)] aR) (λr2 d=>aI (y&&r2) λl=>Q l d) a))) c) h
def Tl (P:Program) (m:Option Addr) (p:Option Addr) (q:Option Addr) (v:Int) (Q:(Hp->Prop)) (h:Hp):Prop:=
 ah none q λe=>fK h e 3 λx=>aa P Of [(yI x)] aR (λr b=>(if (!r)=true then
 bV P xb [(yP m),(yP p),(yI 2)] (λa=>Q a) b
 else
 ah none q λf=>mH b f 14 λo=>ah none p λg=>fK b g 1 λs=>aa P Oe [(yP o),(yI s),(yI v)] yH (λn a=>(if (n !=0)=true then
 ah none q λi=>mH a i 14 λt=>ah none p λj=>fK a j 1 λu=>ah none p λk=>fK a k 0 λw=>aa P HX [(yP t),(yI u),(yI w),(yI v)] yH (λr2 c=>ah none p λl=>da c (Addr.add l 3) [(yI 2)] (λd=>Q d)) a
 else
 bV P IJ [(yP m),(yP q)] (λc=>bV P xb [(yP m),(yP p),(yI 0)] (λd=>Q d) c) a)) b)) h
def EH (P:Program) (c:bm) (code:Sl) (v:Int) (from_:Int) (Q:(bm->(Hp->Prop))) (h:Hp):Prop:=
 bP [(yI c.PC),(yI c.bW),(yI c.bX),(yI c.bY),(yI c.bZ),(yI c.cc),(yI c.cd),(yI c.cf),(yI c.cg)] (λa e=>cC (λk=>aQ none fE e a λx=>bF P wK [x.v,code.v] bn aR (λr g b=>(if g then
 bV P wi [(yP (some a)),(yI r.A),(yI v)] (λd=>bV P wi [(yP (some a)),(yI r.B),(yI from_)] (λf=>k f) d) b
 else
 k b)) e)
 (λb=>aQ none fE b a λx=>aa P xg [x.v] fE (λr d=>Q r d) b)) h
def zej (P:Program) (s:Sl) (i:Int) (j:Int) (Q:(Sl->(Hp->Prop))) (h:Hp):Prop:=
 ((0<=i/\(i<=j/\(j<=(s.len:Int)/\(s.len:Int)<=(s.cap:Int))))/\aI (α:=Sl) ⟨(bh s.base 2 (Int.toNat i) (Int.toNat (s.len:Int))),((Int.toNat j)-(Int.toNat i)),((Int.toNat (s.len:Int))-(Int.toNat i))⟩ λy=>(if (i==j)=true then
 Q s h
 else
 ((0<=i/\i<=(s.cap:Int))/\aI (α:=Sl) ⟨(bh s.base 2 0 s.cap),((Int.toNat i)-0),(s.cap-0)⟩ λc=>((0<=j/\j<=(s.len:Int))/\aI (α:=Sl) ⟨(bh s.base 2 (Int.toNat j) s.cap),(s.len-(Int.toNat j)),(s.cap-(Int.toNat j))⟩ λd=>gF 2 16 [(yI 0),(yI 0)] c d (λr a=>((0<=(r.len:Int)/\((r.len:Int)<=(s.len:Int)/\(s.len:Int)<=(r.cap:Int)))/\aI (α:=Sl) ⟨(bh r.base 2 (Int.toNat (r.len:Int)) r.cap),((Int.toNat (s.len:Int))-(Int.toNat (r.len:Int))),(r.cap-(Int.toNat (r.len:Int)))⟩ λe=>mY P (Builtin.clear_ #[218] 0 #[e.v]) uf (λb=>Q r b) a)) h))))
def WC (P:Program) (l:Option Addr) (n:Int) (p:Int) (Q:(Int->(Hp->Prop))) (h:Hp):Prop:=
 ah (some (!(decide (n<0)))) l λa=>aQ (some (!(decide (n<0)))) an h (Addr.add a 0) λx=>aI ((decide (n<0)) || (decide (n>=(x.len:Int)))) λy=>(if y then
 Q 2 h
 else
 (if decide (p<0) then
 Q 1 h
 else
 Q 0 h))
def UY (P:Program) (x:bc) (n:Int) (ai:Int) (Q:(Int->(Int->(Hp->Prop)))) (h:Hp):Prop:=
 aI ((decide (x.Op<0)) || (decide (x.Op>=34))) λy=>(if y then
 Q 9 0 h
 else
 pP P TN [(yI x.Op)] aR aR aR aR (λr i r2 j g=>aa P NR [(yI x.A),(.bool r)] yH (λd b=>(if (d !=0)=true then
 Q d 1 b
 else
 aa P NR [(yI x.B),(.bool i)] yH (λe c=>(if (e !=0)=true then
 Q e 2 c
 else
 aa P NR [(yI x.C),(.bool r2)] yH (λf a=>(if (f !=0)=true then
 Q f 3 a
 else
 aI ((!j)&&(x.iV !=0)) λk=>(if k then
 Q 11 4 a
 else
 aI ((x.Op==22) || (x.Op==23)) λl=>aI ((decide (x.iV<0)) || (decide (x.iV>n))) λm=>aI (l&&m) λo=>(if o then
 Q 12 4 a
 else
 aI ((x.Op==29) || (x.Op==30)) λp=>aI ((decide (x.iV<0)) || (decide (x.iV>=ai))) λq=>aI (p&&q) λs=>(if s then
 Q 13 4 a
 else
 Q 0 0 a))))) c)) b)) g) h)
def zfs (P:Program) (s1:Sl) (s2:Sl) (eq:nH) (Q:(Bool->(Hp->Prop))) (h:Hp):Prop:=
 (if ((s1.len:Int) !=(s2.len:Int))=true then
 Q false h
 else
 aA (α1:=Int) (λd a b=>(if decide (a<(s1.len:Int)) then
 ((br s1.base s1.len a)/\aQ none yH b (sat s1.base 1 a) λx=>((br s2.base s2.len a)/\aQ none yH b (sat s2.base 1 a) λe=>eN P tb (.func (.func eq.g) eq.first eq.captured) [(yI x),(yI e)] aR (λr c=>(if (!r)=true then
 Q false c
 else
 d (yw (a+1)) c)) b))
 else
 Q true b)) 0 h)
def zbm (P:Program) (s1:Sl) (s2:Sl) (eq:nH) (Q:(Bool->(Hp->Prop))) (h:Hp):Prop:=
 (if ((s1.len:Int) !=(s2.len:Int))=true then
 Q false h
 else
 aA (α1:=Int) (λd a b=>(if decide (a<(s1.len:Int)) then
 ((br s1.base s1.len a)/\aQ none cK b (sat s1.base 3 a) λx=>((br s2.base s2.len a)/\aQ none cK b (sat s2.base 3 a) λe=>eN P tb (.func (.func eq.g) eq.first eq.captured) [x.v,e.v] aR (λr c=>(if (!r)=true then
 Q false c
 else
 d (yw (a+1)) c)) b))
 else
 Q true b)) 0 h)
def zfh (P:Program) (s1:Sl) (s2:Sl) (eq:nH) (Q:(Bool->(Hp->Prop))) (h:Hp):Prop:=
 (if ((s1.len:Int) !=(s2.len:Int))=true then
 Q false h
 else
 aA (α1:=Int) (λd a b=>(if decide (a<(s1.len:Int)) then
 ((br s1.base s1.len a)/\aQ none an b (sat s1.base 1 a) λx=>((br s2.base s2.len a)/\aQ none an b (sat s2.base 1 a) λe=>eN P tb (.func (.func eq.g) eq.first eq.captured) [x.v,e.v] aR (λr c=>(if (!r)=true then
 Q false c
 else
 d (yw (a+1)) c)) b))
 else
 Q true b)) 0 h)
def zcc (P:Program) (s1:Sl) (s2:Sl) (eq:nH) (Q:(Bool->(Hp->Prop))) (h:Hp):Prop:=
 (if ((s1.len:Int) !=(s2.len:Int))=true then
 Q false h
 else
 aA (α1:=Int) (λd a b=>(if decide (a<(s1.len:Int)) then
 ((br s1.base s1.len a)/\aQ none aX b (sat s1.base 4 a) λx=>((br s2.base s2.len a)/\aQ none aX b (sat s2.base 4 a) λe=>eN P tb (.func (.func eq.g) eq.first eq.captured) [x.v,e.v] aR (λr c=>(if (!r)=true then
 Q false c
 else
 d (yw (a+1)) c)) b))
 else
 Q true b)) 0 h)
def Y3 (P:Program) (a:Sl) (b:Sl) (c:nH) (Q:(Bool->(Hp->Prop))) (h:Hp):Prop:=
 aa P zdm [a.v,b.v,(.func (.func c.g) c.first c.captured)] aR (λr d=>Q r d) h
def zwa (P:Program) (x:Int) (y:Int) (Q:(Bool->(Hp->Prop))) (h:Hp):Prop:=
 Q (x==y) h
def U0 (P:Program) (a:Sl) (b:Sl) (c:nH) (Q:(Bool->(Hp->Prop))) (h:Hp):Prop:=
 aa P zbb [a.v,b.v,(.func (.func c.g) c.first c.captured)] aR (λr d=>Q r d) h
def zpf (P:Program) (x:bB) (y:bB) (Q:(Bool->(Hp->Prop))) (h:Hp):Prop:=
 gw none P (cT .eql 254 (.tmp 5) (.tmp 6) x.v y.v) aR h λa=>Q a h
def Dv (P:Program) (x:bc) (n:Int) (ai:Int) (Q:(Int->(Int->(Hp->Prop)))) (h:Hp):Prop:=
 aI ((decide (x.Op<0)) || (decide (x.Op>=34))) λy=>(if y then
 Q 9 0 h
 else
 pP P zzq [(yI x.Op)] aR aR aR aR (λr j r2 k g=>aa P Og [(.bool r),(yI x.A)] yH (λd a=>(if (d !=0)=true then
 Q d 1 a
 else
 aa P Og [(.bool j),(yI x.B)] yH (λe b=>(if (e !=0)=true then
 Q e 2 b
 else
 aa P Og [(.bool r2),(yI x.C)] yH (λf c=>(if (f !=0)=true then
 Q f 3 c
 else
 aa P Kn [x.v,(.bool k),(yI n),(yI ai)] yH (λl i=>Q l 4 i) c)) b)) a)) g) h)
def EI (P:Program) (room:Int) (Q:(Option Addr->(Int->(Hp->Prop)))) (h:Hp):Prop:=
 aa P Oo [(yI room),(yI 1),(yI 64)] aR (λr b=>(if (!r)=true then
 Q none 1 b
 else
 bP [(yI room),yN,yN,(yI 0),(yI 0)] (λa c=>Q (some a) 0 c) b)) h
def Oq (P:Program) (n:Int) (from_:Int) (to:Int) (Q:(Bool->(Hp->Prop))) (h:Hp):Prop:=
 aI ((decide (n>=from_))&&(decide (n<=to))) λy=>Q y h
def Dw (P:Program) (l:Sl) (Q:(Bool->(Hp->Prop))) (h:Hp):Prop:=
 wI  (λr e=>aA (α1:=Int) (λd b a=>(if decide (b<(l.len:Int)) then
 ((br l.base l.len b)/\aQ none aH a (sat l.base 2 b) λx=>nJ none (.int .i64) yH (yI 0) r (yI x.dB) a λf ok=>sV (.int .i64) r (yI x.dB) (yI (yw (f+1))) (λc=>nJ none (.int .i64) yH (yI 0) r (yI x.dB) c λg i=>(if decide (g>1) then
 Q true c
 else
 d (yw (b+1)) c)) a)
 else
 Q false a)) 0 e) h
def Dx (P:Program) (fh:Sl) (Q:(Int->(Hp->Prop))) (h:Hp):Prop:=
 aA (α1:=Int) (λc b a=>(if decide (b<(fh.len:Int)) then
 ((br fh.base fh.len b)/\aQ none yH a (sat fh.base 1 b) λx=>(if (x !=0)=true then
 Q x a
 else
 c (yw (b+1)) a))
 else
 Q 0 a)) 0 h
def WG (P:Program) (x:Int) (y:Int) (Q:(Int->(Hp->Prop))) (h:Hp):Prop:=
 aa P YK [(yI x)] aR (λr c=>aa P YK [(yI y)] aR (λb a=>(if r then
 (if b then
 Q 0 a
 else
 Q (-1) a)
 else
 (if b then
 Q 1 a
 else
 (if decide (x<y) then
 Q (-1) a
 else
 (if decide (x>y) then
 Q 1 a
 else
 Q 0 a))))) c) h
def Y5 (P:Program) (x:Int) (y:Int) (Q:(Int->(Hp->Prop))) (h:Hp):Prop:=
 aa P ztu [(yI x)] aR (λr c=>aa P ztu [(yI y)] aR (λb a=>(if r then
 (if b then
 Q 0 a
 else
 Q (-1) a)
 else
 (if b then
 Q 1 a
 else
 (if decide (x<y) then
 Q (-1) a
 else
 (if decide (x>y) then
 Q 1 a
 else
 Q 0 a))))) c) h
def Y6 (P:Program) (x:Int) (y:Int) (Q:(Int->(Int->(Hp->Prop)))) (h:Hp):Prop:=
 ((0:Int)<=(32:Int)/\((0:Int)<=(32:Int)/\((0:Int)<=(32:Int)/\((0:Int)<=(32:Int)/\((0:Int)<=(32:Int)/\Q (IntKind.wrap .u64 ((IntKind.wrap .u64 ((IntKind.wrap .u64 ((iC .u64 x (32:Int))*(iC .u64 y (32:Int))))+(iC .u64 (IntKind.wrap .u64 ((IntKind.wrap .u64 ((iC .u64 x (32:Int))*(fj .and .u64 y (4294967295:Int))))+(iC .u64 (IntKind.wrap .u64 ((fj .and .u64 x (4294967295:Int))*(fj .and .u64 y (4294967295:Int)))) (32:Int)))) (32:Int))))+(iC .u64 (IntKind.wrap .u64 ((fj .and .u64 (IntKind.wrap .u64 ((IntKind.wrap .u64 ((iC .u64 x (32:Int))*(fj .and .u64 y (4294967295:Int))))+(iC .u64 (IntKind.wrap .u64 ((fj .and .u64 x (4294967295:Int))*(fj .and .u64 y (4294967295:Int)))) (32:Int)))) (4294967295:Int))+(IntKind.wrap .u64 ((fj .and .u64 x (4294967295:Int))*(iC .u64 y (32:Int)))))) (32:Int)))) (IntKind.wrap .u64 (x*y)) h)))))
def ZE (P:Program) (l:Option Addr) (Q:(Bool->(Hp->Prop))) (h:Hp):Prop:=
 ah none l λp=>ed h p 1 λx=>ah none l λa=>fK h a 0 λb=>Q (decide ((x.len:Int)>=b)) h
def Ef (P:Program) (n:Int) (Q:(Int->(Hp->Prop))) (h:Hp):Prop:=
 Q (jh (yw (n+1)) 65535) h
def Y7 (P:Program) (l:Option Addr) (p:Int) (Q:(Bool->(Hp->Prop))) (h:Hp):Prop:=
 aa P YM [(yP l),(yI p)] yH (λr a=>(if decide (r<0) then
 Q false a
 else
 ah none l λd=>ed a d 2 λx=>aa P zet [x.v,(yI r),(yI (yw (r+1)))] an (λf b=>ah none l λe=>da b (Addr.add e 2) [f.v] (λc=>Q true c)) a)) h
def T2 (P:Program) (s:Sl) (i:Int) (j:Int) (Q:(Sl->(Hp->Prop))) (h:Hp):Prop:=
 ((0<=i/\(i<=j/\(j<=(s.len:Int)/\(s.len:Int)<=(s.cap:Int))))/\aI (α:=Sl) ⟨(bh s.base 1 (Int.toNat i) (Int.toNat (s.len:Int))),((Int.toNat j)-(Int.toNat i)),((Int.toNat (s.len:Int))-(Int.toNat i))⟩ λy=>(if (i==j)=true then
 Q s h
 else
 ((0<=i/\i<=(s.cap:Int))/\aI (α:=Sl) ⟨(bh s.base 1 0 s.cap),((Int.toNat i)-0),(s.cap-0)⟩ λc=>((0<=j/\j<=(s.len:Int))/\aI (α:=Sl) ⟨(bh s.base 1 (Int.toNat j) s.cap),(s.len-(Int.toNat j)),(s.cap-(Int.toNat j))⟩ λd=>gF 1 8 [(yI 0)] c d (λr a=>((0<=(r.len:Int)/\((r.len:Int)<=(s.len:Int)/\(s.len:Int)<=(r.cap:Int)))/\aI (α:=Sl) ⟨(bh r.base 1 (Int.toNat (r.len:Int)) r.cap),((Int.toNat (s.len:Int))-(Int.toNat (r.len:Int))),(r.cap-(Int.toNat (r.len:Int)))⟩ λe=>mY P (Builtin.clear_ #[23] 0 #[e.v]) uf (λb=>Q r b) a)) h))))
def zuk (P:Program) (l:Option Addr) (Q:(Sl->(Hp->Prop))) (h:Hp):Prop:=
 ah none l λp=>ed h p 2 λx=>ah none l λd=>ed h d 2 λb=>ah none l λe=>ed h e 2 λa=>((0<=(b.len:Int)/\((b.len:Int)<=(a.len:Int)/\(a.len:Int)<=(x.cap:Int)))/\aI (α:=Sl) ⟨(bh x.base 2 0 (Int.toNat (a.len:Int))),((Int.toNat (b.len:Int))-0),((Int.toNat (a.len:Int))-0)⟩ λy=>ah none l λf=>da h (Addr.add f 2) [yN] (λc=>Q y c))
def EJ (P:Program) (c:bm) (code:Sl) (g:Int) (Q:(bm->(Hp->Prop))) (h:Hp):Prop:=
 bP [(yI c.PC),(yI c.bW),(yI c.bX),(yI c.bY),(yI c.bZ),(yI c.cc),(yI c.cd),(yI c.cf),(yI c.cg)] (λa e=>cC (λk=>aQ none fE e a λx=>bF P wK [x.v,code.v] bn aR (λr f b=>(if f then
 bV P wi [(yP (some a)),(yI r.A),(yI g)] (λd=>k d) b
 else
 k b)) e)
 (λb=>aQ none fE b a λx=>aa P xg [x.v] fE (λr d=>Q r d) b)) h
def zwl (P:Program) (b:Int) (c:Int) (Q:(Int->(Hp->Prop))) (h:Hp):Prop:=
 (if (c==0)=true then
 Q 0 h
 else
 (if (c==(-1))=true then
 Q (yw (0-b)) h
 else
 (c≠0/\Q (yw (Int.tdiv b c)) h)))
def Nd (P:Program) (b:Int) (c:Int) (Q:(Int->(Hp->Prop))) (h:Hp):Prop:=
 (if decide (c<0) then
 Q b h
 else
 (0<=(IntKind.wrap .u64 c)/\Q (xF .i64 b (IntKind.wrap .u64 c)) h))
def L5 (P:Program) (b:Int) (c:Int) (Q:(Int->(Hp->Prop))) (h:Hp):Prop:=
 (if decide (c<0) then
 Q b h
 else
 (0<=(IntKind.wrap .u64 c)/\Q (iC .i64 b (IntKind.wrap .u64 c)) h))
def Fv (P:Program) (a:Bool) (Q:(Int->(Hp->Prop))) (h:Hp):Prop:=
 (if a then
 Q 1 h
 else
 Q 0 h)
def Eg (P:Program) (bits:Int) (Q:(Nat->(Hp->Prop))) (h:Hp):Prop:=
 ku P (Extern.MathFloatBits.float64frombits #[(.int .u64 (IntKind.wrap .u64 bits))]) (jR .f64) (λr a=>Q r a) h
def EK (P:Program) (f:Nat) (Q:(Int->(Hp->Prop))) (h:Hp):Prop:=
 gw none P (cT .neq 351 (.tmp 3) (.tmp 4) (.float .f64 f) (.float .f64 f)) aR h λx=>(if x then
 Q 9221120237041090560 h
 else
 ku P (Extern.MathFloatBits.float64bits #[(.float .f64 f)]) (ab .u64) (λr a=>Q (yw r) a) h)
def Eh (P:Program) (f:Nat) (Q:(Int->(Hp->Prop))) (h:Hp):Prop:=
 gw none P (cT .neq 351 (.tmp 4) (.tmp 5) (.float .f64 f) (.float .f64 f)) aR h λx=>(if x then
 Q 0 h
 else
 gw none P (cT .geq 351 (.tmp 8) (.const (.float .f64 4890909195324358656)) (.float .f64 f) (.float .f64 4890909195324358656)) aR h λa=>(if a then
 Q 9223372036854775807 h
 else
 gw none P (cT .lss 351 (.tmp 11) (.const (.float .f64 14114281232179134464)) (.float .f64 f) (.float .f64 14114281232179134464)) aR h λb=>(if b then
 Q (-9223372036854775808) h
 else
 gw none P (convert 351 2 (.float .f64 f)) yH h λc=>Q c h)))
def ZG (P:Program) (t:Option Addr) (i:Int) (Q:(Bool->(Hp->Prop))) (h:Hp):Prop:=
 ah (some (decide (i>=0))) t λp=>aQ (some (decide (i>=0))) an h (Addr.add p 0) λx=>aI ((decide (i>=0))&&(decide (i<(x.len:Int)))) λy=>Q y h
def ZI (P:Program) (p:Option Addr) (lane:Int) (proc:Int) (v:Int) (Q:(Int->(Hp->Prop))) (h:Hp):Prop:=
 aa P N5 [(yP p),(yI lane)] aR (λr b=>(if (!r)=true then
 Q 2 b
 else
 aa P zyf [(yP p),(yI proc)] yH (λe a=>(if decide (e>=0) then
 Q 8 a
 else
 ah none p λd=>ed a d 0 λx=>((br x.base x.len lane)/\aQ none aj a (sat x.base 1 lane) λf=>aa P HY [(yP f),(yI proc),(yI v)] yH (λr2 c=>Q r2 c) a))) b)) h
def zyi (P:Program) (p:Option Addr) (Q:(nH->(Hp->Prop))) (h:Hp):Prop:=
 ah none p λf=>fK h f 1 λx=>ah none p λc=>ed h c 0 λd=>bP [(yI 0)] (λa b=>(((bG b (Addr.add f 1) [(yI x)])/\((bG b (Addr.add c 0) [d.v])/\True))/\da b a [(yI x)] (λe=>(((bG e (Addr.add c 0) [d.v])/\True)/\bP [(yI (d.len:Int))] (λa1 g=>Q ⟨312, #[], #[(yP (some a1)),(yP (some a))]⟩ g) e)))) h
def zul (P:Program) (l:Option Addr) (Q:(Int->(Hp->Prop))) (h:Hp):Prop:=
 ah none l λp=>ed h p 1 λx=>Q (x.len:Int) h
def ZJ (P:Program) (l:Option Addr) (Q:(Int->(bB->(Bool->(Int->(Hp->Prop)))))) (h:Hp):Prop:=
 ah none l λp=>ed h p 1 λx=>(if ((x.len:Int)==(0:Int))=true then
 Q (0:Int) ⟨(0:Int),(0:Int)⟩ false (21:Int) h
 else
 ah none l λB=>ed h B 1 λf=>((br f.base f.len (0:Int))/\aQ none yH h (sat f.base 1 (0:Int)) λt=>ah none l λH=>ed h H 1 λS=>ah none l λI=>ed h I 1 λc=>(((0:Int)<=(1:Int)/\(1:Int)<=(c.len:Int))/\aI (α:=Sl) ⟨(bh c.base 1 1 c.cap),(c.len-1),(c.cap-1)⟩ λy=>gz 1 S y (λr j=>ah none l λJ=>ed j J 1 λe=>(((0:Int)<=r/\r<=(e.cap:Int))/\aI (α:=Sl) ⟨(bh e.base 1 0 e.cap),((Int.toNat r)-0),(e.cap-0)⟩ λV=>ah none l λK=>da j (Addr.add K 1) [V.v] (λk=>ah none l λL=>fK k L 3 λT=>aa P D6 [(yI T)] yH (λR w=>ah none l λM=>da w (Addr.add M 3) [(yI R)] (λb=>ah none l λN=>ed b N 2 λU=>(if decide ((U.len:Int)>(0:Int)) then
 ah none l λO=>ed b O 2 λi=>((br i.base i.len (0:Int))/\aQ none aH b (sat i.base 2 (0:Int)) λu=>ah none l λC=>ed b C 2 λq=>ah none l λD=>ed b D 2 λg=>ah none l λE=>ed b E 2 λd=>(((0:Int)<=(1:Int)/\((1:Int)<=(g.len:Int)/\((g.len:Int)<=(d.len:Int)/\(d.len:Int)<=(q.cap:Int))))/\aI (α:=Sl) ⟨(bh q.base 2 1 (Int.toNat (d.len:Int))),((Int.toNat (g.len:Int))-1),((Int.toNat (d.len:Int))-1)⟩ λW=>ah none l λF=>da b (Addr.add F 2) [W.v] (λm=>ah none l λo=>ed m o 1 λs=>bP [(yI u.dV)] (λa n=>(((bG n (Addr.add o 1) [s.v])/\True)/\gF 1 8 [(yI (0:Int))] s ⟨(some a),1,1⟩ (λr2 z=>ah none l λG=>da z (Addr.add G 1) [r2.v] (λA=>Q t u true (0:Int) A)) n)) m)))
 else
 Q t ⟨(0:Int),(0:Int)⟩ false (0:Int) b))) k))) h)))
def T4 (P:Program) (op:Int) (Q:(Bool->(Bool->(Bool->(Bool->(Hp->Prop)))))) (h:Hp):Prop:=
 (if (op==1)=true then
 Q true false false true h
 else
 dp (α1:=Bool) (λk=>(if (op==2)=true then
 k (op==2) h
 else
 (if (op==20)=true then
 k (op==20) h
 else
 (if (op==21)=true then
 k (op==21) h
 else
 (if (op==25)=true then
 k (op==25) h
 else
 k (op==26) h)))))
 (λl a=>(if l then
 Q true true false false a
 else
 dp (α1:=Bool) (λk=>(if (op==3)=true then
 k (op==3) a
 else
 (if (op==4)=true then
 k (op==4) a
 else
 (if (op==5)=true then
 k (op==5) a
 else
 (if (op==6)=true then
 k (op==6) a
 else
 (if (op==7)=true then
 k (op==7) a
 else
 (if (op==8)=true then
 k (op==8) a
 else
 (if (op==9)=true then
 k (op==9) a
 else
 (if (op==10)=true then
 k (op==10) a
 else
 (if (op==11)=true then
 k (op==11) a
 else
 (if (op==12)=true then
 k (op==12) a
 else
 (if (op==13)=true then
 k (op==13) a
 else
 k (op==14) a))))))))))))
 (λf b=>(if f then
 Q true true true false b
 else
 dp (α1:=Bool) (λk=>(if (op==15)=true then
 k (op==15) b
 else
 (if (op==16)=true then
 k (op==16) b
 else
 (if (op==17)=true then
 k (op==17) b
 else
 (if (op==18)=true then
 k (op==18) b
 else
 (if (op==19)=true then
 k (op==19) b
 else
 k (op==24) b))))))
 (λg d=>(if g then
 Q true true true false d
 else
 dp (α1:=Bool) (λk=>(if (op==22)=true then
 k (op==22) d
 else
 (if (op==29)=true then
 k (op==29) d
 else
 k (op==30) d)))
 (λi c=>(if i then
 Q false false false true c
 else
 (if (op==23)=true then
 Q true false false true c
 else
 dp (α1:=Bool) (λk=>(if (op==27)=true then
 k (op==27) c
 else
 (if (op==28)=true then
 k (op==28) c
 else
 (if (op==31)=true then
 k (op==31) c
 else
 (if (op==32)=true then
 k (op==32) c
 else
 k (op==33) c)))))
 (λj e=>(if j then
 Q true false false false e
 else
 Q false false false false e))))))))))))
def SB (P:Program) (n:Int) (has:Bool) (Q:(Int->(Hp->Prop))) (h:Hp):Prop:=
 aI ((!has)&&(n !=0)) λy=>(if y then
 Q 11 h
 else
 aI ((decide (n<0)) || (decide (n>=8))) λa=>aI (has&&a) λb=>(if b then
 Q 10 h
 else
 Q 0 h))
def zdn (P:Program) (s1:Sl) (s2:Sl) (eq:nH) (Q:(Bool->(Hp->Prop))) (h:Hp):Prop:=
 (if ((s1.len:Int) !=(s2.len:Int))=true then
 Q false h
 else
 aA (α1:=Int) (λd a b=>(if decide (a<(s1.len:Int)) then
 ((br s1.base s1.len a)/\aQ none yH b (sat s1.base 1 a) λx=>((br s2.base s2.len a)/\aQ none yH b (sat s2.base 1 a) λe=>eN P tb (.func (.func eq.g) eq.first eq.captured) [(yI x),(yI e)] aR (λr c=>(if (!r)=true then
 Q false c
 else
 d (yw (a+1)) c)) b))
 else
 Q true b)) 0 h)
def zbc (P:Program) (s1:Sl) (s2:Sl) (eq:nH) (Q:(Bool->(Hp->Prop))) (h:Hp):Prop:=
 (if ((s1.len:Int) !=(s2.len:Int))=true then
 Q false h
 else
 aA (α1:=Int) (λd a b=>(if decide (a<(s1.len:Int)) then
 ((br s1.base s1.len a)/\aQ none aH b (sat s1.base 2 a) λx=>((br s2.base s2.len a)/\aQ none aH b (sat s2.base 2 a) λe=>eN P tb (.func (.func eq.g) eq.first eq.captured) [x.v,e.v] aR (λr c=>(if (!r)=true then
 Q false c
 else
 d (yw (a+1)) c)) b))
 else
 Q true b)) 0 h)
def zzy (P:Program) (op:Int) (Q:(Bool->(Bool->(Bool->(Bool->(Hp->Prop)))))) (h:Hp):Prop:=
 aa P Kr [(yI op)] qf (λr b=>bP [(.string ⟨#[]⟩)] (λa c=>da c a [(.string r)] (λd=>eN P tb (.func (.func 328) #[] #[(yP (some a))]) [(.string ⟨#[97]⟩)] aR (λj e=>eN P tb (.func (.func 328) #[] #[(yP (some a))]) [(.string ⟨#[98]⟩)] aR (λr2 f=>eN P tb (.func (.func 328) #[] #[(yP (some a))]) [(.string ⟨#[99]⟩)] aR (λk g=>eN P tb (.func (.func 328) #[] #[(yP (some a))]) [(.string ⟨#[105]⟩)] aR (λl i=>Q j r2 k l i) g) f) e) d)) b) h
def zum (P:Program) (has:Bool) (n:Int) (Q:(Int->(Hp->Prop))) (h:Hp):Prop:=
 aI ((!has)&&(n !=0)) λy=>(if y then
 Q 11 h
 else
 aI ((decide (n<0)) || (decide (n>=8))) λa=>(if a then
 Q 10 h
 else
 Q 0 h))
def zzz (P:Program) (x:bc) (has:Bool) (n:Int) (ai:Int) (Q:(Int->(Hp->Prop))) (h:Hp):Prop:=
 aI ((!has)&&(x.iV !=0)) λy=>(if y then
 Q 11 h
 else
 aI ((x.Op==22) || (x.Op==23)) λb=>(if b then
 aI ((decide (x.iV<0)) || (decide (x.iV>n))) λa=>(if a then
 Q 12 h
 else
 Q 0 h)
 else
 aI ((x.Op==29) || (x.Op==30)) λa=>(if a then
 aI ((decide (x.iV<0)) || (decide (x.iV>=ai))) λc=>(if c then
 Q 13 h
 else
 Q 0 h)
 else
 Q 0 h)))
def Y9 (P:Program) (x:Int) (Q:(Bool->(Hp->Prop))) (h:Hp):Prop:=
 Q (x !=x) h
def zun (P:Program) (x:Int) (Q:(Bool->(Hp->Prop))) (h:Hp):Prop:=
 Q (x !=x) h
def Zb (P:Program) (l:Option Addr) (p:Int) (Q:(Int->(Hp->Prop))) (h:Hp):Prop:=
 bP [(yI p)] (λa b=>ah none l λd=>ed b d 2 λx=>aa P zea [x.v,(.func (.func 332) #[] #[(yP (some a))])] yH (λr c=>Q r c) b) h
def QJ (P:Program) (s:Sl) (i:Int) (j:Int) (Q:(Sl->(Hp->Prop))) (h:Hp):Prop:=
 ((0<=i/\(i<=j/\(j<=(s.len:Int)/\(s.len:Int)<=(s.cap:Int))))/\aI (α:=Sl) ⟨(bh s.base 2 (Int.toNat i) (Int.toNat (s.len:Int))),((Int.toNat j)-(Int.toNat i)),((Int.toNat (s.len:Int))-(Int.toNat i))⟩ λy=>(if (i==j)=true then
 Q s h
 else
 ((0<=i/\i<=(s.cap:Int))/\aI (α:=Sl) ⟨(bh s.base 2 0 s.cap),((Int.toNat i)-0),(s.cap-0)⟩ λc=>((0<=j/\j<=(s.len:Int))/\aI (α:=Sl) ⟨(bh s.base 2 (Int.toNat j) s.cap),(s.len-(Int.toNat j)),(s.cap-(Int.toNat j))⟩ λd=>gF 2 16 [(yI 0),(yI 0)] c d (λr a=>((0<=(r.len:Int)/\((r.len:Int)<=(s.len:Int)/\(s.len:Int)<=(r.cap:Int)))/\aI (α:=Sl) ⟨(bh r.base 2 (Int.toNat (r.len:Int)) r.cap),((Int.toNat (s.len:Int))-(Int.toNat (r.len:Int))),(r.cap-(Int.toNat (r.len:Int)))⟩ λe=>mY P (Builtin.clear_ #[201] 0 #[e.v]) uf (λb=>Q r b) a)) h))))
def Zd (P:Program) (p:Option Addr) (proc:Int) (Q:(Int->(Hp->Prop))) (h:Hp):Prop:=
 ah none p λi=>ed h i 0 λx=>aA (α1:=Int) (λe a d=>(if decide (a<(x.len:Int)) then
 ((br x.base x.len a)/\aQ none aj d (sat x.base 1 a) λj=>aa P YB [(yP j)] aX (λr g=>aA (α1:=Int) (λf c b=>(if decide (c<(r.cq.len:Int)) then
 ((br r.cq.base r.cq.len c)/\aQ none aH b (sat r.cq.base 2 c) λk=>(if (k.dB==proc)=true then
 Q a b
 else
 f (yw (c+1)) b))
 else
 e (yw (a+1)) b)) 0 g) d)
 else
 Q (-1) d)) 0 h
def ZL (P:Program) (l:Option Addr) (p:Int) (v:Int) (Q:(Int->(Hp->Prop))) (h:Hp):Prop:=
 aa P Zx [(yP l)] aR (λr c=>(if (!r)=true then
 Q 20 c
 else
 aa P YM [(yP l),(yI p)] yH (λj b=>(if decide (j>=0) then
 Q 8 b
 else
 ah none l λg=>ed b g 2 λx=>bP [(yI p),(yI v)] (λa d=>gF 2 16 [(yI 0),(yI 0)] x ⟨(some a),1,1⟩ (λr2 e=>ah none l λi=>da e (Addr.add i 2) [r2.v] (λf=>Q 0 f)) d) b)) c)) h
def CY (P:Program) (op:Int) (Q:(ByteArray->(Hp->Prop))) (h:Hp):Prop:=
 aI ((decide (op<0)) || (decide (op>=34))) λy=>(if y then
 Q ⟨#[]⟩ h
 else
 ((0<=op/\op<34)/\∃x:ByteArray,((List.get?Internal (α:=Value) [(.string ⟨#[]⟩),(.string ⟨#[97,105]⟩),(.string ⟨#[97,98]⟩),(.string ⟨#[97,98,99]⟩),(.string ⟨#[97,98,99]⟩),(.string ⟨#[97,98,99]⟩),(.string ⟨#[97,98,99]⟩),(.string ⟨#[97,98,99]⟩),(.string ⟨#[97,98,99]⟩),(.string ⟨#[97,98,99]⟩),(.string ⟨#[97,98,99]⟩),(.string ⟨#[97,98,99]⟩),(.string ⟨#[97,98,99]⟩),(.string ⟨#[97,98,99]⟩),(.string ⟨#[97,98,99]⟩),(.string ⟨#[97,98,99]⟩),(.string ⟨#[97,98,99]⟩),(.string ⟨#[97,98,99]⟩),(.string ⟨#[97,98,99]⟩),(.string ⟨#[97,98,99]⟩),(.string ⟨#[97,98]⟩),(.string ⟨#[97,98]⟩),(.string ⟨#[105]⟩),(.string ⟨#[97,105]⟩),(.string ⟨#[97,98,99]⟩),(.string ⟨#[97,98]⟩),(.string ⟨#[97,98]⟩),(.string ⟨#[97]⟩),(.string ⟨#[97]⟩),(.string ⟨#[105]⟩),(.string ⟨#[105]⟩),(.string ⟨#[97]⟩),(.string ⟨#[97]⟩),(.string ⟨#[97]⟩)] ((Int.toNat op)*1))=(some (.string x))/\Q x h)))
def I6 (P:Program) (field:ByteArray) (a1:Addr) (Q:(Bool->(Hp->Prop))) (h:Hp):Prop:=
 aQ none qf h a1 λx=>aa P zvz [(.string x),(.string field)] aR (λr a=>Q r a) h
def Qz (P:Program) (s:Sl) (f:nH) (Q:(Int->(Hp->Prop))) (h:Hp):Prop:=
 aA (α1:=Int) (λd a b=>(if decide (a<(s.len:Int)) then
 ((br s.base s.len a)/\aQ none aH b (sat s.base 2 a) λx=>eN P tb (.func (.func f.g) f.first f.captured) [x.v] aR (λr c=>(if r then
 Q a c
 else
 d (yw (a+1)) c)) b)
 else
 Q (-1) b)) 0 h
def zuo (P:Program) (w:bB) (a1:Addr) (Q:(Bool->(Hp->Prop))) (h:Hp):Prop:=
 aQ none yH h a1 λx=>Q (w.dB==x) h
end Lf
namespace Lf
open Go
def bw.s (a:bw):bw:=.sq .tt a
def cJ (a n:Nat):List (Nat×List Nat):=(List.range' a n).map λi=>(i,[])
def zvc :List Nat:=[1]
def zvd :bw:=(.s (.s (.s (.s (.s (.s (.s (.s (.s (.s (.s (.sq (.bk (.lp [⟨false,10,3⟩,⟨false,11,3⟩,⟨false,12,3⟩] [] (.s (.bk (.sq (.bk (.lp [⟨false,10,3⟩] [] .tt)) (.sq (.bk (.lp [⟨false,11,3⟩] [] .tt)) (.sq (.sq (.rg (cJ 0 3++ [(4,[]),(5,[])]++cJ 7 3++ [(11,[]),(12,[]),(3,[1,5,8,12]),(6,[8,12]),(10,[8,12])]++cJ 13 3)) .tt) (.s (.sq (.s (.bk (.lp [⟨false,12,3⟩,⟨false,13,3⟩] [] (.s (.sq (.bk (.sq (.sq (.rg ([(0,[]),(2,[]),(1,[])]++cJ 3 6++ [(10,[]),(11,[])]++cJ 13 3++ [(17,[]),(18,[]),(9,[7,11,14,18]),(12,[14,18]),(16,[14,18])]++cJ 19 4)) .tt) .tt)) .tt))))) .tt))))))))) .tt))))))))))))
def Qo :List Nat:=[1,2]
def Qp :bw:=.tt
def Sv :List Nat:=[1]
def Sy :bw:=(.s (.s (.s (.s (.s (.sq (.s (.bk (.lp [⟨false,7,3⟩] [] (.s (.sq (.bk (.sq (.rg (cJ 0 16)) .tt)) .tt))))) (.s (.s (.s (.sq (.s (.bk (.lp [⟨false,12,3⟩] [] (.s (.sq (.bk (.sq (.rg (cJ 0 9)) .tt)) .tt))))) .tt))))))))))
def Wa :List Nat:=[1,4]
def Wb :bw:=(.s (.s (.sq (.s (.bk (.lp [⟨false,39,3⟩] [4] (.s (.s (.sq (.bk (.s (.sq (.rg (cJ 0 19)) .tt))) .tt)))))) (.sq (.rg (cJ 0 6++cJ 7 6++ [(6,[8,10,12])]++cJ 13 3)) .tt))))
def Qq :List Nat:=[1,2]
def Qr :bw:=.tt
def QV :List Nat:=[1,13,14]
def QX :bw:=(.s (.s (.s (.s (.s (.jn [⟨false,8,93⟩,⟨false,9,93⟩] [] (.r2 [(0,[]),(1,[]),(2,[]),(3,[]),(5,[]),(6,[]),(7,[]),(8,[])] 4 9 (.rg ([(4,[7]),(10,[]),(9,[]),(11,[])])) (.rg ([(9,[2]),(4,[7]),(10,[]),(11,[])]))) (.s (.s (.sq (.bk (.lp [⟨false,10,4⟩] [13,14] (.bk (.s (.sq (.rg (cJ 0 3++ [(4,[]),(5,[])]++cJ 7 3++ [(11,[]),(12,[]),(14,[]),(15,[]),(3,[1,5,8,12]),(6,[8,12]),(10,[8,12]),(13,[]),(16,[]),(17,[])])) (.sq (.bk (.sq (.rg (cJ 0 21)) .tt)) .tt)))))) (.sq (.rg (cJ 0 7)) .tt))))))))))
def aej :List Nat:=[1]
def aem :bw:=(.s (.s (.sq (.rg ([(0,[]),(1,[]),(2,[0])]++cJ 3 3)) .tt)))
def Qs :List Nat:=[3]
def Qt :bw:=(.s (.jn [] [] .tt .tt))
def Rx :List Nat:=[2,3]
def Ry :bw:=(.s (.s (.sq (.s (.bk (.lp [⟨false,5,3⟩] [] (.s (.sq (.bk (.sq (.rg (cJ 0 12)) .tt)) .tt))))) (.sq (.s (.bk (.lp [⟨false,7,3⟩] [] (.s (.sq (.bk (.sq (.rg (cJ 0 12)) .tt)) .tt))))) .tt))))
def Uq :List Nat:=[3,4,6,7,9,11]
def Uu :bw:=(.s (.s (.sq (.s (.bk (.lp [⟨false,8,3⟩,⟨true,7,49⟩] [7,9] (.s (.sq (.bk (.s (.jn [⟨true,9,104⟩] [9] .tt .tt))) .tt))))) (.sq (.s (.bk (.lp [⟨false,10,3⟩,⟨true,7,49⟩] [7,11] (.s (.sq (.bk (.s (.jn [⟨true,11,82⟩] [11] .tt .tt))) .tt))))) .tt))))
def Pd :List Nat:=[2,3]
def Pg :bw:=(.s (.s (.sq (.s (.bk (.lp [⟨false,26,3⟩,⟨true,3,49⟩] [3] (.s (.s (.sq (.bk (.s (.s (.rg (cJ 0 10++cJ 11 10++ [(10,[1,5,14,18]),(21,[]),(22,[1])]++cJ 23 3))))) .tt)))))) (.sq (.s (.bk (.lp [⟨false,69,3⟩,⟨true,3,49⟩] [3] (.s (.s (.sq (.bk (.s (.s (.sq (.rg (cJ 0 14++ [(14,[3,7,9,12])]++cJ 15 6)) (.sq (.rg (cJ 0 14++ [(14,[3,7,9,12])]++cJ 15 6)) (.rg (cJ 0 25++ [(25,[1])]++cJ 26 3))))))) .tt)))))) .tt))))
def Qv :List Nat:=[]
def Qw :bw:=(.s (.sq (.rg (cJ 0 10)) (.s (.s (.s (.sq (.s (.bj [] [] (.lp [⟨false,32,3⟩] [] (.s (.s (.sq (.bk (.sq (.s (.bk (.lp [⟨false,39,3⟩] [] (.s (.s (.sq (.bk (.s (.sq (.rg (cJ 0 13)) (.sq (.rg (cJ 0 14)) .tt)))) .tt)))))) .tt)) .tt)))))) .tt))))))
def SA :List Nat:=[1,7]
def SC :bw:=(.s (.s (.s (.sq (.rg ([(0,[]),(1,[]),(3,[]),(4,[]),(6,[]),(7,[]),(9,[]),(10,[]),(13,[]),(2,[4,7,10]),(5,[7,10]),(8,[10]),(11,[]),(12,[]),(14,[])])) (.sq (.s (.bk (.lp [⟨false,8,3⟩] [] .tt))) (.s (.s (.sq (.s (.bk (.lp [⟨false,9,3⟩] [] (.s (.sq (.bk (.sq (.sq (.rg (cJ 0 12)) .tt) (.sq (.rg (cJ 0 14)) .tt))) .tt))))) .tt))))))))
def QZ :List Nat:=[3,9]
def Q1 :bw:=(.s (.s (.sq (.s (.bk (.lp [⟨false,7,27⟩,⟨false,13,3⟩] [9] (.s (.s (.sq (.bj [⟨false,7,27⟩] [9] .tt) .tt)))))) .tt)))
def zwm :List Nat:=[2,3]
def zwn :bw:=(.s (.s (.sq (.s (.bk (.lp [⟨false,5,3⟩] [] (.s (.sq (.bk (.sq (.rg (cJ 0 13)) .tt)) .tt))))) .tt)))
def zwo :List Nat:=[]
def zwp :bw:=(.s (.s (.sq (.s (.bk (.lp [⟨false,5,3⟩] [] (.s (.sq (.bk (.sq (.rg (cJ 0 9)) .tt)) .tt))))) .tt)))
def RA :List Nat:=[3]
def RC :bw:=(.s (.sq (.rg (cJ 0 21)) .tt))
def Qx :List Nat:=[3]
def Qy :bw:=(.s (.s (.sq (.s (.bk (.lp [⟨false,7,27⟩,⟨false,8,3⟩] [] (.s (.sq (.bj [⟨false,7,27⟩] [] (.sq (.rg (cJ 0 8)) .tt)) .tt))))) .tt)))
def Q3 :List Nat:=[1]
def Q5 :bw:=.tt
def Z6 :List Nat:=[2,3]
def Z8 :bw:=.tt
def SL :List Nat:=[3]
def SN :bw:=(.s (.sq (.rg (cJ 0 21)) .tt))
def aaa :List Nat:=[6]
def aac :bw:=(.s (.s (.sq (.s (.bk (.lp [⟨false,14,3⟩] [6] (.s (.s (.sq (.bk (.s (.sq (.rg (cJ 0 6)) .tt))) .tt)))))) .tt)))
def Q7 :List Nat:=[6]
def Q9 :bw:=(.s (.s (.sq (.s (.bk (.lp [⟨false,14,3⟩] [6] (.s (.s (.sq (.bk (.s (.sq (.rg (cJ 0 6)) .tt))) .tt)))))) .tt)))
def Wr :List Nat:=[3]
def Wu :bw:=(.s (.sq (.bk (.lp [] [3] (.s (.bk (.sq (.sq (.rg (cJ 0 10)) .tt) (.sq (.rg (cJ 0 12)) (.s (.s (.bj [] [] (.s (.sq (.sq (.rg (cJ 0 13)) .tt) (.s (.sq (.rg (cJ 0 9)) (.s (.sq (.rg (cJ 0 7)) .tt))))))))))))))) .tt))
def Zf :List Nat:=[3,4,6,7,9,11]
def Zg :bw:=(.s (.sq (.r2 [(0,[]),(1,[]),(2,[]),(3,[]),(4,[]),(6,[]),(7,[]),(8,[]),(11,[])] 5 9 (.rg ([(5,[1,7]),(9,[1]),(10,[]),(12,[])])) (.rg ([(9,[1,3]),(5,[1,7]),(10,[]),(12,[])]))) (.sq (.s (.bk (.lp [⟨false,26,3⟩] [9] (.s (.s (.sq (.bj [] [9] (.s (.s (.sq (.rg (cJ 0 4++ [(4,[1]),(5,[]),(6,[])])) .tt)))) .tt)))))) (.sq (.s (.bk (.lp [⟨false,45,3⟩] [11] (.s (.s (.sq (.bj [] [11] (.s (.s (.sq (.rg (cJ 0 4++ [(4,[1]),(5,[]),(6,[])])) .tt)))) .tt)))))) .tt))))
def SP :List Nat:=[2,3]
def SR :bw:=.tt
def Yj :List Nat:=[]
def Yl :bw:=.tt
def Wc :List Nat:=[1,15]
def Wd :bw:=(.s (.s (.s (.s (.sq (.s (.bk (.lp [⟨false,57,3⟩] [] .tt))) (.s (.sq (.s (.bk (.lp [⟨false,80,3⟩] [15] .tt))) .tt)))))))
def acD :List Nat:=[2,3,7,11,12]
def acF :bw:=(.s (.sq (.rg ([(0,[]),(2,[]),(3,[]),(1,[3])]++cJ 4 3)) (.s (.s (.sq (.s (.bk (.lp [⟨false,48,3⟩] [7] (.s (.s (.sq (.bk (.s (.s (.rg (cJ 0 9++cJ 10 5++ [(9,[4,6,11,13]),(15,[4,6,11,13]),(16,[]),(17,[4]),(18,[4])]++cJ 19 4))))) .tt)))))) (.sq (.s (.bk (.lp [⟨false,86,3⟩] [11,12] (.s (.s (.sq (.bj [] [11,12] (.s (.s (.s (.sq (.rg (cJ 0 21++ [(21,[4]),(22,[4])]++cJ 23 4)) (.sq (.rg (cJ 0 9)) (.s (.jn [] [] (.s (.sq (.rg (cJ 0 5++ [(6,[]),(7,[]),(5,[3,7]),(8,[])])) .tt)) (.s (.sq (.rg (cJ 0 5++ [(6,[]),(7,[]),(5,[3,7]),(8,[])])) .tt)))))))))) .tt)))))) .tt))))))
def aad :List Nat:=[1,2,3]
def aae :bw:=(.s (.sq (.r2 [(0,[]),(1,[]),(2,[]),(4,[]),(5,[]),(6,[]),(9,[])] 3 7 (.rg ([(3,[5]),(7,[]),(8,[]),(10,[])])) (.rg ([(7,[1]),(3,[5]),(8,[]),(10,[])]))) (.sq (.s (.bk (.lp [⟨false,18,3⟩] [] (.s (.s (.sq (.bj [] [] (.s (.r2 [(0,[]),(1,[]),(2,[]),(3,[]),(4,[]),(5,[]),(7,[]),(8,[]),(10,[]),(11,[])] 6 12 (.r2 [(6,[1,4,8,11])] 9 12 (.r2 [(9,[1,4,11]),(13,[]),(14,[])] 12 15 (.rg ([(12,[1,4]),(15,[4])]++cJ 16 3)) (.rg ([(15,[4,11]),(12,[1,4])]++cJ 16 3))) (.rg ([(12,[1,4,8]),(9,[1,4,11]),(13,[]),(14,[]),(15,[4,11])]++cJ 16 3))) (.rg ([(12,[1,4,8]),(6,[1,4,8,11]),(9,[1,4,11]),(13,[]),(14,[]),(15,[4,11])]++cJ 16 3))))) .tt)))))) (.sq (.s (.bk (.lp [⟨false,42,3⟩] [] (.s (.s (.sq (.bk (.s (.rg (cJ 0 7++ [(7,[1])]++cJ 8 3)))) .tt)))))) .tt))))
def zyj :List Nat:=[]
def zyk :bw:=(.s (.s (.sq (.rg (cJ 0 14)) .tt)))
def QA :List Nat:=[]
def QC :bw:=.tt
def zwq :List Nat:=[2,3]
def zwr :bw:=(.s (.s (.sq (.s (.bk (.lp [⟨false,5,3⟩] [] (.s (.sq (.bk (.sq (.rg (cJ 0 11)) .tt)) .tt))))) (.sq (.s (.bk (.lp [⟨false,6,3⟩] [] (.s (.sq (.bk (.sq (.rg (cJ 0 12)) .tt)) .tt))))) .tt))))
def zst :List Nat:=[2,3]
def zsu :bw:=(.s (.s (.sq (.s (.bk (.lp [⟨false,5,3⟩] [] (.s (.sq (.bk (.sq (.rg (cJ 0 12)) .tt)) .tt))))) .tt)))
def RE :List Nat:=[3]
def RG :bw:=.tt
def Ux :List Nat:=[7]
def UA :bw:=(.s (.s (.s (.sq (.s (.bk (.lp [⟨false,4,23⟩,⟨false,5,102⟩,⟨false,13,3⟩] [7] .tt))) .tt))))
def zob :List Nat:=[]
def zoc :bw:=.tt
def Wx :List Nat:=[]
def WA :bw:=(.s (.s (.sq (.s (.bk (.lp [⟨false,4,80⟩,⟨false,12,3⟩] [] .tt))) (.sq (.rg (cJ 0 7)) .tt))))
def WD :List Nat:=[6]
def WH :bw:=.tt
def aaf :List Nat:=[]
def aag :bw:=.tt
def aai :List Nat:=[]
def aak :bw:=.tt
def UC :List Nat:=[]
def UE :bw:=(.s (.s (.sq (.rg (cJ 0 14)) .tt)))
def RH :List Nat:=[]
def RJ :bw:=(.sq (.rg (cJ 0 8++ [(10,[]),(8,[]),(9,[])])) (.bk (.lp [⟨false,17,3⟩] [] (.s (.s (.sq (.bj [] [] .tt) .tt))))))
def QE :List Nat:=[4,5]
def QG :bw:=(.sq (.rg (cJ 0 16++ [(20,[]),(21,[])]++cJ 16 4++ [(22,[]),(23,[])])) (.s (.sq (.rg (cJ 0 11)) (.s (.bk (.s (.s (.s (.s (.jn [⟨false,61,4⟩] [] .tt (.s (.s (.sq (.s (.sq (.rg (cJ 0 8++ [(8,[3]),(9,[])])) (.s (.sq (.rg (cJ 0 8++cJ 9 8++ [(8,[3,12,14]),(17,[])])) .tt)))) (.s (.sq (.sq (.rg (cJ 0 8++cJ 9 9++ [(8,[3,12,14]),(18,[])])) .tt) (.s (.sq (.sq (.rg (cJ 0 16)) .tt) (.s (.sq (.sq (.rg (cJ 0 8++ [(9,[]),(10,[]),(8,[10]),(11,[])])) (.sq (.sq (.rg (cJ 0 16)) .tt) .tt)) (.s (.sq (.sq (.rg (cJ 0 11)) (.sq (.rg (cJ 0 16++ [(16,[4])]++cJ 17 4)) .tt)) .tt)))))))))))))))))))))
def SF :List Nat:=[]
def SI :bw:=(.s (.s (.s (.sq (.s (.bk (.lp [⟨false,4,3⟩] [] (.s (.sq (.bk (.sq (.sq (.rg (cJ 0 10)) .tt) (.sq (.rg (cJ 0 10)) .tt))) .tt))))) .tt))))
def Pk :List Nat:=[]
def Pn :bw:=(.s (.s (.s (.sq (.s (.bk (.lp [⟨false,5,3⟩] [] .tt))) .tt))))
def Pq :List Nat:=[]
def Pu :bw:=.tt
def SK :List Nat:=[]
def SM :bw:=(.s (.s (.s (.sq (.s (.bk (.lp [⟨false,6,3⟩] [] .tt))) .tt))))
def Yn :List Nat:=[1,2,4]
def Yp :bw:=(.s (.sq (.rg ([(0,[]),(1,[]),(3,[]),(4,[]),(6,[]),(7,[]),(2,[4,7]),(9,[]),(5,[7]),(8,[])]++cJ 10 5)) (.sq (.s (.bk (.lp [⟨false,20,3⟩] [4] (.s (.s (.sq (.bk (.s (.rg (cJ 0 5++ [(5,[1])]++cJ 6 3)))) .tt)))))) .tt)))
def QH :List Nat:=[]
def QI :bw:=(.s (.sq (.s (.bk (.lp [⟨false,8,3⟩] [] .tt))) .tt))
def zup :List Nat:=[]
def zuq :bw:=(.s (.s (.sq (.s (.bk (.lp [⟨false,5,3⟩] [] (.s (.sq (.bk (.sq (.rg (cJ 0 9)) .tt)) .tt))))) .tt)))
def zws :List Nat:=[]
def zwt :bw:=(.s (.s (.sq (.s (.bk (.lp [⟨false,5,3⟩] [] (.s (.sq (.bk (.sq (.rg (cJ 0 9)) .tt)) .tt))))) .tt)))
def Py :List Nat:=[3,4]
def PB :bw:=.tt
def WJ :List Nat:=[2,3]
def WL :bw:=.tt
def zsv :List Nat:=[]
def zsw :bw:=(.s (.s (.sq (.s (.bk (.lp [⟨false,13,3⟩] [] (.s (.s (.sq (.bk (.s (.sq (.rg (cJ 0 9)) .tt))) .tt)))))) .tt)))
def QK :List Nat:=[]
def QM :bw:=(.s (.s (.sq (.s (.bk (.lp [⟨false,13,3⟩] [] (.s (.s (.sq (.bk (.s (.sq (.rg (cJ 0 9)) .tt))) .tt)))))) .tt)))
def zeu :List Nat:=[8,9]
def zev :bw:=(.s (.s (.sq (.s (.bk (.lp [⟨false,17,3⟩] [8,9] .tt))) .tt)))
def SU :List Nat:=[3]
def SW :bw:=.tt
def aam :List Nat:=[1,2]
def aan :bw:=(.s (.sq (.rg ([(0,[]),(1,[]),(3,[]),(4,[]),(2,[4]),(6,[]),(5,[])]++cJ 7 3)) (.s (.sq (.s (.bk (.lp [⟨false,20,3⟩] [] (.s (.s (.sq (.bk (.s (.rg (cJ 0 4++ [(4,[1]),(5,[]),(6,[])])))) .tt)))))) .tt))))
def aap :List Nat:=[1,2,4]
def aaq :bw:=(.s (.s (.sq (.s (.bk (.lp [⟨false,12,3⟩] [4] (.s (.s (.sq (.bk (.s (.rg (cJ 0 8++ [(9,[]),(10,[]),(8,[1,4,10]),(11,[1,4]),(12,[]),(13,[]),(14,[4])]++cJ 15 3)))) .tt)))))) .tt)))
def SO :List Nat:=[]
def SQ :bw:=.tt
def aat :List Nat:=[2,3]
def aav :bw:=.tt
def PF :List Nat:=[]
def PI :bw:=.tt
def aax :List Nat:=[2,3]
def aaz :bw:=.tt
def SY :List Nat:=[]
def S0 :bw:=(.s (.s (.sq (.s (.bk (.lp [⟨false,4,3⟩] [] (.s (.sq (.bk (.bk (.sq (.rg (cJ 0 11)) (.s (.sq (.rg (cJ 0 11)) .tt))))) .tt))))) .tt)))
def S2 :List Nat:=[]
def S4 :bw:=.tt
def S6 :List Nat:=[]
def S8 :bw:=(.s (.s (.s (.sq (.rg ([(0,[]),(2,[]),(1,[2])]++cJ 3 5)) .tt))))
def aep :List Nat:=[]
def aes :bw:=.tt
def aev :List Nat:=[]
def aex :bw:=.tt
def We :List Nat:=[7]
def Wf :bw:=(.s (.s (.sq (.s (.bk (.lp [⟨false,22,3⟩] [7] .tt))) .tt)))
def Ta :List Nat:=[]
def Te :bw:=(.s (.s (.s (.sq (.s (.bk (.lp [⟨false,29,3⟩] [] .tt))) .tt))))
def Th :List Nat:=[]
def Tk :bw:=(.s (.s (.s (.s (.sq (.s (.bk (.lp [⟨false,30,3⟩] [] (.s (.s (.sq (.bk (.s (.s (.s (.s (.bk (.lp [⟨false,65,3⟩] [] (.s (.s (.sq (.bk (.s (.s (.rg (cJ 0 14++ [(14,[3,8,12]),(15,[3])]++cJ 16 3))))) .tt)))))))))) .tt)))))) .tt)))))
def Tn :List Nat:=[]
def Tr :bw:=.tt
def Wg :List Nat:=[10]
def Wi :bw:=(.s (.s (.s (.sq (.s (.bk (.lp [⟨false,44,3⟩] [10] .tt))) .tt))))
def WN :List Nat:=[7]
def WQ :bw:=(.s (.s (.s (.s (.sq (.rg (cJ 0 11)) (.sq (.rg (cJ 0 7++ [(7,[4])]++cJ 8 4)) (.sq (.rg (cJ 0 7)) .tt)))))))
def PL :List Nat:=[]
def PN :bw:=(.s (.jn [] [] .tt (.s (.jn [] [] .tt (.s (.s (.sq (.bk (.lp [⟨false,8,3⟩] [] (.s (.bk (.rg (cJ 0 10)))))) .tt)))))))
def PQ :List Nat:=[]
def PS :bw:=.tt
def aaC :List Nat:=[]
def aaF :bw:=.tt
def Yq :List Nat:=[]
def Yr :bw:=.tt
def QN :List Nat:=[]
def QO :bw:=.tt
def QQ :List Nat:=[10,12]
def QS :bw:=(.sq (.rg (cJ 0 11)) (.s (.sq (.s (.bk (.lp [⟨false,35,3⟩] [] (.s (.s (.sq (.bk (.s (.rg (cJ 0 15)))) .tt)))))) (.sq (.sq (.rg (cJ 0 8++ [(10,[]),(8,[]),(9,[])])) (.bk (.lp [⟨false,65,3⟩] [10] .tt))) (.sq (.rg (cJ 0 8++ [(8,[3]),(9,[])])) (.sq (.rg (cJ 0 8++ [(8,[3]),(9,[])])) (.s (.bk (.lp [⟨false,100,3⟩] [12] (.s (.s (.sq (.bk (.s (.rg (cJ 0 10)))) .tt))))))))))))
def RL :List Nat:=[]
def RN :bw:=(.s (.s (.sq (.s (.bk (.lp [⟨false,5,3⟩] [] (.s (.sq (.bk (.sq (.rg (cJ 0 9)) .tt)) .tt))))) .tt)))
def zwu :List Nat:=[2,3]
def zwv :bw:=(.s (.s (.sq (.s (.bk (.lp [⟨false,5,3⟩] [] (.s (.sq (.bk (.sq (.rg (cJ 0 11)) .tt)) .tt))))) (.sq (.s (.bk (.lp [⟨false,6,3⟩] [] (.s (.sq (.bk (.sq (.rg (cJ 0 11)) .tt)) .tt))))) .tt))))
def QT :List Nat:=[]
def QU :bw:=(.s (.sq (.s (.bk (.lp [⟨false,5,3⟩] [] .tt))) .tt))
def QW :List Nat:=[]
def QY :bw:=.tt
def WS :List Nat:=[2]
def WV :bw:=(.s (.sq (.rg (cJ 0 4++cJ 5 4++cJ 10 8++ [(4,[8,13,17]),(9,[13,17]),(18,[]),(19,[])])) .tt))
def WX :List Nat:=[]
def WZ :bw:=(.s (.s (.sq (.bk (.lp [⟨false,5,23⟩] [] .tt)) .tt)))
def Q0 :List Nat:=[5]
def Q2 :bw:=(.s (.rg (cJ 0 5++ [(5,[2])]++cJ 6 3)))
def Wj :List Nat:=[1,2]
def Wl :bw:=.tt
def Wn :List Nat:=[8,9,10,12,15]
def Wp :bw:=(.s (.s (.s (.sq (.s (.s (.sq (.sq (.s (.sq (.sq (.rg ([(0,[]),(1,[]),(2,[1]),(3,[])])) .tt) .tt)) (.sq (.rg ([(0,[]),(2,[]),(1,[2]),(3,[2]),(4,[])])) .tt)) .tt))) (.s (.s (.sq (.s (.bj [⟨true,8,125⟩,⟨true,9,228⟩] [8,9] (.s (.s (.s (.sq (.rg (cJ 0 7)) (.s (.s (.s (.s (.s (.s (.s (.s (.sq (.rg (cJ 0 16)) (.jn [⟨false,16,2⟩] [] (.s (.sq (.rg (cJ 0 15)) .tt)) .tt)))))))))))))))) .tt)))))))
def PU :List Nat:=[]
def PX :bw:=(.s (.s (.bk (.sq (.rg (cJ 0 15)) (.sq (.sq (.rg (cJ 0 23++ [(23,[3,7,9])]++cJ 24 3)) .tt) (.sq (.rg (cJ 0 10)) (.s (.jn [] [] (.sq (.rg (cJ 0 19)) (.sq (.rg (cJ 0 9)) .tt)) .tt))))))))
def PY :List Nat:=[8]
def PZ :bw:=(.s (.bk (.s (.sq (.sq (.rg (cJ 0 15)) (.s (.sq (.rg (cJ 0 10)) .tt))) (.s (.sq (.s (.rg (cJ 0 13))) (.s (.sq (.rg (cJ 0 13)) .tt))))))))
def UG :List Nat:=[5,8]
def UI :bw:=(.s (.s (.s (.sq (.s (.bk (.lp [⟨false,25,3⟩] [8] .tt))) .tt))))
def Vm :List Nat:=[]
def Vn :bw:=(.s (.s (.s (.s (.jn [] [] .tt .tt)))))
def zww :List Nat:=[]
def zwx :bw:=.tt
def UK :List Nat:=[7]
def UM :bw:=(.s (.s (.sq (.s (.bk (.lp [⟨false,5,23⟩,⟨false,13,3⟩] [7] (.s (.s (.sq (.bj [⟨false,5,23⟩] [7] .tt) .tt)))))) .tt)))
def Vo :List Nat:=[]
def Vp :bw:=(.s (.s (.s (.sq (.bk (.s (.s (.s (.s (.s (.rg (cJ 0 19)))))))) .tt))))
def P1 :List Nat:=[]
def P4 :bw:=(.s (.sq (.rg (cJ 0 18++ [(18,[4,7]),(19,[])])) .tt))
def acI :List Nat:=[]
def acL :bw:=.tt
def Q4 :List Nat:=[3]
def Q6 :bw:=.tt
def zsx :List Nat:=[]
def zsy :bw:=.tt
def zpp :List Nat:=[]
def zpq :bw:=.tt
def zrn :List Nat:=[]
def zro :bw:=.tt
def aeA :List Nat:=[]
def aeD :bw:=.tt
def zyl :List Nat:=[]
def zym :bw:=.tt
def zpr :List Nat:=[]
def zps :bw:=.tt
def zve :List Nat:=[]
def zvf :bw:=.tt
def zmn :List Nat:=[]
def zmo :bw:=.tt
def zew :List Nat:=[8,9]
def zex :bw:=(.s (.s (.sq (.s (.bk (.lp [⟨false,17,3⟩] [8,9] .tt))) .tt)))
def W4 :List Nat:=[]
def W6 :bw:=.tt
def aaI :List Nat:=[]
def aaL :bw:=.tt
def Ys :List Nat:=[]
def Yt :bw:=.tt
def RP :List Nat:=[]
def RT :bw:=.tt
def Q8 :List Nat:=[2,3]
def Ra :bw:=.tt
def W8 :List Nat:=[]
def Xa :bw:=.tt
def zcx :List Nat:=[8,9]
def zcy :bw:=(.s (.s (.sq (.s (.bk (.lp [⟨false,17,3⟩] [8,9] .tt))) .tt)))
def SS :List Nat:=[]
def SV :bw:=.tt
def aaO :List Nat:=[2,3]
def aaR :bw:=.tt
def zvg :List Nat:=[]
def zvh :bw:=(.s (.sq (.s (.bk (.lp [⟨false,8,3⟩] [] .tt))) .tt))
def aeG :List Nat:=[]
def aeJ :bw:=.tt
def Rb :List Nat:=[3]
def Rd :bw:=.tt
def UO :List Nat:=[7]
def UQ :bw:=(.s (.sq (.s (.bk (.lp [⟨false,13,3⟩] [7] .tt))) .tt))
def Ws :List Nat:=[3]
def Wv :bw:=(.s (.s (.s (.s (.sq (.rg (cJ 0 4++ [(5,[]),(6,[]),(4,[6])]++cJ 7 7)) (.sq (.rg (cJ 0 8++ [(8,[5])]++cJ 9 3)) .tt))))))
def zdp :List Nat:=[4]
def zdq :bw:=(.s (.s (.s (.sq (.bk (.lp [⟨false,9,3⟩,⟨false,10,3⟩] [] (.s (.bj [⟨false,9,3⟩,⟨false,10,3⟩] [] (.s (.sq (.rg (cJ 0 8)) .tt)))))) (.sq (.rg (cJ 0 16)) .tt)))))
def aeM :List Nat:=[2,3]
def Pb :bw:=(.s (.sq (.rg (cJ 0 4++cJ 5 4++ [(4,[6,8])]++cJ 9 4)) .tt))
def zks :List Nat:=[]
def zkt :bw:=(.s (.s (.s (.s (.s (.s (.sq (.s (.sq (.s (.s (.sq (.rg (cJ 0 9)) .tt))) .tt)) (.s (.sq (.s (.sq (.sq (.rg (cJ 0 9)) .tt) .tt)) .tt)))))))))
def aaU :List Nat:=[]
def aaX :bw:=.tt
def aaZ :List Nat:=[]
def aa1 :bw:=.tt
def Xc :List Nat:=[]
def Xe :bw:=.tt
def aa3 :List Nat:=[]
def aa6 :bw:=.tt
def Yu :List Nat:=[]
def Yw :bw:=.tt
def Xg :List Nat:=[]
def Xi :bw:=(.s (.s (.sq (.s (.bk (.lp [⟨false,5,4⟩,⟨false,13,3⟩] [] (.s (.s (.sq (.bj [⟨false,5,4⟩] [] .tt) .tt)))))) .tt)))
def Xk :List Nat:=[]
def Xm :bw:=(.s (.sq (.s (.bk (.lp [⟨false,17,3⟩] [] (.s (.s (.sq (.bj [] [] (.s (.s (.s (.sq (.rg (cJ 0 16++ [(16,[3])]++cJ 17 3)) .tt))))) .tt)))))) (.s (.sq (.s (.bk (.lp [⟨false,7,290⟩,⟨false,56,3⟩] [] .tt))) .tt))))
def aa9 :List Nat:=[]
def abc :bw:=(.s (.s (.sq (.s (.bk (.lp [⟨false,3,201⟩,⟨false,11,3⟩] [] .tt))) .tt)))
def zwy :List Nat:=[]
def zwz :bw:=(.rg (cJ 0 13))
def SX :List Nat:=[]
def SZ :bw:=.tt
def abt :List Nat:=[2,4]
def abw :bw:=.tt
def Tt :List Nat:=[2,3,4]
def Tv :bw:=(.s (.sq (.s (.bk (.s (.s (.s (.sq (.sq (.rg (cJ 0 12)) .tt) .tt)))))) .tt))
def acO :List Nat:=[]
def acR :bw:=.tt
def aby :List Nat:=[]
def abA :bw:=.tt
def abC :List Nat:=[]
def abF :bw:=.tt
def US :List Nat:=[]
def UU :bw:=(.s (.sq (.rg (cJ 0 26)) .tt))
def zyn :List Nat:=[]
def zyo :bw:=(.bk (.s (.s (.sq (.rg (cJ 0 12)) (.sq (.sq (.rg (cJ 0 14)) .tt) .tt)))))
def Wy :List Nat:=[8,9]
def WB :bw:=(.s (.jn [] [9] .tt .tt))
def zku :List Nat:=[]
def zkv :bw:=(.s (.s (.s (.s (.sq (.rg (cJ 0 8)) .tt)))))
def UX :List Nat:=[]
def UZ :bw:=.tt
def Rc :List Nat:=[3]
def Re :bw:=.tt
def zod :List Nat:=[]
def zoe :bw:=(.s (.s (.sq (.s (.bk (.lp [⟨false,17,3⟩] [] .tt))) .tt)))
def zed :List Nat:=[8,9]
def zee :bw:=(.s (.s (.sq (.s (.bk (.lp [⟨false,17,3⟩] [8,9] .tt))) .tt)))
def zmp :List Nat:=[]
def zmq :bw:=(.s (.s (.sq (.s (.bk (.lp [⟨false,17,3⟩] [] .tt))) .tt)))
def zey :List Nat:=[8,9]
def zez :bw:=(.s (.s (.sq (.s (.bk (.lp [⟨false,17,3⟩] [8,9] .tt))) .tt)))
def Xo :List Nat:=[]
def Xq :bw:=.tt
def Vq :List Nat:=[]
def Vr :bw:=.tt
def Rh :List Nat:=[]
def Rj :bw:=.tt
def P5 :List Nat:=[2,3]
def P6 :bw:=.tt
def Rf :List Nat:=[3]
def Ri :bw:=.tt
def WE :List Nat:=[]
def WI :bw:=.tt
def Pe :List Nat:=[]
def Ph :bw:=.tt
def Rk :List Nat:=[5]
def Rm :bw:=(.s (.s (.sq (.s (.bk (.lp [⟨false,9,3⟩] [5] .tt))) .tt)))
def Ro :List Nat:=[]
def Rq :bw:=(.s (.s (.sq (.s (.bk (.lp [⟨false,8,3⟩] [] .tt))) .tt)))
def U1 :List Nat:=[]
def U2 :bw:=.tt
def Xs :List Nat:=[]
def Xu :bw:=.tt
def Xw :List Nat:=[]
def Xy :bw:=.tt
def Yx :List Nat:=[]
def Yz :bw:=(.s (.sq (.rg (cJ 0 11)) .tt))
def Tx :List Nat:=[]
def Tz :bw:=.tt
def XA :List Nat:=[]
def XC :bw:=.tt
def P7 :List Nat:=[]
def P8 :bw:=(.s (.s (.s (.s (.sq (.rg (cJ 0 8)) .tt)))))
def abf :List Nat:=[]
def abi :bw:=(.s (.sq (.rg (cJ 0 16)) .tt))
def WK :List Nat:=[6,7]
def WM :bw:=(.s (.jn [] [7] .tt .tt))
def acU :List Nat:=[]
def acW :bw:=.tt
def WO :List Nat:=[]
def WR :bw:=.tt
def TA :List Nat:=[]
def TB :bw:=.tt
def Zh :List Nat:=[]
def Zi :bw:=.tt
def TC :List Nat:=[]
def TD :bw:=.tt
def WU :List Nat:=[]
def WW :bw:=.tt
def TE :List Nat:=[]
def TG :bw:=.tt
def YC :List Nat:=[]
def YF :bw:=.tt
def YI :List Nat:=[]
def YL :bw:=.tt
def XE :List Nat:=[4]
def XG :bw:=(.s (.sp 4 (.rg (cJ 0 9++ [(10,[]),(9,[3,7]),(11,[7]),(12,[])])) .tt))
def abl :List Nat:=[]
def abo :bw:=.tt
def YN :List Nat:=[3]
def YQ :bw:=(.s (.s (.s (.sq (.rg (cJ 0 11)) (.s (.s (.sq (.s (.sq (.s (.sq (.rg (cJ 0 19)) (.rg (cJ 0 7++ [(7,[4])]++cJ 8 4)))) .tt)) (.sq (.rg (cJ 0 7)) .tt))))))))
def P9 :List Nat:=[]
def Qa :bw:=(.s (.sq (.s (.bk (.s (.s (.jn [⟨false,9,4⟩] [] .tt (.s (.jn [⟨false,15,4⟩] [] .tt (.s (.jn [⟨false,28,4⟩] [] .tt (.s (.jn [⟨false,35,4⟩] [] .tt (.s (.s (.s (.jn [⟨false,41,4⟩] [] .tt .tt))))))))))))))) .tt))
def zxa :List Nat:=[]
def zxb :bw:=.tt
def zin :List Nat:=[]
def zio :bw:=(.s (.s (.sq (.s (.bk (.lp [⟨false,17,3⟩] [] .tt))) .tt)))
def zdj :List Nat:=[8,9]
def zdk :bw:=(.s (.s (.sq (.s (.bk (.lp [⟨false,17,3⟩] [8,9] .tt))) .tt)))
def Pl :List Nat:=[]
def Po :bw:=.tt
def abr :List Nat:=[]
def abv :bw:=.tt
def Pr :List Nat:=[4]
def Pv :bw:=.tt
def XI :List Nat:=[]
def XK :bw:=.tt
def abx :List Nat:=[]
def abz :bw:=.tt
def XM :List Nat:=[]
def XO :bw:=.tt
def zma :List Nat:=[]
def zmb :bw:=(.s (.s (.s (.s (.sq (.rg (cJ 0 8)) .tt)))))
def XQ :List Nat:=[8]
def XS :bw:=(.s (.sq (.s (.bk (.lp [⟨false,14,3⟩] [8] (.s (.s (.sq (.bk (.s (.s (.bk (.lp [⟨false,23,3⟩] [8] .tt))))) .tt)))))) .tt))
def YS :List Nat:=[]
def YV :bw:=.tt
def Pz :List Nat:=[]
def PD :bw:=.tt
def abB :List Nat:=[]
def abE :bw:=.tt
def zjw :List Nat:=[]
def zjx :bw:=(.s (.sq (.s (.bk (.lp [⟨false,8,3⟩] [] .tt))) .tt))
def U3 :List Nat:=[2]
def U4 :bw:=.tt
end Lf
namespace Lf
open Go Go.Proofs Tryz
theorem Kb {a:Type _} {l:List a} {i:Nat} (h:l.length<=i):nth l i=none:=by rw [nh];exact List.getElem?_eq_none h
theorem cM {a e:Ty} {p:Ty->Prop} (h:some a=some e) (x:p a):p e:=Option.some.inj h▸x
theorem bg {e:Ty} {q:Prop} (h:(none:Option Ty)=some e):q:=by cases h
theorem oJ {p:Nat->Ty->Prop} (b:p 0 ty0) (h2:p 2 qF) (h3:p 3 sO) (h4:p 4 ty4) (h5:p 5 ty5) (h9:p 9 ty9) (b0:p 20 Hw) (c4:p 22 vY) (c9:p 23 pG) (d1:p 24 xI) (d9:p 26 CR) (e3:p 27 CS) (e7:p 28 CT) (f8:p 30 CU) (g9:p 34 Hx) (i3:p 36 Hy) (j0:p 38 Hz) (k0:p 39 HA) (k5:p 40 HB) (l0:p 43 xJ) (l1:p 46 HC) (l2:p 47 HD) (l3:p 49 HE) (l4:p 53 HF) (l5:p 55 HH) (l6:p 57 HI) (l7:p 58 HJ) (l8:p 61 HK) (l9:p 66 HL) (m0:p 69 HM) (m1:p 72 HN) (m2:p 75 xK) (m3:p 77 CV) (m4:p 78 HO) (m5:p 79 xL) (m6:p 80 CW) (m7:p 82 HQ) (m8:p 87 xM) (m9:p 93 HR) (n0:p 95 HS) (n1:p 99 HT) (c:p 100 Ae) (d:p 101 rJ) (f:p 102 vX) (g:p 104 Af) (j:p 105 Ag) (k:p 106 Ah) (m:p 107 Ai) (o:p 108 Aj) (q:p 109 Ak) (r:p 111 Al) (s:p 112 Am) (u:p 113 An) (v:p 114 Ao) (w:p 115 Ap) (x:p 117 Aq) (y:p 121 tN) (z:p 122 Ar) (A:p 123 As) (B:p 125 At) (C:p 126 Au) (D:p 128 Av) (E:p 130 Aw) (F:p 136 Ax) (G:p 141 Ay) (H:p 144 Az) (I:p 146 AA) (J:p 148 AB) (K:p 154 AD) (L:p 156 AE) (M:p 158 AF) (N:p 163 AG) (O:p 164 AH) (P:p 166 AI) (Q:p 168 AJ) (R:p 169 AK) (S:p 173 AL) (T:p 175 AM) (U:p 176 AN) (V:p 178 AO) (W:p 180 AP) (X:p 187 AQ) (Y:p 189 AR) (Z:p 191 AS) (a8:p 194 AT) (a9:p 199 AU) (b1:p 200 rK) (b2:p 201 qi) (b3:p 203 AV) (b4:p 205 AW) (b5:p 207 AX) (b6:p 209 AY) (b7:p 210 AZ) (b8:p 212 A0) (b9:p 213 A2) (c0:p 216 rL) (c1:p 217 A3) (c2:p 218 tO) (c3:p 219 A4) (c5:p 221 A5) (c6:p 223 A6) (c7:p 228 A7) (c8:p 229 A8) (d0:p 233 A9) (d2:p 240 Ba) (d3:p 242 Bb) (d4:p 244 Bc) (d5:p 252 Bd) (d6:p 254 rM) (d7:p 255 Be) (d8:p 256 Bf) (e0:p 262 Bg) (e1:p 263 Bh) (e2:p 265 Bi) (e4:p 273 Bj) (e5:p 277 Bk) (e6:p 279 Bl) (e8:p 281 Bm) (e9:p 284 Bn) (f0:p 286 Bo) (f4:p 287 Bp) (f5:p 290 Bq) (f6:p 293 Br) (f7:p 298 Bs) (f9:p 300 Bt) (g0:p 303 Bu) (g1:p 306 Bv) (g2:p 310 Bw) (g3:p 315 Bx) (g4:p 321 Bz) (g5:p 322 BA) (g6:p 326 BB) (g7:p 332 BC) (g8:p 334 BD) (h1:p 341 BE) (h6:p 342 BF) (h7:p 344 BG) (h8:p 348 BH) (i0:p 351 tP) (i1:p 356 BI) (i2:p 358 BJ) (i4:p 361 BK) (i5:p 363 BL) (i6:p 365 BM) (i7:p 367 BN) (i9:p 368 BO) (j1:p 382 BP) (j2:p 386 BQ) (k1:p 390 BR) (k2:p 394 BS) (k3:p 397 BT) (k4:p 399 BU) (k6:p 400 BV) (k7:p 402 BW) (k8:p 404 BX) (k9:p 405 BY):∀t e,CX t=some e->p t e:=by
 intro t e h;by_cases a:t<416
 ·match t,a,h with
  | 0,_,h=>exact cM h b
  | 1,_,h=>exact bg h
  | 2,_,h=>exact cM h h2
  | 3,_,h=>exact cM h h3
  | 4,_,h=>exact cM h h4
  | 5,_,h=>exact cM h h5
  | 6,_,h=>exact bg h
  | 7,_,h=>exact bg h
  | 8,_,h=>exact bg h
  | 9,_,h=>exact cM h h9
  | 10,_,h=>exact bg h
  | 11,_,h=>exact bg h
  | 12,_,h=>exact bg h
  | 13,_,h=>exact bg h
  | 14,_,h=>exact bg h
  | 15,_,h=>exact bg h
  | 16,_,h=>exact bg h
  | 17,_,h=>exact bg h
  | 18,_,h=>exact bg h
  | 19,_,h=>exact bg h
  | 20,_,h=>exact cM h b0
  | 21,_,h=>exact bg h
  | 22,_,h=>exact cM h c4
  | 23,_,h=>exact cM h c9
  | 24,_,h=>exact cM h d1
  | 25,_,h=>exact bg h
  | 26,_,h=>exact cM h d9
  | 27,_,h=>exact cM h e3
  | 28,_,h=>exact cM h e7
  | 29,_,h=>exact bg h
  | 30,_,h=>exact cM h f8
  | 31,_,h=>exact bg h
  | 32,_,h=>exact bg h
  | 33,_,h=>exact bg h
  | 34,_,h=>exact cM h g9
  | 35,_,h=>exact bg h
  | 36,_,h=>exact cM h i3
  | 37,_,h=>exact bg h
  | 38,_,h=>exact cM h j0
  | 39,_,h=>exact cM h k0
  | 40,_,h=>exact cM h k5
  | 41,_,h=>exact bg h
  | 42,_,h=>exact bg h
  | 43,_,h=>exact cM h l0
  | 44,_,h=>exact bg h
  | 45,_,h=>exact bg h
  | 46,_,h=>exact cM h l1
  | 47,_,h=>exact cM h l2
  | 48,_,h=>exact bg h
  | 49,_,h=>exact cM h l3
  | 50,_,h=>exact bg h
  | 51,_,h=>exact bg h
  | 52,_,h=>exact bg h
  | 53,_,h=>exact cM h l4
  | 54,_,h=>exact bg h
  | 55,_,h=>exact cM h l5
  | 56,_,h=>exact bg h
  | 57,_,h=>exact cM h l6
  | 58,_,h=>exact cM h l7
  | 59,_,h=>exact bg h
  | 60,_,h=>exact bg h
  | 61,_,h=>exact cM h l8
  | 62,_,h=>exact bg h
  | 63,_,h=>exact bg h
  | 64,_,h=>exact bg h
  | 65,_,h=>exact bg h
  | 66,_,h=>exact cM h l9
  | 67,_,h=>exact bg h
  | 68,_,h=>exact bg h
  | 69,_,h=>exact cM h m0
  | 70,_,h=>exact bg h
  | 71,_,h=>exact bg h
  | 72,_,h=>exact cM h m1
  | 73,_,h=>exact bg h
  | 74,_,h=>exact bg h
  | 75,_,h=>exact cM h m2
  | 76,_,h=>exact bg h
  | 77,_,h=>exact cM h m3
  | 78,_,h=>exact cM h m4
  | 79,_,h=>exact cM h m5
  | 80,_,h=>exact cM h m6
  | 81,_,h=>exact bg h
  | 82,_,h=>exact cM h m7
  | 83,_,h=>exact bg h
  | 84,_,h=>exact bg h
  | 85,_,h=>exact bg h
  | 86,_,h=>exact bg h
  | 87,_,h=>exact cM h m8
  | 88,_,h=>exact bg h
  | 89,_,h=>exact bg h
  | 90,_,h=>exact bg h
  | 91,_,h=>exact bg h
  | 92,_,h=>exact bg h
  | 93,_,h=>exact cM h m9
  | 94,_,h=>exact bg h
  | 95,_,h=>exact cM h n0
  | 96,_,h=>exact bg h
  | 97,_,h=>exact bg h
  | 98,_,h=>exact bg h
  | 99,_,h=>exact cM h n1
  | 100,_,h=>exact cM h c
  | 101,_,h=>exact cM h d
  | 102,_,h=>exact cM h f
  | 103,_,h=>exact bg h
  | 104,_,h=>exact cM h g
  | 105,_,h=>exact cM h j
  | 106,_,h=>exact cM h k
  | 107,_,h=>exact cM h m
  | 108,_,h=>exact cM h o
  | 109,_,h=>exact cM h q
  | 110,_,h=>exact bg h
  | 111,_,h=>exact cM h r
  | 112,_,h=>exact cM h s
  | 113,_,h=>exact cM h u
  | 114,_,h=>exact cM h v
  | 115,_,h=>exact cM h w
  | 116,_,h=>exact bg h
  | 117,_,h=>exact cM h x
  | 118,_,h=>exact bg h
  | 119,_,h=>exact bg h
  | 120,_,h=>exact bg h
  | 121,_,h=>exact cM h y
  | 122,_,h=>exact cM h z
  | 123,_,h=>exact cM h A
  | 124,_,h=>exact bg h
  | 125,_,h=>exact cM h B
  | 126,_,h=>exact cM h C
  | 127,_,h=>exact bg h
  | 128,_,h=>exact cM h D
  | 129,_,h=>exact bg h
  | 130,_,h=>exact cM h E
  | 131,_,h=>exact bg h
  | 132,_,h=>exact bg h
  | 133,_,h=>exact bg h
  | 134,_,h=>exact bg h
  | 135,_,h=>exact bg h
  | 136,_,h=>exact cM h F
  | 137,_,h=>exact bg h
  | 138,_,h=>exact bg h
  | 139,_,h=>exact bg h
  | 140,_,h=>exact bg h
  | 141,_,h=>exact cM h G
  | 142,_,h=>exact bg h
  | 143,_,h=>exact bg h
  | 144,_,h=>exact cM h H
  | 145,_,h=>exact bg h
  | 146,_,h=>exact cM h I
  | 147,_,h=>exact bg h
  | 148,_,h=>exact cM h J
  | 149,_,h=>exact bg h
  | 150,_,h=>exact bg h
  | 151,_,h=>exact bg h
  | 152,_,h=>exact bg h
  | 153,_,h=>exact bg h
  | 154,_,h=>exact cM h K
  | 155,_,h=>exact bg h
  | 156,_,h=>exact cM h L
  | 157,_,h=>exact bg h
  | 158,_,h=>exact cM h M
  | 159,_,h=>exact bg h
  | 160,_,h=>exact bg h
  | 161,_,h=>exact bg h
  | 162,_,h=>exact bg h
  | 163,_,h=>exact cM h N
  | 164,_,h=>exact cM h O
  | 165,_,h=>exact bg h
  | 166,_,h=>exact cM h P
  | 167,_,h=>exact bg h
  | 168,_,h=>exact cM h Q
  | 169,_,h=>exact cM h R
  | 170,_,h=>exact bg h
  | 171,_,h=>exact bg h
  | 172,_,h=>exact bg h
  | 173,_,h=>exact cM h S
  | 174,_,h=>exact bg h
  | 175,_,h=>exact cM h T
  | 176,_,h=>exact cM h U
  | 177,_,h=>exact bg h
  | 178,_,h=>exact cM h V
  | 179,_,h=>exact bg h
  | 180,_,h=>exact cM h W
  | 181,_,h=>exact bg h
  | 182,_,h=>exact bg h
  | 183,_,h=>exact bg h
  | 184,_,h=>exact bg h
  | 185,_,h=>exact bg h
  | 186,_,h=>exact bg h
  | 187,_,h=>exact cM h X
  | 188,_,h=>exact bg h
  | 189,_,h=>exact cM h Y
  | 190,_,h=>exact bg h
  | 191,_,h=>exact cM h Z
  | 192,_,h=>exact bg h
  | 193,_,h=>exact bg h
  | 194,_,h=>exact cM h a8
  | 195,_,h=>exact bg h
  | 196,_,h=>exact bg h
  | 197,_,h=>exact bg h
  | 198,_,h=>exact bg h
  | 199,_,h=>exact cM h a9
  | 200,_,h=>exact cM h b1
  | 201,_,h=>exact cM h b2
  | 202,_,h=>exact bg h
  | 203,_,h=>exact cM h b3
  | 204,_,h=>exact bg h
  | 205,_,h=>exact cM h b4
  | 206,_,h=>exact bg h
  | 207,_,h=>exact cM h b5
  | 208,_,h=>exact bg h
  | 209,_,h=>exact cM h b6
  | 210,_,h=>exact cM h b7
  | 211,_,h=>exact bg h
  | 212,_,h=>exact cM h b8
  | 213,_,h=>exact cM h b9
  | 214,_,h=>exact bg h
  | 215,_,h=>exact bg h
  | 216,_,h=>exact cM h c0
  | 217,_,h=>exact cM h c1
  | 218,_,h=>exact cM h c2
  | 219,_,h=>exact cM h c3
  | 220,_,h=>exact bg h
  | 221,_,h=>exact cM h c5
  | 222,_,h=>exact bg h
  | 223,_,h=>exact cM h c6
  | 224,_,h=>exact bg h
  | 225,_,h=>exact bg h
  | 226,_,h=>exact bg h
  | 227,_,h=>exact bg h
  | 228,_,h=>exact cM h c7
  | 229,_,h=>exact cM h c8
  | 230,_,h=>exact bg h
  | 231,_,h=>exact bg h
  | 232,_,h=>exact bg h
  | 233,_,h=>exact cM h d0
  | 234,_,h=>exact bg h
  | 235,_,h=>exact bg h
  | 236,_,h=>exact bg h
  | 237,_,h=>exact bg h
  | 238,_,h=>exact bg h
  | 239,_,h=>exact bg h
  | 240,_,h=>exact cM h d2
  | 241,_,h=>exact bg h
  | 242,_,h=>exact cM h d3
  | 243,_,h=>exact bg h
  | 244,_,h=>exact cM h d4
  | 245,_,h=>exact bg h
  | 246,_,h=>exact bg h
  | 247,_,h=>exact bg h
  | 248,_,h=>exact bg h
  | 249,_,h=>exact bg h
  | 250,_,h=>exact bg h
  | 251,_,h=>exact bg h
  | 252,_,h=>exact cM h d5
  | 253,_,h=>exact bg h
  | 254,_,h=>exact cM h d6
  | 255,_,h=>exact cM h d7
  | 256,_,h=>exact cM h d8
  | 257,_,h=>exact bg h
  | 258,_,h=>exact bg h
  | 259,_,h=>exact bg h
  | 260,_,h=>exact bg h
  | 261,_,h=>exact bg h
  | 262,_,h=>exact cM h e0
  | 263,_,h=>exact cM h e1
  | 264,_,h=>exact bg h
  | 265,_,h=>exact cM h e2
  | 266,_,h=>exact bg h
  | 267,_,h=>exact bg h
  | 268,_,h=>exact bg h
  | 269,_,h=>exact bg h
  | 270,_,h=>exact bg h
  | 271,_,h=>exact bg h
  | 272,_,h=>exact bg h
  | 273,_,h=>exact cM h e4
  | 274,_,h=>exact bg h
  | 275,_,h=>exact bg h
  | 276,_,h=>exact bg h
  | 277,_,h=>exact cM h e5
  | 278,_,h=>exact bg h
  | 279,_,h=>exact cM h e6
  | 280,_,h=>exact bg h
  | 281,_,h=>exact cM h e8
  | 282,_,h=>exact bg h
  | 283,_,h=>exact bg h
  | 284,_,h=>exact cM h e9
  | 285,_,h=>exact bg h
  | 286,_,h=>exact cM h f0
  | 287,_,h=>exact cM h f4
  | 288,_,h=>exact bg h
  | 289,_,h=>exact bg h
  | 290,_,h=>exact cM h f5
  | 291,_,h=>exact bg h
  | 292,_,h=>exact bg h
  | 293,_,h=>exact cM h f6
  | 294,_,h=>exact bg h
  | 295,_,h=>exact bg h
  | 296,_,h=>exact bg h
  | 297,_,h=>exact bg h
  | 298,_,h=>exact cM h f7
  | 299,_,h=>exact bg h
  | 300,_,h=>exact cM h f9
  | 301,_,h=>exact bg h
  | 302,_,h=>exact bg h
  | 303,_,h=>exact cM h g0
  | 304,_,h=>exact bg h
  | 305,_,h=>exact bg h
  | 306,_,h=>exact cM h g1
  | 307,_,h=>exact bg h
  | 308,_,h=>exact bg h
  | 309,_,h=>exact bg h
  | 310,_,h=>exact cM h g2
  | 311,_,h=>exact bg h
  | 312,_,h=>exact bg h
  | 313,_,h=>exact bg h
  | 314,_,h=>exact bg h
  | 315,_,h=>exact cM h g3
  | 316,_,h=>exact bg h
  | 317,_,h=>exact bg h
  | 318,_,h=>exact bg h
  | 319,_,h=>exact bg h
  | 320,_,h=>exact bg h
  | 321,_,h=>exact cM h g4
  | 322,_,h=>exact cM h g5
  | 323,_,h=>exact bg h
  | 324,_,h=>exact bg h
  | 325,_,h=>exact bg h
  | 326,_,h=>exact cM h g6
  | 327,_,h=>exact bg h
  | 328,_,h=>exact bg h
  | 329,_,h=>exact bg h
  | 330,_,h=>exact bg h
  | 331,_,h=>exact bg h
  | 332,_,h=>exact cM h g7
  | 333,_,h=>exact bg h
  | 334,_,h=>exact cM h g8
  | 335,_,h=>exact bg h
  | 336,_,h=>exact bg h
  | 337,_,h=>exact bg h
  | 338,_,h=>exact bg h
  | 339,_,h=>exact bg h
  | 340,_,h=>exact bg h
  | 341,_,h=>exact cM h h1
  | 342,_,h=>exact cM h h6
  | 343,_,h=>exact bg h
  | 344,_,h=>exact cM h h7
  | 345,_,h=>exact bg h
  | 346,_,h=>exact bg h
  | 347,_,h=>exact bg h
  | 348,_,h=>exact cM h h8
  | 349,_,h=>exact bg h
  | 350,_,h=>exact bg h
  | 351,_,h=>exact cM h i0
  | 352,_,h=>exact bg h
  | 353,_,h=>exact bg h
  | 354,_,h=>exact bg h
  | 355,_,h=>exact bg h
  | 356,_,h=>exact cM h i1
  | 357,_,h=>exact bg h
  | 358,_,h=>exact cM h i2
  | 359,_,h=>exact bg h
  | 360,_,h=>exact bg h
  | 361,_,h=>exact cM h i4
  | 362,_,h=>exact bg h
  | 363,_,h=>exact cM h i5
  | 364,_,h=>exact bg h
  | 365,_,h=>exact cM h i6
  | 366,_,h=>exact bg h
  | 367,_,h=>exact cM h i7
  | 368,_,h=>exact cM h i9
  | 369,_,h=>exact bg h
  | 370,_,h=>exact bg h
  | 371,_,h=>exact bg h
  | 372,_,h=>exact bg h
  | 373,_,h=>exact bg h
  | 374,_,h=>exact bg h
  | 375,_,h=>exact bg h
  | 376,_,h=>exact bg h
  | 377,_,h=>exact bg h
  | 378,_,h=>exact bg h
  | 379,_,h=>exact bg h
  | 380,_,h=>exact bg h
  | 381,_,h=>exact bg h
  | 382,_,h=>exact cM h j1
  | 383,_,h=>exact bg h
  | 384,_,h=>exact bg h
  | 385,_,h=>exact bg h
  | 386,_,h=>exact cM h j2
  | 387,_,h=>exact bg h
  | 388,_,h=>exact bg h
  | 389,_,h=>exact bg h
  | 390,_,h=>exact cM h k1
  | 391,_,h=>exact bg h
  | 392,_,h=>exact bg h
  | 393,_,h=>exact bg h
  | 394,_,h=>exact cM h k2
  | 395,_,h=>exact bg h
  | 396,_,h=>exact bg h
  | 397,_,h=>exact cM h k3
  | 398,_,h=>exact bg h
  | 399,_,h=>exact cM h k4
  | 400,_,h=>exact cM h k6
  | 401,_,h=>exact bg h
  | 402,_,h=>exact cM h k7
  | 403,_,h=>exact bg h
  | 404,_,h=>exact cM h k8
  | 405,_,h=>exact cM h k9
  | 406,_,h=>exact bg h
  | 407,_,h=>exact bg h
  | 408,_,h=>exact bg h
  | 409,_,h=>exact bg h
  | 410,_,h=>exact bg h
  | 411,_,h=>exact bg h
  | 412,_,h=>exact bg h
  | 413,_,h=>exact bg h
  | 414,_,h=>exact bg h
  | 415,_,h=>exact bg h
  | n+416,a,_=>omega
 ·have hl:qG.length=26:=rfl;have:nth qG (t / 16)=none:=Kb (l:=qG) (i:=t / 16) (by rw [hl];omega);unfold CX at h;rw [this] at h;cases h
theorem adn (x:GH):(bu x.v).length=1/\∀a,x.v≠ .agg a:=by obtain ⟨v,h⟩:=x;cases v<;>first | exact ⟨rfl,λa h=>by cases h⟩ | cases h
theorem ae :tb.Ok prog where
 aM:=oJ (p:=λt e=>prog.underlying t=some e.aM) underlying0 underlying2 underlying3 underlying4 underlying5 underlying9 underlying20 underlying22 underlying23 underlying24 underlying26 underlying27 underlying28 underlying30 underlying34 underlying36 underlying38 underlying39 underlying40 underlying43 underlying46 underlying47 underlying49 underlying53 underlying55 underlying57 underlying58 underlying61 underlying66 underlying69 underlying72 underlying75 underlying77 underlying78 underlying79 underlying80 underlying82 underlying87 underlying93 underlying95 underlying99 underlying100 underlying101 underlying102 underlying104 underlying105 underlying106 underlying107 underlying108 underlying109 underlying111 underlying112 underlying113 underlying114 underlying115 underlying117 underlying121 underlying122 underlying123 underlying125 underlying126 underlying128 underlying130 underlying136 underlying141 underlying144 underlying146 underlying148 underlying154 underlying156 underlying158 underlying163 underlying164 underlying166 underlying168 underlying169 underlying173 underlying175 underlying176 underlying178 underlying180 underlying187 underlying189 underlying191 underlying194 underlying199 underlying200 underlying201 underlying203 underlying205 underlying207 underlying209 underlying210 underlying212 underlying213 underlying216 underlying217 underlying218 underlying219 underlying221 underlying223 underlying228 underlying229 underlying233 underlying240 underlying242 underlying244 underlying252 underlying254 underlying255 underlying256 underlying262 underlying263 underlying265 underlying273 underlying277 underlying279 underlying281 underlying284 underlying286 underlying287 underlying290 underlying293 underlying298 underlying300 underlying303 underlying306 underlying310 underlying315 underlying321 underlying322 underlying326 underlying332 underlying334 underlying341 underlying342 underlying344 underlying348 underlying351 underlying356 underlying358 underlying361 underlying363 underlying365 underlying367 underlying368 underlying382 underlying386 underlying390 underlying394 underlying397 underlying399 underlying400 underlying402 underlying404 underlying405
 info:=oJ (p:=λt e=>∃i,prog.info? t=some i/\i.size=e.size/\i.bytes=e.bytes/\i.zero=some e.zero) ⟨t0,type0,rfl,rfl,rfl⟩ ⟨t2,type2,rfl,rfl,rfl⟩ ⟨t3,type3,rfl,rfl,rfl⟩ ⟨t4,type4,rfl,rfl,rfl⟩ ⟨t5,type5,rfl,rfl,rfl⟩ ⟨t9,type9,rfl,rfl,rfl⟩ ⟨t20,type20,rfl,rfl,rfl⟩ ⟨t22,type22,rfl,rfl,rfl⟩ ⟨t23,type23,rfl,rfl,rfl⟩ ⟨t24,type24,rfl,rfl,rfl⟩ ⟨t26,type26,rfl,rfl,rfl⟩ ⟨t27,type27,rfl,rfl,rfl⟩ ⟨t28,type28,rfl,rfl,rfl⟩ ⟨t30,type30,rfl,rfl,rfl⟩ ⟨t34,type34,rfl,rfl,rfl⟩ ⟨t36,type36,rfl,rfl,rfl⟩ ⟨t38,type38,rfl,rfl,rfl⟩ ⟨t39,type39,rfl,rfl,rfl⟩ ⟨t40,type40,rfl,rfl,rfl⟩ ⟨t43,type43,rfl,rfl,rfl⟩ ⟨t46,type46,rfl,rfl,rfl⟩ ⟨t47,type47,rfl,rfl,rfl⟩ ⟨t49,type49,rfl,rfl,rfl⟩ ⟨t53,type53,rfl,rfl,rfl⟩ ⟨t55,type55,rfl,rfl,rfl⟩ ⟨t57,type57,rfl,rfl,rfl⟩ ⟨t58,type58,rfl,rfl,rfl⟩ ⟨t61,type61,rfl,rfl,rfl⟩ ⟨t66,type66,rfl,rfl,rfl⟩ ⟨t69,type69,rfl,rfl,rfl⟩ ⟨t72,type72,rfl,rfl,rfl⟩ ⟨t75,type75,rfl,rfl,rfl⟩ ⟨t77,type77,rfl,rfl,rfl⟩ ⟨t78,type78,rfl,rfl,rfl⟩ ⟨t79,type79,rfl,rfl,rfl⟩ ⟨t80,type80,rfl,rfl,rfl⟩ ⟨t82,type82,rfl,rfl,rfl⟩ ⟨t87,type87,rfl,rfl,rfl⟩ ⟨t93,type93,rfl,rfl,rfl⟩ ⟨t95,type95,rfl,rfl,rfl⟩ ⟨t99,type99,rfl,rfl,rfl⟩ ⟨t100,type100,rfl,rfl,rfl⟩ ⟨t101,type101,rfl,rfl,rfl⟩ ⟨t102,type102,rfl,rfl,rfl⟩ ⟨t104,type104,rfl,rfl,rfl⟩ ⟨t105,type105,rfl,rfl,rfl⟩ ⟨t106,type106,rfl,rfl,rfl⟩ ⟨t107,type107,rfl,rfl,rfl⟩ ⟨t108,type108,rfl,rfl,rfl⟩ ⟨t109,type109,rfl,rfl,rfl⟩ ⟨t111,type111,rfl,rfl,rfl⟩ ⟨t112,type112,rfl,rfl,rfl⟩ ⟨t113,type113,rfl,rfl,rfl⟩ ⟨t114,type114,rfl,rfl,rfl⟩ ⟨t115,type115,rfl,rfl,rfl⟩ ⟨t117,type117,rfl,rfl,rfl⟩ ⟨t121,type121,rfl,rfl,rfl⟩ ⟨t122,type122,rfl,rfl,rfl⟩ ⟨t123,type123,rfl,rfl,rfl⟩ ⟨t125,type125,rfl,rfl,rfl⟩ ⟨t126,type126,rfl,rfl,rfl⟩ ⟨t128,type128,rfl,rfl,rfl⟩ ⟨t130,type130,rfl,rfl,rfl⟩ ⟨t136,type136,rfl,rfl,rfl⟩ ⟨t141,type141,rfl,rfl,rfl⟩ ⟨t144,type144,rfl,rfl,rfl⟩ ⟨t146,type146,rfl,rfl,rfl⟩ ⟨t148,type148,rfl,rfl,rfl⟩ ⟨t154,type154,rfl,rfl,rfl⟩ ⟨t156,type156,rfl,rfl,rfl⟩ ⟨t158,type158,rfl,rfl,rfl⟩ ⟨t163,type163,rfl,rfl,rfl⟩ ⟨t164,type164,rfl,rfl,rfl⟩ ⟨t166,type166,rfl,rfl,rfl⟩ ⟨t168,type168,rfl,rfl,rfl⟩ ⟨t169,type169,rfl,rfl,rfl⟩ ⟨t173,type173,rfl,rfl,rfl⟩ ⟨t175,type175,rfl,rfl,rfl⟩ ⟨t176,type176,rfl,rfl,rfl⟩ ⟨t178,type178,rfl,rfl,rfl⟩ ⟨t180,type180,rfl,rfl,rfl⟩ ⟨t187,type187,rfl,rfl,rfl⟩ ⟨t189,type189,rfl,rfl,rfl⟩ ⟨t191,type191,rfl,rfl,rfl⟩ ⟨t194,type194,rfl,rfl,rfl⟩ ⟨t199,type199,rfl,rfl,rfl⟩ ⟨t200,type200,rfl,rfl,rfl⟩ ⟨t201,type201,rfl,rfl,rfl⟩ ⟨t203,type203,rfl,rfl,rfl⟩ ⟨t205,type205,rfl,rfl,rfl⟩ ⟨t207,type207,rfl,rfl,rfl⟩ ⟨t209,type209,rfl,rfl,rfl⟩ ⟨t210,type210,rfl,rfl,rfl⟩ ⟨t212,type212,rfl,rfl,rfl⟩ ⟨t213,type213,rfl,rfl,rfl⟩ ⟨t216,type216,rfl,rfl,rfl⟩ ⟨t217,type217,rfl,rfl,rfl⟩ ⟨t218,type218,rfl,rfl,rfl⟩ ⟨t219,type219,rfl,rfl,rfl⟩ ⟨t221,type221,rfl,rfl,rfl⟩ ⟨t223,type223,rfl,rfl,rfl⟩ ⟨t228,type228,rfl,rfl,rfl⟩ ⟨t229,type229,rfl,rfl,rfl⟩ ⟨t233,type233,rfl,rfl,rfl⟩ ⟨t240,type240,rfl,rfl,rfl⟩ ⟨t242,type242,rfl,rfl,rfl⟩ ⟨t244,type244,rfl,rfl,rfl⟩ ⟨t252,type252,rfl,rfl,rfl⟩ ⟨t254,type254,rfl,rfl,rfl⟩ ⟨t255,type255,rfl,rfl,rfl⟩ ⟨t256,type256,rfl,rfl,rfl⟩ ⟨t262,type262,rfl,rfl,rfl⟩ ⟨t263,type263,rfl,rfl,rfl⟩ ⟨t265,type265,rfl,rfl,rfl⟩ ⟨t273,type273,rfl,rfl,rfl⟩ ⟨t277,type277,rfl,rfl,rfl⟩ ⟨t279,type279,rfl,rfl,rfl⟩ ⟨t281,type281,rfl,rfl,rfl⟩ ⟨t284,type284,rfl,rfl,rfl⟩ ⟨t286,type286,rfl,rfl,rfl⟩ ⟨t287,type287,rfl,rfl,rfl⟩ ⟨t290,type290,rfl,rfl,rfl⟩ ⟨t293,type293,rfl,rfl,rfl⟩ ⟨t298,type298,rfl,rfl,rfl⟩ ⟨t300,type300,rfl,rfl,rfl⟩ ⟨t303,type303,rfl,rfl,rfl⟩ ⟨t306,type306,rfl,rfl,rfl⟩ ⟨t310,type310,rfl,rfl,rfl⟩ ⟨t315,type315,rfl,rfl,rfl⟩ ⟨t321,type321,rfl,rfl,rfl⟩ ⟨t322,type322,rfl,rfl,rfl⟩ ⟨t326,type326,rfl,rfl,rfl⟩ ⟨t332,type332,rfl,rfl,rfl⟩ ⟨t334,type334,rfl,rfl,rfl⟩ ⟨t341,type341,rfl,rfl,rfl⟩ ⟨t342,type342,rfl,rfl,rfl⟩ ⟨t344,type344,rfl,rfl,rfl⟩ ⟨t348,type348,rfl,rfl,rfl⟩ ⟨t351,type351,rfl,rfl,rfl⟩ ⟨t356,type356,rfl,rfl,rfl⟩ ⟨t358,type358,rfl,rfl,rfl⟩ ⟨t361,type361,rfl,rfl,rfl⟩ ⟨t363,type363,rfl,rfl,rfl⟩ ⟨t365,type365,rfl,rfl,rfl⟩ ⟨t367,type367,rfl,rfl,rfl⟩ ⟨t368,type368,rfl,rfl,rfl⟩ ⟨t382,type382,rfl,rfl,rfl⟩ ⟨t386,type386,rfl,rfl,rfl⟩ ⟨t390,type390,rfl,rfl,rfl⟩ ⟨t394,type394,rfl,rfl,rfl⟩ ⟨t397,type397,rfl,rfl,rfl⟩ ⟨t399,type399,rfl,rfl,rfl⟩ ⟨t400,type400,rfl,rfl,rfl⟩ ⟨t402,type402,rfl,rfl,rfl⟩ ⟨t404,type404,rfl,rfl,rfl⟩ ⟨t405,type405,rfl,rfl,rfl⟩
 agg:=by apply oJ (p:=λt e=>pk e.aM=true->∀x,∃cs,e.sh.enc x=.agg cs/\cs.size=e.size)<;>first | (intro h;cases h;done) | exact (λ_ x=>⟨_,rfl,rfl⟩) | exact (λ_ x=>⟨_,rfl,x.size⟩)
 leaf:=by apply oJ (p:=λt e=>pk e.aM=false->e.size=1/\∀x,(bu (e.sh.enc x)).length=1/\∀cs,e.sh.enc x≠ .agg cs)<;>first | (intro h;cases h;done) | (refine λ_=>⟨rfl,λx=>⟨rfl,λcs h=> ?_⟩⟩;cases h;done) | exact (λ_=>⟨rfl,adn⟩)
 yD:=by apply oJ (p:=λt e=>(bu e.zero).length=e.size)<;>first | exact rfl
 B6:=by apply oJ (p:=λt e=>e.aM=.int .u8->bu e.zero=[.int .u8 0])<;>first | (intro h;cases h;done) | exact (λ_=>rfl)
 Px:=by apply oJ (p:=λt e=>pk e.aM=true->∃cs,e.zero=.agg cs)<;>first | (intro h;cases h;done) | exact (λ_=>⟨_,rfl⟩)
 call:=by
  intro g h;by_cases k:g<352
  ·match g,k,h with
   | 0,_,h=>exact absurd (show false=true from h) (by simp)
   | 1,_,h=>exact absurd (show false=true from h) (by simp)
   | 2,_,_=>exact call2
   | 3,_,_=>exact call3
   | 4,_,_=>exact call4
   | 5,_,_=>exact call5
   | 6,_,_=>exact call6
   | 7,_,_=>exact call7
   | 8,_,_=>exact call8
   | 9,_,_=>exact call9
   | 10,_,_=>exact call10
   | 11,_,_=>exact call11
   | 12,_,_=>exact call12
   | 13,_,_=>exact call13
   | 14,_,_=>exact call14
   | 15,_,_=>exact call15
   | 16,_,_=>exact call16
   | 17,_,_=>exact call17
   | 18,_,_=>exact call18
   | 19,_,_=>exact call19
   | 20,_,_=>exact call20
   | 21,_,_=>exact call21
   | 22,_,_=>exact call22
   | 23,_,_=>exact call23
   | 24,_,_=>exact call24
   | 25,_,_=>exact call25
   | 26,_,_=>exact call26
   | 27,_,_=>exact call27
   | 28,_,_=>exact call28
   | 29,_,_=>exact call29
   | 30,_,_=>exact call30
   | 31,_,_=>exact call31
   | 32,_,_=>exact call32
   | 33,_,_=>exact call33
   | 34,_,_=>exact call34
   | 35,_,_=>exact call35
   | 36,_,_=>exact call36
   | 37,_,_=>exact call37
   | 38,_,_=>exact call38
   | 39,_,_=>exact call39
   | 40,_,_=>exact call40
   | 41,_,_=>exact call41
   | 42,_,_=>exact call42
   | 43,_,_=>exact call43
   | 44,_,_=>exact call44
   | 45,_,_=>exact call45
   | 46,_,_=>exact call46
   | 47,_,_=>exact call47
   | 48,_,_=>exact call48
   | 49,_,_=>exact call49
   | 50,_,_=>exact call50
   | 51,_,_=>exact call51
   | 52,_,_=>exact call52
   | 53,_,_=>exact call53
   | 54,_,_=>exact call54
   | 55,_,_=>exact call55
   | 56,_,_=>exact call56
   | 57,_,_=>exact call57
   | 58,_,_=>exact call58
   | 59,_,_=>exact call59
   | 60,_,_=>exact call60
   | 61,_,_=>exact call61
   | 62,_,_=>exact call62
   | 63,_,_=>exact call63
   | 64,_,_=>exact call64
   | 65,_,_=>exact call65
   | 66,_,_=>exact call66
   | 67,_,_=>exact call67
   | 68,_,_=>exact call68
   | 69,_,_=>exact call69
   | 70,_,_=>exact call70
   | 71,_,_=>exact call71
   | 72,_,_=>exact call72
   | 73,_,_=>exact call73
   | 74,_,_=>exact call74
   | 75,_,_=>exact call75
   | 76,_,_=>exact call76
   | 77,_,_=>exact call77
   | 78,_,_=>exact call78
   | 79,_,_=>exact call79
   | 80,_,_=>exact call80
   | 81,_,_=>exact call81
   | 82,_,_=>exact call82
   | 83,_,_=>exact call83
   | 84,_,_=>exact call84
   | 85,_,_=>exact call85
   | 86,_,_=>exact call86
   | 87,_,_=>exact call87
   | 88,_,_=>exact call88
   | 89,_,_=>exact call89
   | 90,_,_=>exact call90
   | 91,_,_=>exact call91
   | 92,_,_=>exact call92
   | 93,_,_=>exact call93
   | 94,_,_=>exact call94
   | 95,_,_=>exact call95
   | 96,_,_=>exact call96
   | 97,_,_=>exact call97
   | 98,_,_=>exact call98
   | 99,_,_=>exact call99
   | 100,_,_=>exact call100
   | 101,_,_=>exact call101
   | 102,_,_=>exact call102
   | 103,_,_=>exact call103
   | 104,_,_=>exact call104
   | 105,_,_=>exact call105
   | 106,_,_=>exact call106
   | 107,_,_=>exact call107
   | 108,_,_=>exact call108
   | 109,_,_=>exact call109
   | 110,_,_=>exact call110
   | 111,_,_=>exact call111
   | 112,_,_=>exact call112
   | 113,_,_=>exact call113
   | 114,_,_=>exact call114
   | 115,_,_=>exact call115
   | 116,_,_=>exact call116
   | 117,_,_=>exact call117
   | 118,_,_=>exact call118
   | 119,_,_=>exact call119
   | 120,_,_=>exact call120
   | 121,_,_=>exact call121
   | 122,_,_=>exact call122
   | 123,_,_=>exact call123
   | 124,_,_=>exact call124
   | 125,_,_=>exact call125
   | 126,_,_=>exact call126
   | 127,_,_=>exact call127
   | 128,_,_=>exact call128
   | 129,_,_=>exact call129
   | 130,_,_=>exact call130
   | 131,_,_=>exact call131
   | 132,_,_=>exact call132
   | 133,_,_=>exact call133
   | 134,_,_=>exact call134
   | 135,_,_=>exact call135
   | 136,_,_=>exact call136
   | 137,_,_=>exact call137
   | 138,_,_=>exact call138
   | 139,_,_=>exact call139
   | 140,_,_=>exact call140
   | 141,_,_=>exact call141
   | 142,_,_=>exact call142
   | 143,_,_=>exact call143
   | 144,_,_=>exact call144
   | 145,_,_=>exact call145
   | 146,_,_=>exact call146
   | 147,_,_=>exact call147
   | 148,_,_=>exact call148
   | 149,_,_=>exact call149
   | 150,_,_=>exact call150
   | 151,_,_=>exact call151
   | 152,_,_=>exact call152
   | 153,_,_=>exact call153
   | 154,_,_=>exact call154
   | 155,_,_=>exact call155
   | 156,_,_=>exact call156
   | 157,_,_=>exact call157
   | 158,_,_=>exact call158
   | 159,_,_=>exact call159
   | 160,_,_=>exact call160
   | 161,_,_=>exact call161
   | 162,_,_=>exact call162
   | 163,_,_=>exact call163
   | 164,_,_=>exact call164
   | 165,_,_=>exact call165
   | 166,_,_=>exact call166
   | 167,_,_=>exact call167
   | 168,_,_=>exact call168
   | 169,_,_=>exact call169
   | 170,_,_=>exact call170
   | 171,_,_=>exact call171
   | 172,_,_=>exact call172
   | 173,_,_=>exact call173
   | 174,_,_=>exact call174
   | 175,_,_=>exact call175
   | 176,_,_=>exact call176
   | 177,_,_=>exact call177
   | 178,_,_=>exact call178
   | 179,_,_=>exact call179
   | 180,_,_=>exact call180
   | 181,_,_=>exact call181
   | 182,_,_=>exact call182
   | 183,_,_=>exact call183
   | 184,_,_=>exact call184
   | 185,_,_=>exact call185
   | 186,_,_=>exact call186
   | 187,_,_=>exact call187
   | 188,_,_=>exact call188
   | 189,_,_=>exact call189
   | 190,_,_=>exact call190
   | 191,_,_=>exact call191
   | 192,_,_=>exact call192
   | 193,_,_=>exact call193
   | 194,_,_=>exact call194
   | 195,_,_=>exact call195
   | 196,_,_=>exact call196
   | 197,_,_=>exact call197
   | 198,_,_=>exact call198
   | 199,_,_=>exact call199
   | 200,_,_=>exact call200
   | 201,_,_=>exact call201
   | 202,_,_=>exact call202
   | 203,_,_=>exact call203
   | 204,_,_=>exact call204
   | 205,_,_=>exact call205
   | 206,_,_=>exact call206
   | 207,_,_=>exact call207
   | 208,_,_=>exact call208
   | 209,_,_=>exact call209
   | 210,_,_=>exact call210
   | 211,_,_=>exact call211
   | 212,_,_=>exact call212
   | 213,_,_=>exact call213
   | 214,_,_=>exact call214
   | 215,_,_=>exact call215
   | 216,_,_=>exact call216
   | 217,_,_=>exact call217
   | 218,_,_=>exact call218
   | 219,_,_=>exact call219
   | 220,_,_=>exact call220
   | 221,_,_=>exact call221
   | 222,_,_=>exact call222
   | 223,_,_=>exact call223
   | 224,_,_=>exact call224
   | 225,_,_=>exact call225
   | 226,_,_=>exact call226
   | 227,_,_=>exact call227
   | 228,_,_=>exact call228
   | 229,_,_=>exact call229
   | 230,_,_=>exact call230
   | 231,_,_=>exact call231
   | 232,_,_=>exact call232
   | 233,_,_=>exact call233
   | 234,_,_=>exact call234
   | 235,_,_=>exact call235
   | 236,_,_=>exact call236
   | 237,_,_=>exact call237
   | 238,_,_=>exact call238
   | 239,_,_=>exact call239
   | 240,_,_=>exact call240
   | 241,_,_=>exact call241
   | 242,_,_=>exact call242
   | 243,_,_=>exact call243
   | 244,_,_=>exact call244
   | 245,_,_=>exact call245
   | 246,_,_=>exact call246
   | 247,_,_=>exact call247
   | 248,_,_=>exact call248
   | 249,_,_=>exact call249
   | 250,_,_=>exact call250
   | 251,_,_=>exact call251
   | 252,_,_=>exact call252
   | 253,_,_=>exact call253
   | 254,_,_=>exact call254
   | 255,_,h=>exact absurd (show false=true from h) (by simp)
   | 256,_,_=>exact call256
   | 257,_,_=>exact call257
   | 258,_,_=>exact call258
   | 259,_,_=>exact call259
   | 260,_,_=>exact call260
   | 261,_,_=>exact call261
   | 262,_,_=>exact call262
   | 263,_,_=>exact call263
   | 264,_,_=>exact call264
   | 265,_,_=>exact call265
   | 266,_,_=>exact call266
   | 267,_,_=>exact call267
   | 268,_,_=>exact call268
   | 269,_,_=>exact call269
   | 270,_,_=>exact call270
   | 271,_,_=>exact call271
   | 272,_,_=>exact call272
   | 273,_,_=>exact call273
   | 274,_,_=>exact call274
   | 275,_,_=>exact call275
   | 276,_,_=>exact call276
   | 277,_,_=>exact call277
   | 278,_,_=>exact call278
   | 279,_,_=>exact call279
   | 280,_,_=>exact call280
   | 281,_,_=>exact call281
   | 282,_,_=>exact call282
   | 283,_,_=>exact call283
   | 284,_,_=>exact call284
   | 285,_,_=>exact call285
   | 286,_,_=>exact call286
   | 287,_,_=>exact call287
   | 288,_,_=>exact call288
   | 289,_,_=>exact call289
   | 290,_,_=>exact call290
   | 291,_,_=>exact call291
   | 292,_,_=>exact call292
   | 293,_,_=>exact call293
   | 294,_,_=>exact call294
   | 295,_,_=>exact call295
   | 296,_,_=>exact call296
   | 297,_,_=>exact call297
   | 298,_,_=>exact call298
   | 299,_,_=>exact call299
   | 300,_,_=>exact call300
   | 301,_,_=>exact call301
   | 302,_,_=>exact call302
   | 303,_,_=>exact call303
   | 304,_,_=>exact call304
   | 305,_,_=>exact call305
   | 306,_,_=>exact call306
   | 307,_,_=>exact call307
   | 308,_,h=>exact absurd (show false=true from h) (by simp)
   | 309,_,h=>exact absurd (show false=true from h) (by simp)
   | 310,_,_=>exact call310
   | 311,_,_=>exact call311
   | 312,_,_=>exact call312
   | 313,_,_=>exact call313
   | 314,_,_=>exact call314
   | 315,_,_=>exact call315
   | 316,_,_=>exact call316
   | 317,_,_=>exact call317
   | 318,_,_=>exact call318
   | 319,_,_=>exact call319
   | 320,_,_=>exact call320
   | 321,_,_=>exact call321
   | 322,_,_=>exact call322
   | 323,_,_=>exact call323
   | 324,_,_=>exact call324
   | 325,_,_=>exact call325
   | 326,_,_=>exact call326
   | 327,_,_=>exact call327
   | 328,_,_=>exact call328
   | 329,_,_=>exact call329
   | 330,_,_=>exact call330
   | 331,_,_=>exact call331
   | 332,_,_=>exact call332
   | 333,_,_=>exact call333
   | 334,_,_=>exact call334
   | 335,_,_=>exact call335
   | 336,_,_=>exact call336
   | 337,_,_=>exact call337
   | 338,_,_=>exact call338
   | 339,_,_=>exact call339
   | 340,_,_=>exact call340
   | 341,_,h=>exact absurd (show false=true from h) (by simp)
   | 342,_,_=>exact call342
   | 343,_,_=>exact call343
   | 344,_,h=>exact absurd (show false=true from h) (by simp)
   | 345,_,_=>exact call345
   | 346,_,h=>exact absurd (show false=true from h) (by simp)
   | 347,_,h=>exact absurd (show false=true from h) (by simp)
   | 348,_,h=>exact absurd (show false=true from h) (by simp)
   | 349,_,h=>exact absurd (show false=true from h) (by simp)
   | 350,_,h=>exact absurd (show false=true from h) (by simp)
   | 351,_,h=>exact absurd (show false=true from h) (by simp)
   | n+352,k,_=>omega
  ·have m:qv.length=22:=rfl;have:nth qv (g / 16)=none:=Kb (l:=qv) (i:=g / 16) (by rw [m];omega);have h:Cu g=true:=h;unfold Cu at h;rw [this] at h;cases h
 ext:=by
  intro g f h args w;have h:vu g=some f:=h;unfold vu at h;cases b:Nat.beq g 255 with
  | true=>have a:g=255:=Nat.eq_of_beq_eq_true b;subst a;exact run_callFunc_extern func255 (by kernel_rfl) (by kernel_rfl) (by kernel_rfl) (show _=_ from (show _=some _ by kernel_rfl:_=some _).trans h) args w
  | false=>
  simp only [b,cond_false] at h;cases c:Nat.beq g 308 with
  | true=>have a:g=308:=Nat.eq_of_beq_eq_true c;subst a;exact run_callFunc_extern func308 (by kernel_rfl) (by kernel_rfl) (by kernel_rfl) (show _=_ from (show _=some _ by kernel_rfl:_=some _).trans h) args w
  | false=>
  simp only [c,cond_false] at h;cases d:Nat.beq g 309 with
  | true=>have a:g=309:=Nat.eq_of_beq_eq_true d;subst a;exact run_callFunc_extern func309 (by kernel_rfl) (by kernel_rfl) (by kernel_rfl) (show _=_ from (show _=some _ by kernel_rfl:_=some _).trans h) args w
  | false=>
  simp only [d,cond_false] at h;cases j:Nat.beq g 344 with
  | true=>have a:g=344:=Nat.eq_of_beq_eq_true j;subst a;exact run_callFunc_extern func344 (by kernel_rfl) (by kernel_rfl) (by kernel_rfl) (show _=_ from (show _=some _ by kernel_rfl:_=some _).trans h) args w
  | false=>
  simp only [j,cond_false] at h;cases h
 mixed:=by kernel_rfl
theorem ic {t Q h} (hv:Sb prog t Q h):aa prog zvb [(dj).enc t] (aR) Q h:=
 bT (C:=⟨prog,tb,zvc⟩) (A:=zvd) ae func3 rfl (Eq.mpr (by kernel_rfl) hv)
theorem zxc {Q h} (hv:Uw prog  Q h):aa prog zpv [] (aR) Q h:=
 bT (C:=⟨prog,tb,Qo⟩) (A:=Qp) ae func7 rfl (Eq.mpr (by kernel_rfl) hv)
theorem Qb {t Q h} (hv:VI prog t Q h):aa prog zsh [(dj).enc t] (aR) Q h:=
 bT (C:=⟨prog,tb,Sv⟩) (A:=Sy) ae func8 rfl (Eq.mpr (by kernel_rfl) hv)
theorem C9 {t Q h} (hv:Ez prog t Q h):aa prog xY [(DO).enc t] (aR) Q h:=
 bT (C:=⟨prog,tb,Wa⟩) (A:=Wb) ae func9 rfl (Eq.mpr (by kernel_rfl) hv)
theorem zmr {t Q h} (hv:Uz prog t Q h):aa prog Uh [(dj).enc t] (DO) Q h:=
 bT (C:=⟨prog,tb,Qq⟩) (A:=Qr) ae func10 rfl (Eq.mpr (by kernel_rfl) hv)
theorem zur {t Q h} (hv:Dq prog t Q h):bF prog LG [(DO).enc t] (aR) yH Q h:=
 show aa prog LG [(DO).enc t] (cl tb [4,2]) (λr=>Q r.1 r.2) h from bT (C:=⟨prog,tb,QV⟩) (A:=QX) ae func11 rfl (Eq.mpr (by kernel_rfl) hv)
theorem Ob {c Q h} (hv:zzr prog c Q h):bF prog Gn [(aN).enc c] (aj) yH Q h:=
 show aa prog Gn [(aN).enc c] (cl tb [38,39]) (λr=>Q r.1 r.2) h from bT (C:=⟨prog,tb,aej⟩) (A:=aem) ae func12 rfl (Eq.mpr (by kernel_rfl) hv)
theorem zxd {m s Q h} (hv:UB prog m s Q h):bV prog IH [(aj).enc m,(bI).enc s] (Q) h:=
 show aa prog IH [(aj).enc m,(bI).enc s] (cl tb []) (λ_=>Q) h from bT (C:=⟨prog,tb,Qs⟩) (A:=Qt) ae func13 rfl (Eq.mpr (by kernel_rfl) hv)
theorem znv {a b Q h} (hv:Vf prog a b Q h):aa prog Vb [(kW).enc a,(kW).enc b] (aR) Q h:=
 bT (C:=⟨prog,tb,Rx⟩) (A:=Ry) ae func14 rfl (Eq.mpr (by kernel_rfl) hv)
theorem NV {c s a Q h} (hv:Wm prog c s a Q h):aa prog Jl [(aN).enc c,(kW).enc s,(ab .u64).enc a] (kW) Q h:=
 bT (C:=⟨prog,tb,Uq⟩) (A:=Uu) ae func15 rfl (Eq.mpr (by kernel_rfl) hv)
theorem Ge {m Q h} (hv:Gh prog m Q h):aa prog wa [(aj).enc m] (kW) Q h:=
 bT (C:=⟨prog,tb,Pd⟩) (A:=Pg) ae func16 rfl (Eq.mpr (by kernel_rfl) hv)
theorem SE {m Q h} (hv:NU prog m Q h):aa prog NS [(aj).enc m] yH Q h:=
 bT (C:=⟨prog,tb,Qv⟩) (A:=Qw) ae func17 rfl (Eq.mpr (by kernel_rfl) hv)
theorem zpg {c Q h} (hv:VK prog c Q h):bF prog NW [(aN).enc c] yH yH Q h:=
 show aa prog NW [(aN).enc c] (cl tb [39,3]) (λr=>Q r.1 r.2) h from bT (C:=⟨prog,tb,SA⟩) (A:=SC) ae func19 rfl (Eq.mpr (by kernel_rfl) hv)
theorem zus {c l a Q h} (hv:Dr prog c l a Q h):aa prog Ox [(aN).enc c,(an).enc l,(ab .u64).enc a] (an) Q h:=
 bT (C:=⟨prog,tb,QZ⟩) (A:=Q1) ae func36 rfl (Eq.mpr (by kernel_rfl) hv)
theorem zsz {a b Q h} (hv:Sm prog a b Q h):aa prog zmi [(aN).enc a,(aN).enc b] (aR) Q h:=
 bT (C:=⟨prog,tb,zwm⟩) (A:=zwn) ae func37 rfl (Eq.mpr (by kernel_rfl) hv)
theorem zta {a b Q h} (hv:Sn prog a b Q h):aa prog zmj [(an).enc a,(an).enc b] (aR) Q h:=
 bT (C:=⟨prog,tb,zwo⟩) (A:=zwp) ae func38 rfl (Eq.mpr (by kernel_rfl) hv)
theorem Tp {c p a Q h} (hv:Vg prog c p a Q h):aa prog I1 [(aN).enc c,yH.enc p,(ab .u64).enc a] (aR) Q h:=
 bT (C:=⟨prog,tb,RA⟩) (A:=RC) ae func39 rfl (Eq.mpr (by kernel_rfl) hv)
theorem zms {c l a Q h} (hv:UD prog c l a Q h):aa prog Uj [(aN).enc c,(an).enc l,(ab .u64).enc a] (an) Q h:=
 bT (C:=⟨prog,tb,Qx⟩) (A:=Qy) ae func40 rfl (Eq.mpr (by kernel_rfl) hv)
theorem Jb {c Q h} (hv:Ds prog c Q h):aa prog Dl [(aN).enc c] (aR) Q h:=
 bT (C:=⟨prog,tb,Q3⟩) (A:=Q5) ae func41 rfl (Eq.mpr (by kernel_rfl) hv)
theorem Vs {a b Q h} (hv:ztv prog a b Q h):aa prog ID [(aN).enc a,(aN).enc b] (aR) Q h:=
 bT (C:=⟨prog,tb,Z6⟩) (A:=Z8) ae func42 rfl (Eq.mpr (by kernel_rfl) hv)
theorem zxe {c p a Q h} (hv:D9 prog c p a Q h):aa prog Gv [(aN).enc c,yH.enc p,(ab .u64).enc a] (aR) Q h:=
 bT (C:=⟨prog,tb,SL⟩) (A:=SN) ae func43 rfl (Eq.mpr (by kernel_rfl) hv)
theorem Vt {a b Q h} (hv:ztw prog a b Q h):aa prog IF [(an).enc a,(an).enc b] (aR) Q h:=
 bT (C:=⟨prog,tb,aaa⟩) (A:=aac) ae func44 rfl (Eq.mpr (by kernel_rfl) hv)
theorem abH {a b Q h} (hv:Dt prog a b Q h):aa prog K8 [(an).enc a,(an).enc b] (aR) Q h:=
 bT (C:=⟨prog,tb,Q7⟩) (A:=Q9) ae func45 rfl (Eq.mpr (by kernel_rfl) hv)
theorem NX {s Q h} (hv:Dp prog s Q h):aa prog Jt [(aj).enc s] (aR) Q h:=
 bT (C:=⟨prog,tb,Wr⟩) (A:=Wu) ae func46 rfl (Eq.mpr (by kernel_rfl) hv)
theorem Lb {c s a Q h} (hv:Fs prog c s a Q h):aa prog FA [(aN).enc c,(kW).enc s,(ab .u64).enc a] (kW) Q h:=
 bT (C:=⟨prog,tb,Zf⟩) (A:=Zg) ae func47 rfl (Eq.mpr (by kernel_rfl) hv)
theorem acY {a b Q h} (hv:Ea prog a b Q h):aa prog OD [(kW).enc a,(kW).enc b] (aR) Q h:=
 bT (C:=⟨prog,tb,SP⟩) (A:=SR) ae func48 rfl (Eq.mpr (by kernel_rfl) hv)
theorem zut {s Q h} (hv:N9 prog s Q h):bV prog B5 [(aj).enc s] (Q) h:=
 show aa prog B5 [(aj).enc s] (cl tb []) (λ_=>Q) h from bT (C:=⟨prog,tb,Yj⟩) (A:=Yl) ae func49 rfl (Eq.mpr (by kernel_rfl) hv)
theorem KA {c Q h} (hv:EA prog c Q h):bF prog xZ [(aN).enc c] yH yH Q h:=
 show aa prog xZ [(aN).enc c] (cl tb [39,3]) (λr=>Q r.1 r.2) h from bT (C:=⟨prog,tb,Wc⟩) (A:=Wd) ae func50 rfl (Eq.mpr (by kernel_rfl) hv)
theorem XU {c s Q h} (hv:zwi prog c s Q h):aa prog Jz [(aN).enc c,(kW).enc s] (aj) Q h:=
 bT (C:=⟨prog,tb,acD⟩) (A:=acF) ae func51 rfl (Eq.mpr (by kernel_rfl) hv)
theorem Vu {c Q h} (hv:ztx prog c Q h):aa prog IG [(aN).enc c] (kW) Q h:=
 bT (C:=⟨prog,tb,aad⟩) (A:=aae) ae func52 rfl (Eq.mpr (by kernel_rfl) hv)
theorem zkw {m p v Q h} (hv:Ti prog m p v Q h):aa prog Tc [(aj).enc m,yH.enc p,yH.enc v] yH Q h:=
 bT (C:=⟨prog,tb,zyj⟩) (A:=zyk) ae func53 rfl (Eq.mpr (by kernel_rfl) hv)
theorem zmt {m p Q h} (hv:UF prog m p Q h):aa prog Ul [(aj).enc m,yH.enc p] yH Q h:=
 bT (C:=⟨prog,tb,QA⟩) (A:=QC) ae func54 rfl (Eq.mpr (by kernel_rfl) hv)
theorem ztb {a b Q h} (hv:Sq prog a b Q h):aa prog zmk [(aP).enc a,(aP).enc b] (aR) Q h:=
 bT (C:=⟨prog,tb,zwq⟩) (A:=zwr) ae func55 rfl (Eq.mpr (by kernel_rfl) hv)
theorem zra {a b Q h} (hv:RZ prog a b Q h):aa prog zjr [(aF).enc a,(aF).enc b] (aR) Q h:=
 bT (C:=⟨prog,tb,zst⟩) (A:=zsu) ae func56 rfl (Eq.mpr (by kernel_rfl) hv)
theorem znw {c i a Q h} (hv:Vh prog c i a Q h):aa prog Vc [(aN).enc c,yH.enc i,(ab .u64).enc a] (aR) Q h:=
 bT (C:=⟨prog,tb,RE⟩) (A:=RG) ae func57 rfl (Eq.mpr (by kernel_rfl) hv)
theorem Rl {l Q h} (hv:Wo prog l Q h):bF prog NY [(aj).enc l] (an) (an) Q h:=
 show aa prog NY [(aj).enc l] (cl tb [23,102]) (λr=>Q r.1 r.2) h from bT (C:=⟨prog,tb,Ux⟩) (A:=UA) ae func58 rfl (Eq.mpr (by kernel_rfl) hv)
theorem QL {s Q h} (hv:NM prog s Q h):aa prog Gd [(an).enc s] (an) Q h:=
 bT (C:=⟨prog,tb,zob⟩) (A:=zoc) ae func59 rfl (Eq.mpr (by kernel_rfl) hv)
theorem S1 {p Q h} (hv:YP prog p Q h):bF prog N4 [(aj).enc p] (an) yH Q h:=
 show aa prog N4 [(aj).enc p] (cl tb [80,3]) (λr=>Q r.1 r.2) h from bT (C:=⟨prog,tb,Wx⟩) (A:=WA) ae func60 rfl (Eq.mpr (by kernel_rfl) hv)
theorem zsl {w dP Q h} (hv:N6 prog w dP Q h):bF prog Gj [(aj).enc w,yH.enc dP] yH (aR) Q h:=
 show aa prog Gj [(aj).enc w,yH.enc dP] (cl tb [2,4]) (λr=>Q r.1 r.2) h from bT (C:=⟨prog,tb,WD⟩) (A:=WH) ae func61 rfl (Eq.mpr (by kernel_rfl) hv)
theorem Jr {p Q h} (hv:Oh prog p Q h):aa prog xe [yH.enc p] yH Q h:=
 bT (C:=⟨prog,tb,aaf⟩) (A:=aag) ae func62 rfl (Eq.mpr (by kernel_rfl) hv)
theorem Js {p Q h} (hv:Oi prog p Q h):aa prog xR [yH.enc p] yH Q h:=
 bT (C:=⟨prog,tb,aai⟩) (A:=aak) ae func63 rfl (Eq.mpr (by kernel_rfl) hv)
theorem Rn {s t Q h} (hv:Wq prog s t Q h):aa prog zto [(aj).enc s,yH.enc t] yH Q h:=
 bT (C:=⟨prog,tb,UC⟩) (A:=UE) ae func64 rfl (Eq.mpr (by kernel_rfl) hv)
theorem zyp {m x Q h} (hv:Vi prog m x Q h):bV prog Vd [(aj).enc m,(aj).enc x] (Q) h:=
 show aa prog Vd [(aj).enc m,(aj).enc x] (cl tb []) (λ_=>Q) h from bT (C:=⟨prog,tb,RH⟩) (A:=RJ) ae func65 rfl (Eq.mpr (by kernel_rfl) hv)
theorem zxf {m p Q h} (hv:UH prog m p Q h):bV prog Un [(aj).enc m,(aj).enc p] (Q) h:=
 show aa prog Un [(aj).enc m,(aj).enc p] (cl tb []) (λ_=>Q) h from bT (C:=⟨prog,tb,QE⟩) (A:=QG) ae func66 rfl (Eq.mpr (by kernel_rfl) hv)
theorem Qc {l Q h} (hv:zsk prog l Q h):bF prog VC [(an).enc l] yH yH Q h:=
 show aa prog VC [(an).enc l] (cl tb [39,3]) (λr=>Q r.1 r.2) h from bT (C:=⟨prog,tb,SF⟩) (A:=SI) ae func69 rfl (Eq.mpr (by kernel_rfl) hv)
theorem zvi {l parts Q h} (hv:TQ prog l parts Q h):aa prog zoo [(an).enc l,yH.enc parts] yH Q h:=
 bT (C:=⟨prog,tb,Pk⟩) (A:=Pn) ae func70 rfl (Eq.mpr (by kernel_rfl) hv)
theorem Gf {n least lU Q h} (hv:TR prog n least lU Q h):aa prog Dg [yH.enc n,yH.enc least,yH.enc lU] (aR) Q h:=
 bT (C:=⟨prog,tb,Pq⟩) (A:=Pu) ae func71 rfl (Eq.mpr (by kernel_rfl) hv)
theorem Qd {l ai Q h} (hv:VL prog l ai Q h):bF prog VE [(an).enc l,yH.enc ai] yH yH Q h:=
 show aa prog VE [(an).enc l,yH.enc ai] (cl tb [39,3]) (λr=>Q r.1 r.2) h from bT (C:=⟨prog,tb,SK⟩) (A:=SM) ae func72 rfl (Eq.mpr (by kernel_rfl) hv)
theorem U5 {c Q h} (hv:ZC prog c Q h):aa prog HW [(aN).enc c] (aN) Q h:=
 bT (C:=⟨prog,tb,Yn⟩) (A:=Yp) ae func79 rfl (Eq.mpr (by kernel_rfl) hv)
end Lf
