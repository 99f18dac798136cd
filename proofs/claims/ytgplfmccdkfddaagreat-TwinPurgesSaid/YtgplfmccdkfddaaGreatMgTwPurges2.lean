/-
  Part 3 of the texts that the claim leans on.
-/
import Derived.Test.YtgplfmccdkfddaaGreatRows
import Derived.Laws.Externs
import Derived.Test.YtgplfmccdkfddaaGreatMgTwPurges1
set_option maxRecDepth 100000
namespace Lf
open Go
section
variable {P:Program} {α:Type} {h0 k:Hp} {sz:Nat} {enc:α->List Value} {s:Sl} {xs:List α}
theorem KR {g q bytes:Nat} {zero:List Value} {x y:Operand} {Q:Sl->Hp->Prop} (m:P.underlying g=some (.slice q)) (r:Rw k sz enc s xs) (w:0<sz) (d:∀x,(enc x).length=sz) (l:∀x,iV (enc x)=true) (p:zero.length=sz)
  (hb:xs.length<=140737488355328/\xs.length*bytes<=140737488355328) (f:∀c b,k<=b->Has k (dD sz enc c xs) b->Q c b):
  fK none P (cE .eql g x y s.v (.slice none 0 0)) aQ k λx=>(if x=true then Q ⟨none,0,0⟩ k else bD [] (λa h=>fR sz bytes zero ⟨(some a),0,0⟩ s (λr i=>Q r i) h) k):=by
 refine ⟨s.base.isNone,Mx m s,?_⟩;cases u:s.base with
 | none=>
  rw [if_pos (show (none:Option Addr).isNone=true from rfl)];have:xs=[]:=by
   rcases r.2.2 with e | ⟨a,t,_⟩
   ·exact List.length_eq_zero_iff.1 ((Nat.mul_eq_zero.1 e).resolve_right (by omega))
   grind
  subst this;exact f _ k (Hp.le_refl k) (Has.jW (Hp.le_refl k))
 | some a=>rw [if_neg (by simp)];refine gI (xs:=([]:List α)) (enc:=enc) (sz:=sz) rfl d λa z j n=> ?_;refine n.app (Rw.mono j r) d l p (by simpa using hb) λc b o=> ?_;exact f c b o.le (by simpa using o)
def iw (f:α->Bool) (xs:List α):Int:=match xs.findIdx? f with
 | some i=>i
 | none=> -1
theorem zzp (f:α->Bool):∀xs:List α,gX f xs=if 0<=iw f xs then xs.take (iw f xs).toNat++xs.drop ((iw f xs).toNat+1) else xs
 | []=>by simp [gX,iw]
 | a::l=>by
  unfold gX;by_cases h:f a=true
  ·have:iw f (a::l)=0:=by unfold iw;grind
   rw [if_pos h,this];simp
  ·have b:=zzp f l;rw [if_neg h,b];unfold iw;grind
theorem IL {f:α->Bool} {xs:List α} (h:0<=iw f xs):iw f xs<xs.length:=by
 unfold iw at*;cases e:xs.findIdx? f with
 | none=>grind
 | some i=>have:=(List.findIdx?_eq_some_iff_getElem.1 e).1;grind
theorem IM {f:α->Bool} {xs:List α} {t:Nat} {x:α} (c:xs[t]? =some x) (a:f x=true) (b:∀(j:Nat) y,j<t->xs[j]? =some y->f y=false):iw f xs=t:=by
 have:xs.findIdx? f=some t:=by rw [List.findIdx?_eq_some_iff_getElem];grind
 unfold iw;rw [this]
theorem xD {f:α->Bool} {xs:List α} (a:∀x∈xs,f x=false):iw f xs= -1:=by have:xs.findIdx? f=none:=List.findIdx?_eq_none_iff.2 a;unfold iw;rw [this]
theorem Has.FI {bytes r G:Nat} {z:Value} {i j:Nat} {Q:Sl->Hp->Prop} (ht:P.underlying r=some (.slice G)) (b0:∀ {K:Value->Hp->Prop} {h:Hp},K z h->cT P (zeroValue G) K h) (e:∀x,(enc x).length=sz) (X:∀x,iV (enc x)=true) (hz:(be z).length=sz) (a9:∀n,iV (fc (be z) n)=true)
  (o:Has h0 (dD sz enc s xs) k) (b6:i<j) (T:j<=xs.length) (hb:xs.length<=140737488355328/\xs.length*bytes<=140737488355328)
  (Y:∀C A,Has h0 (dD sz enc C (xs.take i++xs.drop j)) A->Q C A):wz P sz bytes (be z) r s (i:Int) (j:Int) Q k:=by
 obtain ⟨U,F,⟨hs,c1,L⟩,v⟩:=o;unfold wz;have it:(i:Int).toNat=i:=by omega
 have jt:(j:Int).toNat=j:=by omega
 have st:(s.len:Int).toNat=xs.length:=by omega
 rw [it,jt,st];refine ⟨by omega,aK ?_⟩;rw [if_neg (show ¬(((i:Int)==(j:Int))=true) by simp;omega)];have l:∀a b:Nat,a<=b->a*sz<=b*sz:=λa b M=>Nat.mul_le_mul_right sz M;have a8:((xs.take i).flatMap enc).length=i*sz:=by rw [iK e,List.length_take];congr 1;omega
 have te:((xs.drop j).flatMap enc).length=(xs.length-j)*sz:=by rw [iK e,List.length_drop]
 rcases L with ⟨D,oc,_⟩ | ⟨b,off,d,D,u,q,b4,f⟩
 ·omega
 rw [D];rw [hs] at f;have hn:h0 b=none:=v b ((u b).2 rfl);have b5:off+xs.length*sz<=d.length:=by grind
 have N:aX (some (⟨b,off,none⟩:Addr)) sz 0 s.cap=some ⟨b,off,none⟩:=by rw [tA (by omega)];simp
 have b7:=l i xs.length (by omega);have b8:=l j xs.length T;have c4:xs.length*sz=j*sz+(xs.length-j)*sz:=by rw [<-Nat.add_mul];congr 1;omega
 have c3:i*sz<=j*sz:=l _ _ (by omega);have c2:(d.drop off).take (i*sz)=(xs.take i).flatMap enc:=by rw [AO e,<-f,List.take_take];congr 1;omega
 have b2:oa k (some ⟨b,off,none⟩) ((i-0)*sz) ((xs.take i).flatMap enc):=q.rd a8 (by omega);have b1:oa k (aX (some (⟨b,off,none⟩:Addr)) sz j s.cap) ((xs.length-j)*sz) ((xs.drop j).flatMap enc):=by
  by_cases R:s.cap=j
  ·refine ⟨te,.inl ?_⟩;grind
  ·rw [tA R];refine q.rd te ?_;rw [xV e,<-f,List.drop_take,List.drop_drop];grind
 refine ⟨by omega,aK ⟨by omega,aK ?_⟩⟩;rw [N];have V:i-0+(xs.length-j)<=xs.length:=by omega
 have b3:(i-0+(xs.length-j))*bytes<=xs.length*bytes:=Nat.mul_le_mul_right _ V;have y:(⟨aX (some (⟨b,off,none⟩:Addr)) sz j s.cap,s.len-j,s.cap-j⟩:Sl).len=xs.length-j:=by grind
 have g:i-0=i:=by omega
 refine JA (n:=xs.length-j) q b2 (by rw [y];exact b1) y (rJ X _) ⟨by omega,by omega⟩ (by omega) (by
  grind) λJ m1 B=> ?_
 rw [g] at B;show ((0:Int)<=((i-0+(xs.length-j):Nat):Int)/\((i-0+(xs.length-j):Nat):Int)<=(s.len:Int)/\(s.len:Int)<=((s.cap-0:Nat):Int))/\aF (α:=Sl) ⟨aX (some ⟨b,off,none⟩) sz (((i-0+(xs.length-j):Nat):Int)).toNat (s.cap-0),xs.length-(((i-0+(xs.length-j):Nat):Int)).toNat,s.cap-0-(((i-0+(xs.length-j):Nat):Int)).toNat⟩ _;refine ⟨by omega,aK ?_⟩;have W:(((i-0+(xs.length-j):Nat):Int)).toNat=i+(xs.length-j):=by omega
 have O:s.cap-0=s.cap:=by omega
 rw [W,O,tA (show s.cap≠i+(xs.length-j) by omega)];have S:xs.length-(i+(xs.length-j))=j-i:=by omega
 have p:(i+(xs.length-j))*sz=i*sz+(xs.length-j)*sz:=Nat.add_mul _ _ _;have w:(d.take (off+i*sz)++(xs.drop j).flatMap enc++d.drop (off+i*sz+(xs.length-j)*sz)).length=d.length:=by grind
 show lT P (Builtin.clear_ #[r] 0 #[.slice (some ⟨b,off+(i+(xs.length-j))*sz,none⟩) (xs.length-(i+(xs.length-j))) (s.cap-(i+(xs.length-j)))]) sQ _ J;rw [S];have c0:i*sz+(j-i)*sz=j*sz:=by rw [<-Nat.add_mul];congr 1;omega
 refine KQ ht b0 a9 B (by
  grind) λh2 m2 k2=> ?_
 have Z:(xs.take i++xs.drop j).length=i+(xs.length-j):=by simp;omega
 have m:=m1.trans m2;refine Y _ _ ⟨λc E I=>m.cF c E (U c E I) (λhc=>(by grind)),F,⟨?_,?_,.inr ⟨b,off,_,rfl,u,k2,?_,?_⟩⟩,v⟩
 ·rw [Z,g]
 ·grind
 ·simp only [List.length_append,List.length_take,List.length_drop,w,v7,hz];omega
 ·show List.take ((i-0+(xs.length-j))*sz) _=_;have t1:((d.take (off+i*sz)).drop off)=(xs.take i).flatMap enc:=by grind
  have t:i*sz+(xs.length-j)*sz=((xs.take i).flatMap enc++(xs.drop j).flatMap enc).length:=by grind
  have H:List.drop off (List.take (off+(i+(xs.length-j))*sz) (d.take (off+i*sz)++(xs.drop j).flatMap enc++d.drop (off+i*sz+(xs.length-j)*sz)))=(xs.take i).flatMap enc++(xs.drop j).flatMap enc:=by rw [List.drop_take,show off+(i+(xs.length-j))*sz-off=i*sz+(xs.length-j)*sz by rw [p];omega,List.append_assoc,List.drop_append_of_le_length (by grind),t1,<-List.append_assoc,t,List.take_left]
  rw [g,List.append_assoc,List.drop_append_of_le_length (by rw [List.length_take,w,p];omega),H,p,t,List.flatMap_append,List.take_left]
end
structure ay where
 bn:Sl
 Table:Sl
 Fuel:Int
 iO:Int
 cf:Int
 Log:Int
 aO:Sl
def ay.v (x:ay):Value:=.agg #[.slice x.bn.base x.bn.len x.bn.cap,.slice x.Table.base x.Table.len x.Table.cap,.int .i64 x.Fuel,.int .i64 x.iO,.int .i64 x.cf,.int .i64 x.Log,.slice x.aO.base x.aO.len x.aO.cap]
@[reducible] def aS : Shape where
 T:=ay
 enc:=λx=>.agg #[.slice x.bn.base x.bn.len x.bn.cap,.slice x.Table.base x.Table.len x.Table.cap,.int .i64 x.Fuel,.int .i64 x.iO,.int .i64 x.cf,.int .i64 x.Log,.slice x.aO.base x.aO.len x.aO.cap]
 dec:=λv=>match v with
  | .agg ⟨[.slice a0 a d,.slice a1 b e,.int .i64 a2,.int .i64 a3,.int .i64 a4,.int .i64 a5,.slice a6 c f]⟩=>some ⟨⟨a0,a,d⟩,⟨a1,b,e⟩,a2,a3,a4,a5,⟨a6,c,f⟩⟩
  | _=>none
 ok:=by intro v x h;split at h<;>cases h;rfl
structure aw where
 Kind:Int
 N:Int
 V:Int
def aw.v (x:aw):Value:=.agg #[.int .i64 x.Kind,.int .i64 x.N,.int .i64 x.V]
@[reducible] def aZ : Shape where
 T:=aw
 enc:=λx=>.agg #[.int .i64 x.Kind,.int .i64 x.N,.int .i64 x.V]
 dec:=λv=>match v with
  | .agg ⟨[.int .i64 a0,.int .i64 a1,.int .i64 a2]⟩=>some ⟨a0,a1,a2⟩
  | _=>none
 ok:=by intro v x h;split at h<;>cases h;rfl
structure jq where
 E:Int
 fE:Int
 yy:Int
def jq.v (x:jq):Value:=.agg #[.int .i64 x.E,.int .i64 x.fE,.int .i64 x.yy]
@[reducible] def YZ : Shape where
 T:=jq
 enc:=λx=>.agg #[.int .i64 x.E,.int .i64 x.fE,.int .i64 x.yy]
 dec:=λv=>match v with
  | .agg ⟨[.int .i64 a0,.int .i64 a1,.int .i64 a2]⟩=>some ⟨a0,a1,a2⟩
  | _=>none
 ok:=by intro v x h;split at h<;>cases h;rfl
structure bu where
 Op:Int
 A:Int
 B:Int
 C:Int
 iW:Int
def bu.v (x:bu):Value:=.agg #[.int .i64 x.Op,.int .i64 x.A,.int .i64 x.B,.int .i64 x.C,.int .i64 x.iW]
@[reducible] def bJ : Shape where
 T:=bu
 enc:=λx=>.agg #[.int .i64 x.Op,.int .i64 x.A,.int .i64 x.B,.int .i64 x.C,.int .i64 x.iW]
 dec:=λv=>match v with
  | .agg ⟨[.int .i64 a0,.int .i64 a1,.int .i64 a2,.int .i64 a3,.int .i64 a4]⟩=>some ⟨a0,a1,a2,a3,a4⟩
  | _=>none
 ok:=by intro v x h;split at h<;>cases h;rfl
structure ba where
 Part:Int
 Code:Sl
def ba.v (x:ba):Value:=.agg #[.int .i64 x.Part,.slice x.Code.base x.Code.len x.Code.cap]
@[reducible] def bA : Shape where
 T:=ba
 enc:=λx=>.agg #[.int .i64 x.Part,.slice x.Code.base x.Code.len x.Code.cap]
 dec:=λv=>match v with
  | .agg ⟨[.int .i64 a0,.slice a1 a b]⟩=>some ⟨a0,⟨a1,a,b⟩⟩
  | _=>none
 ok:=by intro v x h;split at h<;>cases h;rfl
structure cO where
 dA:Sl
 eK:Sl
 hU:Int
 hZ:Int
 fO:Int
 jO:Int
 di:Sl
 dR:Sl
 fa:Sl
 iL:Int
 iM:Int
 gv:Int
 km:Int
 dS:Sl
 S:Sl
 T:Sl
 Label:Int
def cO.v (x:cO):Value:=.agg #[.slice x.dA.base x.dA.len x.dA.cap,.slice x.eK.base x.eK.len x.eK.cap,.int .i64 x.hU,.int .i64 x.hZ,.int .i64 x.fO,.int .i64 x.jO,.slice x.di.base x.di.len x.di.cap,.slice x.dR.base x.dR.len x.dR.cap,.slice x.fa.base x.fa.len x.fa.cap,.int .i64 x.iL,.int .i64 x.iM,.int .i64 x.gv,.int .i64 x.km,.slice x.dS.base x.dS.len x.dS.cap,.slice x.S.base x.S.len x.S.cap,.slice x.T.base x.T.len x.T.cap,.int .u64 x.Label]
@[reducible] def Mk : Shape where
 T:=cO
 enc:=λx=>.agg #[.slice x.dA.base x.dA.len x.dA.cap,.slice x.eK.base x.eK.len x.eK.cap,.int .i64 x.hU,.int .i64 x.hZ,.int .i64 x.fO,.int .i64 x.jO,.slice x.di.base x.di.len x.di.cap,.slice x.dR.base x.dR.len x.dR.cap,.slice x.fa.base x.fa.len x.fa.cap,.int .i64 x.iL,.int .i64 x.iM,.int .i64 x.gv,.int .i64 x.km,.slice x.dS.base x.dS.len x.dS.cap,.slice x.S.base x.S.len x.S.cap,.slice x.T.base x.T.len x.T.cap,.int .u64 x.Label]
 dec:=λv=>match v with
  | .agg ⟨[.slice a0 k s,.slice a1 l t,.int .i64 a2,.int .i64 a3,.int .i64 a4,.int .i64 a5,.slice a6 p z,.slice a7 q A,.slice i r B,.int .i64 j,.int .i64 a,.int .i64 b,.int .i64 c,.slice d m u,.slice e n w,.slice f o y,.int .u64 g]⟩=>some ⟨⟨a0,k,s⟩,⟨a1,l,t⟩,a2,a3,a4,a5,⟨a6,p,z⟩,⟨a7,q,A⟩,⟨i,r,B⟩,j,a,b,c,⟨d,m,u⟩,⟨e,n,w⟩,⟨f,o,y⟩,g⟩
  | _=>none
 ok:=by intro v x h;split at h<;>cases h;rfl
structure aL where
 fE:Int
 cq:Sl
 aO:Sl
def aL.v (x:aL):Value:=.agg #[.int .i64 x.fE,.slice x.cq.base x.cq.len x.cq.cap,.slice x.aO.base x.aO.len x.aO.cap]
@[reducible] def nW : Shape where
 T:=aL
 enc:=λx=>.agg #[.int .i64 x.fE,.slice x.cq.base x.cq.len x.cq.cap,.slice x.aO.base x.aO.len x.aO.cap]
 dec:=λv=>match v with
  | .agg ⟨[.int .i64 a0,.slice a1 a c,.slice a2 b d]⟩=>some ⟨a0,⟨a1,a,c⟩,⟨a2,b,d⟩⟩
  | _=>none
 ok:=by intro v x h;split at h<;>cases h;rfl
structure ib where
 a0:Int
 a1:Int
 a2:Int
 a3:Int
 a4:Int
 a5:Int
 a6:Int
 a7:Int
def ib.v (x:ib):Value:=.agg #[.int .i64 x.a0,.int .i64 x.a1,.int .i64 x.a2,.int .i64 x.a3,.int .i64 x.a4,.int .i64 x.a5,.int .i64 x.a6,.int .i64 x.a7]
@[reducible] def vZ : Shape where
 T:=ib
 enc:=λx=>.agg #[.int .i64 x.a0,.int .i64 x.a1,.int .i64 x.a2,.int .i64 x.a3,.int .i64 x.a4,.int .i64 x.a5,.int .i64 x.a6,.int .i64 x.a7]
 dec:=λv=>match v with
  | .agg ⟨[.int .i64 a0,.int .i64 a1,.int .i64 a2,.int .i64 a3,.int .i64 a4,.int .i64 a5,.int .i64 a6,.int .i64 a7]⟩=>some ⟨a0,a1,a2,a3,a4,a5,a6,a7⟩
  | _=>none
 ok:=by intro v x h;split at h<;>cases h;rfl
structure aR where
 State:Int
 PC:Int
 bV:Int
 bW:Int
 bX:Int
 bY:Int
 bZ:Int
 b9:Int
 cc:Int
 cd:Int
 Cursor:Int
 Timer:Int
 gA:Bool
 j9:Int
 gB:Sl
def aR.v (x:aR):Value:=.agg #[.int .i64 x.State,.int .i64 x.PC,.int .i64 x.bV,.int .i64 x.bW,.int .i64 x.bX,.int .i64 x.bY,.int .i64 x.bZ,.int .i64 x.b9,.int .i64 x.cc,.int .i64 x.cd,.int .i64 x.Cursor,.int .i64 x.Timer,.bool x.gA,.int .i64 x.j9,.slice x.gB.base x.gB.len x.gB.cap]
@[reducible] def aE : Shape where
 T:=aR
 enc:=λx=>.agg #[.int .i64 x.State,.int .i64 x.PC,.int .i64 x.bV,.int .i64 x.bW,.int .i64 x.bX,.int .i64 x.bY,.int .i64 x.bZ,.int .i64 x.b9,.int .i64 x.cc,.int .i64 x.cd,.int .i64 x.Cursor,.int .i64 x.Timer,.bool x.gA,.int .i64 x.j9,.slice x.gB.base x.gB.len x.gB.cap]
 dec:=λv=>match v with
  | .agg ⟨[.int .i64 a0,.int .i64 a1,.int .i64 a2,.int .i64 a3,.int .i64 a4,.int .i64 a5,.int .i64 a6,.int .i64 a7,.int .i64 f,.int .i64 g,.int .i64 a,.int .i64 b,.bool c,.int .i64 d,.slice e i j]⟩=>some ⟨a0,a1,a2,a3,a4,a5,a6,a7,f,g,a,b,c,d,⟨e,i,j⟩⟩
  | _=>none
 ok:=by intro v x h;split at h<;>cases h;rfl
structure lG where
 m:Option Addr
 aB:Int
 owner:Int
def lG.v (x:lG):Value:=.agg #[.pointer x.m,.int .i64 x.aB,.int .i64 x.owner]
@[reducible] def Qd : Shape where
 T:=lG
 enc:=λx=>.agg #[.pointer x.m,.int .i64 x.aB,.int .i64 x.owner]
 dec:=λv=>match v with
  | .agg ⟨[.pointer a0,.int .i64 a1,.int .i64 a2]⟩=>some ⟨a0,a1,a2⟩
  | _=>none
 ok:=by intro v x h;split at h<;>cases h;rfl
structure eg where
 B:Sl
 At:Int
 E:Int
 P_:Int
def eg.v (x:eg):Value:=.agg #[.slice x.B.base x.B.len x.B.cap,.int .i64 x.At,.int .i64 x.E,.int .i64 x.P_]
@[reducible] def zum : Shape where
 T:=eg
 enc:=λx=>.agg #[.slice x.B.base x.B.len x.B.cap,.int .i64 x.At,.int .i64 x.E,.int .i64 x.P_]
 dec:=λv=>match v with
  | .agg ⟨[.slice a0 a b,.int .i64 a1,.int .i64 a2,.int .i64 a3]⟩=>some ⟨⟨a0,a,b⟩,a1,a2,a3⟩
  | _=>none
 ok:=by intro v x h;split at h<;>cases h;rfl
structure dw where
 m:Option Addr
 l:Sl
 at_:Int
 left:Int
 aB:Int
 owner:Int
def dw.v (x:dw):Value:=.agg #[.pointer x.m,.slice x.l.base x.l.len x.l.cap,.int .i64 x.at_,.int .i64 x.left,.int .i64 x.aB,.int .i64 x.owner]
@[reducible] def dd : Shape where
 T:=dw
 enc:=λx=>.agg #[.pointer x.m,.slice x.l.base x.l.len x.l.cap,.int .i64 x.at_,.int .i64 x.left,.int .i64 x.aB,.int .i64 x.owner]
 dec:=λv=>match v with
  | .agg ⟨[.pointer a0,.slice a1 a b,.int .i64 a2,.int .i64 a3,.int .i64 a4,.int .i64 a5]⟩=>some ⟨a0,⟨a1,a,b⟩,a2,a3,a4,a5⟩
  | _=>none
 ok:=by intro v x h;split at h<;>cases h;rfl
structure iP where
 b:Sl
 at_:Int
 e:Int
 place:Int
def iP.v (x:iP):Value:=.agg #[.slice x.b.base x.b.len x.b.cap,.int .i64 x.at_,.int .i64 x.e,.int .i64 x.place]
@[reducible] def W6 : Shape where
 T:=iP
 enc:=λx=>.agg #[.slice x.b.base x.b.len x.b.cap,.int .i64 x.at_,.int .i64 x.e,.int .i64 x.place]
 dec:=λv=>match v with
  | .agg ⟨[.slice a0 a c,.int .i64 a1,.int .i64 a2,.int .i64 a3]⟩=>some ⟨⟨a0,a,c⟩,a1,a2,a3⟩
  | _=>none
 ok:=by intro v x h;split at h<;>cases h;rfl
structure bx where
 Cursor:Int
 Log:Sl
 j8:Int
 cS:Int
 dm:Sl
 eN:Sl
def bx.v (x:bx):Value:=.agg #[.int .i64 x.Cursor,.slice x.Log.base x.Log.len x.Log.cap,.int .i64 x.j8,.int .i64 x.cS,.slice x.dm.base x.dm.len x.dm.cap,.slice x.eN.base x.eN.len x.eN.cap]
@[reducible] def aY : Shape where
 T:=bx
 enc:=λx=>.agg #[.int .i64 x.Cursor,.slice x.Log.base x.Log.len x.Log.cap,.int .i64 x.j8,.int .i64 x.cS,.slice x.dm.base x.dm.len x.dm.cap,.slice x.eN.base x.eN.len x.eN.cap]
 dec:=λv=>match v with
  | .agg ⟨[.int .i64 a0,.slice a1 a d,.int .i64 a2,.int .i64 a3,.slice a4 b e,.slice a5 c f]⟩=>some ⟨a0,⟨a1,a,d⟩,a2,a3,⟨a4,b,e⟩,⟨a5,c,f⟩⟩
  | _=>none
 ok:=by intro v x h;split at h<;>cases h;rfl
structure aW where
 gE:Sl
 iC:Sl
 lH:Int
 py:Int
 mC:Int
 ov:Int
 gx:Sl
 table:Option Addr
 qz:Option Addr
 tick:Int
 parts:Sl
 procs:Sl
def aW.v (x:aW):Value:=.agg #[.slice x.gE.base x.gE.len x.gE.cap,.slice x.iC.base x.iC.len x.iC.cap,.int .i64 x.lH,.int .i64 x.py,.int .i64 x.mC,.int .i64 x.ov,.slice x.gx.base x.gx.len x.gx.cap,.pointer x.table,.pointer x.qz,.int .i64 x.tick,.slice x.parts.base x.parts.len x.parts.cap,.slice x.procs.base x.procs.len x.procs.cap]
@[reducible] def HA : Shape where
 T:=aW
 enc:=λx=>.agg #[.slice x.gE.base x.gE.len x.gE.cap,.slice x.iC.base x.iC.len x.iC.cap,.int .i64 x.lH,.int .i64 x.py,.int .i64 x.mC,.int .i64 x.ov,.slice x.gx.base x.gx.len x.gx.cap,.pointer x.table,.pointer x.qz,.int .i64 x.tick,.slice x.parts.base x.parts.len x.parts.cap,.slice x.procs.base x.procs.len x.procs.cap]
 dec:=λv=>match v with
  | .agg ⟨[.slice a0 e k,.slice a1 f l,.int .i64 a2,.int .i64 a3,.int .i64 a4,.int .i64 a5,.slice a6 j o,.pointer a7,.pointer c,.int .i64 d,.slice a g m,.slice b i n]⟩=>some ⟨⟨a0,e,k⟩,⟨a1,f,l⟩,a2,a3,a4,a5,⟨a6,j,o⟩,a7,c,d,⟨a,g,m⟩,⟨b,i,n⟩⟩
  | _=>none
 ok:=by intro v x h;split at h<;>cases h;rfl
structure bg where
 procs:Sl
 ae:Int
 log:Sl
 lost:Int
 forbidden:Int
 an:Option Addr
 dI:Option Addr
def bg.v (x:bg):Value:=.agg #[.slice x.procs.base x.procs.len x.procs.cap,.int .i64 x.ae,.slice x.log.base x.log.len x.log.cap,.int .i64 x.lost,.int .i64 x.forbidden,.pointer x.an,.pointer x.dI]
@[reducible] def vX : Shape where
 T:=bg
 enc:=λx=>.agg #[.slice x.procs.base x.procs.len x.procs.cap,.int .i64 x.ae,.slice x.log.base x.log.len x.log.cap,.int .i64 x.lost,.int .i64 x.forbidden,.pointer x.an,.pointer x.dI]
 dec:=λv=>match v with
  | .agg ⟨[.slice a0 a c,.int .i64 a1,.slice a2 b d,.int .i64 a3,.int .i64 a4,.pointer a5,.pointer a6]⟩=>some ⟨⟨a0,a,c⟩,a1,⟨a2,b,d⟩,a3,a4,a5,a6⟩
  | _=>none
 ok:=by intro v x h;split at h<;>cases h;rfl
structure cU where
 fE:Int
 da:Int
 dQ:Int
def cU.v (x:cU):Value:=.agg #[.int .i64 x.fE,.int .i64 x.da,.int .i64 x.dQ]
@[reducible] def cR : Shape where
 T:=cU
 enc:=λx=>.agg #[.int .i64 x.fE,.int .i64 x.da,.int .i64 x.dQ]
 dec:=λv=>match v with
  | .agg ⟨[.int .i64 a0,.int .i64 a1,.int .i64 a2]⟩=>some ⟨a0,a1,a2⟩
  | _=>none
 ok:=by intro v x h;split at h<;>cases h;rfl
structure bc where
 PC:Int
 bV:Int
 bW:Int
 bX:Int
 bY:Int
 bZ:Int
 b9:Int
 cc:Int
 cd:Int
def bc.v (x:bc):Value:=.agg #[.int .i64 x.PC,.int .i64 x.bV,.int .i64 x.bW,.int .i64 x.bX,.int .i64 x.bY,.int .i64 x.bZ,.int .i64 x.b9,.int .i64 x.cc,.int .i64 x.cd]
@[reducible] def eT : Shape where
 T:=bc
 enc:=λx=>.agg #[.int .i64 x.PC,.int .i64 x.bV,.int .i64 x.bW,.int .i64 x.bX,.int .i64 x.bY,.int .i64 x.bZ,.int .i64 x.b9,.int .i64 x.cc,.int .i64 x.cd]
 dec:=λv=>match v with
  | .agg ⟨[.int .i64 a0,.int .i64 a1,.int .i64 a2,.int .i64 a3,.int .i64 a4,.int .i64 a5,.int .i64 a6,.int .i64 a7,.int .i64 a]⟩=>some ⟨a0,a1,a2,a3,a4,a5,a6,a7,a⟩
  | _=>none
 ok:=by intro v x h;split at h<;>cases h;rfl
structure aJ where
 dp:Int
 part:Int
 code:Sl
 state:Int
 iD:Int
 fh:Int
 fi:Int
 fj:Int
 fk:Int
 fm:Int
 fo:Int
 fp:Int
 fq:Int
 bF:Bool
 post:Option Addr
def aJ.v (x:aJ):Value:=.agg #[.int .i64 x.dp,.int .i64 x.part,.slice x.code.base x.code.len x.code.cap,.int .i64 x.state,.int .i64 x.iD,.int .i64 x.fh,.int .i64 x.fi,.int .i64 x.fj,.int .i64 x.fk,.int .i64 x.fm,.int .i64 x.fo,.int .i64 x.fp,.int .i64 x.fq,.bool x.bF,.pointer x.post]
@[reducible] def bm : Shape where
 T:=aJ
 enc:=λx=>.agg #[.int .i64 x.dp,.int .i64 x.part,.slice x.code.base x.code.len x.code.cap,.int .i64 x.state,.int .i64 x.iD,.int .i64 x.fh,.int .i64 x.fi,.int .i64 x.fj,.int .i64 x.fk,.int .i64 x.fm,.int .i64 x.fo,.int .i64 x.fp,.int .i64 x.fq,.bool x.bF,.pointer x.post]
 dec:=λv=>match v with
  | .agg ⟨[.int .i64 a0,.int .i64 a1,.slice a2 i j,.int .i64 a3,.int .i64 a4,.int .i64 a5,.int .i64 a6,.int .i64 a7,.int .i64 f,.int .i64 g,.int .i64 a,.int .i64 b,.int .i64 c,.bool d,.pointer e]⟩=>some ⟨a0,a1,⟨a2,i,j⟩,a3,a4,a5,a6,a7,f,g,a,b,c,d,e⟩
  | _=>none
 ok:=by intro v x h;split at h<;>cases h;rfl
structure bw where
 ff:Sl
 cQ:Sl
 gD:Int
 ee:Int
def bw.v (x:bw):Value:=.agg #[.slice x.ff.base x.ff.len x.ff.cap,.slice x.cQ.base x.cQ.len x.cQ.cap,.int .i64 x.gD,.int .i64 x.ee]
@[reducible] def bd : Shape where
 T:=bw
 enc:=λx=>.agg #[.slice x.ff.base x.ff.len x.ff.cap,.slice x.cQ.base x.cQ.len x.cQ.cap,.int .i64 x.gD,.int .i64 x.ee]
 dec:=λv=>match v with
  | .agg ⟨[.slice a0 a c,.slice a1 b d,.int .i64 a2,.int .i64 a3]⟩=>some ⟨⟨a0,a,c⟩,⟨a1,b,d⟩,a2,a3⟩
  | _=>none
 ok:=by intro v x h;split at h<;>cases h;rfl
structure bf where
 da:Int
 dQ:Int
def bf.v (x:bf):Value:=.agg #[.int .i64 x.da,.int .i64 x.dQ]
@[reducible] def aC : Shape where
 T:=bf
 enc:=λx=>.agg #[.int .i64 x.da,.int .i64 x.dQ]
 dec:=λv=>match v with
  | .agg ⟨[.int .i64 a0,.int .i64 a1]⟩=>some ⟨a0,a1⟩
  | _=>none
 ok:=by intro v x h;split at h<;>cases h;rfl
structure gw where
 l:Sl
def gw.v (x:gw):Value:=.agg #[.slice x.l.base x.l.len x.l.cap]
@[reducible] def EL : Shape where
 T:=gw
 enc:=λx=>.agg #[.slice x.l.base x.l.len x.l.cap]
 dec:=λv=>match v with
  | .agg ⟨[.slice a0 a b]⟩=>some ⟨⟨a0,a,b⟩⟩
  | _=>none
 ok:=by intro v x h;split at h<;>cases h;rfl
structure aI where
 owner:Int
 queue:Sl
def aI.v (x:aI):Value:=.agg #[.int .i64 x.owner,.slice x.queue.base x.queue.len x.queue.cap]
@[reducible] def eV : Shape where
 T:=aI
 enc:=λx=>.agg #[.int .i64 x.owner,.slice x.queue.base x.queue.len x.queue.cap]
 dec:=λv=>match v with
  | .agg ⟨[.int .i64 a0,.slice a1 a b]⟩=>some ⟨a0,⟨a1,a,b⟩⟩
  | _=>none
 ok:=by intro v x h;split at h<;>cases h;rfl
structure dg where
 af:Sl
 ae:Int
def dg.v (x:dg):Value:=.agg #[.slice x.af.base x.af.len x.af.cap,.int .i64 x.ae]
@[reducible] def Mr : Shape where
 T:=dg
 enc:=λx=>.agg #[.slice x.af.base x.af.len x.af.cap,.int .i64 x.ae]
 dec:=λv=>match v with
  | .agg ⟨[.slice a0 a b,.int .i64 a1]⟩=>some ⟨⟨a0,a,b⟩,a1⟩
  | _=>none
 ok:=by intro v x h;split at h<;>cases h;rfl
structure av where
 due:Int
 dp:Int
def av.v (x:av):Value:=.agg #[.int .i64 x.due,.int .i64 x.dp]
@[reducible] def aT : Shape where
 T:=av
 enc:=λx=>.agg #[.int .i64 x.due,.int .i64 x.dp]
 dec:=λv=>match v with
  | .agg ⟨[.int .i64 a0,.int .i64 a1]⟩=>some ⟨a0,a1⟩
  | _=>none
 ok:=by intro v x h;split at h<;>cases h;rfl
structure iS where
 l:Sl
 of_:Option Nat
def iS.v (x:iS):Value:=.agg #[.slice x.l.base x.l.len x.l.cap,.map x.of_]
@[reducible] def W8 : Shape where
 T:=iS
 enc:=λx=>.agg #[.slice x.l.base x.l.len x.l.cap,.map x.of_]
 dec:=λv=>match v with
  | .agg ⟨[.slice a0 a b,.map a1]⟩=>some ⟨⟨a0,a,b⟩,a1⟩
  | _=>none
 ok:=by intro v x h;split at h<;>cases h;rfl
structure lF where
 a0:Bool
 a1:Bool
 a2:Bool
 a3:Bool
def lF.v (x:lF):Value:=.agg #[.bool x.a0,.bool x.a1,.bool x.a2,.bool x.a3]
@[reducible] def Qf : Shape where
 T:=lF
 enc:=λx=>.agg #[.bool x.a0,.bool x.a1,.bool x.a2,.bool x.a3]
 dec:=λv=>match v with
  | .agg ⟨[.bool a0,.bool a1,.bool a2,.bool a3]⟩=>some ⟨a0,a1,a2,a3⟩
  | _=>none
 ok:=by intro v x h;split at h<;>cases h;rfl
structure iQ where
 table:Sl
 parts:Int
def iQ.v (x:iQ):Value:=.agg #[.slice x.table.base x.table.len x.table.cap,.int .i64 x.parts]
@[reducible] def Xa : Shape where
 T:=iQ
 enc:=λx=>.agg #[.slice x.table.base x.table.len x.table.cap,.int .i64 x.parts]
 dec:=λv=>match v with
  | .agg ⟨[.slice a0 a b,.int .i64 a1]⟩=>some ⟨⟨a0,a,b⟩,a1⟩
  | _=>none
 ok:=by intro v x h;split at h<;>cases h;rfl
structure iR where
 labels:Sl
 by_:Option Nat
def iR.v (x:iR):Value:=.agg #[.slice x.labels.base x.labels.len x.labels.cap,.map x.by_]
@[reducible] def Xb : Shape where
 T:=iR
 enc:=λx=>.agg #[.slice x.labels.base x.labels.len x.labels.cap,.map x.by_]
 dec:=λv=>match v with
  | .agg ⟨[.slice a0 a b,.map a1]⟩=>some ⟨⟨a0,a,b⟩,a1⟩
  | _=>none
 ok:=by intro v x h;split at h<;>cases h;rfl
structure cC where
 AZ:Int
 da:Int
def cC.v (x:cC):Value:=.agg #[.int .i64 x.AZ,.int .i64 x.da]
@[reducible] def Mh : Shape where
 T:=cC
 enc:=λx=>.agg #[.int .i64 x.AZ,.int .i64 x.da]
 dec:=λv=>match v with
  | .agg ⟨[.int .i64 a0,.int .i64 a1]⟩=>some ⟨a0,a1⟩
  | _=>none
 ok:=by intro v x h;split at h<;>cases h;rfl
structure dv where
 room:Int
 values:Sl
 waiters:Sl
 taken:Int
 dropped:Int
def dv.v (x:dv):Value:=.agg #[.int .i64 x.room,.slice x.values.base x.values.len x.values.cap,.slice x.waiters.base x.waiters.len x.waiters.cap,.int .i64 x.taken,.int .i64 x.dropped]
@[reducible] def CX : Shape where
 T:=dv
 enc:=λx=>.agg #[.int .i64 x.room,.slice x.values.base x.values.len x.values.cap,.slice x.waiters.base x.waiters.len x.waiters.cap,.int .i64 x.taken,.int .i64 x.dropped]
 dec:=λv=>match v with
  | .agg ⟨[.int .i64 a0,.slice a1 a c,.slice a2 b d,.int .i64 a3,.int .i64 a4]⟩=>some ⟨a0,⟨a1,a,c⟩,⟨a2,b,d⟩,a3,a4⟩
  | _=>none
 ok:=by intro v x h;split at h<;>cases h;rfl
structure eO where
 Kind:Int
 To:Int
 dQ:Int
def eO.v (x:eO):Value:=.agg #[.int .i64 x.Kind,.int .i64 x.To,.int .i64 x.dQ]
@[reducible] def Dc : Shape where
 T:=eO
 enc:=λx=>.agg #[.int .i64 x.Kind,.int .i64 x.To,.int .i64 x.dQ]
 dec:=λv=>match v with
  | .agg ⟨[.int .i64 a0,.int .i64 a1,.int .i64 a2]⟩=>some ⟨a0,a1,a2⟩
  | _=>none
 ok:=by intro v x h;split at h<;>cases h;rfl
structure eh where
 has:Bool
 n:Int
def eh.v (x:eh):Value:=.agg #[.bool x.has,.int .i64 x.n]
@[reducible] def zun : Shape where
 T:=eh
 enc:=λx=>.agg #[.bool x.has,.int .i64 x.n]
 dec:=λv=>match v with
  | .agg ⟨[.bool a0,.int .i64 a1]⟩=>some ⟨a0,a1⟩
  | _=>none
 ok:=by intro v x h;split at h<;>cases h;rfl
def cP (n:String) (t o b:Nat):Field:={name:=n,type:=t,offset:=o,embedded:=false,tag:= "",pkgPath:= "",byteOffset:=b}
def ty0 :Ty:={aH:=(.tuple #[]),size:=1,bytes:=0,zero:=(.tuple #[]),sh:=sQ}
def rD :Ty:={aH:=(.int .i64),size:=1,bytes:=8,zero:=(.int .i64 0),sh:=ab .i64}
def tl :Ty:={aH:=(.int .i64),size:=1,bytes:=8,zero:=(.int .i64 0),sh:=ab .i64}
def ty4 :Ty:={aH:=.bool,size:=1,bytes:=1,zero:=(.bool false),sh:=aQ}
def ty5 :Ty:={aH:=(.int .u8),size:=1,bytes:=1,zero:=(.int .u8 0),sh:=ab .u8}
def ty9 :Ty:={aH:=.string,size:=1,bytes:=16,zero:=(.string ByteArray.empty),sh:=pd}
def FQ :Ty:={aH:=(.interface #[]),size:=1,bytes:=16,zero:=.nilIface,sh:=CY}
def u6 :Ty:={aH:=(.slice 28),size:=1,bytes:=24,zero:=(.slice none 0 0),sh:=ak}
def nV :Ty:={aH:=(.slice 3),size:=1,bytes:=24,zero:=(.slice none 0 0),sh:=ak}
def wN :Ty:={aH:=(.slice 50),size:=1,bytes:=24,zero:=(.slice none 0 0),sh:=ak}
def BA :Ty:={aH:=(.struct #[cP "Labels" 22 0 0,cP "Table" 23 1 24,cP "Fuel" 3 2 48,cP "Lane" 3 3 56,cP "Locks" 3 4 64,cP "Log" 3 5 72,cP "Procs" 24 6 80]),size:=7,bytes:=104,zero:=(.agg #[(.slice none 0 0),(.slice none 0 0),(.int .i64 0),(.int .i64 0),(.int .i64 0),(.int .i64 0),(.slice none 0 0)]),sh:=aS}
def wO :Ty:={aH:=(.slice 32),size:=1,bytes:=24,zero:=(.slice none 0 0),sh:=ak}
def BB :Ty:={aH:=(.int .u64),size:=1,bytes:=8,zero:=(.int .u64 0),sh:=ab .u64}
def wP :Ty:={aH:=(.struct #[cP "Kind" 3 0 0,cP "N" 3 1 8,cP "V" 2 2 16]),size:=3,bytes:=24,zero:=(.agg #[(.int .i64 0),(.int .i64 0),(.int .i64 0)]),sh:=aZ}
def FR :Ty:={aH:=(.slice 5),size:=1,bytes:=24,zero:=(.slice none 0 0),sh:=ak}
def FT :Ty:={aH:=(.pointer 73),size:=1,bytes:=8,zero:=(.pointer none),sh:=aj}
def FU :Ty:={aH:=(.int .i64),size:=1,bytes:=8,zero:=(.int .i64 0),sh:=ab .i64}
def FV :Ty:={aH:=(.tuple #[35,36,3]),size:=1,bytes:=0,zero:=(.tuple #[(.pointer none),(.int .i64 0),(.int .i64 0)]),sh:=rK aj (ab .i64) (ab .i64)}
def FW :Ty:={aH:=(.tuple #[26,36,3]),size:=1,bytes:=0,zero:=(.tuple #[(.agg #[(.slice none 0 0),(.slice none 0 0),(.int .i64 0),(.int .i64 0),(.int .i64 0),(.int .i64 0),(.slice none 0 0)]),(.int .i64 0),(.int .i64 0)]),sh:=rK aS (ab .i64) (ab .i64)}
def FX :Ty:={aH:=(.map 3 2),size:=1,bytes:=8,zero:=(.map none),sh:=gL}
def FY :Ty:={aH:=(.struct #[cP "E" 36 0 0,cP "Tick" 2 1 8,cP "Owner" 3 2 16]),size:=3,bytes:=24,zero:=(.agg #[(.int .i64 0),(.int .i64 0),(.int .i64 0)]),sh:=YZ}
def wQ :Ty:={aH:=(.struct #[cP "Op" 3 0 0,cP "A" 3 1 8,cP "B" 3 2 16,cP "C" 3 3 24,cP "Imm" 2 4 32]),size:=5,bytes:=40,zero:=(.agg #[(.int .i64 0),(.int .i64 0),(.int .i64 0),(.int .i64 0),(.int .i64 0)]),sh:=bJ}
def wR :Ty:={aH:=(.slice 47),size:=1,bytes:=24,zero:=(.slice none 0 0),sh:=ak}
def BC :Ty:={aH:=(.struct #[cP "Part" 3 0 0,cP "Code" 48 1 8]),size:=2,bytes:=32,zero:=(.agg #[(.int .i64 0),(.slice none 0 0)]),sh:=bA}
def FZ :Ty:={aH:=(.struct #[cP "A" 26 0 0,cP "B" 26 7 104,cP "S" 27 14 208,cP "T" 27 15 232,cP "Label" 28 16 256]),size:=17,bytes:=264,zero:=(.agg #[(.slice none 0 0),(.slice none 0 0),(.int .i64 0),(.int .i64 0),(.int .i64 0),(.int .i64 0),(.slice none 0 0),(.slice none 0 0),(.slice none 0 0),(.int .i64 0),(.int .i64 0),(.int .i64 0),(.int .i64 0),(.slice none 0 0),(.slice none 0 0),(.slice none 0 0),(.int .u64 0)]),sh:=Mk}
def F0 :Ty:={aH:=(.tuple #[4,2]),size:=1,bytes:=0,zero:=(.tuple #[(.bool false),(.int .i64 0)]),sh:=my aQ (ab .i64)}
def F6 :Ty:={aH:=(.tuple #[34,4]),size:=1,bytes:=0,zero:=(.tuple #[(.slice none 0 0),(.bool false)]),sh:=my ak aQ}
def F7 :Ty:={aH:=(.slice 115),size:=1,bytes:=24,zero:=(.slice none 0 0),sh:=ak}
def F8 :Ty:={aH:=(.slice 68),size:=1,bytes:=24,zero:=(.slice none 0 0),sh:=ak}
def F9 :Ty:={aH:=(.struct #[cP "Tick" 2 0 0,cP "Parts" 60 1 8,cP "Procs" 61 2 32]),size:=3,bytes:=56,zero:=(.agg #[(.int .i64 0),(.slice none 0 0),(.slice none 0 0)]),sh:=nW}
def BD :Ty:={aH:=(.array 8 2),size:=8,bytes:=64,zero:=(.agg #[(.int .i64 0),(.int .i64 0),(.int .i64 0),(.int .i64 0),(.int .i64 0),(.int .i64 0),(.int .i64 0),(.int .i64 0)]),sh:=vZ}
def BE :Ty:={aH:=(.slice 187),size:=1,bytes:=24,zero:=(.slice none 0 0),sh:=ak}
def Ga :Ty:={aH:=(.struct #[cP "State" 3 0 0,cP "PC" 3 1 8,cP "Regs" 65 2 16,cP "Cursor" 3 10 80,cP "Timer" 2 11 88,cP "Fired" 4 12 96,cP "Wake" 2 13 104,cP "Lanes" 66 14 112]),size:=15,bytes:=136,zero:=(.agg #[(.int .i64 0),(.int .i64 0),(.int .i64 0),(.int .i64 0),(.int .i64 0),(.int .i64 0),(.int .i64 0),(.int .i64 0),(.int .i64 0),(.int .i64 0),(.int .i64 0),(.int .i64 0),(.bool false),(.int .i64 0),(.slice none 0 0)]),sh:=aE}
def Gb :Ty:={aH:=(.pointer 123),size:=1,bytes:=8,zero:=(.pointer none),sh:=aj}
def Gc :Ty:={aH:=(.tuple #[69,36]),size:=1,bytes:=0,zero:=(.tuple #[(.pointer none),(.int .i64 0)]),sh:=my aj (ab .i64)}
def Gd :Ty:={aH:=(.struct #[{name:= "m",type:=69,offset:=0,embedded:=false,tag:= "",pkgPath:= "firebreak/run",byteOffset:=0},{name:= "ticks",type:=3,offset:=1,embedded:=false,tag:= "",pkgPath:= "firebreak/run",byteOffset:=8},{name:= "owner",type:=3,offset:=2,embedded:=false,tag:= "",pkgPath:= "firebreak/run",byteOffset:=16}]),size:=3,bytes:=24,zero:=(.agg #[(.pointer none),(.int .i64 0),(.int .i64 0)]),sh:=Qd}
def Ge :Ty:={aH:=(.pointer 76),size:=1,bytes:=8,zero:=(.pointer none),sh:=aj}
def Gf :Ty:={aH:=(.struct #[cP "B" 34 0 0,cP "At" 3 1 24,cP "E" 36 2 32,cP "P" 3 3 40]),size:=4,bytes:=48,zero:=(.agg #[(.slice none 0 0),(.int .i64 0),(.int .i64 0),(.int .i64 0)]),sh:=zum}
def Gg :Ty:={aH:=(.func #[35,32] #[36] false),size:=1,bytes:=8,zero:=.nilFunc,sh:=CY}
def Gh :Ty:={aH:=(.tuple #[79,4]),size:=1,bytes:=0,zero:=(.tuple #[.nilFunc,(.bool false)]),sh:=my CY aQ}
def Gi :Ty:={aH:=(.map 3 79),size:=1,bytes:=8,zero:=(.map none),sh:=gL}
def Gj :Ty:={aH:=(.pointer 85),size:=1,bytes:=8,zero:=(.pointer none),sh:=aj}
def Gk :Ty:={aH:=(.struct #[{name:= "m",type:=69,offset:=0,embedded:=false,tag:= "",pkgPath:= "firebreak/twin",byteOffset:=0},{name:= "l",type:=27,offset:=1,embedded:=false,tag:= "",pkgPath:= "firebreak/twin",byteOffset:=8},{name:= "at",type:=3,offset:=2,embedded:=false,tag:= "",pkgPath:= "firebreak/twin",byteOffset:=32},{name:= "left",type:=3,offset:=3,embedded:=false,tag:= "",pkgPath:= "firebreak/twin",byteOffset:=40},{name:= "ticks",type:=3,offset:=4,embedded:=false,tag:= "",pkgPath:= "firebreak/twin",byteOffset:=48},{name:= "owner",type:=3,offset:=5,embedded:=false,tag:= "",pkgPath:= "firebreak/twin",byteOffset:=56}]),size:=6,bytes:=64,zero:=(.agg #[(.pointer none),(.slice none 0 0),(.int .i64 0),(.int .i64 0),(.int .i64 0),(.int .i64 0)]),sh:=dd}
def Gl :Ty:={aH:=(.tuple #[34,36]),size:=1,bytes:=0,zero:=(.tuple #[(.slice none 0 0),(.int .i64 0)]),sh:=my ak (ab .i64)}
def Gm :Ty:={aH:=(.pointer 96),size:=1,bytes:=8,zero:=(.pointer none),sh:=aj}
def Gn :Ty:={aH:=(.struct #[{name:= "b",type:=34,offset:=0,embedded:=false,tag:= "",pkgPath:= "firebreak/conf",byteOffset:=0},{name:= "at",type:=3,offset:=1,embedded:=false,tag:= "",pkgPath:= "firebreak/conf",byteOffset:=24},{name:= "e",type:=36,offset:=2,embedded:=false,tag:= "",pkgPath:= "firebreak/conf",byteOffset:=32},{name:= "place",type:=3,offset:=3,embedded:=false,tag:= "",pkgPath:= "firebreak/conf",byteOffset:=40}]),size:=4,bytes:=48,zero:=(.agg #[(.slice none 0 0),(.int .i64 0),(.int .i64 0),(.int .i64 0)]),sh:=W6}
def Gp :Ty:={aH:=(.pointer 26),size:=1,bytes:=8,zero:=(.pointer none),sh:=aj}
def yZ :Ty:={aH:=(.tuple #[36,3]),size:=1,bytes:=0,zero:=(.tuple #[(.int .i64 0),(.int .i64 0)]),sh:=my (ab .i64) (ab .i64)}
def y8 :Ty:={aH:=(.func #[3] #[36] false),size:=1,bytes:=8,zero:=.nilFunc,sh:=eH}
def qE :Ty:={aH:=(.slice 133),size:=1,bytes:=24,zero:=(.slice none 0 0),sh:=ak}
def uY :Ty:={aH:=(.slice 23),size:=1,bytes:=24,zero:=(.slice none 0 0),sh:=ak}
def y9 :Ty:={aH:=(.struct #[cP "Cursor" 3 0 0,cP "Log" 112 1 8,cP "Lost" 3 2 32,cP "Forbidden" 3 3 40,cP "Owners" 23 4 48,cP "Queues" 113 5 72]),size:=6,bytes:=96,zero:=(.agg #[(.int .i64 0),(.slice none 0 0),(.int .i64 0),(.int .i64 0),(.slice none 0 0),(.slice none 0 0)]),sh:=aY}
def za :Ty:={aH:=(.pointer 231),size:=1,bytes:=8,zero:=(.pointer none),sh:=aj}
def zb :Ty:={aH:=(.pointer 225),size:=1,bytes:=8,zero:=(.pointer none),sh:=aj}
def zc :Ty:={aH:=(.slice 124),size:=1,bytes:=24,zero:=(.slice none 0 0),sh:=ak}
def zd :Ty:={aH:=(.slice 134),size:=1,bytes:=24,zero:=(.slice none 0 0),sh:=ak}
def ze :Ty:={aH:=(.struct #[{name:= "c",type:=26,offset:=0,embedded:=false,tag:= "",pkgPath:= "firebreak/machine",byteOffset:=0},{name:= "table",type:=118,offset:=7,embedded:=false,tag:= "",pkgPath:= "firebreak/machine",byteOffset:=104},{name:= "slots",type:=119,offset:=8,embedded:=false,tag:= "",pkgPath:= "firebreak/machine",byteOffset:=112},{name:= "tick",type:=2,offset:=9,embedded:=false,tag:= "",pkgPath:= "firebreak/machine",byteOffset:=120},{name:= "parts",type:=120,offset:=10,embedded:=false,tag:= "",pkgPath:= "firebreak/machine",byteOffset:=128},{name:= "procs",type:=121,offset:=11,embedded:=false,tag:= "",pkgPath:= "firebreak/machine",byteOffset:=152}]),size:=12,bytes:=176,zero:=(.agg #[(.slice none 0 0),(.slice none 0 0),(.int .i64 0),(.int .i64 0),(.int .i64 0),(.int .i64 0),(.slice none 0 0),(.pointer none),(.pointer none),(.int .i64 0),(.slice none 0 0),(.slice none 0 0)]),sh:=HA}
def zf :Ty:={aH:=(.pointer 129),size:=1,bytes:=8,zero:=(.pointer none),sh:=aj}
def zg :Ty:={aH:=(.tuple #[23,113]),size:=1,bytes:=0,zero:=(.tuple #[(.slice none 0 0),(.slice none 0 0)]),sh:=my ak ak}
def zh :Ty:={aH:=(.pointer 194),size:=1,bytes:=8,zero:=(.pointer none),sh:=aj}
def zi :Ty:={aH:=(.pointer 208),size:=1,bytes:=8,zero:=(.pointer none),sh:=aj}
def zj :Ty:={aH:=(.struct #[{name:= "procs",type:=23,offset:=0,embedded:=false,tag:= "",pkgPath:= "firebreak/machine",byteOffset:=0},{name:= "cursor",type:=3,offset:=1,embedded:=false,tag:= "",pkgPath:= "firebreak/machine",byteOffset:=24},{name:= "log",type:=112,offset:=2,embedded:=false,tag:= "",pkgPath:= "firebreak/machine",byteOffset:=32},{name:= "lost",type:=3,offset:=3,embedded:=false,tag:= "",pkgPath:= "firebreak/machine",byteOffset:=56},{name:= "forbidden",type:=3,offset:=4,embedded:=false,tag:= "",pkgPath:= "firebreak/machine",byteOffset:=64},{name:= "locks",type:=126,offset:=5,embedded:=false,tag:= "",pkgPath:= "firebreak/machine",byteOffset:=72},{name:= "wheel",type:=127,offset:=6,embedded:=false,tag:= "",pkgPath:= "firebreak/machine",byteOffset:=80}]),size:=7,bytes:=88,zero:=(.agg #[(.slice none 0 0),(.int .i64 0),(.slice none 0 0),(.int .i64 0),(.int .i64 0),(.pointer none),(.pointer none)]),sh:=vX}
def uZ :Ty:={aH:=(.struct #[cP "Tick" 2 0 0,cP "Proc" 3 1 8,cP "Value" 2 2 16]),size:=3,bytes:=24,zero:=(.agg #[(.int .i64 0),(.int .i64 0),(.int .i64 0)]),sh:=cR}
def zk :Ty:={aH:=(.pointer 140),size:=1,bytes:=8,zero:=(.pointer none),sh:=aj}
def zl :Ty:={aH:=(.tuple #[66,3]),size:=1,bytes:=0,zero:=(.tuple #[(.slice none 0 0),(.int .i64 0)]),sh:=my ak (ab .i64)}
def zm :Ty:={aH:=(.struct #[cP "PC" 3 0 0,cP "Regs" 65 1 8]),size:=9,bytes:=72,zero:=(.agg #[(.int .i64 0),(.int .i64 0),(.int .i64 0),(.int .i64 0),(.int .i64 0),(.int .i64 0),(.int .i64 0),(.int .i64 0),(.int .i64 0)]),sh:=eT}
def zn :Ty:={aH:=(.pointer 199),size:=1,bytes:=8,zero:=(.pointer none),sh:=aj}
def zo :Ty:={aH:=(.struct #[{name:= "id",type:=3,offset:=0,embedded:=false,tag:= "",pkgPath:= "firebreak/machine",byteOffset:=0},{name:= "part",type:=3,offset:=1,embedded:=false,tag:= "",pkgPath:= "firebreak/machine",byteOffset:=8},{name:= "code",type:=48,offset:=2,embedded:=false,tag:= "",pkgPath:= "firebreak/machine",byteOffset:=16},{name:= "state",type:=3,offset:=3,embedded:=false,tag:= "",pkgPath:= "firebreak/machine",byteOffset:=40},{name:= "core",type:=137,offset:=4,embedded:=false,tag:= "",pkgPath:= "firebreak/machine",byteOffset:=48},{name:= "fired",type:=4,offset:=13,embedded:=false,tag:= "",pkgPath:= "firebreak/machine",byteOffset:=120},{name:= "post",type:=138,offset:=14,embedded:=false,tag:= "",pkgPath:= "firebreak/machine",byteOffset:=128}]),size:=15,bytes:=136,zero:=(.agg #[(.int .i64 0),(.int .i64 0),(.slice none 0 0),(.int .i64 0),(.int .i64 0),(.int .i64 0),(.int .i64 0),(.int .i64 0),(.int .i64 0),(.int .i64 0),(.int .i64 0),(.int .i64 0),(.int .i64 0),(.bool false),(.pointer none)]),sh:=bm}
def zr :Ty:={aH:=(.tuple #[2,4]),size:=1,bytes:=0,zero:=(.tuple #[(.int .i64 0),(.bool false)]),sh:=my (ab .i64) aQ}
def zt :Ty:={aH:=(.func #[115,115] #[4] false),size:=1,bytes:=8,zero:=.nilFunc,sh:=eH}
def zu :Ty:={aH:=(.func #[68,68] #[4] false),size:=1,bytes:=8,zero:=.nilFunc,sh:=eH}
def zv :Ty:={aH:=(.func #[50,50] #[4] false),size:=1,bytes:=8,zero:=.nilFunc,sh:=eH}
def zw :Ty:={aH:=(.func #[23,23] #[4] false),size:=1,bytes:=8,zero:=.nilFunc,sh:=eH}
def zx :Ty:={aH:=(.func #[28] #[36] false),size:=1,bytes:=8,zero:=.nilFunc,sh:=eH}
def zy :Ty:={aH:=(.tuple #[119,36,3]),size:=1,bytes:=0,zero:=(.tuple #[(.pointer none),(.int .i64 0),(.int .i64 0)]),sh:=rK aj (ab .i64) (ab .i64)}
def zz :Ty:={aH:=(.tuple #[118,36,3]),size:=1,bytes:=0,zero:=(.tuple #[(.pointer none),(.int .i64 0),(.int .i64 0)]),sh:=rK aj (ab .i64) (ab .i64)}
def zA :Ty:={aH:=(.tuple #[126,36]),size:=1,bytes:=0,zero:=(.tuple #[(.pointer none),(.int .i64 0)]),sh:=my aj (ab .i64)}
def zB :Ty:={aH:=(.tuple #[138,36]),size:=1,bytes:=0,zero:=(.tuple #[(.pointer none),(.int .i64 0)]),sh:=my aj (ab .i64)}
def qF :Ty:={aH:=(.slice 2),size:=1,bytes:=24,zero:=(.slice none 0 0),sh:=ak}
def pf :Ty:={aH:=(.slice 191),size:=1,bytes:=24,zero:=(.slice none 0 0),sh:=ak}
def zC :Ty:={aH:=(.struct #[cP "Values" 184 0 0,cP "Waiters" 185 1 24,cP "Taken" 3 2 48,cP "Dropped" 3 3 56]),size:=4,bytes:=64,zero:=(.agg #[(.slice none 0 0),(.slice none 0 0),(.int .i64 0),(.int .i64 0)]),sh:=bd}
def sC :Ty:={aH:=(.struct #[cP "Proc" 3 0 0,cP "Value" 2 1 8]),size:=2,bytes:=16,zero:=(.agg #[(.int .i64 0),(.int .i64 0)]),sh:=aC}
def zD :Ty:={aH:=(.slice 196),size:=1,bytes:=24,zero:=(.slice none 0 0),sh:=ak}
def zE :Ty:={aH:=(.struct #[{name:= "l",type:=192,offset:=0,embedded:=false,tag:= "",pkgPath:= "firebreak/locks",byteOffset:=0}]),size:=1,bytes:=24,zero:=(.agg #[(.slice none 0 0)]),sh:=EL}
def zF :Ty:={aH:=(.struct #[{name:= "owner",type:=3,offset:=0,embedded:=false,tag:= "",pkgPath:= "firebreak/locks",byteOffset:=0},{name:= "queue",type:=23,offset:=1,embedded:=false,tag:= "",pkgPath:= "firebreak/locks",byteOffset:=8}]),size:=2,bytes:=32,zero:=(.agg #[(.int .i64 0),(.slice none 0 0)]),sh:=eV}
def zG :Ty:={aH:=(.slice 200),size:=1,bytes:=24,zero:=(.slice none 0 0),sh:=ak}
def zH :Ty:={aH:=(.struct #[{name:= "lanes",type:=197,offset:=0,embedded:=false,tag:= "",pkgPath:= "firebreak/post",byteOffset:=0},{name:= "cursor",type:=3,offset:=1,embedded:=false,tag:= "",pkgPath:= "firebreak/post",byteOffset:=24}]),size:=2,bytes:=32,zero:=(.agg #[(.slice none 0 0),(.int .i64 0)]),sh:=Mr}
def zI :Ty:={aH:=(.pointer 253),size:=1,bytes:=8,zero:=(.pointer none),sh:=aj}
def qG :Ty:={aH:=(.struct #[{name:= "due",type:=2,offset:=0,embedded:=false,tag:= "",pkgPath:= "firebreak/wheel",byteOffset:=0},{name:= "id",type:=3,offset:=1,embedded:=false,tag:= "",pkgPath:= "firebreak/wheel",byteOffset:=8}]),size:=2,bytes:=16,zero:=(.agg #[(.int .i64 0),(.int .i64 0)]),sh:=aT}
def zJ :Ty:={aH:=(.tuple #[203,4]),size:=1,bytes:=0,zero:=(.tuple #[(.agg #[(.int .i64 0),(.int .i64 0)]),(.bool false)]),sh:=my aT aQ}
def sD :Ty:={aH:=(.slice 203),size:=1,bytes:=24,zero:=(.slice none 0 0),sh:=ak}
def zK :Ty:={aH:=(.map 3 203),size:=1,bytes:=8,zero:=(.map none),sh:=gL}
def zM :Ty:={aH:=(.struct #[{name:= "l",type:=205,offset:=0,embedded:=false,tag:= "",pkgPath:= "firebreak/wheel",byteOffset:=0},{name:= "of",type:=206,offset:=1,embedded:=false,tag:= "",pkgPath:= "firebreak/wheel",byteOffset:=24}]),size:=2,bytes:=32,zero:=(.agg #[(.slice none 0 0),(.map none)]),sh:=W8}
def zN :Ty:={aH:=(.func #[3,3] #[4] false),size:=1,bytes:=8,zero:=.nilFunc,sh:=eH}
def zO :Ty:={aH:=(.func #[133,133] #[4] false),size:=1,bytes:=8,zero:=.nilFunc,sh:=eH}
def zP :Ty:={aH:=(.func #[187,187] #[4] false),size:=1,bytes:=8,zero:=.nilFunc,sh:=eH}
def zQ :Ty:={aH:=(.array 4 4),size:=4,bytes:=4,zero:=(.agg #[(.bool false),(.bool false),(.bool false),(.bool false)]),sh:=Qf}
def zR :Ty:={aH:=(.func #[3] #[4] false),size:=1,bytes:=8,zero:=.nilFunc,sh:=eH}
def zS :Ty:={aH:=(.struct #[{name:= "table",type:=23,offset:=0,embedded:=false,tag:= "",pkgPath:= "firebreak/slots",byteOffset:=0},{name:= "parts",type:=3,offset:=1,embedded:=false,tag:= "",pkgPath:= "firebreak/slots",byteOffset:=24}]),size:=2,bytes:=32,zero:=(.agg #[(.slice none 0 0),(.int .i64 0)]),sh:=Xa}
def zT :Ty:={aH:=(.map 28 3),size:=1,bytes:=8,zero:=(.map none),sh:=gL}
def zU :Ty:={aH:=(.struct #[{name:= "labels",type:=22,offset:=0,embedded:=false,tag:= "",pkgPath:= "firebreak/table",byteOffset:=0},{name:= "by",type:=229,offset:=1,embedded:=false,tag:= "",pkgPath:= "firebreak/table",byteOffset:=24}]),size:=2,bytes:=32,zero:=(.agg #[(.slice none 0 0),(.map none)]),sh:=Xb}
def zV :Ty:={aH:=(.tuple #[3,4]),size:=1,bytes:=0,zero:=(.tuple #[(.int .i64 0),(.bool false)]),sh:=my (ab .i64) aQ}
def zW :Ty:={aH:=(.tuple #[200,36]),size:=1,bytes:=0,zero:=(.tuple #[(.pointer none),(.int .i64 0)]),sh:=my aj (ab .i64)}
def zZ :Ty:={aH:=(.func #[203,203] #[3] false),size:=1,bytes:=8,zero:=.nilFunc,sh:=eH}
def Aa :Ty:={aH:=(.int .u64),size:=1,bytes:=8,zero:=(.int .u64 0),sh:=ab .u64}
def Ab :Ty:={aH:=(.tuple #[239,239]),size:=1,bytes:=0,zero:=(.tuple #[(.int .u64 0),(.int .u64 0)]),sh:=my (ab .u64) (ab .u64)}
def Ac :Ty:={aH:=(.tuple #[4,4,4,4]),size:=1,bytes:=0,zero:=(.tuple #[(.bool false),(.bool false),(.bool false),(.bool false)]),sh:=xd aQ aQ aQ aQ}
def Ad :Ty:={aH:=(.slice 249),size:=1,bytes:=24,zero:=(.slice none 0 0),sh:=ak}
def Ae :Ty:={aH:=(.struct #[cP "Lock" 3 0 0,cP "Proc" 3 1 8]),size:=2,bytes:=16,zero:=(.agg #[(.int .i64 0),(.int .i64 0)]),sh:=Mh}
def Af :Ty:={aH:=(.struct #[{name:= "room",type:=3,offset:=0,embedded:=false,tag:= "",pkgPath:= "firebreak/lane",byteOffset:=0},{name:= "values",type:=184,offset:=1,embedded:=false,tag:= "",pkgPath:= "firebreak/lane",byteOffset:=8},{name:= "waiters",type:=185,offset:=2,embedded:=false,tag:= "",pkgPath:= "firebreak/lane",byteOffset:=32},{name:= "taken",type:=3,offset:=3,embedded:=false,tag:= "",pkgPath:= "firebreak/lane",byteOffset:=56},{name:= "dropped",type:=3,offset:=4,embedded:=false,tag:= "",pkgPath:= "firebreak/lane",byteOffset:=64}]),size:=5,bytes:=72,zero:=(.agg #[(.int .i64 0),(.slice none 0 0),(.slice none 0 0),(.int .i64 0),(.int .i64 0)]),sh:=CX}
def Ag :Ty:={aH:=(.func #[2,2] #[4] false),size:=1,bytes:=8,zero:=.nilFunc,sh:=eH}
def Ah :Ty:={aH:=(.func #[191,191] #[4] false),size:=1,bytes:=8,zero:=.nilFunc,sh:=eH}
def Ai :Ty:={aH:=(.struct #[cP "Kind" 3 0 0,cP "To" 2 1 8,cP "Value" 2 2 16]),size:=3,bytes:=24,zero:=(.agg #[(.int .i64 0),(.int .i64 0),(.int .i64 0)]),sh:=Dc}
def Aj :Ty:={aH:=(.tuple #[137,262]),size:=1,bytes:=0,zero:=(.tuple #[(.agg #[(.int .i64 0),(.int .i64 0),(.int .i64 0),(.int .i64 0),(.int .i64 0),(.int .i64 0),(.int .i64 0),(.int .i64 0),(.int .i64 0)]),(.agg #[(.int .i64 0),(.int .i64 0),(.int .i64 0)])]),sh:=my eT Dc}
def Ak :Ty:={aH:=(.tuple #[4,36]),size:=1,bytes:=0,zero:=(.tuple #[(.bool false),(.int .i64 0)]),sh:=my aQ (ab .i64)}
def Al :Ty:={aH:=(.tuple #[3,36]),size:=1,bytes:=0,zero:=(.tuple #[(.int .i64 0),(.int .i64 0)]),sh:=my (ab .i64) (ab .i64)}
def Am :Ty:={aH:=(.struct #[{name:= "has",type:=4,offset:=0,embedded:=false,tag:= "",pkgPath:= "firebreak/conf",byteOffset:=0},{name:= "n",type:=3,offset:=1,embedded:=false,tag:= "",pkgPath:= "firebreak/conf",byteOffset:=8}]),size:=2,bytes:=16,zero:=(.agg #[(.bool false),(.int .i64 0)]),sh:=zun}
def An :Ty:={aH:=(.slice 274),size:=1,bytes:=24,zero:=(.slice none 0 0),sh:=ak}
def Ao :Ty:={aH:=(.int .u32),size:=1,bytes:=4,zero:=(.int .u32 0),sh:=ab .u32}
def Ap :Ty:={aH:=(.tuple #[283,283]),size:=1,bytes:=0,zero:=(.tuple #[(.int .u32 0),(.int .u32 0)]),sh:=my (ab .u32) (ab .u32)}
def Aq :Ty:={aH:=(.tuple #[28,28]),size:=1,bytes:=0,zero:=(.tuple #[(.int .u64 0),(.int .u64 0)]),sh:=my (ab .u64) (ab .u64)}
def Ar :Ty:={aH:=(.tuple #[47,4]),size:=1,bytes:=0,zero:=(.tuple #[(.agg #[(.int .i64 0),(.int .i64 0),(.int .i64 0),(.int .i64 0),(.int .i64 0)]),(.bool false)]),sh:=my bJ aQ}
def As :Ty:={aH:=(.tuple #[262,4,4]),size:=1,bytes:=0,zero:=(.tuple #[(.agg #[(.int .i64 0),(.int .i64 0),(.int .i64 0)]),(.bool false),(.bool false)]),sh:=rK Dc aQ aQ}
def Au :Ty:={aH:=(.tuple #[2,36]),size:=1,bytes:=0,zero:=(.tuple #[(.int .i64 0),(.int .i64 0)]),sh:=my (ab .i64) (ab .i64)}
def Av :Ty:={aH:=(.tuple #[2,3,191,4,36]),size:=1,bytes:=0,zero:=(.tuple #[(.int .i64 0),(.int .i64 0),(.agg #[(.int .i64 0),(.int .i64 0)]),(.bool false),(.int .i64 0)]),sh:=xe (ab .i64) (ab .i64) aC aQ (ab .i64)}
def Aw :Ty:={aH:=(.pointer 196),size:=1,bytes:=8,zero:=(.pointer none),sh:=aj}
def Ax :Ty:={aH:=(.func #[9] #[4] false),size:=1,bytes:=8,zero:=.nilFunc,sh:=eH}
def Ay :Ty:={aH:=(.map 3 3),size:=1,bytes:=8,zero:=(.map none),sh:=gL}
def Az :Ty:={aH:=(.pointer 137),size:=1,bytes:=8,zero:=(.pointer none),sh:=aj}
def sE :Ty:={aH:=(.float .f64),size:=1,bytes:=8,zero:=(.float .f64 0),sh:=jg .f64}
def AA :Ty:={aH:=(.func #[223] #[] false),size:=1,bytes:=8,zero:=.nilFunc,sh:=eH}
def AB :Ty:={aH:=(.func #[223] #[] false),size:=1,bytes:=8,zero:=.nilFunc,sh:=eH}
def AD :Ty:={aH:=(.tuple #[2,191,4,36]),size:=1,bytes:=0,zero:=(.tuple #[(.int .i64 0),(.agg #[(.int .i64 0),(.int .i64 0)]),(.bool false),(.int .i64 0)]),sh:=xd (ab .i64) aC aQ (ab .i64)}
def AE :Ty:={aH:=(.array 34 9),size:=34,bytes:=544,zero:=(.agg (List.toArray (List.replicate 34 (.string ByteArray.empty)))),sh:=XD 34}
def AF :Ty:={aH:=(.func #[191] #[4] false),size:=1,bytes:=8,zero:=.nilFunc,sh:=eH}
def pL :List (List (Option Ty)):=[[some ty0,none,some rD,some tl,some ty4,some ty5,none,none,none,some ty9,none,none,none,none,none,none],
 [none,none,none,none,some FQ,none,some u6,some nV,some wN,none,some BA,some wO,some BB,none,none,none],
 [some wP,none,some FR,some FT,some FU,some FV,none,some FW,none,some FX,none,some FY,none,none,none,some wQ],
 [some wR,none,some BC,none,some FZ,some F0,none,none,none,none,some F6,none,some F7,some F8,none,some F9],
 [none,some BD,some BE,none,some Ga,some Gb,some Gc,none,none,some Gd,some Ge,none,some Gf,none,none,some Gg],
 [some Gh,some Gi,none,some Gj,none,some Gk,none,none,none,none,none,none,some Gl,none,some Gm,none],
 [some Gn,none,some Gp,none,none,some yZ,none,none,none,none,none,none,none,none,none,some y8],
 [some qE,some uY,none,some y9,none,none,some za,some zb,some zc,some zd,none,some ze,some zf,some zg,some zh,some zi],
 [none,some zj,none,none,none,some uZ,some zk,some zl,none,some zm,some zn,none,some zo,none,some zr,none],
 [none,some zt,none,some zu,none,some zv,none,some zw,none,none,none,none,none,some zx,none,none],
 [none,none,none,some zy,none,none,none,none,some zz,none,some zA,none,none,some zB,none,none],
 [none,none,none,none,none,none,none,none,some qF,some pf,none,some zC,none,none,none,some sC],
 [some zD,none,some zE,none,some zF,some zG,none,some zH,some zI,none,none,some qG,some zJ,some sD,some zK,none],
 [some zM,none,some zN,none,some zO,none,none,some zP,none,none,none,some zQ,none,none,none,some zR],
 [none,some zS,none,none,none,some zT,none,some zU,some zV,none,some zW,none,none,some zZ,none,some Aa],
 [some Ab,none,some Ac,none,none,none,some Ad,none,none,some Ae,none,none,none,some Af,none,some Ag],
 [none,some Ah,none,none,none,none,some Ai,some Aj,none,none,none,some Ak,none,none,none,some Al],
 [none,none,some Am,some An,none,none,none,none,none,none,none,some Ao,some Ap,none,some Aq,none],
 [none,none,none,some Ar,none,some As,none,none,some Au,none,none,some Av,none,none,some Aw,none],
 [none,none,none,some Ax,some Ay,none,none,some Az,none,none,some sE,none,none,none,some AA,some AB],
 [none,some AD,none,some AE,none,none,none,some AF]]
def BF (t:Nat):Option Ty:=match nth pL (t / 16) with
 | some r=>match nth r (t%16) with
  | some e=>e
  | none=>none
 | none=>none
def pC :List (List Bool):=[[false,false,true,true,true,true,true,true,true,true,true,true,true,true,true,true],
 [true,true,true,true,true,true,true,true,true,true,true,true,true,true,true,true],
 [true,true,true,true,true,true,true,true,true,true,true,true,true,true,true,true],
 [true,true,true,true,true,true,true,true,true,true,true,true,true,true,true,true],
 [true,true,true,true,true,true,true,true,true,true,true,true,true,true,true,true],
 [true,true,true,true,true,true,true,true,true,true,true,true,true,true,true,true],
 [true,true,true,true,true,true,true,true,true,true,true,true,true,true,true,true],
 [true,true,true,true,true,true,true,true,true,true,true,true,true,true,true,true],
 [true,true,true,true,true,true,true,true,true,true,true,true,true,true,true,true],
 [true,true,true,true,true,true,true,true,true,true,true,true,true,true,true,true],
 [true,true,true,true,true,true,true,true,true,true,true,true,true,true,true,true],
 [true,true,true,true,true,true,true,true,true,true,true,true,true,false,true,true],
 [true,true,true,true,true,true,true,true,true,true,true,true,true,true,true,true],
 [true,true,true,true,true,true,true,true,true,true,true,true,true,true,true,true],
 [true,true,true,true,true,true,true,true,true,true,true,true,true,true,false,false],
 [true,true,true,true,true,false,true,true,false,true]]
def Ba (g:Nat):Bool:=match nth pC (g / 16) with
 | some r=>match nth r (g%16) with
  | some e=>e
  | none=>false
 | none=>false
def ux (g:Nat):Option (Array Value->Sem Value):=cond (Nat.beq g 189) (some (Extern.SlicesOverlaps.overlaps #[205,205] #[4])) (cond (Nat.beq g 238) (some Extern.MathFloatBits.float64frombits) (cond (Nat.beq g 239) (some Extern.MathFloatBits.float64bits) (cond (Nat.beq g 248) (some Extern.BytealgIndexByte.indexByte) (none))))
def tb :Tb:={ty:=BF,call:=Ba,ext:=ux}
abbrev zqw :Nat:=3
abbrev zni :Nat:=6
abbrev znj :Nat:=7
abbrev EO :Nat:=8
abbrev Ms :Nat:=13
abbrev CF :Nat:=14
abbrev zmd :Nat:=15
abbrev ET :Nat:=16
abbrev Ml :Nat:=20
abbrev HY :Nat:=24
abbrev DU :Nat:=25
abbrev BZ :Nat:=26
abbrev Mz :Nat:=27
abbrev AI :Nat:=28
abbrev zzq :Nat:=29
abbrev zzr :Nat:=30
abbrev zzs :Nat:=31
abbrev Iv :Nat:=32
abbrev zpa :Nat:=33
abbrev Jy :Nat:=34
abbrev wZ :Nat:=44
abbrev GC :Nat:=45
abbrev zzt :Nat:=46
abbrev zlk :Nat:=54
abbrev znk :Nat:=55
abbrev L8 :Nat:=56
abbrev L9 :Nat:=57
abbrev LP :Nat:=58
abbrev EG :Nat:=59
abbrev LX :Nat:=60
abbrev EJ :Nat:=61
abbrev vY :Nat:=62
abbrev xc :Nat:=63
abbrev zpx :Nat:=64
abbrev Uk :Nat:=65
abbrev zmg :Nat:=66
abbrev Um :Nat:=67
abbrev znl :Nat:=68
abbrev QR :Nat:=69
abbrev zig :Nat:=70
abbrev znm :Nat:=71
abbrev Nv :Nat:=72
abbrev zpb :Nat:=73
abbrev ZS :Nat:=74
abbrev HW :Nat:=84
abbrev Ci :Nat:=86
abbrev MA :Nat:=89
abbrev MB :Nat:=90
abbrev EM :Nat:=91
abbrev CG :Nat:=92
abbrev zxr :Nat:=93
abbrev Cj :Nat:=94
abbrev MC :Nat:=95
abbrev Ck :Nat:=96
abbrev w8 :Nat:=97
abbrev vW :Nat:=98
abbrev sH :Nat:=99
abbrev PR :Nat:=102
abbrev Ma :Nat:=103
abbrev H8 :Nat:=104
abbrev GN :Nat:=105
abbrev LN :Nat:=106
abbrev EI :Nat:=107
abbrev zll :Nat:=108
abbrev zfu :Nat:=109
abbrev LK :Nat:=110
abbrev LG :Nat:=111
abbrev Uw :Nat:=112
abbrev zbv :Nat:=113
abbrev QW :Nat:=114
abbrev Xg :Nat:=115
abbrev SZ :Nat:=116
abbrev zpc :Nat:=117
abbrev zyb :Nat:=118
abbrev zuo :Nat:=119
abbrev zaw :Nat:=120
abbrev zpy :Nat:=121
abbrev Uo :Nat:=122
abbrev zra :Nat:=123
abbrev RC :Nat:=124
abbrev QI :Nat:=125
abbrev znn :Nat:=126
abbrev zzu :Nat:=134
abbrev zjt :Nat:=136
abbrev IT :Nat:=137
abbrev O3 :Nat:=138
abbrev zfv :Nat:=139
abbrev zgl :Nat:=140
abbrev LQ :Nat:=141
abbrev CH :Nat:=142
abbrev Ca :Nat:=143
abbrev LF :Nat:=144
abbrev IU :Nat:=145
abbrev Ob :Nat:=146
abbrev Xj :Nat:=147
abbrev Mb :Nat:=150
abbrev LY :Nat:=151
abbrev zzv :Nat:=152
abbrev VY :Nat:=153
abbrev Uy :Nat:=154
abbrev zup :Nat:=155
abbrev B0 :Nat:=156
abbrev zzw :Nat:=157
abbrev vV :Nat:=158
abbrev zfd :Nat:=159
abbrev zbj :Nat:=160
abbrev zet :Nat:=161
abbrev zbw :Nat:=162
abbrev zuq :Nat:=163
abbrev Px :Nat:=164
abbrev zno :Nat:=165
abbrev zwh :Nat:=166
abbrev zur :Nat:=167
abbrev GO :Nat:=168
abbrev v8 :Nat:=169
abbrev CI :Nat:=170
abbrev PW :Nat:=171
abbrev PY :Nat:=172
abbrev LW :Nat:=173
abbrev LM :Nat:=174
abbrev LR :Nat:=175
abbrev HC :Nat:=176
abbrev Mi :Nat:=177
abbrev Sw :Nat:=178
abbrev zzx :Nat:=180
abbrev ZT :Nat:=181
abbrev CJ :Nat:=182
abbrev Mm :Nat:=183
abbrev Iw :Nat:=184
abbrev zdy :Nat:=185
abbrev Ix :Nat:=186
abbrev zrc :Nat:=187
abbrev zus :Nat:=188
abbrev zfw :Nat:=190
abbrev UA :Nat:=192
abbrev V1 :Nat:=193
abbrev Cl :Nat:=194
abbrev zut :Nat:=195
abbrev QK :Nat:=196
abbrev zml :Nat:=197
abbrev zzy :Nat:=198
abbrev J6 :Nat:=199
abbrev zdf :Nat:=200
abbrev zaz :Nat:=201
abbrev vq :Nat:=202
abbrev Cm :Nat:=203
abbrev vg :Nat:=204
abbrev D5 :Nat:=205
abbrev D6 :Nat:=206
abbrev zrd :Nat:=207
abbrev Py :Nat:=208
abbrev V4 :Nat:=209
abbrev w9 :Nat:=210
abbrev SW :Nat:=211
abbrev Mc :Nat:=212
abbrev H2 :Nat:=213
abbrev H4 :Nat:=214
abbrev zzz :Nat:=215
abbrev ztc :Nat:=216
abbrev UC :Nat:=217
abbrev Xn :Nat:=218
abbrev UF :Nat:=220
abbrev zei :Nat:=221
abbrev YD :Nat:=222
abbrev J7 :Nat:=223
abbrev Jh :Nat:=224
abbrev DF :Nat:=225
abbrev Cn :Nat:=226
abbrev EV :Nat:=227
abbrev Ji :Nat:=228
abbrev V7 :Nat:=229
abbrev zxs :Nat:=230
abbrev zuu :Nat:=231
abbrev Uu :Nat:=232
abbrev Wa :Nat:=233
abbrev zdt :Nat:=236
abbrev LS :Nat:=237
abbrev zuv :Nat:=240
abbrev zxt :Nat:=241
end Lf
set_option linter.unusedVariables false
namespace Lf
open Go
abbrev yI(x:Int):Value:=.int .i64 x
abbrev yP(x:Option Addr):Value:=.pointer x
abbrev yN:Value:=.slice none 0 0
abbrev yH:Shape:=ab .i64
abbrev fb(h:Hp)(p:Addr)(n:Nat)(K:Int->Prop):Prop:=aN none (ab .i64) h (Addr.add p n) K
abbrev dy(h:Hp)(p:Addr)(n:Nat)(K:Sl->Prop):Prop:=aN none ak h (Addr.add p n) K
abbrev lq(h:Hp)(p:Addr)(n:Nat)(K:Option Addr->Prop):Prop:=aN none aj h (Addr.add p n) K
def Pd (P:Program) (c:ay) (l:Sl) (a:Int) (Q:(Bool->(Hp->Prop))) (h:Hp):Prop:=
 aa P zni [] aQ (λr t=>(if (!r)=true then
 Q false t
 else
 (if decide ((l.len:Int)>1048576) then
 Q true t
 else
 aa P znj [c.v,l.v,(.int .u64 a)] ak (λf D=>c9 24 [(yI 0),(yI 0),(yI 0)] 0 (yw ((l.len:Int)+2)) (λr2 E=>fR 3 24 [(yI 0),(yI 0),(yI 0)] r2 l (λJ F=>bD [(yI 77),(yI 0),(yI 0),(yI 77),(yI 0),(yI 0)] (λa1 G=>fR 3 24 [(yI 0),(yI 0),(yI 0)] J ⟨(some a1),2,2⟩ (λs H=>((0<=(l.len:Int)/\(l.len:Int)<=(s.cap:Int))/\aF (α:=Sl) ⟨(aX s.base 3 0 s.cap),((Int.toNat (l.len:Int))-0),(s.cap-0)⟩ λy=>aa P EO [c.v,y.v,(.int .u64 a)] ak (λd I=>aa P EO [c.v,y.v,(.int .u64 a)] ak (λo u=>aF (((d.len:Int) !=(f.len:Int)) || ((o.len:Int) !=(f.len:Int))) λL=>(if L then
 Q false u
 else
 aA (α1:=Int) (λz i j=>(if decide (i<(d.len:Int)) then
 ((bB d.base d.len i)/\aN none aZ j (sat d.base 3 i) λx=>((bB f.base f.len i)/\aN none aZ j (sat f.base 3 i) λg=>fK none P (cE .neq 32 (.tmp 68) (.tmp 72) x.v g.v) aQ j λp=>(if p then
 Q false j
 else
 ((bB d.base d.len i)/\cD j (sat d.base 3 i) [(yI 99),(yI 0),(yI 0)] (λq=>z (yw (i+1)) q)))))
 else
 dC (α1:=Sl) (α2:=Int) (λA one w q=>(if decide (w<9) then
 bD [(yI 98),(yI 0),(yI 0)] (λa2 e=>fR 3 24 [(yI 0),(yI 0),(yI 0)] ⟨one.base,one.len,one.cap⟩ ⟨(some a2),1,1⟩ (λK b=>A K (yw (w+1)) b) e) q
 else
 aA (α1:=Int) (λB k e=>(if decide (k<(o.len:Int)) then
 ((bB o.base o.len k)/\aN none aZ e (sat o.base 3 k) λx=>((bB f.base f.len k)/\aN none aZ e (sat f.base 3 k) λg=>fK none P (cE .neq 32 (.tmp 95) (.tmp 99) x.v g.v) aQ e λp=>(if p then
 Q false e
 else
 B (yw (k+1)) e)))
 else
 aA (α1:=Int) (λC m b=>(if decide (m<(l.len:Int)) then
 ((bB y.base y.len m)/\aN none aZ b (sat y.base 3 m) λx=>((bB l.base l.len m)/\aN none aZ b (sat l.base 3 m) λg=>fK none P (cE .neq 32 (.tmp 110) (.tmp 114) x.v g.v) aQ b λp=>(if p then
 Q false b
 else
 C (yw (m+1)) b)))
 else
 ((0<=(yw ((l.len:Int)+2))/\(yw ((l.len:Int)+2))<=(y.cap:Int))/\aF (α:=Sl) ⟨(aX y.base 3 0 y.cap),((Int.toNat (yw ((l.len:Int)+2)))-0),(y.cap-0)⟩ λn=>((bB n.base n.len (l.len:Int))/\aN none yH b (Addr.add (sat n.base 3 (l.len:Int)) 0) λx=>(((x==77)=true->(bB n.base n.len (yw ((l.len:Int)+1))))/\aN (some (x==77)) yH b (Addr.add (sat n.base 3 (yw ((l.len:Int)+1))) 0) λg=>aF ((x==77)&&(g==77)) λM=>Q M b))))) 0 e)) 0 q)) d 0 j)) 0 u)) I) H)) G) F) E) D) t))) h
def QM (P:Program)  (Q:(Bool->(Hp->Prop))) (h:Hp):Prop:=
 bD [(.int .u64 0),(.int .u64 1)] (λa c=>bD [(yI 0),(yI 1)] (λa1 f=>bD [(yI 22),(yI 0),(yI 0),(yI 0),(yI 0)] (λa2 g=>bD [(yI 0),(.slice (some a2) 1 1),(yI 1),yN] (λa3 i=>bD [(yI 1),(yI 2),(yI 0),(yI 2),(yI 1),(yI 5),(yI 1),(yI 1),(yI 0)] (λa4 j=>bD [(yI 1),(yI 2),(yI 0),(yI 3),(yI 1),(yI 0),(yI 1),(yI 1),(yI 0)] (λa5 k=>bI P Ms [(.agg #[(.slice (some a) 2 2),(.slice (some a1) 2 2),(yI 1),(yI 1),(yI 0),(yI 1),(.slice (some a3) 2 2),(.slice (some a) 2 2),(.slice (some a1) 2 2),(yI 1),(yI 1),(yI 0),(yI 1),(.slice (some a3) 2 2),(.slice (some a4) 3 3),(.slice (some a5) 3 3),(.int .u64 0)])] aQ yH (λr o l=>aa P CF [(.agg #[(.slice (some a) 2 2),(.slice (some a1) 2 2),(yI 1),(yI 1),(yI 0),(yI 1),(.slice (some a3) 2 2),(.slice (some a) 2 2),(.slice (some a1) 2 2),(yI 1),(yI 1),(yI 0),(yI 1),(.slice (some a3) 2 2),(.slice (some a4) 3 3),(.slice (some a5) 3 3),(.int .u64 0)])] aQ (λr2 m=>bD [(yI 1),(yI 3),(yI 0)] (λa6 n=>bI P Ms [(.agg #[(.slice (some a) 2 2),(.slice (some a1) 2 2),(yI 1),(yI 1),(yI 0),(yI 1),(.slice (some a3) 2 2),(.slice (some a) 2 2),(.slice (some a1) 2 2),(yI 1),(yI 1),(yI 0),(yI 1),(.slice (some a3) 2 2),(.slice (some a4) 3 3),(.slice (some a6) 1 1),(.int .u64 0)])] aQ yH (λp q d=>aF (r&&r2) λy=>aF (y&&(o==3)) λt=>aF (t&&(!p)) λu=>aF (u&&(q==0)) λb=>cG (some b) (aa P EO [(.agg #[(.slice (some a) 2 2),(.slice (some a1) 2 2),(yI 1),(yI 1),(yI 0),(yI 1),(.slice (some a3) 2 2)]),(.slice (some a4) 3 3),(.int .u64 0)] ak) (λs e=>aF (b&&((s.len:Int)==2)) λv=>Q v e) d) n) m) l) k) j) i) g) f) c) h
def QO (P:Program) (c:ay) (l:Sl) (a:Int) (Q:(Sl->(Hp->Prop))) (h:Hp):Prop:=
 bD [] (λa1 g=>dC (α1:=Sl) (α2:=Int) (λf out i d=>(if decide (i<(l.len:Int)) then
 eZ (α1:=Sl) (λk=>((bB l.base l.len i)/\aN none aZ d (sat l.base 3 i) λx=>aa P zmd [c.v,x.v,(.int .u64 a)] aQ (λr b=>(if (!r)=true then
 ((bB l.base l.len i)/\aN none aZ b (sat l.base 3 i) λe=>bD [(yI e.Kind),(yI e.N),(yI e.V)] (λa2 j=>fR 3 24 [(yI 0),(yI 0),(yI 0)] ⟨out.base,out.len,out.cap⟩ ⟨(some a2),1,1⟩ (λo m=>k o m) j) b)
 else
 k ⟨out.base,out.len,out.cap⟩ b)) d))
 (λn b=>f n (yw (i+1)) b)
 else
 Q ⟨out.base,out.len,out.cap⟩ d)) ⟨(some a1),0,0⟩ 0 g) h
def BG (P:Program) (c:ay) (l:Sl) (a:Int) (Q:(Sl->(Hp->Prop))) (h:Hp):Prop:=
 dC (α1:=Sl) (α2:=Int) (λf out d e=>(if decide (d<(l.len:Int)) then
 eZ (α1:=Sl) (λk=>((bB l.base l.len d)/\aN none aZ e (sat l.base 3 d) λx=>aF ((x.Kind==2) || (x.Kind==3)) λy=>cG (some (!(!y))) (aa P ET [c.v,(yI x.N),(.int .u64 a)] aQ) (λr b=>aF ((!y) || r) λn=>(if n then
 bD [(yI x.Kind),(yI x.N),(yI x.V)] (λa1 g=>fR 3 24 [(yI 0),(yI 0),(yI 0)] ⟨out.base,out.len,out.cap⟩ ⟨(some a1),1,1⟩ (λm i=>k m i) g) b
 else
 k ⟨out.base,out.len,out.cap⟩ b)) e))
 (λj b=>f j (yw (d+1)) b)
 else
 Q ⟨out.base,out.len,out.cap⟩ e)) ⟨none,0,0⟩ 0 h
def BI (P:Program) (t:cO) (Q:(Bool->(Int->(Hp->Prop)))) (h:Hp):Prop:=
 aa P CF [t.v] aQ (λr o=>(if (!r)=true then
 Q false 0 o
 else
 bI P Ml [(.agg #[t.dA.v,t.eK.v,(yI t.hU),(yI t.hZ),(yI t.fO),(yI t.jO),t.di.v])] aj yH (λj r2 B=>bI P Ml [(.agg #[t.dR.v,t.fa.v,(yI t.iL),(yI t.iM),(yI t.gv),(yI t.km),t.dS.v])] aj yH (λl J g=>aF ((r2 !=0) || (J !=0)) λy=>(if y then
 Q false 0 g
 else
 ia (α1:=Option Addr) (α2:=Option Addr) (λk=>(bD [(yP j),t.S.v,(yI 0),(yI 0),(yI 0),(yI (-1))] (λa d=>((True/\True)/\bD [(yP l),t.T.v,(yI 0),(yI 0),(yI 0),(yI (-1))] (λa1 e=>k (some a) (some a1) e) d)) g/\bD [(yP l),t.T.v,(yI 0),(yI 0),(yI 0),(yI (-1))] (λa d=>((True/\True)/\bD [(yP j),t.S.v,(yI 0),(yI 0),(yI 0),(yI (-1))] (λa1 e=>((True/\True)/\k (some a1) (some a) e)) d)) g))
 (λa b d=>aA (α1:=Bool) (λu n e=>aa P HY [(yP a)] aQ (λq C=>aa P HY [(yP b)] aQ (λK D=>aa P BZ [(yP j)] nW (λL E=>((True/\(True/\(True/\(True/\True))))/\aa P DU [(.agg #[t.dA.v,t.eK.v,(yI t.hU),(yI t.hZ),(yI t.fO),(yI t.jO),t.di.v]),L.v,(.int .u64 t.Label)] nW (λM F=>((True/\(True/\True))/\aa P BZ [(yP l)] nW (λN w=>((True/\(True/\True))/\aa P DU [(.agg #[t.dR.v,t.fa.v,(yI t.iL),(yI t.iM),(yI t.gv),(yI t.km),t.dS.v]),N.v,(.int .u64 t.Label)] nW (λH f=>ag none a λp=>fb f p 5 λx=>ag none b λG=>fb f G 5 λO=>aF ((x !=O) || (!(q==K))) λs=>cG (some (!s)) (aa P Mz [M.v,H.v] aQ) (λI c=>aF (s || (!I)) λR=>(if R then
 ag none a λi=>fb c i 4 λm=>Q false m c
 else
 (if (!q)=true then
 ag none a λi=>fb c i 4 λm=>Q n m c
 else
 bK P AI [(yP a)] (λz=>bK P AI [(yP b)] (λA=>u n A) z) c))) f) w)) F)) E)) D) C) e) true d))) B) o)) h
def CK (P:Program) (t:cO) (Q:(Bool->(Hp->Prop))) (h:Hp):Prop:=
 aF ((decide ((t.S.len:Int)>1024)) || (decide ((t.T.len:Int)>1024))) λy=>cG (some (!y)) (aa P zzq [(.agg #[t.dA.v,t.eK.v,(yI t.hU),(yI t.hZ),(yI t.fO),(yI t.jO),t.di.v])] aQ) (λr l=>aF (y || (!r)) λi=>cG (some (!i)) (aa P zzq [(.agg #[t.dR.v,t.fa.v,(yI t.iL),(yI t.iM),(yI t.gv),(yI t.km),t.dS.v])] aQ) (λo m=>aF (i || (!o)) λj=>cG (some (!j)) (aa P zzr [(.agg #[t.dA.v,t.eK.v,(yI t.hU),(yI t.hZ),(yI t.fO),(yI t.jO),t.di.v]),(.agg #[t.dR.v,t.fa.v,(yI t.iL),(yI t.iM),(yI t.gv),(yI t.km),t.dS.v])] aQ) (λr2 g=>aF (j || (!r2)) λs=>(if s then
 Q false g
 else
 aA (α1:=Int) (λk a e=>(if decide (a<(t.di.len:Int)) then
 ((bB t.di.base t.di.len a)/\aN none bA e (sat t.di.base 2 a) λx=>aa P ET [(.agg #[t.dA.v,t.eK.v,(yI t.hU),(yI t.hZ),(yI t.fO),(yI t.jO),t.di.v]),(yI a),(.int .u64 t.Label)] aQ (λb c=>((b=true->(bB t.dS.base t.dS.len a))/\aN (some b) ak c (Addr.add (sat t.dS.base 2 a) 1) λq=>cG (some b) (aa P zzs [x.Code.v,q.v] aQ) (λf d=>aF (b&&(!f)) λu=>(if u then
 Q false d
 else
 k (yw (a+1)) d)) c)) e)
 else
 aa P EO [(.agg #[t.dA.v,t.eK.v,(yI t.hU),(yI t.hZ),(yI t.fO),(yI t.jO),t.di.v]),t.S.v,(.int .u64 t.Label)] ak (λb c=>((True/\(True/\(True/\True)))/\aa P EO [(.agg #[t.dR.v,t.fa.v,(yI t.iL),(yI t.iM),(yI t.gv),(yI t.km),t.dS.v]),t.T.v,(.int .u64 t.Label)] ak (λf d=>aa P Iv [b.v,f.v] aQ (λp n=>Q p n) d) c)) e)) 0 g)) m) l) h
def zmn (P:Program) (c:ay) (s:aw) (a:Int) (Q:(Bool->(Hp->Prop))) (h:Hp):Prop:=
 aa P zpa [c.v,(yI s.N),(.int .u64 a)] aQ (λr b=>aF ((s.Kind==2) || (s.Kind==3)) λy=>aF (y&&(!r)) λd=>Q d b) h
def Co (P:Program) (c:ay) (p:Int) (a:Int) (Q:(Bool->(Hp->Prop))) (h:Hp):Prop:=
 aF ((decide (p>=0))&&(decide (p<(c.aO.len:Int)))) λy=>((y=true->(bB c.aO.base c.aO.len p))/\aN (some y) yH h (Addr.add (sat c.aO.base 2 p) 0) λx=>cG (some y) (aa P Jy [c.v,(yI x),(.int .u64 a)] aQ) (λr b=>aF (y&&r) λd=>Q d b) h)
def ZU (P:Program) (c:ay) (Q:(Option Addr->(Int->(Hp->Prop)))) (h:Hp):Prop:=
 bI P wZ [c.v] yH yH (λr f a=>(if (r !=0)=true then
 Q none r a
 else
 aa P zzt [c.v] nW (λr2 b=>((True/\True)/\aa P GC [c.v,r2.v] aj (λe d=>Q e 0 d) b)) a)) h
def Ce (P:Program) (s:Option Addr) (Q:(Bool->(Hp->Prop))) (h:Hp):Prop:=
 jQ (λj b=>ag none s λp=>fb b p 3 λx=>(if (x==0)=true then
 ag none s λl=>fb b l 2 λv=>ag none s λm=>dy b m 1 λw=>(if (v==(w.len:Int))=true then
 Q false b
 else
 ag none s λn=>dy b n 1 λg=>ag none s λo=>fb b o 2 λi=>((bB g.base g.len i)/\aN none aZ b (sat g.base 3 i) λa=>ag none s λq=>fb b q 2 λz=>ag none s λt=>cD b (Addr.add t 2) [(yI (yw (z+1)))] (λc=>bU (λk=>(if (a.Kind==1)=true then
 ag (some (decide (a.N>=1))) s λe=>aN (some (decide (a.N>=1))) yH c (Addr.add e 4) λf=>aF ((decide (a.N>=1))&&(decide (a.N<=(yw (65536-f))))) λy=>(if y then
 ag none s λu=>cD c (Addr.add u 3) [(yI a.N)] (λd=>k d)
 else
 k c)
 else
 (if (a.Kind==2)=true then
 ag none s λe=>lq c e 0 λf=>aa P zlk [(yP f),(yI a.N),(yI a.V)] yH (λr d=>k d) c
 else
 (if (a.Kind==3)=true then
 ag none s λe=>lq c e 0 λf=>aa P znk [(yP f),(yI a.N)] yH (λr d=>k d) c
 else
 k c))))
 (λd=>j d))))
 else
 Q true b))  h
def DG (P:Program) (c:ay) (s:aL) (a:Int) (Q:(aL->(Hp->Prop))) (h:Hp):Prop:=
 (c9 96 [(yI 0),yN,(yI 0),(yI 0),yN,yN] (s.cq.len:Int) (s.cq.len:Int) (λr o=>((True/\(True/\True))/\c9 136 [(yI 0),(yI 0),(yI 0),(yI 0),(yI 0),(yI 0),(yI 0),(yI 0),(yI 0),(yI 0),(yI 0),(yI 0),(.bool false),(yI 0),yN] (s.aO.len:Int) (s.aO.len:Int) (λi p=>((True/\True)/\aA (α1:=Int) (λm e j=>(if decide (e<(s.cq.len:Int)) then
 bU (λk=>((bB s.cq.base s.cq.len e)/\aN none aY j (sat s.cq.base 6 e) λx=>aa P Jy [c.v,(yI e),(.int .u64 a)] aQ (λr2 d=>(if r2 then
 aa P L8 [x.v] aY (λb g=>((True/\True)/\((bB r.base r.len e)/\cD g (sat r.base 6 e) [(yI b.Cursor),b.Log.v,(yI b.j8),(yI b.cS),b.dm.v,b.eN.v] (λl=>k l)))) d
 else
 k d)) j))
 (λd=>m (yw (e+1)) d)
 else
 aA (α1:=Int) (λn f d=>(if decide (f<(s.aO.len:Int)) then
 bU (λk=>((bB s.aO.base s.aO.len f)/\aN none aE d (sat s.aO.base 15 f) λx=>aa P ET [c.v,(yI f),(.int .u64 a)] aQ (λr2 g=>(if r2 then
 aa P L9 [x.v] aE (λb l=>((True/\True)/\((bB i.base i.len f)/\cD l (sat i.base 15 f) [(yI b.State),(yI b.PC),(yI b.bV),(yI b.bW),(yI b.bX),(yI b.bY),(yI b.bZ),(yI b.b9),(yI b.cc),(yI b.cd),(yI b.Cursor),(yI b.Timer),(.bool b.gA),(yI b.j9),b.gB.v] (λq=>k q)))) g
 else
 k g)) d))
 (λg=>n (yw (f+1)) g)
 else
 Q ⟨s.fE,r,i⟩ d)) 0 j)) 0 p)) o)) h/\c9 136 [(yI 0),(yI 0),(yI 0),(yI 0),(yI 0),(yI 0),(yI 0),(yI 0),(yI 0),(yI 0),(yI 0),(yI 0),(.bool false),(yI 0),yN] (s.aO.len:Int) (s.aO.len:Int) (λr o=>((True/\(True/\True))/\c9 96 [(yI 0),yN,(yI 0),(yI 0),yN,yN] (s.cq.len:Int) (s.cq.len:Int) (λi p=>((True/\(True/\True))/\aA (α1:=Int) (λm e j=>(if decide (e<(s.cq.len:Int)) then
 bU (λk=>((bB s.cq.base s.cq.len e)/\aN none aY j (sat s.cq.base 6 e) λx=>aa P Jy [c.v,(yI e),(.int .u64 a)] aQ (λr2 d=>(if r2 then
 aa P L8 [x.v] aY (λb g=>((True/\True)/\((bB i.base i.len e)/\cD g (sat i.base 6 e) [(yI b.Cursor),b.Log.v,(yI b.j8),(yI b.cS),b.dm.v,b.eN.v] (λl=>k l)))) d
 else
 k d)) j))
 (λd=>m (yw (e+1)) d)
 else
 aA (α1:=Int) (λn f d=>(if decide (f<(s.aO.len:Int)) then
 bU (λk=>((bB s.aO.base s.aO.len f)/\aN none aE d (sat s.aO.base 15 f) λx=>aa P ET [c.v,(yI f),(.int .u64 a)] aQ (λr2 g=>(if r2 then
 aa P L9 [x.v] aE (λb l=>((True/\True)/\((bB r.base r.len f)/\cD l (sat r.base 15 f) [(yI b.State),(yI b.PC),(yI b.bV),(yI b.bW),(yI b.bX),(yI b.bY),(yI b.bZ),(yI b.b9),(yI b.cc),(yI b.cd),(yI b.Cursor),(yI b.Timer),(.bool b.gA),(yI b.j9),b.gB.v] (λq=>k q)))) g
 else
 k g)) d))
 (λg=>n (yw (f+1)) g)
 else
 Q ⟨s.fE,i,r⟩ d)) 0 j)) 0 p)) o)) h)
def GA (P:Program) (m:Option Addr) (Q:(aL->(Hp->Prop))) (h:Hp):Prop:=
 ag none m λp=>fb h p 9 λx=>ag none m λU=>dy h U 10 λC=>dC (α1:=Int) (α2:=aL) (λO B s n=>(if decide (B<(C.len:Int)) then
 ((bB C.base C.len B)/\aN none aj n (sat C.base 1 B) λd=>ag none d λF=>lq n F 5 λe=>bI P LP [(yP e)] ak ak (λr G b=>ag none d λz=>fb b z 1 λE=>ag none d λA=>dy b A 2 λj=>ag none d λt=>fb b t 3 λk=>ag none d λu=>fb b u 4 λw=>aa P EG [j.v] ak (λr2 c=>((True/\((bp c (Addr.add z 1) [(yI E)])/\((bp c (Addr.add t 3) [(yI k)])/\((bp c (Addr.add u 4) [(yI w)])/\True))))/\bD [(yI E),r2.v,(yI k),(yI w),r.v,G.v] (λa g=>((True/\True)/\fR 6 96 [(yI 0),yN,(yI 0),(yI 0),yN,yN] ⟨s.cq.base,s.cq.len,s.cq.cap⟩ ⟨(some a),1,1⟩ (λH i=>O (yw (B+1)) ⟨s.fE,H,s.aO⟩ i) g)) c)) b) n)
 else
 ag none m λF=>dy n F 11 λd=>dC (α1:=Int) (α2:=aL) (λR l s1 b=>(if decide (l<(d.len:Int)) then
 ((bB d.base d.len l)/\aN none aj b (sat d.base 1 l) λe=>ag none e λz=>lq b z 14 λE=>bI P LX [(yP E)] ak yH (λr G c=>ag none m λA=>dy c A 10 λj=>ag none e λt=>fb c t 1 λk=>((bB j.base j.len k)/\aN none aj c (sat j.base 1 k) λw=>ag none w λu=>lq c u 6 λN=>aa P vY [(yI l)] yH (λr2 g=>(((bp g (Addr.add A 10) [j.v])/\((bp g (Addr.add t 1) [(yI k)])/\((bp g (sat j.base 1 k) [(yP w)])/\((bp g (Addr.add u 6) [(yP N)])/\True))))/\bI P EJ [(yP N),(yI r2)] yH aQ (λH r4 i=>ag none m λI=>dy i I 10 λy=>ag none e λJ=>fb i J 1 λD=>((bB y.base y.len D)/\aN none aj i (sat y.base 1 D) λL=>ag none L λK=>lq i K 6 λM=>aa P xc [(yI l)] yH (λZ o=>(((bp o (Addr.add I 10) [y.v])/\((bp o (Addr.add J 1) [(yI D)])/\((bp o (sat y.base 1 D) [(yP L)])/\((bp o (Addr.add K 6) [(yP M)])/\True))))/\bI P EJ [(yP M),(yI Z)] yH aQ (λr6 r7 q=>ag none e λV=>fb q V 3 λa8=>ag none e λW=>aN none yH q (Addr.add (Addr.add W 4) 0) λa9=>ag none e λX=>aN none vZ q (Addr.add (Addr.add X 4) 1) λf=>ag none e λY=>aN none aQ q (Addr.add Y 13) λb0=>bD [(yI a8),(yI a9),(yI f.a0),(yI f.a1),(yI f.a2),(yI f.a3),(yI f.a4),(yI f.a5),(yI f.a6),(yI f.a7),(yI G),(yI H),(.bool b0),(yI r6),r.v] (λa S=>((True/\True)/\fR 15 136 [(yI 0),(yI 0),(yI 0),(yI 0),(yI 0),(yI 0),(yI 0),(yI 0),(yI 0),(yI 0),(yI 0),(yI 0),(.bool false),(yI 0),yN] ⟨s1.aO.base,s1.aO.len,s1.aO.cap⟩ ⟨(some a),1,1⟩ (λr8 T=>R (yw (l+1)) ⟨s1.fE,s1.cq,r8⟩ T) S)) q) o)) i)) g)) c)) b)
 else
 Q s1 b)) 0 s n)) 0 ⟨x,⟨none,0,0⟩,⟨none,0,0⟩⟩ h
def Cp (P:Program) (a:aL) (b:aL) (Q:(Bool->(Hp->Prop))) (h:Hp):Prop:=
 cG (some (a.fE==b.fE)) (aa P zpx [a.cq.v,b.cq.v,(.func (.func 65) #[] #[])] aQ) (λr c=>aF ((a.fE==b.fE)&&r) λy=>cG (some y) (aa P zmg [a.aO.v,b.aO.v,(.func (.func 67) #[] #[])] aQ) (λe d=>aF (y&&e) λf=>Q f d) c) h
def L5 (P:Program) (s:Option Addr) (Q:(Hp->Prop)) (h:Hp):Prop:=
 ag none s λp=>lq h p 0 λx=>aa P znl [(yP x)] yH (λr c=>ag none s λe=>cD c (Addr.add e 5) [(yI r)] (λa=>ag none s λf=>fb a f 3 λk=>ag none s λg=>cD a (Addr.add g 3) [(yI (yw (k-1)))] (λb=>ag none s λi=>fb b i 4 λl=>ag none s λj=>cD b (Addr.add j 4) [(yI (yw (l+1)))] (λd=>Q d)))) h
def BK (P:Program) (c:ay) (Q:(Bool->(Hp->Prop))) (h:Hp):Prop:=
 bI P wZ [c.v] yH yH (λr b a=>Q (r==0) a) h
def Xp (P:Program) (a:ay) (b:ay) (Q:(Bool->(Hp->Prop))) (h:Hp):Prop:=
 aa P zig [a.bn.v,b.bn.v] aQ (λr d=>cG (some r) (aa P znm [a.Table.v,b.Table.v] aQ) (λg e=>aF (r&&g) λy=>aF (y&&(a.Fuel==b.Fuel)) λi=>aF (i&&(a.iO==b.iO)) λj=>aF (j&&(a.cf==b.cf)) λk=>aF (k&&(a.Log==b.Log)) λc=>cG (some c) (aa P Nv [a.aO.v,b.aO.v,(.func (.func 69) #[] #[])] aQ) (λr2 f=>aF (c&&r2) λl=>Q l f) e) d) h
def Xr (P:Program) (a:Sl) (b:Sl) (Q:(Bool->(Hp->Prop))) (h:Hp):Prop:=
 (if ((a.len:Int) !=(b.len:Int))=true then
 Q false h
 else
 aA (α1:=Int) (λe d c=>(if decide (d<(a.len:Int)) then
 ((bB a.base a.len d)/\aN none bJ c (sat a.base 5 d) λx=>((bB b.base b.len d)/\aN none bJ c (sat b.base 5 d) λf=>fK none P (cE .neq 47 (.tmp 19) (.tmp 23) x.v f.v) aQ c λg=>(if g then
 Q false c
 else
 e (yw (d+1)) c)))
 else
 Q true c)) 0 h)
def BL (P:Program) (a:Sl) (b:Sl) (Q:(Bool->(Hp->Prop))) (h:Hp):Prop:=
 (if ((a.len:Int) !=(b.len:Int))=true then
 Q false h
 else
 aA (α1:=Int) (λe d c=>(if decide (d<(a.len:Int)) then
 ((bB a.base a.len d)/\aN none aZ c (sat a.base 3 d) λx=>((bB b.base b.len d)/\aN none aZ c (sat b.base 3 d) λf=>fK none P (cE .neq 32 (.tmp 19) (.tmp 23) x.v f.v) aQ c λg=>(if g then
 Q false c
 else
 e (yw (d+1)) c)))
 else
 Q true c)) 0 h)
def RF (P:Program) (c:ay) (p:Int) (a:Int) (Q:(Bool->(Hp->Prop))) (h:Hp):Prop:=
 aF ((decide (p>=0))&&(decide (p<(c.aO.len:Int)))) λy=>((y=true->(bB c.aO.base c.aO.len p))/\aN (some y) yH h (Addr.add (sat c.aO.base 2 p) 0) λx=>cG (some y) (aa P zpb [c.v,(yI x),(.int .u64 a)] aQ) (λr b=>aF (y&&r) λd=>Q d b) h)
def Cq (P:Program) (c:ay) (i:Int) (a:Int) (Q:(Bool->(Hp->Prop))) (h:Hp):Prop:=
 aF ((decide (i>=0))&&(decide (i<(c.bn.len:Int)))) λy=>((y=true->(bB c.bn.base c.bn.len i))/\aN (some y) (ab .u64) h (sat c.bn.base 1 i) λx=>cG (some y) (aa P ZS [(.int .u64 x),(.int .u64 a)] aQ) (λr b=>aF (y&&r) λd=>Q d b) h)
def CL (P:Program) (c:ay) (Q:(Int->(Int->(Hp->Prop)))) (h:Hp):Prop:=
 bI P MA [c.bn.v] yH yH (λr w j=>(if (r !=0)=true then
 Q r 0 j
 else
 aa P Ci [(yI (c.Table.len:Int)),(yI 64)] yH (λr2 k=>(if (r2 !=0)=true then
 Q r2 1 k
 else
 kS P MB [c.Table.v,(yI (c.bn.len:Int))] aj yH yH (λy o z l=>(if (o !=0)=true then
 Q o 1 l
 else
 bD [(yI 0),(yI 0),(yI c.Fuel),(yI c.iO),(yI c.cf),(yI c.Log)] (λa t=>aA (α1:=Int) (λq b g=>(if decide (b<6) then
 ((bB (some a) 6 b)/\aN none yH g (sat (some a) 1 b) λx=>aa P HW [(yI b),(yI x)] yH (λf e=>(if (f !=0)=true then
 Q f b e
 else
 q (yw (b+1)) e)) g)
 else
 aa P Ci [(yI (c.aO.len:Int)),(yI 32)] yH (λf e=>(if (f !=0)=true then
 Q f 6 e
 else
 aA (α1:=Int) (λs d i=>(if decide (d<(c.aO.len:Int)) then
 ((bB c.aO.base c.aO.len d)/\aN none bA i (sat c.aO.base 2 d) λx=>aa P EM [(yI x.Part),(yI 0),(yI (yw ((c.bn.len:Int)-1)))] aQ (λu m=>(if (!u)=true then
 Q 2 (yw (7+d)) m
 else
 bI P CG [x.Code.v,(yI c.cf)] yH yH (λp A n=>(if (p !=0)=true then
 Q p (yw (7+d)) n
 else
 s (yw (d+1)) n)) m)) i)
 else
 Q 0 0 i)) 0 e)) g)) 0 t) l)) k)) j)) h
def YG (P:Program) (c:ay) (s:aL) (Q:(Option Addr->(Hp->Prop))) (h:Hp):Prop:=
 aa P zxr [c.v] aS (λr M=>((True/\True)/\bD [r.bn.v,r.Table.v,(yI r.Fuel),(yI r.iO),(yI r.cf),(yI r.Log),r.aO.v,(yP none),(yP none),(yI s.fE),yN,yN] (λa R=>kS P Cj [c.bn.v] aj yH yH (λr1 r2 r3 S=>ag none (some a) λp=>cD S (Addr.add p 7) [(yP r1)] (λT=>kS P MB [c.Table.v,(yI (c.bn.len:Int))] aj yH yH (λr4 r5 r6 U=>ag none (some a) λW=>cD U (Addr.add W 8) [(yP r4)] (λV=>aA (α1:=Int) (λK y D=>(if decide (y<(s.cq.len:Int)) then
 ((bB s.cq.base s.cq.len y)/\aN none aY D (sat s.cq.base 6 y) λx=>bI P MC [x.dm.v,x.eN.v] aj yH (λF r8 e=>ag none (some a) λg=>dy e g 10 λd=>aa P EG [x.Log.v] ak (λG f=>(((bp f (Addr.add g 10) [d.v])/\(True/\(True/\(True/\True))))/\aa P Ck [] aj (λE l=>(((bp l (Addr.add g 10) [d.v])/\(True/\(True/\(True/\True))))/\bD [yN,(yI x.Cursor),G.v,(yI x.j8),(yI x.cS),(yP F),(yP E)] (λa1 m=>(((bp m (Addr.add g 10) [d.v])/\True)/\bD [(yP (some a1))] (λa2 u=>(((bp u (Addr.add g 10) [d.v])/\True)/\fR 1 8 [(yP none)] d ⟨(some a2),1,1⟩ (λq i=>ag none (some a) λn=>cD i (Addr.add n 10) [q.v] (λB=>K (yw (y+1)) B)) u)) m)) l)) f)) e) D)
 else
 aA (α1:=Int) (λL b e=>(if decide (b<(s.aO.len:Int)) then
 bU (λk=>((bB s.aO.base s.aO.len b)/\aN none aE e (sat s.aO.base 15 b) λx=>ag none (some a) λg=>aN none ak e (Addr.add (Addr.add g 0) 6) λd=>((bB d.base d.len b)/\aN none bA e (sat d.base 2 b) λz=>bI P w8 [(yI c.iO),x.gB.v,(yI x.Cursor)] aj yH (λF r8 f=>ag none (some a) λn=>dy f n 11 λH=>bD [(yI b),(yI z.Part),z.Code.v,(yI x.State),(yI x.PC),(yI x.bV),(yI x.bW),(yI x.bX),(yI x.bY),(yI x.bZ),(yI x.b9),(yI x.cc),(yI x.cd),(.bool x.gA),(yP F)] (λa1 l=>(((bp l (Addr.add n 11) [H.v])/\True)/\bD [(yP (some a1))] (λa2 m=>(((bp m (Addr.add n 11) [H.v])/\True)/\fR 1 8 [(yP none)] H ⟨(some a2),1,1⟩ (λG u=>ag none (some a) λX=>cD u (Addr.add X 11) [G.v] (λi=>ag none (some a) λY=>dy i Y 10 λI=>((bB I.base I.len z.Part)/\aN none aj i (sat I.base 1 z.Part) λA=>ag none A λZ=>dy i Z 0 λx6=>bD [(yI b)] (λa3 B=>fR 1 8 [(yI 0)] x6 ⟨(some a3),1,1⟩ (λE N=>ag none A λp7=>cD N (Addr.add p7 0) [E.v] (λC=>bU (λJ=>(if decide (x.Timer>0) then
 ag none A λo=>lq C o 6 λt=>aa P vY [(yI b)] yH (λq j=>(((bp j (Addr.add o 6) [(yP t)])/\(True/\True))/\aa P vW [(yP t),(yI q),(yI x.Timer)] yH (λa8 w=>J w) j)) C
 else
 J C))
 (λj=>(if decide (x.j9>0) then
 ag none A λo=>lq j o 6 λt=>aa P xc [(yI b)] yH (λq w=>(((bp w (Addr.add o 6) [(yP t)])/\(True/\True))/\aa P vW [(yP t),(yI q),(yI x.j9)] yH (λa8 O=>k O) w)) j
 else
 k j)))) B) i))) m)) l)) f) e)))
 (λf=>L (yw (b+1)) f)
 else
 Q (some a) e)) 0 D)) 0 V)) T)) R) M)) h
def Xt (P:Program) (c:ay) (Q:(aL->(Hp->Prop))) (h:Hp):Prop:=
 (c9 96 [(yI 0),yN,(yI 0),(yI 0),yN,yN] (c.bn.len:Int) (c.bn.len:Int) (λr q=>((True/\True)/\c9 136 [(yI 0),(yI 0),(yI 0),(yI 0),(yI 0),(yI 0),(yI 0),(yI 0),(yI 0),(yI 0),(yI 0),(yI 0),(.bool false),(yI 0),yN] (c.aO.len:Int) (c.aO.len:Int) (λd s=>aA (α1:=Int) (λo b n=>(if decide (b<(r.len:Int)) then
 bU (λk=>(bD [(yI (-1))] (λa e=>((True/\(True/\(True/\(True/\True))))/\(aa P sH [(.slice (some a) 1 1),(yI c.cf)] ak (λr2 g=>((True/\(True/\(True/\True)))/\((bB r.base r.len b)/\(c9 24 [yN] c.cf c.cf (λl f=>((True/\(True/\True))/\cD f (Addr.add (sat r.base 6 b) 4) [r2.v] (λi=>((True/\True)/\((bB r.base r.len b)/\cD i (Addr.add (sat r.base 6 b) 5) [l.v] (λj=>k j)))))) g/\cD g (Addr.add (sat r.base 6 b) 4) [r2.v] (λf=>((True/\(True/\True))/\c9 24 [yN] c.cf c.cf (λl i=>((True/\(True/\True))/\((bB r.base r.len b)/\cD i (Addr.add (sat r.base 6 b) 5) [l.v] (λj=>k j)))) f)))))) e/\c9 24 [yN] c.cf c.cf (λr2 g=>((True/\(True/\(True/\True)))/\aa P sH [(.slice (some a) 1 1),(yI c.cf)] ak (λl f=>((True/\(True/\(True/\True)))/\((bB r.base r.len b)/\cD f (Addr.add (sat r.base 6 b) 4) [l.v] (λi=>((True/\(True/\True))/\((bB r.base r.len b)/\cD i (Addr.add (sat r.base 6 b) 5) [r2.v] (λj=>k j))))))) g)) e))) n/\c9 24 [yN] c.cf c.cf (λr2 e=>((True/\(True/\(True/\True)))/\bD [(yI (-1))] (λa g=>((True/\(True/\(True/\(True/\True))))/\aa P sH [(.slice (some a) 1 1),(yI c.cf)] ak (λl f=>((True/\(True/\(True/\True)))/\((bB r.base r.len b)/\cD f (Addr.add (sat r.base 6 b) 4) [l.v] (λi=>((True/\(True/\True))/\((bB r.base r.len b)/\cD i (Addr.add (sat r.base 6 b) 5) [r2.v] (λj=>k j))))))) g)) e)) n))
 (λe=>o (yw (b+1)) e)
 else
 aA (α1:=Int) (λp m e=>(if decide (m<(d.len:Int)) then
 c9 64 [yN,yN,(yI 0),(yI 0)] (yw ((c.bn.len:Int)+1)) (yw ((c.bn.len:Int)+1)) (λr2 g=>((True/\True)/\((bB d.base d.len m)/\cD g (Addr.add (sat d.base 15 m) 14) [r2.v] (λf=>p (yw (m+1)) f)))) e
 else
 Q ⟨0,r,d⟩ e)) 0 n)) 0 s) q)) h/\c9 136 [(yI 0),(yI 0),(yI 0),(yI 0),(yI 0),(yI 0),(yI 0),(yI 0),(yI 0),(yI 0),(yI 0),(yI 0),(.bool false),(yI 0),yN] (c.aO.len:Int) (c.aO.len:Int) (λr q=>((True/\True)/\c9 96 [(yI 0),yN,(yI 0),(yI 0),yN,yN] (c.bn.len:Int) (c.bn.len:Int) (λd s=>((True/\True)/\aA (α1:=Int) (λo b n=>(if decide (b<(d.len:Int)) then
 bU (λk=>(bD [(yI (-1))] (λa e=>((True/\(True/\(True/\(True/\True))))/\(aa P sH [(.slice (some a) 1 1),(yI c.cf)] ak (λr2 g=>((True/\(True/\(True/\True)))/\((bB d.base d.len b)/\(c9 24 [yN] c.cf c.cf (λl f=>((True/\(True/\True))/\cD f (Addr.add (sat d.base 6 b) 4) [r2.v] (λi=>((True/\True)/\((bB d.base d.len b)/\cD i (Addr.add (sat d.base 6 b) 5) [l.v] (λj=>k j)))))) g/\cD g (Addr.add (sat d.base 6 b) 4) [r2.v] (λf=>((True/\(True/\True))/\c9 24 [yN] c.cf c.cf (λl i=>((True/\(True/\True))/\((bB d.base d.len b)/\cD i (Addr.add (sat d.base 6 b) 5) [l.v] (λj=>k j)))) f)))))) e/\c9 24 [yN] c.cf c.cf (λr2 g=>((True/\(True/\(True/\True)))/\aa P sH [(.slice (some a) 1 1),(yI c.cf)] ak (λl f=>((True/\(True/\(True/\True)))/\((bB d.base d.len b)/\cD f (Addr.add (sat d.base 6 b) 4) [l.v] (λi=>((True/\(True/\True))/\((bB d.base d.len b)/\cD i (Addr.add (sat d.base 6 b) 5) [r2.v] (λj=>k j))))))) g)) e))) n/\c9 24 [yN] c.cf c.cf (λr2 e=>((True/\(True/\(True/\True)))/\bD [(yI (-1))] (λa g=>((True/\(True/\(True/\(True/\True))))/\aa P sH [(.slice (some a) 1 1),(yI c.cf)] ak (λl f=>((True/\(True/\(True/\True)))/\((bB d.base d.len b)/\cD f (Addr.add (sat d.base 6 b) 4) [l.v] (λi=>((True/\(True/\True))/\((bB d.base d.len b)/\cD i (Addr.add (sat d.base 6 b) 5) [r2.v] (λj=>k j))))))) g)) e)) n))
 (λe=>o (yw (b+1)) e)
 else
 aA (α1:=Int) (λp m e=>(if decide (m<(r.len:Int)) then
 c9 64 [yN,yN,(yI 0),(yI 0)] (yw ((c.bn.len:Int)+1)) (yw ((c.bn.len:Int)+1)) (λr2 g=>((True/\True)/\((bB r.base r.len m)/\cD g (Addr.add (sat r.base 15 m) 14) [r2.v] (λf=>p (yw (m+1)) f)))) e
 else
 Q ⟨0,d,r⟩ e)) 0 n)) 0 s)) q)) h)
def Pz (P:Program) (m:Option Addr) (p:Int) (v:Int) (Q:(Int->(Hp->Prop))) (h:Hp):Prop:=
 aa P PR [(yP m),(yI p)] yH (λr a=>(if (r !=0)=true then
 Q r a
 else
 ag none m λg=>dy a g 11 λx=>((bB x.base x.len p)/\aN none aj a (sat x.base 1 p) λd=>ag none m λi=>dy a i 10 λf=>ag none d λj=>lq a j 14 λl=>aa P Ma [(yP l),(yI (f.len:Int)),(yI v)] yH (λe b=>(if (e !=0)=true then
 ag none d λk=>lq b k 14 λn=>bK P H8 [(yP n),(yI (f.len:Int))] (λc=>Q e c) b
 else
 bK P GN [(yP m),(yP d)] (λc=>Q 0 c) b)) a))) h
def QQ (P:Program) (m:Option Addr) (p:Int) (Q:(Int->(Hp->Prop))) (h:Hp):Prop:=
 aa P PR [(yP m),(yI p)] yH (λr a=>(if (r !=0)=true then
 Q r a
 else
 ag none m λc=>dy a c 11 λx=>((bB x.base x.len p)/\aN none aj a (sat x.base 1 p) λd=>bK P LN [(yP m),(yP d),(yI 6)] (λb=>Q 0 b) a))) h
def Xw (P:Program) (x:bx) (Q:(bx->(Hp->Prop))) (h:Hp):Prop:=
 aa P EG [x.Log.v] ak (λr d=>((True/\True)/\aa P EI [x.dm.v] ak (λj e=>aa P zll [x.eN.v] ak (λr2 f=>aA (α1:=Int) (λc a b=>(if decide (a<(r2.len:Int)) then
 ((bB r2.base r2.len a)/\aN none ak b (sat r2.base 1 a) λl=>aa P EI [l.v] ak (λk g=>((True/\True)/\((bB r2.base r2.len a)/\cD g (sat r2.base 1 a) [k.v] (λi=>c (yw (a+1)) i)))) b)
 else
 Q ⟨x.Cursor,r,x.j8,x.cS,j,r2⟩ b)) 0 f) e) d)) h
def Xz (P:Program) (x:aR) (Q:(aR->(Hp->Prop))) (h:Hp):Prop:=
 aa P zfu [x.gB.v] ak (λr e=>aA (α1:=Int) (λd a b=>(if decide (a<(r.len:Int)) then
 ((bB r.base r.len a)/\aN none bd b (sat r.base 4 a) λc=>aa P LK [c.ff.v] ak (λk f=>((True/\(True/\(True/\True)))/\aa P LG [c.cQ.v] ak (λr2 g=>((True/\(True/\True))/\((bB r.base r.len a)/\cD g (Addr.add (sat r.base 4 a) 0) [k.v] (λi=>((True/\True)/\((bB r.base r.len a)/\cD i (Addr.add (sat r.base 4 a) 1) [r2.v] (λj=>d (yw (a+1)) j))))))) f)) b)
 else
 Q ⟨x.State,x.PC,x.bV,x.bW,x.bX,x.bY,x.bZ,x.b9,x.cc,x.cd,x.Cursor,x.Timer,x.gA,x.j9,r⟩ b)) 0 e) h
def SX (P:Program) (l:Option Addr) (Q:(Sl->(Sl->(Hp->Prop)))) (h:Hp):Prop:=
 ag none l λp=>dy h p 0 λx=>pn (α1:=Sl) (α2:=Sl) (α3:=Int) (λe az al b c=>(if decide (b<(x.len:Int)) then
 ((bB x.base x.len b)/\aN none eV c (sat x.base 2 b) λd=>bD [(yI d.owner)] (λa f=>fR 1 8 [(yI 0)] ⟨az.base,az.len,az.cap⟩ ⟨(some a),1,1⟩ (λr g=>aa P EI [d.queue.v] ak (λm i=>bD [m.v] (λa1 j=>fR 1 24 [yN] ⟨al.base,al.len,al.cap⟩ ⟨(some a1),1,1⟩ (λr2 k=>e r r2 (yw (b+1)) k) j) i) g) f) c)
 else
 Q ⟨az.base,az.len,az.cap⟩ ⟨al.base,al.len,al.cap⟩ c)) ⟨none,0,0⟩ ⟨none,0,0⟩ 0 h
def LI (P:Program) (s:Sl) (Q:(Sl->(Hp->Prop))) (h:Hp):Prop:=
 fK none P (cE .eql 112 (.tmp 3) (.const yN) s.v yN) aQ h λx=>(if x then
 Q ⟨none,0,0⟩ h
 else
 bD [] (λa b=>fR 3 24 [(yI 0),(yI 0),(yI 0)] ⟨(some a),0,0⟩ s (λr c=>Q r c) b) h)
def UI (P:Program) (p:Option Addr) (Q:(Sl->(Int->(Hp->Prop)))) (h:Hp):Prop:=
 ag none p λj=>dy h j 0 λx=>dC (α1:=Sl) (α2:=Int) (λe out c b=>(if decide (c<(x.len:Int)) then
 ((bB x.base x.len c)/\aN none aj b (sat x.base 1 c) λd=>aa P Uw [(yP d)] bd (λr f=>bD [r.ff.v,r.cQ.v,(yI r.gD),(yI r.ee)] (λa g=>fR 4 64 [yN,yN,(yI 0),(yI 0)] ⟨out.base,out.len,out.cap⟩ ⟨(some a),1,1⟩ (λl i=>e l (yw (c+1)) i) g) f) b)
 else
 ag none p λk=>fb b k 1 λd=>Q ⟨out.base,out.len,out.cap⟩ d b)) ⟨none,0,0⟩ 0 h
def LZ (P:Program) (w:Option Addr) (dp:Int) (Q:(Int->(Bool->(Hp->Prop)))) (h:Hp):Prop:=
 ag none w λp=>aN none gL h (Addr.add p 1) λx=>mO none (.int .i64) aT (.agg #[(yI 0),(yI 0)]) x (yI dp) h λa ok=>Q a.due ok h
def Me (P:Program) (p:Int) (Q:(Int->(Hp->Prop))) (h:Hp):Prop:=
 Q (yw (2*p)) h
def Mf (P:Program) (p:Int) (Q:(Int->(Hp->Prop))) (h:Hp):Prop:=
 Q (yw ((yw (2*p))+1)) h
def Sz (P:Program) (a:Sl) (b:Sl) (c:mM) (Q:(Bool->(Hp->Prop))) (h:Hp):Prop:=
 aa P zbv [a.v,b.v,(.func (.func c.g) c.first c.captured)] aQ (λr d=>Q r d) h
def XC (P:Program) (x:bx) (y:bx) (Q:(Bool->(Hp->Prop))) (h:Hp):Prop:=
 cG (some (x.Cursor==y.Cursor)) (aa P zpc [x.Log.v,y.Log.v,(.func (.func 118) #[] #[])] aQ) (λr c=>aF ((x.Cursor==y.Cursor)&&r) λg=>aF (g&&(x.j8==y.j8)) λi=>aF (i&&(x.cS==y.cS)) λa=>cG (some a) (aa P Xg [x.dm.v,y.dm.v,(.func (.func 116) #[] #[])] aQ) (λf d=>aF (a&&f) λb=>cG (some b) (aa P zuo [x.eN.v,y.eN.v,(.func (.func 114) #[] #[])] aQ) (λr2 e=>aF (b&&r2) λj=>Q j e) d) c) h
def P5 (P:Program) (a:Sl) (b:Sl) (c:mM) (Q:(Bool->(Hp->Prop))) (h:Hp):Prop:=
 aa P zaw [a.v,b.v,(.func (.func c.g) c.first c.captured)] aQ (λr d=>Q r d) h
def XE (P:Program) (x:aR) (y:aR) (Q:(Bool->(Hp->Prop))) (h:Hp):Prop:=
 aF ((x.State==y.State)&&(x.PC==y.PC)) λa=>fK (some a) P (cE .eql 65 (.tmp 19) (.tmp 21) (.agg #[(yI x.bV),(yI x.bW),(yI x.bX),(yI x.bY),(yI x.bZ),(yI x.b9),(yI x.cc),(yI x.cd)]) (.agg #[(yI y.bV),(yI y.bW),(yI y.bX),(yI y.bY),(yI y.bZ),(yI y.b9),(yI y.cc),(yI y.cd)])) aQ h λd=>aF (a&&d) λe=>aF (e&&(x.Cursor==y.Cursor)) λf=>aF (f&&(x.Timer==y.Timer)) λg=>aF (g&&(x.gA==y.gA)) λi=>aF (i&&(x.j9==y.j9)) λb=>cG (some b) (aa P zpy [x.gB.v,y.gB.v,(.func (.func 122) #[] #[])] aQ) (λr c=>aF (b&&r) λj=>Q j c) h
def QT (P:Program) (m:Option Addr) (Q:(Int->(Hp->Prop))) (h:Hp):Prop:=
 ag none m λp=>lq h p 8 λx=>ag none m λC=>fb h C 9 λL=>aa P zra [(yP x),(yI L)] yH (λr f=>ag none m λF=>dy f F 10 λj=>((bB j.base j.len r)/\aN none aj f (sat j.base 1 r) λb=>bK P RC [(yP m),(yP b)] (λs=>ag none m λG=>aN none yH s (Addr.add (Addr.add G 0) 2) λN=>bU (λk=>aA (α1:=Int) (λy t c=>(if decide (t<N) then
 ag none b λg=>dy c g 0 λl=>aA (α1:=Int) (λz d a=>(if decide (d<(l.len:Int)) then
 ag none b λi=>fb a i 1 λn=>ag none b λH=>dy a H 0 λe=>((e.len:Int)≠0/\ag none m λI=>dy a I 11 λo=>ag none b λJ=>dy a J 0 λq=>((bB q.base q.len (Int.tmod (yw (n+d)) (e.len:Int)))/\aN none yH a (sat q.base 1 (Int.tmod (yw (n+d)) (e.len:Int))) λu=>((bB o.base o.len u)/\aN none aj a (sat o.base 1 u) λv=>ag none v λK=>fb a K 3 λM=>(if (M==0)=true then
 ag none b λD=>dy a D 0 λw=>((w.len:Int)≠0/\ag none b λE=>cD a (Addr.add E 1) [(yI (Int.tmod (yw ((Int.tmod (yw (n+d)) (e.len:Int))+1)) (w.len:Int)))] (λA=>bK P QI [(yP m),(yP v)] (λB=>y (yw (t+1)) B) A))
 else
 z (yw (d+1)) a))))
 else
 k a)) 0 c
 else
 k c)) 0 s)
 (λc=>ag none m λg=>fb c g 9 λl=>ag none m λi=>cD c (Addr.add i 9) [(yI (yw (l+1)))] (λa=>Q r a))) f)) h
def zuw (P:Program) (x:ba) (y:ba) (Q:(Bool->(Hp->Prop))) (h:Hp):Prop:=
 Q (x.Part==y.Part) h
def O5 (P:Program) (s1:Sl) (s2:Sl) (Q:(Bool->(Hp->Prop))) (h:Hp):Prop:=
 (if ((s1.len:Int) !=(s2.len:Int))=true then
 Q false h
 else
 aA (α1:=Int) (λc a b=>(if decide (a<(s1.len:Int)) then
 ((bB s1.base s1.len a)/\aN none (ab .u64) b (sat s1.base 1 a) λx=>((bB s2.base s2.len a)/\aN none (ab .u64) b (sat s2.base 1 a) λd=>(if (x !=d)=true then
 Q false b
 else
 c (yw (a+1)) b)))
 else
 Q true b)) 0 h)
def QV (P:Program) (s1:Sl) (s2:Sl) (Q:(Bool->(Hp->Prop))) (h:Hp):Prop:=
 (if ((s1.len:Int) !=(s2.len:Int))=true then
 Q false h
 else
 aA (α1:=Int) (λc a b=>(if decide (a<(s1.len:Int)) then
 ((bB s1.base s1.len a)/\aN none yH b (sat s1.base 1 a) λx=>((bB s2.base s2.len a)/\aN none yH b (sat s2.base 1 a) λd=>(if (x !=d)=true then
 Q false b
 else
 c (yw (a+1)) b)))
 else
 Q true b)) 0 h)
def zbx (P:Program) (s1:Sl) (s2:Sl) (eq:mM) (Q:(Bool->(Hp->Prop))) (h:Hp):Prop:=
 (if ((s1.len:Int) !=(s2.len:Int))=true then
 Q false h
 else
 aA (α1:=Int) (λd a b=>(if decide (a<(s1.len:Int)) then
 ((bB s1.base s1.len a)/\aN none bA b (sat s1.base 2 a) λx=>((bB s2.base s2.len a)/\aN none bA b (sat s2.base 2 a) λe=>dM P tb (.func (.func eq.g) eq.first eq.captured) [x.v,e.v] aQ (λr c=>(if (!r)=true then
 Q false c
 else
 d (yw (a+1)) c)) b))
 else
 Q true b)) 0 h)
def RI (P:Program) (c:ay) (i:Int) (a:Int) (Q:(Bool->(Hp->Prop))) (h:Hp):Prop:=
 aF ((decide (i>=0))&&(decide (i<(c.bn.len:Int)))) λy=>((y=true->(bB c.bn.base c.bn.len i))/\aN (some y) (ab .u64) h (sat c.bn.base 1 i) λx=>cG (some y) (aa P znn [(.int .u64 x),(.int .u64 a)] aQ) (λr b=>aF (y&&r) λd=>Q d b) h)
def ZW (P:Program) (a:Int) (b:Int) (Q:(Bool->(Hp->Prop))) (h:Hp):Prop:=
 Q ((dZ .andNot .u64 a b)==0) h
def ZX (P:Program) (part:Int) (n:Int) (Q:(Int->(Hp->Prop))) (h:Hp):Prop:=
 (if (part==2)=true then
 aa P EM [(yI n),(yI 1),(yI 256)] aQ (λr a=>(if (!r)=true then
 Q 2 a
 else
 Q 0 a)) h
 else
 (if (part==3)=true then
 aa P EM [(yI n),(yI 1),(yI 64)] aQ (λr a=>(if (!r)=true then
 Q 2 a
 else
 Q 0 a)) h
 else
 (if (part==4)=true then
 aa P EM [(yI n),(yI 0),(yI 8)] aQ (λr a=>(if (!r)=true then
 Q 2 a
 else
 Q 0 a)) h
 else
 (if (part==5)=true then
 aa P EM [(yI n),(yI 0),(yI 4096)] aQ (λr a=>(if (!r)=true then
 Q 2 a
 else
 Q 0 a)) h
 else
 Q 0 h))))
def Cr (P:Program) (n:Int) (nN:Int) (Q:(Int->(Hp->Prop))) (h:Hp):Prop:=
 (if (n==0)=true then
 Q 1 h
 else
 (if decide (n>nN) then
 Q 3 h
 else
 Q 0 h))
def JK (P:Program) (l:Sl) (Q:(Int->(Int->(Hp->Prop)))) (h:Hp):Prop:=
 (if ((l.len:Int)==0)=true then
 Q 1 0 h
 else
 (if decide ((l.len:Int)>8) then
 Q 3 8 h
 else
 aA (α1:=Int) (λb i a=>(if decide (i<(l.len:Int)) then
 ((bB l.base l.len i)/\aN none (ab .u64) a (sat l.base 1 i) λx=>((bB l.base l.len (yw (i-1)))/\aN none (ab .u64) a (sat l.base 1 (yw (i-1))) λc=>(if (x==c)=true then
 Q 8 i a
 else
 ((bB l.base l.len i)/\aN none (ab .u64) a (sat l.base 1 i) λd=>((bB l.base l.len (yw (i-1)))/\aN none (ab .u64) a (sat l.base 1 (yw (i-1))) λe=>(if decide (d<e) then
 Q 7 i a
 else
 b (yw (i+1)) a))))))
 else
 Q 0 0 a)) 1 h))
def JL (P:Program) (table:Sl) (parts:Int) (Q:(Option Addr->(Int->(Int->(Hp->Prop))))) (h:Hp):Prop:=
 bD [(yI parts)] (λa b=>aN none yH b a λx=>aN (some (!(decide (x<1)))) yH b a λi=>aF ((decide (x<1)) || (decide (i>8))) λy=>aF (y || ((table.len:Int)==0)) λj=>(if j then
 Q none 1 0 b
 else
 (if decide ((table.len:Int)>64) then
 Q none 3 64 b
 else
 aa P zjt [table.v,(.func (.func 137) #[] #[(yP (some a))])] yH (λr c=>(if decide (r>=0) then
 Q none 2 r c
 else
 aN none yH c a λe=>aa P EI [table.v] ak (λg d=>(((bp d a [(yI e)])/\True)/\bD [g.v,(yI e)] (λa1 f=>Q (some a1) 0 0 f) d)) c)) b))) h
def ZY (P:Program) (n:Int) (from_:Int) (to:Int) (Q:(Bool->(Hp->Prop))) (h:Hp):Prop:=
 aF ((decide (n>=from_))&&(decide (n<=to))) λy=>Q y h
def CM (P:Program) (l:Sl) (an:Int) (Q:(Int->(Int->(Hp->Prop)))) (h:Hp):Prop:=
 aF ((decide (an<0)) || (decide (an>8))) λy=>(if y then
 Q 1 0 h
 else
 (if decide ((l.len:Int)>256) then
 Q 3 256 h
 else
 aA (α1:=Int) (λd a b=>(if decide (a<(l.len:Int)) then
 ((bB l.base l.len a)/\aN none bJ b (sat l.base 5 a) λx=>aa P zzu [x.v,(yI (l.len:Int)),(yI an)] yH (λr c=>(if (r !=0)=true then
 Q r a c
 else
 d (yw (a+1)) c)) b)
 else
 Q 0 0 b)) 0 h))
def Wd (P:Program) (c:ay) (Q:(ay->(Hp->Prop))) (h:Hp):Prop:=
 aa P O3 [c.bn.v] ak (λr e=>((True/\(True/\True))/\aa P EI [c.Table.v] ak (λk f=>((True/\True)/\aa P zfv [c.aO.v] ak (λr2 g=>aA (α1:=Int) (λd a b=>(if decide (a<(r2.len:Int)) then
 ((bB r2.base r2.len a)/\aN none bA b (sat r2.base 2 a) λx=>aa P zgl [x.Code.v] ak (λl i=>((True/\True)/\((bB r2.base r2.len a)/\cD i (Addr.add (sat r2.base 2 a) 1) [l.v] (λj=>d (yw (a+1)) j)))) b)
 else
 Q ⟨r,k,c.Fuel,c.iO,c.cf,c.Log,r2⟩ b)) 0 g) f)) e)) h
def JM (P:Program) (l:Sl) (Q:(Option Addr->(Int->(Int->(Hp->Prop))))) (h:Hp):Prop:=
 bI P MA [l.v] yH yH (λr m d=>(if (r !=0)=true then
 Q none r m d
 else
 aa P O3 [l.v] ak (λr2 g=>vn  (λn i=>bD [r2.v,(.map n)] (λa e=>ag none (some a) λp=>dy e p 0 λx=>aA (α1:=Int) (λf b c=>(if decide (b<(x.len:Int)) then
 ((bB x.base x.len b)/\aN none (ab .u64) c (sat x.base 1 b) λo=>ag none (some a) λk=>aN none gL c (Addr.add k 1) λq=>rF (.int .u64) q (.int .u64 o) (yI b) (λj=>f (yw (b+1)) j) c)
 else
 Q (some a) 0 0 c)) 0 e) i) g) d)) h
def Cs (P:Program) (az:Sl) (al:Sl) (Q:(Option Addr->(Int->(Hp->Prop)))) (h:Hp):Prop:=
 aF ((decide ((az.len:Int)>8)) || (decide ((al.len:Int)>8))) λy=>(if y then
 Q none 3 h
 else
 (if ((az.len:Int) !=(al.len:Int))=true then
 Q none 4 h
 else
 bD [yN] (λa w=>aA (α1:=Int) (λt b c=>(if decide (b<(az.len:Int)) then
 ((bB az.base az.len b)/\aN none yH c (sat az.base 1 b) λx=>((((!(decide (x<(-1))))&&(x==(-1)))=true->(bB al.base al.len b))/\aN (some ((!(decide (x<(-1))))&&(x==(-1)))) ak c (sat al.base 1 b) λE=>aF ((x==(-1))&&(decide ((E.len:Int)>0))) λy1=>aF ((decide (x<(-1))) || y1) λG=>(if G then
 Q none 4 c
 else
 ag none (some a) λp=>dy c p 0 λF=>bD [(yI x),yN] (λa1 A=>fR 2 32 [(yI 0),yN] F ⟨(some a1),1,1⟩ (λr B=>ag none (some a) λC=>cD B (Addr.add C 0) [r.v] (λn=>((bB al.base al.len b)/\aN none ak n (sat al.base 1 b) λj=>aA (α1:=Int) (λu i l=>(if decide (i<(j.len:Int)) then
 ((bB j.base j.len i)/\aN none yH l (sat j.base 1 i) λk=>bI P LQ [(yP (some a)),(yI k)] yH aQ (λJ r2 d=>aF (r2 || (decide (k<0))) λH=>aF (H || (k==x)) λI=>(if I then
 Q none 4 d
 else
 ag none (some a) λm=>dy d m 0 λe=>ag none (some a) λq=>dy d q 0 λf=>((bB f.base f.len b)/\aN none ak d (Addr.add (sat f.base 2 b) 1) λs=>bD [(yI k)] (λa2 g=>(((bp g (Addr.add m 0) [e.v])/\((bp g (Addr.add q 0) [f.v])/\((bp g (Addr.add (sat f.base 2 b) 1) [s.v])/\True)))/\fR 1 8 [(yI 0)] s ⟨(some a2),1,1⟩ (λD o=>(((bp o (Addr.add m 0) [e.v])/\True)/\((bB e.base e.len b)/\cD o (Addr.add (sat e.base 2 b) 1) [D.v] (λz=>u (yw (i+1)) z)))) g)) d))) l)
 else
 t (yw (b+1)) l)) 0 n))) A) c)))
 else
 Q (some a) 0 c)) 0 w) h))
def MD (P:Program)  (Q:(Option Addr->(Hp->Prop))) (h:Hp):Prop:=
 vn  (λr b=>bD [yN,(.map r)] (λa c=>Q (some a) c) b) h
def CN (P:Program) (room:Int) (l:Sl) (ae:Int) (Q:(Option Addr->(Int->(Hp->Prop)))) (h:Hp):Prop:=
 aF ((decide ((l.len:Int)<1)) || (decide ((l.len:Int)>9))) λy=>aF (y || (decide (room<1))) λo=>aF (o || (decide (room>64))) λq=>(if q then
 Q none 1 h
 else
 aF ((decide (ae<0)) || (decide (ae>=(l.len:Int)))) λs=>(if s then
 Q none 2 h
 else
 bD [yN,(yI ae)] (λa f=>aA (α1:=Int) (λe b c=>(if decide (b<(l.len:Int)) then
 ((bB l.base l.len b)/\aN none bd c (sat l.base 4 b) λx=>bI P CH [(yI room),x.v] aj yH (λr m d=>(if (m !=0)=true then
 Q none 4 d
 else
 ag none (some a) λp=>dy d p 0 λn=>bD [(yP r)] (λa1 g=>fR 1 8 [(yP none)] n ⟨(some a1),1,1⟩ (λr2 i=>ag none (some a) λk=>cD i (Addr.add k 0) [r2.v] (λj=>e (yw (b+1)) j)) g) d)) c)
 else
 Q (some a) 0 c)) 0 f) h))
def L3 (P:Program) (w:Option Addr) (dp:Int) (due:Int) (Q:(Int->(Hp->Prop))) (h:Hp):Prop:=
 aF ((decide (dp<0)) || (decide (due<0))) λy=>(if y then
 Q 1 h
 else
 aa P Ca [(yP w),(yI dp)] aQ (λr b=>ag none w λp=>dy b p 0 λx=>bI P LF [x.v,(.agg #[(yI due),(yI dp)]),(.func (.func 145) #[] #[])] yH aQ (λm r2 c=>ag none w λf=>dy c f 0 λg=>bD [(yI due),(yI dp)] (λa d=>(((bp d (Addr.add f 0) [g.v])/\True)/\aa P Ob [g.v,(yI m),(.slice (some a) 1 1)] ak (λn i=>ag none w λk=>cD i (Addr.add k 0) [n.v] (λe=>ag none w λl=>aN none gL e (Addr.add l 1) λo=>rF (.int .i64) o (yI dp) (.agg #[(yI due),(yI dp)]) (λj=>Q 0 j) e)) d)) c) b) h)
def P8 (P:Program) (x:Sl) (count:Int) (Q:(Sl->(Hp->Prop))) (h:Hp):Prop:=
 bU (λk=>(if decide (count<0) then
 False
 else
 k h))
 (λd=>bI P Xj [(.int .u64 (IntKind.wrap .u64 (x.len:Int))),(.int .u64 (IntKind.wrap .u64 count))] (ab .u64) (ab .u64) (λr a e=>bU (λk=>aF ((decide (r>0)) || (decide (a>9223372036854775807))) λy=>(if y then
 False
 else
 k e))
 (λf=>c9 8 [(yI 0)] (yw a) (yw a) (λr2 g=>fI 1 r2 x (λl i=>aA (α1:=Int) (λc n b=>(if decide (n<(r2.len:Int)) then
 ((0<=n/\n<=(r2.len:Int))/\aF (α:=Sl) ⟨(aX r2.base 1 (Int.toNat n) r2.cap),(r2.len-(Int.toNat n)),(r2.cap-(Int.toNat n))⟩ λy=>((0<=n/\n<=(r2.cap:Int))/\aF (α:=Sl) ⟨(aX r2.base 1 0 r2.cap),((Int.toNat n)-0),(r2.cap-0)⟩ λo=>fI 1 y o (λm j=>c (yw (n+m)) j) b))
 else
 Q r2 b)) l i) g) f)) d)
def Qb (P:Program) (m:Option Addr) (p:Int) (Q:(Int->(Hp->Prop))) (h:Hp):Prop:=
 ag (some (!(decide (p<0)))) m λc=>aN (some (!(decide (p<0)))) ak h (Addr.add c 11) λx=>aF ((decide (p<0)) || (decide (p>=(x.len:Int)))) λy=>(if y then
 Q 17 h
 else
 ag none m λd=>dy h d 11 λa=>((bB a.base a.len p)/\aN none aj h (sat a.base 1 p) λf=>ag none f λe=>fb h e 3 λg=>aa P Mb [(yI g)] aQ (λr b=>(if (!r)=true then
 Q 18 b
 else
 Q 0 b)) h))
def Mg (P:Program) (p:Option Addr) (lane:Int) (v:Int) (Q:(Int->(Hp->Prop))) (h:Hp):Prop:=
 aa P LY [(yP p),(yI lane)] aQ (λr a=>(if (!r)=true then
 Q 2 a
 else
 ag none p λc=>dy a c 0 λx=>((bB x.base x.len lane)/\aN none aj a (sat x.base 1 lane) λe=>aa P zzv [(yP e),(yI v)] yH (λd b=>Q d b) a))) h
def L6 (P:Program) (p:Option Addr) (lane:Int) (Q:(Hp->Prop)) (h:Hp):Prop:=
 aa P LY [(yP p),(yI lane)] aQ (λr a=>(if r then
 ag none p λc=>dy a c 0 λx=>((bB x.base x.len lane)/\aN none aj a (sat x.base 1 lane) λd=>bK P VY [(yP d)] (λb=>Q b) a)
 else
 Q a)) h
def QY (P:Program) (m:Option Addr) (q:Option Addr) (Q:(Hp->Prop)) (h:Hp):Prop:=
 ag none q λp=>fb h p 3 λx=>(if (x==1)=true then
 ag none q λb=>cD h (Addr.add b 3) [(yI 0)] (λa=>Q a)
 else
 Q h)
def Q0 (P:Program) (m:Option Addr) (p:Option Addr) (state:Int) (Q:(Hp->Prop)) (h:Hp):Prop:=
 ag none m λM=>dy h M 10 λx=>ag none p λS=>fb h S 1 λE=>((bB x.base x.len E)/\aN none aj h (sat x.base 1 E) λn=>ag none p λT=>cD h (Addr.add T 3) [(yI state)] (λJ=>ag none p λU=>cD J (Addr.add U 13) [(.bool false)] (λA=>ag none n λV=>dy A V 0 λo=>aA (α1:=Int) (λG k a=>(if decide (k<(o.len:Int)) then
 ((bB o.base o.len k)/\aN none yH a (sat o.base 1 k) λq=>ag none m λv=>dy a v 11 λe=>((bB e.base e.len q)/\aN none aj a (sat e.base 1 q) λb=>ag none b λw=>lq a w 14 λz=>ag none p λg=>fb a g 0 λs=>aa P Uy [(yP z),(yI s)] aQ (λr t=>G (yw (k+1)) t) a))
 else
 ag none n λv=>lq a v 5 λq=>ag none p λw=>fb a w 0 λe=>aa P zup [(yP q),(yI e)] ak (λr t=>aA (α1:=Int) (λH l d=>(if decide (l<(r.len:Int)) then
 ((bB r.base r.len l)/\aN none Mh d (sat r.base 2 l) λb=>bK P B0 [(yP m),(yI b.da)] (λf=>H (yw (l+1)) f) d)
 else
 ag none n λg=>lq d g 6 λb=>ag none p λW=>fb d W 0 λz=>aa P vY [(yI z)] yH (λX f=>(((bp f (Addr.add g 6) [(yP b)])/\True)/\aa P Ca [(yP b),(yI X)] aQ (λr2 u=>ag none n λD=>lq u D 6 λs=>ag none p λN=>fb u N 0 λx9=>aa P xc [(yI x9)] yH (λY B=>(((bp B (Addr.add D 6) [(yP s)])/\True)/\aa P Ca [(yP s),(yI Y)] aQ (λr4 C=>ag none p λO=>lq C O 14 λZ=>aa P zzw [(yP Z)] ak (λi K=>aA (α1:=Int) (λI j c=>(if decide (j<(i.len:Int)) then
 ((bB i.base i.len j)/\aN none aC c (sat i.base 2 j) λF=>ag none m λR=>dy c R 11 λy=>((bB y.base y.len F.da)/\aN none aj c (sat y.base 1 F.da) λa8=>bK P vV [(yP m),(yP a8),(yI 2)] (λL=>I (yw (j+1)) L) c))
 else
 Q c)) 0 K) C) B)) u) f)) d)) 0 t) a)) 0 A)))
def AG (P:Program) (s:Sl) (Q:(Sl->(Hp->Prop))) (h:Hp):Prop:=
 fK none P (cE .eql 23 (.tmp 3) (.const yN) s.v yN) aQ h λx=>(if x then
 Q ⟨none,0,0⟩ h
 else
 bD [] (λa b=>fR 1 8 [(yI 0)] ⟨(some a),0,0⟩ s (λr c=>Q r c) b) h)
def zlm (P:Program) (s:Sl) (Q:(Sl->(Hp->Prop))) (h:Hp):Prop:=
 fK none P (cE .eql 113 (.tmp 3) (.const yN) s.v yN) aQ h λx=>(if x then
 Q ⟨none,0,0⟩ h
 else
 bD [] (λa b=>fR 1 24 [yN] ⟨(some a),0,0⟩ s (λr c=>Q r c) b) h)
def zfx (P:Program) (s:Sl) (Q:(Sl->(Hp->Prop))) (h:Hp):Prop:=
 fK none P (cE .eql 66 (.tmp 3) (.const yN) s.v yN) aQ h λx=>(if x then
 Q ⟨none,0,0⟩ h
 else
 bD [] (λa b=>fR 4 64 [yN,yN,(yI 0),(yI 0)] ⟨(some a),0,0⟩ s (λr c=>Q r c) b) h)
def LL (P:Program) (s:Sl) (Q:(Sl->(Hp->Prop))) (h:Hp):Prop:=
 fK none P (cE .eql 184 (.tmp 3) (.const yN) s.v yN) aQ h λx=>(if x then
 Q ⟨none,0,0⟩ h
 else
 bD [] (λa b=>fR 1 8 [(yI 0)] ⟨(some a),0,0⟩ s (λr c=>Q r c) b) h)
def LH (P:Program) (s:Sl) (Q:(Sl->(Hp->Prop))) (h:Hp):Prop:=
 fK none P (cE .eql 185 (.tmp 3) (.const yN) s.v yN) aQ h λx=>(if x then
 Q ⟨none,0,0⟩ h
 else
 bD [] (λa b=>fR 2 16 [(yI 0),(yI 0)] ⟨(some a),0,0⟩ s (λr c=>Q r c) b) h)
def UL (P:Program) (l:Option Addr) (Q:(bw->(Hp->Prop))) (h:Hp):Prop:=
 ag none l λp=>dy h p 1 λx=>ag none l λg=>dy h g 2 λi=>ag none l λc=>fb h c 3 λe=>ag none l λd=>fb h d 4 λf=>aa P LK [x.v] ak (λr a=>(((bp a (Addr.add g 2) [i.v])/\((bp a (Addr.add c 3) [(yI e)])/\((bp a (Addr.add d 4) [(yI f)])/\True)))/\aa P LG [i.v] ak (λj b=>(((bp b (Addr.add c 3) [(yI e)])/\((bp b (Addr.add d 4) [(yI f)])/\True))/\Q ⟨r,j,e,f⟩ b)) a)) h
def zby (P:Program) (s1:Sl) (s2:Sl) (eq:mM) (Q:(Bool->(Hp->Prop))) (h:Hp):Prop:=
 (if ((s1.len:Int) !=(s2.len:Int))=true then
 Q false h
 else
 aA (α1:=Int) (λd a b=>(if decide (a<(s1.len:Int)) then
 ((bB s1.base s1.len a)/\aN none aY b (sat s1.base 6 a) λx=>((bB s2.base s2.len a)/\aN none aY b (sat s2.base 6 a) λe=>dM P tb (.func (.func eq.g) eq.first eq.captured) [x.v,e.v] aQ (λr c=>(if (!r)=true then
 Q false c
 else
 d (yw (a+1)) c)) b))
 else
 Q true b)) 0 h)
def zux (P:Program) (a:Sl) (b:Sl) (Q:(Bool->(Hp->Prop))) (h:Hp):Prop:=
 aa P Xg [a.v,b.v,(.func (.func 116) #[] #[])] aQ (λr c=>Q r c) h
def XJ (P:Program) (a:Sl) (b:Sl) (c:mM) (Q:(Bool->(Hp->Prop))) (h:Hp):Prop:=
 aa P zfd [a.v,b.v,(.func (.func c.g) c.first c.captured)] aQ (λr d=>Q r d) h
def zxu (P:Program) (x:Int) (y:Int) (Q:(Bool->(Hp->Prop))) (h:Hp):Prop:=
 Q (x==y) h
def RM (P:Program) (a:Sl) (b:Sl) (c:mM) (Q:(Bool->(Hp->Prop))) (h:Hp):Prop:=
 aa P zbj [a.v,b.v,(.func (.func c.g) c.first c.captured)] aQ (λr d=>Q r d) h
def znp (P:Program) (x:cU) (y:cU) (Q:(Bool->(Hp->Prop))) (h:Hp):Prop:=
 fK none P (cE .eql 133 (.tmp 5) (.tmp 6) x.v y.v) aQ h λa=>Q a h
def UO (P:Program) (a:Sl) (b:Sl) (is:mM) (Q:(Bool->(Hp->Prop))) (h:Hp):Prop:=
 aa P zet [a.v,b.v,(.func (.func is.g) is.first is.captured)] aQ (λr c=>Q r c) h
def zax (P:Program) (s1:Sl) (s2:Sl) (eq:mM) (Q:(Bool->(Hp->Prop))) (h:Hp):Prop:=
 (if ((s1.len:Int) !=(s2.len:Int))=true then
 Q false h
 else
 aA (α1:=Int) (λd a b=>(if decide (a<(s1.len:Int)) then
 ((bB s1.base s1.len a)/\aN none aE b (sat s1.base 15 a) λx=>((bB s2.base s2.len a)/\aN none aE b (sat s2.base 15 a) λe=>dM P tb (.func (.func eq.g) eq.first eq.captured) [x.v,e.v] aQ (λr c=>(if (!r)=true then
 Q false c
 else
 d (yw (a+1)) c)) b))
 else
 Q true b)) 0 h)
def SC (P:Program) (a:Sl) (b:Sl) (c:mM) (Q:(Bool->(Hp->Prop))) (h:Hp):Prop:=
 aa P zbw [a.v,b.v,(.func (.func c.g) c.first c.captured)] aQ (λr d=>Q r d) h
def XL (P:Program) (x:bw) (y:bw) (Q:(Bool->(Hp->Prop))) (h:Hp):Prop:=
 aa P zuq [x.ff.v,y.ff.v,(.func (.func 164) #[] #[])] aQ (λr a=>cG (some r) (aa P zno [x.cQ.v,y.cQ.v,(.func (.func 166) #[] #[])] aQ) (λc b=>aF (r&&c) λd=>aF (d&&(x.gD==y.gD)) λe=>aF (e&&(x.ee==y.ee)) λf=>Q f b) a) h
def SY (P:Program) (s:Option Addr) (t:Int) (Q:(Int->(Hp->Prop))) (h:Hp):Prop:=
 (if decide (t<0) then
 Q (-1) h
 else
 ag none s λp=>dy h p 0 λx=>ag none s λb=>dy h b 0 λa=>((a.len:Int)≠0/\((bB x.base x.len (Int.tmod t (a.len:Int)))/\aN none yH h (sat x.base 1 (Int.tmod t (a.len:Int))) λc=>Q c h)))
def RP (P:Program) (m:Option Addr) (x:Option Addr) (Q:(Hp->Prop)) (h:Hp):Prop:=
 ag none x λp=>lq h p 6 λz=>ag none m λq=>fb h q 9 λA=>aa P zur [(yP z),(yI A)] ak (λr o=>aA (α1:=Int) (λn e a=>(if decide (e<(r.len:Int)) then
 bU (λk=>((bB r.base r.len e)/\aN none yH a (sat r.base 1 e) λi=>ag none m λs=>dy a s 11 λj=>((2:Int)≠(0:Int)/\((bB j.base j.len (yw (Int.tdiv i (2:Int))))/\aN none aj a (sat j.base 1 (yw (Int.tdiv i (2:Int)))) λb=>ag none b λt=>fb a t 0 λB=>aa P xc [(yI B)] yH (λy c=>(if (i==y)=true then
 ag none b λg=>aN none eT c (Addr.add g 4) λl=>aa P v8 [l.v] eT (λr2 d=>bK P GO [(yP m),(yP b),r2.v] (λf=>k f) d) c
 else
 ag none b λg=>cD c (Addr.add g 13) [(.bool true)] (λd=>ag none b λu=>fb d u 3 λl=>(if (l==(1:Int))=true then
 ag none b λw=>cD d (Addr.add w 3) [(yI (0:Int))] (λf=>k f)
 else
 k d)))) a))))
 (λc=>n (yw (e+(1:Int))) c)
 else
 Q a)) (0:Int) o) h
def Q2 (P:Program) (m:Option Addr) (p:Option Addr) (Q:(Hp->Prop)) (h:Hp):Prop:=
 ag none p λH=>aN none eT h (Addr.add H 4) λx=>ag none p λI=>dy h I 2 λS=>ag none m λJ=>fb h J 9 λT=>ag none p λK=>fb h K 0 λU=>bI P CI [x.v,S.v,(yI T),(yI U)] eT Dc (λr d F=>ag none p λL=>cD F (Addr.add L 4) [(yI r.PC),(yI r.bV),(yI r.bW),(yI r.bX),(yI r.bY),(yI r.bZ),(yI r.b9),(yI r.cc),(yI r.cd)] (λu=>ag none m λM=>dy u M 10 λD=>ag none p λN=>fb u N 1 λE=>((bB D.base D.len E)/\aN none aj u (sat D.base 1 E) λn=>(if (d.Kind==1)=true then
 bK P LN [(yP m),(yP p),(yI 5)] (λb=>Q b) u
 else
 (if (d.Kind==2)=true then
 bK P PW [(yP m),(yP p),(yI d.To),(yI d.dQ)] (λb=>Q b) u
 else
 eZ (α1:=Bool) (λk=>(if (d.Kind==3)=true then
 k (d.Kind==3) u
 else
 k (d.Kind==4) u))
 (λR b=>(if R then
 bK P PY [(yP m),(yP p),(.bool (d.Kind==4))] (λc=>Q c) b
 else
 (if (d.Kind==5)=true then
 ag none p λq=>cD b (Addr.add q 13) [(.bool false)] (λc=>ag none n λs=>lq c s 6 λo=>ag none p λf=>fb c f 0 λt=>aa P vY [(yI t)] yH (λr2 e=>(((bp e (Addr.add s 6) [(yP o)])/\True)/\aa P Ca [(yP o),(yI r2)] aQ (λA i=>(if decide (d.dQ>0) then
 ag none n λl=>lq i l 6 λg=>ag none p λC=>fb i C 0 λy=>ag none m λz=>fb i z 9 λB=>aa P vY [(yI y)] yH (λj w=>(((bp w (Addr.add l 6) [(yP g)])/\((bp w (Addr.add z 9) [(yI B)])/\(True/\True)))/\aa P vW [(yP g),(yI j),(yI (yw (B+(iF d.dQ 1099511627776))))] yH (λO G=>Q G) w)) i
 else
 Q i)) e)) c)
 else
 (if (d.Kind==6)=true then
 ag none n λq=>lq b q 6 λo=>ag none p λs=>fb b s 0 λt=>ag none m λf=>fb b f 9 λg=>aa P xc [(yI t)] yH (λr2 c=>(((bp c (Addr.add q 6) [(yP o)])/\((bp c (Addr.add f 9) [(yI g)])/\(True/\True)))/\aa P vW [(yP o),(yI r2),(yI (yw (g+(iF (oY d.dQ 1) 1099511627776))))] yH (λA e=>ag none p λl=>cD e (Addr.add l 3) [(yI 4)] (λi=>Q i)) c)) b
 else
 (if (d.Kind==7)=true then
 ag none n λq=>lq b q 5 λo=>ag none p λs=>fb b s 0 λt=>bI P LW [(yP o),(yI d.To),(yI t)] aQ yH (λr2 A c=>(if r2 then
 ag none p λf=>aN none eT c (Addr.add f 4) λg=>aa P v8 [g.v] eT (λj e=>ag none p λl=>cD e (Addr.add l 4) [(yI j.PC),(yI j.bV),(yI j.bW),(yI j.bX),(yI j.bY),(yI j.bZ),(yI j.b9),(yI j.cc),(yI j.cd)] (λi=>Q i)) c
 else
 ag none p λf=>cD c (Addr.add f 3) [(yI 3)] (λe=>Q e))) b
 else
 (if (d.Kind==8)=true then
 ag none n λq=>lq b q 5 λo=>ag none p λs=>fb b s 0 λt=>aa P LR [(yP o),(yI t)] ak (λr2 c=>((True/\True)/\aa P LM [r2.v,(yI d.To)] aQ (λA e=>(if A then
 ag none n λf=>lq e f 5 λg=>ag none p λl=>fb e l 0 λy=>bI P HC [(yP g),(yI d.To),(yI y)] yH yH (λj O i=>bK P B0 [(yP m),(yI j)] (λw=>Q w) i) e
 else
 Q e)) c)) b
 else
 (if (d.Kind==9)=true then
 ag none n λq=>dy b q 2 λo=>ag none m λs=>aN none yH b (Addr.add (Addr.add s 0) 5) λt=>(if decide ((o.len:Int)<t) then
 ag none n λf=>dy b f 2 λg=>ag none m λl=>fb b l 9 λy=>ag none p λC=>fb b C 0 λB=>bD [(yI y),(yI B),(yI d.dQ)] (λa c=>(((bp c (Addr.add f 2) [g.v])/\True)/\fR 3 24 [(yI 0),(yI 0),(yI 0)] g ⟨(some a),1,1⟩ (λr2 e=>ag none n λz=>cD e (Addr.add z 2) [r2.v] (λi=>Q i)) c)) b
 else
 ag none n λf=>fb b f 3 λg=>aa P Mi [(yI g)] yH (λr2 c=>ag none n λl=>cD c (Addr.add l 3) [(yI r2)] (λe=>Q e)) b)
 else
 Q b)))))))))))) h
def Q4 (P:Program) (a:Int) (b:Int) (Q:(Bool->(Hp->Prop))) (h:Hp):Prop:=
 aA (α1:=Int) (λe n c=>(if decide (n<64) then
 aa P Sw [(.int .u64 a),(yI n)] aQ (λr f=>cG (some r) (aa P Sw [(.int .u64 b),(yI n)] aQ) (λg d=>aF (r&&(!g)) λy=>(if y then
 Q false d
 else
 e (yw (n+1)) d)) f) c
 else
 Q true c)) 0 h
def BN (P:Program) (x:bu) (n:Int) (an:Int) (Q:(Int->(Hp->Prop))) (h:Hp):Prop:=
 bI P zzx [x.v,(yI n),(yI an)] yH yH (λr b a=>Q r a) h
def Pn (P:Program) (s:Sl) (f:mM) (Q:(Int->(Hp->Prop))) (h:Hp):Prop:=
 aA (α1:=Int) (λd a b=>(if decide (a<(s.len:Int)) then
 ((bB s.base s.len a)/\aN none yH b (sat s.base 1 a) λx=>dM P tb (.func (.func f.g) f.first f.captured) [(yI x)] aQ (λr c=>(if r then
 Q a c
 else
 d (yw (a+1)) c)) b)
 else
 Q (-1) b)) 0 h
def ZZ (P:Program) (p:Int) (a1:Addr) (Q:(Bool->(Hp->Prop))) (h:Hp):Prop:=
 aN (some (!(decide (p<0)))) yH h a1 λx=>aF ((decide (p<0)) || (decide (p>=x))) λy=>Q y h
def LJ (P:Program) (s:Sl) (Q:(Sl->(Hp->Prop))) (h:Hp):Prop:=
 fK none P (cE .eql 22 (.tmp 3) (.const yN) s.v yN) aQ h λx=>(if x then
 Q ⟨none,0,0⟩ h
 else
 bD [] (λa b=>fR 1 8 [(.int .u64 0)] ⟨(some a),0,0⟩ s (λr c=>Q r c) b) h)
def zfy (P:Program) (s:Sl) (Q:(Sl->(Hp->Prop))) (h:Hp):Prop:=
 fK none P (cE .eql 24 (.tmp 3) (.const yN) s.v yN) aQ h λx=>(if x then
 Q ⟨none,0,0⟩ h
 else
 bD [] (λa b=>fR 2 32 [(yI 0),yN] ⟨(some a),0,0⟩ s (λr c=>Q r c) b) h)
def zgm (P:Program) (s:Sl) (Q:(Sl->(Hp->Prop))) (h:Hp):Prop:=
 fK none P (cE .eql 48 (.tmp 3) (.const yN) s.v yN) aQ h λx=>(if x then
 Q ⟨none,0,0⟩ h
 else
 bD [] (λa b=>fR 5 40 [(yI 0),(yI 0),(yI 0),(yI 0),(yI 0)] ⟨(some a),0,0⟩ s (λr c=>Q r c) b) h)
def S0 (P:Program) (l:Option Addr) (p:Int) (Q:(Int->(Bool->(Hp->Prop)))) (h:Hp):Prop:=
 ag none l λe=>dy h e 0 λx=>aA (α1:=Int) (λd a b=>(if decide (a<(x.len:Int)) then
 ((bB x.base x.len a)/\aN none eV b (sat x.base 2 a) λf=>aa P LM [f.queue.v,(yI p)] aQ (λr c=>(if r then
 Q a true c
 else
 d (yw (a+1)) c)) b)
 else
 Q 0 false b)) 0 h
def CO (P:Program) (room:Int) (s:bw) (Q:(Option Addr->(Int->(Hp->Prop)))) (h:Hp):Prop:=
 bI P CJ [(yI room)] aj yH (λr c a=>(if (c !=0)=true then
 Q none c a
 else
 aF ((decide ((s.cQ.len:Int)>0))&&(decide ((s.ff.len:Int)<room))) λy=>aF ((decide ((s.ff.len:Int)>room)) || y) λd=>cG (some (!d)) (aa P Mm [(yI s.gD),(yI 0),(yI 65535)] aQ) (λr2 i=>aF (d || (!r2)) λe=>cG (some (!e)) (aa P Mm [(yI s.ee),(yI 0),(yI 65535)] aQ) (λw j=>aF (e || (!w)) λf=>cG (some (!f)) (aa P Iw [s.cQ.v] aQ) (λr4 b=>aF (f || r4) λA=>(if A then
 Q none 4 b
 else
 aa P LK [s.ff.v] ak (λx k=>((True/\True)/\aa P LG [s.cQ.v] ak (λz l=>ag none r λp=>cD l (Addr.add p 1) [x.v] (λm=>ag none r λq=>cD m (Addr.add q 2) [z.v] (λn=>ag none r λt=>cD n (Addr.add t 3) [(yI s.gD)] (λo=>((True/\True)/\ag none r λu=>cD o (Addr.add u 4) [(yI s.ee)] (λg=>Q r 0 g)))))) k)) b)) j) i) a)) h
def LU (P:Program) (w:Option Addr) (dp:Int) (Q:(Bool->(Hp->Prop))) (h:Hp):Prop:=
 ag none w λp=>aN none gL h (Addr.add p 1) λx=>mO none (.int .i64) aT (.agg #[(yI 0),(yI 0)]) x (yI dp) h λn ok=>(if (!ok)=true then
 Q false h
 else
 ag none w λk=>dy h k 0 λc=>aA (α1:=Int) (λi b a=>(if decide (b<(c.len:Int)) then
 ((bB c.base c.len b)/\aN none aT a (sat c.base 2 b) λf=>fK none P (cE .eql 203 (.tmp 30) (.tmp 31) f.v n.v) aQ a λo=>(if o then
 ag none w λe=>dy a e 0 λq=>aa P zdy [q.v,(yI b),(yI (yw (b+1)))] ak (λr d=>ag none w λl=>cD d (Addr.add l 0) [r.v] (λg=>ag none w λm=>aN none gL g (Addr.add m 1) λs=>vx (.int .i64) s (yI dp) (λj=>Q true j) g)) a
 else
 i (yw (b+1)) a))
 else
 ag none w λe=>aN none gL a (Addr.add e 1) λf=>vx (.int .i64) f (yI dp) (λd=>Q true d) a)) 0 h)
def Nn (P:Program) (x:Sl) (target:av) (cmp:mM) (Q:(Int->(Bool->(Hp->Prop)))) (h:Hp):Prop:=
 dC (α1:=Int) (α2:=Int) (λd i j b=>(if decide (i<j) then
 ia (α1:=Int) (α2:=Int) (λk=>((0:Int)<=(1:Int)/\((bB x.base x.len (yw (gW .u64 (IntKind.wrap .u64 (yw (i+j))) (1:Int))))/\aN none aT b (sat x.base 2 (yw (gW .u64 (IntKind.wrap .u64 (yw (i+j))) (1:Int)))) λc=>dM P tb (.func (.func cmp.g) cmp.first cmp.captured) [c.v,target.v] yH (λr a=>(if decide (r<(0:Int)) then
 k (yw ((yw (gW .u64 (IntKind.wrap .u64 (yw (i+j))) (1:Int)))+(1:Int))) j a
 else
 k i (yw (gW .u64 (IntKind.wrap .u64 (yw (i+j))) (1:Int))) a)) b)))
 (λe f a=>d e f a)
 else
 (((decide (i<(x.len:Int)))=true->(bB x.base x.len i))/\aN (some (decide (i<(x.len:Int)))) aT b (sat x.base 2 i) λc=>cG (some (decide (i<(x.len:Int)))) (dM P tb (.func (.func cmp.g) cmp.first cmp.captured) [c.v,target.v] yH) (λr a=>aF ((decide (i<(x.len:Int)))&&(r==(0:Int))) λy=>Q i y a) b))) (0:Int) (x.len:Int) h
def Z1 (P:Program) (a:av) (b:av) (Q:(Int->(Hp->Prop))) (h:Hp):Prop:=
 aa P zrc [(yI a.due),(yI b.due)] yH (λr c=>((True/\(True/\True))/\aa P zus [(yI a.dp),(yI b.dp)] yH (λg d=>bD [(yI r),(yI g)] (λa1 e=>aa P Ix [(.slice (some a1) 2 2)] yH (λr2 f=>Q r2 f) e) d) c)) h
def zdz (P:Program) (s:Sl) (i:Int) (v:Sl) (Q:(Sl->(Hp->Prop))) (h:Hp):Prop:=
 ((0<=i/\i<=(s.len:Int))/\aF (α:=Sl) ⟨(aX s.base 2 (Int.toNat i) s.cap),(s.len-(Int.toNat i)),(s.cap-(Int.toNat i))⟩ λy=>(if ((v.len:Int)==0)=true then
 Q s h
 else
 (if (i==(s.len:Int))=true then
 fR 2 16 [(yI 0),(yI 0)] s v (λr b=>Q r b) h
 else
 (if (decide ((yw ((s.len:Int)+(v.len:Int)))>(s.cap:Int)))=true then
 ((0<=i/\i<=(s.cap:Int))/\aF (α:=Sl) ⟨(aX s.base 2 0 s.cap),((Int.toNat i)-0),(s.cap-0)⟩ λa=>xM 2 16 [(yI 0),(yI 0)] a (yw ((yw ((s.len:Int)+(v.len:Int)))-i)) (λr b=>((0<=i/\i<=(r.len:Int))/\aF (α:=Sl) ⟨(aX r.base 2 (Int.toNat i) r.cap),(r.len-(Int.toNat i)),(r.cap-(Int.toNat i))⟩ λg=>fI 2 g v (λj c=>((0<=(yw (i+(v.len:Int)))/\(yw (i+(v.len:Int)))<=(r.len:Int))/\aF (α:=Sl) ⟨(aX r.base 2 (Int.toNat (yw (i+(v.len:Int)))) r.cap),(r.len-(Int.toNat (yw (i+(v.len:Int))))),(r.cap-(Int.toNat (yw (i+(v.len:Int)))))⟩ λe=>((0<=i/\i<=(s.len:Int))/\aF (α:=Sl) ⟨(aX s.base 2 (Int.toNat i) s.cap),(s.len-(Int.toNat i)),(s.cap-(Int.toNat i))⟩ λf=>fI 2 e f (λr2 d=>Q r d) c))) b)) h)
 else
 ((0<=(yw ((s.len:Int)+(v.len:Int)))/\(yw ((s.len:Int)+(v.len:Int)))<=(s.cap:Int))/\aF (α:=Sl) ⟨(aX s.base 2 0 s.cap),((Int.toNat (yw ((s.len:Int)+(v.len:Int))))-0),(s.cap-0)⟩ λa=>((0<=(yw (i+(v.len:Int)))/\(yw (i+(v.len:Int)))<=(a.len:Int))/\aF (α:=Sl) ⟨(aX a.base 2 (Int.toNat (yw (i+(v.len:Int)))) a.cap),(a.len-(Int.toNat (yw (i+(v.len:Int))))),(a.cap-(Int.toNat (yw (i+(v.len:Int)))))⟩ λg=>jG P (Extern.SlicesOverlaps.overlaps #[205,205] #[4] #[v.v,g.v]) aQ (λr b=>(if (!r)=true then
 ((0<=(yw (i+(v.len:Int)))/\(yw (i+(v.len:Int)))<=(a.len:Int))/\aF (α:=Sl) ⟨(aX a.base 2 (Int.toNat (yw (i+(v.len:Int)))) a.cap),(a.len-(Int.toNat (yw (i+(v.len:Int))))),(a.cap-(Int.toNat (yw (i+(v.len:Int)))))⟩ λe=>((0<=i/\i<=(a.len:Int))/\aF (α:=Sl) ⟨(aX a.base 2 (Int.toNat i) a.cap),(a.len-(Int.toNat i)),(a.cap-(Int.toNat i))⟩ λf=>fI 2 e f (λj c=>((0<=i/\i<=(a.len:Int))/\aF (α:=Sl) ⟨(aX a.base 2 (Int.toNat i) a.cap),(a.len-(Int.toNat i)),(a.cap-(Int.toNat i))⟩ λk=>fI 2 k v (λr2 d=>Q a d) c)) b))
 else
 ((0<=(s.len:Int)/\(s.len:Int)<=(a.len:Int))/\aF (α:=Sl) ⟨(aX a.base 2 (Int.toNat (s.len:Int)) a.cap),(a.len-(Int.toNat (s.len:Int))),(a.cap-(Int.toNat (s.len:Int)))⟩ λe=>fI 2 e v (λj c=>((0<=i/\i<=(a.len:Int))/\aF (α:=Sl) ⟨(aX a.base 2 (Int.toNat i) a.cap),(a.len-(Int.toNat i)),(a.cap-(Int.toNat i))⟩ λf=>bK P zfw [f.v,(yI (v.len:Int))] (λd=>Q a d) c)) b))) h))))))
def Gs (P:Program) (x:Int) (y:Int) (Q:(Int->(Int->(Hp->Prop)))) (h:Hp):Prop:=
 bI P UA [(.int .u64 x),(.int .u64 y)] (ab .u64) (ab .u64) (λr b a=>Q r b a) h
def XN (P:Program) (state:Int) (Q:(Bool->(Hp->Prop))) (h:Hp):Prop:=
 aF ((state !=5)&&(state !=6)) λy=>Q y h
def UR (P:Program) (p:Option Addr) (n:Int) (Q:(Bool->(Hp->Prop))) (h:Hp):Prop:=
 ag (some (decide (n>=0))) p λa=>aN (some (decide (n>=0))) ak h (Addr.add a 0) λx=>aF ((decide (n>=0))&&(decide (n<(x.len:Int)))) λy=>Q y h
def XP (P:Program) (l:Option Addr) (v:Int) (Q:(Int->(Hp->Prop))) (h:Hp):Prop:=
 aa P V1 [(yP l)] aQ (λr b=>(if r then
 Q 19 b
 else
 ag none l λp=>dy b p 1 λx=>bD [(yI v)] (λa c=>fR 1 8 [(yI 0)] x ⟨(some a),1,1⟩ (λg d=>ag none l λf=>cD d (Addr.add f 1) [g.v] (λe=>Q 0 e)) c) b)) h
def Wg (P:Program) (l:Option Addr) (Q:(Hp->Prop)) (h:Hp):Prop:=
 ag none l λp=>fb h p 4 λx=>aa P Cl [(yI x)] yH (λr a=>ag none l λc=>cD a (Addr.add c 4) [(yI r)] (λb=>Q b)) h
def UU (P:Program) (p:Option Addr) (proc:Int) (Q:(Bool->(Hp->Prop))) (h:Hp):Prop:=
 ag none p λc=>dy h c 0 λx=>dC (α1:=Bool) (α2:=Int) (λagain left t13 h1=>(if decide (t13<(x.len:Int)) then
 eZ (α1:=Bool) (λk=>((bB x.base x.len t13)/\aN none aj h1 (sat x.base 1 t13) λd=>aa P zut [(yP d),(yI proc)] aQ (λr a=>(if r then
 k true a
 else
 k left a)) h1))
 (λb a=>again b (yw (t13+1)) a)
 else
 Q left h1)) false 0 h
def UY (P:Program) (l:Option Addr) (p:Int) (Q:(Sl->(Hp->Prop))) (h:Hp):Prop:=
 ag none l λw=>dy h w 0 λx=>aA (α1:=Int) (λq c f=>(if decide (c<(x.len:Int)) then
 bU (λk=>ag none l λy=>dy f y 0 λe=>((bB e.base e.len c)/\aN none ak f (Addr.add (sat e.base 2 c) 1) λB=>aa P QK [B.v,(yI p)] yH (λr b=>(if decide (r>=0) then
 ag none l λo=>dy b o 0 λi=>ag none l λz=>dy b z 0 λn=>((bB n.base n.len c)/\aN none ak b (Addr.add (sat n.base 2 c) 1) λC=>aa P zml [C.v,(yI r),(yI (yw (r+1)))] ak (λm d=>(((bp d (Addr.add o 0) [i.v])/\True)/\((bB i.base i.len c)/\cD d (Addr.add (sat i.base 2 c) 1) [m.v] (λj=>k j)))) b)
 else
 k b)) f))
 (λb=>q (yw (c+1)) b)
 else
 aa P LR [(yP l),(yI p)] ak (λr b=>dC (α1:=Sl) (α2:=Int) (λs out g d=>(if decide (g<(r.len:Int)) then
 ((bB r.base r.len g)/\aN none yH d (sat r.base 1 g) λe=>bI P HC [(yP l),(yI e),(yI p)] yH yH (λm r2 j=>bD [(yI e),(yI m)] (λa t=>fR 2 16 [(yI 0),(yI 0)] ⟨out.base,out.len,out.cap⟩ ⟨(some a),1,1⟩ (λA u=>s A (yw (g+1)) u) t) j) d)
 else
 Q ⟨out.base,out.len,out.cap⟩ d)) ⟨none,0,0⟩ 0 b) f)) 0 h
def Qg (P:Program) (m:Option Addr) (kj:Int) (Q:(Hp->Prop)) (h:Hp):Prop:=
 (if decide (kj>=0) then
 ag none m λp=>dy h p 11 λx=>((bB x.base x.len kj)/\aN none aj h (sat x.base 1 kj) λc=>ag none m λe=>dy h e 11 λb=>((bB b.base b.len kj)/\aN none aj h (sat b.base 1 kj) λg=>ag none g λf=>aN none eT h (Addr.add f 4) λi=>aa P v8 [i.v] eT (λr a=>(((bp a (Addr.add p 11) [x.v])/\((bp a (sat x.base 1 kj) [(yP c)])/\True))/\bK P GO [(yP m),(yP c),r.v] (λd=>Q d) a)) h))
 else
 Q h)
def XR (P:Program) (p:Option Addr) (Q:(Sl->(Hp->Prop))) (h:Hp):Prop:=
 ag none p λf=>dy h f 0 λx=>dC (α1:=Sl) (α2:=Int) (λc out a b=>(if decide (a<(x.len:Int)) then
 ((bB x.base x.len a)/\aN none aj b (sat x.base 1 a) λi=>aa P zzy [(yP i)] ak (λr d=>fR 2 16 [(yI 0),(yI 0)] ⟨out.base,out.len,out.cap⟩ r (λg e=>c g (yw (a+1)) e) d) b)
 else
 Q ⟨out.base,out.len,out.cap⟩ b)) ⟨none,0,0⟩ 0 h
def Pt (P:Program) (m:Option Addr) (p:Option Addr) (e:Int) (Q:(Hp->Prop)) (h:Hp):Prop:=
 ag none p λc=>aN none eT h (Addr.add c 4) λx=>ag none p λd=>dy h d 2 λf=>aa P J6 [x.v,f.v,(yI e)] eT (λr a=>bK P GO [(yP m),(yP p),r.v] (λb=>Q b) a) h
def zfe (P:Program) (s1:Sl) (s2:Sl) (eq:mM) (Q:(Bool->(Hp->Prop))) (h:Hp):Prop:=
 (if ((s1.len:Int) !=(s2.len:Int))=true then
 Q false h
 else
 aA (α1:=Int) (λd a b=>(if decide (a<(s1.len:Int)) then
 ((bB s1.base s1.len a)/\aN none yH b (sat s1.base 1 a) λx=>((bB s2.base s2.len a)/\aN none yH b (sat s2.base 1 a) λe=>dM P tb (.func (.func eq.g) eq.first eq.captured) [(yI x),(yI e)] aQ (λr c=>(if (!r)=true then
 Q false c
 else
 d (yw (a+1)) c)) b))
 else
 Q true b)) 0 h)
def zbl (P:Program) (s1:Sl) (s2:Sl) (eq:mM) (Q:(Bool->(Hp->Prop))) (h:Hp):Prop:=
 (if ((s1.len:Int) !=(s2.len:Int))=true then
 Q false h
 else
 aA (α1:=Int) (λd a b=>(if decide (a<(s1.len:Int)) then
 ((bB s1.base s1.len a)/\aN none cR b (sat s1.base 3 a) λx=>((bB s2.base s2.len a)/\aN none cR b (sat s2.base 3 a) λe=>dM P tb (.func (.func eq.g) eq.first eq.captured) [x.v,e.v] aQ (λr c=>(if (!r)=true then
 Q false c
 else
 d (yw (a+1)) c)) b))
 else
 Q true b)) 0 h)
def zeu (P:Program) (s1:Sl) (s2:Sl) (eq:mM) (Q:(Bool->(Hp->Prop))) (h:Hp):Prop:=
 (if ((s1.len:Int) !=(s2.len:Int))=true then
 Q false h
 else
 aA (α1:=Int) (λd a b=>(if decide (a<(s1.len:Int)) then
 ((bB s1.base s1.len a)/\aN none ak b (sat s1.base 1 a) λx=>((bB s2.base s2.len a)/\aN none ak b (sat s2.base 1 a) λe=>dM P tb (.func (.func eq.g) eq.first eq.captured) [x.v,e.v] aQ (λr c=>(if (!r)=true then
 Q false c
 else
 d (yw (a+1)) c)) b))
 else
 Q true b)) 0 h)
def zbz (P:Program) (s1:Sl) (s2:Sl) (eq:mM) (Q:(Bool->(Hp->Prop))) (h:Hp):Prop:=
 (if ((s1.len:Int) !=(s2.len:Int))=true then
 Q false h
 else
 aA (α1:=Int) (λd a b=>(if decide (a<(s1.len:Int)) then
 ((bB s1.base s1.len a)/\aN none bd b (sat s1.base 4 a) λx=>((bB s2.base s2.len a)/\aN none bd b (sat s2.base 4 a) λe=>dM P tb (.func (.func eq.g) eq.first eq.captured) [x.v,e.v] aQ (λr c=>(if (!r)=true then
 Q false c
 else
 d (yw (a+1)) c)) b))
 else
 Q true b)) 0 h)
def U1 (P:Program) (a:Sl) (b:Sl) (c:mM) (Q:(Bool->(Hp->Prop))) (h:Hp):Prop:=
 aa P zdf [a.v,b.v,(.func (.func c.g) c.first c.captured)] aQ (λr d=>Q r d) h
def ztd (P:Program) (x:Int) (y:Int) (Q:(Bool->(Hp->Prop))) (h:Hp):Prop:=
 Q (x==y) h
def Q6 (P:Program) (a:Sl) (b:Sl) (c:mM) (Q:(Bool->(Hp->Prop))) (h:Hp):Prop:=
 aa P zaz [a.v,b.v,(.func (.func c.g) c.first c.captured)] aQ (λr d=>Q r d) h
def zmr (P:Program) (x:bf) (y:bf) (Q:(Bool->(Hp->Prop))) (h:Hp):Prop:=
 fK none P (cE .eql 191 (.tmp 5) (.tmp 6) x.v y.v) aQ h λa=>Q a h
def L4 (P:Program) (w:Option Addr) (k:Int) (Q:(Sl->(Hp->Prop))) (h:Hp):Prop:=
 aA (α1:=Sl) (λf out b=>ag none w λp=>dy b p 0 λx=>ag (some (decide ((x.len:Int)>0))) w λl=>aN (some (decide ((x.len:Int)>0))) ak b (Addr.add l 0) λc=>(((decide ((x.len:Int)>0))=true->(bB c.base c.len 0))/\aN (some (decide ((x.len:Int)>0))) yH b (Addr.add (sat c.base 2 0) 0) λn=>aF ((decide ((x.len:Int)>0))&&(decide (n<=k))) λy=>(if y then
 ag none w λm=>dy b m 0 λd=>((bB d.base d.len 0)/\aN none yH b (Addr.add (sat d.base 2 0) 1) λe=>bD [(yI e)] (λa g=>fR 1 8 [(yI 0)] out ⟨(some a),1,1⟩ (λr i=>aa P Ca [(yP w),(yI e)] aQ (λo j=>f r j) i) g) b)
 else
 Q out b))) ⟨none,0,0⟩ h
def Q8 (P:Program) (m:Option Addr) (p:Option Addr) (c:bc) (Q:(Hp->Prop)) (h:Hp):Prop:=
 ag none p λd=>cD h (Addr.add d 3) [(yI 0)] (λa=>((True/\True)/\ag none p λe=>cD a (Addr.add e 4) [(yI c.PC),(yI c.bV),(yI c.bW),(yI c.bX),(yI c.bY),(yI c.bZ),(yI c.b9),(yI c.cc),(yI c.cd)] (λb=>Q b)))
def CP (P:Program) (c:bc) (Q:(bc->(Hp->Prop))) (h:Hp):Prop:=
 Q ⟨(yw (c.PC+1)),c.bV,c.bW,c.bX,c.bY,c.bZ,c.b9,c.cc,c.cd⟩ h
def CQ (P:Program) (c:bc) (l:Sl) (tick:Int) (H:Int) (Q:(bc->(eO->(Hp->Prop)))) (h:Hp):Prop:=
 bD [(yI c.PC),(yI c.bV),(yI c.bW),(yI c.bX),(yI c.bY),(yI c.bZ),(yI c.b9),(yI c.cc),(yI c.cd)] (λa o=>aN none eT o a λx=>bI P vq [x.v,l.v] bJ aQ (λr q w=>cG (some (!(!q))) (aa P zzu [r.v,(yI (l.len:Int)),(yI 8)] yH) (λr2 j=>aF ((!q) || (r2 !=0)) λy=>(if y then
 aN none eT j a λn=>Q n ⟨1,0,0⟩ j
 else
 aN none vZ j (Addr.add a 1) λn=>kS P Cm [r.v,n.v] Dc aQ aQ (λs D E e=>(if E then
 (if D then
 aN none eT e a λb=>((True/\True)/\Q b s e)
 else
 aN none eT e a λb=>aa P v8 [b.v] eT (λi d=>((True/\True)/\((True/\True)/\Q i s d))) e)
 else
 aN none vZ e (Addr.add a 1) λb=>ia (α1:=bc) (α2:=eO) (λk=>(if (r.Op==1)=true then
 bK P vg [(yP (some a)),(yI r.A),(yI r.iW)] (λd=>k ⟨0,0,0,0,0,0,0,0,0⟩ ⟨0,0,0⟩ d) e
 else
 (if (r.Op==2)=true then
 ((0<=r.B/\r.B<8)/\∃f:Int,((List.get?Internal (α:=Value) [(yI b.a0),(yI b.a1),(yI b.a2),(yI b.a3),(yI b.a4),(yI b.a5),(yI b.a6),(yI b.a7)] (0+((Int.toNat r.B)*1)))=(some (yI f))/\bK P vg [(yP (some a)),(yI r.A),(yI f)] (λd=>k ⟨0,0,0,0,0,0,0,0,0⟩ ⟨0,0,0⟩ d) e))
 else
 (if (r.Op==32)=true then
 bK P vg [(yP (some a)),(yI r.A),(yI tick)] (λd=>k ⟨0,0,0,0,0,0,0,0,0⟩ ⟨0,0,0⟩ d) e
 else
 (if (r.Op==33)=true then
 bK P vg [(yP (some a)),(yI r.A),(yI H)] (λd=>k ⟨0,0,0,0,0,0,0,0,0⟩ ⟨0,0,0⟩ d) e
 else
 (if (r.Op==22)=true then
 cD e (Addr.add a 0) [(yI r.iW)] (λd=>aN none eT d a λf=>Q f ⟨0,0,0⟩ d)
 else
 (if (r.Op==23)=true then
 ((0<=r.A/\r.A<8)/\∃f:Int,((List.get?Internal (α:=Value) [(yI b.a0),(yI b.a1),(yI b.a2),(yI b.a3),(yI b.a4),(yI b.a5),(yI b.a6),(yI b.a7)] (0+((Int.toNat r.A)*1)))=(some (yI f))/\(if (f==0)=true then
 k ⟨0,0,0,0,0,0,0,0,0⟩ ⟨0,0,0⟩ e
 else
 cD e (Addr.add a 0) [(yI r.iW)] (λd=>aN none eT d a λm=>Q m ⟨0,0,0⟩ d))))
 else
 ((0<=r.B/\r.B<8)/\∃f:Int,((List.get?Internal (α:=Value) [(yI b.a0),(yI b.a1),(yI b.a2),(yI b.a3),(yI b.a4),(yI b.a5),(yI b.a6),(yI b.a7)] (0+((Int.toNat r.B)*1)))=(some (yI f))/\((0<=r.C/\r.C<8)/\∃m:Int,((List.get?Internal (α:=Value) [(yI b.a0),(yI b.a1),(yI b.a2),(yI b.a3),(yI b.a4),(yI b.a5),(yI b.a6),(yI b.a7)] (0+((Int.toNat r.C)*1)))=(some (yI m))/\bI P D5 [(yI r.Op),(yI f),(yI m)] yH yH (λi F d=>eZ (α1:=Int) (λp=>(if (F !=0)=true then
 ((0<=r.B/\r.B<8)/\∃t:Int,((List.get?Internal (α:=Value) [(yI b.a0),(yI b.a1),(yI b.a2),(yI b.a3),(yI b.a4),(yI b.a5),(yI b.a6),(yI b.a7)] (0+((Int.toNat r.B)*1)))=(some (yI t))/\((0<=r.C/\r.C<8)/\∃u:Int,((List.get?Internal (α:=Value) [(yI b.a0),(yI b.a1),(yI b.a2),(yI b.a3),(yI b.a4),(yI b.a5),(yI b.a6),(yI b.a7)] (0+((Int.toNat r.C)*1)))=(some (yI u))/\bI P D6 [(yI r.Op),(yI t),(yI u)] yH yH (λG I g=>p G g) d))))
 else
 p i d))
 (λv g=>bK P vg [(yP (some a)),(yI r.A),(yI v)] (λz=>k ⟨0,0,0,0,0,0,0,0,0⟩ ⟨0,0,0⟩ z) g)) e)))))))))))
 (λJ K d=>aN none eT d a λf=>aa P v8 [f.v] eT (λi g=>Q i ⟨0,0,0⟩ g) d))) j)) w) o) h
def Qj (P:Program) (m:Option Addr) (p:Option Addr) (to:Int) (v:Int) (Q:(Hp->Prop)) (h:Hp):Prop:=
 ag (some (!(decide (to<0)))) m λC=>aN (some (!(decide (to<0)))) ak h (Addr.add C 11) λx=>aF ((decide (to<0)) || (decide (to>=(x.len:Int)))) λy=>(if y then
 bK P vV [(yP m),(yP p),(yI 1)] (λa=>Q a) h
 else
 ag none m λE=>dy h E 11 λz=>((bB z.base z.len to)/\aN none aj h (sat z.base 1 to) λe=>ag none m λF=>lq h F 7 λI=>ag none p λG=>fb h G 1 λJ=>ag none e λH=>fb h H 1 λK=>aa P zrd [(yP I),(yI J),(yI K)] aQ (λr a=>(if (!r)=true then
 ag none m λl=>dy a l 10 λf=>ag none p λn=>fb a n 1 λg=>((bB f.base f.len g)/\aN none aj a (sat f.base 1 g) λq=>ag none m λu=>dy a u 10 λj=>ag none p λw=>fb a w 1 λo=>((bB j.base j.len o)/\aN none aj a (sat j.base 1 o) λA=>ag none A λs=>fb a s 4 λB=>aa P Mi [(yI B)] yH (λd b=>(((bp b (Addr.add l 10) [f.v])/\((bp b (Addr.add n 1) [(yI g)])/\((bp b (sat f.base 1 g) [(yP q)])/\True)))/\ag none q λt=>cD b (Addr.add t 4) [(yI d)] (λc=>bK P vV [(yP m),(yP p),(yI 0)] (λi=>Q i) c))) a))
 else
 ag none p λl=>fb a l 1 λf=>ag none e λn=>fb a n 1 λg=>(if (f==g)=true then
 bK P Py [(yP m),(yP p),(yP e),(yI v)] (λb=>Q b) a
 else
 bU (λk=>ag none e λu=>fb a u 3 λq=>aa P Mb [(yI q)] aQ (λd b=>ag (some (!(!d))) e λw=>aN (some (!(!d))) aj b (Addr.add w 14) λj=>ag (some (!(!d))) p λs=>aN (some (!(!d))) yH b (Addr.add s 1) λo=>cG (some (!(!d))) (aa P Ma [(yP j),(yI o),(yI v)] yH) (λr2 c=>aF ((!d) || (r2 !=0)) λL=>(if L then
 ag none e λt=>lq c t 14 λA=>ag none p λD=>fb c D 1 λB=>bK P H8 [(yP A),(yI B)] (λi=>k i) c
 else
 bK P GN [(yP m),(yP e)] (λi=>k i) c)) b) a)
 (λb=>bK P vV [(yP m),(yP p),(yI 0)] (λc=>Q c) b)))) h))
def Qm (P:Program) (m:Option Addr) (p:Option Addr) (w:Bool) (Q:(Hp->Prop)) (h:Hp):Prop:=
 ag none p λo=>lq h o 14 λx=>yu P V4 [(yP x)] yH yH aC aQ yH (λr s r2 t u b=>(if (u==0)=true then
 ag none p λl=>aN none eT b (Addr.add l 4) λn=>ag none p λe=>dy b e 2 λj=>aa P w9 [n.v,j.v,(yI r),(yI s)] eT (λa c=>ag none p λg=>cD c (Addr.add g 4) [(yI a.PC),(yI a.bV),(yI a.bW),(yI a.bX),(yI a.bY),(yI a.bZ),(yI a.b9),(yI a.cc),(yI a.cd)] (λd=>(if t then
 ag none m λi=>dy d i 11 λf=>((bB f.base f.len r2.da)/\aN none aj d (sat f.base 1 r2.da) λy=>bK P vV [(yP m),(yP y),(yI 0)] (λk=>Q k) d)
 else
 Q d))) b
 else
 ag none p λl=>aN none aQ b (Addr.add l 13) λn=>(if n then
 ag none p λe=>cD b (Addr.add e 13) [(.bool false)] (λc=>ag none p λg=>aN none eT c (Addr.add g 4) λj=>ag none p λi=>dy c i 2 λf=>aa P w9 [j.v,f.v,(yI 0),(yI (-2))] eT (λa d=>ag none p λq=>cD d (Addr.add q 4) [(yI a.PC),(yI a.bV),(yI a.bW),(yI a.bX),(yI a.bY),(yI a.bZ),(yI a.b9),(yI a.cc),(yI a.cd)] (λk=>Q k)) c)
 else
 (if w then
 ag none p λe=>aN none eT b (Addr.add e 4) λj=>ag none p λg=>dy b g 2 λf=>aa P w9 [j.v,f.v,(yI 0),(yI (-1))] eT (λa c=>ag none p λi=>cD c (Addr.add i 4) [(yI a.PC),(yI a.bV),(yI a.bW),(yI a.bX),(yI a.bY),(yI a.bZ),(yI a.b9),(yI a.cc),(yI a.cd)] (λd=>Q d)) b
 else
 ag none p λe=>cD b (Addr.add e 3) [(yI 1)] (λc=>Q c))))) h
def T3 (P:Program) (l:Option Addr) (n:Int) (p:Int) (Q:(Bool->(Int->(Hp->Prop)))) (h:Hp):Prop:=
 aa P SW [(yP l),(yI n),(yI p)] yH (λr i=>(if (r !=0)=true then
 Q false r i
 else
 bI P LQ [(yP l),(yI p)] yH aQ (λy r2 c=>(if r2 then
 Q false 20 c
 else
 ag none l λq=>dy c q 0 λx=>((bB x.base x.len n)/\bU (λk=>ag none (some (sat x.base 2 n)) λe=>fb c e 0 λf=>(if (f==(-1))=true then
 ag none (some (sat x.base 2 n)) λd=>cD c (Addr.add d 0) [(yI p)] (λb=>k b)
 else
 k c))
 (λb=>ag none (some (sat x.base 2 n)) λe=>fb b e 0 λf=>(if (f !=p)=true then
 ag none (some (sat x.base 2 n)) λd=>dy b d 1 λg=>bD [(yI p)] (λa m=>fR 1 8 [(yI 0)] g ⟨(some a),1,1⟩ (λu o=>ag none (some (sat x.base 2 n)) λs=>cD o (Addr.add s 1) [u.v] (λj=>ag none (some (sat x.base 2 n)) λt=>fb j t 0 λw=>Q (w==p) 0 j)) m) b
 else
 ag none (some (sat x.base 2 n)) λd=>fb b d 0 λg=>Q (g==p) 0 b))))) i)) h
def Pu (P:Program) (s:Sl) (v:Int) (Q:(Bool->(Hp->Prop))) (h:Hp):Prop:=
 aa P QK [s.v,(yI v)] yH (λr a=>Q (decide (r>=0)) a) h
def S2 (P:Program) (l:Option Addr) (p:Int) (Q:(Sl->(Hp->Prop))) (h:Hp):Prop:=
 ag none l λi=>dy h i 0 λx=>dC (α1:=Sl) (α2:=Int) (λe out b c=>(if decide (b<(x.len:Int)) then
 eZ (α1:=Sl) (λk=>((bB x.base x.len b)/\aN none eV c (sat x.base 2 b) λj=>aF ((j.owner==p)&&(p !=(-1))) λy=>(if y then
 bD [(yI b)] (λa d=>fR 1 8 [(yI 0)] ⟨out.base,out.len,out.cap⟩ ⟨(some a),1,1⟩ (λr f=>k r f) d) c
 else
 k ⟨out.base,out.len,out.cap⟩ c)))
 (λg d=>e g (yw (b+1)) d)
 else
 Q ⟨out.base,out.len,out.cap⟩ c)) ⟨none,0,0⟩ 0 h
def T4 (P:Program) (l:Option Addr) (n:Int) (p:Int) (Q:(Int->(Int->(Hp->Prop)))) (h:Hp):Prop:=
 aa P SW [(yP l),(yI n),(yI p)] yH (λr a=>(if (r !=(0:Int))=true then
 Q (0:Int) r a
 else
 ag none l λo=>dy a o 0 λx=>((bB x.base x.len n)/\ag none (some (sat x.base 2 n)) λs=>fb a s 0 λA=>(if (A !=p)=true then
 ag none (some (sat x.base 2 n)) λe=>fb a e 0 λi=>Q i (0:Int) a
 else
 ag none (some (sat x.base 2 n)) λe=>dy a e 1 λi=>(if ((i.len:Int)==(0:Int))=true then
 ag none (some (sat x.base 2 n)) λf=>cD a (Addr.add f 0) [(yI (-1:Int))] (λb=>ag none (some (sat x.base 2 n)) λg=>fb b g 0 λc=>Q c (0:Int) b)
 else
 ag none (some (sat x.base 2 n)) λf=>dy a f 1 λc=>((bB c.base c.len (0:Int))/\aN none yH a (sat c.base 1 (0:Int)) λB=>ag none (some (sat x.base 2 n)) λg=>cD a (Addr.add g 0) [(yI B)] (λb=>ag none (some (sat x.base 2 n)) λt=>dy b t 1 λm=>ag none (some (sat x.base 2 n)) λu=>dy b u 1 λj=>ag none (some (sat x.base 2 n)) λw=>dy b w 1 λd=>(((0:Int)<=(1:Int)/\((1:Int)<=(j.len:Int)/\((j.len:Int)<=(d.len:Int)/\(d.len:Int)<=(m.cap:Int))))/\aF (α:=Sl) ⟨(aX m.base 1 1 (Int.toNat (d.len:Int))),((Int.toNat (j.len:Int))-1),((Int.toNat (d.len:Int))-1)⟩ λy=>ag none (some (sat x.base 2 n)) λz=>cD b (Addr.add z 1) [y.v] (λk=>ag none (some (sat x.base 2 n)) λq=>fb k q 0 λC=>Q C (0:Int) k))))))))) h
def YJ (P:Program) (n:Int) (Q:(Int->(Hp->Prop))) (h:Hp):Prop:=
 Q (iF (yw (n+1)) 65535) h
def SE (P:Program) (a:Int) (n:Int) (Q:(Bool->(Hp->Prop))) (h:Hp):Prop:=
 aF ((decide (n>=0))&&(decide (n<=63))) λy=>((y=true->0<=n)/\aF (y&&((dZ .and .u64 (gW .u64 a n) 1)==1)) λb=>Q b h)
def BO (P:Program) (x:bu) (n:Int) (an:Int) (Q:(Int->(Int->(Hp->Prop)))) (h:Hp):Prop:=
 aF ((decide (x.Op<0)) || (decide (x.Op>=34))) λy=>(if y then
 Q 9 0 h
 else
 rQ P ZT [(yI x.Op)] aQ aQ aQ aQ (λr j r2 k g=>aa P Mc [(.bool r),(yI x.A)] yH (λd a=>(if (d !=0)=true then
 Q d 1 a
 else
 aa P Mc [(.bool j),(yI x.B)] yH (λe b=>(if (e !=0)=true then
 Q e 2 b
 else
 aa P Mc [(.bool r2),(yI x.C)] yH (λf c=>(if (f !=0)=true then
 Q f 3 c
 else
 aa P H2 [x.v,(.bool k),(yI n),(yI an)] yH (λl i=>Q l 4 i) c)) b)) a)) g) h)
def Z2 (P:Program) (op:Int) (Q:(Bool->(Bool->(Bool->(Bool->(Hp->Prop)))))) (h:Hp):Prop:=
 aa P H4 [(yI op)] pd (λr b=>bD [(.string ⟨#[]⟩)] (λa c=>cD c a [(.string r)] (λd=>dM P tb (.func (.func 215) #[] #[(yP (some a))]) [(.string ⟨#[97]⟩)] aQ (λj e=>dM P tb (.func (.func 215) #[] #[(yP (some a))]) [(.string ⟨#[98]⟩)] aQ (λr2 f=>dM P tb (.func (.func 215) #[] #[(yP (some a))]) [(.string ⟨#[99]⟩)] aQ (λk g=>dM P tb (.func (.func 215) #[] #[(yP (some a))]) [(.string ⟨#[105]⟩)] aQ (λl i=>Q j r2 k l i) g) f) e) d)) b) h
def CR (P:Program) (room:Int) (Q:(Option Addr->(Int->(Hp->Prop)))) (h:Hp):Prop:=
 aa P Mm [(yI room),(yI 1),(yI 64)] aQ (λr b=>(if (!r)=true then
 Q none 1 b
 else
 bD [(yI room),yN,yN,(yI 0),(yI 0)] (λa c=>Q (some a) 0 c) b)) h
def Mn (P:Program) (n:Int) (from_:Int) (to:Int) (Q:(Bool->(Hp->Prop))) (h:Hp):Prop:=
 aF ((decide (n>=from_))&&(decide (n<=to))) λy=>Q y h
def BP (P:Program) (l:Sl) (Q:(Bool->(Hp->Prop))) (h:Hp):Prop:=
 vn  (λr e=>aA (α1:=Int) (λd b a=>(if decide (b<(l.len:Int)) then
 ((bB l.base l.len b)/\aN none aC a (sat l.base 2 b) λx=>mO none (.int .i64) yH (yI 0) r (yI x.da) a λf ok=>rF (.int .i64) r (yI x.da) (yI (yw (f+1))) (λc=>mO none (.int .i64) yH (yI 0) r (yI x.da) c λg i=>(if decide (g>1) then
 Q true c
 else
 d (yw (b+1)) c)) a)
 else
 Q false a)) 0 e) h
def zea (P:Program) (s:Sl) (i:Int) (j:Int) (Q:(Sl->(Hp->Prop))) (h:Hp):Prop:=
 ((0<=i/\(i<=j/\(j<=(s.len:Int)/\(s.len:Int)<=(s.cap:Int))))/\aF (α:=Sl) ⟨(aX s.base 2 (Int.toNat i) (Int.toNat (s.len:Int))),((Int.toNat j)-(Int.toNat i)),((Int.toNat (s.len:Int))-(Int.toNat i))⟩ λy=>(if (i==j)=true then
 Q s h
 else
 ((0<=i/\i<=(s.cap:Int))/\aF (α:=Sl) ⟨(aX s.base 2 0 s.cap),((Int.toNat i)-0),(s.cap-0)⟩ λc=>((0<=j/\j<=(s.len:Int))/\aF (α:=Sl) ⟨(aX s.base 2 (Int.toNat j) s.cap),(s.len-(Int.toNat j)),(s.cap-(Int.toNat j))⟩ λd=>fR 2 16 [(yI 0),(yI 0)] c d (λr a=>((0<=(r.len:Int)/\((r.len:Int)<=(s.len:Int)/\(s.len:Int)<=(r.cap:Int)))/\aF (α:=Sl) ⟨(aX r.base 2 (Int.toNat (r.len:Int)) r.cap),((Int.toNat (s.len:Int))-(Int.toNat (r.len:Int))),(r.cap-(Int.toNat (r.len:Int)))⟩ λe=>lT P (Builtin.clear_ #[205] 0 #[e.v]) sQ (λb=>Q r b) a)) h))))
def BQ (P:Program) (dX:Sl) (Q:(Int->(Hp->Prop))) (h:Hp):Prop:=
 aA (α1:=Int) (λc b a=>(if decide (b<(dX.len:Int)) then
 ((bB dX.base dX.len b)/\aN none yH a (sat dX.base 1 b) λx=>(if (x !=0)=true then
 Q x a
 else
 c (yw (b+1)) a))
 else
 Q 0 a)) 0 h
def S4 (P:Program) (x:Int) (y:Int) (Q:(Int->(Hp->Prop))) (h:Hp):Prop:=
 aa P UC [(yI x)] aQ (λr c=>aa P UC [(yI y)] aQ (λb a=>(if r then
 (if b then
 Q 0 a
 else
 Q (-1) a)
 else
 (if b then
 Q 1 a
 else
 (if decide (x<y) then
 Q (-1) a
 else
 (if decide (x>y) then
 Q 1 a
 else
 Q 0 a))))) c) h
def U4 (P:Program) (x:Int) (y:Int) (Q:(Int->(Hp->Prop))) (h:Hp):Prop:=
 aa P Xn [(yI x)] aQ (λr c=>aa P Xn [(yI y)] aQ (λb a=>(if r then
 (if b then
 Q 0 a
 else
 Q (-1) a)
 else
 (if b then
 Q 1 a
 else
 (if decide (x<y) then
 Q (-1) a
 else
 (if decide (x>y) then
 Q 1 a
 else
 Q 0 a))))) c) h
def U7 (P:Program) (x:Int) (y:Int) (Q:(Int->(Int->(Hp->Prop)))) (h:Hp):Prop:=
 ((0:Int)<=(32:Int)/\((0:Int)<=(32:Int)/\((0:Int)<=(32:Int)/\((0:Int)<=(32:Int)/\((0:Int)<=(32:Int)/\Q (IntKind.wrap .u64 ((IntKind.wrap .u64 ((IntKind.wrap .u64 ((gW .u64 x (32:Int))*(gW .u64 y (32:Int))))+(gW .u64 (IntKind.wrap .u64 ((IntKind.wrap .u64 ((gW .u64 x (32:Int))*(dZ .and .u64 y (4294967295:Int))))+(gW .u64 (IntKind.wrap .u64 ((dZ .and .u64 x (4294967295:Int))*(dZ .and .u64 y (4294967295:Int)))) (32:Int)))) (32:Int))))+(gW .u64 (IntKind.wrap .u64 ((dZ .and .u64 (IntKind.wrap .u64 ((IntKind.wrap .u64 ((gW .u64 x (32:Int))*(dZ .and .u64 y (4294967295:Int))))+(gW .u64 (IntKind.wrap .u64 ((dZ .and .u64 x (4294967295:Int))*(dZ .and .u64 y (4294967295:Int)))) (32:Int)))) (4294967295:Int))+(IntKind.wrap .u64 ((dZ .and .u64 x (4294967295:Int))*(gW .u64 y (32:Int)))))) (32:Int)))) (IntKind.wrap .u64 (x*y)) h)))))
def Wk (P:Program) (l:Option Addr) (Q:(Bool->(Hp->Prop))) (h:Hp):Prop:=
 ag none l λp=>dy h p 1 λx=>ag none l λa=>fb h a 0 λb=>Q (decide ((x.len:Int)>=b)) h
def Ct (P:Program) (n:Int) (Q:(Int->(Hp->Prop))) (h:Hp):Prop:=
 Q (iF (yw (n+1)) 65535) h
def Va (P:Program) (l:Option Addr) (p:Int) (Q:(Bool->(Hp->Prop))) (h:Hp):Prop:=
 aa P UF [(yP l),(yI p)] yH (λr a=>(if decide (r<0) then
 Q false a
 else
 ag none l λd=>dy a d 2 λx=>aa P zei [x.v,(yI r),(yI (yw (r+1)))] ak (λf b=>ag none l λe=>cD b (Addr.add e 2) [f.v] (λc=>Q true c)) a)) h
def Ra (P:Program) (s:Sl) (v:Int) (Q:(Int->(Hp->Prop))) (h:Hp):Prop:=
 aA (α1:=Int) (λc a b=>(if decide (a<(s.len:Int)) then
 ((bB s.base s.len a)/\aN none yH b (sat s.base 1 a) λx=>(if (v==x)=true then
 Q a b
 else
 c (yw (a+1)) b))
 else
 Q (-1) b)) 0 h
def Qp (P:Program) (s:Sl) (i:Int) (j:Int) (Q:(Sl->(Hp->Prop))) (h:Hp):Prop:=
 ((0<=i/\(i<=j/\(j<=(s.len:Int)/\(s.len:Int)<=(s.cap:Int))))/\aF (α:=Sl) ⟨(aX s.base 1 (Int.toNat i) (Int.toNat (s.len:Int))),((Int.toNat j)-(Int.toNat i)),((Int.toNat (s.len:Int))-(Int.toNat i))⟩ λy=>(if (i==j)=true then
 Q s h
 else
 ((0<=i/\i<=(s.cap:Int))/\aF (α:=Sl) ⟨(aX s.base 1 0 s.cap),((Int.toNat i)-0),(s.cap-0)⟩ λc=>((0<=j/\j<=(s.len:Int))/\aF (α:=Sl) ⟨(aX s.base 1 (Int.toNat j) s.cap),(s.len-(Int.toNat j)),(s.cap-(Int.toNat j))⟩ λd=>fR 1 8 [(yI 0)] c d (λr a=>((0<=(r.len:Int)/\((r.len:Int)<=(s.len:Int)/\(s.len:Int)<=(r.cap:Int)))/\aF (α:=Sl) ⟨(aX r.base 1 (Int.toNat (r.len:Int)) r.cap),((Int.toNat (s.len:Int))-(Int.toNat (r.len:Int))),(r.cap-(Int.toNat (r.len:Int)))⟩ λe=>lT P (Builtin.clear_ #[23] 0 #[e.v]) sQ (λb=>Q r b) a)) h))))
def XT (P:Program) (l:Option Addr) (Q:(Sl->(Hp->Prop))) (h:Hp):Prop:=
 ag none l λp=>dy h p 2 λx=>ag none l λd=>dy h d 2 λb=>ag none l λe=>dy h e 2 λa=>((0<=(b.len:Int)/\((b.len:Int)<=(a.len:Int)/\(a.len:Int)<=(x.cap:Int)))/\aF (α:=Sl) ⟨(aX x.base 2 0 (Int.toNat (a.len:Int))),((Int.toNat (b.len:Int))-0),((Int.toNat (a.len:Int))-0)⟩ λy=>ag none l λf=>cD h (Addr.add f 2) [yN] (λc=>Q y c))
def CS (P:Program) (c:bc) (code:Sl) (g:Int) (Q:(bc->(Hp->Prop))) (h:Hp):Prop:=
 bD [(yI c.PC),(yI c.bV),(yI c.bW),(yI c.bX),(yI c.bY),(yI c.bZ),(yI c.b9),(yI c.cc),(yI c.cd)] (λa e=>bU (λk=>aN none eT e a λx=>bI P vq [x.v,code.v] bJ aQ (λr f b=>(if f then
 bK P vg [(yP (some a)),(yI r.A),(yI g)] (λd=>k d) b
 else
 k b)) e)
 (λb=>aN none eT b a λx=>aa P v8 [x.v] eT (λr d=>Q r d) b)) h
def zdg (P:Program) (s1:Sl) (s2:Sl) (eq:mM) (Q:(Bool->(Hp->Prop))) (h:Hp):Prop:=
 (if ((s1.len:Int) !=(s2.len:Int))=true then
 Q false h
 else
 aA (α1:=Int) (λd a b=>(if decide (a<(s1.len:Int)) then
 ((bB s1.base s1.len a)/\aN none yH b (sat s1.base 1 a) λx=>((bB s2.base s2.len a)/\aN none yH b (sat s2.base 1 a) λe=>dM P tb (.func (.func eq.g) eq.first eq.captured) [(yI x),(yI e)] aQ (λr c=>(if (!r)=true then
 Q false c
 else
 d (yw (a+1)) c)) b))
 else
 Q true b)) 0 h)
def zba (P:Program) (s1:Sl) (s2:Sl) (eq:mM) (Q:(Bool->(Hp->Prop))) (h:Hp):Prop:=
 (if ((s1.len:Int) !=(s2.len:Int))=true then
 Q false h
 else
 aA (α1:=Int) (λd a b=>(if decide (a<(s1.len:Int)) then
 ((bB s1.base s1.len a)/\aN none aC b (sat s1.base 2 a) λx=>((bB s2.base s2.len a)/\aN none aC b (sat s2.base 2 a) λe=>dM P tb (.func (.func eq.g) eq.first eq.captured) [x.v,e.v] aQ (λr c=>(if (!r)=true then
 Q false c
 else
 d (yw (a+1)) c)) b))
 else
 Q true b)) 0 h)
def D7 (P:Program) (c:bc) (l:Sl) (Q:(bu->(Bool->(Hp->Prop)))) (h:Hp):Prop:=
 aF ((decide (c.PC<0)) || (decide (c.PC>=(l.len:Int)))) λy=>(if y then
 Q ⟨0,0,0,0,0⟩ false h
 else
 ((bB l.base l.len c.PC)/\aN none bJ h (sat l.base 5 c.PC) λx=>Q x true h))
def Cu (P:Program) (x:bu) (r:ib) (Q:(eO->(Bool->(Bool->(Hp->Prop))))) (h:Hp):Prop:=
 (if (x.Op==0)=true then
 Q ⟨1,0,0⟩ true true h
 else
 (if (x.Op==24)=true then
 ((0<=x.B/\x.B<8)/\∃a:Int,((List.get?Internal (α:=Value) [(yI r.a0),(yI r.a1),(yI r.a2),(yI r.a3),(yI r.a4),(yI r.a5),(yI r.a6),(yI r.a7)] (0+((Int.toNat x.B)*1)))=(some (yI a))/\((0<=x.C/\x.C<8)/\∃b:Int,((List.get?Internal (α:=Value) [(yI r.a0),(yI r.a1),(yI r.a2),(yI r.a3),(yI r.a4),(yI r.a5),(yI r.a6),(yI r.a7)] (0+((Int.toNat x.C)*1)))=(some (yI b))/\Q ⟨2,a,b⟩ true true h))))
 else
 (if (x.Op==25)=true then
 Q ⟨3,0,0⟩ true true h
 else
 (if (x.Op==26)=true then
 Q ⟨4,0,0⟩ true true h
 else
 (if (x.Op==27)=true then
 ((0<=x.A/\x.A<8)/\∃a:Int,((List.get?Internal (α:=Value) [(yI r.a0),(yI r.a1),(yI r.a2),(yI r.a3),(yI r.a4),(yI r.a5),(yI r.a6),(yI r.a7)] (0+((Int.toNat x.A)*1)))=(some (yI a))/\Q ⟨5,0,a⟩ false true h))
 else
 (if (x.Op==28)=true then
 ((0<=x.A/\x.A<8)/\∃a:Int,((List.get?Internal (α:=Value) [(yI r.a0),(yI r.a1),(yI r.a2),(yI r.a3),(yI r.a4),(yI r.a5),(yI r.a6),(yI r.a7)] (0+((Int.toNat x.A)*1)))=(some (yI a))/\Q ⟨6,0,a⟩ true true h))
 else
 (if (x.Op==29)=true then
 Q ⟨7,x.iW,0⟩ true true h
 else
 (if (x.Op==30)=true then
 Q ⟨8,x.iW,0⟩ false true h
 else
 (if (x.Op==31)=true then
 ((0<=x.A/\x.A<8)/\∃a:Int,((List.get?Internal (α:=Value) [(yI r.a0),(yI r.a1),(yI r.a2),(yI r.a3),(yI r.a4),(yI r.a5),(yI r.a6),(yI r.a7)] (0+((Int.toNat x.A)*1)))=(some (yI a))/\Q ⟨9,0,a⟩ false true h))
 else
 Q ⟨0,0,0⟩ false false h)))))))))
def YL (P:Program) (c:Option Addr) (a:Int) (v:Int) (Q:(Hp->Prop)) (h:Hp):Prop:=
 aF ((decide (a>=0))&&(decide (a<8))) λy=>(if y then
 ag none c λp=>((0<=a/\a<8)/\cD h (Addr.add (Addr.add p 1) ((Int.toNat a)*1)) [(yI v)] (λb=>Q b))
 else
 Q h)
def D8 (P:Program) (op:Int) (b:Int) (c:Int) (Q:(Int->(Int->(Hp->Prop)))) (h:Hp):Prop:=
 (if (op==3)=true then
 Q (yw (b+c)) 0 h
 else
 (if (op==4)=true then
 Q (yw (b-c)) 0 h
 else
 (if (op==5)=true then
 Q (yw (b*c)) 0 h
 else
 (if (op==6)=true then
 aa P YD [(yI b),(yI c)] yH (λr a=>Q r 0 a) h
 else
 (if (op==7)=true then
 aa P YD [(yI b),(yI c)] yH (λr a=>Q (yw (b-(yw (r*c)))) 0 a) h
 else
 (if (op==8)=true then
 Q (dZ .and .i64 b c) 0 h
 else
 (if (op==9)=true then
 Q (dZ .or .i64 b c) 0 h
 else
 (if (op==10)=true then
 Q (dZ .xor .i64 b c) 0 h
 else
 (if (op==11)=true then
 aa P J7 [(yI b),(yI c)] yH (λr a=>Q r 0 a) h
 else
 (if (op==12)=true then
 aa P Jh [(yI b),(yI c)] yH (λr a=>Q r 0 a) h
 else
 (if (op==13)=true then
 aa P DF [(.bool (decide (b<c)))] yH (λr a=>Q r 0 a) h
 else
 (if (op==14)=true then
 aa P DF [(.bool (b==c))] yH (λr a=>Q r 0 a) h
 else
 Q 0 9 h))))))))))))
def D9 (P:Program) (op:Int) (b:Int) (c:Int) (Q:(Int->(Int->(Hp->Prop)))) (h:Hp):Prop:=
 aa P Cn [(yI b)] (jg .f64) (λr i=>aa P Cn [(yI c)] (jg .f64) (λg a=>(if (op==15)=true then
 jG P (cE .add 314 (.tmp 17) (.tmp 18) (.float .f64 r) (.float .f64 g)) (jg .f64) (λr2 d=>aa P EV [(.float .f64 r2)] yH (λf e=>Q f 0 e) d) a
 else
 (if (op==16)=true then
 jG P (cE .sub 314 (.tmp 23) (.tmp 24) (.float .f64 r) (.float .f64 g)) (jg .f64) (λr2 d=>aa P EV [(.float .f64 r2)] yH (λf e=>Q f 0 e) d) a
 else
 (if (op==17)=true then
 jG P (cE .mul 314 (.tmp 29) (.tmp 30) (.float .f64 r) (.float .f64 g)) (jg .f64) (λr2 d=>aa P EV [(.float .f64 r2)] yH (λf e=>Q f 0 e) d) a
 else
 (if (op==18)=true then
 jG P (cE .quo 314 (.tmp 35) (.tmp 36) (.float .f64 r) (.float .f64 g)) (jg .f64) (λr2 d=>aa P EV [(.float .f64 r2)] yH (λf e=>Q f 0 e) d) a
 else
 (if (op==19)=true then
 fK none P (cE .lss 314 (.tmp 41) (.tmp 42) (.float .f64 r) (.float .f64 g)) aQ a λx=>(if x then
 Q 1 0 a
 else
 Q 0 0 a)
 else
 (if (op==20)=true then
 fK none P (convert 2 314 (yI b)) (jg .f64) a λx=>aa P EV [(.float .f64 x)] yH (λr2 d=>Q r2 0 d) a
 else
 (if (op==21)=true then
 aa P Ji [(.float .f64 r)] yH (λr2 d=>Q r2 0 d) a
 else
 Q 0 9 a)))))))) i) h
def S7 (P:Program) (t:Option Addr) (i:Int) (j:Int) (Q:(Bool->(Hp->Prop))) (h:Hp):Prop:=
 aa P V7 [(yP t),(yI i)] aQ (λr c=>cG (some r) (aa P V7 [(yP t),(yI j)] aQ) (λf a=>aF (r&&f) λy=>ag (some y) t λp=>aN (some y) ak a (Addr.add p 0) λx=>((y=true->(bB x.base x.len i))/\aN (some y) (ab .u64) a (sat x.base 1 i) λg=>ag (some y) t λe=>aN (some y) ak a (Addr.add e 0) λb=>((y=true->(bB b.base b.len j))/\aN (some y) (ab .u64) a (sat b.base 1 j) λk=>cG (some y) (aa P ZS [(.int .u64 g),(.int .u64 k)] aQ) (λr2 d=>aF (y&&r2) λl=>Q l d) a))) c) h
def PA (P:Program) (m:Option Addr) (p:Option Addr) (q:Option Addr) (v:Int) (Q:(Hp->Prop)) (h:Hp):Prop:=
 ag none q λe=>fb h e 3 λx=>aa P Mb [(yI x)] aQ (λr b=>(if (!r)=true then
 bK P vV [(yP m),(yP p),(yI 2)] (λa=>Q a) b
 else
 ag none q λf=>lq b f 14 λo=>ag none p λg=>fb b g 1 λs=>aa P Ma [(yP o),(yI s),(yI v)] yH (λn a=>(if (n !=0)=true then
 ag none q λi=>lq a i 14 λt=>ag none p λj=>fb a j 1 λu=>ag none p λk=>fb a k 0 λw=>aa P zxs [(yP t),(yI u),(yI w),(yI v)] yH (λr2 c=>ag none p λl=>cD c (Addr.add l 3) [(yI 2)] (λd=>Q d)) a
 else
 bK P GN [(yP m),(yP q)] (λc=>bK P vV [(yP m),(yP p),(yI 0)] (λd=>Q d) c) a)) b)) h
def CT (P:Program) (c:bc) (code:Sl) (v:Int) (from_:Int) (Q:(bc->(Hp->Prop))) (h:Hp):Prop:=
 bD [(yI c.PC),(yI c.bV),(yI c.bW),(yI c.bX),(yI c.bY),(yI c.bZ),(yI c.b9),(yI c.cc),(yI c.cd)] (λa e=>bU (λk=>aN none eT e a λx=>bI P vq [x.v,code.v] bJ aQ (λr g b=>(if g then
 bK P vg [(yP (some a)),(yI r.A),(yI v)] (λd=>bK P vg [(yP (some a)),(yI r.B),(yI from_)] (λf=>k f) d) b
 else
 k b)) e)
 (λb=>aN none eT b a λx=>aa P v8 [x.v] eT (λr d=>Q r d) b)) h
def Ta (P:Program) (l:Option Addr) (n:Int) (p:Int) (Q:(Int->(Hp->Prop))) (h:Hp):Prop:=
 ag (some (!(decide (n<0)))) l λa=>aN (some (!(decide (n<0)))) ak h (Addr.add a 0) λx=>aF ((decide (n<0)) || (decide (n>=(x.len:Int)))) λy=>(if y then
 Q 2 h
 else
 (if decide (p<0) then
 Q 1 h
 else
 Q 0 h))
def XV (P:Program) (has:Bool) (n:Int) (Q:(Int->(Hp->Prop))) (h:Hp):Prop:=
 aF ((!has)&&(n !=0)) λy=>(if y then
 Q 11 h
 else
 aF ((decide (n<0)) || (decide (n>=8))) λa=>(if a then
 Q 10 h
 else
 Q 0 h))
def Z3 (P:Program) (x:bu) (has:Bool) (n:Int) (an:Int) (Q:(Int->(Hp->Prop))) (h:Hp):Prop:=
 aF ((!has)&&(x.iW !=0)) λy=>(if y then
 Q 11 h
 else
 aF ((x.Op==22) || (x.Op==23)) λb=>(if b then
 aF ((decide (x.iW<0)) || (decide (x.iW>n))) λa=>(if a then
 Q 12 h
 else
 Q 0 h)
 else
 aF ((x.Op==29) || (x.Op==30)) λa=>(if a then
 aF ((decide (x.iW<0)) || (decide (x.iW>=an))) λc=>(if c then
 Q 13 h
 else
 Q 0 h)
 else
 Q 0 h)))
def Z4 (P:Program) (op:Int) (Q:(ByteArray->(Hp->Prop))) (h:Hp):Prop:=
 aF ((decide (op<0)) || (decide (op>=34))) λy=>(if y then
 Q ⟨#[]⟩ h
 else
 ((0<=op/\op<34)/\∃x:ByteArray,((List.get?Internal (α:=Value) [(.string ⟨#[]⟩),(.string ⟨#[97,105]⟩),(.string ⟨#[97,98]⟩),(.string ⟨#[97,98,99]⟩),(.string ⟨#[97,98,99]⟩),(.string ⟨#[97,98,99]⟩),(.string ⟨#[97,98,99]⟩),(.string ⟨#[97,98,99]⟩),(.string ⟨#[97,98,99]⟩),(.string ⟨#[97,98,99]⟩),(.string ⟨#[97,98,99]⟩),(.string ⟨#[97,98,99]⟩),(.string ⟨#[97,98,99]⟩),(.string ⟨#[97,98,99]⟩),(.string ⟨#[97,98,99]⟩),(.string ⟨#[97,98,99]⟩),(.string ⟨#[97,98,99]⟩),(.string ⟨#[97,98,99]⟩),(.string ⟨#[97,98,99]⟩),(.string ⟨#[97,98,99]⟩),(.string ⟨#[97,98]⟩),(.string ⟨#[97,98]⟩),(.string ⟨#[105]⟩),(.string ⟨#[97,105]⟩),(.string ⟨#[97,98,99]⟩),(.string ⟨#[97,98]⟩),(.string ⟨#[97,98]⟩),(.string ⟨#[97]⟩),(.string ⟨#[97]⟩),(.string ⟨#[105]⟩),(.string ⟨#[105]⟩),(.string ⟨#[97]⟩),(.string ⟨#[97]⟩),(.string ⟨#[97]⟩)] ((Int.toNat op)*1))=(some (.string x))/\Q x h)))
def Gt (P:Program) (field:ByteArray) (a1:Addr) (Q:(Bool->(Hp->Prop))) (h:Hp):Prop:=
 aN none pd h a1 λx=>aa P ztc [(.string x),(.string field)] aQ (λr a=>Q r a) h
def Vd (P:Program) (x:Int) (Q:(Bool->(Hp->Prop))) (h:Hp):Prop:=
 Q (x !=x) h
def XX (P:Program) (x:Int) (Q:(Bool->(Hp->Prop))) (h:Hp):Prop:=
 Q (x !=x) h
def Vg (P:Program) (l:Option Addr) (p:Int) (Q:(Int->(Hp->Prop))) (h:Hp):Prop:=
 bD [(yI p)] (λa b=>ag none l λd=>dy b d 2 λx=>aa P zdt [x.v,(.func (.func 237) #[] #[(yP (some a))])] yH (λr c=>Q r c) b) h
def Oh (P:Program) (s:Sl) (i:Int) (j:Int) (Q:(Sl->(Hp->Prop))) (h:Hp):Prop:=
 ((0<=i/\(i<=j/\(j<=(s.len:Int)/\(s.len:Int)<=(s.cap:Int))))/\aF (α:=Sl) ⟨(aX s.base 2 (Int.toNat i) (Int.toNat (s.len:Int))),((Int.toNat j)-(Int.toNat i)),((Int.toNat (s.len:Int))-(Int.toNat i))⟩ λy=>(if (i==j)=true then
 Q s h
 else
 ((0<=i/\i<=(s.cap:Int))/\aF (α:=Sl) ⟨(aX s.base 2 0 s.cap),((Int.toNat i)-0),(s.cap-0)⟩ λc=>((0<=j/\j<=(s.len:Int))/\aF (α:=Sl) ⟨(aX s.base 2 (Int.toNat j) s.cap),(s.len-(Int.toNat j)),(s.cap-(Int.toNat j))⟩ λd=>fR 2 16 [(yI 0),(yI 0)] c d (λr a=>((0<=(r.len:Int)/\((r.len:Int)<=(s.len:Int)/\(s.len:Int)<=(r.cap:Int)))/\aF (α:=Sl) ⟨(aX r.base 2 (Int.toNat (r.len:Int)) r.cap),((Int.toNat (s.len:Int))-(Int.toNat (r.len:Int))),(r.cap-(Int.toNat (r.len:Int)))⟩ λe=>lT P (Builtin.clear_ #[185] 0 #[e.v]) sQ (λb=>Q r b) a)) h))))
def YN (P:Program) (b:Int) (c:Int) (Q:(Int->(Hp->Prop))) (h:Hp):Prop:=
 (if (c==0)=true then
 Q 0 h
 else
 (if (c==(-1))=true then
 Q (yw (0-b)) h
 else
 (c≠0/\Q (yw (Int.tdiv b c)) h)))
def J8 (P:Program) (b:Int) (c:Int) (Q:(Int->(Hp->Prop))) (h:Hp):Prop:=
 (if decide (c<0) then
 Q b h
 else
 (0<=(IntKind.wrap .u64 c)/\Q (wJ .i64 b (IntKind.wrap .u64 c)) h))
def Jj (P:Program) (b:Int) (c:Int) (Q:(Int->(Hp->Prop))) (h:Hp):Prop:=
 (if decide (c<0) then
 Q b h
 else
 (0<=(IntKind.wrap .u64 c)/\Q (gW .i64 b (IntKind.wrap .u64 c)) h))
def DH (P:Program) (a:Bool) (Q:(Int->(Hp->Prop))) (h:Hp):Prop:=
 (if a then
 Q 1 h
 else
 Q 0 h)
def Cv (P:Program) (bits:Int) (Q:(Nat->(Hp->Prop))) (h:Hp):Prop:=
 jG P (Extern.MathFloatBits.float64frombits #[(.int .u64 (IntKind.wrap .u64 bits))]) (jg .f64) (λr a=>Q r a) h
def CU (P:Program) (f:Nat) (Q:(Int->(Hp->Prop))) (h:Hp):Prop:=
 fK none P (cE .neq 314 (.tmp 3) (.tmp 4) (.float .f64 f) (.float .f64 f)) aQ h λx=>(if x then
 Q 9221120237041090560 h
 else
 jG P (Extern.MathFloatBits.float64bits #[(.float .f64 f)]) (ab .u64) (λr a=>Q (yw r) a) h)
def Cw (P:Program) (f:Nat) (Q:(Int->(Hp->Prop))) (h:Hp):Prop:=
 fK none P (cE .neq 314 (.tmp 4) (.tmp 5) (.float .f64 f) (.float .f64 f)) aQ h λx=>(if x then
 Q 0 h
 else
 fK none P (cE .geq 314 (.tmp 8) (.const (.float .f64 4890909195324358656)) (.float .f64 f) (.float .f64 4890909195324358656)) aQ h λa=>(if a then
 Q 9223372036854775807 h
 else
 fK none P (cE .lss 314 (.tmp 11) (.const (.float .f64 14114281232179134464)) (.float .f64 f) (.float .f64 14114281232179134464)) aQ h λb=>(if b then
 Q (-9223372036854775808) h
 else
 fK none P (convert 314 2 (.float .f64 f)) yH h λc=>Q c h)))
def Wn (P:Program) (t:Option Addr) (i:Int) (Q:(Bool->(Hp->Prop))) (h:Hp):Prop:=
 ag (some (decide (i>=0))) t λp=>aN (some (decide (i>=0))) ak h (Addr.add p 0) λx=>aF ((decide (i>=0))&&(decide (i<(x.len:Int)))) λy=>Q y h
def Wq (P:Program) (p:Option Addr) (lane:Int) (proc:Int) (v:Int) (Q:(Int->(Hp->Prop))) (h:Hp):Prop:=
 aa P LY [(yP p),(yI lane)] aQ (λr b=>(if (!r)=true then
 Q 2 b
 else
 aa P zuv [(yP p),(yI proc)] yH (λe a=>(if decide (e>=0) then
 Q 8 a
 else
 ag none p λd=>dy a d 0 λx=>((bB x.base x.len lane)/\aN none aj a (sat x.base 1 lane) λf=>aa P zxt [(yP f),(yI proc),(yI v)] yH (λr2 c=>Q r2 c) a))) b)) h
def zuy (P:Program) (p:Option Addr) (Q:(mM->(Hp->Prop))) (h:Hp):Prop:=
 ag none p λf=>fb h f 1 λx=>ag none p λc=>dy h c 0 λd=>bD [(yI 0)] (λa b=>(((bp b (Addr.add f 1) [(yI x)])/\((bp b (Addr.add c 0) [d.v])/\True))/\cD b a [(yI x)] (λe=>(((bp e (Addr.add c 0) [d.v])/\True)/\bD [(yI (d.len:Int))] (λa1 g=>Q ⟨242, #[], #[(yP (some a1)),(yP (some a))]⟩ g) e)))) h
def XZ (P:Program) (l:Option Addr) (Q:(Int->(Hp->Prop))) (h:Hp):Prop:=
 ag none l λp=>dy h p 1 λx=>Q (x.len:Int) h
def Wt (P:Program) (l:Option Addr) (Q:(Int->(bf->(Bool->(Int->(Hp->Prop)))))) (h:Hp):Prop:=
 ag none l λp=>dy h p 1 λx=>(if ((x.len:Int)==(0:Int))=true then
 Q (0:Int) ⟨(0:Int),(0:Int)⟩ false (21:Int) h
 else
 ag none l λB=>dy h B 1 λf=>((bB f.base f.len (0:Int))/\aN none yH h (sat f.base 1 (0:Int)) λt=>ag none l λH=>dy h H 1 λS=>ag none l λI=>dy h I 1 λc=>(((0:Int)<=(1:Int)/\(1:Int)<=(c.len:Int))/\aF (α:=Sl) ⟨(aX c.base 1 1 c.cap),(c.len-1),(c.cap-1)⟩ λy=>fI 1 S y (λr j=>ag none l λJ=>dy j J 1 λe=>(((0:Int)<=r/\r<=(e.cap:Int))/\aF (α:=Sl) ⟨(aX e.base 1 0 e.cap),((Int.toNat r)-0),(e.cap-0)⟩ λV=>ag none l λK=>cD j (Addr.add K 1) [V.v] (λk=>ag none l λL=>fb k L 3 λT=>aa P Cl [(yI T)] yH (λR w=>ag none l λM=>cD w (Addr.add M 3) [(yI R)] (λb=>ag none l λN=>dy b N 2 λU=>(if decide ((U.len:Int)>(0:Int)) then
 ag none l λO=>dy b O 2 λi=>((bB i.base i.len (0:Int))/\aN none aC b (sat i.base 2 (0:Int)) λu=>ag none l λC=>dy b C 2 λq=>ag none l λD=>dy b D 2 λg=>ag none l λE=>dy b E 2 λd=>(((0:Int)<=(1:Int)/\((1:Int)<=(g.len:Int)/\((g.len:Int)<=(d.len:Int)/\(d.len:Int)<=(q.cap:Int))))/\aF (α:=Sl) ⟨(aX q.base 2 1 (Int.toNat (d.len:Int))),((Int.toNat (g.len:Int))-1),((Int.toNat (d.len:Int))-1)⟩ λW=>ag none l λF=>cD b (Addr.add F 2) [W.v] (λm=>ag none l λo=>dy m o 1 λs=>bD [(yI u.dQ)] (λa n=>(((bp n (Addr.add o 1) [s.v])/\True)/\fR 1 8 [(yI (0:Int))] s ⟨(some a),1,1⟩ (λr2 z=>ag none l λG=>cD z (Addr.add G 1) [r2.v] (λA=>Q t u true (0:Int) A)) n)) m)))
 else
 Q t ⟨(0:Int),(0:Int)⟩ false (0:Int) b))) k))) h)))
def N9 (P:Program) (s:Sl) (f:mM) (Q:(Int->(Hp->Prop))) (h:Hp):Prop:=
 aA (α1:=Int) (λd a b=>(if decide (a<(s.len:Int)) then
 ((bB s.base s.len a)/\aN none aC b (sat s.base 2 a) λx=>dM P tb (.func (.func f.g) f.first f.captured) [x.v] aQ (λr c=>(if r then
 Q a c
 else
 d (yw (a+1)) c)) b)
 else
 Q (-1) b)) 0 h
def zry (P:Program) (w:bf) (a1:Addr) (Q:(Bool->(Hp->Prop))) (h:Hp):Prop:=
 aN none yH h a1 λx=>Q (w.da==x) h
def Vj (P:Program) (p:Option Addr) (proc:Int) (Q:(Int->(Hp->Prop))) (h:Hp):Prop:=
 ag none p λi=>dy h i 0 λx=>aA (α1:=Int) (λe a d=>(if decide (a<(x.len:Int)) then
 ((bB x.base x.len a)/\aN none aj d (sat x.base 1 a) λj=>aa P Uw [(yP j)] bd (λr g=>aA (α1:=Int) (λf c b=>(if decide (c<(r.cQ.len:Int)) then
 ((bB r.cQ.base r.cQ.len c)/\aN none aC b (sat r.cQ.base 2 c) λk=>(if (k.da==proc)=true then
 Q a b
 else
 f (yw (c+1)) b))
 else
 e (yw (a+1)) b)) 0 g) d)
 else
 Q (-1) d)) 0 h
def Ww (P:Program) (l:Option Addr) (p:Int) (v:Int) (Q:(Int->(Hp->Prop))) (h:Hp):Prop:=
 aa P V1 [(yP l)] aQ (λr c=>(if (!r)=true then
 Q 20 c
 else
 aa P UF [(yP l),(yI p)] yH (λj b=>(if decide (j>=0) then
 Q 8 b
 else
 ag none l λg=>dy b g 2 λx=>bD [(yI p),(yI v)] (λa d=>fR 2 16 [(yI 0),(yI 0)] x ⟨(some a),1,1⟩ (λr2 e=>ag none l λi=>cD e (Addr.add i 2) [r2.v] (λf=>Q 0 f)) d) b)) c)) h
end Lf
namespace Lf
open Go
def bt.s (a:bt):bt:=.sq .tt a
def cv (a n:Nat):List (Nat×List Nat):=(List.range' a n).map λi=>(i,[])
def zrz :List Nat:=[3]
def zsa :bt:=(.s (.s (.s (.s (.s (.s (.s (.s (.s (.sq (.s (.bk (.lp [⟨false,11,3⟩] [] (.s (.sq (.bk (.sq (.sq (.rg (cv 0 9)) .tt) .tt)) .tt))))) (.sq (.s (.bk (.lp [⟨false,9,27⟩,⟨false,12,3⟩] [] .tt))) (.sq (.s (.bk (.lp [⟨false,13,3⟩] [] (.s (.sq (.bk (.sq (.rg (cv 0 9)) .tt)) .tt))))) (.sq (.s (.bk (.lp [⟨false,14,3⟩] [] (.s (.sq (.bk (.sq (.rg (cv 0 9)) .tt)) .tt))))) .tt)))))))))))))
def zyc :List Nat:=[1,2]
def zyd :bt:=.tt
def zye :List Nat:=[3]
def zyf :bt:=(.s (.s (.sq (.s (.bk (.lp [⟨false,7,27⟩,⟨false,8,3⟩] [] (.s (.sq (.bj [⟨false,7,27⟩] [] (.sq (.rg (cv 0 8)) .tt)) .tt))))) .tt)))
def Z7 :List Nat:=[3,9]
def Z8 :bt:=(.s (.s (.sq (.s (.bk (.lp [⟨false,7,27⟩,⟨false,13,3⟩] [9] (.s (.s (.sq (.bj [⟨false,7,27⟩] [9] .tt) .tt)))))) .tt)))
def Z9 :List Nat:=[1,13,14]
def aaa :bt:=(.s (.s (.s (.s (.s (.jn [⟨false,8,83⟩,⟨false,9,83⟩] [] (.r2 [(0,[]),(1,[]),(2,[]),(3,[]),(5,[]),(6,[]),(7,[]),(8,[])] 4 9 (.rg ([(4,[7]),(10,[]),(9,[]),(11,[])])) (.rg ([(9,[2]),(4,[7]),(10,[]),(11,[])]))) (.s (.s (.sq (.bk (.lp [⟨false,10,4⟩] [13,14] (.bk (.s (.sq (.rg (cv 0 3++ [(4,[]),(5,[])]++cv 7 3++ [(11,[]),(12,[]),(14,[]),(15,[]),(3,[1,5,8,12]),(6,[8,12]),(10,[8,12]),(13,[]),(16,[]),(17,[])])) (.sq (.bk (.sq (.rg (cv 0 21)) .tt)) .tt)))))) (.sq (.rg (cv 0 7)) .tt))))))))))
def Qi :List Nat:=[1,4]
def Ql :bt:=(.s (.s (.sq (.s (.bk (.lp [⟨false,39,3⟩] [4] (.s (.s (.sq (.bk (.s (.sq (.rg (cv 0 19)) .tt))) .tt)))))) (.sq (.rg (cv 0 6++cv 7 6++ [(6,[8,10,12])]++cv 13 3)) .tt))))
def zwt :List Nat:=[3,4]
def zwu :bt:=.tt
def Ny :List Nat:=[3]
def Nz :bt:=(.s (.sq (.rg (cv 0 21)) .tt))
def Y7 :List Nat:=[1]
def Y9 :bt:=(.s (.s (.sq (.rg ([(0,[]),(1,[]),(2,[0])]++cv 3 3)) .tt)))
def Rk :List Nat:=[3]
def Rm :bt:=(.s (.sq (.bk (.lp [] [3] (.s (.bk (.sq (.sq (.rg (cv 0 10)) .tt) (.sq (.rg (cv 0 12)) (.s (.s (.bj [] [] (.s (.sq (.sq (.rg (cv 0 13)) .tt) (.s (.sq (.rg (cv 0 9)) (.s (.sq (.rg (cv 0 7)) .tt))))))))))))))) .tt))
def Th :List Nat:=[3,4,6,7,9,11]
def Tj :bt:=(.s (.sq (.r2 [(0,[]),(1,[]),(2,[]),(3,[]),(4,[]),(6,[]),(7,[]),(8,[]),(11,[])] 5 9 (.rg ([(5,[1,7]),(9,[1]),(10,[]),(12,[])])) (.rg ([(9,[1,3]),(5,[1,7]),(10,[]),(12,[])]))) (.sq (.s (.bk (.lp [⟨false,26,3⟩] [9] (.s (.s (.sq (.bj [] [9] (.s (.s (.sq (.rg (cv 0 4++ [(4,[1]),(5,[]),(6,[])])) .tt)))) .tt)))))) (.sq (.s (.bk (.lp [⟨false,45,3⟩] [11] (.s (.s (.sq (.bj [] [11] (.s (.s (.sq (.rg (cv 0 4++ [(4,[1]),(5,[]),(6,[])])) .tt)))) .tt)))))) .tt))))
def zwv :List Nat:=[2,3]
def zww :bt:=(.s (.s (.sq (.s (.bk (.lp [⟨false,26,3⟩,⟨true,3,63⟩] [3] (.s (.s (.sq (.bk (.s (.s (.rg (cv 0 10++cv 11 10++ [(10,[1,5,14,18]),(21,[]),(22,[1])]++cv 23 3))))) .tt)))))) (.sq (.s (.bk (.lp [⟨false,69,3⟩,⟨true,3,63⟩] [3] (.s (.s (.sq (.bk (.s (.s (.sq (.rg (cv 0 14++ [(14,[3,7,9,12])]++cv 15 6)) (.sq (.rg (cv 0 14++ [(14,[3,7,9,12])]++cv 15 6)) (.rg (cv 0 25++ [(25,[1])]++cv 26 3))))))) .tt)))))) .tt))))
def NB :List Nat:=[2,3]
def ND :bt:=.tt
def S1 :List Nat:=[]
def S3 :bt:=.tt
def aab :List Nat:=[1]
def aac :bt:=.tt
def UD :List Nat:=[2,3]
def UG :bt:=.tt
def UJ :List Nat:=[6]
def UM :bt:=(.s (.s (.sq (.s (.bk (.lp [⟨false,14,3⟩] [6] (.s (.s (.sq (.bk (.s (.sq (.rg (cv 0 6)) .tt))) .tt)))))) .tt)))
def aad :List Nat:=[6]
def aae :bt:=(.s (.s (.sq (.s (.bk (.lp [⟨false,14,3⟩] [6] (.s (.s (.sq (.bk (.s (.sq (.rg (cv 0 6)) .tt))) .tt)))))) .tt)))
def Nh :List Nat:=[3]
def Nj :bt:=(.s (.sq (.rg (cv 0 21)) .tt))
def NF :List Nat:=[3]
def NG :bt:=.tt
def Qo :List Nat:=[1,15]
def Qr :bt:=(.s (.s (.s (.s (.sq (.s (.bk (.lp [⟨false,57,3⟩] [] .tt))) (.s (.sq (.s (.bk (.lp [⟨false,80,3⟩] [15] .tt))) .tt)))))))
def Xc :List Nat:=[2,3,7,11,12]
def Xd :bt:=(.s (.sq (.rg ([(0,[]),(2,[]),(3,[]),(1,[3])]++cv 4 3)) (.s (.s (.sq (.s (.bk (.lp [⟨false,48,3⟩] [7] (.s (.s (.sq (.bk (.s (.s (.rg (cv 0 9++cv 10 5++ [(9,[4,6,11,13]),(15,[4,6,11,13]),(16,[]),(17,[4]),(18,[4])]++cv 19 4))))) .tt)))))) (.sq (.s (.bk (.lp [⟨false,86,3⟩] [11,12] (.s (.s (.sq (.bj [] [11,12] (.s (.s (.s (.sq (.rg (cv 0 21++ [(21,[4]),(22,[4])]++cv 23 4)) (.sq (.rg (cv 0 9)) (.s (.jn [] [] (.s (.sq (.rg (cv 0 5++ [(6,[]),(7,[]),(5,[3,7]),(8,[])])) .tt)) (.s (.sq (.rg (cv 0 5++ [(6,[]),(7,[]),(5,[3,7]),(8,[])])) .tt)))))))))) .tt)))))) .tt))))))
def UP :List Nat:=[1,2,3]
def US :bt:=(.s (.sq (.r2 [(0,[]),(1,[]),(2,[]),(4,[]),(5,[]),(6,[]),(9,[])] 3 7 (.rg ([(3,[5]),(7,[]),(8,[]),(10,[])])) (.rg ([(7,[1]),(3,[5]),(8,[]),(10,[])]))) (.sq (.s (.bk (.lp [⟨false,18,3⟩] [] (.s (.s (.sq (.bj [] [] (.s (.r2 [(0,[]),(1,[]),(2,[]),(3,[]),(4,[]),(5,[]),(7,[]),(8,[]),(10,[]),(11,[])] 6 12 (.r2 [(6,[1,4,8,11])] 9 12 (.r2 [(9,[1,4,11]),(13,[]),(14,[])] 12 15 (.rg ([(12,[1,4]),(15,[4])]++cv 16 3)) (.rg ([(15,[4,11]),(12,[1,4])]++cv 16 3))) (.rg ([(12,[1,4,8]),(9,[1,4,11]),(13,[]),(14,[]),(15,[4,11])]++cv 16 3))) (.rg ([(12,[1,4,8]),(6,[1,4,8,11]),(9,[1,4,11]),(13,[]),(14,[]),(15,[4,11])]++cv 16 3))))) .tt)))))) (.sq (.s (.bk (.lp [⟨false,42,3⟩] [] (.s (.s (.sq (.bk (.s (.rg (cv 0 7++ [(7,[1])]++cv 8 3)))) .tt)))))) .tt))))
def zuz :List Nat:=[]
def zva :bt:=(.s (.s (.sq (.rg (cv 0 14)) .tt)))
def zyg :List Nat:=[]
def zyh :bt:=.tt
def UW :List Nat:=[1,2]
def UZ :bt:=(.s (.sq (.rg ([(0,[]),(1,[]),(3,[]),(4,[]),(2,[4]),(6,[]),(5,[])]++cv 7 3)) (.s (.sq (.s (.bk (.lp [⟨false,20,3⟩] [] (.s (.s (.sq (.bk (.s (.rg (cv 0 4++ [(4,[1]),(5,[]),(6,[])])))) .tt)))))) .tt))))
def U2 :List Nat:=[1,2,4]
def U5 :bt:=(.s (.s (.sq (.s (.bk (.lp [⟨false,12,3⟩] [4] (.s (.s (.sq (.bk (.s (.rg (cv 0 8++ [(9,[]),(10,[]),(8,[1,4,10]),(11,[1,4]),(12,[]),(13,[]),(14,[4])]++cv 15 3)))) .tt)))))) .tt)))
def OY :List Nat:=[7]
def OZ :bt:=(.s (.s (.s (.sq (.s (.bk (.lp [⟨false,4,23⟩,⟨false,5,113⟩,⟨false,13,3⟩] [7] .tt))) .tt))))
def zlo :List Nat:=[]
def zlp :bt:=.tt
def Ro :List Nat:=[]
def Rq :bt:=(.s (.s (.sq (.s (.bk (.lp [⟨false,4,66⟩,⟨false,12,3⟩] [] .tt))) (.sq (.rg (cv 0 7)) .tt))))
def Rt :List Nat:=[6]
def Rv :bt:=.tt
def U8 :List Nat:=[]
def Vb :bt:=.tt
def Ve :List Nat:=[]
def Vh :bt:=.tt
def Oc :List Nat:=[]
def Oe :bt:=.tt
def Vk :List Nat:=[2,3]
def Vm :bt:=.tt
def zwx :List Nat:=[]
def zwy :bt:=.tt
def Vo :List Nat:=[2,3]
def Vq :bt:=.tt
def zyi :List Nat:=[]
def zyj :bt:=(.s (.sq (.rg (cv 0 10)) (.s (.s (.s (.sq (.s (.bj [] [] (.lp [⟨false,32,3⟩] [] (.s (.s (.sq (.bk (.sq (.s (.bk (.lp [⟨false,39,3⟩] [] (.s (.s (.sq (.bk (.s (.sq (.rg (cv 0 13)) (.sq (.rg (cv 0 14)) .tt)))) .tt)))))) .tt)) .tt)))))) .tt))))))
def Ry :List Nat:=[2,3]
def RA :bt:=.tt
def zqj :List Nat:=[]
def zqk :bt:=(.s (.s (.sq (.s (.bk (.lp [⟨false,13,3⟩] [] (.s (.s (.sq (.bk (.s (.sq (.rg (cv 0 9)) .tt))) .tt)))))) .tt)))
def zyk :List Nat:=[]
def zyl :bt:=(.s (.s (.sq (.s (.bk (.lp [⟨false,13,3⟩] [] (.s (.s (.sq (.bk (.s (.sq (.rg (cv 0 9)) .tt))) .tt)))))) .tt)))
def zej :List Nat:=[8,9]
def zek :bt:=(.s (.s (.sq (.s (.bk (.lp [⟨false,17,3⟩] [8,9] .tt))) .tt)))
def Nk :List Nat:=[3]
def Np :bt:=.tt
def Zb :List Nat:=[]
def Zd :bt:=.tt
def Zf :List Nat:=[]
def Zh :bt:=.tt
def NH :List Nat:=[]
def NI :bt:=.tt
def NJ :List Nat:=[]
def NK :bt:=(.s (.s (.sq (.s (.bk (.lp [⟨false,4,3⟩] [] (.s (.sq (.bk (.bk (.sq (.rg (cv 0 11)) (.s (.sq (.rg (cv 0 11)) .tt))))) .tt))))) .tt)))
def NL :List Nat:=[]
def NM :bt:=(.s (.s (.s (.sq (.rg ([(0,[]),(2,[]),(1,[2])]++cv 3 5)) .tt))))
def Zj :List Nat:=[]
def Zl :bt:=.tt
def Qt :List Nat:=[7]
def Qu :bt:=(.s (.s (.sq (.s (.bk (.lp [⟨false,22,3⟩] [7] .tt))) .tt)))
def S5 :List Nat:=[1,2,4]
def S8 :bt:=(.s (.sq (.rg ([(0,[]),(1,[]),(3,[]),(4,[]),(6,[]),(7,[]),(2,[4,7]),(9,[]),(5,[7]),(8,[])]++cv 10 5)) (.sq (.s (.bk (.lp [⟨false,20,3⟩] [4] (.s (.s (.sq (.bk (.s (.rg (cv 0 5++ [(5,[1])]++cv 6 3)))) .tt)))))) .tt)))
def NN :List Nat:=[]
def NO :bt:=(.s (.s (.s (.sq (.s (.bk (.lp [⟨false,29,3⟩] [] .tt))) .tt))))
def NP :List Nat:=[]
def NQ :bt:=(.s (.s (.s (.s (.sq (.s (.bk (.lp [⟨false,30,3⟩] [] (.s (.s (.sq (.bk (.s (.s (.s (.s (.bk (.lp [⟨false,65,3⟩] [] (.s (.s (.sq (.bk (.s (.s (.rg (cv 0 14++ [(14,[3,8,12]),(15,[3])]++cv 16 3))))) .tt)))))))))) .tt)))))) .tt)))))
def NR :List Nat:=[]
def NS :bt:=.tt
def Qv :List Nat:=[10]
def Qw :bt:=(.s (.s (.s (.sq (.s (.bk (.lp [⟨false,44,3⟩] [10] .tt))) .tt))))
def RD :List Nat:=[7]
def RG :bt:=(.s (.s (.s (.s (.sq (.rg (cv 0 11)) (.sq (.rg (cv 0 7++ [(7,[4])]++cv 8 4)) (.sq (.rg (cv 0 7)) .tt)))))))
def zwz :List Nat:=[]
def zxa :bt:=(.s (.jn [] [] .tt (.s (.jn [] [] .tt (.s (.s (.sq (.bk (.lp [⟨false,8,3⟩] [] (.s (.bk (.rg (cv 0 10)))))) .tt)))))))
def zxb :List Nat:=[]
def zxc :bt:=.tt
def Vs :List Nat:=[]
def Vu :bt:=.tt
def Tc :List Nat:=[]
def Te :bt:=.tt
def zym :List Nat:=[]
def zyn :bt:=.tt
def zyo :List Nat:=[10,12]
def zyp :bt:=(.sq (.rg (cv 0 11)) (.s (.sq (.s (.bk (.lp [⟨false,35,3⟩] [] (.s (.s (.sq (.bk (.s (.rg (cv 0 15)))) .tt)))))) (.sq (.sq (.rg (cv 0 8++ [(10,[]),(8,[]),(9,[])])) (.bk (.lp [⟨false,65,3⟩] [10] .tt))) (.sq (.rg (cv 0 8++ [(8,[3]),(9,[])])) (.sq (.rg (cv 0 8++ [(8,[3]),(9,[])])) (.s (.bk (.lp [⟨false,100,3⟩] [12] (.s (.s (.sq (.bk (.s (.rg (cv 0 10)))) .tt))))))))))))
def zyq :List Nat:=[]
def zyr :bt:=.tt
def zvb :List Nat:=[]
def zvc :bt:=.tt
def znc :List Nat:=[]
def znd :bt:=.tt
def zsk :List Nat:=[]
def zsl :bt:=.tt
def zkj :List Nat:=[]
def zkk :bt:=.tt
def RJ :List Nat:=[2]
def RN :bt:=(.s (.sq (.rg (cv 0 4++cv 5 4++cv 10 8++ [(4,[8,13,17]),(9,[13,17]),(18,[]),(19,[])])) .tt))
def zel :List Nat:=[8,9]
def zem :bt:=(.s (.s (.sq (.s (.bk (.lp [⟨false,17,3⟩] [8,9] .tt))) .tt)))
def RQ :List Nat:=[]
def RU :bt:=.tt
def Vw :List Nat:=[]
def Vy :bt:=.tt
def Tf :List Nat:=[]
def Tg :bt:=.tt
def Nr :List Nat:=[]
def Ns :bt:=.tt
def zys :List Nat:=[2,3]
def zyt :bt:=.tt
def RW :List Nat:=[]
def RY :bt:=.tt
def zcq :List Nat:=[8,9]
def zcr :bt:=(.s (.s (.sq (.s (.bk (.lp [⟨false,17,3⟩] [8,9] .tt))) .tt)))
def Of :List Nat:=[]
def Og :bt:=.tt
def VA :List Nat:=[2,3]
def VC :bt:=.tt
def O0 :List Nat:=[]
def O1 :bt:=(.s (.s (.sq (.rg (cv 0 14)) .tt)))
def Nt :List Nat:=[]
def Nw :bt:=(.sq (.rg (cv 0 8++ [(10,[]),(8,[]),(9,[])])) (.bk (.lp [⟨false,17,3⟩] [] (.s (.s (.sq (.bj [] [] .tt) .tt))))))
def zyu :List Nat:=[4,5]
def zyv :bt:=(.sq (.rg (cv 0 16++ [(20,[]),(21,[])]++cv 16 4++ [(22,[]),(23,[])])) (.s (.sq (.rg (cv 0 11)) (.s (.bk (.s (.s (.s (.s (.jn [⟨false,61,4⟩] [] .tt (.s (.s (.sq (.s (.sq (.rg (cv 0 8++ [(8,[3]),(9,[])])) (.s (.sq (.rg (cv 0 8++cv 9 8++ [(8,[3,12,14]),(17,[])])) .tt)))) (.s (.sq (.sq (.rg (cv 0 8++cv 9 9++ [(8,[3,12,14]),(18,[])])) .tt) (.s (.sq (.sq (.rg (cv 0 16)) .tt) (.s (.sq (.sq (.rg (cv 0 8++ [(9,[]),(10,[]),(8,[10]),(11,[])])) (.sq (.sq (.rg (cv 0 16)) .tt) .tt)) (.s (.sq (.sq (.rg (cv 0 11)) (.sq (.rg (cv 0 16++ [(16,[4])]++cv 17 4)) .tt)) .tt)))))))))))))))))))))
def zyw :List Nat:=[]
def zyx :bt:=(.s (.sq (.s (.bk (.lp [⟨false,5,3⟩] [] .tt))) .tt))
def aaf :List Nat:=[3]
def aag :bt:=.tt
def zsm :List Nat:=[]
def zsn :bt:=(.s (.sq (.s (.bk (.lp [⟨false,8,3⟩] [] .tt))) .tt))
def Zn :List Nat:=[]
def Zp :bt:=.tt
def zql :List Nat:=[]
def zqm :bt:=.tt
def zne :List Nat:=[]
def znf :bt:=.tt
def zpd :List Nat:=[]
def zpe :bt:=.tt
def O2 :List Nat:=[7]
def O4 :bt:=(.s (.sq (.s (.bk (.lp [⟨false,13,3⟩] [7] .tt))) .tt))
def Qx :List Nat:=[3]
def Qy :bt:=(.s (.s (.s (.s (.sq (.rg (cv 0 4++ [(5,[]),(6,[]),(4,[6])]++cv 7 7)) (.sq (.rg (cv 0 8++ [(8,[5])]++cv 9 3)) .tt))))))
def O6 :List Nat:=[5,8]
def O7 :bt:=(.s (.s (.s (.sq (.s (.bk (.lp [⟨false,25,3⟩] [8] .tt))) .tt))))
def zdj :List Nat:=[4]
def zdk :bt:=(.s (.s (.s (.sq (.bk (.lp [⟨false,9,3⟩,⟨false,10,3⟩] [] (.s (.bj [⟨false,9,3⟩,⟨false,10,3⟩] [] (.s (.sq (.rg (cv 0 8)) .tt)))))) (.sq (.rg (cv 0 16)) .tt)))))
def Zr :List Nat:=[2,3]
def Zt :bt:=(.s (.sq (.rg (cv 0 4++cv 5 4++ [(4,[6,8])]++cv 9 4)) .tt))
def zja :List Nat:=[]
def zjb :bt:=(.s (.s (.s (.s (.s (.s (.sq (.s (.sq (.s (.s (.sq (.rg (cv 0 9)) .tt))) .tt)) (.s (.sq (.s (.sq (.sq (.rg (cv 0 9)) .tt) .tt)) .tt)))))))))
def VE :List Nat:=[]
def VG :bt:=.tt
def VI :List Nat:=[]
def VK :bt:=.tt
def RZ :List Nat:=[]
def R1 :bt:=.tt
def VM :List Nat:=[]
def VO :bt:=.tt
def Ti :List Nat:=[]
def Tk :bt:=.tt
def R3 :List Nat:=[]
def R5 :bt:=(.s (.s (.sq (.s (.bk (.lp [⟨false,5,4⟩,⟨false,13,3⟩] [] (.s (.s (.sq (.bj [⟨false,5,4⟩] [] .tt) .tt)))))) .tt)))
def R7 :List Nat:=[]
def R8 :bt:=(.s (.sq (.s (.bk (.lp [⟨false,17,3⟩] [] (.s (.s (.sq (.bj [] [] (.s (.s (.s (.sq (.rg (cv 0 16++ [(16,[3])]++cv 17 3)) .tt))))) .tt)))))) (.s (.sq (.s (.bk (.lp [⟨false,7,246⟩,⟨false,56,3⟩] [] .tt))) .tt))))
def zxd :List Nat:=[]
def zxe :bt:=(.s (.sq (.rg (cv 0 18++ [(18,[4,7]),(19,[])])) .tt))
def VQ :List Nat:=[]
def VS :bt:=(.s (.s (.sq (.s (.bk (.lp [⟨false,3,185⟩,⟨false,11,3⟩] [] .tt))) .tt)))
def zto :List Nat:=[]
def ztp :bt:=(.rg (cv 0 13))
def zlq :List Nat:=[]
def zlr :bt:=(.s (.s (.sq (.s (.bk (.lp [⟨false,17,3⟩] [] .tt))) .tt)))
def zdv :List Nat:=[8,9]
def zdw :bt:=(.s (.s (.sq (.s (.bk (.lp [⟨false,17,3⟩] [8,9] .tt))) .tt)))
def zkl :List Nat:=[]
def zkm :bt:=(.s (.s (.sq (.s (.bk (.lp [⟨false,17,3⟩] [] .tt))) .tt)))
def zen :List Nat:=[8,9]
def zeo :bt:=(.s (.s (.sq (.s (.bk (.lp [⟨false,17,3⟩] [8,9] .tt))) .tt)))
def R9 :List Nat:=[]
def Sa :bt:=.tt
def PD :List Nat:=[]
def PF :bt:=.tt
def zyy :List Nat:=[]
def zyz :bt:=.tt
def zxf :List Nat:=[2,3]
def zxg :bt:=.tt
def Sb :List Nat:=[]
def Sc :bt:=(.s (.s (.sq (.bk (.lp [⟨false,5,23⟩] [] .tt)) .tt)))
def zza :List Nat:=[5]
def zzb :bt:=(.s (.rg (cv 0 5++ [(5,[2])]++cv 6 3)))
def Qz :List Nat:=[1,2]
def QA :bt:=.tt
def QB :List Nat:=[8,9,10,12,15]
def QC :bt:=(.s (.s (.s (.sq (.s (.s (.sq (.sq (.s (.sq (.sq (.rg ([(0,[]),(1,[]),(2,[1]),(3,[])])) .tt) .tt)) (.sq (.rg ([(0,[]),(2,[]),(1,[2]),(3,[2]),(4,[])])) .tt)) .tt))) (.s (.s (.sq (.s (.bj [⟨true,8,137⟩,⟨true,9,262⟩] [8,9] (.s (.s (.s (.sq (.rg (cv 0 7)) (.s (.s (.s (.s (.s (.s (.s (.s (.sq (.rg (cv 0 16)) (.jn [⟨false,16,2⟩] [] (.s (.sq (.rg (cv 0 15)) .tt)) .tt)))))))))))))))) .tt)))))))
def zxh :List Nat:=[]
def zxi :bt:=(.s (.s (.bk (.sq (.rg (cv 0 15)) (.sq (.sq (.rg (cv 0 23++ [(23,[3,7,9])]++cv 24 3)) .tt) (.sq (.rg (cv 0 10)) (.s (.jn [] [] (.sq (.rg (cv 0 19)) (.sq (.rg (cv 0 9)) .tt)) .tt))))))))
def zxj :List Nat:=[8]
def zxk :bt:=(.s (.bk (.s (.sq (.sq (.rg (cv 0 15)) (.s (.sq (.rg (cv 0 10)) .tt))) (.s (.sq (.s (.rg (cv 0 13))) (.s (.sq (.rg (cv 0 13)) .tt))))))))
def PH :List Nat:=[]
def PJ :bt:=(.s (.s (.s (.s (.jn [] [] .tt .tt)))))
def ztq :List Nat:=[]
def ztr :bt:=.tt
def O8 :List Nat:=[7]
def O9 :bt:=(.s (.s (.sq (.s (.bk (.lp [⟨false,5,23⟩,⟨false,13,3⟩] [7] (.s (.s (.sq (.bj [⟨false,5,23⟩] [7] .tt) .tt)))))) .tt)))
def PL :List Nat:=[]
def PN :bt:=(.s (.s (.s (.sq (.bk (.s (.s (.s (.s (.s (.rg (cv 0 19)))))))) .tt))))
def Xe :List Nat:=[]
def Xf :bt:=.tt
def Oi :List Nat:=[]
def Om :bt:=.tt
def aah :List Nat:=[3]
def aai :bt:=.tt
def Zv :List Nat:=[]
def Zx :bt:=.tt
def QD :List Nat:=[]
def QE :bt:=.tt
def Zy :List Nat:=[]
def Zz :bt:=.tt
def aaj :List Nat:=[5]
def aak :bt:=(.s (.s (.sq (.s (.bk (.lp [⟨false,9,3⟩] [5] .tt))) .tt)))
def zjc :List Nat:=[]
def zjd :bt:=(.s (.s (.s (.s (.sq (.rg (cv 0 8)) .tt)))))
def aam :List Nat:=[]
def aan :bt:=(.s (.s (.sq (.s (.bk (.lp [⟨false,8,3⟩] [] .tt))) .tt)))
def Pa :List Nat:=[]
def Pb :bt:=.tt
def Sd :List Nat:=[]
def Se :bt:=.tt
def Sf :List Nat:=[]
def Sh :bt:=.tt
def Tm :List Nat:=[]
def Tp :bt:=(.s (.sq (.rg (cv 0 11)) .tt))
def NT :List Nat:=[]
def NU :bt:=.tt
def Sj :List Nat:=[]
def Sm :bt:=.tt
def zzc :List Nat:=[]
def zzd :bt:=(.s (.sq (.s (.bk (.lp [⟨false,8,3⟩] [] .tt))) .tt))
def zxl :List Nat:=[]
def zxm :bt:=(.s (.s (.s (.s (.sq (.rg (cv 0 8)) .tt)))))
def VU :List Nat:=[]
def VW :bt:=(.s (.sq (.rg (cv 0 16)) .tt))
def QF :List Nat:=[6,7]
def QG :bt:=(.s (.jn [] [7] .tt .tt))
def zhi :List Nat:=[]
def zhj :bt:=(.s (.s (.sq (.s (.bk (.lp [⟨false,17,3⟩] [] .tt))) .tt)))
def zdc :List Nat:=[8,9]
def zdd :bt:=(.s (.s (.sq (.s (.bk (.lp [⟨false,17,3⟩] [8,9] .tt))) .tt)))
def Vl :List Nat:=[2,4]
def Vn :bt:=.tt
def NV :List Nat:=[2,3,4]
def NW :bt:=(.s (.sq (.s (.bk (.s (.s (.s (.sq (.sq (.rg (cv 0 12)) .tt) .tt)))))) .tt))
def Xh :List Nat:=[]
def Xi :bt:=.tt
def Vp :List Nat:=[]
def Vr :bt:=.tt
def Vt :List Nat:=[]
def Vv :bt:=.tt
def Pc :List Nat:=[]
def Pe :bt:=(.s (.sq (.rg (cv 0 26)) .tt))
def zvd :List Nat:=[]
def zve :bt:=(.bk (.s (.s (.sq (.rg (cv 0 12)) (.sq (.sq (.rg (cv 0 14)) .tt) .tt)))))
def QH :List Nat:=[8,9]
def QJ :bt:=(.s (.jn [] [9] .tt .tt))
def Pf :List Nat:=[]
def Pg :bt:=.tt
def VZ :List Nat:=[]
def V2 :bt:=.tt
def ZA :List Nat:=[4]
def ZB :bt:=.tt
def ZC :List Nat:=[]
def ZD :bt:=.tt
def V5 :List Nat:=[]
def V8 :bt:=.tt
def So :List Nat:=[]
def Sr :bt:=.tt
def Wb :List Nat:=[]
def We :bt:=.tt
def Su :List Nat:=[]
def Sv :bt:=.tt
def zkb :List Nat:=[]
def zkc :bt:=(.s (.s (.s (.s (.sq (.rg (cv 0 8)) .tt)))))
def Xk :List Nat:=[]
def Xl :bt:=.tt
def QL :List Nat:=[]
def QN :bt:=.tt
def NX :List Nat:=[]
def NY :bt:=.tt
def Tl :List Nat:=[]
def Tn :bt:=.tt
def NZ :List Nat:=[]
def N0 :bt:=.tt
def QP :List Nat:=[]
def QS :bt:=.tt
def N1 :List Nat:=[]
def N2 :bt:=.tt
def Tr :List Nat:=[]
def Ts :bt:=.tt
def Tu :List Nat:=[]
def Tw :bt:=.tt
def Sx :List Nat:=[4]
def SA :bt:=(.s (.sp 4 (.rg (cv 0 9++ [(10,[]),(9,[3,7]),(11,[7]),(12,[])])) .tt))
def Wi :List Nat:=[]
def Wl :bt:=.tt
def Tz :List Nat:=[3]
def TB :bt:=(.s (.s (.s (.sq (.rg (cv 0 11)) (.s (.s (.sq (.s (.sq (.s (.sq (.rg (cv 0 19)) (.rg (cv 0 7++ [(7,[4])]++cv 8 4)))) .tt)) (.sq (.rg (cv 0 7)) .tt))))))))
def zik :List Nat:=[]
def zil :bt:=(.s (.sq (.s (.bk (.lp [⟨false,8,3⟩] [] .tt))) .tt))
def Ph :List Nat:=[2]
def Pj :bt:=.tt
def SD :List Nat:=[8]
def SF :bt:=(.s (.sq (.s (.bk (.lp [⟨false,14,3⟩] [8] (.s (.s (.sq (.bk (.s (.s (.bk (.lp [⟨false,23,3⟩] [8] .tt))))) .tt)))))) .tt))
def TC :List Nat:=[]
def TD :bt:=.tt
end Lf
namespace Lf
open Go Go.Proofs Tryz
theorem Hj {a:Type _} {l:List a} {i:Nat} (h:l.length<=i):nth l i=none:=by rw [mg];exact List.getElem?_eq_none h
theorem cK {a e:Ty} {p:Ty->Prop} (h:some a=some e) (x:p a):p e:=Option.some.inj h▸x
theorem bH {e:Ty} {q:Prop} (h:(none:Option Ty)=some e):q:=by cases h
theorem nu {p:Nat->Ty->Prop} (b:p 0 ty0) (X:p 2 rD) (h3:p 3 tl) (h4:p 4 ty4) (h5:p 5 ty5) (h9:p 9 ty9) (Y:p 20 FQ) (b7:p 22 u6) (c2:p 23 nV) (c8:p 24 wN) (d7:p 26 BA) (e1:p 27 wO) (e5:p 28 BB) (g3:p 32 wP) (g7:p 34 FR) (g8:p 35 FT) (g9:p 36 FU) (h1:p 37 FV) (h6:p 39 FW) (h7:p 41 FX) (h8:p 43 FY) (i0:p 47 wQ) (i1:p 48 wR) (i2:p 50 BC) (i3:p 52 FZ) (i4:p 53 F0) (i5:p 58 F6) (i6:p 60 F7) (i7:p 61 F8) (i9:p 63 F9) (j0:p 65 BD) (j1:p 66 BE) (j2:p 68 Ga) (k0:p 69 Gb) (k1:p 70 Gc) (k2:p 73 Gd) (k3:p 74 Ge) (k4:p 76 Gf) (k5:p 79 Gg) (k6:p 80 Gh) (k7:p 81 Gi) (k8:p 83 Gj) (k9:p 85 Gk) (l0:p 92 Gl) (l1:p 94 Gm) (l2:p 96 Gn) (l3:p 98 Gp) (c:p 101 yZ) (d:p 111 y8) (f:p 112 qE) (g:p 113 uY) (j:p 115 y9) (k:p 118 za) (m:p 119 zb) (o:p 120 zc) (q:p 121 zd) (r:p 123 ze) (s:p 124 zf) (u:p 125 zg) (v:p 126 zh) (w:p 127 zi) (x:p 129 zj) (y:p 133 uZ) (z:p 134 zk) (A:p 135 zl) (B:p 137 zm) (C:p 138 zn) (D:p 140 zo) (E:p 142 zr) (F:p 145 zt) (G:p 147 zu) (H:p 149 zv) (I:p 151 zw) (J:p 157 zx) (K:p 163 zy) (L:p 168 zz) (M:p 170 zA) (N:p 173 zB) (O:p 184 qF) (P:p 185 pf) (Q:p 187 zC) (R:p 191 sC) (S:p 192 zD) (T:p 194 zE) (U:p 196 zF) (V:p 197 zG) (W:p 199 zH) (Z:p 200 zI) (a8:p 203 qG) (a9:p 204 zJ) (b0:p 205 sD) (b1:p 206 zK) (b2:p 208 zM) (b3:p 210 zN) (b4:p 212 zO) (b5:p 215 zP) (b6:p 219 zQ) (b8:p 223 zR) (c0:p 225 zS) (c1:p 229 zT) (c3:p 231 zU) (c4:p 232 zV) (c5:p 234 zW) (c6:p 237 zZ) (c7:p 239 Aa) (d0:p 240 Ab) (d1:p 242 Ac) (d2:p 246 Ad) (d3:p 249 Ae) (d4:p 253 Af) (d5:p 255 Ag) (d6:p 257 Ah) (d8:p 262 Ai) (d9:p 263 Aj) (e0:p 267 Ak) (e2:p 271 Al) (e3:p 274 Am) (e4:p 275 An) (e6:p 283 Ao) (e7:p 284 Ap) (e8:p 286 Aq) (e9:p 291 Ar) (f0:p 293 As) (f4:p 296 Au) (f5:p 299 Av) (f6:p 302 Aw) (f7:p 307 Ax) (f8:p 308 Ay) (f9:p 311 Az) (g0:p 314 sE) (g1:p 318 AA) (g2:p 319 AB) (g4:p 321 AD) (g5:p 323 AE) (g6:p 327 AF):∀t e,BF t=some e->p t e:=by
 intro t e h;by_cases a:t<336
 ·match t,a,h with
  | 0,_,h=>exact cK h b
  | 1,_,h=>exact bH h
  | 2,_,h=>exact cK h X
  | 3,_,h=>exact cK h h3
  | 4,_,h=>exact cK h h4
  | 5,_,h=>exact cK h h5
  | 6,_,h=>exact bH h
  | 7,_,h=>exact bH h
  | 8,_,h=>exact bH h
  | 9,_,h=>exact cK h h9
  | 10,_,h=>exact bH h
  | 11,_,h=>exact bH h
  | 12,_,h=>exact bH h
  | 13,_,h=>exact bH h
  | 14,_,h=>exact bH h
  | 15,_,h=>exact bH h
  | 16,_,h=>exact bH h
  | 17,_,h=>exact bH h
  | 18,_,h=>exact bH h
  | 19,_,h=>exact bH h
  | 20,_,h=>exact cK h Y
  | 21,_,h=>exact bH h
  | 22,_,h=>exact cK h b7
  | 23,_,h=>exact cK h c2
  | 24,_,h=>exact cK h c8
  | 25,_,h=>exact bH h
  | 26,_,h=>exact cK h d7
  | 27,_,h=>exact cK h e1
  | 28,_,h=>exact cK h e5
  | 29,_,h=>exact bH h
  | 30,_,h=>exact bH h
  | 31,_,h=>exact bH h
  | 32,_,h=>exact cK h g3
  | 33,_,h=>exact bH h
  | 34,_,h=>exact cK h g7
  | 35,_,h=>exact cK h g8
  | 36,_,h=>exact cK h g9
  | 37,_,h=>exact cK h h1
  | 38,_,h=>exact bH h
  | 39,_,h=>exact cK h h6
  | 40,_,h=>exact bH h
  | 41,_,h=>exact cK h h7
  | 42,_,h=>exact bH h
  | 43,_,h=>exact cK h h8
  | 44,_,h=>exact bH h
  | 45,_,h=>exact bH h
  | 46,_,h=>exact bH h
  | 47,_,h=>exact cK h i0
  | 48,_,h=>exact cK h i1
  | 49,_,h=>exact bH h
  | 50,_,h=>exact cK h i2
  | 51,_,h=>exact bH h
  | 52,_,h=>exact cK h i3
  | 53,_,h=>exact cK h i4
  | 54,_,h=>exact bH h
  | 55,_,h=>exact bH h
  | 56,_,h=>exact bH h
  | 57,_,h=>exact bH h
  | 58,_,h=>exact cK h i5
  | 59,_,h=>exact bH h
  | 60,_,h=>exact cK h i6
  | 61,_,h=>exact cK h i7
  | 62,_,h=>exact bH h
  | 63,_,h=>exact cK h i9
  | 64,_,h=>exact bH h
  | 65,_,h=>exact cK h j0
  | 66,_,h=>exact cK h j1
  | 67,_,h=>exact bH h
  | 68,_,h=>exact cK h j2
  | 69,_,h=>exact cK h k0
  | 70,_,h=>exact cK h k1
  | 71,_,h=>exact bH h
  | 72,_,h=>exact bH h
  | 73,_,h=>exact cK h k2
  | 74,_,h=>exact cK h k3
  | 75,_,h=>exact bH h
  | 76,_,h=>exact cK h k4
  | 77,_,h=>exact bH h
  | 78,_,h=>exact bH h
  | 79,_,h=>exact cK h k5
  | 80,_,h=>exact cK h k6
  | 81,_,h=>exact cK h k7
  | 82,_,h=>exact bH h
  | 83,_,h=>exact cK h k8
  | 84,_,h=>exact bH h
  | 85,_,h=>exact cK h k9
  | 86,_,h=>exact bH h
  | 87,_,h=>exact bH h
  | 88,_,h=>exact bH h
  | 89,_,h=>exact bH h
  | 90,_,h=>exact bH h
  | 91,_,h=>exact bH h
  | 92,_,h=>exact cK h l0
  | 93,_,h=>exact bH h
  | 94,_,h=>exact cK h l1
  | 95,_,h=>exact bH h
  | 96,_,h=>exact cK h l2
  | 97,_,h=>exact bH h
  | 98,_,h=>exact cK h l3
  | 99,_,h=>exact bH h
  | 100,_,h=>exact bH h
  | 101,_,h=>exact cK h c
  | 102,_,h=>exact bH h
  | 103,_,h=>exact bH h
  | 104,_,h=>exact bH h
  | 105,_,h=>exact bH h
  | 106,_,h=>exact bH h
  | 107,_,h=>exact bH h
  | 108,_,h=>exact bH h
  | 109,_,h=>exact bH h
  | 110,_,h=>exact bH h
  | 111,_,h=>exact cK h d
  | 112,_,h=>exact cK h f
  | 113,_,h=>exact cK h g
  | 114,_,h=>exact bH h
  | 115,_,h=>exact cK h j
  | 116,_,h=>exact bH h
  | 117,_,h=>exact bH h
  | 118,_,h=>exact cK h k
  | 119,_,h=>exact cK h m
  | 120,_,h=>exact cK h o
  | 121,_,h=>exact cK h q
  | 122,_,h=>exact bH h
  | 123,_,h=>exact cK h r
  | 124,_,h=>exact cK h s
  | 125,_,h=>exact cK h u
  | 126,_,h=>exact cK h v
  | 127,_,h=>exact cK h w
  | 128,_,h=>exact bH h
  | 129,_,h=>exact cK h x
  | 130,_,h=>exact bH h
  | 131,_,h=>exact bH h
  | 132,_,h=>exact bH h
  | 133,_,h=>exact cK h y
  | 134,_,h=>exact cK h z
  | 135,_,h=>exact cK h A
  | 136,_,h=>exact bH h
  | 137,_,h=>exact cK h B
  | 138,_,h=>exact cK h C
  | 139,_,h=>exact bH h
  | 140,_,h=>exact cK h D
  | 141,_,h=>exact bH h
  | 142,_,h=>exact cK h E
  | 143,_,h=>exact bH h
  | 144,_,h=>exact bH h
  | 145,_,h=>exact cK h F
  | 146,_,h=>exact bH h
  | 147,_,h=>exact cK h G
  | 148,_,h=>exact bH h
  | 149,_,h=>exact cK h H
  | 150,_,h=>exact bH h
  | 151,_,h=>exact cK h I
  | 152,_,h=>exact bH h
  | 153,_,h=>exact bH h
  | 154,_,h=>exact bH h
  | 155,_,h=>exact bH h
  | 156,_,h=>exact bH h
  | 157,_,h=>exact cK h J
  | 158,_,h=>exact bH h
  | 159,_,h=>exact bH h
  | 160,_,h=>exact bH h
  | 161,_,h=>exact bH h
  | 162,_,h=>exact bH h
  | 163,_,h=>exact cK h K
  | 164,_,h=>exact bH h
  | 165,_,h=>exact bH h
  | 166,_,h=>exact bH h
  | 167,_,h=>exact bH h
  | 168,_,h=>exact cK h L
  | 169,_,h=>exact bH h
  | 170,_,h=>exact cK h M
  | 171,_,h=>exact bH h
  | 172,_,h=>exact bH h
  | 173,_,h=>exact cK h N
  | 174,_,h=>exact bH h
  | 175,_,h=>exact bH h
  | 176,_,h=>exact bH h
  | 177,_,h=>exact bH h
  | 178,_,h=>exact bH h
  | 179,_,h=>exact bH h
  | 180,_,h=>exact bH h
  | 181,_,h=>exact bH h
  | 182,_,h=>exact bH h
  | 183,_,h=>exact bH h
  | 184,_,h=>exact cK h O
  | 185,_,h=>exact cK h P
  | 186,_,h=>exact bH h
  | 187,_,h=>exact cK h Q
  | 188,_,h=>exact bH h
  | 189,_,h=>exact bH h
  | 190,_,h=>exact bH h
  | 191,_,h=>exact cK h R
  | 192,_,h=>exact cK h S
  | 193,_,h=>exact bH h
  | 194,_,h=>exact cK h T
  | 195,_,h=>exact bH h
  | 196,_,h=>exact cK h U
  | 197,_,h=>exact cK h V
  | 198,_,h=>exact bH h
  | 199,_,h=>exact cK h W
  | 200,_,h=>exact cK h Z
  | 201,_,h=>exact bH h
  | 202,_,h=>exact bH h
  | 203,_,h=>exact cK h a8
  | 204,_,h=>exact cK h a9
  | 205,_,h=>exact cK h b0
  | 206,_,h=>exact cK h b1
  | 207,_,h=>exact bH h
  | 208,_,h=>exact cK h b2
  | 209,_,h=>exact bH h
  | 210,_,h=>exact cK h b3
  | 211,_,h=>exact bH h
  | 212,_,h=>exact cK h b4
  | 213,_,h=>exact bH h
  | 214,_,h=>exact bH h
  | 215,_,h=>exact cK h b5
  | 216,_,h=>exact bH h
  | 217,_,h=>exact bH h
  | 218,_,h=>exact bH h
  | 219,_,h=>exact cK h b6
  | 220,_,h=>exact bH h
  | 221,_,h=>exact bH h
  | 222,_,h=>exact bH h
  | 223,_,h=>exact cK h b8
  | 224,_,h=>exact bH h
  | 225,_,h=>exact cK h c0
  | 226,_,h=>exact bH h
  | 227,_,h=>exact bH h
  | 228,_,h=>exact bH h
  | 229,_,h=>exact cK h c1
  | 230,_,h=>exact bH h
  | 231,_,h=>exact cK h c3
  | 232,_,h=>exact cK h c4
  | 233,_,h=>exact bH h
  | 234,_,h=>exact cK h c5
  | 235,_,h=>exact bH h
  | 236,_,h=>exact bH h
  | 237,_,h=>exact cK h c6
  | 238,_,h=>exact bH h
  | 239,_,h=>exact cK h c7
  | 240,_,h=>exact cK h d0
  | 241,_,h=>exact bH h
  | 242,_,h=>exact cK h d1
  | 243,_,h=>exact bH h
  | 244,_,h=>exact bH h
  | 245,_,h=>exact bH h
  | 246,_,h=>exact cK h d2
  | 247,_,h=>exact bH h
  | 248,_,h=>exact bH h
  | 249,_,h=>exact cK h d3
  | 250,_,h=>exact bH h
  | 251,_,h=>exact bH h
  | 252,_,h=>exact bH h
  | 253,_,h=>exact cK h d4
  | 254,_,h=>exact bH h
  | 255,_,h=>exact cK h d5
  | 256,_,h=>exact bH h
  | 257,_,h=>exact cK h d6
  | 258,_,h=>exact bH h
  | 259,_,h=>exact bH h
  | 260,_,h=>exact bH h
  | 261,_,h=>exact bH h
  | 262,_,h=>exact cK h d8
  | 263,_,h=>exact cK h d9
  | 264,_,h=>exact bH h
  | 265,_,h=>exact bH h
  | 266,_,h=>exact bH h
  | 267,_,h=>exact cK h e0
  | 268,_,h=>exact bH h
  | 269,_,h=>exact bH h
  | 270,_,h=>exact bH h
  | 271,_,h=>exact cK h e2
  | 272,_,h=>exact bH h
  | 273,_,h=>exact bH h
  | 274,_,h=>exact cK h e3
  | 275,_,h=>exact cK h e4
  | 276,_,h=>exact bH h
  | 277,_,h=>exact bH h
  | 278,_,h=>exact bH h
  | 279,_,h=>exact bH h
  | 280,_,h=>exact bH h
  | 281,_,h=>exact bH h
  | 282,_,h=>exact bH h
  | 283,_,h=>exact cK h e6
  | 284,_,h=>exact cK h e7
  | 285,_,h=>exact bH h
  | 286,_,h=>exact cK h e8
  | 287,_,h=>exact bH h
  | 288,_,h=>exact bH h
  | 289,_,h=>exact bH h
  | 290,_,h=>exact bH h
  | 291,_,h=>exact cK h e9
  | 292,_,h=>exact bH h
  | 293,_,h=>exact cK h f0
  | 294,_,h=>exact bH h
  | 295,_,h=>exact bH h
  | 296,_,h=>exact cK h f4
  | 297,_,h=>exact bH h
  | 298,_,h=>exact bH h
  | 299,_,h=>exact cK h f5
  | 300,_,h=>exact bH h
  | 301,_,h=>exact bH h
  | 302,_,h=>exact cK h f6
  | 303,_,h=>exact bH h
  | 304,_,h=>exact bH h
  | 305,_,h=>exact bH h
  | 306,_,h=>exact bH h
  | 307,_,h=>exact cK h f7
  | 308,_,h=>exact cK h f8
  | 309,_,h=>exact bH h
  | 310,_,h=>exact bH h
  | 311,_,h=>exact cK h f9
  | 312,_,h=>exact bH h
  | 313,_,h=>exact bH h
  | 314,_,h=>exact cK h g0
  | 315,_,h=>exact bH h
  | 316,_,h=>exact bH h
  | 317,_,h=>exact bH h
  | 318,_,h=>exact cK h g1
  | 319,_,h=>exact cK h g2
  | 320,_,h=>exact bH h
  | 321,_,h=>exact cK h g4
  | 322,_,h=>exact bH h
  | 323,_,h=>exact cK h g5
  | 324,_,h=>exact bH h
  | 325,_,h=>exact bH h
  | 326,_,h=>exact bH h
  | 327,_,h=>exact cK h g6
  | 328,_,h=>exact bH h
  | 329,_,h=>exact bH h
  | 330,_,h=>exact bH h
  | 331,_,h=>exact bH h
  | 332,_,h=>exact bH h
  | 333,_,h=>exact bH h
  | 334,_,h=>exact bH h
  | 335,_,h=>exact bH h
  | n+336,a,_=>omega
 ·have hl:pL.length=21:=rfl;have:nth pL (t / 16)=none:=Hj (l:=pL) (i:=t / 16) (by rw [hl];omega);unfold BF at h;rw [this] at h;cases h
theorem XS (x:E2):(be x.v).length=1/\∀a,x.v≠ .agg a:=by obtain ⟨v,h⟩:=x;cases v<;>first | exact ⟨rfl,λa h=>by cases h⟩ | cases h
theorem ah :tb.Ok prog where
 aH:=nu (p:=λt e=>prog.underlying t=some e.aH) underlying0 underlying2 underlying3 underlying4 underlying5 underlying9 underlying20 underlying22 underlying23 underlying24 underlying26 underlying27 underlying28 underlying32 underlying34 underlying35 underlying36 underlying37 underlying39 underlying41 underlying43 underlying47 underlying48 underlying50 underlying52 underlying53 underlying58 underlying60 underlying61 underlying63 underlying65 underlying66 underlying68 underlying69 underlying70 underlying73 underlying74 underlying76 underlying79 underlying80 underlying81 underlying83 underlying85 underlying92 underlying94 underlying96 underlying98 underlying101 underlying111 underlying112 underlying113 underlying115 underlying118 underlying119 underlying120 underlying121 underlying123 underlying124 underlying125 underlying126 underlying127 underlying129 underlying133 underlying134 underlying135 underlying137 underlying138 underlying140 underlying142 underlying145 underlying147 underlying149 underlying151 underlying157 underlying163 underlying168 underlying170 underlying173 underlying184 underlying185 underlying187 underlying191 underlying192 underlying194 underlying196 underlying197 underlying199 underlying200 underlying203 underlying204 underlying205 underlying206 underlying208 underlying210 underlying212 underlying215 underlying219 underlying223 underlying225 underlying229 underlying231 underlying232 underlying234 underlying237 underlying239 underlying240 underlying242 underlying246 underlying249 underlying253 underlying255 underlying257 underlying262 underlying263 underlying267 underlying271 underlying274 underlying275 underlying283 underlying284 underlying286 underlying291 underlying293 underlying296 underlying299 underlying302 underlying307 underlying308 underlying311 underlying314 underlying318 underlying319 underlying321 underlying323 underlying327
 info:=nu (p:=λt e=>∃i,prog.info? t=some i/\i.size=e.size/\i.bytes=e.bytes/\i.zero=some e.zero) ⟨t0,type0,rfl,rfl,rfl⟩ ⟨t2,type2,rfl,rfl,rfl⟩ ⟨t3,type3,rfl,rfl,rfl⟩ ⟨t4,type4,rfl,rfl,rfl⟩ ⟨t5,type5,rfl,rfl,rfl⟩ ⟨t9,type9,rfl,rfl,rfl⟩ ⟨t20,type20,rfl,rfl,rfl⟩ ⟨t22,type22,rfl,rfl,rfl⟩ ⟨t23,type23,rfl,rfl,rfl⟩ ⟨t24,type24,rfl,rfl,rfl⟩ ⟨t26,type26,rfl,rfl,rfl⟩ ⟨t27,type27,rfl,rfl,rfl⟩ ⟨t28,type28,rfl,rfl,rfl⟩ ⟨t32,type32,rfl,rfl,rfl⟩ ⟨t34,type34,rfl,rfl,rfl⟩ ⟨t35,type35,rfl,rfl,rfl⟩ ⟨t36,type36,rfl,rfl,rfl⟩ ⟨t37,type37,rfl,rfl,rfl⟩ ⟨t39,type39,rfl,rfl,rfl⟩ ⟨t41,type41,rfl,rfl,rfl⟩ ⟨t43,type43,rfl,rfl,rfl⟩ ⟨t47,type47,rfl,rfl,rfl⟩ ⟨t48,type48,rfl,rfl,rfl⟩ ⟨t50,type50,rfl,rfl,rfl⟩ ⟨t52,type52,rfl,rfl,rfl⟩ ⟨t53,type53,rfl,rfl,rfl⟩ ⟨t58,type58,rfl,rfl,rfl⟩ ⟨t60,type60,rfl,rfl,rfl⟩ ⟨t61,type61,rfl,rfl,rfl⟩ ⟨t63,type63,rfl,rfl,rfl⟩ ⟨t65,type65,rfl,rfl,rfl⟩ ⟨t66,type66,rfl,rfl,rfl⟩ ⟨t68,type68,rfl,rfl,rfl⟩ ⟨t69,type69,rfl,rfl,rfl⟩ ⟨t70,type70,rfl,rfl,rfl⟩ ⟨t73,type73,rfl,rfl,rfl⟩ ⟨t74,type74,rfl,rfl,rfl⟩ ⟨t76,type76,rfl,rfl,rfl⟩ ⟨t79,type79,rfl,rfl,rfl⟩ ⟨t80,type80,rfl,rfl,rfl⟩ ⟨t81,type81,rfl,rfl,rfl⟩ ⟨t83,type83,rfl,rfl,rfl⟩ ⟨t85,type85,rfl,rfl,rfl⟩ ⟨t92,type92,rfl,rfl,rfl⟩ ⟨t94,type94,rfl,rfl,rfl⟩ ⟨t96,type96,rfl,rfl,rfl⟩ ⟨t98,type98,rfl,rfl,rfl⟩ ⟨t101,type101,rfl,rfl,rfl⟩ ⟨t111,type111,rfl,rfl,rfl⟩ ⟨t112,type112,rfl,rfl,rfl⟩ ⟨t113,type113,rfl,rfl,rfl⟩ ⟨t115,type115,rfl,rfl,rfl⟩ ⟨t118,type118,rfl,rfl,rfl⟩ ⟨t119,type119,rfl,rfl,rfl⟩ ⟨t120,type120,rfl,rfl,rfl⟩ ⟨t121,type121,rfl,rfl,rfl⟩ ⟨t123,type123,rfl,rfl,rfl⟩ ⟨t124,type124,rfl,rfl,rfl⟩ ⟨t125,type125,rfl,rfl,rfl⟩ ⟨t126,type126,rfl,rfl,rfl⟩ ⟨t127,type127,rfl,rfl,rfl⟩ ⟨t129,type129,rfl,rfl,rfl⟩ ⟨t133,type133,rfl,rfl,rfl⟩ ⟨t134,type134,rfl,rfl,rfl⟩ ⟨t135,type135,rfl,rfl,rfl⟩ ⟨t137,type137,rfl,rfl,rfl⟩ ⟨t138,type138,rfl,rfl,rfl⟩ ⟨t140,type140,rfl,rfl,rfl⟩ ⟨t142,type142,rfl,rfl,rfl⟩ ⟨t145,type145,rfl,rfl,rfl⟩ ⟨t147,type147,rfl,rfl,rfl⟩ ⟨t149,type149,rfl,rfl,rfl⟩ ⟨t151,type151,rfl,rfl,rfl⟩ ⟨t157,type157,rfl,rfl,rfl⟩ ⟨t163,type163,rfl,rfl,rfl⟩ ⟨t168,type168,rfl,rfl,rfl⟩ ⟨t170,type170,rfl,rfl,rfl⟩ ⟨t173,type173,rfl,rfl,rfl⟩ ⟨t184,type184,rfl,rfl,rfl⟩ ⟨t185,type185,rfl,rfl,rfl⟩ ⟨t187,type187,rfl,rfl,rfl⟩ ⟨t191,type191,rfl,rfl,rfl⟩ ⟨t192,type192,rfl,rfl,rfl⟩ ⟨t194,type194,rfl,rfl,rfl⟩ ⟨t196,type196,rfl,rfl,rfl⟩ ⟨t197,type197,rfl,rfl,rfl⟩ ⟨t199,type199,rfl,rfl,rfl⟩ ⟨t200,type200,rfl,rfl,rfl⟩ ⟨t203,type203,rfl,rfl,rfl⟩ ⟨t204,type204,rfl,rfl,rfl⟩ ⟨t205,type205,rfl,rfl,rfl⟩ ⟨t206,type206,rfl,rfl,rfl⟩ ⟨t208,type208,rfl,rfl,rfl⟩ ⟨t210,type210,rfl,rfl,rfl⟩ ⟨t212,type212,rfl,rfl,rfl⟩ ⟨t215,type215,rfl,rfl,rfl⟩ ⟨t219,type219,rfl,rfl,rfl⟩ ⟨t223,type223,rfl,rfl,rfl⟩ ⟨t225,type225,rfl,rfl,rfl⟩ ⟨t229,type229,rfl,rfl,rfl⟩ ⟨t231,type231,rfl,rfl,rfl⟩ ⟨t232,type232,rfl,rfl,rfl⟩ ⟨t234,type234,rfl,rfl,rfl⟩ ⟨t237,type237,rfl,rfl,rfl⟩ ⟨t239,type239,rfl,rfl,rfl⟩ ⟨t240,type240,rfl,rfl,rfl⟩ ⟨t242,type242,rfl,rfl,rfl⟩ ⟨t246,type246,rfl,rfl,rfl⟩ ⟨t249,type249,rfl,rfl,rfl⟩ ⟨t253,type253,rfl,rfl,rfl⟩ ⟨t255,type255,rfl,rfl,rfl⟩ ⟨t257,type257,rfl,rfl,rfl⟩ ⟨t262,type262,rfl,rfl,rfl⟩ ⟨t263,type263,rfl,rfl,rfl⟩ ⟨t267,type267,rfl,rfl,rfl⟩ ⟨t271,type271,rfl,rfl,rfl⟩ ⟨t274,type274,rfl,rfl,rfl⟩ ⟨t275,type275,rfl,rfl,rfl⟩ ⟨t283,type283,rfl,rfl,rfl⟩ ⟨t284,type284,rfl,rfl,rfl⟩ ⟨t286,type286,rfl,rfl,rfl⟩ ⟨t291,type291,rfl,rfl,rfl⟩ ⟨t293,type293,rfl,rfl,rfl⟩ ⟨t296,type296,rfl,rfl,rfl⟩ ⟨t299,type299,rfl,rfl,rfl⟩ ⟨t302,type302,rfl,rfl,rfl⟩ ⟨t307,type307,rfl,rfl,rfl⟩ ⟨t308,type308,rfl,rfl,rfl⟩ ⟨t311,type311,rfl,rfl,rfl⟩ ⟨t314,type314,rfl,rfl,rfl⟩ ⟨t318,type318,rfl,rfl,rfl⟩ ⟨t319,type319,rfl,rfl,rfl⟩ ⟨t321,type321,rfl,rfl,rfl⟩ ⟨t323,type323,rfl,rfl,rfl⟩ ⟨t327,type327,rfl,rfl,rfl⟩
 agg:=by apply nu (p:=λt e=>nF e.aH=true->∀x,∃cs,e.sh.enc x=.agg cs/\cs.size=e.size)<;>first | (intro h;cases h;done) | exact (λ_ x=>⟨_,rfl,rfl⟩) | exact (λ_ x=>⟨_,rfl,x.size⟩)
 leaf:=by apply nu (p:=λt e=>nF e.aH=false->e.size=1/\∀x,(be (e.sh.enc x)).length=1/\∀cs,e.sh.enc x≠ .agg cs)<;>first | (intro h;cases h;done) | (refine λ_=>⟨rfl,λx=>⟨rfl,λcs h=> ?_⟩⟩;cases h;done) | exact (λ_=>⟨rfl,XS⟩)
 xK:=by apply nu (p:=λt e=>(be e.zero).length=e.size)<;>first | exact rfl
 AJ:=by apply nu (p:=λt e=>e.aH=.int .u8->be e.zero=[.int .u8 0])<;>first | (intro h;cases h;done) | exact (λ_=>rfl)
 Nd:=by apply nu (p:=λt e=>nF e.aH=true->∃cs,e.zero=.agg cs)<;>first | (intro h;cases h;done) | exact (λ_=>⟨_,rfl⟩)
 call:=by
  intro g h;by_cases k:g<256
  ·match g,k,h with
   | 0,_,h=>exact absurd (show false=true from h) (by simp)
   | 1,_,h=>exact absurd (show false=true from h) (by simp)
   | 2,_,_=>exact call2
   | 3,_,_=>exact call3
   | 4,_,_=>exact call4
   | 5,_,_=>exact call5
   | 6,_,_=>exact call6
   | 7,_,_=>exact call7
   | 8,_,_=>exact call8
   | 9,_,_=>exact call9
   | 10,_,_=>exact call10
   | 11,_,_=>exact call11
   | 12,_,_=>exact call12
   | 13,_,_=>exact call13
   | 14,_,_=>exact call14
   | 15,_,_=>exact call15
   | 16,_,_=>exact call16
   | 17,_,_=>exact call17
   | 18,_,_=>exact call18
   | 19,_,_=>exact call19
   | 20,_,_=>exact call20
   | 21,_,_=>exact call21
   | 22,_,_=>exact call22
   | 23,_,_=>exact call23
   | 24,_,_=>exact call24
   | 25,_,_=>exact call25
   | 26,_,_=>exact call26
   | 27,_,_=>exact call27
   | 28,_,_=>exact call28
   | 29,_,_=>exact call29
   | 30,_,_=>exact call30
   | 31,_,_=>exact call31
   | 32,_,_=>exact call32
   | 33,_,_=>exact call33
   | 34,_,_=>exact call34
   | 35,_,_=>exact call35
   | 36,_,_=>exact call36
   | 37,_,_=>exact call37
   | 38,_,_=>exact call38
   | 39,_,_=>exact call39
   | 40,_,_=>exact call40
   | 41,_,_=>exact call41
   | 42,_,_=>exact call42
   | 43,_,_=>exact call43
   | 44,_,_=>exact call44
   | 45,_,_=>exact call45
   | 46,_,_=>exact call46
   | 47,_,_=>exact call47
   | 48,_,_=>exact call48
   | 49,_,_=>exact call49
   | 50,_,_=>exact call50
   | 51,_,_=>exact call51
   | 52,_,_=>exact call52
   | 53,_,_=>exact call53
   | 54,_,_=>exact call54
   | 55,_,_=>exact call55
   | 56,_,_=>exact call56
   | 57,_,_=>exact call57
   | 58,_,_=>exact call58
   | 59,_,_=>exact call59
   | 60,_,_=>exact call60
   | 61,_,_=>exact call61
   | 62,_,_=>exact call62
   | 63,_,_=>exact call63
   | 64,_,_=>exact call64
   | 65,_,_=>exact call65
   | 66,_,_=>exact call66
   | 67,_,_=>exact call67
   | 68,_,_=>exact call68
   | 69,_,_=>exact call69
   | 70,_,_=>exact call70
   | 71,_,_=>exact call71
   | 72,_,_=>exact call72
   | 73,_,_=>exact call73
   | 74,_,_=>exact call74
   | 75,_,_=>exact call75
   | 76,_,_=>exact call76
   | 77,_,_=>exact call77
   | 78,_,_=>exact call78
   | 79,_,_=>exact call79
   | 80,_,_=>exact call80
   | 81,_,_=>exact call81
   | 82,_,_=>exact call82
   | 83,_,_=>exact call83
   | 84,_,_=>exact call84
   | 85,_,_=>exact call85
   | 86,_,_=>exact call86
   | 87,_,_=>exact call87
   | 88,_,_=>exact call88
   | 89,_,_=>exact call89
   | 90,_,_=>exact call90
   | 91,_,_=>exact call91
   | 92,_,_=>exact call92
   | 93,_,_=>exact call93
   | 94,_,_=>exact call94
   | 95,_,_=>exact call95
   | 96,_,_=>exact call96
   | 97,_,_=>exact call97
   | 98,_,_=>exact call98
   | 99,_,_=>exact call99
   | 100,_,_=>exact call100
   | 101,_,_=>exact call101
   | 102,_,_=>exact call102
   | 103,_,_=>exact call103
   | 104,_,_=>exact call104
   | 105,_,_=>exact call105
   | 106,_,_=>exact call106
   | 107,_,_=>exact call107
   | 108,_,_=>exact call108
   | 109,_,_=>exact call109
   | 110,_,_=>exact call110
   | 111,_,_=>exact call111
   | 112,_,_=>exact call112
   | 113,_,_=>exact call113
   | 114,_,_=>exact call114
   | 115,_,_=>exact call115
   | 116,_,_=>exact call116
   | 117,_,_=>exact call117
   | 118,_,_=>exact call118
   | 119,_,_=>exact call119
   | 120,_,_=>exact call120
   | 121,_,_=>exact call121
   | 122,_,_=>exact call122
   | 123,_,_=>exact call123
   | 124,_,_=>exact call124
   | 125,_,_=>exact call125
   | 126,_,_=>exact call126
   | 127,_,_=>exact call127
   | 128,_,_=>exact call128
   | 129,_,_=>exact call129
   | 130,_,_=>exact call130
   | 131,_,_=>exact call131
   | 132,_,_=>exact call132
   | 133,_,_=>exact call133
   | 134,_,_=>exact call134
   | 135,_,_=>exact call135
   | 136,_,_=>exact call136
   | 137,_,_=>exact call137
   | 138,_,_=>exact call138
   | 139,_,_=>exact call139
   | 140,_,_=>exact call140
   | 141,_,_=>exact call141
   | 142,_,_=>exact call142
   | 143,_,_=>exact call143
   | 144,_,_=>exact call144
   | 145,_,_=>exact call145
   | 146,_,_=>exact call146
   | 147,_,_=>exact call147
   | 148,_,_=>exact call148
   | 149,_,_=>exact call149
   | 150,_,_=>exact call150
   | 151,_,_=>exact call151
   | 152,_,_=>exact call152
   | 153,_,_=>exact call153
   | 154,_,_=>exact call154
   | 155,_,_=>exact call155
   | 156,_,_=>exact call156
   | 157,_,_=>exact call157
   | 158,_,_=>exact call158
   | 159,_,_=>exact call159
   | 160,_,_=>exact call160
   | 161,_,_=>exact call161
   | 162,_,_=>exact call162
   | 163,_,_=>exact call163
   | 164,_,_=>exact call164
   | 165,_,_=>exact call165
   | 166,_,_=>exact call166
   | 167,_,_=>exact call167
   | 168,_,_=>exact call168
   | 169,_,_=>exact call169
   | 170,_,_=>exact call170
   | 171,_,_=>exact call171
   | 172,_,_=>exact call172
   | 173,_,_=>exact call173
   | 174,_,_=>exact call174
   | 175,_,_=>exact call175
   | 176,_,_=>exact call176
   | 177,_,_=>exact call177
   | 178,_,_=>exact call178
   | 179,_,_=>exact call179
   | 180,_,_=>exact call180
   | 181,_,_=>exact call181
   | 182,_,_=>exact call182
   | 183,_,_=>exact call183
   | 184,_,_=>exact call184
   | 185,_,_=>exact call185
   | 186,_,_=>exact call186
   | 187,_,_=>exact call187
   | 188,_,_=>exact call188
   | 189,_,h=>exact absurd (show false=true from h) (by simp)
   | 190,_,_=>exact call190
   | 191,_,_=>exact call191
   | 192,_,_=>exact call192
   | 193,_,_=>exact call193
   | 194,_,_=>exact call194
   | 195,_,_=>exact call195
   | 196,_,_=>exact call196
   | 197,_,_=>exact call197
   | 198,_,_=>exact call198
   | 199,_,_=>exact call199
   | 200,_,_=>exact call200
   | 201,_,_=>exact call201
   | 202,_,_=>exact call202
   | 203,_,_=>exact call203
   | 204,_,_=>exact call204
   | 205,_,_=>exact call205
   | 206,_,_=>exact call206
   | 207,_,_=>exact call207
   | 208,_,_=>exact call208
   | 209,_,_=>exact call209
   | 210,_,_=>exact call210
   | 211,_,_=>exact call211
   | 212,_,_=>exact call212
   | 213,_,_=>exact call213
   | 214,_,_=>exact call214
   | 215,_,_=>exact call215
   | 216,_,_=>exact call216
   | 217,_,_=>exact call217
   | 218,_,_=>exact call218
   | 219,_,_=>exact call219
   | 220,_,_=>exact call220
   | 221,_,_=>exact call221
   | 222,_,_=>exact call222
   | 223,_,_=>exact call223
   | 224,_,_=>exact call224
   | 225,_,_=>exact call225
   | 226,_,_=>exact call226
   | 227,_,_=>exact call227
   | 228,_,_=>exact call228
   | 229,_,_=>exact call229
   | 230,_,_=>exact call230
   | 231,_,_=>exact call231
   | 232,_,_=>exact call232
   | 233,_,_=>exact call233
   | 234,_,_=>exact call234
   | 235,_,_=>exact call235
   | 236,_,_=>exact call236
   | 237,_,_=>exact call237
   | 238,_,h=>exact absurd (show false=true from h) (by simp)
   | 239,_,h=>exact absurd (show false=true from h) (by simp)
   | 240,_,_=>exact call240
   | 241,_,_=>exact call241
   | 242,_,_=>exact call242
   | 243,_,_=>exact call243
   | 244,_,_=>exact call244
   | 245,_,h=>exact absurd (show false=true from h) (by simp)
   | 246,_,_=>exact call246
   | 247,_,_=>exact call247
   | 248,_,h=>exact absurd (show false=true from h) (by simp)
   | 249,_,_=>exact call249
   | 250,_,h=>exact absurd (show false=true from h) (by simp)
   | 251,_,h=>exact absurd (show false=true from h) (by simp)
   | 252,_,h=>exact absurd (show false=true from h) (by simp)
   | 253,_,h=>exact absurd (show false=true from h) (by simp)
   | 254,_,h=>exact absurd (show false=true from h) (by simp)
   | 255,_,h=>exact absurd (show false=true from h) (by simp)
   | n+256,k,_=>omega
  ·have m:pC.length=16:=rfl;have:nth pC (g / 16)=none:=Hj (l:=pC) (i:=g / 16) (by rw [m];omega);have h:Ba g=true:=h;unfold Ba at h;rw [this] at h;cases h
 ext:=by
  intro g f h args w;have h:ux g=some f:=h;unfold ux at h;cases b:Nat.beq g 189 with
  | true=>have a:g=189:=Nat.eq_of_beq_eq_true b;subst a;exact run_callFunc_extern func189 (by kernel_rfl) (by kernel_rfl) (by kernel_rfl) (show _=_ from (show _=some _ by kernel_rfl:_=some _).trans h) args w
  | false=>
  simp only [b,cond_false] at h;cases c:Nat.beq g 238 with
  | true=>have a:g=238:=Nat.eq_of_beq_eq_true c;subst a;exact run_callFunc_extern func238 (by kernel_rfl) (by kernel_rfl) (by kernel_rfl) (show _=_ from (show _=some _ by kernel_rfl:_=some _).trans h) args w
  | false=>
  simp only [c,cond_false] at h;cases d:Nat.beq g 239 with
  | true=>have a:g=239:=Nat.eq_of_beq_eq_true d;subst a;exact run_callFunc_extern func239 (by kernel_rfl) (by kernel_rfl) (by kernel_rfl) (show _=_ from (show _=some _ by kernel_rfl:_=some _).trans h) args w
  | false=>
  simp only [d,cond_false] at h;cases j:Nat.beq g 248 with
  | true=>have a:g=248:=Nat.eq_of_beq_eq_true j;subst a;exact run_callFunc_extern func248 (by kernel_rfl) (by kernel_rfl) (by kernel_rfl) (show _=_ from (show _=some _ by kernel_rfl:_=some _).trans h) args w
  | false=>
  simp only [j,cond_false] at h;cases h
 mixed:=by kernel_rfl
theorem gk {c l a Q h} (hv:Pd prog c l a Q h):aa prog zqw [(aS).enc c,(ak).enc l,(ab .u64).enc a] (aQ) Q h:=
 bN (C:=⟨prog,tb,zrz⟩) (A:=zsa) ah func3 rfl (Eq.mpr (by kernel_rfl) hv)
theorem zts {Q h} (hv:QM prog  Q h):aa prog zni [] (aQ) Q h:=
 bN (C:=⟨prog,tb,zyc⟩) (A:=zyd) ah func6 rfl (Eq.mpr (by kernel_rfl) hv)
theorem ztt {c l a Q h} (hv:QO prog c l a Q h):aa prog znj [(aS).enc c,(ak).enc l,(ab .u64).enc a] (ak) Q h:=
 bN (C:=⟨prog,tb,zye⟩) (A:=zyf) ah func7 rfl (Eq.mpr (by kernel_rfl) hv)
theorem Ih {c l a Q h} (hv:BG prog c l a Q h):aa prog EO [(aS).enc c,(ak).enc l,(ab .u64).enc a] (ak) Q h:=
 bN (C:=⟨prog,tb,Z7⟩) (A:=Z8) ah func8 rfl (Eq.mpr (by kernel_rfl) hv)
theorem Gu {t Q h} (hv:BI prog t Q h):bI prog Ms [(Mk).enc t] (aQ) yH Q h:=
 show aa prog Ms [(Mk).enc t] (bP tb [4,2]) (λr=>Q r.1 r.2) h from bN (C:=⟨prog,tb,Z9⟩) (A:=aaa) ah func13 rfl (Eq.mpr (by kernel_rfl) hv)
theorem H5 {t Q h} (hv:CK prog t Q h):aa prog CF [(Mk).enc t] (aQ) Q h:=
 bN (C:=⟨prog,tb,Qi⟩) (A:=Ql) ah func14 rfl (Eq.mpr (by kernel_rfl) hv)
theorem zso {c s a Q h} (hv:zmn prog c s a Q h):aa prog zmd [(aS).enc c,(aZ).enc s,(ab .u64).enc a] (aQ) Q h:=
 bN (C:=⟨prog,tb,zwt⟩) (A:=zwu) ah func15 rfl (Eq.mpr (by kernel_rfl) hv)
theorem YW {c p a Q h} (hv:Co prog c p a Q h):aa prog ET [(aS).enc c,yH.enc p,(ab .u64).enc a] (aQ) Q h:=
 bN (C:=⟨prog,tb,Ny⟩) (A:=Nz) ah func16 rfl (Eq.mpr (by kernel_rfl) hv)
theorem zxv {c Q h} (hv:ZU prog c Q h):bI prog Ml [(aS).enc c] (aj) yH Q h:=
 show aa prog Ml [(aS).enc c] (bP tb [69,36]) (λr=>Q r.1 r.2) h from bN (C:=⟨prog,tb,Y7⟩) (A:=Y9) ah func20 rfl (Eq.mpr (by kernel_rfl) hv)
theorem LO {s Q h} (hv:Ce prog s Q h):aa prog HY [(aj).enc s] (aQ) Q h:=
 bN (C:=⟨prog,tb,Rk⟩) (A:=Rm) ah func24 rfl (Eq.mpr (by kernel_rfl) hv)
theorem Iy {c s a Q h} (hv:DG prog c s a Q h):aa prog DU [(aS).enc c,(nW).enc s,(ab .u64).enc a] (nW) Q h:=
 bN (C:=⟨prog,tb,Th⟩) (A:=Tj) ah func25 rfl (Eq.mpr (by kernel_rfl) hv)
theorem zju {m Q h} (hv:GA prog m Q h):aa prog BZ [(aj).enc m] (nW) Q h:=
 bN (C:=⟨prog,tb,zwv⟩) (A:=zww) ah func26 rfl (Eq.mpr (by kernel_rfl) hv)
theorem Xm {a b Q h} (hv:Cp prog a b Q h):aa prog Mz [(nW).enc a,(nW).enc b] (aQ) Q h:=
 bN (C:=⟨prog,tb,NB⟩) (A:=ND) ah func27 rfl (Eq.mpr (by kernel_rfl) hv)
theorem zsb {s Q h} (hv:L5 prog s Q h):bK prog AI [(aj).enc s] (Q) h:=
 show aa prog AI [(aj).enc s] (bP tb []) (λ_=>Q) h from bN (C:=⟨prog,tb,S1⟩) (A:=S3) ah func28 rfl (Eq.mpr (by kernel_rfl) hv)
theorem Gv {c Q h} (hv:BK prog c Q h):aa prog zzq [(aS).enc c] (aQ) Q h:=
 bN (C:=⟨prog,tb,aab⟩) (A:=aac) ah func29 rfl (Eq.mpr (by kernel_rfl) hv)
theorem PS {a b Q h} (hv:Xp prog a b Q h):aa prog zzr [(aS).enc a,(aS).enc b] (aQ) Q h:=
 bN (C:=⟨prog,tb,UD⟩) (A:=UG) ah func30 rfl (Eq.mpr (by kernel_rfl) hv)
theorem PU {a b Q h} (hv:Xr prog a b Q h):aa prog zzs [(ak).enc a,(ak).enc b] (aQ) Q h:=
 bN (C:=⟨prog,tb,UJ⟩) (A:=UM) ah func31 rfl (Eq.mpr (by kernel_rfl) hv)
theorem Wo {a b Q h} (hv:BL prog a b Q h):aa prog Iv [(ak).enc a,(ak).enc b] (aQ) Q h:=
 bN (C:=⟨prog,tb,aad⟩) (A:=aae) ah func32 rfl (Eq.mpr (by kernel_rfl) hv)
theorem zvf {c p a Q h} (hv:RF prog c p a Q h):aa prog zpa [(aS).enc c,yH.enc p,(ab .u64).enc a] (aQ) Q h:=
 bN (C:=⟨prog,tb,Nh⟩) (A:=Nj) ah func33 rfl (Eq.mpr (by kernel_rfl) hv)
theorem GD {c i a Q h} (hv:Cq prog c i a Q h):aa prog Jy [(aS).enc c,yH.enc i,(ab .u64).enc a] (aQ) Q h:=
 bN (C:=⟨prog,tb,NF⟩) (A:=NG) ah func34 rfl (Eq.mpr (by kernel_rfl) hv)
theorem H6 {c Q h} (hv:CL prog c Q h):bI prog wZ [(aS).enc c] yH yH Q h:=
 show aa prog wZ [(aS).enc c] (bP tb [36,3]) (λr=>Q r.1 r.2) h from bN (C:=⟨prog,tb,Qo⟩) (A:=Qr) ah func44 rfl (Eq.mpr (by kernel_rfl) hv)
theorem SH {c s Q h} (hv:YG prog c s Q h):aa prog GC [(aS).enc c,(nW).enc s] (aj) Q h:=
 bN (C:=⟨prog,tb,Xc⟩) (A:=Xd) ah func45 rfl (Eq.mpr (by kernel_rfl) hv)
theorem PZ {c Q h} (hv:Xt prog c Q h):aa prog zzt [(aS).enc c] (nW) Q h:=
 bN (C:=⟨prog,tb,UP⟩) (A:=US) ah func46 rfl (Eq.mpr (by kernel_rfl) hv)
theorem zsc {m p v Q h} (hv:Pz prog m p v Q h):aa prog zlk [(aj).enc m,yH.enc p,yH.enc v] yH Q h:=
 bN (C:=⟨prog,tb,zuz⟩) (A:=zva) ah func54 rfl (Eq.mpr (by kernel_rfl) hv)
theorem ztv {m p Q h} (hv:QQ prog m p Q h):aa prog znk [(aj).enc m,yH.enc p] yH Q h:=
 bN (C:=⟨prog,tb,zyg⟩) (A:=zyh) ah func55 rfl (Eq.mpr (by kernel_rfl) hv)
theorem P1 {x Q h} (hv:Xw prog x Q h):aa prog L8 [(aY).enc x] (aY) Q h:=
 bN (C:=⟨prog,tb,UW⟩) (A:=UZ) ah func56 rfl (Eq.mpr (by kernel_rfl) hv)
theorem P3 {x Q h} (hv:Xz prog x Q h):aa prog L9 [(aE).enc x] (aE) Q h:=
 bN (C:=⟨prog,tb,U2⟩) (A:=U5) ah func57 rfl (Eq.mpr (by kernel_rfl) hv)
theorem zze {l Q h} (hv:SX prog l Q h):bI prog LP [(aj).enc l] (ak) (ak) Q h:=
 show aa prog LP [(aj).enc l] (bP tb [23,113]) (λr=>Q r.1 r.2) h from bN (C:=⟨prog,tb,OY⟩) (A:=OZ) ah func58 rfl (Eq.mpr (by kernel_rfl) hv)
theorem Ol {s Q h} (hv:LI prog s Q h):aa prog EG [(ak).enc s] (ak) Q h:=
 bN (C:=⟨prog,tb,zlo⟩) (A:=zlp) ah func59 rfl (Eq.mpr (by kernel_rfl) hv)
theorem Oo {p Q h} (hv:UI prog p Q h):bI prog LX [(aj).enc p] (ak) yH Q h:=
 show aa prog LX [(aj).enc p] (bP tb [66,3]) (λr=>Q r.1 r.2) h from bN (C:=⟨prog,tb,Ro⟩) (A:=Rq) ah func60 rfl (Eq.mpr (by kernel_rfl) hv)
theorem zpz {w dp Q h} (hv:LZ prog w dp Q h):bI prog EJ [(aj).enc w,yH.enc dp] yH (aQ) Q h:=
 show aa prog EJ [(aj).enc w,yH.enc dp] (bP tb [2,4]) (λr=>Q r.1 r.2) h from bN (C:=⟨prog,tb,Rt⟩) (A:=Rv) ah func61 rfl (Eq.mpr (by kernel_rfl) hv)
theorem HE {p Q h} (hv:Me prog p Q h):aa prog vY [yH.enc p] yH Q h:=
 bN (C:=⟨prog,tb,U8⟩) (A:=Vb) ah func62 rfl (Eq.mpr (by kernel_rfl) hv)
theorem HH {p Q h} (hv:Mf prog p Q h):aa prog xc [yH.enc p] yH Q h:=
 bN (C:=⟨prog,tb,Ve⟩) (A:=Vh) ah func63 rfl (Eq.mpr (by kernel_rfl) hv)
theorem zxn {a b is Q h} (hv:Sz prog a b is Q h):aa prog zpx [(ak).enc a,(ak).enc b,(eH).enc is] (aQ) Q h:=
 bN (C:=⟨prog,tb,Oc⟩) (A:=Oe) ah func64 rfl (Eq.mpr (by kernel_rfl) hv)
theorem P6 {x y Q h} (hv:XC prog x y Q h):aa prog Uk [(aY).enc x,(aY).enc y] (aQ) Q h:=
 bN (C:=⟨prog,tb,Vk⟩) (A:=Vm) ah func65 rfl (Eq.mpr (by kernel_rfl) hv)
theorem zsp {a b is Q h} (hv:P5 prog a b is Q h):aa prog zmg [(ak).enc a,(ak).enc b,(eH).enc is] (aQ) Q h:=
 bN (C:=⟨prog,tb,zwx⟩) (A:=zwy) ah func66 rfl (Eq.mpr (by kernel_rfl) hv)
theorem P9 {x y Q h} (hv:XE prog x y Q h):aa prog Um [(aE).enc x,(aE).enc y] (aQ) Q h:=
 bN (C:=⟨prog,tb,Vo⟩) (A:=Vq) ah func67 rfl (Eq.mpr (by kernel_rfl) hv)
theorem ztw {m Q h} (hv:QT prog m Q h):aa prog znl [(aj).enc m] yH Q h:=
 bN (C:=⟨prog,tb,zyi⟩) (A:=zyj) ah func68 rfl (Eq.mpr (by kernel_rfl) hv)
theorem Oq {x y Q h} (hv:zuw prog x y Q h):aa prog QR [(bA).enc x,(bA).enc y] (aQ) Q h:=
 bN (C:=⟨prog,tb,Ry⟩) (A:=RA) ah func69 rfl (Eq.mpr (by kernel_rfl) hv)
theorem zop {s1 s2 Q h} (hv:O5 prog s1 s2 Q h):aa prog zig [(ak).enc s1,(ak).enc s2] (aQ) Q h:=
 bN (C:=⟨prog,tb,zqj⟩) (A:=zqk) ah func70 rfl (Eq.mpr (by kernel_rfl) hv)
theorem ztx {s1 s2 Q h} (hv:QV prog s1 s2 Q h):aa prog znm [(ak).enc s1,(ak).enc s2] (aQ) Q h:=
 bN (C:=⟨prog,tb,zyk⟩) (A:=zyl) ah func71 rfl (Eq.mpr (by kernel_rfl) hv)
theorem zeb {s1 s2 eq Q h} (hv:zbx prog s1 s2 eq Q h):aa prog Nv [(ak).enc s1,(ak).enc s2,(eH).enc eq] (aQ) Q h:=
 bN (C:=⟨prog,tb,zej⟩) (A:=zek) ah func72 rfl (Eq.mpr (by kernel_rfl) hv)
theorem zvg {c i a Q h} (hv:RI prog c i a Q h):aa prog zpb [(aS).enc c,yH.enc i,(ab .u64).enc a] (aQ) Q h:=
 bN (C:=⟨prog,tb,Nk⟩) (A:=Np) ah func73 rfl (Eq.mpr (by kernel_rfl) hv)
theorem zxw {a b Q h} (hv:ZW prog a b Q h):aa prog ZS [(ab .u64).enc a,(ab .u64).enc b] (aQ) Q h:=
 bN (C:=⟨prog,tb,Zb⟩) (A:=Zd) ah func74 rfl (Eq.mpr (by kernel_rfl) hv)
theorem TF {part n Q h} (hv:ZX prog part n Q h):aa prog HW [yH.enc part,yH.enc n] yH Q h:=
 bN (C:=⟨prog,tb,Zf⟩) (A:=Zh) ah func84 rfl (Eq.mpr (by kernel_rfl) hv)
theorem GG {n nN Q h} (hv:Cr prog n nN Q h):aa prog Ci [yH.enc n,yH.enc nN] yH Q h:=
 bN (C:=⟨prog,tb,NH⟩) (A:=NI) ah func86 rfl (Eq.mpr (by kernel_rfl) hv)
theorem Y2 {l Q h} (hv:JK prog l Q h):bI prog MA [(ak).enc l] yH yH Q h:=
 show aa prog MA [(ak).enc l] (bP tb [36,3]) (λr=>Q r.1 r.2) h from bN (C:=⟨prog,tb,NJ⟩) (A:=NK) ah func89 rfl (Eq.mpr (by kernel_rfl) hv)
theorem GI {table parts Q h} (hv:JL prog table parts Q h):kS prog MB [(ak).enc table,yH.enc parts] (aj) yH yH Q h:=
 show aa prog MB [(ak).enc table,yH.enc parts] (bP tb [119,36,3]) (λr=>Q r.1 r.2.1 r.2.2) h from bN (C:=⟨prog,tb,NL⟩) (A:=NM) ah func90 rfl (Eq.mpr (by kernel_rfl) hv)
theorem Ia {n from_ to Q h} (hv:ZY prog n from_ to Q h):aa prog EM [yH.enc n,yH.enc from_,yH.enc to] (aQ) Q h:=
 bN (C:=⟨prog,tb,Zj⟩) (A:=Zl) ah func91 rfl (Eq.mpr (by kernel_rfl) hv)
theorem ZE {l an Q h} (hv:CM prog l an Q h):bI prog CG [(ak).enc l,yH.enc an] yH yH Q h:=
 show aa prog CG [(ak).enc l,yH.enc an] (bP tb [36,3]) (λr=>Q r.1 r.2) h from bN (C:=⟨prog,tb,Qt⟩) (A:=Qu) ah func92 rfl (Eq.mpr (by kernel_rfl) hv)
theorem Pk {c Q h} (hv:Wd prog c Q h):aa prog zxr [(aS).enc c] (aS) Q h:=
 bN (C:=⟨prog,tb,S5⟩) (A:=S8) ah func93 rfl (Eq.mpr (by kernel_rfl) hv)
theorem Xo {l Q h} (hv:JM prog l Q h):kS prog Cj [(ak).enc l] (aj) yH yH Q h:=
 show aa prog Cj [(ak).enc l] (bP tb [118,36,3]) (λr=>Q r.1 r.2.1 r.2.2) h from bN (C:=⟨prog,tb,NN⟩) (A:=NO) ah func94 rfl (Eq.mpr (by kernel_rfl) hv)
theorem Xq {az al Q h} (hv:Cs prog az al Q h):bI prog MC [(ak).enc az,(ak).enc al] (aj) yH Q h:=
 show aa prog MC [(ak).enc az,(ak).enc al] (bP tb [126,36]) (λr=>Q r.1 r.2) h from bN (C:=⟨prog,tb,NP⟩) (A:=NQ) ah func95 rfl (Eq.mpr (by kernel_rfl) hv)
theorem Xs {Q h} (hv:MD prog  Q h):aa prog Ck [] (aj) Q h:=
 bN (C:=⟨prog,tb,NR⟩) (A:=NS) ah func96 rfl (Eq.mpr (by kernel_rfl) hv)
theorem ZF {room l ae Q h} (hv:CN prog room l ae Q h):bI prog w8 [yH.enc room,(ak).enc l,yH.enc ae] (aj) yH Q h:=
 show aa prog w8 [yH.enc room,(ak).enc l,yH.enc ae] (bP tb [138,36]) (λr=>Q r.1 r.2) h from bN (C:=⟨prog,tb,Qv⟩) (A:=Qw) ah func97 rfl (Eq.mpr (by kernel_rfl) hv)
theorem SK {w dp due Q h} (hv:L3 prog w dp due Q h):aa prog vW [(aj).enc w,yH.enc dp,yH.enc due] yH Q h:=
 bN (C:=⟨prog,tb,RD⟩) (A:=RG) ah func98 rfl (Eq.mpr (by kernel_rfl) hv)
theorem zsq {x count Q h} (hv:P8 prog x count Q h):aa prog sH [(ak).enc x,yH.enc count] (ak) Q h:=
 bN (C:=⟨prog,tb,zwz⟩) (A:=zxa) ah func99 rfl (Eq.mpr (by kernel_rfl) hv)
theorem zjv {m p Q h} (hv:Qb prog m p Q h):aa prog PR [(aj).enc m,yH.enc p] yH Q h:=
 bN (C:=⟨prog,tb,zxb⟩) (A:=zxc) ah func102 rfl (Eq.mpr (by kernel_rfl) hv)
theorem T6 {p lane v Q h} (hv:Mg prog p lane v Q h):aa prog Ma [(aj).enc p,yH.enc lane,yH.enc v] yH Q h:=
 bN (C:=⟨prog,tb,Vs⟩) (A:=Vu) ah func103 rfl (Eq.mpr (by kernel_rfl) hv)
theorem zsd {p lane Q h} (hv:L6 prog p lane Q h):bK prog H8 [(aj).enc p,yH.enc lane] (Q) h:=
 show aa prog H8 [(aj).enc p,yH.enc lane] (bP tb []) (λ_=>Q) h from bN (C:=⟨prog,tb,Tc⟩) (A:=Te) ah func104 rfl (Eq.mpr (by kernel_rfl) hv)
theorem Pv {m q Q h} (hv:QY prog m q Q h):bK prog GN [(aj).enc m,(aj).enc q] (Q) h:=
 show aa prog GN [(aj).enc m,(aj).enc q] (bP tb []) (λ_=>Q) h from bN (C:=⟨prog,tb,zym⟩) (A:=zyn) ah func105 rfl (Eq.mpr (by kernel_rfl) hv)
theorem zkn {m p state Q h} (hv:Q0 prog m p state Q h):bK prog LN [(aj).enc m,(aj).enc p,yH.enc state] (Q) h:=
 show aa prog LN [(aj).enc m,(aj).enc p,yH.enc state] (bP tb []) (λ_=>Q) h from bN (C:=⟨prog,tb,zyo⟩) (A:=zyp) ah func106 rfl (Eq.mpr (by kernel_rfl) hv)
theorem EH {s Q h} (hv:AG prog s Q h):aa prog EI [(ak).enc s] (ak) Q h:=
 bN (C:=⟨prog,tb,zyq⟩) (A:=zyr) ah func107 rfl (Eq.mpr (by kernel_rfl) hv)
theorem zse {s Q h} (hv:zlm prog s Q h):aa prog zll [(ak).enc s] (ak) Q h:=
 bN (C:=⟨prog,tb,zvb⟩) (A:=zvc) ah func108 rfl (Eq.mpr (by kernel_rfl) hv)
theorem zld {s Q h} (hv:zfx prog s Q h):aa prog zfu [(ak).enc s] (ak) Q h:=
 bN (C:=⟨prog,tb,znc⟩) (A:=znd) ah func109 rfl (Eq.mpr (by kernel_rfl) hv)
theorem OX {s Q h} (hv:LL prog s Q h):aa prog LK [(ak).enc s] (ak) Q h:=
 bN (C:=⟨prog,tb,zsk⟩) (A:=zsl) ah func110 rfl (Eq.mpr (by kernel_rfl) hv)
theorem Od {s Q h} (hv:LH prog s Q h):aa prog LG [(ak).enc s] (ak) Q h:=
 bN (C:=⟨prog,tb,zkj⟩) (A:=zkk) ah func111 rfl (Eq.mpr (by kernel_rfl) hv)
theorem zqa {l Q h} (hv:UL prog l Q h):aa prog Uw [(aj).enc l] (bd) Q h:=
 bN (C:=⟨prog,tb,RJ⟩) (A:=RN) ah func112 rfl (Eq.mpr (by kernel_rfl) hv)
theorem zec {s1 s2 eq Q h} (hv:zby prog s1 s2 eq Q h):aa prog zbv [(ak).enc s1,(ak).enc s2,(eH).enc eq] (aQ) Q h:=
 bN (C:=⟨prog,tb,zel⟩) (A:=zem) ah func113 rfl (Eq.mpr (by kernel_rfl) hv)
theorem Ou {a b Q h} (hv:zux prog a b Q h):aa prog QW [(ak).enc a,(ak).enc b] (aQ) Q h:=
 bN (C:=⟨prog,tb,RQ⟩) (A:=RU) ah func114 rfl (Eq.mpr (by kernel_rfl) hv)
theorem zte {a b is Q h} (hv:XJ prog a b is Q h):aa prog Xg [(ak).enc a,(ak).enc b,(eH).enc is] (aQ) Q h:=
 bN (C:=⟨prog,tb,Vw⟩) (A:=Vy) ah func115 rfl (Eq.mpr (by kernel_rfl) hv)
theorem Pl {x y Q h} (hv:zxu prog x y Q h):aa prog SZ [yH.enc x,yH.enc y] (aQ) Q h:=
 bN (C:=⟨prog,tb,Tf⟩) (A:=Tg) ah func116 rfl (Eq.mpr (by kernel_rfl) hv)
theorem zvh {a b is Q h} (hv:RM prog a b is Q h):aa prog zpc [(ak).enc a,(ak).enc b,(eH).enc is] (aQ) Q h:=
 bN (C:=⟨prog,tb,Nr⟩) (A:=Ns) ah func117 rfl (Eq.mpr (by kernel_rfl) hv)
theorem ztz {x y Q h} (hv:znp prog x y Q h):aa prog zyb [(cR).enc x,(cR).enc y] (aQ) Q h:=
 bN (C:=⟨prog,tb,zys⟩) (A:=zyt) ah func118 rfl (Eq.mpr (by kernel_rfl) hv)
theorem Ow {a b is Q h} (hv:UO prog a b is Q h):aa prog zuo [(ak).enc a,(ak).enc b,(eH).enc is] (aQ) Q h:=
 bN (C:=⟨prog,tb,RW⟩) (A:=RY) ah func119 rfl (Eq.mpr (by kernel_rfl) hv)
theorem zcn {s1 s2 eq Q h} (hv:zax prog s1 s2 eq Q h):aa prog zaw [(ak).enc s1,(ak).enc s2,(eH).enc eq] (aQ) Q h:=
 bN (C:=⟨prog,tb,zcq⟩) (A:=zcr) ah func120 rfl (Eq.mpr (by kernel_rfl) hv)
theorem zxo {a b is Q h} (hv:SC prog a b is Q h):aa prog zpy [(ak).enc a,(ak).enc b,(eH).enc is] (aQ) Q h:=
 bN (C:=⟨prog,tb,Of⟩) (A:=Og) ah func121 rfl (Eq.mpr (by kernel_rfl) hv)
theorem Qc {x y Q h} (hv:XL prog x y Q h):aa prog Uo [(bd).enc x,(bd).enc y] (aQ) Q h:=
 bN (C:=⟨prog,tb,VA⟩) (A:=VC) ah func122 rfl (Eq.mpr (by kernel_rfl) hv)
theorem zzf {s t Q h} (hv:SY prog s t Q h):aa prog zra [(aj).enc s,yH.enc t] yH Q h:=
 bN (C:=⟨prog,tb,O0⟩) (A:=O1) ah func123 rfl (Eq.mpr (by kernel_rfl) hv)
theorem zvi {m x Q h} (hv:RP prog m x Q h):bK prog RC [(aj).enc m,(aj).enc x] (Q) h:=
 show aa prog RC [(aj).enc m,(aj).enc x] (bP tb []) (λ_=>Q) h from bN (C:=⟨prog,tb,Nt⟩) (A:=Nw) ah func124 rfl (Eq.mpr (by kernel_rfl) hv)
theorem zua {m p Q h} (hv:Q2 prog m p Q h):bK prog QI [(aj).enc m,(aj).enc p] (Q) h:=
 show aa prog QI [(aj).enc m,(aj).enc p] (bP tb []) (λ_=>Q) h from bN (C:=⟨prog,tb,zyu⟩) (A:=zyv) ah func125 rfl (Eq.mpr (by kernel_rfl) hv)
theorem zub {a b Q h} (hv:Q4 prog a b Q h):aa prog znn [(ab .u64).enc a,(ab .u64).enc b] (aQ) Q h:=
 bN (C:=⟨prog,tb,zyw⟩) (A:=zyx) ah func126 rfl (Eq.mpr (by kernel_rfl) hv)
theorem Gw {x n an Q h} (hv:BN prog x n an Q h):aa prog zzu [(bJ).enc x,yH.enc n,yH.enc an] yH Q h:=
 bN (C:=⟨prog,tb,aaf⟩) (A:=aag) ah func134 rfl (Eq.mpr (by kernel_rfl) hv)
theorem zhl {s f Q h} (hv:Pn prog s f Q h):aa prog zjt [(ak).enc s,(eH).enc f] yH Q h:=
 bN (C:=⟨prog,tb,zsm⟩) (A:=zsn) ah func136 rfl (Eq.mpr (by kernel_rfl) hv)
theorem zxx {p a1 Q h} (hv:ZZ prog p a1 Q h):aa prog IT [yH.enc p,.pointer (some a1)] (aQ) Q h:=
 bN (C:=⟨prog,tb,Zn⟩) (A:=Zp) ah func137 rfl (Eq.mpr (by kernel_rfl) hv)
theorem zgi {s Q h} (hv:LJ prog s Q h):aa prog O3 [(ak).enc s] (ak) Q h:=
 bN (C:=⟨prog,tb,zql⟩) (A:=zqm) ah func138 rfl (Eq.mpr (by kernel_rfl) hv)
theorem zle {s Q h} (hv:zfy prog s Q h):aa prog zfv [(ak).enc s] (ak) Q h:=
 bN (C:=⟨prog,tb,zne⟩) (A:=znf) ah func139 rfl (Eq.mpr (by kernel_rfl) hv)
theorem zmv {s Q h} (hv:zgm prog s Q h):aa prog zgl [(ak).enc s] (ak) Q h:=
 bN (C:=⟨prog,tb,zpd⟩) (A:=zpe) ah func140 rfl (Eq.mpr (by kernel_rfl) hv)
theorem znq {l p Q h} (hv:S0 prog l p Q h):bI prog LQ [(aj).enc l,yH.enc p] yH (aQ) Q h:=
 show aa prog LQ [(aj).enc l,yH.enc p] (bP tb [3,4]) (λr=>Q r.1 r.2) h from bN (C:=⟨prog,tb,O2⟩) (A:=O4) ah func141 rfl (Eq.mpr (by kernel_rfl) hv)
theorem ZG {room s Q h} (hv:CO prog room s Q h):bI prog CH [yH.enc room,(bd).enc s] (aj) yH Q h:=
 show aa prog CH [yH.enc room,(bd).enc s] (bP tb [200,36]) (λr=>Q r.1 r.2) h from bN (C:=⟨prog,tb,Qx⟩) (A:=Qy) ah func142 rfl (Eq.mpr (by kernel_rfl) hv)
theorem GQ {w dp Q h} (hv:LU prog w dp Q h):aa prog Ca [(aj).enc w,yH.enc dp] (aQ) Q h:=
 bN (C:=⟨prog,tb,O6⟩) (A:=O7) ah func143 rfl (Eq.mpr (by kernel_rfl) hv)
theorem zcy {x target cmp Q h} (hv:Nn prog x target cmp Q h):bI prog LF [(ak).enc x,(aT).enc target,(eH).enc cmp] yH (aQ) Q h:=
 show aa prog LF [(ak).enc x,(aT).enc target,(eH).enc cmp] (bP tb [3,4]) (λr=>Q r.1 r.2) h from bN (C:=⟨prog,tb,zdj⟩) (A:=zdk) ah func144 rfl (Eq.mpr (by kernel_rfl) hv)
theorem zxy {a b Q h} (hv:Z1 prog a b Q h):aa prog IU [(aT).enc a,(aT).enc b] yH Q h:=
 bN (C:=⟨prog,tb,Zr⟩) (A:=Zt) ah func145 rfl (Eq.mpr (by kernel_rfl) hv)
theorem zhm {s i v Q h} (hv:zdz prog s i v Q h):aa prog Ob [(ak).enc s,yH.enc i,(ak).enc v] (ak) Q h:=
 bN (C:=⟨prog,tb,zja⟩) (A:=zjb) ah func146 rfl (Eq.mpr (by kernel_rfl) hv)
theorem Qe {x y Q h} (hv:Gs prog x y Q h):bI prog Xj [(ab .u64).enc x,(ab .u64).enc y] (ab .u64) (ab .u64) Q h:=
 show aa prog Xj [(ab .u64).enc x,(ab .u64).enc y] (bP tb [239,239]) (λr=>Q r.1 r.2) h from bN (C:=⟨prog,tb,VE⟩) (A:=VG) ah func147 rfl (Eq.mpr (by kernel_rfl) hv)
theorem T8 {state Q h} (hv:XN prog state Q h):aa prog Mb [yH.enc state] (aQ) Q h:=
 bN (C:=⟨prog,tb,VI⟩) (A:=VK) ah func150 rfl (Eq.mpr (by kernel_rfl) hv)
theorem SL {p n Q h} (hv:UR prog p n Q h):aa prog LY [(aj).enc p,yH.enc n] (aQ) Q h:=
 bN (C:=⟨prog,tb,RZ⟩) (A:=R1) ah func151 rfl (Eq.mpr (by kernel_rfl) hv)
theorem Qh {l v Q h} (hv:XP prog l v Q h):aa prog zzv [(aj).enc l,yH.enc v] yH Q h:=
 bN (C:=⟨prog,tb,VM⟩) (A:=VO) ah func152 rfl (Eq.mpr (by kernel_rfl) hv)
theorem Pm {l Q h} (hv:Wg prog l Q h):bK prog VY [(aj).enc l] (Q) h:=
 show aa prog VY [(aj).enc l] (bP tb []) (λ_=>Q) h from bN (C:=⟨prog,tb,Ti⟩) (A:=Tk) ah func153 rfl (Eq.mpr (by kernel_rfl) hv)
theorem Oy {p proc Q h} (hv:UU prog p proc Q h):aa prog Uy [(aj).enc p,yH.enc proc] (aQ) Q h:=
 bN (C:=⟨prog,tb,R3⟩) (A:=R5) ah func154 rfl (Eq.mpr (by kernel_rfl) hv)
theorem Oz {l p Q h} (hv:UY prog l p Q h):aa prog zup [(aj).enc l,yH.enc p] (ak) Q h:=
 bN (C:=⟨prog,tb,R7⟩) (A:=R8) ah func155 rfl (Eq.mpr (by kernel_rfl) hv)
theorem Po {m kj Q h} (hv:Qg prog m kj Q h):bK prog B0 [(aj).enc m,yH.enc kj] (Q) h:=
 show aa prog B0 [(aj).enc m,yH.enc kj] (bP tb []) (λ_=>Q) h from bN (C:=⟨prog,tb,zxd⟩) (A:=zxe) ah func156 rfl (Eq.mpr (by kernel_rfl) hv)
theorem Qk {p Q h} (hv:XR prog p Q h):aa prog zzw [(aj).enc p] (ak) Q h:=
 bN (C:=⟨prog,tb,VQ⟩) (A:=VS) ah func157 rfl (Eq.mpr (by kernel_rfl) hv)
theorem BW {m p reply Q h} (hv:Pt prog m p reply Q h):bK prog vV [(aj).enc m,(aj).enc p,yH.enc reply] (Q) h:=
 show aa prog vV [(aj).enc m,(aj).enc p,yH.enc reply] (bP tb []) (λ_=>Q) h from bN (C:=⟨prog,tb,zto⟩) (A:=ztp) ah func158 rfl (Eq.mpr (by kernel_rfl) hv)
theorem zkf {s1 s2 eq Q h} (hv:zfe prog s1 s2 eq Q h):aa prog zfd [(ak).enc s1,(ak).enc s2,(eH).enc eq] (aQ) Q h:=
 bN (C:=⟨prog,tb,zlq⟩) (A:=zlr) ah func159 rfl (Eq.mpr (by kernel_rfl) hv)
theorem zdl {s1 s2 eq Q h} (hv:zbl prog s1 s2 eq Q h):aa prog zbj [(ak).enc s1,(ak).enc s2,(eH).enc eq] (aQ) Q h:=
 bN (C:=⟨prog,tb,zdv⟩) (A:=zdw) ah func160 rfl (Eq.mpr (by kernel_rfl) hv)
theorem zjf {s1 s2 eq Q h} (hv:zeu prog s1 s2 eq Q h):aa prog zet [(ak).enc s1,(ak).enc s2,(eH).enc eq] (aQ) Q h:=
 bN (C:=⟨prog,tb,zkl⟩) (A:=zkm) ah func161 rfl (Eq.mpr (by kernel_rfl) hv)
theorem zed {s1 s2 eq Q h} (hv:zbz prog s1 s2 eq Q h):aa prog zbw [(ak).enc s1,(ak).enc s2,(eH).enc eq] (aQ) Q h:=
 bN (C:=⟨prog,tb,zen⟩) (A:=zeo) ah func162 rfl (Eq.mpr (by kernel_rfl) hv)
theorem OB {a b is Q h} (hv:U1 prog a b is Q h):aa prog zuq [(ak).enc a,(ak).enc b,(eH).enc is] (aQ) Q h:=
 bN (C:=⟨prog,tb,R9⟩) (A:=Sa) ah func163 rfl (Eq.mpr (by kernel_rfl) hv)
theorem NA {x y Q h} (hv:ztd prog x y Q h):aa prog Px [yH.enc x,yH.enc y] (aQ) Q h:=
 bN (C:=⟨prog,tb,PD⟩) (A:=PF) ah func164 rfl (Eq.mpr (by kernel_rfl) hv)
theorem zuc {a b is Q h} (hv:Q6 prog a b is Q h):aa prog zno [(ak).enc a,(ak).enc b,(eH).enc is] (aQ) Q h:=
 bN (C:=⟨prog,tb,zyy⟩) (A:=zyz) ah func165 rfl (Eq.mpr (by kernel_rfl) hv)
theorem zsr {x y Q h} (hv:zmr prog x y Q h):aa prog zwh [(aC).enc x,(aC).enc y] (aQ) Q h:=
 bN (C:=⟨prog,tb,zxf⟩) (A:=zxg) ah func166 rfl (Eq.mpr (by kernel_rfl) hv)
theorem OD {w now Q h} (hv:L4 prog w now Q h):aa prog zur [(aj).enc w,yH.enc now] (ak) Q h:=
 bN (C:=⟨prog,tb,Sb⟩) (A:=Sc) ah func167 rfl (Eq.mpr (by kernel_rfl) hv)
theorem Pw {m p c Q h} (hv:Q8 prog m p c Q h):bK prog GO [(aj).enc m,(aj).enc p,(eT).enc c] (Q) h:=
 show aa prog GO [(aj).enc m,(aj).enc p,(eT).enc c] (bP tb []) (λ_=>Q) h from bN (C:=⟨prog,tb,zza⟩) (A:=zzb) ah func168 rfl (Eq.mpr (by kernel_rfl) hv)
theorem CB {c Q h} (hv:CP prog c Q h):aa prog v8 [(eT).enc c] (eT) Q h:=
 bN (C:=⟨prog,tb,Qz⟩) (A:=QA) ah func169 rfl (Eq.mpr (by kernel_rfl) hv)
theorem ZH {c l tick self Q h} (hv:CQ prog c l tick self Q h):bI prog CI [(eT).enc c,(ak).enc l,yH.enc tick,yH.enc self] (eT) (Dc) Q h:=
 show aa prog CI [(eT).enc c,(ak).enc l,yH.enc tick,yH.enc self] (bP tb [137,262]) (λr=>Q r.1 r.2) h from bN (C:=⟨prog,tb,QB⟩) (A:=QC) ah func170 rfl (Eq.mpr (by kernel_rfl) hv)
theorem zss {m p to v Q h} (hv:Qj prog m p to v Q h):bK prog PW [(aj).enc m,(aj).enc p,yH.enc to,yH.enc v] (Q) h:=
 show aa prog PW [(aj).enc m,(aj).enc p,yH.enc to,yH.enc v] (bP tb []) (λ_=>Q) h from bN (C:=⟨prog,tb,zxh⟩) (A:=zxi) ah func171 rfl (Eq.mpr (by kernel_rfl) hv)
theorem zjw {m p try_ Q h} (hv:Qm prog m p try_ Q h):bK prog PY [(aj).enc m,(aj).enc p,(aQ).enc try_] (Q) h:=
 show aa prog PY [(aj).enc m,(aj).enc p,(aQ).enc try_] (bP tb []) (λ_=>Q) h from bN (C:=⟨prog,tb,zxj⟩) (A:=zxk) ah func172 rfl (Eq.mpr (by kernel_rfl) hv)
theorem NC {l n p Q h} (hv:T3 prog l n p Q h):bI prog LW [(aj).enc l,yH.enc n,yH.enc p] (aQ) yH Q h:=
 show aa prog LW [(aj).enc l,yH.enc n,yH.enc p] (bP tb [4,36]) (λr=>Q r.1 r.2) h from bN (C:=⟨prog,tb,PH⟩) (A:=PJ) ah func173 rfl (Eq.mpr (by kernel_rfl) hv)
theorem zii {s v Q h} (hv:Pu prog s v Q h):aa prog LM [(ak).enc s,yH.enc v] (aQ) Q h:=
 bN (C:=⟨prog,tb,ztq⟩) (A:=ztr) ah func174 rfl (Eq.mpr (by kernel_rfl) hv)
theorem znr {l p Q h} (hv:S2 prog l p Q h):aa prog LR [(aj).enc l,yH.enc p] (ak) Q h:=
 bN (C:=⟨prog,tb,O8⟩) (A:=O9) ah func175 rfl (Eq.mpr (by kernel_rfl) hv)
theorem zpf {l n p Q h} (hv:T4 prog l n p Q h):bI prog HC [(aj).enc l,yH.enc n,yH.enc p] yH yH Q h:=
 show aa prog HC [(aj).enc l,yH.enc n,yH.enc p] (bP tb [3,36]) (λr=>Q r.1 r.2) h from bN (C:=⟨prog,tb,PL⟩) (A:=PN) ah func176 rfl (Eq.mpr (by kernel_rfl) hv)
theorem zvj {n Q h} (hv:YJ prog n Q h):aa prog Mi [yH.enc n] yH Q h:=
 bN (C:=⟨prog,tb,Xe⟩) (A:=Xf) ah func177 rfl (Eq.mpr (by kernel_rfl) hv)
theorem zmx {a n Q h} (hv:SE prog a n Q h):aa prog Sw [(ab .u64).enc a,yH.enc n] (aQ) Q h:=
 bN (C:=⟨prog,tb,Oi⟩) (A:=Om) ah func178 rfl (Eq.mpr (by kernel_rfl) hv)
theorem Wr {x n an Q h} (hv:BO prog x n an Q h):bI prog zzx [(bJ).enc x,yH.enc n,yH.enc an] yH yH Q h:=
 show aa prog zzx [(bJ).enc x,yH.enc n,yH.enc an] (bP tb [36,3]) (λr=>Q r.1 r.2) h from bN (C:=⟨prog,tb,aah⟩) (A:=aai) ah func180 rfl (Eq.mpr (by kernel_rfl) hv)
theorem TH {op Q h} (hv:Z2 prog op Q h):rQ prog ZT [yH.enc op] (aQ) (aQ) (aQ) (aQ) Q h:=
 show aa prog ZT [yH.enc op] (bP tb [4,4,4,4]) (λr=>Q r.1 r.2.1 r.2.2.1 r.2.2.2) h from bN (C:=⟨prog,tb,Zv⟩) (A:=Zx) ah func181 rfl (Eq.mpr (by kernel_rfl) hv)
theorem ZI {room Q h} (hv:CR prog room Q h):bI prog CJ [yH.enc room] (aj) yH Q h:=
 show aa prog CJ [yH.enc room] (bP tb [200,36]) (λr=>Q r.1 r.2) h from bN (C:=⟨prog,tb,QD⟩) (A:=QE) ah func182 rfl (Eq.mpr (by kernel_rfl) hv)
theorem Wz {n from_ to Q h} (hv:Mn prog n from_ to Q h):aa prog Mm [yH.enc n,yH.enc from_,yH.enc to] (aQ) Q h:=
 bN (C:=⟨prog,tb,Zy⟩) (A:=Zz) ah func183 rfl (Eq.mpr (by kernel_rfl) hv)
theorem Wu {l Q h} (hv:BP prog l Q h):aa prog Iw [(ak).enc l] (aQ) Q h:=
 bN (C:=⟨prog,tb,aaj⟩) (A:=aak) ah func184 rfl (Eq.mpr (by kernel_rfl) hv)
theorem zhn {s i j Q h} (hv:zea prog s i j Q h):aa prog zdy [(ak).enc s,yH.enc i,yH.enc j] (ak) Q h:=
 bN (C:=⟨prog,tb,zjc⟩) (A:=zjd) ah func185 rfl (Eq.mpr (by kernel_rfl) hv)
theorem Wx {dX Q h} (hv:BQ prog dX Q h):aa prog Ix [(ak).enc dX] yH Q h:=
 bN (C:=⟨prog,tb,aam⟩) (A:=aan) ah func186 rfl (Eq.mpr (by kernel_rfl) hv)
theorem zzg {x y Q h} (hv:S4 prog x y Q h):aa prog zrc [yH.enc x,yH.enc y] yH Q h:=
 bN (C:=⟨prog,tb,Pa⟩) (A:=Pb) ah func187 rfl (Eq.mpr (by kernel_rfl) hv)
theorem OF {x y Q h} (hv:U4 prog x y Q h):aa prog zus [yH.enc x,yH.enc y] yH Q h:=
 bN (C:=⟨prog,tb,Sd⟩) (A:=Se) ah func188 rfl (Eq.mpr (by kernel_rfl) hv)
theorem OH {x y Q h} (hv:U7 prog x y Q h):bI prog UA [(ab .u64).enc x,(ab .u64).enc y] (ab .u64) (ab .u64) Q h:=
 show aa prog UA [(ab .u64).enc x,(ab .u64).enc y] (bP tb [28,28]) (λr=>Q r.1 r.2) h from bN (C:=⟨prog,tb,Sf⟩) (A:=Sh) ah func192 rfl (Eq.mpr (by kernel_rfl) hv)
theorem zsf {l Q h} (hv:Wk prog l Q h):aa prog V1 [(aj).enc l] (aQ) Q h:=
 bN (C:=⟨prog,tb,Tm⟩) (A:=Tp) ah func193 rfl (Eq.mpr (by kernel_rfl) hv)
theorem GK {n Q h} (hv:Ct prog n Q h):aa prog Cl [yH.enc n] yH Q h:=
 bN (C:=⟨prog,tb,NT⟩) (A:=NU) ah func194 rfl (Eq.mpr (by kernel_rfl) hv)
theorem OI {l p Q h} (hv:Va prog l p Q h):aa prog zut [(aj).enc l,yH.enc p] (aQ) Q h:=
 bN (C:=⟨prog,tb,Sj⟩) (A:=Sm) ah func195 rfl (Eq.mpr (by kernel_rfl) hv)
theorem zko {s v Q h} (hv:Ra prog s v Q h):aa prog QK [(ak).enc s,yH.enc v] yH Q h:=
 bN (C:=⟨prog,tb,zzc⟩) (A:=zzd) ah func196 rfl (Eq.mpr (by kernel_rfl) hv)
theorem zst {s i j Q h} (hv:Qp prog s i j Q h):aa prog zml [(ak).enc s,yH.enc i,yH.enc j] (ak) Q h:=
 bN (C:=⟨prog,tb,zxl⟩) (A:=zxm) ah func197 rfl (Eq.mpr (by kernel_rfl) hv)
theorem Qn {l Q h} (hv:XT prog l Q h):aa prog zzy [(aj).enc l] (ak) Q h:=
 bN (C:=⟨prog,tb,VU⟩) (A:=VW) ah func198 rfl (Eq.mpr (by kernel_rfl) hv)
theorem ZJ {c code reply Q h} (hv:CS prog c code reply Q h):aa prog J6 [(eT).enc c,(ak).enc code,yH.enc reply] (eT) Q h:=
 bN (C:=⟨prog,tb,QF⟩) (A:=QG) ah func199 rfl (Eq.mpr (by kernel_rfl) hv)
theorem zgj {s1 s2 eq Q h} (hv:zdg prog s1 s2 eq Q h):aa prog zdf [(ak).enc s1,(ak).enc s2,(eH).enc eq] (aQ) Q h:=
 bN (C:=⟨prog,tb,zhi⟩) (A:=zhj) ah func200 rfl (Eq.mpr (by kernel_rfl) hv)
theorem zcw {s1 s2 eq Q h} (hv:zba prog s1 s2 eq Q h):aa prog zaz [(ak).enc s1,(ak).enc s2,(eH).enc eq] (aQ) Q h:=
 bN (C:=⟨prog,tb,zdc⟩) (A:=zdd) ah func201 rfl (Eq.mpr (by kernel_rfl) hv)
theorem Cx {c l Q h} (hv:D7 prog c l Q h):bI prog vq [(eT).enc c,(ak).enc l] (bJ) (aQ) Q h:=
 show aa prog vq [(eT).enc c,(ak).enc l] (bP tb [47,4]) (λr=>Q r.1 r.2) h from bN (C:=⟨prog,tb,Vl⟩) (A:=Vn) ah func202 rfl (Eq.mpr (by kernel_rfl) hv)
theorem Xu {x r Q h} (hv:Cu prog x r Q h):kS prog Cm [(bJ).enc x,(vZ).enc r] (Dc) (aQ) (aQ) Q h:=
 show aa prog Cm [(bJ).enc x,(vZ).enc r] (bP tb [262,4,4]) (λr=>Q r.1 r.2.1 r.2.2) h from bN (C:=⟨prog,tb,NV⟩) (A:=NW) ah func203 rfl (Eq.mpr (by kernel_rfl) hv)
theorem AH {c reg v Q h} (hv:YL prog c reg v Q h):bK prog vg [(aj).enc c,yH.enc reg,yH.enc v] (Q) h:=
 show aa prog vg [(aj).enc c,yH.enc reg,yH.enc v] (bP tb []) (λ_=>Q) h from bN (C:=⟨prog,tb,Xh⟩) (A:=Xi) ah func204 rfl (Eq.mpr (by kernel_rfl) hv)
theorem N3 {op b c Q h} (hv:D8 prog op b c Q h):bI prog D5 [yH.enc op,yH.enc b,yH.enc c] yH yH Q h:=
 show aa prog D5 [yH.enc op,yH.enc b,yH.enc c] (bP tb [2,36]) (λr=>Q r.1 r.2) h from bN (C:=⟨prog,tb,Vp⟩) (A:=Vr) ah func205 rfl (Eq.mpr (by kernel_rfl) hv)
theorem N4 {op b c Q h} (hv:D9 prog op b c Q h):bI prog D6 [yH.enc op,yH.enc b,yH.enc c] yH yH Q h:=
 show aa prog D6 [yH.enc op,yH.enc b,yH.enc c] (bP tb [2,36]) (λr=>Q r.1 r.2) h from bN (C:=⟨prog,tb,Vt⟩) (A:=Vv) ah func206 rfl (Eq.mpr (by kernel_rfl) hv)
theorem zzh {t i j Q h} (hv:S7 prog t i j Q h):aa prog zrd [(aj).enc t,yH.enc i,yH.enc j] (aQ) Q h:=
 bN (C:=⟨prog,tb,Pc⟩) (A:=Pe) ah func207 rfl (Eq.mpr (by kernel_rfl) hv)
theorem zsg {m p q v Q h} (hv:PA prog m p q v Q h):bK prog Py [(aj).enc m,(aj).enc p,(aj).enc q,yH.enc v] (Q) h:=
 show aa prog Py [(aj).enc m,(aj).enc p,(aj).enc q,yH.enc v] (bP tb []) (λ_=>Q) h from bN (C:=⟨prog,tb,zvd⟩) (A:=zve) ah func208 rfl (Eq.mpr (by kernel_rfl) hv)
theorem zxp {c code v from_ Q h} (hv:CT prog c code v from_ Q h):aa prog w9 [(eT).enc c,(ak).enc code,yH.enc v,yH.enc from_] (eT) Q h:=
 bN (C:=⟨prog,tb,QH⟩) (A:=QJ) ah func210 rfl (Eq.mpr (by kernel_rfl) hv)
theorem zns {l n p Q h} (hv:Ta prog l n p Q h):aa prog SW [(aj).enc l,yH.enc n,yH.enc p] yH Q h:=
 bN (C:=⟨prog,tb,Pf⟩) (A:=Pg) ah func211 rfl (Eq.mpr (by kernel_rfl) hv)
theorem Ua {has n Q h} (hv:XV prog has n Q h):aa prog Mc [(aQ).enc has,yH.enc n] yH Q h:=
 bN (C:=⟨prog,tb,VZ⟩) (A:=V2) ah func212 rfl (Eq.mpr (by kernel_rfl) hv)
theorem TJ {x has n an Q h} (hv:Z3 prog x has n an Q h):aa prog H2 [(bJ).enc x,(aQ).enc has,yH.enc n,yH.enc an] yH Q h:=
 bN (C:=⟨prog,tb,ZA⟩) (A:=ZB) ah func213 rfl (Eq.mpr (by kernel_rfl) hv)
theorem TL {op Q h} (hv:Z4 prog op Q h):aa prog H4 [yH.enc op] (pd) Q h:=
 bN (C:=⟨prog,tb,ZC⟩) (A:=ZD) ah func214 rfl (Eq.mpr (by kernel_rfl) hv)
theorem Qq {field a1 Q h} (hv:Gt prog field a1 Q h):aa prog zzz [(pd).enc field,.pointer (some a1)] (aQ) Q h:=
 bN (C:=⟨prog,tb,V5⟩) (A:=V8) ah func215 rfl (Eq.mpr (by kernel_rfl) hv)
theorem zqb {x Q h} (hv:Vd prog x Q h):aa prog UC [yH.enc x] (aQ) Q h:=
 bN (C:=⟨prog,tb,So⟩) (A:=Sr) ah func217 rfl (Eq.mpr (by kernel_rfl) hv)
theorem ztf {x Q h} (hv:XX prog x Q h):aa prog Xn [yH.enc x] (aQ) Q h:=
 bN (C:=⟨prog,tb,Wb⟩) (A:=We) ah func218 rfl (Eq.mpr (by kernel_rfl) hv)
theorem zqc {l p Q h} (hv:Vg prog l p Q h):aa prog UF [(aj).enc l,yH.enc p] yH Q h:=
 bN (C:=⟨prog,tb,Su⟩) (A:=Sv) ah func220 rfl (Eq.mpr (by kernel_rfl) hv)
theorem zim {s i j Q h} (hv:Oh prog s i j Q h):aa prog zei [(ak).enc s,yH.enc i,yH.enc j] (ak) Q h:=
 bN (C:=⟨prog,tb,zkb⟩) (A:=zkc) ah func221 rfl (Eq.mpr (by kernel_rfl) hv)
theorem zvk {b c Q h} (hv:YN prog b c Q h):aa prog YD [yH.enc b,yH.enc c] yH Q h:=
 bN (C:=⟨prog,tb,Xk⟩) (A:=Xl) ah func222 rfl (Eq.mpr (by kernel_rfl) hv)
theorem ZK {b c Q h} (hv:J8 prog b c Q h):aa prog J7 [yH.enc b,yH.enc c] yH Q h:=
 bN (C:=⟨prog,tb,QL⟩) (A:=QN) ah func223 rfl (Eq.mpr (by kernel_rfl) hv)
theorem Xx {b c Q h} (hv:Jj prog b c Q h):aa prog Jh [yH.enc b,yH.enc c] yH Q h:=
 bN (C:=⟨prog,tb,NX⟩) (A:=NY) ah func224 rfl (Eq.mpr (by kernel_rfl) hv)
theorem IA {is Q h} (hv:DH prog is Q h):aa prog DF [(aQ).enc is] yH Q h:=
 bN (C:=⟨prog,tb,Tl⟩) (A:=Tn) ah func225 rfl (Eq.mpr (by kernel_rfl) hv)
theorem GL {bits Q h} (hv:Cv prog bits Q h):aa prog Cn [yH.enc bits] (jg .f64) Q h:=
 bN (C:=⟨prog,tb,NZ⟩) (A:=N0) ah func226 rfl (Eq.mpr (by kernel_rfl) hv)
theorem I4 {f Q h} (hv:CU prog f Q h):aa prog EV [(jg .f64).enc f] yH Q h:=
 bN (C:=⟨prog,tb,QP⟩) (A:=QS) ah func227 rfl (Eq.mpr (by kernel_rfl) hv)
theorem XA {f Q h} (hv:Cw prog f Q h):aa prog Ji [(jg .f64).enc f] yH Q h:=
 bN (C:=⟨prog,tb,N1⟩) (A:=N2) ah func228 rfl (Eq.mpr (by kernel_rfl) hv)
theorem zsh {t i Q h} (hv:Wn prog t i Q h):aa prog V7 [(aj).enc t,yH.enc i] (aQ) Q h:=
 bN (C:=⟨prog,tb,Tr⟩) (A:=Ts) ah func229 rfl (Eq.mpr (by kernel_rfl) hv)
theorem Pp {p lane proc v Q h} (hv:Wq prog p lane proc v Q h):aa prog zxs [(aj).enc p,yH.enc lane,yH.enc proc,yH.enc v] yH Q h:=
 bN (C:=⟨prog,tb,Tu⟩) (A:=Tw) ah func230 rfl (Eq.mpr (by kernel_rfl) hv)
theorem OK {p Q h} (hv:zuy prog p Q h):aa prog zuu [(aj).enc p] (eH) Q h:=
 bN (C:=⟨prog,tb,Sx⟩) (A:=SA) ah func231 rfl (Eq.mpr (by kernel_rfl) hv)
theorem Qs {l Q h} (hv:XZ prog l Q h):aa prog Uu [(aj).enc l] yH Q h:=
 bN (C:=⟨prog,tb,Wi⟩) (A:=Wl) ah func232 rfl (Eq.mpr (by kernel_rfl) hv)
theorem Pq {l Q h} (hv:Wt prog l Q h):rQ prog Wa [(aj).enc l] yH (aC) (aQ) yH Q h:=
 show aa prog Wa [(aj).enc l] (bP tb [2,191,4,36]) (λr=>Q r.1 r.2.1 r.2.2.1 r.2.2.2) h from bN (C:=⟨prog,tb,Tz⟩) (A:=TB) ah func233 rfl (Eq.mpr (by kernel_rfl) hv)
theorem zhe {s f Q h} (hv:N9 prog s f Q h):aa prog zdt [(ak).enc s,(eH).enc f] yH Q h:=
 bN (C:=⟨prog,tb,zik⟩) (A:=zil) ah func236 rfl (Eq.mpr (by kernel_rfl) hv)
theorem zzi {w a1 Q h} (hv:zry prog w a1 Q h):aa prog LS [(aC).enc w,.pointer (some a1)] (aQ) Q h:=
 bN (C:=⟨prog,tb,Ph⟩) (A:=Pj) ah func237 rfl (Eq.mpr (by kernel_rfl) hv)
theorem OM {p proc Q h} (hv:Vj prog p proc Q h):aa prog zuv [(aj).enc p,yH.enc proc] yH Q h:=
 bN (C:=⟨prog,tb,SD⟩) (A:=SF) ah func240 rfl (Eq.mpr (by kernel_rfl) hv)
theorem Pr {l p v Q h} (hv:Ww prog l p v Q h):aa prog zxt [(aj).enc l,yH.enc p,yH.enc v] yH Q h:=
 bN (C:=⟨prog,tb,TC⟩) (A:=TD) ah func241 rfl (Eq.mpr (by kernel_rfl) hv)
section
variable {V:Type}
def jv (a:Int):List (Int×V)->Option (Nat×V)
 | []=>none
 | (k,v)::r=>if a=k then some (0,v) else (jv a r).map λp=>(p.1+1,p.2)
def gT (a:Int):List (Int×V)->Option V
 | []=>none
 | (k,v)::r=>if a=k then some v else gT a r
def jU (a:Int) (v:V):List (Int×V)->List (Int×V)
 | []=> [(a,v)]
 | (k,u)::r=>if a=k then (a,v)::r else (k,u)::jU a v r
def lM (a:Int):List (Int×V)->List (Int×V)
 | []=> []
 | (k,u)::r=>if a=k then r else (k,u)::lM a r
theorem xS (a b:Int) (v:V):∀l:List (Int×V),gT a (jU b v l)=if a=b then some v else gT a l
 | []=>by simp [jU,gT]
 | (k,u)::r=>by
  simp only [jU];by_cases h:b=k
  ·rw [if_pos h];subst h;simp only [gT];split<;>rfl
  ·rw [if_neg h];simp only [gT,xS a b v r];grind
theorem KS {a:Int}:∀ {l:List (Int×V)},a∉l.map (·.1)->gT a l=none
 | [],_=>rfl
 | (k,u)::r,h=>by simp only [List.map_cons,List.mem_cons,not_or] at h;simp only [gT];rw [if_neg h.1];exact KS h.2
theorem Hk (a b:Int):∀l:List (Int×V),(l.map (·.1)).Nodup->gT a (lM b l)=if a=b then none else gT a l
 | [],_=>by simp [lM,gT]
 | (k,u)::r,c=>by
  simp only [List.map_cons,List.nodup_cons] at c;simp only [lM];by_cases h:b=k
  ·rw [if_pos h];subst h;simp only [gT];by_cases d:a=b
   ·subst d;rw [if_pos rfl];exact KS c.1
   grind
  ·rw [if_neg h];simp only [gT,Hk a b r c.2];grind
theorem KT (b:Int) (v:V):∀(l:List (Int×V)) (a:Int),a∈(jU b v l).map (·.1)↔a=b\/a∈l.map (·.1)
 | [],a=>by simp [jU]
 | (k,u)::r,a=>by
  simp only [jU];by_cases h:b=k
  ·subst h;simp
  ·rw [if_neg h];simp only [List.map_cons,List.mem_cons,KT b v r a];grind
theorem J9 (b:Int) (v:V):∀ {l:List (Int×V)},(l.map (·.1)).Nodup->((jU b v l).map (·.1)).Nodup
 | [],_=>by simp [jU]
 | (k,u)::r,a=>by
  simp only [List.map_cons,List.nodup_cons] at a;simp only [jU];by_cases h:b=k
  ·grind
  ·rw [if_neg h];simp only [List.map_cons,List.nodup_cons];refine ⟨λe=> ?_,J9 b v a.2⟩;rcases (KT b v r k).1 e with e | e
   ·exact h e.symm
   ·exact a.1 e
theorem Hl (b:Int):∀(l:List (Int×V)),(lM b l).Sublist l
 | []=>.slnil
 | (k,u)::r=>by
  simp only [lM];split
  ·simp
  ·exact .cons_cons _ (Hl b r)
theorem QU (b:Int) {l:List (Int×V)} (h:(l.map (·.1)).Nodup):((lM b l).map (·.1)).Nodup:=h.sublist ((Hl b l).map _)
theorem KU {b:Int}:∀ {l:List (Int×V)},gT b l=none->lM b l=l
 | [],_=>rfl
 | (k,u)::r,h=>by
  simp only [gT] at h;simp only [lM];split at h
  ·cases h
  ·rename_i e;rw [if_neg e,KU h]
theorem Ea (a:Int):∀l:List (Int×V),gT a l=(jv a l).map (·.2)
 | []=>rfl
 | (k,v)::r=>by
  simp only [gT,jv];split
  ·rfl
  ·rw [Ea a r];simp [Function.comp_def]
def fV (h:Hp) (m:Nat) (k:IntKind) (ev:V->Value) (c:List (Int×V)):Prop:=
 ∃(a:List MapEntry) (ck:Nat),h m=some (.map a.toArray ck)/\a.map (λe=>(e.key,e.val))=c.map λp=>(Value.int k p.1,ev p.2)
variable {h:Hp} {m:Nat} {k:IntKind} {ev:V->Value} {c:List (Int×V)}
theorem yn (a:Int):∀(d:List MapEntry) (c:List (Int×V)) (j:Nat),d.map (λe=>(e.key,e.val))=c.map (λp=>(Value.int k p.1,ev p.2))->
  Instr.findNow (.int k) (.int k a) d j=some ((jv a c).map λp=>(p.1+j,ev p.2))
 | [],[],j,_=>rfl
 | [],_::_,j,h=>by simp at h
 | _::_,[],j,h=>by simp at h
 | e::d,(b,v)::r,j,h=>by
  simp only [List.map_cons,List.cons.injEq,Prod.mk.injEq] at h;obtain ⟨⟨g,i⟩,l⟩:=h;simp only [Instr.findNow,g,Instr.sameNow,if_true,jv];by_cases f:a=b
  ·simp [f,i]
  ·have n:(a==b)=false:=by simpa using f
   rw [n,if_neg f];simp only;rw [yn a d r (j+1) l];cases jv a r with
   | none=>rfl
   | some p=>simp;omega
theorem xU {e:IntKind} {sh:Shape} {c:List (Int×sh.T)} {a:Int} {z:sh.T} {zero:Value} {K:sh.T->Bool->Prop} (o:fV h m e sh.enc c) (q:sh.enc z=zero) (l:gT a c=none->K z false)
  (n:∀v,gT a c=some v->K v true):mO none (.int e) sh zero (some m) (.int e a) h K:=by
 obtain ⟨f,ck,g,j⟩:=o;have b:=yn (ev:=sh.enc) a f c 0 j;have d:=Ea a c;cases i:jv a c with
 | none=>rw [i] at b d;exact ⟨z,false,⟨f,.inr ⟨m,ck,rfl,g⟩,.inl ⟨b,q,rfl⟩⟩,l d⟩
 | some p=>rw [i] at b d;exact ⟨p.2,true,⟨f,.inr ⟨m,ck,rfl,g⟩,.inr ⟨_,b,rfl⟩⟩,n p.2 d⟩
theorem KV {a:Int} {v:V}:∀ {l:List (Int×V)},jv a l=none->jU a v l=l++ [(a,v)]
 | [],_=>rfl
 | (k,u)::r,h=>by
  simp only [jv] at h;split at h
  ·cases h
  ·rename_i e;simp only [jU];rw [if_neg e,KV (by simpa using h)];rfl
theorem Hm {a:Int} {v u:V} {ev:V->Value}:∀ {g:List MapEntry} {l:List (Int×V)} {i:Nat},g.map (λe=>(e.key,e.val))=l.map (λp=>(Value.int k p.1,ev p.2))->jv a l=some (i,u)->
  (g.modify i λe=>{e with key:=.int k a,val:=ev v}).map (λe=>(e.key,e.val))=(jU a v l).map λp=>(Value.int k p.1,ev p.2)
 | _,[],_,_,h=>by simp [jv] at h
 | [],_::_,_,h,_=>by simp at h
 | e::g,(b,w)::r,i,h,d=>by
  simp only [List.map_cons,List.cons.injEq] at h;simp only [jv] at d;simp only [jU];split at d
  ·grind
  ·rename_i j;rw [if_neg j];cases f:jv a r with
   | none=>rw [f] at d;simp at d
   | some p=>rw [f] at d;simp at d;obtain ⟨rfl,rfl⟩:=d;simp only [List.modify_succ_cons,List.map_cons,h.1];rw [Hm h.2 f]
theorem Ka {a:Int} {u:V} {ev:V->Value}:∀ {g:List MapEntry} {l:List (Int×V)} {i:Nat},g.map (λe=>(e.key,e.val))=l.map (λp=>(Value.int k p.1,ev p.2))->jv a l=some (i,u)->
  (g.eraseIdx i).map (λe=>(e.key,e.val))=(lM a l).map λp=>(Value.int k p.1,ev p.2)
 | _,[],_,_,h=>by simp [jv] at h
 | [],_::_,_,h,_=>by simp at h
 | e::g,(b,w)::r,i,h,d=>by
  simp only [List.map_cons,List.cons.injEq] at h;simp only [jv] at d;simp only [lM];split at d
  ·grind
  ·rename_i j;rw [if_neg j];cases f:jv a r with
   | none=>rw [f] at d;simp at d
   | some p=>rw [f] at d;simp at d;obtain ⟨rfl,rfl⟩:=d;simp only [List.eraseIdx_cons_succ,List.map_cons,h.1];rw [Ka h.2 f]
theorem KW {a:Int} {v:V} {K:Hp->Prop} (l:fV h m k ev c) (i:∀o,isCells o=false->fV (h.set m o) m k ev (jU a v c)->K (h.set m o)):rF (.int k) (some m) (.int k a) (ev v) K h:=by
 obtain ⟨f,ck,j,g⟩:=l;have b:=yn (ev:=ev) a f c 0 g;refine ⟨m,f.toArray,ck,rfl,j,?_⟩;cases d:jv a c with
 | none=>
  rw [d] at b;refine .inl ⟨b,i _ rfl ⟨f++ [{key:=.int k a,val:=ev v,born:=ck}],ck+1,?_,?_⟩⟩
  ·rw [mI];simp
  ·rw [KV d];simp [g]
 | some p=>rw [d] at b;refine .inr ⟨p.1,ev p.2,b,i _ rfl ⟨f.modify p.1 λe=>{e with key:=.int k a,val:=ev v},ck,?_,Hm (u:=p.2) g d⟩⟩;rw [mI];simp
theorem Tq {a:Int} {K:Hp->Prop} (j:fV h m k ev c) (g:∀o,isCells o=false->fV (h.set m o) m k ev (lM a c)->K (h.set m o)):vx (.int k) (some m) (.int k a) K h:=by
 obtain ⟨e,ck,i,f⟩:=j;have b:=yn (ev:=ev) a e c 0 f;refine .inr ⟨m,e.toArray,ck,rfl,i,?_⟩;cases d:jv a c with
 | none=>rw [d] at b;refine .inl ⟨b,g _ rfl ⟨e,ck,mI,?_⟩⟩;rw [KU (by rw [Ea,d];rfl)];exact f
 | some p=>rw [d] at b;refine .inr ⟨p.1,ev p.2,b,g _ rfl ⟨e.eraseIdx p.1,ck,?_,Ka (u:=p.2) f d⟩⟩;rw [mI];simp
end
abbrev fw :Int->List Value:=λx=> [.int .i64 x]
abbrev eW :ly->List Value:=λw=> [.int .i64 w.proc,.int .i64 w.value]
def nt (w:ly):bf:=⟨w.proc,w.value⟩
section
variable {h0 k:Hp} {A B C:dB}
theorem Has.f1 (o:Has h0 (A.star (B.star C)) k):∃c,h0<=c/\Has c A k/\∀e f,Has c e f->Has h0 (e.star (B.star C)) f:=by obtain ⟨c,a,b,_,d⟩:=o.fst;grind
theorem Has.f2 (o:Has h0 (A.star (B.star C)) k):∃c,h0<=c/\Has c B k/\∀B' e,Has c B' e->Has h0 (A.star (B'.star C)) e:=by obtain ⟨c,a,b,_,d⟩:=o.snd;obtain ⟨h,a2,f,_,g⟩:=b.fst;exact ⟨h,Hp.le_trans a a2,f,λB' e i=>d _ _ (g _ _ i)⟩
theorem Has.f3 (o:Has h0 (A.star (B.star C)) k):∃h1,h0<=h1/\Has h1 C k/\∀e c,Has h1 e c->Has h0 (A.star (B.star e)) c:=by obtain ⟨h1,a,b,_,d⟩:=o.snd;obtain ⟨h,a2,f,_,g⟩:=b.snd;exact ⟨h,Hp.le_trans a a2,f,λj c i=>d _ _ (g _ _ i)⟩
theorem xo {l:Option Addr} {sz c:Nat}:aX l sz 0 c=l:=by
 unfold aX;split
 ·rfl
 ·cases l with
  | none=>rfl
  | some a=>obtain ⟨b,off,sp⟩:=a;simp [Addr.add]
theorem Has.shift {i:Type} {sz:Nat} {enc:i->List Value} {l:Sl} {a:i} {r:List i} {K:Int->Hp->Prop} (o:Has h0 (dD sz enc l (a::r)) k) (h:∀x,(enc x).length=sz) (D:∀x,iV (enc x)=true)
  (w:∀f,Has h0 (dD sz enc ⟨l.base,r.length,l.cap⟩ r) f->K (r.length:Nat) f):fI sz l ⟨aX l.base sz 1 l.cap,l.len-1,l.cap-1⟩ K k:=by
 have H:=o.gr;have g:=o.tj;have G:=(o.pz h (c:=l.cap) g (Nat.le_refl _)).iq h;obtain ⟨y,F,⟨J,L,t⟩,p⟩:=o;have N:l.len=r.length+1:=by simpa using H
 rcases t with ⟨e,d,_⟩ | ⟨b,off,I,e,j,v,M,P⟩
 ·omega
 ·have z:h0 b=none:=p b ((j b).2 rfl);have O:r.length*sz<=l.cap*sz:=Nat.mul_le_mul_right sz (by omega);have s:l=⟨some ⟨b,off,none⟩,l.len,l.cap⟩:=by cases l;simp at e;subst e;rfl
  have E:(r.flatMap enc).length=r.length*sz:=iK h r;rw [show (fI sz l:Sl->_)=fI sz ⟨some ⟨b,off,none⟩,l.len,l.cap⟩ by rw [<-s]];refine DT (n:=r.length) (new:=r.flatMap enc) v (by show min (l.len-1) l.len=_;omega) G.2 (rJ D r) (by omega) λf m u=>w f ⟨λc q d=>m.cF c q (y c q d) (λg=>(by rw [List.mem_singleton.1 g,z] at d;cases d)),F,⟨rfl,by show r.length<=l.cap;omega,.inr ⟨b,off,_,e,j,u,?_,?_⟩⟩,p⟩
  ·simp only [List.length_append,List.length_take,List.length_drop,E];show off+l.cap*sz<=_;omega
  grind
theorem Rw.map {b β:Type} {sz:Nat} {enc:β->List Value} {f:b->β} {l:Sl} {a:List b} (r:Rw k sz (λx=>enc (f x)) l a):Rw k sz enc l (a.map f):=by obtain ⟨d,c⟩:=r;refine ⟨by grind,?_⟩;rw [List.length_map,List.flatMap_map];exact c
theorem Hn {n:Int} (h:jB n):iF (yw (n+(1:Int))) (65535:Int)=more n:=by rw [wrap64 (by have:=h.1;omega) (by have:=h.2;omega)];unfold iF more;omega
end
def du (q:Addr) (room:Int) (l:bq):dB:=
 .some_ λx:dv=>((dq CX q x).star ((dD 1 fw x.values l.values).star (dD 2 eW x.waiters l.waiters))).star (.fact (x.room=room/\x.taken=l.taken/\x.dropped=l.dropped))
section
variable {h0 k:Hp} {q:Addr} {room:Int} {l:bq}
theorem Has.bz (o:Has h0 (du q room l) k):∃x:dv,x.room=room/\x.taken=l.taken/\x.dropped=l.dropped/\Has h0 ((dq CX q x).star ((dD 1 fw x.values l.values).star (dD 2 eW x.waiters l.waiters))) k:=by obtain ⟨x,o⟩:=Has.ex.1 o;obtain ⟨o,a,b,c⟩:=o.jw;grind
theorem Has.jx {x:dv} (o:Has h0 ((dq CX q x).star ((dD 1 fw x.values l.values).star (dD 2 eW x.waiters l.waiters))) k) (a:x.room=room) (b:x.taken=l.taken) (c:x.dropped=l.dropped):Has h0 (du q room l) k:=
 Has.ex.2 ⟨x,o.fu ⟨a,b,c⟩⟩
theorem Y4 {Q:Int->Hp->Prop} (o:Has h0 (du q room l) k) (a:Q (l.values.length:Int) k):XZ prog (some q) Q k:=by obtain ⟨x,_,_,_,o⟩:=o.bz;unfold XZ;refine aP (o.left.ld (shf:=ak) x.values rfl ?_);rw [o.right.left.gr];exact a
theorem IN {Q:Bool->Hp->Prop} (o:Has h0 (du q room l) k) (b:Q (decide (room<=(l.values.length:Int))) k):Wk prog (some q) Q k:=by obtain ⟨x,a,_,_,o⟩:=o.bz;unfold Wk;refine aP (o.left.ld (shf:=ak) x.values rfl ?_);refine aP (o.left.ld (shf:=ab .i64) x.room rfl ?_);rw [o.right.left.gr,a];exact b
theorem XU {v:Int} {Q:Int->Hp->Prop} (o:Has h0 (du q room l) k) (u:room<=64) (t:room<=(l.values.length:Int)->Q 19 k) (g:∀b,¬room<=(l.values.length:Int)->Has h0 (du q room (rn v l)) b->Q 0 b):XP prog (some q) v Q k:=by
 unfold XP;refine zsf (IN o ?_);by_cases a:room<=(l.values.length:Int)
 ·grind
 ·rw [if_neg (λh=>a (of_decide_eq_true h))];obtain ⟨x,d,e,f,o⟩:=o.bz;refine aP (o.left.ld (shf:=ak) x.values rfl ?_);obtain ⟨r,_,j,put⟩:=o.f2;refine j.push rfl (λ_=>rfl) (λ_=>rfl) rfl ⟨by omega,by omega⟩ λc w m=> ?_;have o:=put _ _ m;obtain ⟨s,_,n,put⟩:=o.f1;refine aP (n.st {x with values:=c} (show (2:Nat)<=5 by decide) rfl λi p=> ?_);exact g i a (Has.jx (x:={x with values:=c}) (put _ _ p) d e f)
theorem Vx {Q:Hp->Prop} (o:Has h0 (du q room l) k) (e:jB l.dropped) (f:∀a,Has h0 (du q room (jc l)) a->Q a):Wg prog (some q) Q k:=by obtain ⟨x,b,c,d,o⟩:=o.bz;unfold Wg;refine aP (o.left.ld (shf:=ab .i64) x.dropped rfl ?_);refine GK ?_;unfold Ct;rw [d,Hn e];obtain ⟨j,_,h,put⟩:=o.f1;refine aP (h.st {x with dropped:=more l.dropped} (show (5:Nat)<=5 by decide) rfl λg i=> ?_);exact f g (Has.jx (x:={x with dropped:=more l.dropped}) (put _ _ i) b c rfl)
theorem Vz {Q:Int->bf->Bool->Int->Hp->Prop} (o:Has h0 (du q room l) k) (E:jB l.taken) (i:l.values.length<=64) (Y:l.values=[]->Q 0 ⟨0,0⟩ false 21 k)
  (C:∀v b h,l.values=v::b->l.waiters=[]->Has h0 (du q room (dG l)) h->Q v ⟨0,0⟩ false 0 h)
  (D:∀v b w g h,l.values=v::b->l.waiters=w::g->Has h0 (du q room (dG l)) h->Q v (nt w) true 0 h):Wt prog (some q) Q k:=by
 obtain ⟨x,p,B,r,o⟩:=o.bz;unfold Wt;have j:=o.right.left.gr;refine aP (o.left.ld (shf:=ak) x.values rfl ?_);cases hv:l.values with
 | nil=>grind
 | cons v b=>
  rw [hv] at o j i;have j:x.values.len=b.length+1:=by simpa using j
  rw [if_neg (show ¬((x.values.len:Int)==0)=true by simp;omega)];refine aP (o.left.ld (shf:=ak) x.values rfl ?_);have W:Rs k (ab .i64) 1 x.values (v::b):=o.right.left.iq (λ_=>rfl);refine W.get (λ_=>rfl) (by omega) (by omega) (by simp) λ(y:Int) t=> ?_;have t:y=v:=by grind
  subst t;refine aP (o.left.ld (shf:=ak) x.values rfl ?_);refine aP (o.left.ld (shf:=ak) x.values rfl ?_);refine ⟨by omega,aK ?_⟩;obtain ⟨e,_,J,put⟩:=o.f2;refine J.shift (λ_=>rfl) (λ_=>rfl) λZ A=> ?_;have o:=put _ _ A;have s:=A.tj;refine aP (o.left.ld (shf:=ak) x.values rfl ?_);have s:b.length<=x.values.cap:=s;refine ⟨by omega,aK ?_⟩;rw [xo,Int.toNat_natCast,Nat.sub_zero,Nat.sub_zero];obtain ⟨e,_,O,put⟩:=o.f1;refine aP (O.st {x with values:=⟨x.values.base,b.length,x.values.cap⟩} (show (2:Nat)<=5 by decide) rfl λk2 P=> ?_);have o:=put _ _ P;refine aP (o.left.ld (shf:=ab .i64) x.taken rfl ?_);refine GK ?_;unfold Ct;rw [B,Hn E];obtain ⟨e,_,R,put⟩:=o.f1;refine aP (R.st {x with values:=⟨x.values.base,b.length,x.values.cap⟩,taken:=more l.taken} (show (4:Nat)<=5 by decide) rfl λu S=> ?_);have o:=put _ _ S;refine aP (o.left.ld (shf:=ak) x.waiters rfl ?_);have f:=o.right.right.gr;cases d:l.waiters with
  | nil=>
   rw [d] at f;rw [if_neg (show ¬(decide ((x.waiters.len:Int)>0))=true by simp at f;simp [f])];refine C y b u hv d (Has.jx (x:={x with values:=⟨x.values.base,b.length,x.values.cap⟩,taken:=more l.taken}) ?_ p (by unfold dG;rw [d]) (by unfold dG;rw [d];exact r));have:dG l={l with values:=b,taken:=more l.taken}:=by unfold dG;rw [d,hv];rfl
   grind
  | cons w g=>
   rw [d] at f o;have f:x.waiters.len=g.length+1:=by simpa using f
   rw [if_pos (decide_eq_true (show (x.waiters.len:Int)>0 by omega))];refine aP (o.left.ld (shf:=ak) x.waiters rfl ?_);have Bt:Rs u aC 2 x.waiters ((w::g).map nt):=(o.right.right.iq (λ_=>rfl)).map (enc:=λx=>be (aC.enc x));refine Bt.get (λ_=>rfl) (by omega) (by omega) (by simp) λ(X:bf) m=> ?_;have m:X=nt w:=by simpa using m.symm
   subst m;refine aP (o.left.ld (shf:=ak) x.waiters rfl ?_);refine aP (o.left.ld (shf:=ak) x.waiters rfl ?_);refine aP (o.left.ld (shf:=ak) x.waiters rfl ?_);have G:=o.right.right.tj;refine ⟨by omega,aK ?_⟩;rw [Int.toNat_natCast];obtain ⟨e,_,T,put⟩:=o.f3;have U:=T.pz (λ_=>rfl) (c:=x.waiters.len) (Nat.le_refl _) G;have o:=put _ _ U;obtain ⟨e,_,V,put⟩:=o.f1;refine aP (V.st {x with values:=⟨x.values.base,b.length,x.values.cap⟩,taken:=more l.taken,waiters:=⟨aX x.waiters.base 2 1 x.waiters.len,x.waiters.len-1,x.waiters.len-1⟩} (show (3:Nat)<=5 by decide) rfl λk4 K=> ?_);have o:=put _ _ K;refine aP (o.left.ld (shf:=ak) ⟨x.values.base,b.length,x.values.cap⟩ rfl ?_);refine gI (xs:=[w.value]) (sz:=1) (enc:=fw) rfl (λ_=>rfl) λa k5 F I=> ?_;have o:=o.grow F;refine ⟨⟨?_,trivial⟩,?_⟩
   ·exact (Has.left o).eA (n:=1) rfl
   obtain ⟨e,_,L,put⟩:=o.f2;refine L.app (I.iq (λ_=>rfl)) (λ_=>rfl) (λ_=>rfl) rfl ⟨by simp at i ⊢;omega,by simp at i ⊢;omega⟩ λz k6 M=> ?_;have o:=put _ _ M;obtain ⟨e,_,N,put⟩:=o.f1;refine aP (N.st {x with values:=z,taken:=more l.taken,waiters:=⟨aX x.waiters.base 2 1 x.waiters.len,x.waiters.len-1,x.waiters.len-1⟩} (show (2:Nat)<=5 by decide) rfl λH a8=> ?_);refine D y b w g H hv d (Has.jx (x:={x with values:=z,taken:=more l.taken,waiters:=⟨aX x.waiters.base 2 1 x.waiters.len,x.waiters.len-1,x.waiters.len-1⟩}) ?_ p (by unfold dG;rw [d]) (by unfold dG;rw [d];exact r));have:dG l={values:=b++ [w.value],waiters:=g,taken:=more l.taken,dropped:=l.dropped}:=by unfold dG;rw [d,hv];rfl
   grind
end
end Lf
