/-
  Part 5 of the texts that the claim leans on.
-/
import Derived.Test.YtgmfbapkfjemnaaGreatDoorCards
import Derived.Test.YtgmfbapkfjemnaaGreatDoorTie
import Derived.Lib.ParseIntBCases
import Derived.Shelf.Strings.Search1
import Derived.Shelf.Strings.Count
import Derived.Shelf.LaysC
import Derived.Shelf.Strconv.ParseInt10All
import Derived.Test.YtgmfbapkfjemnaaGreatDoorProg
import Derived.Shelf.Strings.Builder1
import Derived.Shelf.Strings.OnBuilder
import Derived.Shelf.RegionOpenPlain
import Derived.Lib.Strings
import Derived.Lib.Slices
import Derived.Lib.Walk
import Derived.Lib.Builder
import Derived.Lib.AppendStr
import Derived.Lib.UnsafeStr
import Derived.Lib.MakeNoZero
import Derived.WalkKit
import Derived.Laws.Externs
import Derived.Laws.IdiomCopy
import Derived.Laws.BitsLemmas
import Derived.Test.YtgmfbapkfjemnaaGreatDoorMgAsmDoc3
set_option maxRecDepth 100000
namespace Lf
open Go Go.Proofs Tryz
def Said (t:ByteArray) (x e:Int):Prop:=
 (∃w out,w<18446744073709551616/\zbr w out/\t=strN out/\x=IntKind.wrap .i64 (w:Int)/\e=0)\/((∀w out,w<18446744073709551616->zbr w out->t≠strN out)/\x=0/\e=4)
theorem zba (op:BinOp) (a b:Int):∃n:Nat,bitsI op .u64 a b=(n:Int)/\n<18446744073709551616:=by
 have h:0<=bitsI op .u64 a b/\bitsI op .u64 a b<18446744073709551616:=by
  unfold bitsI
  split<;>(rw [zah];omega)
 exact ⟨(bitsI op .u64 a b).toNat,(Int.toNat_of_nonneg h.1).symm,by omega⟩
theorem zml2 {a:Nat} (ha:a<9223372036854775808):bitsI .or .u64 (a:Int) (9223372036854775808:Int)=((9223372036854775808+a:Nat):Int):=by
 have:=zqx1 (s:=true) ha
 unfold bitsI at this ⊢
 rw [BitVec.or_comm]
 exact this
theorem zjx1 {a b:ByteArray} (h:(a.toList==b.toList)=true):a=b:=by
 have e:=eq_of_beq h
 rw [ByteArray.toList_eq,ByteArray.toList_eq] at e
 exact zum (Array.toList_inj.1 e)
theorem zgz1 {w:Nat} (hw:w<18446744073709551616):IntKind.wrap .u64 (IntKind.wrap .i64 (w:Int))=(w:Int):=by
 have:IntKind.wrap .i64 (w:Int)=if w<9223372036854775808 then (w:Int) else (w:Int)-18446744073709551616:=by
  unfold IntKind.wrap
  simp only [IntKind.signed,IntKind.bits]
  grind
 rw [this,zah]
 split<;>omega
theorem zis2 :∀d,d<16->hexD d<256:=by decide
section
variable {h:Hp}
theorem zbj2 {t:ByteArray} {w:Nat} {out:List Nat} {Q:Int->Int->Hp->Prop} (hw:w<18446744073709551616) (hi:zbr w out) (ht:t=strN out) (hk:∀h' x e,h<=h'->Said t x e->Q x e h'):
  CallT prog zgo [(.int .i64 (IntKind.wrap .i64 (w:Int)))] shStr (fun r h4=>
   (if (!((ByteArray.toList r)==(ByteArray.toList t)))=true then
   Q (0:Int) (4:Int) h4
   else
   Q (IntKind.wrap .i64 (w:Int)) (0:Int) h4)) h:=by
 refine zmz (zly1 (zgz1 hw) hw fun h' out' hl hi'=> ?_)
 rw [zig1 hi' hi,<-ht]
 exact iteF (by simp) (hk h' _ _ hl (.inl ⟨w,out,hw,hi,ht,rfl,rfl⟩))
theorem zqo2 {t:ByteArray} {b:Int} {n:Nat} {Q:Int->Int->Hp->Prop} (hb:b=(n:Int)) (hn:n<18446744073709551616) (hno:∀w out,w<18446744073709551616->zbr w out->t≠strN out) (hk:∀h' x e,h<=h'->Said t x e->Q x e h'):
  CallT prog zgo [(.int .i64 (IntKind.wrap .i64 b))] shStr (fun r h4=>
   (if (!((ByteArray.toList r)==(ByteArray.toList t)))=true then
   Q (0:Int) (4:Int) h4
   else
   Q (IntKind.wrap .i64 b) (0:Int) h4)) h:=by
 subst hb
 refine zmz (zly1 (zgz1 hn) hn fun h' out' hl hi'=> ?_)
 refine iteB (fun _=>hk h' _ _ hl (.inr ⟨hno,rfl,rfl⟩)) fun hh=> ?_
 have:(ByteArray.toList (strN out')==ByteArray.toList t)=true:=by simpa using hh
 exact absurd (zjx1 this).symm (hno n out' hn hi')
theorem zya1 {t:ByteArray} {Q:Int->Int->Hp->Prop} (hno:∀w out,w<18446744073709551616->zbr w out->t≠strN out) (hk:∀h' x e,h<=h'->Said t x e->Q x e h'):zbg prog t Q h:=by
 unfold zbg
 have no:∀ {k:Hp},h<=k->Q 0 4 k:=fun hl=>hk _ _ _ hl (.inr ⟨hno,rfl,rfl⟩)
 refine iteB (fun _=>no (Hp.le_refl _)) fun h32=> ?_
 have hsz:t.size<=32:=by
  grind
 refine ⟨fun hh=>⟨by decide,of_decide_eq_true hh⟩,letW ?_⟩
 refine JoinW1.intro (fun u k=>k=h/\u.size<=32) (iteB (fun hy=> ?_) fun _=>⟨rfl,hsz⟩) ?_
 ·rw [Bool.and_eq_true] at hy
  have:=of_decide_eq_true hy.1
  refine ⟨⟨by decide,by omega⟩,rfl,?_⟩
  rw [ByteArray.size_extract]
  omega
 rintro u h ⟨rfl,hu⟩
 refine JoinW1.intro (fun b k=>h<=k/\∃n:Nat,b=(n:Int)/\n<18446744073709551616) ?_ ?_
 ·refine ⟨fun hh=> ?_,letW (iteB (fun hy=> ?_) fun _=>iteB (fun _=>⟨Hp.le_refl _,9218868437227405312,rfl,by decide⟩) fun _=>iteB (fun _=>⟨Hp.le_refl _,0,rfl,by decide⟩) fun _=> ?_)⟩
  ·grind
  ·rw [Bool.and_eq_true] at hy
   have h20:(t.size:Int)=20:=beq_iff_eq.1 hy.1
   refine LoopW2.intro (fun b i k=>k=h/\0<=i/\i<=20/\∃n:Nat,b=(n:Int)/\n<18446744073709551616) (fun _ i _=>(20-i).toNat) ⟨rfl,by omega,by omega,0,rfl,by decide⟩ ?_
   rintro b i h ⟨rfl,i0,i1,n,rfl,hn⟩
   refine iteB (fun hi=> ?_) fun _=>⟨Hp.le_refl _,n,rfl,hn⟩
   have hi:=of_decide_eq_true hi
   refine ⟨by decide,⟨i0,by omega⟩,znd (zbi2 fun d _ _=> ?_)⟩
   rw [zab (by omega) (by omega)]
   exact ⟨⟨rfl,by omega,by omega,zba _ _ _⟩,by omega⟩
  ·refine zne (zir2 hu fun c s ok hc s0 s1=>iteB (fun _=>no (Hp.le_refl _)) fun _=> ?_)
   exact zlu (zos1 hc s0 s1 fun k b lk hb _=>⟨lk,b,rfl,by omega⟩)
 rintro b k ⟨lk,n,rfl,hn⟩
 refine JoinW1.intro (fun b k'=>k'=k/\∃n:Nat,b=(n:Int)/\n<18446744073709551616) (iteB (fun _=>⟨rfl,zba _ _ _⟩) fun _=>⟨rfl,n,rfl,hn⟩) ?_
 rintro b k ⟨rfl,n,hb,hn⟩
 exact zqo2 hb hn hno fun h' x e hl hs=>hk h' x e (Hp.le_trans lk hl) hs
theorem zuk1 {w:Nat} {Q:Int->Int->Hp->Prop} (hw:w<18446744073709551616) (hr:9218868437227405312<w%9223372036854775808) (hk:∀h' x e,h<=h'->Said (strN ([110,97,110,58]++hexL w)) x e->Q x e h'):
  zbg prog (strN ([110,97,110,58]++hexL w)) Q h:=by
 have hi:zbr w ([110,97,110,58]++hexL w):=by unfold zbr;rw [if_pos hr]
 have hlen:([110,97,110,58]++hexL w).length=20:=by rw [List.length_append,ztq];rfl
 have g0:([110,97,110,58]++hexL w)[0]? =some 110:=rfl
 have e4:(strN ([110,97,110,58]++hexL w)).extract 0 4=strN [110,97,110,58]:=by rw [zgd _ _ _ (by omega)];rfl
 have gX:∀ {j:Nat},j<16->([110,97,110,58]++hexL w)[4+j]? =some (hexD (w / 16^(15-j)%16)):=fun {j} hj=>by
  rw [List.getElem?_append_right (by simp),show 4+j-([110,97,110,58]:List Nat).length=j by simp,zih1 hj]
 have fin:=fun (k:Hp) (hl:h<=k)=>zbj2 (h:=k) (Q:=Q) hw hi rfl fun h' x e hl' hs=>hk h' x e (Hp.le_trans hl hl') hs
 generalize [110,97,110,58]++hexL w=T at*
 unfold zbg
 rw [zal,hlen,e4]
 refine iteF (by decide) ⟨fun _=>by decide,letW ?_⟩
 rw [zju g0 (by decide)]
 have hy:((decide (((20:Nat):Int)>0))&&(((110:Nat):Int)==45))=false:=by decide
 rw [hy]
 refine JoinW1.direct (iteF (by decide) (JoinW1.intro (fun b k=>k=h/\b=(w:Int)) ⟨fun _=>by decide,letW (iteT (by decide+kernel) ?_)⟩ ?_))
 ·refine LoopW2.intro (fun b i k=>k=h/\∃j:Nat,j<=16/\i=((4+j:Nat):Int)/\b=((w / 16^(16-j):Nat):Int)) (fun _ i _=>(20-i).toNat) ⟨rfl,0,by omega,rfl,by rw [Nat.div_eq_of_lt (by exact hw)];rfl⟩ ?_
  rintro _ _ h ⟨rfl,j,hj,rfl,rfl⟩
  by_cases hj16:j<16
  ·refine iteT (decide_eq_true (by omega)) ⟨by decide,⟨by omega,by omega⟩,?_⟩
   have hd:w / 16^(15-j)%16<16:=Nat.mod_lt _ (by decide)
   have hstep:w / 16^(15-j)=w / 16^(16-j)*16+w / 16^(15-j)%16:=by
    rw [show 16-j=15-j+1 by omega,Nat.pow_succ,<-Nat.div_div_eq_div_mul]
    omega
   have hlt:w / 16^(15-j)<18446744073709551616:=Nat.lt_of_le_of_lt (Nat.div_le_self _ _) hw
   rw [Int.toNat_natCast,zju (gX hj16) (zis2 _ hd)]
   refine znd (zbi2 fun d d16 hd'=> ?_)
   have:=hd' _ hd rfl
   subst this
   have en:IntKind.wrap .i64 (((4+j:Nat):Int)+1)=((4+(j+1):Nat):Int):=by rw [zab (by omega) (by omega)];omega
   rw [en]
   have es:shlI .u64 ((w / 16^(16-j):Nat):Int) (4:Int)=((w / 16^(16-j)*2^4:Nat):Int):=by
    unfold shlI
    rw [show min ((4:Int)).toNat IntKind.u64.bits=4 from rfl,zah]
    omega
   rw [es,and15 _ (by omega),Nat.mod_mod,zlp1 (.inl ⟨rfl,by omega⟩) (by omega)]
   refine ⟨⟨rfl,j+1,by omega,rfl,?_⟩,by omega⟩
   rw [show 16-(j+1)=15-j by omega]
   omega
  grind
 rintro _ h ⟨rfl,rfl⟩
 exact JoinW1.direct (iteF (by decide) (fin h (Hp.le_refl _)))
end
section
variable {h:Hp}
theorem zuq {w x:Nat} {body:List Nat} {Q:Int->Int->Hp->Prop} (hw:w<18446744073709551616) (hi:zbr w ((if negD w then [45] else [])++body)) (hb:body[0]? =some x) (hx:x<256) (x1:x≠45) (x2:x≠110) (hr:w%9223372036854775808<=9218868437227405312)
  (hmid:∀ {K:Int->Hp->Prop},(∀k,h<=k->K ((w%9223372036854775808:Nat):Int) k)->
   (if ((ByteArray.toList (strN body))==(ByteArray.toList ⟨#[105,110,102]⟩))=true then
   K (9218868437227405312:Int) h
   else
   (if ((ByteArray.toList (strN body))==(ByteArray.toList ⟨#[48,101,48]⟩))=true then
   K (0:Int) h
   else
   Call3 prog zgq [(.string (strN body))] (shInt .u64) (shInt .i64) zae (fun r r1 r2 h2=>
   (if (!r2)=true then
   Q (0:Int) (4:Int) h2
   else
   CallT prog zii [(.int .u64 r),(.int .i64 r1)] (shInt .u64) (fun r3 h3=>
   K r3 h3) h2)) h)))
  (hk:∀h' x e,h<=h'->Said (strN ((if negD w then [45] else [])++body)) x e->Q x e h'):zbg prog (strN ((if negD w then [45] else [])++body)) Q h:=by
 have fin:=fun (k:Hp) (hl:h<=k)=>zbj2 (h:=k) (Q:=Q) hw hi rfl fun h' x e hl' hs=>hk h' x e (Hp.le_trans hl hl') hs
 have hl25:=(zqy hi).1
 have hbl:1<=body.length:=by grind
 have g0:((if negD w then [45] else [])++body)[0]? =some (if negD w then 45 else x):=by grind
 have hu:∀ {s:Bool},s=negD w->(if s then (strN ((if negD w then [45] else [])++body)).extract 1 ((if negD w then [45] else [])++body).length else strN ((if negD w then [45] else [])++body))=strN body:=fun {s} hs=>by
  subst hs
  cases negD w with
  | true=>
   rw [if_pos rfl,zgd _ _ _ (Nat.le_refl _),List.take_of_length_le (Nat.le_refl _)]
   rfl
  | false=>rfl
 have hnan:(ByteArray.toList ((strN ((if negD w then [45] else [])++body)).extract 0 4)==ByteArray.toList ⟨#[110,97,110,58]⟩)=false:=by
  rw [Bool.eq_false_iff]
  intro hh
  have e:=zjx1 hh
  have h1:(((strN ((if negD w then [45] else [])++body)).extract 0 4).data.toList.getD 0 0).toNat=110:=by rw [e];rfl
  have h2:((strN ((if negD w then [45] else [])++body)).extract 0 4).data.toList.getD 0 0=(strN ((if negD w then [45] else [])++body)).data.toList.getD 0 0:=by
   rw [ByteArray.data_extract,Array.toList_extract,List.getD_eq_getElem?_getD,List.getD_eq_getElem?_getD]
   simp [List.extract]
  rw [h2,zju g0 (by split<;>omega)] at h1
  grind
 generalize hT:(if negD w then [45] else [])++body=T at*
 have hTl:1<=T.length:=by grind
 unfold zbg
 rw [zal]
 refine iteF (fun hh=>by grind) ⟨fun _=>⟨by decide,by omega⟩,letW ?_⟩
 rw [zju g0 (by split<;>omega)]
 have hy:((decide (((T.length:Nat):Int)>0))&&((((if negD w=true then 45 else x:Nat):Nat):Int)==45))=negD w:=by
  grind
 rw [hy]
 refine JoinW1.intro (fun u k=>k=h/\u=strN body) ?_ ?_
 ·grind
 rintro _ h ⟨rfl,rfl⟩
 refine JoinW1.intro (fun b k=>h<=k/\b=((w%9223372036854775808:Nat):Int)) ⟨fun hh=> ?_,letW ?_⟩ ?_
 ·grind
 ·rw [hnan,Bool.and_false]
  exact iteF (by decide) (hmid fun k hl=>⟨hl,rfl⟩)
 rintro _ k ⟨hl,rfl⟩
 refine JoinW1.intro (fun b k'=>k'=k/\b=(w:Int)) ?_ ?_
 ·have hn:=zhd2 hw
  refine iteB (fun c=>⟨rfl,?_⟩) fun c=>⟨rfl,?_⟩
  ·rw [zml2 (by omega)]
   rw [c] at hn
   have:sgn true=9223372036854775808:=rfl
   omega
  ·have c:negD w=false:=by simpa using c
   rw [c] at hn
   have:sgn false=0:=rfl
   omega
 rintro _ k' ⟨rfl,rfl⟩
 exact fin k' hl
theorem zjy1 {a b:ByteArray} (h:a≠b):¬(a.toList==b.toList)=true:=fun hh=>h (zjx1 hh)
theorem zit2 {xs:List Nat} {b:ByteArray} {x:Nat} (h0:xs[0]? =some x) (hx:x<256) (hb:(b.data.toList.getD 0 0).toNat≠x):strN xs≠b:=fun e=>by
 rw [<-e,zju h0 hx] at hb
 exact hb rfl
theorem zyb1 {t:ByteArray} {Q:Int->Int->Hp->Prop} (hk:∀h' x e,h<=h'->Said t x e->Q x e h'):zbg prog t Q h:=by
 by_cases hT:∃w out,w<18446744073709551616/\zbr w out/\t=strN out
 ·obtain ⟨w,out,hw,hi,rfl⟩:=hT
  have hi0:=hi
  unfold zbr at hi
  split at hi
  ·rename_i c1
   subst hi
   exact zuk1 hw c1 hk
  ·rename_i c1
   split at hi
   ·rename_i c2
    subst hi
    exact zuq (x:=105) hw hi0 rfl (by decide) (by decide) (by decide) (by omega) (fun {K} hK=>iteT (by decide+kernel) (by have:=hK h (Hp.le_refl _);grind)) hk
   ·rename_i c2
    split at hi
    ·rename_i c3
     subst hi
     exact zuq (x:=48) hw hi0 rfl (by decide) (by decide) (by decide) (by omega) (fun {K} hK=>iteF (by decide+kernel) (iteT (by decide+kernel) (by have:=hK h (Hp.le_refl _);grind))) hk
    ·rename_i c3
     obtain ⟨c,ds,eneg,xs,v,s,rfl,hc,hds,dl,hxs,x1,x3,hv,hs,hm,hvb,s0,s1,he⟩:=zrr (by omega) (by omega) hi
     have ef:fltL (negD w) c ds eneg xs=(if negD w then [45] else [])++fltL false c ds eneg xs:=by unfold fltL;simp
     rw [ef] at hi0 hk ⊢
     have g0:(fltL false c ds eneg xs)[0]? =some c:=rfl
     refine zuq (x:=c) hw hi0 g0 (by omega) (by omega) (by omega) (by omega) (fun {K} hK=> ?_) hk
     refine iteF (zjy1 (zit2 g0 (by omega) (by show 105≠c;omega))) (iteF (zjy1 (zit2 g0 (by omega) (by show 48≠c;omega))) ?_)
     refine zne (zdy2 hc hds dl hxs x1 x3 (iteF (by decide) ?_))
     rw [hv,hs]
     refine zlu (zos1 (by omega) (by omega) (by omega) fun k b lk hb hr=> ?_)
     rw [hr (w%9223372036854775808) (by omega) (by omega) (by rw [he];exact zfm1 (by omega) (by omega))]
     exact hK k lk
 ·exact zya1 (fun w out hw hi ht=>hT ⟨w,out,hw,hi,ht⟩) hk
end
def pow10F :List Nat:=[4607182418800017408,4621819117588971520,4636737291354636288,4652007308841189376,4666723172467343360,4681608360884174848,4696837146684686336,4711630319722168320,4726483295884279808,4741671816366391296,4756540486875873280,4771362005757984768,4786511204640096256,4801453603149578240,4816244402031689728,4831355200913801216,4846369599423283200,4861130398305394688,4876203697187506176,4891288408196988160,4906019910204099648,4921056587992461136,4936209963552724370]
structure FEnv (h:Hp):Prop where
 pow:Pow10 h
 small:zlz h
 opt:LdIs h ⟨2,0,none⟩ [.bool true]
 info:LdIs h ⟨7,0,none⟩ [.int .u64 52]
 f10:∃a c,LdIs h ⟨12,0,none⟩ [.slice (some a) 23 c]/\LdIs h a (pow10F.map fun x=>.float .f64 x)
theorem FEnv.mono {h h':Hp} (e:FEnv h) (hl:h<=h'):FEnv h':=by
 obtain ⟨a,c,e1,e2⟩:=e.f10
 exact ⟨zbc hl e.pow,zbc hl e.small,zbc hl e.opt,zbc hl e.info,a,c,zbc hl e1,zbc hl e2⟩
section
variable {neg eneg:Bool} {c:Nat} {ds xs:List Nat} {h:Hp}
theorem ziu2 {s p:ByteArray} {x y:Nat} {Q:Int->Hp->Prop} (hs:1<=s.size) (hp:1<=p.size) (hx:(s.data.toList.getD 0 0).toNat=x) (hy:(p.data.toList.getD 0 0).toNat=y) (hd:x<65) (hne:x≠y) (hq:Q 0 h):zak prog s p Q h:=by
 unfold zak
 refine LoopW1.intro (fun i k=>i=0/\k=h) (fun _ _=>0) ⟨rfl,rfl⟩ ?_
 rintro _ h ⟨rfl,rfl⟩
 have hm:(0:Int)<min2I ((p.size:Nat):Int) ((s.size:Nat):Int):=by unfold min2I;split<;>omega
 rw [show Int.toNat 0=0 from rfl,hx,hy]
 refine iteT (decide_eq_true hm) ⟨⟨by decide,by omega⟩,JoinW1.direct (letW (iteF (fun hh=> ?_) ⟨⟨by decide,by omega⟩,iteT (bne_iff_ne.2 (by omega)) hq⟩))⟩
 grind
theorem zot1 {Q:Nat->Int->Bool->Hp->Prop} (hc:48<=c/\c<58) (hq:Q 0 0 false h):zbd prog (strN (fltL neg c ds eneg xs)) Q h:=by
 have hL:=zgy1 (neg:=neg) (c:=c) (ds:=ds) (eneg:=eneg) (xs:=xs)
 have hm:=zgx1 c ds
 have hm1:1<=(manL c ds).length:=by grind
 have g0:(fltL neg c ds eneg xs)[0]? =some (if neg then 45 else c):=by
  unfold fltL manL
  cases neg<;>rfl
 unfold zbd
 rw [zju g0 (by split<;>omega),zal]
 refine iteF (fun hh=>by grind) ⟨⟨by decide,by omega⟩,JoinW3.direct ?_⟩
 cases neg with
 | false=>
  have nc:∀n:Int,58<=n\/n<48->¬((((if false=true then 45 else c:Nat):Nat):Int)==n)=true:=fun n hn hh=>by
   grind
  refine JoinW1.direct (iteF (nc 43 (by omega)) (iteF (nc 45 (by omega)) ?_))
  refine JoinW1.direct (iteF (nc 105 (by omega)) (iteF (nc 73 (by omega)) ?_))
  exact JoinW1.direct (iteF (nc 110 (by omega)) (iteF (nc 78 (by omega)) hq))
 | true=>
  refine JoinW1.direct (iteF (by simp) (iteT (by simp) ?_))
  refine JoinW1.direct ⟨⟨by decide,by omega⟩,iteT (by simp) ⟨⟨by decide,by omega⟩,?_⟩⟩
  have e:(strN (fltL true c ds eneg xs)).extract 1 (fltL true c ds eneg xs).length=strN (fltL false c ds eneg xs):=by
   rw [zgd _ _ _ (Nat.le_refl _),List.take_of_length_le (Nat.le_refl _)]
   rfl
  rw [e]
  have g1:(fltL false c ds eneg xs)[0]? =some c:=rfl
  have h1:=zgy1 (neg:=false) (c:=c) (ds:=ds) (eneg:=eneg) (xs:=xs)
  refine zat (ziu2 (x:=c) (y:=105) (by rw [zal];omega) (by decide) (zju g1 (by omega)) (by decide) (by omega) (by omega) ?_)
  exact JoinW1.direct (letW (iteF (by decide) (letW (iteF (by decide) hq))))
theorem zqp2 {b:Int}:SemIs prog (convert 51 48 (.int .u64 b)) h (.float .f64 (f64.nearest b)):=by
 refine zir1 fun w=> ?_
 have u1:=run_underlying' (e:=ty51) tb_ok (t:=51) rfl w
 have u2:=run_underlying' (e:=ty48) tb_ok (t:=48) rfl w
 simp only [convert,Sem.run_bind,u1,u2,Result.andThen_ok]
 rfl
end
structure PEnv (h:Hp):Prop where
 env:FEnv h
 tz:LdIs h ⟨14,15,none⟩ [.int .u8 4]
theorem PEnv.mono {h h':Hp} (e:PEnv h) (hl:h<=h'):PEnv h':=⟨e.env.mono hl,zbc hl e.tz⟩
section
variable {h:Hp}
theorem zqq2 {Q:Int->Hp->Prop} (e:PEnv h) (hq:Q 4 h):zhs prog (16:Int) Q h:=by
 unfold zhs
 refine zro ?_
 unfold zlt
 have e1:shrI .u64 (IntKind.wrap .u64 ((bitsI .and .u64 (16:Int) (IntKind.wrap .u64 ((0:Int)-16)))*(285870213051353865:Int))) (58:Int)=15:=by decide+kernel
 rw [e1]
 refine iteF (by decide) ⟨by decide,⟨by decide,by decide⟩,ld_at (sh:=shInt .u8) (4:Int) ?_ hq⟩
 show LdIs h (Addr.add ⟨_,0,none⟩ 15) _
 rw [box_add]
 exact e.tz
theorem zmm2 {w j:Nat} (hj:j<16):(hexL w).drop (16-(j+1))=hexD (w / 16^j%16)::(hexL w).drop (16-j):=by
 have h1:=zih1 (n:=w) (i:=15-j) (by omega)
 obtain ⟨h2,h3⟩:=List.getElem?_eq_some_iff.1 h1
 rw [show 16-(j+1)=15-j by omega,List.drop_eq_getElem_cons h2,h3,show 15-(15-j)=j by omega,show 15-j+1=16-j by omega]
theorem zbk2 :∀d,d<16->(List.getD ([48,49,50,51,52,53,54,55,56,57,97,98,99,100,101,102,103,104,105,106,107,108,109,110,111,112,113,114,115,116,117,118,119,120,121,122]:List UInt8) d 0).toNat=hexD d:=by decide
theorem zbl2 {α:Type} {n:Nat} {z v:α} {suf:List α}:(List.replicate (n+1) z++suf).set n v=List.replicate n z++v::suf:=by
 rw [List.replicate_succ',List.append_assoc,List.set_append_right (h:=by simp)]
 simp
theorem zrn1 {w:Nat} {Q:Sl->ByteArray->Hp->Prop} (e:PEnv h) (hw:w<18446744073709551616) (hw0:1152921504606846976<=w) (hk:∀s h',h<=h'->Q s (strN (hexL w)) h'):
  zfd prog ⟨none,0,0⟩ (w:Int) (16:Int) false false Q h:=by
 unfold zfd
 refine JoinW0.direct (letW (letW (iteF (by decide) ?_)))
 intro b ty hb
 generalize hbuf:([.int .u8 (0:Int),_,_,_,_,_,_,_,_,_,_,_,_,_,_,_,_,_,_,_,_,_,_,_,_,_,_,_,_,_,_,_,_,_,_,_,_,_,_,_,_,_,_,_,_,_,_,_,_,_,_,_,_,_,_,_,_,_,_,_,_,_,_,_,_]:List Value)=buf
 have hbl:buf=List.replicate 65 (Value.int .u8 (0:Int)):=by rw [<-hbuf];rfl
 have hle:=zji (o:=.cells buf.toArray ty (0,0)) hb
 have kb:Blk (h.set b (.cells buf.toArray ty (0,0))) b buf:=⟨ty,zdu⟩
 clear hbuf
 subst hbl
 generalize h.set b (.cells (List.replicate 65 (Value.int .u8 (0:Int))).toArray ty (0,0))=h1 at*
 refine JoinW1.direct (iteF (by decide) ?_)
 refine JoinW1.intro (fun i k=>i=49/\Mv [b] h1 [b] k/\Blk k b (List.replicate 49 (Value.int .u8 (0:Int))++(hexL w).map fun (c:Nat)=>Value.int .u8 (c:Int))) ?_ ?_
 ·refine zok ?_
  unfold ziu
  refine iteT (by decide+kernel) (ztn ?_)
  rw [show IntKind.wrap .u64 (16:Int)=16 by decide]
  refine zqq2 (e.mono hle) ?_
  refine LoopW2.intro (fun u i k=>∃j:Nat,j<=15/\u=((w / 16^j:Nat):Int)/\i=((65-j:Nat):Int)/\Mv [b] h1 [b] k/\Blk k b (List.replicate (65-j) (Value.int .u8 (0:Int))++((hexL w).drop (16-j)).map fun (c:Nat)=>Value.int .u8 (c:Int))) (fun _ i _=>i.toNat)
   ⟨0,by omega,by omega,rfl,Mv.refl _ _,by rw [List.drop_of_length_le (by rw [ztq];omega)];simpa using kb⟩ ?_
  rintro _ _ k ⟨j,hj,rfl,rfl,mv,kb⟩
  have hlt:w / 16^j<18446744073709551616:=Nat.lt_of_le_of_lt (Nat.div_le_self _ _) hw
  have hd:w / 16^j%16<16:=Nat.mod_lt _ (by decide)
  have ei:IntKind.wrap .i64 (((65-j:Nat):Int)-1)=((64-j:Nat):Int):=by rw [zab (by omega) (by omega)];omega
  have hblk:List.replicate (65-j) (Value.int .u8 (0:Int))=List.replicate (64-j+1) (Value.int .u8 (0:Int)):=by grind
  rw [hblk] at kb
  have ea:Addr.add (⟨b,0,none⟩:Addr) (64-j)=⟨b,64-j,none⟩:=by rw [box_add,Nat.zero_add]
  rw [ei,Int.toNat_natCast,Nat.mul_one,ea]
  have hsuf:∀d,d=w / 16^j%16->Value.int .u8 ((hexD d:Nat):Int)::((hexL w).drop (16-j)).map (fun (c:Nat)=>Value.int .u8 (c:Int))=((hexL w).drop (16-(j+1))).map fun (c:Nat)=>Value.int .u8 (c:Int):=fun d e=>by
   rw [zmm2 (by omega),e];rfl
  by_cases h16:16<=w / 16^j
  ·refine iteT (decide_eq_true (by omega)) ?_
   rw [show IntKind.wrap .u64 ((16:Int)-1)=15 by decide,and15 _ hlt,Int.toNat_natCast,zbk2 _ hd]
   have hj15:j<15:=by
    refine Classical.byContradiction fun hn=> ?_
    have:j=15:=by omega
    subst this
    omega
   refine ⟨⟨by omega,by omega⟩,⟨by omega,by omega⟩,put1 kb (by rw [List.length_append,List.length_replicate];omega) fun k2 m2 b2=>⟨by decide,?_⟩⟩
   rw [zbl2,hsuf _ rfl] at b2
   have es:shrI .u64 ((w / 16^j:Nat):Int) (IntKind.wrap .u64 (4:Int))=((w / 16^(j+1):Nat):Int):=by
    rw [show IntKind.wrap .u64 (4:Int)=((4:Nat):Int) by decide,shrN _ (by decide),show (2:Nat)^4=16 from rfl,Nat.div_div_eq_div_mul,Nat.pow_succ]
   rw [es]
   refine ⟨⟨j+1,by omega,rfl,by rw [show 65-(j+1)=64-j by omega],mv.trans m2,?_⟩,by omega⟩
   grind
  ·refine iteF (fun hh=>h16 (by grind)) ?_
   have hj15:j=15:=by
    refine Classical.byContradiction fun hn=>h16 ?_
    have hp:=Nat.pow_le_pow_right (n:=16) (i:=j) (j:=14) (by decide) (by omega)
    rw [Nat.le_div_iff_mul_le (Nat.pow_pos (by decide))]
    omega
   subst hj15
   rw [Nat.mod_eq_of_lt (by omega)] at hd hsuf
   rw [Int.toNat_natCast,zbk2 _ hd]
   refine ⟨⟨by omega,by omega⟩,⟨by omega,by omega⟩,put1 kb (by rw [List.length_append,List.length_replicate];omega) fun k2 m2 b2=>⟨rfl,mv.trans m2,?_⟩⟩
   rw [zbl2,hsuf _ rfl] at b2
   exact b2
 rintro _ k ⟨rfl,mv,kb⟩
 refine iteF (by decide) (iteF (by decide) ⟨by decide,letW ?_⟩)
 have eb:sbase (some ⟨b,0,none⟩) 1 (Int.toNat 49) 65=some ⟨b,49,none⟩:=by unfold sbase;rw [if_neg (by decide)];show some (Addr.add _ _)=_;rw [box_add];rfl
 rw [eb]
 have hin:∀x∈hexL w,x<256:=fun x hx=>by
  unfold hexL at hx
  obtain ⟨i, -,rfl⟩:=List.mem_map.1 hx
  exact zis2 (w / 16^(15-i)%16) (Nat.mod_lt _ (by decide))
 refine ⟨strN (hexL w),zqx (e:=5) (l:=⟨some ⟨b,49,none⟩,65-Int.toNat 49,65-Int.toNat 49⟩) (tb_ok.und _ ty74 rfl) (tb_ok.und _ ty5 rfl) (tb_ok.und _ ty9 rfl) (zjw1 kb (by rw [ztq];rfl) ?_) hin,hk _ _ ?_⟩
 ·rw [List.drop_append_of_le_length (by simp),List.drop_of_length_le (by simp),List.nil_append,List.take_of_length_le (by simp),zon1]
 ·exact fun c o hc=>mv.keep c o (hle c o hc) (by grind)
theorem zdz2 {w:Nat} {Q:ByteArray->Hp->Prop} (e:PEnv h) (hw:w<18446744073709551616) (hw0:1152921504606846976<=w) (hk:∀h',h<=h'->Q (strN (hexL w)) h'):zyy prog (w:Int) Q h:=by
 unfold zyy
 refine zzs ?_
 unfold zsp
 refine zpt ?_
 unfold zjy
 refine iteF (by decide) (zpu (zrn1 e hw hw0 fun s h' hl=> ?_))
 dsimp only
 rw [zal,ztq]
 refine zfi1 ?_
 unfold zae1
 refine iteT (by decide) ⟨?_,?_⟩
 ·show 0+16<=_;decide
 ·have:=hk h' hl
  have e2:(⟨⟨List.append (⟨#[]⟩:ByteArray).data.toList (strN (hexL w)).data.toList⟩⟩:ByteArray)=strN (hexL w):=by
   show (⟨⟨[]++(strN (hexL w)).data.toList⟩⟩:ByteArray)=_
   rw [List.nil_append]
  grind
theorem zmn2 {h0:Hp} {dst:Sl} {xs:List Nat} {neg:Bool} {Q:Sl->Hp->Prop} (hw:h0<=h) (o:ON h0 h dst xs) (hx:xs.length<1000)
  (hk:∀r h',h0<=h'->ON h0 h' r (xs++((if neg then [45] else [])++ [48,101,43,48,48]))->Q r h'):zco prog dst neg ⟨none,0,0⟩ (0:Int) (0:Int) (-1:Int) (101:Int) true Q h:=by
 unfold zco
 refine JoinW2.direct (letW (iteF (by decide) (JoinW1.direct (iteT (by decide) (iteT (by decide) ?_)))))
 refine JoinW1.intro (fun d k=>h0<=k/\ON h0 k d (xs++if neg then [45] else [])) ?_ ?_
 ·cases neg with
  | true=>exact iteT rfl (app1 (c:=45) hw o rfl (by omega) fun l' h' hl' o'=>⟨hl',o'⟩)
  | false=>grind
 rintro d k ⟨lk,od⟩
 have hlen:(xs++if neg then [45] else []).length<1002:=by grind
 rw [<-List.append_assoc] at hk
 generalize (xs++if neg then [45] else [])=ys at*
 refine JoinW1.direct (iteF (by decide) ?_)
 refine app1 (c:=48) lk od rfl (by omega) fun r1 k1 l1 o1=> ?_
 refine JoinW1.direct (iteF (by decide) ?_)
 refine app1 (c:=101) l1 o1 rfl (by grind) fun r2 k2 l2 o2=> ?_
 refine JoinW1.direct (iteT (by decide) (JoinW2.direct (iteF (by decide) ?_)))
 refine app1 (c:=43) l2 o2 rfl (by grind) fun r3 k3 l3 o3=>iteT (by decide) ?_
 refine app2 (c:=48) (d:=48) l3 o3 rfl (by decide) (by grind) fun r4 k4 l4 o4=>hk r4 k4 l4 ?_
 simpa using o4
theorem zjj1 {w:Nat} {Q:ByteArray->Hp->Prop} (hw64:w<18446744073709551616) (w0:w%9223372036854775808=0) (hk:∀h',h<=h'->Q (strN ((if negD w then [45] else [])++ [48,101,43,48,48])) h'):
  zeq prog w (101:Int) (-1:Int) (64:Int) Q h:=by
 unfold zeq
 refine zhk ?_
 unfold zer
 refine iteF (by decide) (iteT (by decide) ⟨by decide,fun b t hb=> ?_⟩)
 have hle:=zji (o:=.cells (zbn [Value.int .u8 (0:Int)] (max2I (IntKind.wrap .i64 ((-1:Int)+4)) 24).toNat).toArray t (0,0)) hb
 have own:ON h (h.set b (.cells (zbn [Value.int .u8 (0:Int)] (max2I (IntKind.wrap .i64 ((-1:Int)+4)) 24).toNat).toArray t (0,0))) ⟨some ⟨b,0,none⟩,(0:Int).toNat,(max2I (IntKind.wrap .i64 ((-1:Int)+4)) 24).toNat⟩ []:=
  ⟨rfl,Nat.zero_le _,.inr ⟨b,_,t,rfl,zdu,(by show (zbn [Value.int .u8 (0:Int)] (max2I (IntKind.wrap .i64 ((-1:Int)+4)) 24).toNat).length=(max2I (IntKind.wrap .i64 ((-1:Int)+4)) 24).toNat*1;decide),rfl,hb⟩⟩
 refine zku ?_
 unfold zej
 refine JoinW4.direct ⟨(w:Int),rfl,⟨by decide,by decide,by decide,by decide,by decide,?_⟩⟩
 have zin:∀ {n:Bool},∀x∈((if n then [45] else [])++ [48,101,43,48,48]:List Nat),x<256:=fun {n} x hx=>by
  grind
 have hcase:w=0\/w=9223372036854775808:=by omega
 have fin:∀ {n:Bool} {r:Sl} {h':Hp},n=negD w->h<=h'->ON h h' r ([]++((if n then [45] else [])++ [48,101,43,48,48]))->∃x,SemIs prog (convert 74 9 r.v) h' (.string x)/\Q x h':=fun {n r h'} hn hl o=>by
  subst hn
  rw [List.nil_append] at o
  exact ⟨_,zqx (e:=5) (tb_ok.und _ ty74 rfl) (tb_ok.und _ ty5 rfl) (tb_ok.und _ ty9 rfl) (Own.rw o zrq) zin,hk h' hl⟩
 rw [show IntKind.wrap .i64 ((shlI .i64 (1:Int) (11:Int))-(1:Int))=((2^11-1:Nat):Int) by decide,show IntKind.wrap .u64 ((shlI .u64 (1:Int) (52:Int))-(1:Int))=(4503599627370495:Int) by decide,show shlI .u64 (1:Int) (52:Int)=((1*2^52:Nat):Int) by decide,
  show IntKind.wrap .i64 ((11:Int)+(52:Int))=((63:Nat):Int) by decide,show (52:Int)=((52:Nat):Int) from rfl,shrN w (by decide),shrN w (by decide),ztv1 11 (by omega) (by decide),zqy1 hw64]
 have hneg:(((w / 2^63:Nat):Int) !=(0:Int))=negD w:=by
  unfold negD
  grind
 rw [hneg,show w / 2^52%2^11=0 by omega,show w%4503599627370496=0 by omega]
 clear hneg hcase w0 hw64
 refine iteF (by decide) (JoinW2.direct (iteT (by decide) (iteF (by decide) (letW (iteF (by decide) (iteT rfl ?_))))))
 refine zkv (s:=⟨none,0,0⟩) ?_
 exact zmn2 hle own (by decide) fun r h' hl o=>fin rfl hl o
end
section
variable {h:Hp}
theorem zcy1 {n:Int} {w:Nat} {Q:ByteArray->Hp->Prop} (hn:IntKind.wrap .u64 n=(w:Int)) (hw:w<18446744073709551616) (e:PEnv h) (hk:∀h' out,h<=h'->zbr w out->Q (strN out) h'):zqg prog n Q h:=by
 have hf:zof1 n=w:=by unfold zof1;omega
 by_cases c1:9218868437227405312<w%9223372036854775808
 ·unfold zqg
  refine zwx (zrd1 ?_)
  rw [hf]
  refine zkb (sh:=zae) (v:=isNaN w) rfl (iteT (by rw [zqv1 hw];exact decide_eq_true c1) ?_)
  rw [hn]
  refine zjf1 (zdz2 e hw (by omega) fun h' hl=>⟨by rw [zal,ztq];decide,?_⟩)
  have e1:(⟨⟨110::(97::(110::(58::(strN (hexL w)).data.toList)))⟩⟩:ByteArray)=strN ([110,97,110,58]++hexL w):=by rw [<-zmh];rfl
  rw [e1]
  exact hk h' _ hl (by unfold zbr;rw [if_pos c1])
 by_cases c0:0<w%9223372036854775808/\w%9223372036854775808<9218868437227405312
 ·obtain ⟨f1,f2⟩:=zie1 c0.1 c0.2
  refine zmg2 hf c0.1 c0.2 f1 (by omega) e.env.pow e.env.small fun h' out hl hp=>hk h' out hl ?_
  unfold zbr
  rw [if_neg c1,if_neg (by omega),if_neg (by omega)]
  exact zuf1 c0.1 c0.2 hp
 have nn:¬isNaN w=true:=by rw [zqv1 hw];exact zru c1
 unfold zqg
 refine zwx (zrd1 ?_)
 rw [hf]
 refine zkb (sh:=zae) (v:=isNaN w) rfl (iteF nn ?_)
 have o1:=zzu (a:=w) (b:=9218868437227405311) hw (by omega) c1 (by omega)
 have o2:=zzu (a:=w) (b:=18442240474082181119) hw (by omega) c1 (by omega)
 have r1:rzD 9218868437227405311=9218868437227405311:=by unfold rzD negD;simp
 have r2:rzD 18442240474082181119= -9218868437227405311:=by unfold rzD negD;simp
 rw [r1] at o1
 rw [r2] at o2
 have gt_:∀ {x y:Int},y<x->compare x y=.gt:=fun {x y} h=>by rw [Int.compare_eq_gt];omega
 have lt_:∀ {x y:Int},x<y->compare x y=.lt:=fun {x y} h=>by rw [Int.compare_eq_lt];omega
 have hz:rzD w=if negD w then -((w%9223372036854775808:Nat):Int) else ((w%9223372036854775808:Nat):Int):=rfl
 by_cases c2:w%9223372036854775808=9218868437227405312
 ·rw [c2] at hz
  cases hb:negD w with
  | false=>
   rw [hb,if_neg (by decide)] at hz
   refine zkb (sh:=zae) (v:=f64.format.order w 9218868437227405311==some .gt) rfl (iteT ?_ ?_)
   ·show (dbl.order w 9218868437227405311==some .gt)=true
    grind
   ·refine hk h [105,110,102] (Hp.le_refl _) ?_
    unfold zbr
    rw [if_neg c1,if_pos c2,hb];rfl
  | true=>
   rw [hb,if_pos rfl] at hz
   refine zkb (sh:=zae) (v:=f64.format.order w 9218868437227405311==some .gt) rfl (iteF (fun hh=> ?_) ?_)
   ·have hh:(dbl.order w 9218868437227405311==some .gt)=true:=hh
    grind
   refine zkb (sh:=zae) (v:=f64.format.order w 18442240474082181119==some .lt) rfl (iteT ?_ ?_)
   ·show (dbl.order w 18442240474082181119==some .lt)=true
    grind
   ·refine hk h [45,105,110,102] (Hp.le_refl _) ?_
    unfold zbr
    rw [if_neg c1,if_pos c2,hb];rfl
 ·have c3:w%9223372036854775808=0:=by omega
  rw [c3] at hz
  have hz0:rzD w=0:=by omega
  refine zkb (sh:=zae) (v:=f64.format.order w 9218868437227405311==some .gt) rfl (iteF (fun hh=> ?_) ?_)
  ·have hh:(dbl.order w 9218868437227405311==some .gt)=true:=hh
   grind
  refine zkb (sh:=zae) (v:=f64.format.order w 18442240474082181119==some .lt) rfl (iteF (fun hh=> ?_) ?_)
  ·have hh:(dbl.order w 18442240474082181119==some .lt)=true:=hh
   grind
  have hfin:zbr w ((if negD w then [45] else [])++ [48,101,48]):=by
   unfold zbr
   grind
  refine zny (zjj1 hw c3 fun h1 l1=> ?_)
  have es:(if negD w then [45] else [])++ [48,101,43,48,48]=((if negD w then [45] else [])++ [48])++101:: [43,48,48]:=by simp
  rw [es]
  refine zjz (zol2 (c:=101) (by decide) ?_ (by simp) (by cases negD w<;>simp) ?_)
  ·intro x hx
   cases hb:negD w<;>rw [hb] at hx<;>simp at hx<;>omega
  refine zyb (zif2 (sg:=43) (zs:=[48,48]) (.inl rfl) (by decide) (by decide) (by decide) fun h2 er l2 _=> ?_)
  have e0:(if (43:Nat)=45 then -((numV [48,48]:Nat):Int) else ((numV [48,48]:Nat):Int))=0:=by decide
  rw [e0]
  have hsz:∀xs:List Nat,(⟨⟨List.append (strN xs).data.toList [101]⟩⟩:ByteArray)=strN (xs++ [101]):=fun xs=>by rw [<-zmh];rfl
  have hl2:((if negD w then [45] else [])++ [48]:List Nat).length<=2:=by cases negD w<;>simp
  refine ⟨by rw [zal];omega,zqu (zxv1 (by decide) (by decide) (zbc (Hp.le_trans l1 l2) e.env.small) fun zs h3 l3 hz3=> ?_)⟩
  have hzs:zs=[48]:=by
   have:=zgt1 hz3
   rw [this,show Int.natAbs 0=0 from rfl,zdm1 (by decide)]
  subst hzs
  rw [hsz]
  refine ⟨by rw [zal,zal,List.length_append];simp only [List.length_cons,List.length_nil];show _+_<=_;rw [show (signL 0++ [48]:List Nat).length=1 from rfl];omega,?_⟩
  have e3:(⟨⟨List.append (List.append (strN ((if negD w then [45] else [])++ [48])).data.toList [101]) (strN (signL 0++ [48])).data.toList⟩⟩:ByteArray)=strN ((if negD w then [45] else [])++ [48,101,48]):=by
   have e4:List.append (strN ((if negD w then [45] else [])++ [48])).data.toList [101]=(strN (((if negD w then [45] else [])++ [48])++ [101])).data.toList:=by grind
   rw [e4,zmh]
   congr 1
   cases negD w<;>rfl
  rw [e3]
  exact hk h3 _ (Hp.le_trans l1 (Hp.le_trans l2 l3)) hfin
end
end Lf
namespace Lf
def WholeF (x m:Nat):Prop:=4503599627370496<=x/\x<9218868437227405312/\ -60<=zad x/\zad x<=60/\zac x*2^(zad x+60).toNat=m*2^60
theorem zlz1 {m:Nat} (m0:0<m) (m1:m<9007199254740992):WholeF (rungD m 0 false) m:=by
 have hb:=zra m
 have hl:2^(bitsN m-1)<=m:=by
  unfold bitsN
  rw [if_neg (by omega),Nat.add_sub_cancel]
  exact Nat.log2_self_le (by omega)
 have hb0:1<=bitsN m:=by grind
 have hb1:bitsN m<=53:=by
  refine Classical.byContradiction fun hn=> ?_
  have:=Nat.pow_le_pow_right (n:=2) (i:=53) (j:=bitsN m-1) (by decide) (by omega)
  omega
 have ho:offD m 0=(bitsN m:Int)-53:=by
  unfold offD
  omega
 obtain ⟨j,hj⟩:∃j:Nat,53=bitsN m+j:=⟨53-bitsN m,by omega⟩
 have hq:keptD m (offD m 0) false=m*2^j:=by
  unfold keptD
  grind
 have q0:4503599627370496<=m*2^j:=by
  have:=Nat.mul_le_mul_right (2^j) hl
  rw [<-Nat.pow_add,show bitsN m-1+j=52 by omega] at this
  exact this
 have q1:m*2^j<9007199254740992:=by
  have:=Nat.mul_lt_mul_of_pos_right hb (Nat.two_pow_pos j)
  rw [<-Nat.pow_add,<-hj] at this
  exact this
 have e:rungD m 0 false=(1075-j)*4503599627370496+(m*2^j-4503599627370496):=by
  have e0:rungD m 0 false=if keptD m (offD m 0) false<4503599627370496 then keptD m (offD m 0) false else if 2047<=0+offD m 0+1075 then 9218868437227405312 else min ((0+offD m 0+1075).toNat*4503599627370496+(keptD m (offD m 0) false-4503599627370496)) 9218868437227405312:=rfl
  rw [e0,hq]
  have hoj:offD m 0= -(j:Int):=by omega
  rw [hoj]
  clear hq ho e0 hoj hb hl hb0
  generalize m*2^j=q at*
  rw [if_neg (show ¬q<4503599627370496 by omega),if_neg (show ¬(2047:Int)<=0+ -(j:Int)+1075 by omega),show ((0:Int)+ -(j:Int)+1075).toNat=1075-j by omega]
  omega
 have hx:¬rungD m 0 false<4503599627370496:=by omega
 have hd:rungD m 0 false / 4503599627370496=1075-j:=by omega
 have hr:rungD m 0 false%4503599627370496=m*2^j-4503599627370496:=by omega
 have hM:zac (rungD m 0 false)=m*2^j:=by unfold zac;grind
 have hE:zad (rungD m 0 false)= -(j:Int):=by unfold zad;omega
 refine ⟨by omega,by omega,by omega,by omega,?_⟩
 rw [hM,hE,Nat.mul_assoc,<-Nat.pow_add,show j+(-(j:Int)+60).toNat=60 by omega]
theorem zea2 :∀k,k<23->(decide (4503599627370496<=pow10F.getD k 0)&&decide (pow10F.getD k 0<9218868437227405312)&&decide (-60<=zad (pow10F.getD k 0))&&decide (zad (pow10F.getD k 0)<=60)&&decide (zac (pow10F.getD k 0)*2^(zad (pow10F.getD k 0)+60).toNat=10^k*2^60))=true:=by decide+kernel
theorem zma1 {k x:Nat} (hx:pow10F[k]? =some x):WholeF x (10^k)/\k<23:=by
 have hk:k<23:=(List.getElem?_eq_some_iff.1 hx).1
 have:=zea2 k hk
 rw [show pow10F.getD k 0=x by grind] at this
 simp only [Bool.and_eq_true,decide_eq_true_eq] at this
 exact ⟨⟨this.1.1.1.1,this.1.1.1.2,this.1.1.2,this.1.2,this.2⟩,hk⟩
theorem WholeF.val {x m:Nat} (h:WholeF x m):zac x*unitW (zad x) 0=m*unitW 0 0:=by
 obtain ⟨-, -,a,b,c⟩:=h
 have e1:=zda (a:= -60) (b:=0) (n:=(zad x+60).toNat) (by omega)
 have e2:=zda (a:= -60) (b:=0) (n:=60) (by omega)
 grind
theorem WholeF.m {x m:Nat} (h:WholeF x m):4503599627370496<=zac x/\zac x<9007199254740992:=by
 obtain ⟨a, -⟩:=h
 unfold zac
 grind
theorem WholeF.one {x m:Nat} (h:WholeF x m):inF x (m*unitW 0 0)=true:=by
 rw [<-h.val]
 obtain ⟨a,b,c, -⟩:=h
 have e3:zac x*unitW (zad x) 0=vF x:=by
  unfold vF kF
  rw [<-zjc 2 4 rfl (a:=zad x-2) (b:=zad x) (by omega) (by omega)]
  ac_rfl
 obtain ⟨v1,v2⟩:=v_in (r:=x) (by omega) b
 rw [e3]
 exact zoj2 (by omega) (by omega) fun _=>⟨v1,v2⟩
section
variable {r x y m n:Nat}
theorem zmo2 (h1:0<r) (h2:r<9218868437227405312) (hx:WholeF x m) (hy:WholeF y n) (hin:inF r (m*n*unitW 0 0)=true):rungD (zac x*zac y) (zad x+zad y) false=r:=by
 have a:=hx.m
 have b:=hy.m
 refine zxt1 h1 h2 (Nat.ne_of_gt (Nat.mul_pos (by omega) (by omega))) (by have:=hx.2.2.1;have:=hy.2.2.1;omega) ?_
 rw [show zac x*zac y*unitW (zad x+zad y) 0=m*n*unitW 0 0 from ?_]
 ·exact hin
 obtain ⟨-, -,a1, -,c1⟩:=hx
 obtain ⟨-, -,a2, -,c2⟩:=hy
 have e1:=zda (a:= -120) (b:=0) (n:=(zad x+60).toNat+(zad y+60).toNat) (by omega)
 have e2:=zda (a:= -120) (b:=0) (n:=60+60) (by omega)
 grind
theorem zou1 {s:Bool} (h1:0<r) (h2:r<9218868437227405312) (hx:WholeF x m) (hy:WholeF y n) (hin:inF r (m*n*unitW 0 0)=true):mulD (sgn s+x) y=sgn s+r:=by
 have e:=zmo2 h1 h2 hx hy hin
 have a:=hx.m
 have b:=hy.m
 obtain ⟨x0,x1, -⟩:=hx
 obtain ⟨y0,y1, -⟩:=hy
 have hm:(sgn s+x)%9223372036854775808=x:=by unfold sgn;cases s<;>simp<;>omega
 have hn:negD (sgn s+x)=s:=by unfold negD sgn;cases s<;>simp<;>omega
 have hy2:y%9223372036854775808=y:=by omega
 have hny:negD y=false:=by unfold negD;rw [decide_eq_false (by omega)]
 have nx:¬zor (sgn s+x)=true:=zru (by rw [hm];omega)
 have ny:¬zor y=true:=zru (by rw [hy2];omega)
 unfold mulD
 dsimp only
 rw [hm,hy2,hn,hny,if_neg (fun h=>h.elim nx fun h=>h.elim ny fun h=>h.elim (fun h=>by omega) fun h=>by omega),if_neg (by omega)]
 unfold zjj
 rw [if_neg (Nat.ne_of_gt (Nat.mul_pos (by omega) (by omega))),Bool.xor_false,e]
theorem zeb2 {s:Bool} {k:Nat} (h1:0<r) (h2:r<9218868437227405312) (hx:WholeF x m) (hy:WholeF y (10^k)) (hk:k<=22) (hin:inF r (m*unitW 0 (-(k:Int)))=true):divD (sgn s+x) y=sgn s+r:=by
 have a:=hx.m
 have b:=hy.m
 obtain ⟨x0,x1,a1,b1,c1⟩:=hx
 obtain ⟨y0,y1,a2,b2,c2⟩:=hy
 have hm:(sgn s+x)%9223372036854775808=x:=by unfold sgn;cases s<;>simp<;>omega
 have hn:negD (sgn s+x)=s:=by unfold negD sgn;cases s<;>simp<;>omega
 have hy2:y%9223372036854775808=y:=by omega
 have hny:negD y=false:=by unfold negD;rw [decide_eq_false (by omega)]
 have nx:¬zor (sgn s+x)=true:=zru (by rw [hm];omega)
 have ny:¬zor y=true:=zru (by rw [hy2];omega)
 have key:zac x*2^128*unitW (zad x-zad y-128) 0=zac y*(m*unitW 0 (-(k:Int))):=by
  have e1:=zda (a:=zad x-zad y-128) (b:=0) (n:=128) (by omega)
  rw [show zad x-zad y-128+((128:Nat):Int)=zad x-zad y by omega] at e1
  have e2:=zda (a:=zad x-zad y) (b:=0) (n:=(zad y+60).toNat) (by omega)
  rw [show zad x-zad y+((zad y+60).toNat:Int)=zad x+60 by omega] at e2
  have e3:=zda (a:=0) (b:=0) (n:=(zad x+60).toNat) (by omega)
  rw [show (0:Int)+((zad x+60).toNat:Int)=zad x+60 by omega] at e3
  have e4:=zfj (a:=0) (b:= -(k:Int)) (n:=k) (by omega)
  rw [show -(k:Int)+(k:Int)=0 by omega] at e4
  refine Nat.eq_of_mul_eq_mul_left (Nat.two_pow_pos (zad y+60).toNat) ?_
  grind
 have hq:1152921504606846976<=zac x*2^128 / zac y:=by
  rw [Nat.le_div_iff_mul_le (by omega)]
  omega
 have hB:0<zac y:=by omega
 have hdm:=Nat.div_add_mod (zac x*2^128) (zac y)
 have hlt:=Nat.mod_lt (zac x*2^128) hB
 have e:rungD (zac x*2^128 / zac y) (zad x-zad y-128) (decide (0<zac x*2^128%zac y))=r:=by
  generalize zac x*2^128 / zac y=q at*
  generalize zac x*2^128%zac y=z at*
  generalize hX:m*unitW 0 (-(k:Int))=X at*
  have hU:=zbq (zad x-zad y-128) 0
  rw [<-hdm] at key
  by_cases hz:z=0
  ·rw [decide_eq_false (by omega)]
   refine zxt1 h1 h2 (by omega) (by omega) ?_
   rw [show q*unitW (zad x-zad y-128) 0=X from ?_]
   ·exact hin
   refine Nat.eq_of_mul_eq_mul_left hB ?_
   grind
  ·rw [decide_eq_true (by omega)]
   refine zqh2 (X:=X) h1 h2 hq (by omega) ?_ ?_ hin
   ·refine Nat.lt_of_mul_lt_mul_left (a:=zac y) ?_
    rw [<-key,Nat.add_mul,<-Nat.mul_assoc]
    have:=Nat.mul_pos (show 0<z by omega) hU
    omega
   ·refine Nat.lt_of_mul_lt_mul_left (a:=zac y) ?_
    rw [<-key,<-Nat.mul_assoc,Nat.mul_add,Nat.mul_one]
    exact Nat.mul_lt_mul_of_pos_right (by omega) hU
 unfold divD
 dsimp only
 rw [hm,hy2,hn,hny,if_neg (fun h=>h.elim nx fun h=>h.elim ny fun h=>h.elim (fun h=>by omega) fun h=>by omega),if_neg (by omega),if_neg (by omega)]
 unfold zjj
 rw [if_neg (Nat.ne_of_gt (Nat.lt_of_lt_of_le (by decide) hq)),Bool.xor_false,e]
theorem ziv2 (hx:WholeF x m) (hy:WholeF y n) (h0:0<m*n) (hle:m*n<=1000000000000000):∃z,WholeF z (m*n)/\∀s,mulD (sgn s+x) y=sgn s+z:=by
 have hz:=zlz1 h0 (by omega)
 exact ⟨_,hz,fun s=>zou1 (by have:=hz.1;omega) hz.2.1 hx hy hz.one⟩
theorem ziw2 (hx:WholeF x m) (hy:WholeF y n) (hgt:1000000000000000<m*n):4831355200913801216<rungD (zac x*zac y) (zad x+zad y) false:=by
 have e:rungD 1000000000000001 0 false=4831355200913801224:=by decide+kernel
 have a:=hx.m
 have b:=hy.m
 obtain ⟨-, -,a1, -,c1⟩:=hx
 obtain ⟨-, -,a2, -,c2⟩:=hy
 have:=zhy2 (m:=1000000000000001) (n:=zac x*zac y) (e:=0) (f:=zad x+zad y) (K:=0) (by decide) (Nat.ne_of_gt (Nat.mul_pos (by omega) (by omega))) (by omega) (by omega) (by
  obtain ⟨T,hT⟩:∃T:Nat,T=954:=⟨_,rfl⟩
  rw [show ((0:Int)+1074+((0:Nat):Int)).toNat=60+60+T by omega,show (zad x+zad y+1074+((0:Nat):Int)).toNat=(zad x+60).toNat+(zad y+60).toNat+T by omega,Nat.pow_add,Nat.pow_add,Nat.pow_add,Nat.pow_add]
  generalize 2^(zad x+60).toNat=p1 at*
  generalize 2^(zad y+60).toNat=p2 at*
  generalize (2:Nat)^60=s at*
  generalize (2:Nat)^T=t at*
  rw [show zac x*zac y*(p1*p2*t)=(zac x*p1)*(zac y*p2)*t by ac_rfl,c1,c2,show m*s*(n*s)*t=m*n*(s*s*t) by ac_rfl]
  exact Nat.mul_le_mul_right _ (by omega))
 omega
end
end Lf
namespace Lf
open Go Go.Proofs Tryz
theorem zqr2 (a n:Nat):a&&&2^n=if a / 2^n%2=1 then 2^n else 0:=by
 refine Nat.eq_of_testBit_eq fun i=> ?_
 grind
theorem and52 {a:Nat} (ha:a<18446744073709551616):(bitsI .and .u64 (a:Int) (4503599627370496:Int)==0)=decide (a / 4503599627370496%2=0):=by
 unfold bitsI
 dsimp only
 rw [zrb,BitVec.toNat_and,zlx ha,show (BitVec.ofInt 64 4503599627370496).toNat=2^52 by decide,zqr2]
 by_cases h:a / 2^52%2=1
 ·rw [if_pos h,decide_eq_false (by omega)];decide
 ·rw [if_neg h,decide_eq_true (by omega)];decide
theorem zmp2 {s f:Nat} (hs:s=0\/s=9223372036854775808) (hf:f<4503599627370496):bitsI .andNot .u64 ((s+(4503599627370496+f):Nat):Int) (4503599627370496:Int)=((s+f:Nat):Int):=by
 unfold bitsI
 dsimp only
 have ha:s+(4503599627370496+f)<18446744073709551616:=by omega
 rw [zrb,BitVec.toNat_and,zlx ha,show (~~~ BitVec.ofInt 64 4503599627370496).toNat=2^53*(2^11-1)+(2^52-1) by decide]
 have key:(s+(4503599627370496+f))&&&(2^53*(2^11-1)+(2^52-1))=s+f:=by
  have h1:=Nat.and_div_two_pow (a:=s+(4503599627370496+f)) (b:=2^53*(2^11-1)+(2^52-1)) (n:=53)
  have h2:=Nat.and_mod_two_pow (a:=s+(4503599627370496+f)) (b:=2^53*(2^11-1)+(2^52-1)) (n:=53)
  rw [show (2^53*(2^11-1)+(2^52-1)) / 2^53=2^11-1 by decide,Nat.and_two_pow_sub_one_eq_mod] at h1
  rw [show (2^53*(2^11-1)+(2^52-1))%2^53=2^52-1 by decide,Nat.and_two_pow_sub_one_eq_mod] at h2
  omega
 rw [key,zah]
 omega
theorem zyc1 (s:Int):∃n:Nat,n<64/\bitsI .and .i64 s (63:Int)=(n:Int):=by
 refine ⟨((BitVec.ofInt 64 s)&&&(BitVec.ofInt 64 63)).toNat,?_,?_⟩
 ·rw [BitVec.toNat_and,show (BitVec.ofInt 64 63).toNat=2^6-1 by decide,Nat.and_two_pow_sub_one_eq_mod]
  omega
 ·have:((BitVec.ofInt 64 s)&&&(BitVec.ofInt 64 63)).toNat<64:=by
   rw [BitVec.toNat_and,show (BitVec.ofInt 64 63).toNat=2^6-1 by decide,Nat.and_two_pow_sub_one_eq_mod]
   omega
  show IntKind.wrap .i64 ((((BitVec.ofInt 64 s)&&&(BitVec.ofInt 64 63)).toNat:Nat):Int)=_
  exact zab (by omega) (by omega)
section
variable {h:Hp}
theorem ziz1 {b:Nat} {x0 x1 x2:Value} {e p lp:Int} {Q:Hp->Prop} (k:Blk h b [x0,x1,x2]) (t:Pow10 h) (hb:b≠8) (h0: -348<=p) (h1:p<=347) (hl:lp=log2P p) (he: -5000<=e/\e<=5000)
  (hk:∀h',Mv [b] h [b] h'->Blk h' b [.int .u64 (hiP p:Int),.int .u64 (loP p:Int),.int .i64 (-(e+lp+3))]->Q h'):zcf prog (some ⟨b,0,none⟩) e p lp Q h:=by
 unfold zcf
 have hlp: -1200<=lp/\lp<=1200:=by subst hl;unfold log2P;omega
 have e1:IntKind.wrap .i64 (p-(-348:Int))=p+348:=by rw [zab (by omega) (by omega)];omega
 have e2:IntKind.wrap .i64 ((0:Int)-(IntKind.wrap .i64 ((IntKind.wrap .i64 (e+lp))+(3:Int))))= -(e+lp+3):=by
  rw [zab (n:=e+lp) (by omega) (by omega),zab (n:=e+lp+3) (by omega) (by omega),zab (by omega) (by omega)]
  omega
 rw [e1,e2]
 obtain ⟨c1,c2⟩:=zjr1 t h0 h1
 have a1:Addr.add (Addr.add ⟨8,0,none⟩ ((p+348).toNat*2)) 0=⟨8,(p+348).toNat*2,none⟩:=by rw [box_add,box_add];simp
 have a2:Addr.add (Addr.add ⟨8,0,none⟩ ((p+348).toNat*2)) 1=⟨8,(p+348).toNat*2+1,none⟩:=by rw [box_add,box_add];simp
 rw [a1,a2]
 refine ⟨⟨by omega,by omega⟩,ld_at (sh:=shInt .u64) (hiP p:Int) c1 (zag ?_)⟩
 refine put1 (i:=0) k (by simp) fun k1 m1 b1=> ?_
 have c2':=zhl2 c2 m1 (by grind)
 refine ⟨⟨by omega,by omega⟩,ld_at (sh:=shInt .u64) (loP p:Int) c2' (zag ?_)⟩
 refine put1 (i:=1) b1 (by simp) fun k2 m2 b2=> ?_
 refine zag (put1 (i:=2) b2 (by simp) fun k3 m3 b3=> ?_)
 exact hk k3 (m1.trans (m2.trans m3)) b3
theorem zec2 {x hi lo b:Nat} {s:Int} {Q:Int->Hp->Prop} (hx:x<18446744073709551616) (hh:hi<18446744073709551616) (hl:lo<18446744073709551616)
  (k:Blk h b [.int .u64 (hi:Int),.int .u64 (lo:Int),.int .i64 s]) (hq:∀u:Nat,u<18446744073709551616->Q (u:Int) h):zcp prog x (some ⟨b,0,none⟩) Q h:=by
 unfold zcp
 have fin:∀x:Int,(∃u:Nat,x=(u:Int)/\u<18446744073709551616)->Q x h:=fun x ⟨u,e,hu⟩=>e▸hq u hu
 refine zag (ld_at (sh:=shInt .u64) (hi:Int) (k.ldIs (off:=0) (n:=1) rfl) (zib (zjq1 hx hh ?_)))
 refine zag (ld_at (sh:=shInt .i64) s (k.ldIs (off:=2) (n:=1) rfl) ?_)
 obtain ⟨n,hn,e⟩:=zyc1 s
 rw [e]
 refine ⟨by omega,by omega,iteB (fun _=>⟨by omega,fin _ (zba _ _ _)⟩) fun _=> ?_⟩
 refine zag (ld_at (sh:=shInt .u64) (lo:Int) (k.ldIs (off:=1) (n:=1) rfl) (zib (zjq1 hx hl ?_)))
 refine zap (zgo1 ⟨by omega,?_⟩)
 exact zap (zgo1 (fin _ (zba _ _ _)))
theorem zid {m:Int} {n:Nat} {K:Nat->Hp->Prop} (e:m=(n:Int)) (hn:n<18446744073709551616) (hk:K n h):SemE prog (Extern.MathFloatBits.float64frombits #[(.int .u64 m)]) (shFlt .f64) K h:=by
 subst e
 refine ⟨n,?_,hk⟩
 simp
theorem zed2 {m e:Int} {Q:Nat->Leaf->Hp->Prop} (hm:∃n:Nat,m=(n:Int)/\n<18446744073709551616) (hq:∀(f:Nat) (er:Leaf),(er.v=.nilIface\/er.v=.iface 122 (.int .i64 (1:Int)))->Q f er h):zcr prog m e Q h:=by
 unfold zcr
 obtain ⟨n,rfl,hn⟩:=hm
 refine iteB (fun _=>zid rfl hn ⟨⟨.nilIface,rfl⟩,rfl,hq _ _ (.inl rfl)⟩) fun _=>iteB (fun _=> ?_) fun _=>⟨by decide,?_⟩
 ·obtain ⟨u,e1,hu⟩:=zba .or (bitsI .and .u64 (n:Int) (9223372036854775808:Int)) (9218868437227405312:Int)
  exact zid e1 hu ⟨⟨.iface 122 (.int .i64 1),rfl⟩,rfl,hq _ _ (.inr rfl)⟩
 ·obtain ⟨u,e1,hu⟩:=zba .or (bitsI .andNot .u64 (n:Int) (4503599627370496:Int)) (shlI .u64 (IntKind.wrap .u64 (IntKind.wrap .i64 ((1075:Int)+e))) (52:Int))
  exact zid e1 hu ⟨⟨.nilIface,rfl⟩,rfl,hq _ _ (.inl rfl)⟩
theorem zul1 {r:Nat} {s:Bool} {Q:Nat->Leaf->Hp->Prop} (h1:0<r) (h2:r<9218868437227405312) (hq:∀er:Leaf,er.v=.nilIface->Q (sgn s+r) er h):zcr prog ((sgn s+zac r:Nat):Int) (zad r) Q h:=by
 unfold zcr
 have hs:=zud1 s
 by_cases hr:r<4503599627370496
 ·have hM:zac r=r:=by unfold zac;rw [if_pos hr]
  rw [hM]
  refine iteT ?_ (zid rfl (by omega) ⟨⟨.nilIface,rfl⟩,rfl,hq _ rfl⟩)
  rw [and52 (by omega)]
  grind
 ·have hM:zac r=4503599627370496+r%4503599627370496:=by unfold zac;grind
  have hE:zad r=((r / 4503599627370496:Nat):Int)-1075:=by unfold zad;rw [if_neg hr]
  rw [hM,hE]
  refine iteF ?_ (iteF (fun hh=>by grind) ⟨by decide,?_⟩)
  ·rw [and52 (by omega)]
   grind
  ·have e1:IntKind.wrap .u64 (IntKind.wrap .i64 ((1075:Int)+(((r / 4503599627370496:Nat):Int)-1075)))=((r / 4503599627370496:Nat):Int):=by rw [zab (by omega) (by omega),zah];omega
   have e2:shlI .u64 ((r / 4503599627370496:Nat):Int) (52:Int)=((r / 4503599627370496*2^52:Nat):Int):=shlN (n:=52) (by decide) (by omega)
   rw [e1,e2,zmp2 hs (Nat.mod_lt _ (by decide))]
   have e3:bitsI .or .u64 ((sgn s+r%4503599627370496:Nat):Int) ((r / 4503599627370496*2^52:Nat):Int)=((sgn s+r:Nat):Int):=by
    have a1:=zlp1 (k:=.u64) (a:=r / 4503599627370496) (s:=52) (v:=r%4503599627370496) (.inl ⟨rfl,by omega⟩) (Nat.mod_lt _ (by decide))
    rw [show r / 4503599627370496*2^52+r%4503599627370496=r by omega] at a1
    have a2:=zqx1 (s:=s) (a:=r) (by omega)
    have a3:=zqx1 (s:=s) (a:=r%4503599627370496) (by omega)
    have f:∀ {x y:Nat},x<18446744073709551616->y<18446744073709551616->bitsI .or .u64 (x:Int) (y:Int)=((x ||| y:Nat):Int):=fun hx hy=>orN hx hy
    have a0:=Nat.div_mul_le_self r (2^52)
    rw [f (by omega) (by omega)] at a1 a2 a3 ⊢
    grind
   exact zid e3 (by omega) ⟨⟨.nilIface,rfl⟩,rfl,hq _ rfl⟩
end
theorem zsc2 (u:Nat):u ||| u%2=u:=by
 refine Nat.eq_of_testBit_eq fun i=> ?_
 rw [Nat.testBit_or]
 cases i with
 | zero=>simp
 | succ i=>
  rw [Nat.testBit_succ (u%2),show u%2 / 2=0 by omega,Nat.zero_testBit,Bool.or_false]
section
variable {h:Hp}
theorem and1 {u:Nat} (hu:u<18446744073709551616):bitsI .and .u64 (u:Int) (1:Int)=((u%2:Nat):Int):=by
 unfold bitsI
 dsimp only
 rw [zrb,BitVec.toNat_and,zlx hu,show (BitVec.ofInt 64 1).toNat=2^1-1 by decide,Nat.and_two_pow_sub_one_eq_mod,zah]
 omega
theorem zbm2 {Q:Int->Hp->Prop} (hq:Q 36028797018963966 h):ziv prog (9007199254740992:Int) Q h:=by
 unfold ziv
 exact ⟨by decide,hq⟩
abbrev ErOk (er:Leaf):Prop:=er.v=.nilIface\/er.v=.iface 122 (.int .i64 (1:Int))
theorem zsd2 {d:Nat} (hd:d<18446744073709551616):bitsN d<=64:=zra1 (by omega)
theorem zmb1 {d sg:Nat} {p:Int} {Q:Nat->Leaf->Hp->Prop} (t:Pow10 h) (hd:d<18446744073709551616) (hsg:sg<18446744073709551616) (h0: -348<=p) (h1:p<=347) (hq:∀(f:Nat) (er:Leaf) h',h<=h'->ErOk er->Q f er h'):
  zbm prog (d:Int) p (sg:Int) Q h:=by
 have hb:=zsd2 hd
 have hl: -1200<=log2P p/\log2P p<=1200:=by unfold log2P;omega
 unfold zbm
 refine zic (zju1 hd ?_)
 refine zeg (zxo1 (by omega) (by omega) ?_)
 intro b ty hbn
 have hle:=zji (o:=.cells [Value.int .u64 (0:Int),.int .u64 (0:Int),.int .i64 (0:Int)].toArray ty (0,0)) hbn
 have kb:Blk (h.set b (.cells [Value.int .u64 (0:Int),.int .u64 (0:Int),.int .i64 (0:Int)].toArray ty (0,0))) b [.int .u64 (0:Int),.int .u64 (0:Int),.int .i64 (0:Int)]:=⟨ty,zdu⟩
 generalize h.set b (.cells [Value.int .u64 (0:Int),.int .u64 (0:Int),.int .i64 (0:Int)].toArray ty (0,0))=k1 at*
 have hbg:b≠8:=fun e=>by
  obtain ⟨c1, -⟩:=zjr1 t h0 h1
  have:=c1 0 _ rfl
  rw [box_add] at this
  unfold hcell at this
  rw [<-e,hbn] at this
  simp at this
 have back:∀ {k':Hp},Mv [b] k1 [b] k'->h<=k':=fun mv c o hc=>mv.keep c o (hle c o hc) (by simp only [List.mem_singleton];intro e;rw [e,hbn] at hc;cases hc)
 have emin:IntKind.wrap .i64 ((IntKind.wrap .i64 ((53:Int)-(bitsN d:Int)))-log2P p)=53-(bitsN d:Int)-log2P p:=by rw [zab (n:=(53:Int)-_) (by omega) (by omega),zab (by omega) (by omega)]
 have e64:IntKind.wrap .i64 ((64:Int)-(bitsN d:Int))=((64-bitsN d:Nat):Int):=by rw [zab (by omega) (by omega)];omega
 rw [emin,e64]
 obtain ⟨E,hE⟩:∃E,E=min2I (1074:Int) (53-(bitsN d:Int)-log2P p):=⟨_,rfl⟩
 have hEb: -3000<=E/\E<=1074:=by rw [hE];unfold min2I;split<;>omega
 rw [<-hE,zab (n:=E-((64-bitsN d:Nat):Int)) (by omega) (by omega)]
 refine zeu (ziz1 kb (fun i v hv=>zdh1 hle (t i v hv)) hbg h0 h1 rfl (by omega) fun k2 m2 b2=> ?_)
 refine ld_at (sh:=shInt .i64) (-(E-((64-bitsN d:Nat):Int)+log2P p+3)) ?_ ?_
 ·rw [box_add]
  exact b2.ldIs (off:=2) (n:=1) rfl
 have fb:∀ {x:Int} {K:Nat->Hp->Prop} {k:Hp},(∃n:Nat,x=(n:Int)/\n<18446744073709551616)->(∀f,K f k)->SemE prog (Extern.MathFloatBits.float64frombits #[(.int .u64 x)]) (shFlt .f64) K k:=fun ⟨n,e,hn⟩ hK=>zid e hn (hK _)
 refine iteB (fun _=>fb (zba _ _ _) fun f=>⟨⟨.nilIface,rfl⟩,rfl,hq f _ k2 (back m2) (.inl rfl)⟩) fun _=>⟨by omega,?_⟩
 obtain ⟨x,ex,hx⟩:∃x:Nat,shlI .u64 (d:Int) ((64-bitsN d:Nat):Int)=(x:Int)/\x<18446744073709551616:=by
  refine ⟨(shlI .u64 (d:Int) ((64-bitsN d:Nat):Int)).toNat,?_,?_⟩<;>(unfold shlI;rw [zah];omega)
 rw [ex]
 obtain ⟨t1,t2,t3⟩:=zoi1 h0 h1
 refine zga (zec2 hx t2 t3 b2 fun u hu=> ?_)
 refine zlv (zbm2 ?_)
 refine zef (zrc1 ⟨by omega,?_⟩)
 obtain ⟨v,ev,hv⟩:=zba .or (shrI .u64 (u:Int) (((decide ((u:Int)>=36028797018963966)).toNat:Nat):Int)) (bitsI .and .u64 (u:Int) (1:Int))
 rw [ev]
 refine zbi (zjs1 hv ?_)
 exact zgb (zed2 (zba _ _ _) fun f er he=>⟨er,rfl,hq f er k2 (back m2) he⟩)
theorem zee2 {r d:Nat} {s:Bool} {p:Int} {Q:Nat->Leaf->Hp->Prop} (t:Pow10 h) (h1:0<r) (h2:r<9218868437227405312) (hd:d<144115188075855872) (d0:0<d) (p0: -348<=p) (p1:p<=347) (hin:inF r (d*unitW 0 p)=true)
  (hq:∀(er:Leaf) h',h<=h'->er.v=.nilIface->Q (sgn s+r) er h'):zbm prog (d:Int) p ((sgn s:Nat):Int) Q h:=by
 have hb:bitsN d<=57:=zra1 (by omega)
 have hb1:1<=bitsN d:=by unfold bitsN;grind
 have hlo:=zvn (m:=d) (by omega)
 have hhi:=zra d
 obtain ⟨rs,rm,rx⟩:=zqb2 h1 h2 p0 p1 hb hb1 hlo hhi hin
 obtain ⟨s8,sc⟩:=zdr2 p0 p1 hb hlo hhi hb1 rs
 have hl: -1200<=log2P p/\log2P p<=1200:=by unfold log2P;omega
 have hE:readE (bitsN d) p=min2I (1074:Int) (53-(bitsN d:Int)-log2P p):=by unfold readE min2I;omega
 have hEb: -3000<=readE (bitsN d) p/\readE (bitsN d) p<=1074:=by unfold readE;omega
 unfold zbm
 refine zic (zju1 (by omega) ?_)
 refine zeg (zxo1 (by omega) (by omega) ?_)
 intro b ty hbn
 have hle:=zji (o:=.cells [Value.int .u64 (0:Int),.int .u64 (0:Int),.int .i64 (0:Int)].toArray ty (0,0)) hbn
 have kb:Blk (h.set b (.cells [Value.int .u64 (0:Int),.int .u64 (0:Int),.int .i64 (0:Int)].toArray ty (0,0))) b [.int .u64 (0:Int),.int .u64 (0:Int),.int .i64 (0:Int)]:=⟨ty,zdu⟩
 generalize h.set b (.cells [Value.int .u64 (0:Int),.int .u64 (0:Int),.int .i64 (0:Int)].toArray ty (0,0))=k1 at*
 have hbg:b≠8:=fun e=>by
  obtain ⟨c1, -⟩:=zjr1 t p0 p1
  have:=c1 0 _ rfl
  rw [box_add] at this
  unfold hcell at this
  rw [<-e,hbn] at this
  simp at this
 have back:∀ {k':Hp},Mv [b] k1 [b] k'->h<=k':=fun mv c o hc=>mv.keep c o (hle c o hc) (by simp only [List.mem_singleton];intro e;rw [e,hbn] at hc;cases hc)
 have emin:IntKind.wrap .i64 ((IntKind.wrap .i64 ((53:Int)-(bitsN d:Int)))-log2P p)=53-(bitsN d:Int)-log2P p:=by rw [zab (n:=(53:Int)-_) (by omega) (by omega),zab (by omega) (by omega)]
 have e64:IntKind.wrap .i64 ((64:Int)-(bitsN d:Int))=((64-bitsN d:Nat):Int):=by rw [zab (by omega) (by omega)];omega
 rw [emin,e64,<-hE,zab (n:=readE (bitsN d) p-((64-bitsN d:Nat):Int)) (by omega) (by omega)]
 have hS: -(readE (bitsN d) p-((64-bitsN d:Nat):Int)+log2P p+3)=readS (bitsN d) p:=by unfold readS;omega
 refine zeu (ziz1 kb (fun i v hv=>zdh1 hle (t i v hv)) hbg p0 p1 rfl (by omega) fun k2 m2 b2=> ?_)
 rw [hS] at b2
 refine ld_at (sh:=shInt .i64) (readS (bitsN d) p) ?_ (iteF (fun hh=>by grind) ⟨by omega,?_⟩)
 ·rw [box_add]
  exact b2.ldIs (off:=2) (n:=1) rfl
 obtain ⟨j,hj⟩:∃j,64=bitsN d+j:=⟨64-bitsN d,by omega⟩
 have ej:64-bitsN d=j:=by omega
 have hx:d*2^j<18446744073709551616:=by
  have:=Nat.mul_lt_mul_of_pos_right hhi (Nat.two_pow_pos j)
  rw [<-Nat.pow_add,<-hj] at this
  exact this
 have hx0:2305843009213693952<=d*2^j:=by
  have:=Nat.mul_le_mul_right (2^j) hlo
  rw [<-Nat.pow_add,show bitsN d-1+j=63 by omega] at this
  omega
 rw [ej] at sc ⊢
 rw [shlN (by omega) hx]
 obtain ⟨t1,t2,t3⟩:=zoi1 p0 p1
 have b3:Scl k2 b (hiP p) (loP p) (readS (bitsN d) p).toNat:=by
  grind
 refine zga (zto1 hx t2 t3 (by omega) (zjt1 hx0 t1) b3 ?_)
 have hu:=zok1 (lo:=loP p) (s:=(readS (bitsN d) p).toNat) hx t2
 rw [<-sc] at rm rx
 generalize zxb (d*2^j) (hiP p) (loP p) (readS (bitsN d) p).toNat=u at*
 refine zlv (zbm2 ?_)
 refine zef (zrc1 ⟨by omega,?_⟩)
 rw [and1 hu]
 have hpr:∀k,h<=k->(∀(er:Leaf),er.v=.nilIface->EncW zai er.v fun e=>Q (sgn s+r) e k):=fun k hl er he=>⟨er,rfl,hq er k hl he⟩
 have hMb:zac r<9007199254740992:=by unfold zac;split<;>omega
 have fin:bitsI .or .u64 ((sgn s:Nat):Int) ((zac r:Nat):Int)=((sgn s+zac r:Nat):Int):=zqx1 (by omega)
 unfold readM at rm
 unfold readX at rx
 by_cases c:36028797018963966<=u
 ·rw [if_pos c] at rm rx
  rw [decide_eq_true (show (u:Int)>=36028797018963966 by omega)]
  have e1:shrI .u64 (u:Int) (((true.toNat:Nat):Int))=((u / 2:Nat):Int):=shrN u (n:=1) (by decide)
  rw [e1,orN (Nat.lt_of_le_of_lt (Nat.div_le_self _ _) hu) (by omega)]
  refine zbi (zjs1 (Nat.or_lt_two_pow (n:=64) (Nat.lt_of_le_of_lt (Nat.div_le_self _ _) hu) (by omega)) ?_)
  rw [rm,fin,show (((true.toNat:Nat):Int))=1 from rfl,zab (n:=readE (bitsN d) p-1) (by omega) (by omega),zab (by omega) (by omega),show (0:Int)-(readE (bitsN d) p-1)=zad r by omega]
  exact zgb (zul1 h1 h2 fun er he=>hpr k2 (back m2) er he)
 ·rw [if_neg c] at rm rx
  rw [decide_eq_false (show ¬(u:Int)>=36028797018963966 by omega)]
  have e1:shrI .u64 (u:Int) (((false.toNat:Nat):Int))=(u:Int):=by
   have:=shrN u (n:=0) (by decide)
   grind
  rw [e1,orN hu (by omega),zsc2]
  refine zbi (zjs1 hu ?_)
  rw [rm,fin,show (((false.toNat:Nat):Int))=0 from rfl,zab (n:=readE (bitsN d) p-0) (by omega) (by omega),zab (by omega) (by omega),show (0:Int)-(readE (bitsN d) p-0)=zad r by omega]
  exact zgb (zul1 h1 h2 fun er he=>hpr k2 (back m2) er he)
end
theorem zix2 {o:Option Nat} {v:Nat} (h:outD o=v) (hn:¬9218868437227405312<v%9223372036854775808):o=some v:=by
 cases o with
 | some x=>exact congrArg some h
 | none=>
  have:9221120237041090560=v:=h
  omega
theorem zro1 {a b v:Nat} (ha:a<18446744073709551616) (hb:b<18446744073709551616) (hv:mulD a b=v) (hn:¬9218868437227405312<v%9223372036854775808):f64.format.mul a b=some v:=
 zix2 ((zrr2 ha hb).1.trans hv) hn
theorem zmq2 {a b v:Nat} (ha:a<18446744073709551616) (hb:b<18446744073709551616) (hv:divD a b=v) (hn:¬9218868437227405312<v%9223372036854775808):f64.format.div a b=some v:=
 zix2 ((zrs2 ha hb).1.trans hv) hn
theorem zmr2 {s:Bool} {x y m n:Nat} (hx:WholeF x m) (hy:WholeF y n):mulD (sgn s+x) y=sgn s+rungD (zac x*zac y) (zad x+zad y) false:=by
 have a:=hx.m
 have b:=hy.m
 obtain ⟨x0,x1, -⟩:=hx
 obtain ⟨y0,y1, -⟩:=hy
 have hm:(sgn s+x)%9223372036854775808=x:=by unfold sgn;grind
 have hn:negD (sgn s+x)=s:=by unfold negD sgn;grind
 have hy2:y%9223372036854775808=y:=by omega
 have hny:negD y=false:=by unfold negD;grind
 have nx:¬zor (sgn s+x)=true:=zru (by rw [hm];omega)
 have ny:¬zor y=true:=zru (by rw [hy2];omega)
 unfold mulD
 dsimp only
 rw [hm,hy2,hn,hny,if_neg (fun h=>h.elim nx fun h=>h.elim ny fun h=>h.elim (fun h=>by omega) fun h=>by omega),if_neg (by omega)]
 unfold zjj
 rw [if_neg (Nat.ne_of_gt (Nat.mul_pos (by omega) (by omega))),Bool.xor_false]
theorem zyd1 {x:Nat} (hx:x<9223372036854775808):Op.negFloat .f64 x=9223372036854775808+x:=by
 show x^^^2^63=_
 have h1:x^^^2^63=x ||| 2^63:=by
  refine Nat.eq_of_testBit_eq fun i=> ?_
  rw [Nat.testBit_xor,Nat.testBit_or,Nat.testBit_two_pow]
  by_cases hi:63=i
  ·subst hi
   rw [Nat.testBit_lt_two_pow (by omega)];rfl
  ·rw [decide_eq_false hi,Bool.xor_false,Bool.or_false]
 rw [h1,Nat.or_comm]
 have:=Nat.shiftLeft_add_eq_or_of_lt (b:=x) (i:=63) (by omega) 1
 grind
section
variable {h:Hp}
theorem zop2 {c:Option Bool} {P:Program} {s:Sem Value} {sh:Shape} {v:sh.T} {K:sh.T->Prop} (he:s=Sem.pure (sh.enc v)) (hk:K v):SemV c P s sh h K:=by
 obtain ⟨x,hx,hk⟩:=zkb (P:=P) (h:=h) he hk
 refine ⟨x,?_,hk⟩
 cases c with
 | none=>exact hx
 | some b=>exact fun _=>hx
theorem zmc1 (env:FEnv h) {i:Int} {K:Nat->Prop} (i0:0<=i) (i1:i<23) (hk:∀x,pow10F[i.toNat]? =some x->K x):
  LdW none shSl h ⟨12,0,none⟩ fun y=>(InB y.base y.len i)/\LdW none (shFlt .f64) h (sat y.base 1 i) K:=by
 obtain ⟨a,c,e1,e2⟩:=env.f10
 obtain ⟨j,rfl⟩:=Int.eq_ofNat_of_zero_le i0
 have hlen:pow10F.length=23:=rfl
 obtain ⟨x,hx⟩:∃x,pow10F[j]? =some x:=⟨pow10F[j]'(by omega),List.getElem?_eq_getElem (by omega)⟩
 refine ld_at (sh:=shSl) ⟨some a,23,c⟩ e1 ⟨⟨by simp,by omega,by omega⟩,ld_at (sh:=shFlt .f64) x ?_ (hk x (by grind))⟩
 show LdIs h (Addr.add a (Int.toNat (j:Int)*1)) [.float .f64 x]
 rw [Int.toNat_natCast,Nat.mul_one]
 exact zvo (e2 j _ (by grind))
theorem zmd1 :∀x∈pow10F,x<9218868437227405312:=by decide
theorem zbn2 {m r:Nat} {p:Int} {neg:Bool} {Q:Nat->Bool->Hp->Prop} (env:FEnv h) (hm0:0<m) (hm:m<18446744073709551616) (hp0: -400<=p) (hp1:p<=400)
  (hq:∀f ok,(0<r->r<9218868437227405312->inF r (m*unitW 0 p)=true->ok=true->f=sgn neg+r)->Q f ok h):zet prog (m:Int) p neg Q h:=by
 have no:∀f,Q f false h:=fun f=>hq f false fun _ _ _ e=>by cases e
 unfold zet
 have ea:Addr.add ⟨7,0,none⟩ 0=(⟨7,0,none⟩:Addr):=by rw [box_add]
 rw [ea]
 refine ld_at (sh:=shInt .u64) (52:Int) env.info ⟨by decide,?_⟩
 have e0:shrI .u64 (m:Int) (52:Int)=((m / 2^52:Nat):Int):=shrN m (n:=52) (by decide)
 rw [e0]
 refine iteB (fun _=>no 0) fun hz=> ?_
 have hm52:m<4503599627370496:=by
  grind
 have hx:=zlz1 hm0 (show m<9007199254740992 by omega)
 have hf:f64.nearest (m:Int)=rungD m 0 false:=by
  rw [zlp2]
  unfold zak2
  rw [show ((m:Int)).natAbs=m by omega,decide_eq_false (by omega)]
  unfold zjj
  rw [if_neg (by omega)]
  show 0+_=_
  omega
 generalize hX:rungD m 0 false=x at*
 refine ⟨x,by rw [<-hf];exact zqp2,?_⟩
 obtain ⟨x0,x1, -⟩:=id hx
 have hs:=zud1 neg
 refine JoinW1.intro (fun f k=>k=h/\f=sgn neg+x) ?_ ?_
 ·cases neg with
  | true=>exact iteT rfl ⟨rfl,zyd1 (by omega)⟩
  | false=>exact iteF (by decide) ⟨rfl,by show x=0+x;omega⟩
 rintro _ h ⟨rfl,rfl⟩
 refine iteB (fun hp=> ?_) fun hpn=>letW (iteB (fun hy=> ?_) fun hyn=>letW (iteB (fun hy=> ?_) fun _=>no _))
 ·have hp:p=0:=beq_iff_eq.1 hp
  subst hp
  exact hq _ _ fun h1 h2 hin _=>by rw [zri1 (by omega) h1 hx.one hin]
 ·rw [Bool.and_eq_true] at hy
  have y1:=of_decide_eq_true hy.1
  have y2:=of_decide_eq_true hy.2
  refine JoinW2.intro (fun e f k=>k=h/\0<e/\e<=22/\∃z,f=sgn neg+z/\((∃M,0<M/\WholeF z M/\m*unitW 0 p=M*10^e.toNat*unitW 0 0)\/(4831355200913801216<z/\z<=9218868437227405312))) ?_ ?_
  ·refine iteB (fun h22=> ?_) fun h22=> ?_
   ·have h22:=of_decide_eq_true h22
    rw [zab (by omega) (by omega)]
    have hpw:=zmc1 env (i:=p-22) (by omega) (by omega) (K:=fun x3=>SemE prog (binS .mul 48 (.tmp 31) (.tmp 36) (.float .f64 (sgn neg+x)) (.float .f64 x3)) (shFlt .f64) (fun r h2=>(fun e f k=>k=h/\0<e/\e<=22/\∃z,f=sgn neg+z/\((∃M,0<M/\WholeF z M/\m*unitW 0 p=M*10^e.toNat*unitW 0 0)\/(4831355200913801216<z/\z<=9218868437227405312))) (22:Int) r h2) h) ?_
    ·exact hpw
    intro y hy
    obtain ⟨hyw,hk⟩:=zma1 hy
    have hyl:=zmd1 y (List.mem_of_getElem? hy)
    have hprod:0<m*10^(p-22).toNat:=Nat.mul_pos hm0 (Nat.pow_pos (by decide))
    have hval:m*unitW 0 p=m*10^(p-22).toNat*10^(22:Int).toNat*unitW 0 0:=by
     have e:=zfj (a:=0) (b:=0) (n:=(p-22).toNat+22) (by omega)
     grind
    by_cases hle:m*10^(p-22).toNat<=1000000000000000
    ·obtain ⟨z,hz1,hz2⟩:=ziv2 hx hyw hprod hle
     refine zdl1 zxs1 fun g g1 _=>⟨rfl,by decide,by decide,z,g1 _ (zro1 (by omega) (by omega) (hz2 neg) ?_),.inl ⟨_,hprod,hz1,hval⟩⟩
     have:=hz1.2.1
     omega
    ·have hg:=ziw2 hx hyw (by omega)
     have hr:=zjo1 (m:=zac x*zac y) (e:=zad x+zad y) (b:=false)
     refine zdl1 zxs1 fun g g1 _=>⟨rfl,by decide,by decide,_,g1 _ (zro1 (by omega) (by omega) (zmr2 hx hyw) (by omega)),.inr ⟨hg,hr⟩⟩
   ·have h22:¬p>22:=fun e=>h22 (decide_eq_true e)
    refine ⟨rfl,y1,by omega,x,rfl,.inl ⟨m,hm0,hx,?_⟩⟩
    have e:=zfj (a:=0) (b:=0) (n:=p.toNat) (by omega)
    grind
  rintro e _ h ⟨rfl,e0,e1,z,rfl,hz⟩
  have hzb:z<=9218868437227405312:=by
   rcases hz with ⟨M, -,hz, -⟩ | hz
   ·have:=hz.2.1;omega
   ·exact hz.2
  have o1:=zzu (a:=sgn neg+z) (b:=4831355200913801216) (by omega) (by omega) (by omega) (by omega)
  have o2:=zzu (a:=sgn neg+z) (b:=14054727237768577024) (by omega) (by omega) (by omega) (by omega)
  have r1:rzD 4831355200913801216=4831355200913801216:=by unfold rzD negD;simp
  have r2:rzD 14054727237768577024= -4831355200913801216:=by unfold rzD negD;simp
  refine zkb (sh:=zae) (v:=f64.format.order (sgn neg+z) 4831355200913801216==some .gt) rfl ?_
  refine zop2 (sh:=zae) (v:=f64.format.order (sgn neg+z) 14054727237768577024==some .lt) rfl (letW ?_)
  refine iteB (fun _=>no _) fun hnot=> ?_
  rcases hz with ⟨M,M0,hzw,hval⟩ | ⟨hz1,hz2⟩
  ·have hpw:=zmc1 env (i:=e) (by omega) (by omega) (K:=fun x5=>SemE prog (binS .mul 48 (.tmp 44) (.tmp 48) (.float .f64 (sgn neg+z)) (.float .f64 x5)) (shFlt .f64) (fun r h3=>Q r true h3) h) ?_
   ·exact hpw
   intro y hy
   obtain ⟨hyw,hk⟩:=zma1 hy
   have hyl:=zmd1 y (List.mem_of_getElem? hy)
   refine zdl1 zxs1 fun g g1 _=>hq _ _ fun h1 h2 hin _=> ?_
   rw [hval] at hin
   exact g1 _ (zro1 (by omega) (by omega) (zou1 h1 h2 hzw hyw hin) (by omega))
  ·exfalso
   refine hnot ?_
   have hzr:rzD (sgn neg+z)=if neg then -(z:Int) else (z:Int):=by
    unfold rzD negD
    cases neg with
    | true=>rw [show sgn true=9223372036854775808 from rfl,decide_eq_true (by omega),show (9223372036854775808+z)%9223372036854775808=z by omega]
    | false=>rw [show sgn false=0 from rfl,decide_eq_false (by omega),show (0+z)%9223372036854775808=z by omega]
   rw [Bool.or_eq_true]
   cases neg with
   | true=>
    right
    show (dbl.order _ _==some .lt)=true
    rw [o2,hzr,r2,if_pos rfl,show compare (-(z:Int)) (-4831355200913801216)=.lt by rw [Int.compare_eq_lt];omega];rfl
   | false=>
    left
    show (dbl.order _ _==some .gt)=true
    rw [o1,hzr,r1,if_neg (by decide),show compare (z:Int) 4831355200913801216=.gt by rw [Int.compare_eq_gt];omega];rfl
 ·rw [Bool.and_eq_true] at hy
  have y1:=of_decide_eq_true hy.1
  have y2:=of_decide_eq_true hy.2
  rw [zab (by omega) (by omega)]
  have hpw:=zmc1 env (i:=(0:Int)-p) (by omega) (by omega) (K:=fun x3=>SemE prog (binS .quo 48 (.tmp 57) (.tmp 62) (.float .f64 (sgn neg+x)) (.float .f64 x3)) (shFlt .f64) (fun r h2=>Q r true h2) h) ?_
  ·exact hpw
  intro y hy
  obtain ⟨hyw,hk⟩:=zma1 hy
  have hyl:=zmd1 y (List.mem_of_getElem? hy)
  refine zdl1 zpu2 fun g g1 _=>hq _ _ fun h1 h2 hin _=> ?_
  exact g1 _ (zmq2 (by omega) (by omega) (zeb2 h1 h2 hx hyw (by omega) (by grind)) (by omega))
end
abbrev U64 (x:Int):Prop:=∃n:Nat,x=(n:Int)/\n<18446744073709551616
theorem ztr (x:Int):U64 (IntKind.wrap .u64 x):=⟨(IntKind.wrap .u64 x).toNat,by rw [zah];omega,by rw [zah];omega⟩
section
variable {h:Hp}
theorem lowE {b:Bool} {c:Int} {K:Int->Hp->Prop} (hk:∀x,K x h):EffC (some b) (CallT prog zaf [(.int .u8 c)] (shInt .u8)) K h:=
 ⟨fun _=>zau (zvp (hk _)),fun _=>⟨(0:Int),hk 0⟩⟩
theorem lowC {c:Int} {K:Int->Hp->Prop} (hk:∀x,K x h):CallT prog zaf [(.int .u8 c)] (shInt .u8) K h:=zau (zvp (hk _))
theorem znb1 {s:ByteArray} {Q:Bool->Hp->Prop} (hs:s.size<4611686018427387904) (hq:∀b,Q b h):zec prog s Q h:=by
 unfold zec
 refine JoinW1.intro (fun s k=>k=h/\s.size<4611686018427387904) ⟨fun hh=>⟨by decide,by grind⟩,fun hh=>⟨by decide,by grind⟩,letW (letW (iteB (fun hy=> ?_) fun _=>⟨rfl,hs⟩))⟩ ?_
 ·rw [Bool.and_eq_true] at hy
  have:=of_decide_eq_true hy.1
  refine ⟨⟨by decide,by omega⟩,rfl,?_⟩
  rw [ByteArray.size_extract]
  omega
 clear hs s
 rintro s h ⟨rfl,hs⟩
 refine JoinW3.intro (fun _ i _ k=>k=h/\0<=i/\i<=(s.size:Int)) ?_ ?_
 ·refine ⟨fun hh=>⟨by decide,by grind⟩,letW ?_⟩
  generalize hy:((decide ((((ByteArray.size s):Nat):Int)>=(2:Int)))&&((((UInt8.toNat (List.getD s.data.toList 0 0)):Nat):Int)==(48:Int)))=y
  have hy2:y=true->(2:Int)<=(s.size:Int):=fun e=>by
   grind
  refine ⟨fun e=>⟨by decide,by grind⟩,lowE fun r=>⟨fun e=> ?_,lowE fun r1=>letW ⟨fun e=> ?_,lowE fun r2=>letW (letW (iteB (fun e=> ?_) fun _=>⟨rfl,by omega,by omega⟩))⟩⟩⟩
  ·grind
  ·grind
  ·rw [Bool.and_eq_true] at e
   have:=hy2 e.1
   exact ⟨⟨by decide,by omega⟩,lowC fun _=>⟨rfl,by omega,this⟩⟩
 rintro saw i hex h ⟨rfl,i0,i1⟩
 refine LoopW2.intro (fun _ i k=>k=h/\0<=i/\i<=(s.size:Int)) (fun _ i _=>(s.size-i).toNat) ⟨rfl,i0,i1⟩ ?_
 clear i0 i1 saw i
 rintro saw i h ⟨rfl,i0,i1⟩
 refine iteB (fun hi=> ?_) fun _=> ?_
 ·have hi:=of_decide_eq_true hi
  have key:∀v:Int,(h=h/\0<=IntKind.wrap .i64 (i+1)/\IntKind.wrap .i64 (i+1)<=(s.size:Int))/\(s.size-IntKind.wrap .i64 (i+1)).toNat<(s.size-i).toNat:=fun _=>by
   rw [zab (by omega) (by omega)]
   exact ⟨⟨rfl,by omega,by omega⟩,by omega⟩
  refine JoinW1.intro (fun _ k=>k=h) ?_ fun v k hk=>by rw [hk];exact key v
  refine ⟨⟨i0,hi⟩,fun _=>⟨i0,hi⟩,letW ⟨fun _=>⟨i0,hi⟩,lowE fun r=>letW ⟨fun _=>⟨i0,hi⟩,lowE fun r1=>letW (letW (iteB (fun _=>rfl) fun _=>⟨⟨i0,hi⟩,?_⟩))⟩⟩⟩
  grind
 ·exact hq _
theorem zrp1 {s:ByteArray} {Q:Int->Int->Bool->Bool->Bool->Int->Bool->Hp->Prop} (hs:s.size<4611686018427387904) (hq:∀(m:Nat) e neg tr hex i ok,m<18446744073709551616->(ok=true->0<=i/\i<=(s.size:Int))->Q (m:Int) e neg tr hex i ok h):zax prog s Q h:=by
 unfold zax
 have no:∀(m e:Int) neg tr hex i,U64 m->Q m e neg tr hex i false h:=fun m e neg tr hex i ⟨n,en,hn⟩=>en▸hq n e neg tr hex i false hn fun e=>by cases e
 generalize hN:s.size=N at*
 refine iteB (fun _=>no _ _ _ _ _ _ ⟨0,rfl,by decide⟩) fun hN0=> ?_
 have hN0:¬(0:Int)>=(N:Int):=fun e=>hN0 (decide_eq_true e)
 refine ⟨⟨by decide,by omega⟩,JoinW2.intro (fun _ i k=>k=h/\0<=i/\i<=(N:Int)) (iteB (fun _=>⟨rfl,by omega,by omega⟩) fun _=>iteB (fun _=>⟨rfl,by omega,by omega⟩) fun _=>⟨rfl,by omega,by omega⟩) ?_⟩
 rintro neg i h ⟨rfl,i0,i1⟩
 refine JoinW5.intro (fun _ i _ _ _ k=>k=h/\0<=i/\i<=(N:Int)) ?_ ?_
 ·have w2:IntKind.wrap .i64 (i+2)=i+2:=zab (by omega) (by omega)
  have w1:IntKind.wrap .i64 (i+1)=i+1:=zab (by omega) (by omega)
  rw [w2,w1]
  refine ⟨fun hh=>⟨i0,by have:=of_decide_eq_true hh;omega⟩,letW ⟨fun hh=> ?_,lowE fun r=>letW (iteB (fun hh=> ?_) fun _=>⟨rfl,i0,i1⟩)⟩⟩
  ·rw [Bool.and_eq_true] at hh
   have:=of_decide_eq_true hh.1
   exact ⟨by omega,by omega⟩
  grind
 clear i0 i1 i
 rintro hex i base mx ex h ⟨rfl,i0,i1⟩
 refine JoinW9.intro (fun m _ i _ _ _ _ _ _ k=>k=h/\0<=i/\i<=(N:Int)/\U64 m) ?_ ?_
 ·refine LoopW9.intro (fun m _ i _ _ _ _ _ _ k=>k=h/\0<=i/\i<=(N:Int)/\U64 m) (fun _ _ i _ _ _ _ _ _ _=>(N-i).toNat) ⟨rfl,i0,i1,0,rfl,by decide⟩ ?_
  clear i0 i1 i
  rintro m tr i us sd sg nd ndm dp h ⟨rfl,i0,i1,hm⟩
  refine iteB (fun hi=> ?_) fun _=>⟨rfl,i0,i1,hm⟩
  have hi:=of_decide_eq_true hi
  refine JoinW8.intro (fun m _ _ _ _ _ _ _ k=>k=h/\U64 m) ?_ ?_
  ·refine ⟨⟨i0,hi⟩,iteB (fun _=>⟨rfl,hm⟩) fun _=>iteB (fun _=>iteB (fun _=>⟨rfl,i0,i1,hm⟩) fun _=>⟨rfl,hm⟩) fun _=>letW (iteB (fun _=>letW (iteB (fun _=>⟨rfl,hm⟩) fun _=>iteB (fun _=>⟨rfl,ztr _⟩) fun _=>iteB (fun _=>⟨rfl,hm⟩) fun _=>⟨rfl,hm⟩)) fun _=> ?_)⟩
   refine lowE fun r=>letW (lowE fun r1=>letW (iteB (fun _=>iteB (fun _=>lowC fun _=>⟨rfl,ztr _⟩) fun _=>⟨rfl,hm⟩) fun _=>⟨rfl,i0,i1,hm⟩))
  rintro m tr us sd sg nd ndm dp h ⟨rfl,hm⟩
  rw [zab (n:=i+1) (by omega) (by omega)]
  grind
 clear i0 i1 i
 rintro m tr i us sd sg nd ndm dp h ⟨rfl,i0,i1,hm⟩
 refine iteB (fun _=>no _ _ _ _ _ _ hm) fun _=> ?_
 refine JoinW1.intro (fun _ k=>k=h) (iteB (fun _=>rfl) fun _=>rfl) ?_
 rintro dp h rfl
 refine JoinW2.intro (fun _ _ k=>k=h) (iteB (fun _=>rfl) fun _=>rfl) ?_
 rintro ndm dp h rfl
 refine JoinW3.intro (fun i _ _ k=>k=h/\0<=i/\i<=(N:Int)) ?_ ?_
 ·refine ⟨fun hh=>⟨i0,of_decide_eq_true hh⟩,lowE fun r=>letW (iteB (fun hy=> ?_) fun _=>iteB (fun _=>no _ _ _ _ _ _ hm) fun _=>⟨rfl,i0,i1⟩)⟩
  rw [Bool.and_eq_true] at hy
  have hi:=of_decide_eq_true hy.1
  rw [zab (n:=i+1) (by omega) (by omega)]
  refine iteB (fun _=>no _ _ _ _ _ _ hm) fun h1=> ?_
  have h1:¬i+1>=(N:Int):=fun e=>h1 (decide_eq_true e)
  refine ⟨⟨by omega,by omega⟩,JoinW2.intro (fun i3 _ k=>k=h/\0<=i3/\i3<=(N:Int)) ?_ ?_⟩
  ·rw [zab (n:=i+1+1) (by omega) (by omega)]
   exact iteB (fun _=>⟨rfl,by omega,by omega⟩) fun _=>iteB (fun _=>⟨rfl,by omega,by omega⟩) fun _=>⟨rfl,by omega,by omega⟩
  rintro i3 es h ⟨rfl,j0,j1⟩
  refine ⟨fun hh=>⟨j0,?_⟩,letW ⟨fun hh=>⟨j0,?_⟩,letW (iteB (fun _=>no _ _ _ _ _ _ hm) fun hy2=> ?_)⟩⟩
  ·have:¬i3>=(N:Int):=fun e=>by rw [decide_eq_true e] at hh;cases hh
   omega
  ·have:¬i3>=(N:Int):=fun e=>by rw [decide_eq_true e,Bool.true_or] at hh;cases hh
   omega
  refine LoopW3.intro (fun i4 _ _ k=>k=h/\0<=i4/\i4<=(N:Int)) (fun i4 _ _ _=>(N-i4).toNat) ⟨rfl,j0,j1⟩ ?_
  rintro i4 us4 e4 h ⟨rfl,k0,k1⟩
  refine ⟨fun hh=>⟨k0,of_decide_eq_true hh⟩,fun hh=>⟨k0,by rw [Bool.and_eq_true] at hh;exact of_decide_eq_true hh.1⟩,letW ⟨fun hh=>⟨k0,by rw [Bool.and_eq_true] at hh;exact of_decide_eq_true hh.1⟩,letW (letW (iteB (fun hy=> ?_) fun _=>⟨rfl,k0,k1⟩))⟩⟩
  rw [Bool.and_eq_true] at hy
  have hi4:=of_decide_eq_true hy.1
  refine JoinW2.intro (fun _ _ k=>k=h) ⟨⟨k0,hi4⟩,iteB (fun _=>rfl) fun _=>iteB (fun _=>⟨⟨k0,hi4⟩,rfl⟩) fun _=>rfl⟩ ?_
  rintro us5 e5 h rfl
  rw [zab (n:=i4+1) (by omega) (by omega)]
  grind
 clear i0 i1 i
 rintro i us dp h ⟨rfl,i0,i1⟩
 refine JoinW1.intro (fun _ k=>k=h) (iteB (fun _=>rfl) fun _=>rfl) ?_
 rintro e h rfl
 obtain ⟨n,rfl,hn⟩:=hm
 have fin:∀r:Bool,(if (us&&(!r))=true then Q (n:Int) e neg tr hex i false h else Q (n:Int) e neg tr hex i true h):=fun r=>iteB (fun _=>no _ _ _ _ _ _ ⟨n,rfl,hn⟩) fun _=>hq n e neg tr hex i true hn fun _=>⟨i0,i1⟩
 refine ⟨fun _=>⟨i0,i1⟩,fun _=>zoj (znb1 ?_ fun r=>letW (fin r)),fun _=>⟨true,letW (fin true)⟩⟩
 rw [ByteArray.size_extract]
 omega
end
structure HEnv (h:Hp):Prop where
 f64:∃cs,Blk h 7 cs
 i0:LdIs h ⟨7,0,none⟩ [.int .u64 52]
 i1:LdIs h ⟨7,1,none⟩ [.int .u64 11]
 i2:LdIs h ⟨7,2,none⟩ [.int .i64 (-1023)]
 f32:∃cs,Blk h 6 cs
theorem HEnv.mono {h h':Hp} (e:HEnv h) (hl:h<=h'):HEnv h':=⟨e.f64.imp fun _ k=>k.le hl,zbc hl e.i0,zbc hl e.i1,zbc hl e.i2,e.f32.imp fun _ k=>k.le hl⟩
theorem ziy2 {x b:Nat} (hb:b<=1):x ||| b<=2*(x / 2)+1:=by
 have:=Nat.or_div_two_pow (a:=x) (b:=b) (n:=1)
 rw [Nat.pow_one,show b / 2=0 by omega,Nat.or_zero] at this
 omega
section
variable {h:Hp}
theorem ld_c {sh:Shape} {c:Option Bool} {a:Addr} {K:sh.T->Prop} (x:sh.T) (hl:LdIs h a (zaj (sh.enc x))) (hk:K x):LdW c sh h a K:=by
 refine ⟨x,?_,hk⟩
 cases c with
 | none=>exact hl
 | some b=>exact fun _=>hl
theorem zse2 {a b:Nat} {ca cb:List Value} {x y:Operand} (ka:Blk h a ca) (kb:Blk h b cb) (hne:a≠b):SemIs prog (binS .eql 211 x y (.pointer (some ⟨a,0,none⟩)) (.pointer (some ⟨b,0,none⟩))) h (.bool false):=by
 have hb2:((⟨a,0,none⟩:Addr).block==(⟨b,0,none⟩:Addr).block)=false:=by simpa using hne
 obtain ⟨ta,ea⟩:=id ka
 obtain ⟨tb',eb⟩:=id kb
 obtain ⟨i,hi,h1, -, -⟩:=tb_ok.info 213 ty213 rfl
 have hsz:i.size≠0:=by rw [h1];decide
 have key:∀d,semW prog (Op.equalIn (d+1) 211 (.pointer (some ⟨a,0,none⟩)) (.pointer (some ⟨b,0,none⟩))) (fun u h'=>u=false/\h'=h) h:=by
  intro d
  unfold Op.equalIn
  refine (zkd1 _ _).2 (zli2 (tb_ok.und _ ty211 rfl) ?_)
  show semW _ (Go.sizeOf 213>>=fun n=>if n≠0 then sameAddr ⟨a,0,none⟩ ⟨b,0,none⟩ else _) _ h
  refine (semW_bind' _ _).2 (zhj2 hi ?_)
  rw [if_pos hsz]
  unfold sameAddr
  rw [hb2]
  simp only [Bool.false_eq_true,if_false]
  refine (semW_bind' _ _).2 (zzv (a:=⟨a,0,none⟩) ea ?_)
  refine (semW_bind' _ _).2 (zzv (a:=⟨b,0,none⟩) eb ?_)
  rw [zqw1 ka]
  simp only [Bool.false_and,Bool.false_eq_true,if_false]
  refine (semW_bind' _ _).2 (zln1 ka ?_)
  refine (semW_bind' _ _).2 (zln1 kb ?_)
  refine (semW_bind' _ _).2 ?_
  unfold mayBeOne
  refine (semW_bind' _ _).2 (zee1 ka ?_)
  refine (semW_bind' _ _).2 (zee1 kb ?_)
  refine (semW_bind' _ _).2 ((semW_bind' _ _).2 (zdi1 (r:=a) ea ?_))
  refine (semW_bind' _ _).2 ((semW_bind' _ _).2 (zdi1 (r:=b) eb ?_))
  exact ⟨rfl,rfl⟩
 refine zfz1 ?_
 show semW prog (Sem.bind (Op.equal 211 (.pointer (some ⟨a,0,none⟩)) (.pointer (some ⟨b,0,none⟩))) fun b=>Sem.pure (Value.bool b)) _ h
 refine (zkd1 _ _).2 (zfd2 _ (fun a k hk=> ?_) (key 9999))
 obtain ⟨rfl,rfl⟩:=hk
 exact ⟨rfl,rfl⟩
theorem zov1 {s p:ByteArray} {Q:Int->Hp->Prop} (hs:s.size<4611686018427387904) (hq:∀n,Q n h):zak prog s p Q h:=by
 unfold zak
 refine LoopW1.intro (fun i k=>k=h/\0<=i) (fun i _=>(s.size-i).toNat) ⟨rfl,by omega⟩ ?_
 rintro i h ⟨rfl,i0⟩
 refine iteB (fun hi=> ?_) fun _=>hq _
 have hi:=of_decide_eq_true hi
 have h2:i<(s.size:Int)/\i<(p.size:Int):=by unfold min2I at hi;split at hi<;>omega
 refine ⟨⟨i0,h2.1⟩,JoinW1.intro (fun _ k=>k=h) (letW (iteB (fun _=>rfl) fun _=>rfl)) ?_⟩
 rintro c h rfl
 refine ⟨⟨i0,h2.2⟩,iteB (fun _=>hq _) fun _=> ?_⟩
 rw [zab (by omega) (by omega)]
 grind
theorem zye1 {s:ByteArray} {Q:Nat->Int->Bool->Hp->Prop} (hs:s.size<4611686018427387904) (hq:∀f n ok,Q f n ok h):zbd prog s Q h:=by
 unfold zbd
 refine iteB (fun _=>hq _ _ _) fun h0=> ?_
 have h0:0<s.size:=by
  grind
 refine ⟨⟨by decide,by omega⟩,JoinW3.intro (fun s _ _ k=>k=h/\s.size<4611686018427387904) ?_ ?_⟩
 ·refine JoinW1.intro (fun _ k=>k=h) (iteB (fun _=>rfl) fun _=>rfl) ?_
  rintro t13 h rfl
  refine iteB (fun _=> ?_) fun _=> ?_
  ·refine JoinW1.intro (fun _ k=>k=h) ⟨⟨by decide,by omega⟩,iteB (fun _=>rfl) fun _=>rfl⟩ ?_
   rintro sg h rfl
   refine ⟨⟨by decide,by omega⟩,rfl,?_⟩
   rw [ByteArray.size_extract]
   omega
  ·refine JoinW1.intro (fun _ k=>k=h) (iteB (fun _=>rfl) fun _=>rfl) ?_
   rintro t16 h rfl
   refine iteB (fun _=>⟨rfl,hs⟩) fun _=> ?_
   refine JoinW1.intro (fun _ k=>k=h) (iteB (fun _=>rfl) fun _=>rfl) ?_
   rintro t19 h rfl
   refine iteB (fun _=>zat (zov1 hs fun n=>iteB (fun _=>zxa ?_) fun _=>hq _ _ _)) fun _=>hq _ _ _
   unfold zqb
   exact zid (n:=9221120237041090561) rfl (by decide) (hq _ _ _)
 rintro s1 sg ns h ⟨rfl,hs1⟩
 refine zat (zov1 hs1 fun n=> ?_)
 refine JoinW1.intro (fun _ k=>k=h) (letW (iteB (fun _=>rfl) fun _=>rfl)) ?_
 rintro n h rfl
 refine letW (iteB (fun _=>znh ?_) fun _=>hq _ _ _)
 unfold zkp
 refine JoinW1.intro (fun v k=>k=h/\U64 v) (iteB (fun _=>⟨rfl,9218868437227405312,rfl,by decide⟩) fun _=>⟨rfl,18442240474082181120,rfl,by decide⟩) ?_
 rintro _ h ⟨rfl,v,rfl,hv⟩
 exact zid rfl hv (hq _ _ _)
theorem zqs2 {s:ByteArray} {m:Nat} {exp:Int} {neg tr:Bool} {Q:Nat->Leaf->Hp->Prop} (e:HEnv h) (hm:m<18446744073709551616) (hq:∀(f:Nat) (er:Leaf),ErOk er->Q f er h):
  zhd prog s (some ⟨7,0,none⟩) (m:Int) exp neg tr Q h:=by
 have c0:LdIs h (Addr.add ⟨7,0,none⟩ 0) [.int .u64 52]:=by rw [box_add];exact e.i0
 have c1:LdIs h (Addr.add ⟨7,0,none⟩ 1) [.int .u64 11]:=by rw [box_add];exact e.i1
 have c2:LdIs h (Addr.add ⟨7,0,none⟩ 2) [.int .i64 (-1023)]:=by rw [box_add];exact e.i2
 unfold zhd
 refine zag (ld_c (sh:=shInt .u64) (11:Int) c1 ⟨by decide,zag (ld_c (sh:=shInt .i64) (-1023:Int) c2 (zag (ld_c (sh:=shInt .i64) (-1023:Int) c2 (zag (ld_c (sh:=shInt .u64) (52:Int) c0 ?_)))))⟩)
 refine LoopW2.intro (fun m _ k=>k=h/\U64 m) (fun m _ _=>(9223372036854775808-m).toNat) ⟨rfl,m,rfl,hm⟩ ?_
 rintro _ ex h ⟨rfl,m,rfl,hm⟩
 have w54:IntKind.wrap .u64 ((52:Int)+2)=((54:Nat):Int):=by decide
 refine zag (ld_c (sh:=shInt .u64) (52:Int) c0 ⟨fun _=>by decide,letW ?_⟩)
 rw [w54,shrN m (by decide)]
 refine iteB (fun hy=>⟨by decide,?_⟩) fun _=> ?_
 ·rw [Bool.and_eq_true] at hy
  have h1:((m:Nat):Int)≠0:=bne_iff_ne.1 hy.1
  have h2:((m / 2^54:Nat):Int)=0:=beq_iff_eq.1 hy.2
  have hlt:m<2^54:=by
   omega
  have es:shlI .u64 (m:Int) (1:Int)=((m*2:Nat):Int):=shlN (n:=1) (by decide) (by omega)
  rw [es]
  exact ⟨⟨rfl,m*2,rfl,by omega⟩,by omega⟩
 refine JoinW1.intro (fun m k=>k=h/\U64 m) (iteB (fun _=>⟨rfl,zba _ _ _⟩) fun _=>⟨rfl,m,rfl,hm⟩) ?_
 rintro _ h ⟨rfl,m,rfl,hm⟩
 have step:∀ {m:Nat},m<18446744073709551616->bitsI .or .u64 (shrI .u64 (m:Int) (1:Int)) (bitsI .and .u64 (m:Int) (1:Int))=((m / 2 ||| m%2:Nat):Int)/\m / 2 ||| m%2<=2*(m / 4)+1:=fun {m} hm=>by
  have e1:shrI .u64 (m:Int) (1:Int)=((m / 2:Nat):Int):=shrN m (n:=1) (by decide)
  rw [e1,and1 hm,orN (by omega) (by omega)]
  refine ⟨rfl,?_⟩
  have:=ziy2 (x:=m / 2) (b:=m%2) (by omega)
  omega
 refine LoopW2.intro (fun m _ k=>k=h/\U64 m) (fun m _ _=>m.toNat) ⟨rfl,m,rfl,hm⟩ ?_
 rintro _ ex h ⟨rfl,m,rfl,hm⟩
 have w55:IntKind.wrap .u64 ((IntKind.wrap .u64 ((1:Int)+52))+2)=((55:Nat):Int):=by decide
 refine zag (ld_c (sh:=shInt .u64) (52:Int) c0 ⟨by decide,?_⟩)
 rw [w55,shrN m (by decide)]
 refine iteB (fun hy=>⟨by decide,?_⟩) fun _=> ?_
 ·have h2:((m / 2^55:Nat):Int)≠0:=bne_iff_ne.1 hy
  have hge:2^55<=m:=by
   omega
  obtain ⟨s1,s2⟩:=step hm
  rw [s1]
  exact ⟨⟨rfl,_,rfl,by omega⟩,by omega⟩
 refine LoopW2.intro (fun m _ k=>k=h/\U64 m) (fun m _ _=>m.toNat) ⟨rfl,m,rfl,hm⟩ ?_
 rintro _ ex h ⟨rfl,m,rfl,hm⟩
 refine letW (iteB (fun hy=>⟨by decide,?_⟩) fun _=>⟨by decide,?_⟩)
 ·rw [Bool.and_eq_true] at hy
  have h1:=of_decide_eq_true hy.1
  obtain ⟨s1,s2⟩:=step hm
  rw [s1]
  exact ⟨⟨rfl,_,rfl,by omega⟩,by omega⟩
 refine JoinW2.intro (fun _ _ k=>k=h) (iteB (fun _=>zag (ld_c (sh:=shInt .u64) (52:Int) c0 ⟨by decide,iteB (fun _=>⟨by decide,rfl⟩) fun _=>rfl⟩)) fun _=>rfl) ?_
 rintro m5 e4 h rfl
 refine JoinW1.intro (fun _ k=>k=h) (zag (ld_c (sh:=shInt .u64) (52:Int) c0 ⟨by decide,iteB (fun _=>zag (ld_c (sh:=shInt .i64) (-1023:Int) c2 rfl)) fun _=>rfl⟩)) ?_
 rintro e5 h rfl
 refine JoinW3.intro (fun _ _ er k=>k=h/\ErOk er) (iteB (fun _=>zag (ld_c (sh:=shInt .u64) (52:Int) c0 ⟨by decide,⟨.iface 122 (.int .i64 1),rfl⟩,rfl,rfl,.inr rfl⟩)) fun _=>⟨⟨.nilIface,rfl⟩,rfl,rfl,.inl rfl⟩) ?_
 rintro m6 e6 er h ⟨rfl,her⟩
 refine zag (ld_c (sh:=shInt .u64) (52:Int) c0 ⟨by decide,zag (ld_c (sh:=shInt .i64) (-1023:Int) c2 (zag (ld_c (sh:=shInt .u64) (11:Int) c1 ⟨by decide,zag (ld_c (sh:=shInt .u64) (52:Int) c0 ⟨by decide,?_⟩)⟩)))⟩)
 refine JoinW1.intro (fun b k=>k=h/\U64 b) (iteB (fun _=>zag (ld_c (sh:=shInt .u64) (52:Int) c0 ⟨by decide,zag (ld_c (sh:=shInt .u64) (11:Int) c1 ⟨by decide,rfl,zba _ _ _⟩)⟩)) fun _=>⟨rfl,zba _ _ _⟩) ?_
 rintro _ h ⟨rfl,b,rfl,hb⟩
 obtain ⟨cs,k32⟩:=e.f32
 obtain ⟨cs64,k64⟩:=e.f64
 refine ⟨false,zse2 k64 k32 (by decide),iteF (by decide) (zid rfl hb ⟨er,rfl,hq _ er her⟩)⟩
end
def DecC (ds:List Nat) (nd dp:Int) (neg tr:Bool):List Value:=(ds.map fun (c:Nat)=>Value.int .u8 (c:Int))++ [.int .i64 nd,.int .i64 dp,.bool neg,.bool tr]
structure DX (h0 h:Hp) (b:Nat) (ds:List Nat) (nd dp:Int) (neg tr:Bool):Prop where
 le:h0<=h
 fresh:h0 b=none
 len:ds.length=800
 blk:Blk h b (DecC ds nd dp neg tr)
structure GoodD (ds:List Nat) (nd:Nat):Prop where
 pos:1<=nd
 most:nd<=800
 digs:Digs (ds.take nd)
 head:∃c,ds[0]? =some c/\49<=c/\c<58
def ndOf (h:Hp) (b:Nat):Nat:=match hcell h ⟨b,800,none⟩ with
 | some (.int _ n)=>n.toNat
 | _=>0
theorem decAt (b i:Nat):Addr.add (Addr.add (⟨b,0,none⟩:Addr) 0) (i*1)=⟨b,i,none⟩:=by rw [box_add,box_add];simp
section
variable {h0 h:Hp} {b:Nat} {ds:List Nat} {nd dp:Int} {neg tr:Bool}
theorem zms2 (hl:ds.length=800):(DecC ds nd dp neg tr).length=804:=by unfold DecC;rw [List.length_append,List.length_map,hl];rfl
theorem DX.digit (x:DX h0 h b ds nd dp neg tr) {i:Nat} (hi:i<800):LdIs h ⟨b,i,none⟩ [.int .u8 ((ds.getD i 0:Nat):Int)]:=by
 refine x.blk.ldIs (off:=i) (n:=1) ?_
 have hl:=x.len
 unfold DecC
 rw [List.drop_append_of_le_length (by rw [List.length_map];omega),List.take_append_of_le_length (by rw [List.length_drop,List.length_map];omega),List.drop_eq_getElem_cons (by rw [List.length_map];omega)]
 grind
theorem zha1 {j:Nat} (hl:ds.length=800) (hj:j<4):((DecC ds nd dp neg tr).drop (800+j)).take 1=(([.int .i64 nd,.int .i64 dp,.bool neg,.bool tr]:List Value).drop j).take 1:=by
 unfold DecC
 rw [<-List.drop_drop,List.drop_left' (by grind)]
theorem DX.ndAt (x:DX h0 h b ds nd dp neg tr):LdIs h (Addr.add ⟨b,0,none⟩ 800) [.int .i64 nd]:=by
 rw [box_add]
 exact x.blk.ldIs (n:=1) (zha1 (j:=0) x.len (by decide))
theorem DX.dpAt (x:DX h0 h b ds nd dp neg tr):LdIs h (Addr.add ⟨b,0,none⟩ 801) [.int .i64 dp]:=by
 rw [box_add]
 exact x.blk.ldIs (n:=1) (zha1 (j:=1) x.len (by decide))
theorem DX.negAt (x:DX h0 h b ds nd dp neg tr):LdIs h (Addr.add ⟨b,0,none⟩ 802) [.bool neg]:=by
 rw [box_add]
 exact x.blk.ldIs (n:=1) (zha1 (j:=2) x.len (by decide))
theorem DX.trAt (x:DX h0 h b ds nd dp neg tr):LdIs h (Addr.add ⟨b,0,none⟩ 803) [.bool tr]:=by
 rw [box_add]
 exact x.blk.ldIs (n:=1) (zha1 (j:=3) x.len (by decide))
theorem DX.ndIs (x:DX h0 h b ds nd dp neg tr):ndOf h b=nd.toNat:=by
 have:=x.ndAt 0 _ rfl
 rw [box_add,box_add] at this
 unfold ndOf
 grind
theorem DX.put (x:DX h0 h b ds nd dp neg tr) {i:Nat} {v:Value} {ds':List Nat} {nd' dp':Int} {neg' tr':Bool} {K:Hp->Prop} (hi:i<804) (hl:ds'.length=800) (e:(DecC ds nd dp neg tr).set i v=DecC ds' nd' dp' neg' tr')
  (hk:∀h',DX h0 h' b ds' nd' dp' neg' tr'->K h'):StW h ⟨b,i,none⟩ [v] K:=
 put1 x.blk (by rw [zms2 x.len];exact hi) fun h' m k=>hk h' ⟨(m.le x.le fun b' hb=>by rw [List.mem_singleton.1 hb];exact x.fresh).1,x.fresh,hl,e▸k⟩
theorem DX.putD (x:DX h0 h b ds nd dp neg tr) {i c:Nat} {v:Int} {K:Hp->Prop} (hi:i<800) (hv:v=(c:Int)) (hk:∀h',DX h0 h' b (ds.set i c) nd dp neg tr->K h'):StW h ⟨b,i,none⟩ [.int .u8 v] K:=by
 subst hv
 refine x.put (by omega) (by rw [List.length_set];exact x.len) ?_ hk
 unfold DecC
 rw [List.set_append_left (h:=by rw [List.length_map,x.len];exact hi),List.map_set]
theorem zjz1 {j:Nat} {v:Value} (hl:ds.length=800):(DecC ds nd dp neg tr).set (800+j) v=(ds.map fun (c:Nat)=>Value.int .u8 (c:Int))++([.int .i64 nd,.int .i64 dp,.bool neg,.bool tr]:List Value).set j v:=by
 unfold DecC
 grind
theorem DX.putNd (x:DX h0 h b ds nd dp neg tr) {v:Int} {K:Hp->Prop} (hk:∀h',DX h0 h' b ds v dp neg tr->K h'):StW h (Addr.add ⟨b,0,none⟩ 800) [.int .i64 v] K:=by
 rw [box_add]
 exact x.put (by decide) x.len (zjz1 (j:=0) x.len) hk
theorem DX.putDp (x:DX h0 h b ds nd dp neg tr) {v:Int} {K:Hp->Prop} (hk:∀h',DX h0 h' b ds nd v neg tr->K h'):StW h (Addr.add ⟨b,0,none⟩ 801) [.int .i64 v] K:=by
 rw [box_add]
 exact x.put (by decide) x.len (zjz1 (j:=1) x.len) hk
theorem DX.putNeg (x:DX h0 h b ds nd dp neg tr) {v:Bool} {K:Hp->Prop} (hk:∀h',DX h0 h' b ds nd dp v tr->K h'):StW h (Addr.add ⟨b,0,none⟩ 802) [.bool v] K:=by
 rw [box_add]
 exact x.put (by decide) x.len (zjz1 (j:=2) x.len) hk
theorem DX.putTr (x:DX h0 h b ds nd dp neg tr) {v:Bool} {K:Hp->Prop} (hk:∀h',DX h0 h' b ds nd dp neg v->K h'):StW h (Addr.add ⟨b,0,none⟩ 803) [.bool v] K:=by
 rw [box_add]
 exact x.put (by decide) x.len (zjz1 (j:=3) x.len) hk
theorem GoodD.less {n m:Nat} (g:GoodD ds n) (h1:1<=m) (h2:m<=n):GoodD ds m:=
 ⟨h1,Nat.le_trans h2 g.most,fun z hz=>g.digs z (by
  rw [show m=min m n by omega,<-List.take_take] at hz
  grind),g.head⟩
theorem zbo2 {n:Nat} {Q:Hp->Prop} (x:DX h0 h b ds n dp neg tr) (g:GoodD ds n) (hk:∀h' (m:Nat),DX h0 h' b ds m dp neg tr->GoodD ds m->Q h'):zjt prog (some ⟨b,0,none⟩) Q h:=by
 unfold zjt
 refine LoopW0.intro (fun k=>∃m:Nat,DX h0 k b ds m dp neg tr/\GoodD ds m) (fun k=>ndOf k b) ⟨n,x,g⟩ ?_
 clear x g
 rintro k ⟨m,x,g⟩
 have g1:=g.pos
 have g2:=g.most
 have hm:decide ((m:Int)>0)=true:=decide_eq_true (by omega)
 refine zag (ld_c (sh:=shInt .i64) (m:Int) x.ndAt (zag (ld_c (sh:=shInt .i64) (m:Int) x.ndAt (zag ⟨fun _=> ?_,?_⟩))))
 ·rw [zab (by omega) (by omega)];omega
 have e1:IntKind.wrap .i64 ((m:Int)-1)=((m-1:Nat):Int):=by rw [zab (by omega) (by omega)];omega
 rw [e1,Int.toNat_natCast,decAt]
 refine ld_c (sh:=shInt .u8) ((ds.getD (m-1) 0:Nat):Int) (x.digit (by omega)) (letW (iteB (fun hy=> ?_) fun _=> ?_))
 ·refine zag (ld_c (sh:=shInt .i64) (m:Int) x.ndAt (zag ?_))
  rw [e1]
  refine x.putNd fun k' x'=>⟨⟨m-1,x',g.less ?_ (by omega)⟩,?_⟩
  ·refine Classical.byContradiction fun hn=> ?_
   obtain ⟨c,hc,h49, -⟩:=g.head
   grind
  ·rw [x.ndIs,x'.ndIs];omega
 ·refine zag (ld_c (sh:=shInt .i64) (m:Int) x.ndAt (iteF (fun hh=> ?_) (hk k m x g)))
  grind
theorem DX.row {n:Nat} (x:DX h0 h b ds n dp neg tr) (hn:n<=800):Rw h 1 eN ⟨some ⟨b,0,none⟩,n,800⟩ (ds.take n):=by
 have hl:=x.len
 refine zjw1 x.blk (by rw [List.length_take];omega) ?_
 rw [List.drop_zero,List.length_take,show min n ds.length=n by omega,<-zon1,List.map_take]
 unfold DecC
 grind
theorem zmt2 {xs:List Nat} {k:Nat} {l:Sl} {Q:Bool->Hp->Prop} (r:Rw h 1 eN l xs) (hx:Digs xs) (hxl:xs.length<=800) (k1:1<=k) (k2:k<61) (hq:∀lt,LessL lt xs k->Q lt h):zcy prog l (strN (fiveL k)) Q h:=by
 have hF:fiveL k=decL (5^k):=by unfold fiveL;grind
 have hv:numV (fiveL k)=5^k:=by rw [hF];exact zgv1 _
 have hd:Digs (fiveL k):=by rw [hF];exact zuo _
 have h5:=(zbf2 k k2 k1)
 have hlen:(fiveL k).length<=60:=by rw [hF,zmg];have:=zkx (2^k);omega
 have er:=r.1
 unfold LessL at hq
 rw [<-hv] at hq
 have hmod:numV (fiveL k)%10=5:=by omega
 generalize fiveL k=ys at*
 unfold zcy
 rw [zal]
 refine LoopW1.intro (fun i k=>k=h/\∃j:Nat,i=(j:Int)/\j<=ys.length/\j<=xs.length/\numV (xs.take j)=numV (ys.take j)) (fun i _=>(ys.length-i).toNat) ⟨rfl,0,rfl,by omega,by omega,rfl⟩ ?_
 rintro _ h ⟨rfl,j,rfl,j1,j2,he⟩
 by_cases hj:j<ys.length
 ·refine iteT (decide_eq_true (by omega)) ?_
  by_cases hjx:j<xs.length
  ·refine iteF (fun hh=>by grind) ?_
   have hxj:xs[j]? =some xs[j]:=List.getElem?_eq_getElem hjx
   have hyj:ys[j]? =some ys[j]:=List.getElem?_eq_getElem hj
   have dx:=hx _ (List.getElem_mem hjx)
   have dy:=hd _ (List.getElem_mem hj)
   have nx:=zun hxj
   have ny:=zun hyj
   have px:numV (xs.take (j+1))<numV (ys.take (j+1))->_:=fun hlt=>zom2 (x:=xs) (y:=ys) (i:=j+1) hx hd (by omega) (by omega) hlt
   have py:numV (ys.take (j+1))<numV (xs.take (j+1))->_:=fun hlt=>zom2 (x:=ys) (y:=xs) (i:=j+1) hd hx (by omega) (by omega) hlt
   generalize xs[j]=u at*
   generalize ys[j]=v at*
   have hu:∀ {z:Nat},xs[((j:Int)).toNat]? =some z->z=u:=fun hz=>by grind
   have hch:(((UInt8.toNat (List.getD (strN ys).data.toList (Int.toNat ((j:Nat):Int)) 0)):Nat):Int)=(v:Int):=by rw [Int.toNat_natCast,zju hyj (by omega)]
   rw [hch]
   refine rdN r (by omega) (by omega) fun z hz=>⟨⟨by omega,by omega⟩,?_⟩
   rw [hu hz]
   by_cases e:u=v
   ·refine iteF (fun hh=>bne_iff_ne.1 hh (by rw [e])) ?_
    rw [zab (by omega) (by omega)]
    grind
   ·refine iteT (bne_iff_ne.2 (show (u:Int)≠(v:Int) by omega)) (rdN r (by omega) (by omega) fun z hz=>⟨⟨by omega,by omega⟩,?_⟩)
    grind
  ·refine iteT (decide_eq_true (by omega)) (hq true ?_)
   rw [if_pos rfl]
   have hjx:j=xs.length:=by omega
   subst hjx
   rw [List.take_of_length_le (Nat.le_refl _)] at he
   have ey:=zgu1 (ys.take xs.length) (ys.drop xs.length)
   rw [List.take_append_drop,List.length_drop,<-he] at ey
   obtain ⟨q,eq⟩:∃q,ys.length=xs.length+(q+1):=⟨ys.length-xs.length-1,by omega⟩
   rw [eq,show xs.length+(q+1)-xs.length=q+1 by omega,Nat.pow_succ,<-Nat.mul_assoc] at ey
   rw [eq,Nat.pow_add,Nat.mul_comm (10^xs.length),<-Nat.mul_assoc,Nat.pow_succ,<-Nat.mul_assoc]
   refine Nat.mul_lt_mul_of_pos_right ?_ (Nat.pow_pos (by decide))
   omega
 ·refine iteF (fun hh=>hj (by grind)) (hq false ?_)
  rw [if_neg (by decide)]
  have hjl:j=ys.length:=by omega
  subst hjl
  rw [List.take_of_length_le (l:=ys) (Nat.le_refl _)] at he
  have ex:=zgu1 (xs.take ys.length) (xs.drop ys.length)
  rw [List.take_append_drop,List.length_drop,he] at ex
  obtain ⟨q,eq⟩:∃q,xs.length=ys.length+q:=⟨xs.length-ys.length,by omega⟩
  rw [eq,show ys.length+q-ys.length=q by omega] at ex
  rw [eq,Nat.pow_add,Nat.mul_comm (10^ys.length),<-Nat.mul_assoc]
  exact Nat.mul_le_mul_right _ (by omega)
end
theorem zum1 {x k:Nat} (hx:x<18446744073709551616) (hk:k<=60):bitsI .and .u64 (x:Int) (IntKind.wrap .u64 ((shlI .u64 (1:Int) (k:Int))-(1:Int)))=((x%2^k:Nat):Int):=by
 have h2:2^k<=2^60:=Nat.pow_le_pow_right (by decide) hk
 have hp:=Nat.two_pow_pos k
 have e1:shlI .u64 (1:Int) (k:Int)=((2^k:Nat):Int):=by
  have:=shlN (x:=1) (n:=k) (by omega) (by omega)
  rw [Nat.one_mul] at this
  exact this
 have e2:IntKind.wrap .u64 (((2^k:Nat):Int)-1)=((2^k-1:Nat):Int):=by rw [zah];omega
 rw [e1,e2]
 unfold bitsI
 dsimp only
 rw [zrb,BitVec.toNat_and,zlx hx,zlx (by omega),Nat.and_two_pow_sub_one_eq_mod,zah]
 omega
theorem zts {ds:List Nat} {i j c:Nat} (hi:i<ds.length):(ds.set i c).getD j 0=if i=j then c else ds.getD j 0:=by
 grind
theorem zyi {ds:List Nat} {i:Nat} (hi:i<=ds.length):Digs (ds.take i)↔∀q,q<i->48<=ds.getD q 0/\ds.getD q 0<58:=by
 constructor
 ·intro h q hq
  have e:ds.getD q 0=ds[q]'(by omega):=by grind
  rw [e]
  exact h _ (List.mem_take_iff_getElem.2 ⟨q,by omega,rfl⟩)
 ·intro h z hz
  obtain ⟨q,hq,rfl⟩:=List.mem_take_iff_getElem.1 hz
  grind
theorem digB {z:Nat} (hz:z<10):IntKind.wrap .u8 (IntKind.wrap .u64 ((z:Int)+48))=((48+z:Nat):Int):=by rw [zah,byte8];omega
section
variable {h0 h:Hp} {b:Nat} {ds:List Nat} {dp:Int} {neg tr:Bool}
structure RInv (ds:List Nat) (i N N0 k:Nat):Prop where
 lt:N<10*2^k
 digs:∀q,q<i->48<=ds.getD q 0/\ds.getD q 0<58
 head:(i=0/\N=N0)\/(1<=i/\ds.getD 0 0=48+N0 / 2^k)
theorem RInv.step {ds:List Nat} {i N N0 k:Nat} (r:RInv ds i N N0 k) (hi:i<ds.length) (d:Nat) (hd:d<10):RInv (ds.set i (48+N / 2^k)) (i+1) (N%2^k*10+d) N0 k:=by
 have hp:=Nat.two_pow_pos k
 have hm:=Nat.mod_lt N hp
 have hq:N / 2^k<10:=by rw [Nat.div_lt_iff_lt_mul hp];exact r.lt
 refine ⟨by omega,fun q hq'=> ?_,.inr ⟨by omega,?_⟩⟩
 ·rw [zts hi]
  split
  ·grind
  ·exact r.digs q (by omega)
 ·rw [zts hi]
  rcases r.head with ⟨rfl,rfl⟩ | ⟨h1,h2⟩
  ·rw [if_pos rfl]
  grind
theorem RInv.rest {ds:List Nat} {i N N0 k:Nat} (r:RInv ds i N N0 k) (hi:1<=i):RInv ds i (N%2^k*10) N0 k:=by
 have hm:=Nat.mod_lt N (Nat.two_pow_pos k)
 refine ⟨by omega,r.digs,?_⟩
 rcases r.head with ⟨rfl,rfl⟩ | h2
 ·omega
 ·exact .inr h2
theorem zme1 {n k c:Nat} {Q:Hp->Prop} (x:DX h0 h b ds n dp neg tr) (g:GoodD ds n) (hc:ds[0]? =some c) (k1:1<=k) (k2:k<=60) (d0: -1000000000000000<=dp) (d1:dp<=1000000000000000)
  (hk:∀h' ds' (m r:Nat) tr',DX h0 h' b ds' m (dp-((r:Int)-1)) neg tr'->GoodD ds' m->1<=r->r<=900->(4<=k->2<=r)->(k=3->2<=r\/(56<=c/\ds'.getD 0 0=49))->Q h'):zfe prog (some ⟨b,0,none⟩) (k:Int) Q h:=by
 have h2:2^k<=2^60:=Nat.pow_le_pow_right (by decide) k2
 have hp:=Nat.two_pow_pos k
 have hl:=x.len
 have g1:=g.pos
 have g2:=g.most
 obtain ⟨c',hc',c49,c58⟩:=g.head
 have ecc:c'=c:=Option.some.inj (hc'.symm.trans hc)
 rw [ecc] at c49 c58
 have hdig:=(zyi (i:=n) (by omega)).1 g.digs
 have hsh:∀ {m:Nat},shrI .u64 (m:Int) (k:Int)=((m / 2^k:Nat):Int):=fun {m}=>shrN m (by omega)
 have hz:∀ {m:Nat},((((m / 2^k:Nat):Int)==0)=true↔m<2^k):=fun {m}=>by
  rw [beq_iff_eq]
  constructor
  ·intro e
   refine Classical.byContradiction fun hn=> ?_
   have:=Nat.div_pos (Nat.le_of_not_lt hn) hp
   omega
  ·intro e
   rw [Nat.div_eq_of_lt e];rfl
 have hone:numV (ds.take 1)=c-48:=by
  have:=zun hc
  simpa [numV] using this
 have hpos:∀j,1<=j->j<=n->1<=numV (ds.take j):=fun j j1 j2=>by
  have hh:(ds.take j)[0]? =some c:=by rw [List.getElem?_take,if_pos (by omega)];exact hc
  have:=(zxx1 hh c49).1
  grind
 unfold zfe
 refine JoinW2.intro (fun r v m=>m=h/\∃j N:Nat,r=(j:Int)/\v=(N:Int)/\1<=j/\j<=870/\2^k<=N/\N<10*2^k/\(4<=k->2<=j)/\(k=3->2<=j\/(56<=c/\N<=9))) ?_ ?_
 ·refine LoopW2.intro (fun r v m=>m=h/\∃j N:Nat,r=(j:Int)/\v=(N:Int)/\j<=n/\N=numV (ds.take j)/\N<10*2^k) (fun r _ _=>(n-r).toNat) ⟨rfl,0,0,rfl,rfl,by omega,rfl,by omega⟩ ?_
  rintro _ _ h ⟨rfl,j,N,rfl,rfl,j1,eN,hN⟩
  refine ⟨by omega,?_⟩
  rw [hsh]
  refine iteB (fun e=> ?_) fun e=> ?_
  ·have hlt:=hz.1 e
   refine zag (ld_c (sh:=shInt .i64) (n:Int) x.ndAt (iteB (fun hr=> ?_) fun hr=> ?_))
   ·have hr:(j:Int)>=(n:Int):=of_decide_eq_true hr
    have hjn:j=n:=by omega
    have hN1:=hpos j (by omega) j1
    refine iteF (fun hh=>by have:((N:Nat):Int)=0:=beq_iff_eq.1 hh;omega) ?_
    refine LoopW2.intro (fun r v m=>m=h/\∃j1 N1:Nat,r=(j1:Int)/\v=(N1:Int)/\n<=j1/\2^(j1-n)<=N1/\N1<10*2^k/\(n<j1\/N1<2^k)) (fun _ v _=>(18446744073709551616-v).toNat) ⟨rfl,j,N,rfl,rfl,by omega,by rw [hjn,Nat.sub_self];omega,hN,.inr hlt⟩ ?_
    rintro _ _ h ⟨rfl,j2,N2,rfl,rfl,b1,b2,b3,b4⟩
    have hj2:j2-n<64:=by
     refine Classical.byContradiction fun hn=> ?_
     have:=Nat.pow_le_pow_right (n:=2) (i:=64) (j:=j2-n) (by decide) (by omega)
     omega
    refine ⟨by omega,?_⟩
    rw [hsh]
    refine iteB (fun e=> ?_) fun e=> ?_
    ·have hlt2:=hz.1 e
     have hN2:1<=N2:=Nat.le_trans (Nat.two_pow_pos _) b2
     rw [zab (by omega) (by omega),show IntKind.wrap .u64 ((N2:Int)*10)=((N2*10:Nat):Int) by rw [zah];omega]
     refine ⟨⟨rfl,j2+1,N2*10,rfl,rfl,by omega,?_,by omega,.inl (by omega)⟩,by omega⟩
     rw [show j2+1-n=j2-n+1 by omega,Nat.pow_succ]
     omega
    grind
   ·have hr:¬(j:Int)>=(n:Int):=fun e=>hr (decide_eq_true e)
    have hdj:=hdig j (by omega)
    have hnx:numV (ds.take (j+1))=10*numV (ds.take j)+(ds.getD j 0-48):=zun (by grind)
    refine zag ⟨⟨by omega,by omega⟩,?_⟩
    rw [Int.toNat_natCast,decAt]
    refine ld_c (sh:=shInt .u8) ((ds.getD j 0:Nat):Int) (x.digit (by omega)) ?_
    rw [zab (by omega) (by omega)]
    have ev:IntKind.wrap .u64 ((IntKind.wrap .u64 ((IntKind.wrap .u64 ((N:Int)*(10:Int)))+(IntKind.wrap .u64 ((ds.getD j 0:Nat):Int))))-(48:Int))=((10*N+(ds.getD j 0-48):Nat):Int):=by
     rw [zah,zah,zah,zah];omega
    rw [ev]
    exact ⟨⟨rfl,j+1,_,rfl,rfl,by omega,by rw [hnx,eN],by omega⟩,by omega⟩
  ·have hge:¬N<2^k:=fun c=>e (hz.2 c)
   have hj0:1<=j:=by
    refine Nat.pos_of_ne_zero fun e=>hge ?_
    subst e
    rw [eN];exact hp
   have hj1:j=1->N=c-48:=fun e=>by subst e;rw [eN];exact hone
   refine ⟨rfl,j,N,rfl,rfl,hj0,by omega,by omega,hN,fun hk4=> ?_,fun hk3=> ?_⟩
   ·refine Classical.byContradiction fun hn=>hge ?_
    have:=hj1 (by omega)
    have:=Nat.pow_le_pow_right (n:=2) (i:=4) (j:=k) (by decide) hk4
    omega
   grind
 rintro _ _ h ⟨rfl,r,N0,rfl,rfl,r1,r2,N1,N2,rk4,rk3⟩
 refine zag (ld_c (sh:=shInt .i64) dp x.dpAt (zag ?_))
 rw [zab (n:=(r:Int)-1) (by omega) (by omega),zab (by omega) (by omega)]
 refine x.putDp fun m1 x1=>⟨by omega,?_⟩
 have hq0:1<=N0 / 2^k/\N0 / 2^k<10:=⟨Nat.div_pos N1 hp,by rw [Nat.div_lt_iff_lt_mul hp];exact N2⟩
 have h49:k=3->N0<=9->48+N0 / 2^k=49:=fun e1 e2=>by
  subst e1
  omega
 refine LoopW3.intro (fun r1 w v m=>∃(j i N:Nat) (ds1:List Nat),r1=(j:Int)/\w=(i:Int)/\v=(N:Int)/\i<j/\(j<=n\/i=0)/\DX h0 m b ds1 n (dp-((r:Int)-1)) neg tr/\RInv ds1 i N N0 k/\∀q,j<=q->q<n->ds1.getD q 0=ds.getD q 0) (fun r1 _ _ _=>(n-r1).toNat)
  ⟨r,0,N0,ds,rfl,rfl,rfl,by omega,.inr rfl,x1,⟨N2,fun q hq=>by omega,.inl ⟨rfl,rfl⟩⟩,fun _ _ _=>rfl⟩ ?_
 rintro _ _ _ m ⟨j,i,N,ds1,rfl,rfl,rfl,hij,hjn,x2,rI,hst⟩
 have hl1:=x2.len
 have hNlt:=rI.lt
 refine zag (ld_c (sh:=shInt .i64) (n:Int) x2.ndAt (iteB (fun hr=> ?_) fun hr=> ?_))
 ·have hr:(j:Int)<(n:Int):=of_decide_eq_true hr
  have hdj:=hdig j (by omega)
  refine zag ⟨⟨by omega,by omega⟩,?_⟩
  rw [Int.toNat_natCast,decAt]
  refine ld_c (sh:=shInt .u8) ((ds1.getD j 0:Nat):Int) (x2.digit (by omega)) ⟨by omega,zag ⟨⟨by omega,by omega⟩,?_⟩⟩
  rw [hst j (by omega) (by omega),Int.toNat_natCast,decAt,hsh,zum1 (by omega) k2]
  have hqd:N / 2^k<10:=by rw [Nat.div_lt_iff_lt_mul hp];exact hNlt
  have hmd:=Nat.mod_lt N hp
  refine x2.putD (c:=48+N / 2^k) (by omega) (digB hqd) fun m3 x3=> ?_
  have ev:IntKind.wrap .u64 ((IntKind.wrap .u64 ((IntKind.wrap .u64 (((N%2^k:Nat):Int)*(10:Int)))+(IntKind.wrap .u64 ((ds.getD j 0:Nat):Int))))-(48:Int))=((N%2^k*10+(ds.getD j 0-48):Nat):Int):=by
   rw [zah,zah,zah,zah];omega
  rw [ev,zab (n:=(j:Int)+1) (by omega) (by omega),zab (n:=(i:Int)+1) (by omega) (by omega)]
  refine ⟨⟨j+1,i+1,_,_,rfl,rfl,rfl,by omega,.inl (by omega),x3,rI.step (by omega) _ (by omega),fun q q1 q2=> ?_⟩,by omega⟩
  rw [zts (by omega),if_neg (by omega)]
  grind
 ·have hr:¬(j:Int)<(n:Int):=fun e=>hr (decide_eq_true e)
  refine LoopW2.intro (fun w v m=>∃(i N:Nat) (ds1:List Nat) (tr1:Bool),w=(i:Int)/\v=(N:Int)/\i<=800/\DX h0 m b ds1 n (dp-((r:Int)-1)) neg tr1/\RInv ds1 i N N0 k) (fun _ v _=>restN v.toNat)
   ⟨i,N,ds1,tr,rfl,rfl,by omega,x2,rI⟩ ?_
  clear rI x2 hst hjn hij hl1 hNlt hr ds1 m N i
  rintro _ _ m ⟨i,N,ds1,tr1,rfl,rfl,hi,x2,rI⟩
  have hl1:=x2.len
  have hNlt:=rI.lt
  have hqd:N / 2^k<10:=by rw [Nat.div_lt_iff_lt_mul hp];exact hNlt
  refine iteB (fun hn=>⟨by omega,?_⟩) fun hn=> ?_
  ·have hn:(N:Int)>0:=of_decide_eq_true hn
   have hmd:=Nat.mod_lt N hp
   have hrest:=zil2 (n:=N) k2 (by omega)
   have ev:IntKind.wrap .u64 (((N%2^k:Nat):Int)*(10:Int))=((N%2^k*10:Nat):Int):=by rw [zah];omega
   rw [hsh,zum1 (by omega) k2,ev]
   refine JoinW1.intro (fun w m=>∃(i:Nat) (ds1:List Nat) (tr1:Bool),w=(i:Int)/\i<=800/\DX h0 m b ds1 n (dp-((r:Int)-1)) neg tr1/\RInv ds1 i (N%2^k*10) N0 k) ?_ ?_
   ·generalize hdw:decide ((i:Int)<800)=dw
    cases dw with
    | true=>
     have hw:(i:Int)<800:=of_decide_eq_true hdw
     rw [if_pos rfl]
     refine zag ⟨⟨by omega,by omega⟩,?_⟩
     rw [Int.toNat_natCast,decAt]
     refine x2.putD (c:=48+N / 2^k) (by omega) (digB hqd) fun m3 x3=> ?_
     rw [zab (by omega) (by omega)]
     exact ⟨i+1,_,tr1,rfl,by omega,x3,rI.step (by omega) 0 (by decide)⟩
    | false=>
     have hw:¬(i:Int)<800:=of_decide_eq_false hdw
     rw [if_neg (by decide)]
     refine iteB (fun _=>zag (x2.putTr fun m3 x3=>⟨i,ds1,true,rfl,hi,x3,rI.rest (by omega)⟩)) fun _=>⟨i,ds1,tr1,rfl,hi,x2,rI.rest (by omega)⟩
   rintro _ m3 ⟨i3,ds3,tr3,rfl,hi3,x3,rI3⟩
   exact ⟨⟨i3,_,ds3,tr3,rfl,rfl,hi3,x3,rI3⟩,by rw [Int.toNat_natCast,Int.toNat_natCast];exact hrest⟩
  ·have hn:¬(N:Int)>0:=fun e=>hn (decide_eq_true e)
   have hhead:1<=i/\ds1.getD 0 0=48+N0 / 2^k:=by
    rcases rI.head with ⟨e1,e2⟩ | e
    ·omega
    ·exact e
   refine zag (x2.putNd fun m3 x3=> ?_)
   have g3:GoodD ds1 i:=⟨hhead.1,hi,(zyi (by omega)).2 rI.digs,48+N0 / 2^k,by
    have:=hhead.2
    rw [List.getD,List.getElem?_eq_getElem (show 0<ds1.length by omega)] at this
    rw [List.getElem?_eq_getElem (show 0<ds1.length by omega)]
    exact congrArg some this,by omega,by omega⟩
   refine zml (zbo2 x3 g3 fun m4 q x4 g4=>hk m4 ds1 q r tr1 x4 g4 r1 (by omega) rk4 fun e=> ?_)
   omega
end
def Cheats (h:Hp):Prop:=∃a c,LdIs h ⟨9,0,none⟩ [.slice (some a) 61 c]/\∀k,k<61->LdIs h (Addr.add (Addr.add a (k*2)) 0) [.int .i64 (newD k:Int)]/\LdIs h (Addr.add (Addr.add a (k*2)) 1) [.string (strN (fiveL k))]
theorem Cheats.mono {h h':Hp} (e:Cheats h) (hl:h<=h'):Cheats h':=by
 obtain ⟨a,c,e1,e2⟩:=e
 exact ⟨a,c,zbc hl e1,fun k hk=>⟨zbc hl (e2 k hk).1,zbc hl (e2 k hk).2⟩⟩
theorem ziz2 :∀k,k<61->newD k<=19:=by decide+kernel
theorem zmu2 {k:Nat} (h:1<=k):1<=newD k:=by unfold newD;rw [if_neg (by omega)];exact zkx _
section
variable {h0 h:Hp} {b:Nat} {ds:List Nat} {dp:Int} {neg tr:Bool}
theorem zja2 {v:Nat} (hv:v<18446744073709551616):IntKind.wrap .u64 ((v:Int)-(IntKind.wrap .u64 ((10:Int)*(IntKind.wrap .u64 (Int.tdiv (v:Int) (10:Int))))))=((v%10:Nat):Int):=by
 rw [show Int.tdiv (v:Int) (10:Int)=((v / 10:Nat):Int) from tdivN,wrapN (by omega),show (10:Int)*((v / 10:Nat):Int)=((10*(v / 10):Nat):Int) by omega,wrapN (by omega),zah]
 omega
theorem zjb2 {v:Nat} (hv:v<18446744073709551616):IntKind.wrap .u64 (Int.tdiv (v:Int) (10:Int))=((v / 10:Nat):Int):=by
 rw [show Int.tdiv (v:Int) (10:Int)=((v / 10:Nat):Int) from tdivN,wrapN (by omega)]
theorem zmv2 {n k c:Nat} {Q:Hp->Prop} (t:Cheats h0) (x:DX h0 h b ds n dp neg tr) (g:GoodD ds n) (hc:ds[0]? =some c) (k1:1<=k) (k2:k<=60) (d0: -1000000000000000<=dp) (d1:dp<=1000000000000000)
  (hk:∀h' ds' (m D:Nat) tr',DX h0 h' b ds' m (dp+(D:Int)) neg tr'->GoodD ds' m->newD k<=D+1->D<=newD k->(D=0->(c-48)*2^k<=ds'.getD 0 0-48)->Q h'):zfz prog (some ⟨b,0,none⟩) (k:Int) Q h:=by
 have h2:2^k<=2^60:=Nat.pow_le_pow_right (by decide) k2
 have hp:=Nat.two_pow_pos k
 have hl:=x.len
 have g1:=g.pos
 have g2:=g.most
 obtain ⟨c',hc',c49,c58⟩:=g.head
 have ecc:c'=c:=Option.some.inj (hc'.symm.trans hc)
 rw [ecc] at c49 c58
 have hdig:=(zyi (i:=n) (by omega)).1 g.digs
 have hnew:=ziz2 k (by omega)
 have hnew1:=zmu2 k1
 have hc0:ds.getD 0 0=c:=by grind
 have htl:(ds.take n).length=n:=by grind
 have hhead:(ds.take n)[0]? =some c:=by grind
 obtain ⟨a,cap,t1,t2⟩:=t
 obtain ⟨t3,t4⟩:=t2 k (by omega)
 have s3:sat (some a) 2 (k:Int)=Addr.add a (k*2):=by unfold sat;simp
 unfold zfz
 refine ld_c (sh:=shSl) ⟨some a,61,cap⟩ (zbc x.le t1) ⟨⟨by simp,by omega,by show (k:Int)<((61:Nat):Int);omega⟩,?_⟩
 dsimp only
 rw [s3]
 refine ld_c (sh:=shInt .i64) (newD k:Int) (zbc x.le t3) ?_
 refine JoinW1.intro (fun d m=>m=h/\∃(lt:Bool) (D:Nat),d=(D:Int)/\D=(if lt then newD k-1 else newD k)/\LessL lt (ds.take n) k) ?_ ?_
 ·refine zag (zag (ld_c (sh:=shInt .i64) (n:Int) x.ndAt ⟨⟨by decide,by omega,by omega⟩,letW ?_⟩))
  refine ld_c (sh:=shSl) ⟨some a,61,cap⟩ (zbc x.le t1) ⟨⟨by simp,by omega,by show (k:Int)<((61:Nat):Int);omega⟩,?_⟩
  dsimp only
  rw [s3]
  refine ld_c (sh:=shStr) (strN (fiveL k)) (zbc x.le t4) ?_
  have eb:sbase (some (Addr.add (⟨b,0,none⟩:Addr) 0)) 1 0 800=some ⟨b,0,none⟩:=by rw [box_add];unfold sbase;rw [if_neg (by decide)];show some (Addr.add _ _)=_;rw [box_add]
  rw [eb,Int.toNat_natCast,Nat.sub_zero]
  refine zmf (b:=⟨some ⟨b,0,none⟩,n,800⟩) (zmt2 (x.row g2) g.digs (by omega) k1 (by omega) fun lt hlt=> ?_)
  cases lt with
  | true=>
   refine iteT rfl ⟨rfl,true,newD k-1,?_,rfl,hlt⟩
   rw [zab (by omega) (by omega)];omega
  | false=>grind
 rintro _ _ ⟨rfl,lt,D,rfl,hD,hlt⟩
 have hDb:newD k<=D+1/\D<=newD k:=by grind
 obtain ⟨q1,q2,q3⟩:=zxy1 g.digs hhead c49 k1 (by omega) hlt hD
 rw [htl] at q1 q2
 clear hlt hD lt
 refine zag (ld_c (sh:=shInt .i64) (n:Int) x.ndAt (zag (ld_c (sh:=shInt .i64) (n:Int) x.ndAt ?_)))
 rw [zab (n:=(n:Int)-1) (by omega) (by omega),zab (n:=(n:Int)+(D:Int)) (by omega) (by omega)]
 have hX:∀j,j<=n->(ds.take n).take j=ds.take j:=fun j hj=>by grind
 refine LoopW3.intro (fun r w v m=>∃(j N:Nat) (ds1:List Nat) (tr1:Bool),r=(j:Int)-1/\w=((j+D:Nat):Int)/\v=(N:Int)/\j<=n/\N<2^k/\numV (ds.take j)*2^k+N=numV (ds.take n)*2^k / 10^(n-j)/\DX h0 m b ds1 n dp neg tr1/\
   (∀q,q<j->ds1.getD q 0=ds.getD q 0)/\(∀q,j+D<=q->q<n+D->q<800->48<=ds1.getD q 0/\ds1.getD q 0<58)/\(D=0->j=0->(c-48)*2^k<=ds1.getD 0 0-48)) (fun r _ _ _=>(r+1).toNat)
  ⟨n,0,ds,tr,rfl,by omega,rfl,by omega,hp,by simp,x,fun _ _=>rfl,fun q a1 a2=>by omega,fun _ e=>by omega⟩ ?_
 rintro _ _ _ m ⟨j,N,ds1,tr1,rfl,rfl,rfl,hj,hN,hV,x1,hold,hnw,hh0⟩
 have hl1:=x1.len
 refine iteB (fun hr=> ?_) fun hr=> ?_
 ·have hr:(j:Int)-1>=0:=of_decide_eq_true hr
  obtain ⟨i,rfl⟩:∃i,j=i+1:=⟨j-1,by omega⟩
  have hdi:=hdig i (by omega)
  have hoi:=hold i (by omega)
  have ei:((i+1:Nat):Int)-1=(i:Int):=by omega
  rw [ei]
  refine zag ⟨⟨by omega,by omega⟩,?_⟩
  rw [Int.toNat_natCast,decAt]
  refine ld_c (sh:=shInt .u8) ((ds1.getD i 0:Nat):Int) (x1.digit (by omega)) ⟨by omega,by decide,?_⟩
  rw [hoi]
  obtain ⟨d,hd⟩:∃d,ds.getD i 0=48+d:=⟨ds.getD i 0-48,by omega⟩
  have hd10:d<10:=by omega
  rw [hd]
  have hsh:shlI .u64 (IntKind.wrap .u64 ((IntKind.wrap .u64 ((48+d:Nat):Int))-(48:Int))) (k:Int)=((d*2^k:Nat):Int):=by
   rw [show IntKind.wrap .u64 ((IntKind.wrap .u64 ((48+d:Nat):Int))-(48:Int))=(d:Int) by rw [zah,zah];omega]
   refine shlN (by omega) ?_
   have:=Nat.mul_le_mul (show d<=9 by omega) h2
   omega
  have hVb:N+d*2^k<10*2^k:=by
   have:=Nat.mul_le_mul_right (2^k) (show d<=9 by omega)
   omega
  have eV:IntKind.wrap .u64 ((N:Int)+((d*2^k:Nat):Int))=((N+d*2^k:Nat):Int):=by rw [zah];omega
  rw [hsh,eV,zja2 (by omega),zjb2 (by omega)]
  have ew:IntKind.wrap .i64 (((i+1+D:Nat):Int)-1)=((i+D:Nat):Int):=by rw [zab (by omega) (by omega)];omega
  rw [ew,zab (n:=(i:Int)-1) (by omega) (by omega)]
  have hnt:=zun (ds:=ds) (i:=i) (z:=48+d) (by grind)
  rw [show 48+d-48=d by omega] at hnt
  have hV2:numV (ds.take i)*2^k+(N+d*2^k) / 10=numV (ds.take n)*2^k / 10^(n-i):=by
   rw [hnt] at hV
   have:=zim2 hV
   rw [show n-(i+1)+1=n-i by omega] at this
   exact this
  have hq2:(N+d*2^k) / 10<2^k:=by omega
  have hzero:D=0->i=0->N+d*2^k<10/\d=c-48:=fun e1 e2=>by
   grind
  refine JoinW0.intro (fun m=>∃(ds2:List Nat) (tr2:Bool),DX h0 m b ds2 n dp neg tr2/\(∀q,q<i->ds2.getD q 0=ds.getD q 0)/\(∀q,i+D<=q->q<n+D->q<800->48<=ds2.getD q 0/\ds2.getD q 0<58)/\(D=0->i=0->(c-48)*2^k<=ds2.getD 0 0-48)) ?_ ?_
  ·generalize hdw:decide (((i+D:Nat):Int)<800)=dw
   cases dw with
   | true=>
    have hw:((i+D:Nat):Int)<800:=of_decide_eq_true hdw
    rw [if_pos rfl]
    refine zag ⟨⟨by omega,by omega⟩,?_⟩
    rw [Int.toNat_natCast,decAt]
    have hm10:=Nat.mod_lt (N+d*2^k) (show 0<10 by decide)
    refine x1.putD (c:=48+(N+d*2^k)%10) (by omega) (digB hm10) fun m2 x2=>⟨_,tr1,x2,fun q hq=> ?_,fun q a1 a2 a3=> ?_,fun e1 e2=> ?_⟩
    ·rw [zts (by omega),if_neg (by omega)];grind
    ·rw [zts (by omega)]
     by_cases e:i+D=q
     ·rw [if_pos e]
      generalize (N+d*2^k)%10=z at*
      omega
     grind
    ·obtain ⟨z1,z2⟩:=hzero e1 e2
     rw [zts (by omega),if_pos (by omega),Nat.mod_eq_of_lt z1,z2]
     omega
   | false=>
    have hw:¬((i+D:Nat):Int)<800:=of_decide_eq_false hdw
    rw [if_neg (by decide)]
    have keep:(∀q,q<i->ds1.getD q 0=ds.getD q 0)/\(∀q,i+D<=q->q<n+D->q<800->48<=ds1.getD q 0/\ds1.getD q 0<58)/\(D=0->i=0->(c-48)*2^k<=ds1.getD 0 0-48):=
     ⟨fun q hq=>hold q (by omega),fun q a1 a2 a3=>by omega,fun e1 e2=>by omega⟩
    exact iteB (fun _=>zag (x1.putTr fun m2 x2=>⟨ds1,true,x2,keep⟩)) fun _=>⟨ds1,tr1,x1,keep⟩
  rintro m2 ⟨ds2,tr2,x2,e1,e2,e3⟩
  exact ⟨⟨i,_,ds2,tr2,rfl,rfl,rfl,by omega,hq2,hV2,x2,e1,e2,e3⟩,by omega⟩
 ·have hr:¬(j:Int)-1>=0:=fun e=>hr (decide_eq_true e)
  have hj0:j=0:=by omega
  subst hj0
  rw [List.take_zero,show numV []=0 from rfl,Nat.zero_mul,Nat.zero_add,Nat.sub_zero] at hV
  rw [<-hV] at q1 q2
  have hh0':=fun e=>hh0 e rfl
  refine LoopW2.intro (fun w v m=>∃(W N:Nat) (ds1:List Nat),w=(W:Int)/\v=(N:Int)/\W<=D/\N<2^k/\N<10^W/\(1<=W->10^(W-1)<=N)/\DX h0 m b ds1 n dp neg tr1/\(∀q,W<=q->q<n+D->q<800->48<=ds1.getD q 0/\ds1.getD q 0<58)/\(W=0->49<=ds1.getD 0 0)/\(D=0->(c-48)*2^k<=ds1.getD 0 0-48)) (fun w _ _=>w.toNat)
   ⟨D,N,ds1,by omega,rfl,Nat.le_refl _,hN,q1,q2,x1,fun q a1 a2 a3=>hnw q (by omega) a2 a3,fun e=> ?_,hh0'⟩ ?_
  ·have:=hh0' e
   have:=Nat.mul_le_mul (show 1<=c-48 by omega) hp
   omega
  clear hh0 hh0' hnw hold x1 hl1 hr q1 q2 hV hN ds1 m N
  rintro _ _ m ⟨W,N,ds1,rfl,rfl,hW,hN,n1,n2,x1,hnw,hh1,hh0⟩
  have hl1:=x1.len
  refine iteB (fun hn=>⟨by decide,?_⟩) fun hn=> ?_
  ·have hn:(N:Int)>0:=of_decide_eq_true hn
   have hW1:1<=W:=by
    refine Nat.pos_of_ne_zero fun e=> ?_
    subst e
    rw [Nat.pow_zero] at n1
    omega
   obtain ⟨V,rfl⟩:∃V,W=V+1:=⟨W-1,by omega⟩
   have n2:=n2 hW1
   rw [Nat.add_sub_cancel] at n2
   rw [Nat.pow_succ] at n1
   have ew:IntKind.wrap .i64 (((V+1:Nat):Int)-1)=(V:Int):=by rw [zab (by omega) (by omega)];omega
   rw [ew,zja2 (by omega),zjb2 (by omega)]
   have hm10:=Nat.mod_lt N (show 0<10 by decide)
   refine JoinW0.intro (fun m=>∃ds2:List Nat,DX h0 m b ds2 n dp neg tr1/\(∀q,V<=q->q<n+D->q<800->48<=ds2.getD q 0/\ds2.getD q 0<58)/\(V=0->49<=ds2.getD 0 0)) ?_ ?_
   ·rw [decide_eq_true (show (V:Int)<800 by omega),if_pos rfl]
    refine zag ⟨⟨by omega,by omega⟩,?_⟩
    rw [Int.toNat_natCast,decAt]
    refine x1.putD (c:=48+N%10) (by omega) (digB hm10) fun m2 x2=>⟨_,x2,fun q a1 a2 a3=> ?_,fun e=> ?_⟩
    ·rw [zts (by omega)]
     by_cases e:V=q
     ·rw [if_pos e];omega
     ·rw [if_neg e];exact hnw q (by omega) a2 a3
    ·subst e
     rw [Nat.pow_zero] at n1 n2
     rw [zts (by omega),if_pos rfl]
     omega
   rintro m2 ⟨ds2,x2,e1,e2⟩
   refine ⟨⟨V,N / 10,ds2,rfl,rfl,by omega,by omega,by omega,fun v1=> ?_,x2,e1,e2,fun e=>by omega⟩,by omega⟩
   obtain ⟨U,rfl⟩:∃U,V=U+1:=⟨V-1,by omega⟩
   grind
  ·have hn:¬(N:Int)>0:=fun e=>hn (decide_eq_true e)
   have hW0:W=0:=by
    grind
   subst hW0
   have h49:=hh1 rfl
   refine zag (ld_c (sh:=shInt .i64) (n:Int) x1.ndAt (zag ?_))
   rw [zab (by omega) (by omega),show (n:Int)+(D:Int)=((n+D:Nat):Int) by omega]
   refine x1.putNd fun m2 x2=> ?_
   refine JoinW0.intro (fun m=>∃M:Nat,1<=M/\M<=800/\M<=n+D/\DX h0 m b ds1 M dp neg tr1) ?_ ?_
   ·refine zag (ld_c (sh:=shInt .i64) ((n+D:Nat):Int) x2.ndAt ?_)
    generalize hdw:decide (((n+D:Nat):Int)>=800)=dw
    cases dw with
    | true=>
     have hw:((n+D:Nat):Int)>=800:=of_decide_eq_true hdw
     rw [if_pos rfl]
     exact zag (x2.putNd fun m3 x3=>⟨800,by decide,by decide,by omega,x3⟩)
    | false=>
     grind
   rintro m3 ⟨M,M1,M2,M3,x3⟩
   refine zag (ld_c (sh:=shInt .i64) dp x3.dpAt (zag ?_))
   rw [zab (by omega) (by omega)]
   refine x3.putDp fun m4 x4=> ?_
   have d0':=hnw 0 (by omega) (by omega) (by decide)
   have g3:GoodD ds1 M:=⟨M1,M2,(zyi (by omega)).2 fun q hq=>hnw q (by omega) (by omega) (by omega),ds1.getD 0 0,by grind,h49,d0'.2⟩
   exact zml (zbo2 x4 g3 fun m5 q x5 g5=>hk m5 ds1 q D tr1 x5 g5 hDb.1 hDb.2 hh0)
end
def dpOf (h:Hp) (b:Nat):Int:=match hcell h ⟨b,801,none⟩ with
 | some (.int _ n)=>n
 | _=>0
def d0Of (h:Hp) (b:Nat):Nat:=match hcell h ⟨b,0,none⟩ with
 | some (.int _ n)=>n.toNat
 | _=>0
section
variable {h0 h:Hp} {b:Nat} {ds:List Nat} {dp:Int} {neg tr:Bool}
theorem DX.dpIs {nd:Int} (x:DX h0 h b ds nd dp neg tr):dpOf h b=dp:=by
 have:=x.dpAt 0 _ rfl
 rw [box_add,box_add] at this
 unfold dpOf
 grind
theorem DX.d0Is {nd:Int} (x:DX h0 h b ds nd dp neg tr):d0Of h b=ds.getD 0 0:=by
 have:=x.digit (i:=0) (by decide) 0 _ rfl
 rw [box_add] at this
 unfold d0Of
 grind
theorem GoodD.first {n:Nat} (g:GoodD ds n):ds[0]? =some (ds.getD 0 0)/\49<=ds.getD 0 0/\ds.getD 0 0<58:=by
 obtain ⟨c,hc,c1,c2⟩:=g.head
 grind
theorem zyf1 {n k:Nat} {Q:Hp->Prop} (x:DX h0 h b ds n dp neg tr) (g:GoodD ds n) (k1:1<=k) (k2:k<=60) (d0: -1000000000000000<=dp) (d1:dp<=1000000000000000)
  (hk:∀h' ds' (m r:Nat) tr',DX h0 h' b ds' m (dp-((r:Int)-1)) neg tr'->GoodD ds' m->1<=r->r<=900->(4<=k->2<=r)->(k=3->2<=r\/(56<=ds.getD 0 0/\ds'.getD 0 0=49))->Q h'):zas prog (some ⟨b,0,none⟩) (-(k:Int)) Q h:=by
 unfold zas
 have gp:=g.pos
 refine zag (ld_c (sh:=shInt .i64) (n:Int) x.ndAt (iteF (fun hh=>by have:((n:Nat):Int)=0:=beq_iff_eq.1 hh;omega) (iteF (fun hh=>by have:=of_decide_eq_true hh;omega) (iteT (decide_eq_true (by omega)) ?_))))
 refine LoopW1.intro (fun k1 m=>m=h/\k1= -(k:Int)) (fun _ _=>0) ⟨rfl,rfl⟩ ?_
 rintro _ m ⟨rfl,rfl⟩
 have e:IntKind.wrap .u64 (IntKind.wrap .i64 ((0:Int)-(-(k:Int))))=(k:Int):=by rw [zab (by omega) (by omega),zah];omega
 rw [e]
 refine iteF (fun hh=>by grind) (zdt (zme1 x g g.first.1 k1 k2 d0 d1 hk))
theorem zmf1 {n:Nat} {K:Int} {Q:Hp->Prop} (x:DX h0 h b ds n dp neg tr) (g:GoodD ds n) (k1:K<0) (k2: -100000000<=K) (d0: -1000000000<=dp) (d1:dp<=1000000000)
  (hk:∀h' ds' (m:Nat) dp' tr',DX h0 h' b ds' m dp' neg tr'->GoodD ds' m-> -100000000000000<=dp'->dp'<=dp->Q h'):zas prog (some ⟨b,0,none⟩) K Q h:=by
 unfold zas
 have gp:=g.pos
 refine zag (ld_c (sh:=shInt .i64) (n:Int) x.ndAt (iteF (fun hh=>by have:((n:Nat):Int)=0:=beq_iff_eq.1 hh;omega) (iteF (fun hh=>by have:=of_decide_eq_true hh;omega) (iteT (decide_eq_true k1) ?_))))
 refine LoopW1.intro (fun k m=>K<=k/\k<0/\∃(ds1:List Nat) (n1:Nat) (dp1:Int) (tr1:Bool),DX h0 m b ds1 n1 dp1 neg tr1/\GoodD ds1 n1/\dp1<=dp/\dp-15*(k-K)<=dp1) (fun k _=>(-k).toNat) ⟨Int.le_refl _,k1,ds,n,dp,tr,x,g,Int.le_refl _,by omega⟩ ?_
 rintro k m ⟨a1,a2,ds1,n1,dp1,tr1,x1,g1,b1,b2⟩
 refine iteB (fun hc=> ?_) fun hc=> ?_
 ·have hc:k< -60:=of_decide_eq_true hc
  refine zdt (zme1 (k:=60) x1 g1 g1.first.1 (by decide) (by decide) (by omega) (by omega) fun m2 ds2 q r tr2 x2 g2 r1 r2 _ _=> ?_)
  rw [zab (by omega) (by omega)]
  grind
 ·have hc:¬k< -60:=fun e=>hc (decide_eq_true e)
  obtain ⟨j,rfl⟩:∃j:Nat,k= -(j:Int):=⟨(-k).toNat,by omega⟩
  have e:IntKind.wrap .u64 (IntKind.wrap .i64 ((0:Int)-(-(j:Int))))=(j:Int):=by rw [zab (by omega) (by omega),zah];omega
  rw [e]
  refine zdt (zme1 (k:=j) x1 g1 g1.first.1 (by omega) (by omega) (by omega) (by omega) fun m2 ds2 q r tr2 x2 g2 r1 r2 _ _=> ?_)
  grind
theorem zow1 {n k:Nat} {Q:Hp->Prop} (t:Cheats h0) (x:DX h0 h b ds n dp neg tr) (g:GoodD ds n) (k1:1<=k) (k2:k<=60) (d0: -1000000000000000<=dp) (d1:dp<=1000000000000000)
  (hk:∀h' ds' (m D:Nat) tr',DX h0 h' b ds' m (dp+(D:Int)) neg tr'->GoodD ds' m->newD k<=D+1->D<=newD k->(D=0->(ds.getD 0 0-48)*2^k<=ds'.getD 0 0-48)->Q h'):zas prog (some ⟨b,0,none⟩) (k:Int) Q h:=by
 unfold zas
 have gp:=g.pos
 refine zag (ld_c (sh:=shInt .i64) (n:Int) x.ndAt (iteF (fun hh=>by have:((n:Nat):Int)=0:=beq_iff_eq.1 hh;omega) (iteT (decide_eq_true (by omega)) ?_)))
 refine LoopW1.intro (fun k1 m=>m=h/\k1=(k:Int)) (fun _ _=>0) ⟨rfl,rfl⟩ ?_
 rintro _ m ⟨rfl,rfl⟩
 rw [show IntKind.wrap .u64 (k:Int)=(k:Int) by rw [zah];omega]
 exact iteF (fun hh=>by grind) (zqw (zmv2 t x g g.first.1 k1 k2 d0 d1 hk))
theorem zyg1 {n:Nat} {i:Int} {Q:Bool->Hp->Prop} (x:DX h0 h b ds n dp neg tr) (hn:n<=800) (hq:∀v,Q v h):zds prog (some ⟨b,0,none⟩) i Q h:=by
 unfold zds
 refine zag (ld_c (sh:=shInt .i64) (n:Int) x.ndAt (letW (iteB (fun _=>hq _) fun hy=> ?_)))
 have hi:0<=i/\i<(n:Int):=by
  grind
 obtain ⟨j,rfl⟩:=Int.eq_ofNat_of_zero_le hi.1
 refine zag ⟨⟨by omega,by omega⟩,?_⟩
 rw [Int.toNat_natCast,decAt]
 refine ld_c (sh:=shInt .u8) _ (x.digit (by omega)) (zag (ld_c (sh:=shInt .i64) (n:Int) x.ndAt (letW (iteB (fun _=> ?_) fun _=> ?_))))
 ·refine zag (ld_c (sh:=zae) tr x.trAt (iteB (fun _=>hq _) fun _=>zag ⟨fun hh=> ?_,?_⟩))
  ·have:=of_decide_eq_true hh
   rw [zab (by omega) (by omega)]
   omega
  ·by_cases hj:j=0
   ·subst hj
    exact ⟨(0:Int),fun e:decide (((0:Nat):Int)>0)=true=>absurd e (by decide),fun e:decide (((0:Nat):Int)>0)=true=>absurd e (by decide),letW (hq _)⟩
   ·have e1:IntKind.wrap .i64 ((j:Int)-1)=((j-1:Nat):Int):=by rw [zab (by omega) (by omega)];omega
    rw [e1,Int.toNat_natCast,decAt]
    exact ld_c (sh:=shInt .u8) _ (x.digit (by omega)) ⟨fun _=>by decide,letW (hq _)⟩
 ·refine zag ⟨⟨by omega,by omega⟩,?_⟩
  rw [decAt]
  exact ld_c (sh:=shInt .u8) _ (x.digit (by omega)) (hq _)
theorem zyh1 {n:Nat} {Q:Int->Hp->Prop} (x:DX h0 h b ds n dp neg tr) (hn:n<=800) (hq:∀v,U64 v->Q v h):zbz prog (some ⟨b,0,none⟩) Q h:=by
 unfold zbz
 refine zag (ld_c (sh:=shInt .i64) dp x.dpAt (iteB (fun _=>hq _ ⟨18446744073709551615,rfl,by decide⟩) fun h20=> ?_))
 have h20:¬dp>20:=fun e=>h20 (decide_eq_true e)
 refine LoopW2.intro (fun i v m=>m=h/\0<=i/\i<=1000/\U64 v) (fun i _ _=>(1000-i).toNat) ⟨rfl,by omega,by omega,0,rfl,by decide⟩ ?_
 rintro i v m ⟨rfl,i0,i1,hv⟩
 refine zag (ld_c (sh:=shInt .i64) dp x.dpAt (zag (ld_c (sh:=shInt .i64) (n:Int) x.ndAt (letW (iteB (fun hy=> ?_) fun _=> ?_)))))
 ·rw [Bool.and_eq_true] at hy
  have h1:=of_decide_eq_true hy.1
  have h2:=of_decide_eq_true hy.2
  obtain ⟨j,rfl⟩:=Int.eq_ofNat_of_zero_le i0
  refine zag ⟨⟨by omega,by omega⟩,?_⟩
  rw [Int.toNat_natCast,decAt,zab (by omega) (by omega)]
  exact ld_c (sh:=shInt .u8) _ (x.digit (by omega)) ⟨⟨rfl,by omega,by omega,ztr _⟩,by omega⟩
 ·refine LoopW2.intro (fun i v k=>k=m/\0<=i/\i<=1000/\U64 v) (fun i _ _=>(1000-i).toNat) ⟨rfl,i0,i1,hv⟩ ?_
  rintro i v m ⟨rfl,i0,i1,hv⟩
  refine zag (ld_c (sh:=shInt .i64) dp x.dpAt (iteB (fun hc=> ?_) fun _=> ?_))
  ·have hc:=of_decide_eq_true hc
   rw [zab (by omega) (by omega)]
   exact ⟨⟨rfl,by omega,by omega,ztr _⟩,by omega⟩
  ·refine zag (ld_c (sh:=shInt .i64) dp x.dpAt (znv (zyg1 x hn fun r=>iteB (fun _=>hq _ (ztr _)) fun _=>hq _ hv)))
end
def powL :List Int:=[1,3,6,9,13,16,19,23,26]
def pN (i:Nat):Nat:=if 9<=i then 27 else [1,3,6,9,13,16,19,23,26].getD i 0
theorem zoq2 :∀i,i<9->powL[i]? =some (pN i:Int)/\1<=pN i/\pN i<=27/\(2<=i->6<=pN i):=by decide
theorem pN_in (i:Nat):1<=pN i/\pN i<=27/\(2<=i->6<=pN i):=by
 by_cases h:9<=i
 ·unfold pN
  grind
 ·exact (zoq2 i (by omega)).2
def PowT (h:Hp):Prop:=∃a c,LdIs h ⟨11,0,none⟩ [.slice (some a) 9 c]/\LdIs h a (powL.map fun x=>.int .i64 x)
structure SEnv (h:Hp):Prop where
 hx:HEnv h
 ch:Cheats h
 pw:PowT h
theorem SEnv.mono {h h':Hp} (e:SEnv h) (hl:h<=h'):SEnv h':=by
 obtain ⟨a,c,e1,e2⟩:=e.pw
 exact ⟨e.hx.mono hl,e.ch.mono hl,a,c,zbc hl e1,zbc hl e2⟩
section
variable {h0 h:Hp} {b:Nat} {ds:List Nat} {dp:Int} {neg tr:Bool}
theorem zii1 {n:Int} {f:Int->Int->Int} {g:Int} {ov:Bool} {Q:Int->Bool->Hp->Prop} (c0:LdIs h (Addr.add ⟨7,0,none⟩ 0) [.int .u64 52]) (c1:LdIs h (Addr.add ⟨7,0,none⟩ 1) [.int .u64 11]) (x:DX h0 h b ds n dp neg tr)
  (hf:∀a b,U64 (f a b)) (hg:U64 g) (hq:∀v ov,U64 v->Q v ov h):NilW none (some ⟨b,0,none⟩) fun p=>LdW none zae h (Addr.add p 802) fun x6=>
   (if x6=true then
   NilW none (some ⟨7,0,none⟩) fun p7=>LdW none (shInt .u64) h (Addr.add p7 0) fun x7=>
   ((0:Int)<=x7/\NilW none (some ⟨7,0,none⟩) fun p8=>LdW none (shInt .u64) h (Addr.add p8 1) fun x8=>
   ((0:Int)<=x8/\Q (f x7 x8) ov h))
   else
   Q g ov h):=
 zag (ld_c (sh:=zae) neg x.negAt (iteB (fun _=>zag (ld_c (sh:=shInt .u64) (52:Int) c0 ⟨by decide,zag (ld_c (sh:=shInt .u64) (11:Int) c1 ⟨by decide,hq _ _ (hf _ _)⟩)⟩)) fun _=>hq _ _ hg))
theorem zjc2 {n:Nat} {i:Int} {K:Int->Hp->Prop} {A:Int->Int} (pw:PowT h) (x:DX h0 h b ds n dp neg tr) (hA:A dp=i) (i0:0<=i) (hk:K (pN i.toNat:Int) h):
  NilW none (some ⟨b,0,none⟩) fun p4=>LdW none (shInt .i64) h (Addr.add p4 801) fun x4=>LdW none shSl h ⟨11,0,none⟩ fun x5=>
   (if (decide (A x4>=((x5.len:Nat):Int)))=true then
   K (27:Int) h
   else
   LdW none shSl h ⟨11,0,none⟩ fun x6=>NilW none (some ⟨b,0,none⟩) fun p5=>LdW none (shInt .i64) h (Addr.add p5 801) fun x7=>
   ((InB x6.base x6.len (A x7))/\LdW none (shInt .i64) h (sat x6.base 1 (A x7)) fun x8=>
   K x8 h)):=by
 obtain ⟨a,c,e1,e2⟩:=pw
 obtain ⟨j,rfl⟩:=Int.eq_ofNat_of_zero_le i0
 rw [Int.toNat_natCast] at hk
 refine zag (ld_c (sh:=shInt .i64) dp x.dpAt (ld_c (sh:=shSl) ⟨some a,9,c⟩ e1 ?_))
 rw [hA]
 by_cases hj:9<=j
 ·have:pN j=27:=by unfold pN;rw [if_pos hj]
  grind
 ·refine iteF (fun hh=>by grind) ?_
  refine ld_c (sh:=shSl) ⟨some a,9,c⟩ e1 (zag (ld_c (sh:=shInt .i64) dp x.dpAt ?_))
  rw [hA]
  refine ⟨⟨by simp,by omega,by grind⟩,ld_c (sh:=shInt .i64) (pN j:Int) ?_ hk⟩
  show LdIs h (Addr.add a (Int.toNat (j:Int)*1)) [.int .i64 (pN j:Int)]
  rw [Int.toNat_natCast,Nat.mul_one]
  exact zvo (e2 j _ (by rw [List.getElem?_map,(zoq2 j (by omega)).1];rfl))
theorem zbp2 (e:HEnv h):LdIs h (Addr.add ⟨7,0,none⟩ 0) [.int .u64 52]/\LdIs h (Addr.add ⟨7,0,none⟩ 1) [.int .u64 11]/\LdIs h (Addr.add ⟨7,0,none⟩ 2) [.int .i64 (-1023)]:=
 ⟨by rw [box_add];exact e.i0,by rw [box_add];exact e.i1,by rw [box_add];exact e.i2⟩
theorem zrq1 {n:Nat} {Q:Int->Bool->Hp->Prop} (e:SEnv h0) (x:DX h0 h b ds n dp neg tr) (g:n=0\/GoodD ds n) (hq:∀v ov h',h0<=h'->U64 v->Q v ov h'):
  zcq prog (some ⟨b,0,none⟩) (some ⟨7,0,none⟩) Q h:=by
 obtain ⟨c0,c1,c2⟩:=zbp2 (e.hx.mono x.le)
 have hqh:∀v ov,U64 v->Q v ov h:=fun v ov hv=>hq v ov h x.le hv
 unfold zcq
 refine zag (ld_c (sh:=shInt .i64) (n:Int) x.ndAt (iteB (fun _=> ?_) fun hn=> ?_))
 ·refine zag (ld_c (sh:=shInt .i64) (-1023:Int) c2 (zag (ld_c (sh:=shInt .u64) (52:Int) c0 ⟨by decide,zag (ld_c (sh:=shInt .i64) (-1023:Int) c2 (zag (ld_c (sh:=shInt .u64) (11:Int) c1 ⟨by decide,zag (ld_c (sh:=shInt .u64) (52:Int) c0 ⟨by decide,?_⟩)⟩)))⟩)))
  exact zii1 c0 c1 x (fun _ _=>zba _ _ _) (zba _ _ _) hqh
 have g:GoodD ds n:=g.resolve_left fun e=>hn (by rw [e];rfl)
 refine zag (ld_c (sh:=shInt .i64) dp x.dpAt (iteB (fun _=> ?_) fun h310=> ?_))
 ·refine zag (ld_c (sh:=shInt .u64) (11:Int) c1 ⟨by decide,zag (ld_c (sh:=shInt .i64) (-1023:Int) c2 (zag (ld_c (sh:=shInt .u64) (52:Int) c0 ⟨by decide,zag (ld_c (sh:=shInt .i64) (-1023:Int) c2 (zag (ld_c (sh:=shInt .u64) (11:Int) c1 ⟨by decide,zag (ld_c (sh:=shInt .u64) (52:Int) c0 ⟨by decide,?_⟩)⟩)))⟩)))⟩)
  exact zii1 c0 c1 x (fun _ _=>zba _ _ _) (zba _ _ _) hqh
 have h310:¬dp>310:=fun e=>h310 (decide_eq_true e)
 refine zag (ld_c (sh:=shInt .i64) dp x.dpAt (iteB (fun _=> ?_) fun h330=> ?_))
 ·refine zag (ld_c (sh:=shInt .i64) (-1023:Int) c2 (zag (ld_c (sh:=shInt .u64) (52:Int) c0 ⟨by decide,zag (ld_c (sh:=shInt .i64) (-1023:Int) c2 (zag (ld_c (sh:=shInt .u64) (11:Int) c1 ⟨by decide,zag (ld_c (sh:=shInt .u64) (52:Int) c0 ⟨by decide,?_⟩)⟩)))⟩)))
  exact zii1 c0 c1 x (fun _ _=>zba _ _ _) (zba _ _ _) hqh
 have h330:¬dp< -330:=fun e=>h330 (decide_eq_true e)
 refine LoopW1.intro (fun ex m=>∃(ds1:List Nat) (n1:Nat) (dp1:Int) (tr1:Bool),DX h0 m b ds1 n1 dp1 neg tr1/\GoodD ds1 n1/\ -2000<=dp1/\dp1<=310/\0<=ex/\ex+27*((dp1.toNat*10+ds1.getD 0 0:Nat):Int)<=1000000) (fun _ m=>(dpOf m b).toNat*10+d0Of m b)
  ⟨ds,n,dp,tr,x,g,by omega,by omega,by omega,by have:=g.first;omega⟩ ?_
 rintro ex m ⟨ds1,n1,dp1,tr1,x1,g1,d0,d1,e0,e1⟩
 obtain ⟨-,f1,f2⟩:=g1.first
 refine zag (ld_c (sh:=shInt .i64) dp1 x1.dpAt (iteB (fun hd=> ?_) fun hd=> ?_))
 ·have hd:dp1>0:=of_decide_eq_true hd
  obtain ⟨p1,p2,p3⟩:=pN_in dp1.toNat
  refine JoinW1.intro (fun k m2=>m2=m/\k=(pN dp1.toNat:Int)) ?_ ?_
  ·exact zjc2 (K:=fun k m2=>m2=m/\k=(pN dp1.toNat:Int)) (A:=fun x=>x) ((e.mono x1.le).pw) x1 rfl (by omega) ⟨rfl,rfl⟩
  rintro _ m ⟨rfl,rfl⟩
  rw [zab (n:=(0:Int)-_) (by omega) (by omega),show (0:Int)-(pN dp1.toNat:Int)= -(pN dp1.toNat:Int) by omega,zab (n:=ex+_) (by omega) (by omega)]
  refine zbu (zyf1 x1 g1 p1 (by omega) (by omega) (by omega) fun m2 ds2 q r tr2 x2 g2 r1 r2 r4 r3=> ?_)
  obtain ⟨-,f3,f4⟩:=g2.first
  have key:(dp1-((r:Int)-1)).toNat*10+ds2.getD 0 0<dp1.toNat*10+ds1.getD 0 0:=by
   by_cases h2:2<=dp1.toNat
   ·omega
   ·have h1:dp1=1:=by omega
    subst h1
    rcases r3 (by decide) with r3 | ⟨r3,r5⟩
    ·omega
    ·omega
  refine ⟨⟨ds2,q,_,tr2,x2,g2,by omega,by omega,by omega,by omega⟩,?_⟩
  rw [x2.dpIs,x2.d0Is,x1.dpIs,x1.d0Is]
  exact key
 have hd:¬dp1>0:=fun e=>hd (decide_eq_true e)
 refine LoopW1.intro (fun ex m=>∃(ds2:List Nat) (n2:Nat) (dp2:Int) (tr2:Bool),DX h0 m b ds2 n2 dp2 neg tr2/\GoodD ds2 n2/\ -2000<=dp2/\dp2<=1000/\ex<=1000000/\27*(((1-dp2).toNat*10+(58-ds2.getD 0 0):Nat):Int)-2000000<=ex) (fun _ m=>(1-dpOf m b).toNat*10+(58-d0Of m b))
  ⟨ds1,n1,dp1,tr1,x1,g1,by omega,by omega,by omega,by omega⟩ ?_
 rintro ex m ⟨ds1,n1,dp1,tr1,x1,g1,d0,d1,e0,e1⟩
 obtain ⟨c0,c1,c2⟩:=zbp2 (e.hx.mono x1.le)
 obtain ⟨-,f1,f2⟩:=g1.first
 refine zag (ld_c (sh:=shInt .i64) dp1 x1.dpAt (zag (ld_c (sh:=shInt .i64) dp1 x1.dpAt (zag ⟨fun _=>by decide,?_⟩))))
 have ea:Addr.add (Addr.add (⟨b,0,none⟩:Addr) 0) 0=⟨b,0,none⟩:=by rw [box_add,box_add]
 rw [ea]
 refine ld_c (sh:=shInt .u8) ((ds1.getD 0 0:Nat):Int) (x1.digit (by decide)) (letW (letW (iteB (fun hy=> ?_) fun _=> ?_)))
 ·have hc:dp1<0\/(dp1=0/\ds1.getD 0 0<53):=by
   grind
  obtain ⟨p1,p2,p3⟩:=pN_in (-dp1).toNat
  refine JoinW1.intro (fun k m2=>m2=m/\k=(pN (-dp1).toNat:Int)) ?_ ?_
  ·exact zjc2 (K:=fun k m2=>m2=m/\k=(pN (-dp1).toNat:Int)) (A:=fun x=>IntKind.wrap .i64 ((0:Int)-x)) (i:= -dp1) ((e.mono x1.le).pw) x1 (by show IntKind.wrap .i64 ((0:Int)-dp1)= -dp1;rw [zab (by omega) (by omega)];omega) (by omega) ⟨rfl,rfl⟩
  rintro _ m ⟨rfl,rfl⟩
  rw [zab (n:=ex-_) (by omega) (by omega)]
  refine zbu (zow1 e.ch x1 g1 p1 (by omega) (by omega) (by omega) fun m2 ds2 q D tr2 x2 g2 a1 a2 a3=> ?_)
  obtain ⟨-,f3,f4⟩:=g2.first
  have hnd:=ziz2 (pN (-dp1).toNat) (by omega)
  have key:(1-(dp1+(D:Int))).toNat*10+(58-ds2.getD 0 0)<(1-dp1).toNat*10+(58-ds1.getD 0 0):=by
   by_cases hD:D=0
   ·have:=a3 hD
    have h2:2<=2^pN (-dp1).toNat:=Nat.pow_le_pow_right (n:=2) (i:=1) (by decide) p1
    have:=Nat.mul_le_mul_left (ds1.getD 0 0-48) h2
    omega
   ·omega
  refine ⟨⟨ds2,q,_,tr2,x2,g2,by omega,by omega,by omega,by omega⟩,?_⟩
  rw [x2.dpIs,x2.d0Is,x1.dpIs,x1.d0Is]
  exact key
 refine JoinW1.intro (fun ex m=>∃(ds2:List Nat) (n2:Nat) (dp2:Int) (tr2:Bool),DX h0 m b ds2 n2 dp2 neg tr2/\GoodD ds2 n2/\ -100000000000000<=dp2/\dp2<=1000) ?_ ?_
 ·refine zag (ld_c (sh:=shInt .i64) (-1023:Int) c2 ?_)
  rw [zab (n:=ex-1) (by omega) (by omega),show IntKind.wrap .i64 ((-1023:Int)+1)= -1022 by decide]
  refine iteB (fun hlt=> ?_) fun _=>⟨ds1,n1,dp1,tr1,x1,g1,by omega,by omega⟩
  have hlt:ex-1< -1022:=of_decide_eq_true hlt
  refine zag (ld_c (sh:=shInt .i64) (-1023:Int) c2 ?_)
  rw [show IntKind.wrap .i64 ((-1023:Int)+1)= -1022 by decide,zab (n:=(-1022:Int)-(ex-1)) (by omega) (by omega),zab (n:=(0:Int)-_) (by omega) (by omega)]
  exact zbu (zmf1 x1 g1 (by omega) (by omega) (by omega) (by omega) fun m2 ds2 q dp2 tr2 x2 g2 b1 b2=>⟨ds2,q,dp2,tr2,x2,g2,b1,by omega⟩)
 rintro ex2 m ⟨ds1,n1,dp1,tr1,x1,g1,d0,d1⟩
 obtain ⟨c0,c1,c2⟩:=zbp2 (e.hx.mono x1.le)
 refine zag (ld_c (sh:=shInt .i64) (-1023:Int) c2 (zag (ld_c (sh:=shInt .u64) (11:Int) c1 ⟨by decide,iteB (fun _=> ?_) fun _=> ?_⟩)))
 ·refine zag (ld_c (sh:=shInt .u64) (11:Int) c1 ⟨by decide,zag (ld_c (sh:=shInt .i64) (-1023:Int) c2 (zag (ld_c (sh:=shInt .u64) (52:Int) c0 ⟨by decide,zag (ld_c (sh:=shInt .i64) (-1023:Int) c2 (zag (ld_c (sh:=shInt .u64) (11:Int) c1 ⟨by decide,zag (ld_c (sh:=shInt .u64) (52:Int) c0 ⟨by decide,?_⟩)⟩)))⟩)))⟩)
  exact zii1 c0 c1 x1 (fun _ _=>zba _ _ _) (zba _ _ _) fun v ov hv=>hq v ov m x1.le hv
 refine zag (ld_c (sh:=shInt .u64) (52:Int) c0 ?_)
 rw [show IntKind.wrap .i64 (IntKind.wrap .u64 ((1:Int)+52))=((53:Nat):Int) by decide]
 refine zbu (zow1 e.ch x1 g1 (by decide) (by decide) (by omega) (by omega) fun m2 ds2 q D tr2 x2 g2 _ _ _=> ?_)
 obtain ⟨c0,c1,c2⟩:=zbp2 (e.hx.mono x2.le)
 have hq2:∀v ov,U64 v->Q v ov m2:=fun v ov hv=>hq v ov m2 x2.le hv
 refine zjf (zyh1 x2 g2.most fun r hr=> ?_)
 refine JoinW2.intro (fun _ _ k=>m2=k) ?_ ?_
 ·refine zag (ld_c (sh:=shInt .u64) (52:Int) c0 ⟨by decide,iteB (fun _=>⟨by decide,zag (ld_c (sh:=shInt .i64) (-1023:Int) c2 (zag (ld_c (sh:=shInt .u64) (11:Int) c1 ⟨by decide,iteB (fun _=> ?_) fun _=>rfl⟩)))⟩) fun _=>rfl⟩)
  refine zag (ld_c (sh:=shInt .u64) (11:Int) c1 ⟨by decide,zag (ld_c (sh:=shInt .i64) (-1023:Int) c2 (zag (ld_c (sh:=shInt .u64) (52:Int) c0 ⟨by decide,zag (ld_c (sh:=shInt .i64) (-1023:Int) c2 (zag (ld_c (sh:=shInt .u64) (11:Int) c1 ⟨by decide,zag (ld_c (sh:=shInt .u64) (52:Int) c0 ⟨by decide,?_⟩)⟩)))⟩)))⟩)
  exact zii1 c0 c1 x2 (fun _ _=>zba _ _ _) (zba _ _ _) hq2
 rintro ex3 mant m2 rfl
 refine JoinW1.intro (fun _ k=>m2=k) (zag (ld_c (sh:=shInt .u64) (52:Int) c0 ⟨by decide,iteB (fun _=>zag (ld_c (sh:=shInt .i64) (-1023:Int) c2 rfl)) fun _=>rfl⟩)) ?_
 rintro ex4 m2 rfl
 refine zag (ld_c (sh:=shInt .u64) (52:Int) c0 ⟨by decide,zag (ld_c (sh:=shInt .i64) (-1023:Int) c2 (zag (ld_c (sh:=shInt .u64) (11:Int) c1 ⟨by decide,zag (ld_c (sh:=shInt .u64) (52:Int) c0 ⟨by decide,?_⟩)⟩)))⟩)
 exact zii1 c0 c1 x2 (fun _ _=>zba _ _ _) (zba _ _ _) hq2
end
section
variable {h0 h:Hp} {b:Nat} {ds:List Nat} {dp:Int} {neg tr:Bool}
theorem zjd2 {n c:Nat} (hl:ds.length=800) (g:n=0\/GoodD ds n) (hn:n<800) (hc:48<=c/\c<58) (h0:n=0->c≠48):GoodD (ds.set n c) (n+1):=by
 refine ⟨by omega,by omega,(zyi (by grind)).2 fun q hq=> ?_,?_⟩
 ·rw [zts (by omega)]
  by_cases e:n=q
  ·grind
  ·rw [if_neg e]
   have g:=g.resolve_left fun e=>by omega
   exact (zyi (by omega)).1 g.digs q (by omega)
 ·rw [List.getElem?_set]
  by_cases e:n=0
  ·subst e
   rw [if_pos rfl,if_pos (by omega)]
   grind
  ·rw [if_neg e]
   exact (g.resolve_left e).head
theorem zqt2 {s:ByteArray} {Q:Bool->Hp->Prop} (hs:s.size<4611686018427387904) (x:DX h0 h b ds 0 dp neg tr) (hq:∀h' ds' (n:Nat) dp' neg' tr' ok,DX h0 h' b ds' n dp' neg' tr'->(n=0\/GoodD ds' n)->Q ok h'):
  zes prog (some ⟨b,0,none⟩) s Q h:=by
 unfold zes
 refine zag (x.putNeg fun h x=>zag (x.putTr fun h x=> ?_))
 generalize hN:s.size=N at*
 refine iteB (fun _=>hq h ds 0 _ _ _ _ x (.inl rfl)) fun hN0=> ?_
 have hN0:¬(0:Int)>=(N:Int):=fun e=>hN0 (decide_eq_true e)
 refine ⟨⟨by decide,by omega⟩,JoinW1.intro (fun i k=>0<=i/\i<=(N:Int)/\∃neg,DX h0 k b ds ((0:Nat):Int) dp neg false) (iteB (fun _=>⟨by omega,by omega,_,x⟩) fun _=>iteB (fun _=>zag (x.putNeg fun h x=>⟨by omega,by omega,_,x⟩)) fun _=>⟨by omega,by omega,_,x⟩) ?_⟩
 clear x
 rintro i h ⟨i0,i1,neg,x⟩
 refine JoinW3.intro (fun i _ _ k=>0<=i/\i<=(N:Int)/\∃(ds:List Nat) (n:Nat) (dp:Int) (neg tr:Bool),DX h0 k b ds (n:Int) dp neg tr/\(n=0\/GoodD ds n)) ?_ ?_
 ·refine LoopW3.intro (fun i _ _ k=>0<=i/\i<=(N:Int)/\∃(ds:List Nat) (n:Nat) (dp:Int) (neg tr:Bool),DX h0 k b ds (n:Int) dp neg tr/\(n=0\/GoodD ds n)) (fun i _ _ _=>(N-i).toNat) ⟨i0,i1,ds,0,dp,neg,false,x,.inl rfl⟩ ?_
  clear x i0 i1 i
  rintro i sd sg h ⟨i0,i1,ds,n,dp,neg,tr,x,g⟩
  refine iteB (fun hi=> ?_) fun _=>⟨i0,i1,ds,n,dp,neg,tr,x,g⟩
  have hi:=of_decide_eq_true hi
  have hin:(0:Int)<=i/\i<(N:Int):=⟨i0,hi⟩
  refine JoinW2.intro (fun _ _ k=>∃(ds:List Nat) (n:Nat) (dp:Int) (neg tr:Bool),DX h0 k b ds (n:Int) dp neg tr/\(n=0\/GoodD ds n)) ?_ ?_
  ·generalize hc:UInt8.toNat (List.getD s.data.toList (Int.toNat i) 0)=c
   refine ⟨hin,iteB (fun _=>⟨ds,n,dp,neg,tr,x,g⟩) fun _=>⟨hin,iteB (fun _=>iteB (fun _=>hq h ds n _ _ _ _ x g) fun _=> ?_) fun _=>⟨hin,fun _=>hin,letW (iteB (fun hy=>⟨hin,?_⟩) fun _=>⟨i0,i1,ds,n,dp,neg,tr,x,g⟩)⟩⟩⟩
   ·exact zag (ld_c (sh:=shInt .i64) (n:Int) x.ndAt (zag (x.putDp fun h x=>⟨ds,n,_,neg,tr,x,g⟩)))
   rw [Bool.and_eq_true] at hy
   have c0:(48:Int)<=(c:Int):=of_decide_eq_true hy.1
   have c1:(c:Int)<=57:=of_decide_eq_true hy.2
   refine zag (ld_c (sh:=shInt .i64) (n:Int) x.ndAt (letW (iteB (fun _=> ?_) fun hz=> ?_)))
   ·exact zag (ld_c (sh:=shInt .i64) dp x.dpAt (zag (x.putDp fun h x=>⟨ds,n,_,neg,tr,x,g⟩)))
   have hz:n=0->c≠48:=fun e1 e2=>by subst e1;subst e2;exact hz rfl
   refine zag (ld_c (sh:=shInt .i64) (n:Int) x.ndAt ?_)
   generalize hd:decide ((n:Int)<800)=lt
   refine iteB (fun hn=> ?_) fun _=>⟨hin,iteB (fun _=>zag (x.putTr fun h x=>⟨ds,n,dp,neg,_,x,g⟩)) fun _=>⟨ds,n,dp,neg,tr,x,g⟩⟩
   rw [hn] at hd
   have hn:(n:Int)<800:=of_decide_eq_true hd
   refine zag (ld_c (sh:=shInt .i64) (n:Int) x.ndAt ⟨hin,zag ⟨⟨by omega,hn⟩,?_⟩⟩)
   rw [Int.toNat_natCast,decAt]
   refine x.putD (by omega) rfl fun h x=>zag (ld_c (sh:=shInt .i64) (n:Int) x.ndAt (zag ?_))
   rw [zab (n:=(n:Int)+1) (by omega) (by omega)]
   have hl:=x.len
   rw [List.length_set] at hl
   exact x.putNd fun h x=>⟨_,n+1,dp,neg,tr,x,.inr (zjd2 hl g (by omega) ⟨by omega,by omega⟩ hz)⟩
  rintro sd sg h ⟨ds,n,dp,neg,tr,x,g⟩
  rw [zab (n:=i+1) (by omega) (by omega)]
  grind
 clear x i0 i1 i
 rintro i sd sg h ⟨i0,i1,ds,n,dp,neg,tr,x,g⟩
 refine iteB (fun _=>hq h ds n _ _ _ _ x g) fun _=> ?_
 refine JoinW0.intro (fun k=>∃dp,DX h0 k b ds (n:Int) dp neg tr) (iteB (fun _=>zag (ld_c (sh:=shInt .i64) (n:Int) x.ndAt (zag (x.putDp fun h x=>⟨_,x⟩)))) fun _=>⟨_,x⟩) ?_
 clear x
 rintro h ⟨dp,x⟩
 refine ⟨fun hh=>⟨i0,of_decide_eq_true hh⟩,lowE fun r=>letW (iteB (fun hy=> ?_) fun _=>iteB (fun _=>hq h ds n _ _ _ _ x g) fun _=>hq h ds n _ _ _ _ x g)⟩
 rw [Bool.and_eq_true] at hy
 have hi:=of_decide_eq_true hy.1
 rw [zab (n:=i+1) (by omega) (by omega)]
 refine iteB (fun _=>hq h ds n _ _ _ _ x g) fun h1=> ?_
 have h1:¬i+1>=(N:Int):=fun e=>h1 (decide_eq_true e)
 refine ⟨⟨by omega,by omega⟩,JoinW2.intro (fun i3 _ k=>k=h/\0<=i3/\i3<=(N:Int)) ?_ ?_⟩
 ·rw [zab (n:=i+1+1) (by omega) (by omega)]
  grind
 rintro i3 es h ⟨rfl,j0,j1⟩
 refine ⟨fun hh=>⟨j0,?_⟩,letW ⟨fun hh=>⟨j0,?_⟩,letW (iteB (fun _=>hq h ds n _ _ _ _ x g) fun hy2=> ?_)⟩⟩
 ·grind
 ·grind
 refine LoopW2.intro (fun i4 _ k=>k=h/\0<=i4/\i4<=(N:Int)) (fun i4 _ _=>(N-i4).toNat) ⟨rfl,j0,j1⟩ ?_
 rintro i4 e4 h ⟨rfl,k0,k1⟩
 refine ⟨fun hh=>⟨k0,of_decide_eq_true hh⟩,fun hh=>⟨k0,by grind⟩,letW ⟨fun hh=>⟨k0,by grind⟩,letW (letW (iteB (fun hy=> ?_) fun _=> ?_))⟩⟩
 ·rw [Bool.and_eq_true] at hy
  have hi4:=of_decide_eq_true hy.1
  refine JoinW1.intro (fun _ k=>k=h) ⟨⟨k0,hi4⟩,iteB (fun _=>rfl) fun _=>iteB (fun _=>⟨⟨k0,hi4⟩,rfl⟩) fun _=>rfl⟩ ?_
  rintro e5 h rfl
  rw [zab (n:=i4+1) (by omega) (by omega)]
  grind
 ·exact zag (ld_c (sh:=shInt .i64) dp x.dpAt (zag (x.putDp fun h x=>iteB (fun _=>hq h ds n _ _ _ _ x g) fun _=>hq h ds n _ _ _ _ x g)))
end
structure AEnv (h:Hp):Prop where
 fe:FEnv h
 se:SEnv h
theorem AEnv.mono {h h':Hp} (e:AEnv h) (hl:h<=h'):AEnv h':=⟨e.fe.mono hl,e.se.mono hl⟩
abbrev ErK (er:Leaf):Prop:=er.v=.nilIface\/∃k:Int,(k=1\/k=2)/\er.v=.iface 122 (.int .i64 k)
theorem ErOk.k {er:Leaf} (h:ErOk er):ErK er:=h.imp id fun e=>⟨1,.inl rfl,e⟩
def leafN :Leaf:=⟨.nilIface,rfl⟩
def leafE (k:Int):Leaf:=⟨.iface 122 (.int .i64 k),rfl⟩
theorem zfn1 :ErK leafN:=.inl rfl
theorem zxc {k:Int} (h:k=1\/k=2):ErK (leafE k):=.inr ⟨k,h,rfl⟩
section
variable {h:Hp}
theorem encN {K:Leaf->Prop} (hk:K leafN):EncW zai .nilIface K:=⟨leafN,rfl,hk⟩
theorem encE {k:Int} {K:Leaf->Prop} (hk:K (leafE k)):EncW zai (.iface 122 (.int .i64 k)) K:=⟨leafE k,rfl,hk⟩
theorem encL {er:Leaf} {K:Leaf->Prop} (hk:K er):EncW zai er.v K:=⟨er,rfl,hk⟩
theorem zmw2 {s:ByteArray} {n:Int} {er:Leaf} {Q:Nat->Int->Leaf->Hp->Prop} (e:AEnv h) (hs:s.size<4611686018427387904) (n0:0<=n) (n1:n<=(s.size:Int)) (hq:∀(f:Nat) (er2:Leaf) h',h<=h'->(ErK er2\/er2=er)->Q f n er2 h') {b:Nat} {ty:_}
  {cs:List Value} (hcs:cs=DecC (List.replicate 800 0) 0 0 false false) (hb:h b=none):
  (((0:Int)<=n/\n<=(((ByteArray.size s):Nat):Int))/\CallT prog zeo [(.pointer (some ⟨b,0,none⟩)),(.string (ByteArray.extract s 0 (Int.toNat n)))] zae (fun r10 h5=>
   (if (!r10)=true then
   EncW zai (.iface 122 (.int .i64 (2:Int))) fun e=>
   Q 0 n e h5
   else
   Call2 prog zbo [(.pointer (some ⟨b,0,none⟩)),(.pointer (some ⟨7,0,none⟩))] (shInt .u64) zae (fun r11 r12 h6=>
   SemE prog (Extern.MathFloatBits.float64frombits #[(.int .u64 r11)]) (shFlt .f64) (fun r13 h7=>
   (if r12=true then
   EncW zai (.iface 122 (.int .i64 (1:Int))) fun e=>
   Q r13 n e h7
   else
   EncW zai er.v fun e=>
   Q r13 n e h7)) h6) h5)) (h.set b (.cells cs.toArray ty (0,0)))):=by
 have hle:=zji (o:=.cells cs.toArray ty (0,0)) hb
 have x:DX h (h.set b (.cells cs.toArray ty (0,0))) b (List.replicate 800 0) 0 0 false false:=⟨hle,hb,List.length_replicate,ty,by rw [<-hcs];exact zdu⟩
 generalize h.set b (.cells cs.toArray ty (0,0))=k at*
 refine ⟨⟨n0,n1⟩,zpg (zqt2 (by rw [ByteArray.size_extract];omega) x fun k2 ds m dp neg tr ok x2 g=> ?_)⟩
 refine iteB (fun _=>encE (hq _ _ _ x2.le (.inl (zxc (.inr rfl))))) fun _=> ?_
 refine zlw (zrq1 (e.se) x2 g fun v ov k3 hle3 hv=> ?_)
 obtain ⟨v,rfl,hv⟩:=hv
 exact zid rfl hv (iteB (fun _=>encE (hq _ _ _ hle3 (.inl (zxc (.inl rfl))))) fun _=>encL (hq _ _ _ hle3 (.inr rfl)))
end
section
variable {h:Hp}
theorem zje2 (neg:Bool):shlI .u64 (if neg then (1:Int) else 0) (63:Int)=((sgn neg:Nat):Int)/\sgn neg<18446744073709551616:=by cases neg<;>decide
theorem zrr1 {neg:Bool} {Q:Int->Hp->Prop} (hq:Q (if neg then 1 else 0) h):zbl prog neg Q h:=by
 unfold zbl
 grind
theorem zef2 {s:ByteArray} {Q:Nat->Int->Leaf->Hp->Prop} (e:AEnv h) (hs:s.size<4611686018427387904) (hq:∀(f:Nat) (n:Int) (er:Leaf) h',h<=h'->ErK er->Q f n er h'):
  zan prog s Q h:=by
 have here:∀(f:Nat) (n:Int) (er:Leaf),ErK er->Q f n er h:=fun f n er k=>hq f n er h (Hp.le_refl h) k
 unfold zan
 refine zcv (zye1 hs fun f n ok=>iteB (fun _=>encN (here _ _ _ zfn1)) fun _=> ?_)
 refine zeh (zrp1 hs fun m p neg tr hex i ok hm hi=> ?_)
 refine iteB (fun _=>encE (here _ _ _ (zxc (.inr rfl)))) fun hok=> ?_
 have hok:ok=true:=by grind
 obtain ⟨i0,i1⟩:=hi hok
 refine iteB (fun _=>⟨⟨i0,i1⟩,zsj (zqs2 e.se.hx hm fun f er k=>encL (here _ _ _ k.k))⟩) fun _=> ?_
 refine JoinW2.intro (fun n er k=>h<=k/\0<=n/\n<=(s.size:Int)/\ErK er) ?_ ?_
 ·refine ld_at (sh:=zae) true e.fe.opt (iteT rfl (zap (zrr1 ⟨by decide,?_⟩)))
  obtain ⟨es,hsg⟩:=zje2 neg
  rw [es]
  have hz:U64 (bitsI .or .u64 ((sgn neg:Nat):Int) (0:Int)):=zba _ _ _
  have hy:U64 (bitsI .or .u64 ((sgn neg:Nat):Int) (9218868437227405312:Int)):=zba _ _ _
  obtain ⟨z,ez,hz⟩:=hz
  obtain ⟨y,ey,hy⟩:=hy
  refine iteB (fun _=>zid ez hz (encN (here _ _ _ zfn1))) fun hm0=> ?_
  refine iteB (fun _=>zid ey hy (encE (here _ _ _ (zxc (.inl rfl))))) fun hp1=> ?_
  have hp1:¬p>310:=fun e=>hp1 (decide_eq_true e)
  refine iteB (fun _=>zid ez hz (encN (here _ _ _ zfn1))) fun hp0=> ?_
  have hp0:¬p< -345:=fun e=>hp0 (decide_eq_true e)
  have hm0:0<m:=Nat.pos_of_ne_zero fun e=>hm0 (by rw [e];rfl)
  refine JoinW2.intro (fun n er k=>h<=k/\n=i/\ErK er) ?_ ?_
  ·refine iteB (fun _=>zhl (zbn2 (r:=0) e.fe hm0 hm (by omega) (by omega) fun f ok _=>iteB (fun _=>encN (here _ _ _ zfn1)) fun _=>encN ⟨Hp.le_refl h,rfl,zfn1⟩)) fun _=>encN ⟨Hp.le_refl h,rfl,zfn1⟩
  rintro _ er k ⟨hk,rfl,ker⟩
  refine zdj (zmb1 (e.mono hk).fe.pow hm hsg (by omega) (by omega) fun f1 er1 k1 hk1 ok1=> ?_)
  have l1:=Hp.le_trans hk hk1
  refine iteB (fun _=>encL (hq _ _ _ _ l1 ok1.k)) fun _=> ?_
  obtain ⟨m2,em2,hm2⟩:=ztr ((m:Int)+1)
  rw [em2]
  refine zdj (zmb1 (e.mono l1).fe.pow hm2 hsg (by omega) (by omega) fun f2 er2 k2 hk2 ok2=> ?_)
  have l2:=Hp.le_trans l1 hk2
  exact zop2 (sh:=zae) (v:=f64.format.order f1 f2==some .eq) rfl (iteB (fun _=>encL (hq _ _ _ _ l2 ok1.k)) fun _=>encL ⟨l2,i0,i1,ker⟩)
 rintro n er k ⟨hk,n0,n1,ker⟩
 intro b ty hb
 refine zmw2 (e.mono hk) hs n0 n1 (fun f er2 k2 hk2 he=>hq _ _ _ _ (Hp.le_trans hk hk2) (he.elim id fun e=>e▸ker)) rfl hb
end
section
variable {h:Hp}
theorem zeg2 {r:Nat} {neg:Bool} {out:List Nat} {Q:Nat->Int->Leaf->Hp->Prop} (e:AEnv h) (h1:0<r) (h2:r<9218868437227405312) (ht:TextF r neg out) (hk:∀(er:Leaf) h',h<=h'->er.v=.nilIface->Q (sgn neg+r) (out.length:Int) er h'):
  zan prog (strN out) Q h:=by
 obtain ⟨c,ds,eneg,xs,v,s,rfl,hc,hds,hl,hxs,x1,x2,ev,es,hv,hv57,s0,s1,he⟩:=zrr h1 h2 ht
 have hin:inF r (v*unitW 0 s)=true:=by rw [he];exact zfm1 h1 h2
 have hv0:0<v:=Nat.pos_of_ne_zero fun e=>hv (by rw [e])
 unfold zan
 refine zcv (zot1 (by omega) (iteF (by decide) ?_))
 refine zeh (zuj1 hc hds hl hxs x1 (by omega) (iteF (by decide) (iteF (by decide) (JoinW2.direct ?_))))
 rw [ev,es]
 refine ld_at (sh:=zae) true e.fe.opt (iteT rfl (zap (zrr1 ⟨by decide,?_⟩)))
 obtain ⟨ess,hsg⟩:=zje2 neg
 rw [ess]
 refine iteF (fun hh=>by grind) ?_
 refine iteF (fun hh=>by grind) (iteF (fun hh=>by grind) ?_)
 refine JoinW2.intro (fun n er k=>k=h/\n=((fltL neg c ds eneg xs).length:Int)) ?_ ?_
 ·refine iteT (by decide) (zhl (zbn2 (r:=r) e.fe hv0 (by omega) (by omega) (by omega) fun f ok hf=>iteB (fun hok=>encN ?_) fun _=>encN ⟨rfl,rfl⟩))
  have:=hf h1 h2 hin hok
  subst this
  exact hk _ h (Hp.le_refl h) rfl
 rintro _ er k ⟨rfl,rfl⟩
 exact zdj (zee2 e.fe.pow h1 h2 hv57 hv0 (by omega) (by omega) hin fun er k1 hk1 her=>iteT (by decide) (encL (hk _ _ hk1 her)))
end
section
variable {h:Hp}
def zeroL (neg:Bool):List Nat:=(if neg then [45] else [])++ [48,101,48]
def infL (neg:Bool):List Nat:=(if neg then [45] else [])++ [105,110,102]
theorem znc1 {neg:Bool} {Q:Int->Int->Bool->Bool->Bool->Int->Bool->Hp->Prop} (hq:Q 0 0 neg false false ((zeroL neg).length:Int) true h):zax prog (strN (zeroL neg)) Q h:=by
 unfold zax
 refine iteF (by cases neg<;>decide) ⟨by cases neg<;>decide,?_⟩
 refine JoinW2.intro (fun n i k=>k=h/\neg=n/\i=((sgnN neg:Nat):Int)) ?_ ?_
 ·cases neg with
  | true=>exact iteF (by decide) (iteT (by decide) ⟨rfl,rfl,rfl⟩)
  | false=>exact iteF (by decide) (iteF (by decide) ⟨rfl,rfl,rfl⟩)
 rintro _ _ h ⟨rfl,rfl,rfl⟩
 refine JoinW5.intro (fun hx i b m e k=>k=h/\hx=false/\i=((sgnN neg:Nat):Int)/\b=10/\m=19/\e=101) ?_ ?_
 ·refine ⟨fun _=>by cases neg<;>decide,letW ⟨fun _=>by cases neg<;>decide,?_⟩⟩
  refine ⟨fun _=>zau (zvp (letW (iteF ?_ ⟨rfl,rfl,rfl,rfl,rfl,rfl⟩))),fun _=>⟨(0:Int),letW (iteF ?_ ⟨rfl,rfl,rfl,rfl,rfl,rfl⟩)⟩⟩
  ·cases neg<;>decide
  simp
 rintro _ _ _ _ _ h ⟨rfl,rfl,rfl,rfl,rfl,rfl⟩
 refine JoinW9.intro (fun m tr i us sd sg nd ndm dp k=>k=h/\m=0/\tr=false/\i=((sgnN neg+1:Nat):Int)/\us=false/\sd=false/\sg=true/\nd=0/\ndm=0) ?_ ?_
 ·refine LoopW9.intro (fun m tr i us sd sg nd ndm dp k=>k=h/\m=0/\tr=false/\us=false/\sd=false/\nd=0/\ndm=0/\((sg=false/\i=((sgnN neg:Nat):Int)/\dp=0)\/(sg=true/\i=((sgnN neg+1:Nat):Int))))
   (fun _ _ i _ _ _ _ _ _ _=>(4-i).toNat) ⟨rfl,rfl,rfl,rfl,rfl,rfl,rfl,.inl ⟨rfl,rfl,rfl⟩⟩ ?_
  rintro _ _ _ _ _ _ _ _ _ h ⟨rfl,rfl,rfl,rfl,rfl,rfl,rfl,(⟨rfl,rfl,rfl⟩ | ⟨rfl,rfl⟩)⟩
  ·refine iteT (by cases neg<;>decide) (JoinW8.direct ⟨by cases neg<;>decide,iteF (by cases neg<;>decide) (iteF (by cases neg<;>decide) (letW (iteT (by cases neg<;>decide) (letW (iteT (by cases neg<;>decide) ⟨⟨rfl,rfl,rfl,rfl,rfl,rfl,rfl,.inr ⟨rfl,?_⟩⟩,?_⟩)))))⟩)
   ·cases neg<;>decide
   ·cases neg<;>decide
  ·refine iteT (by cases neg<;>decide) (JoinW8.direct ⟨by cases neg<;>decide,iteF (by cases neg<;>decide) (iteF (by cases neg<;>decide) (letW (iteF (by cases neg<;>decide) ?_)))⟩)
   exact effF (by simp) (0:Int) (letW (effF (by simp) (0:Int) (letW (iteF (by simp) ⟨rfl,rfl,rfl,rfl,rfl,rfl,rfl,rfl,rfl⟩))))
 rintro _ _ _ _ _ _ _ _ dp h ⟨rfl,rfl,rfl,rfl,rfl,rfl,rfl,rfl,rfl⟩
 refine iteF (by decide) (JoinW1.direct (iteT (by decide) (JoinW2.direct (iteF (by decide) ?_))))
 refine JoinW3.intro (fun i us dp k=>k=h/\i=((zeroL neg).length:Int)/\us=false) ?_ ?_
 ·refine ⟨fun _=>by grind,⟨fun _=>zau (zvp ?_),fun hh=>absurd hh (by cases neg<;>decide)⟩⟩
  refine letW (iteT (by cases neg<;>decide) (iteF (by cases neg<;>decide) ⟨by cases neg<;>decide,JoinW2.intro (fun i e k=>k=h/\i=((sgnN neg+2:Nat):Int)) (iteF (by cases neg<;>decide) (iteF (by cases neg<;>decide) ⟨rfl,by cases neg<;>decide⟩)) ?_⟩))
  rintro _ es h ⟨rfl,rfl⟩
  refine ⟨fun _=>by grind,letW ⟨fun _=>by cases neg<;>decide,letW (iteF (by cases neg<;>decide) ?_)⟩⟩
  refine LoopW3.intro (fun i us e k=>k=h/\us=false/\(i=((sgnN neg+2:Nat):Int)\/i=((zeroL neg).length:Int))) (fun i _ _ _=>(4-i).toNat) ⟨rfl,rfl,.inl rfl⟩ ?_
  rintro _ _ ex h ⟨rfl,rfl,(rfl | rfl)⟩
  ·refine ⟨fun _=>by grind,fun _=>by grind,letW ⟨fun _=>by cases neg<;>decide,letW (letW (iteT (by cases neg<;>decide) ?_))⟩⟩
   refine JoinW2.intro (fun us _ k=>k=h/\us=false) ⟨by cases neg<;>decide,iteF (by cases neg<;>decide) (iteB (fun _=>⟨by cases neg<;>decide,rfl,rfl⟩) fun _=>⟨rfl,rfl⟩)⟩ ?_
   rintro _ e5 h ⟨rfl,rfl⟩
   exact ⟨⟨rfl,rfl,.inr (by cases neg<;>decide)⟩,by cases neg<;>decide⟩
  ·refine ⟨fun hh=>absurd hh (by cases neg<;>decide),fun hh=>absurd hh (by cases neg<;>decide),letW ⟨fun hh=>absurd hh (by cases neg<;>decide),letW (letW (iteF (by cases neg<;>decide) ⟨rfl,rfl,rfl⟩))⟩⟩
 rintro _ _ dp3 h ⟨rfl,rfl,rfl⟩
 exact JoinW1.direct (iteF (by decide) ⟨fun hh=>(by cases hh),effF rfl true (letW (iteF (by decide) hq))⟩)
theorem zun1 {neg:Bool} {Q:Nat->Int->Bool->Hp->Prop} (hq:Q 0 0 false h):zbd prog (strN (zeroL neg)) Q h:=
 zot1 (neg:=neg) (c:=48) (ds:=[]) (eneg:=false) (xs:=[48]) (by decide) hq
theorem zyi1 {neg:Bool} {Q:Nat->Int->Leaf->Hp->Prop} (e:AEnv h) (hk:∀(er:Leaf) h',h<=h'->er.v=.nilIface->Q (sgn neg) ((zeroL neg).length:Int) er h'):zan prog (strN (zeroL neg)) Q h:=by
 unfold zan
 refine zcv (zun1 (iteF (by decide) ?_))
 refine zeh (znc1 (iteF (by decide) (iteF (by decide) (JoinW2.direct ?_))))
 refine ld_at (sh:=zae) true e.fe.opt (iteT rfl (zap (zrr1 ⟨by decide,?_⟩)))
 refine iteT (by decide) (zid (n:=sgn neg) (by cases neg<;>decide) (by cases neg<;>decide) (encN (hk _ h (Hp.le_refl h) rfl)))
theorem zeh2 {Q:Int->Hp->Prop} (hq:Q 3 h):zak prog (strN [105,110,102]) ⟨#[105,110,102,105,110,105,116,121]⟩ Q h:=by
 unfold zak
 refine LoopW1.intro (fun i k=>k=h/\(i=0\/i=1\/i=2\/i=3)) (fun i _=>(3-i).toNat) ⟨rfl,.inl rfl⟩ ?_
 rintro _ h ⟨rfl,(rfl | rfl | rfl | rfl)⟩
 ·exact iteT (by decide) ⟨by decide,JoinW1.direct (letW (iteF (by decide) ⟨by decide,iteF (by decide) ⟨⟨rfl,.inr (.inl (by decide))⟩,by decide⟩⟩))⟩
 ·exact iteT (by decide) ⟨by decide,JoinW1.direct (letW (iteF (by decide) ⟨by decide,iteF (by decide) ⟨⟨rfl,.inr (.inr (.inl (by decide)))⟩,by decide⟩⟩))⟩
 ·exact iteT (by decide) ⟨by decide,JoinW1.direct (letW (iteF (by decide) ⟨by decide,iteF (by decide) ⟨⟨rfl,.inr (.inr (.inr (by decide)))⟩,by decide⟩⟩))⟩
 ·exact iteF (by decide) hq
theorem zei2 {neg:Bool} {Q:Nat->Int->Leaf->Hp->Prop} (hk:∀(er:Leaf) h',h<=h'->er.v=.nilIface->Q (sgn neg+9218868437227405312) ((infL neg).length:Int) er h'):zan prog (strN (infL neg)) Q h:=by
 unfold zan
 refine zcv ?_
 unfold zbd
 refine iteF (by cases neg<;>decide) ⟨by cases neg<;>decide,?_⟩
 refine JoinW3.intro (fun s sg ns k=>k=h/\s=strN [105,110,102]/\sg=(if neg then -1 else 1)/\ns=(if neg then 1 else 0)) ?_ ?_
 ·cases neg with
  | true=>exact JoinW1.direct (iteF (by decide) (iteT (by decide) (JoinW1.direct ⟨by decide,iteT (by decide) ⟨by decide,rfl,rfl,rfl,rfl⟩⟩)))
  | false=>exact JoinW1.direct (iteF (by decide) (iteF (by decide) (JoinW1.direct (iteT (by decide) (iteT (by decide) ⟨rfl,rfl,rfl,rfl⟩)))))
 rintro _ _ _ h ⟨rfl,rfl,rfl,rfl⟩
 refine zat (zeh2 (JoinW1.direct (letW (iteF (by decide) (letW (iteT (by decide) (znh ?_)))))))
 unfold zkp
 cases neg with
 | true=>exact JoinW1.direct (iteF (by decide) (zid (n:=18442240474082181120) rfl (by decide) (iteT (by decide) (encN (hk _ h (Hp.le_refl h) rfl)))))
 | false=>exact JoinW1.direct (iteT (by decide) (zid (n:=9218868437227405312) rfl (by decide) (iteT (by decide) (encN (hk _ h (Hp.le_refl h) rfl)))))
end
end Lf
namespace Lf
open Go Go.Proofs Go.RowKit
structure EEnv (h:Hp):Prop where
 syn:∃te pe,LdIs h ⟨3,0,none⟩ [.iface te pe]
 rng:∃te pe,LdIs h ⟨4,0,none⟩ [.iface te pe]
theorem EEnv.mono {h h':Hp} (e:EEnv h) (hl:h<=h'):EEnv h':=by
 obtain ⟨⟨a,b,e1⟩,⟨c,d,e2⟩⟩:=e
 exact ⟨⟨a,b,zbc hl e1⟩,⟨c,d,zbc hl e2⟩⟩
section
variable {h:Hp}
theorem zox1 {fn s:ByteArray} {base bits k:Int} {K:Leaf->Hp->Prop} (e:EEnv h) (hs:s.size<=281474976710656) (h12:k=1\/k=2) (hk:∀er,K er h):
  CallT Tryz.prog zcz [.string fn,.string s,.int .i64 base,.int .i64 bits,.iface 122 (.int .i64 k)] zai K h:=by
 intro w hw
 rcases h12 with rfl | rfl
 ·obtain ⟨te,pe,hl⟩:=e.rng
  refine (Tryz.strconv_toError_range fn s base bits (.iface te pe) w hs (zhe hw (hl 0 _ rfl)) (.inr ⟨te,pe,rfl⟩)).mono ?_
  rintro e w' ⟨N,rfl,_,_,hb⟩
  exact ⟨_,h,rfl,⟨⟨.iface 125 (.pointer (some ⟨N,0,none⟩)),rfl⟩,rfl,hk _⟩,⟨fun i o e=>by rw [hb.block i (hw.lt e)];exact hw i o e,hb.size,fun i hi hn=>⟨hb.block i hi,hn⟩,hb.os,hb.tape,hb.output⟩⟩
 ·obtain ⟨te,pe,hl⟩:=e.syn
  refine (Tryz.strconv_toError_syntax fn s base bits (.iface te pe) w hs (zhe hw (hl 0 _ rfl)) (.inr ⟨te,pe,rfl⟩)).mono ?_
  rintro e w' ⟨N,rfl,_,_,hb⟩
  exact ⟨_,h,rfl,⟨⟨.iface 125 (.pointer (some ⟨N,0,none⟩)),rfl⟩,rfl,hk _⟩,⟨fun i o e=>by rw [hb.block i (hw.lt e)];exact hw i o e,hb.size,fun i hi hn=>⟨hb.block i hi,hn⟩,hb.os,hb.tape,hb.output⟩⟩
end
end Lf
namespace Lf
open Go Go.Proofs Tryz
section
variable {h:Hp}
theorem znd1 {s:ByteArray} {Q:Nat->Leaf->Hp->Prop} (e:AEnv h) (ee:EEnv h) (hs:s.size<=281474976710656) (hq:∀(f:Nat) (er:Leaf) h',h<=h'->Q f er h'):zfh prog s (64:Int) Q h:=by
 unfold zfh
 have fin:∀(f:Nat) (er:Leaf) (h1:Hp),h<=h1->ErK er->((isIfV er.v)=true/\(if (!(zcl er.v))=true then
   CallT prog zcz [(.string ⟨#[80,97,114,115,101,70,108,111,97,116]⟩),(.string s),(.int .i64 (0:Int)),(.int .i64 (64:Int)),er.v] zai (fun r2 h2=>EncW zai r2.v fun e=>Q f e h2) h1
   else EncW zai .nilIface fun e=>Q f e h1)):=by
  rintro f er h1 hl (he | ⟨k,hk,he⟩)
  ·rw [he]
   exact ⟨rfl,iteF (by decide) (encN (hq _ _ _ hl))⟩
  ·rw [he]
   exact ⟨rfl,iteT rfl (zox1 (ee.mono hl) hs hk fun er=>encL (hq _ _ _ hl))⟩
 refine zhz ?_
 unfold zfc
 refine zez ?_
 unfold zcx
 refine iteF (by decide) (zkw (zef2 e (by omega) fun f n er h1 hl he=>encL ?_))
 exact iteB (fun _=>encE (fin _ _ _ hl (zxc (.inr rfl)))) fun _=>encL (fin _ _ _ hl he)
theorem zne1 {s:ByteArray} {f:Nat} {Q:Nat->Leaf->Hp->Prop} (ha:∀ {Q':Nat->Int->Leaf->Hp->Prop},(∀(er:Leaf) h',h<=h'->er.v=.nilIface->Q' f (s.size:Int) er h')->zan prog s Q' h)
  (hk:∀(er:Leaf) h',h<=h'->Q f er h'):zfh prog s (64:Int) Q h:=by
 unfold zfh
 refine zhz ?_
 unfold zfc
 refine zez ?_
 unfold zcx
 refine iteF (by decide) (zkw (ha fun er h1 hl he=>encL (iteF (fun hh=>bne_iff_ne.1 hh rfl) (encL ?_))))
 dsimp only
 rw [he]
 exact ⟨rfl,iteF (by decide) (encN (hk _ _ hl))⟩
def TxtAt (h:Hp) (b:Nat) (s:ByteArray):Prop:=∀i,i<s.size->hcell h ⟨b,i,none⟩=some (.int .u8 (((UInt8.toNat (List.getD s.data.toList i 0)):Nat):Int))
theorem zjf2 {s:ByteArray} {b:Nat} {t:_} {m:_} {zs:List Value}:TxtAt (h.set b (.cells (zfg s++zs).toArray t m)) b s:=fun i hi=>by
 have hl:s.data.toList.length=s.size:=by simp
 unfold hcell
 rw [zdu]
 simp [zfg,List.getElem?_append_left,hl,hi,List.getD]
theorem zbq2 {s:ByteArray} {b:Nat} {i:Int} {K:Int->Prop} (r:TxtAt h b s) (h0:0<=i) (h1:i<(s.size:Int)) (hk:K (((UInt8.toNat (List.getD s.data.toList (Int.toNat i) 0)):Nat):Int)):
  InB (some ⟨b,0,none⟩) s.size i/\LdW none (shInt .u8) h (sat (some ⟨b,0,none⟩) 1 i) K:=by
 refine ⟨⟨by simp,h0,h1⟩,ld_c (sh:=shInt .u8) _ (zvo ?_) hk⟩
 unfold sat
 rw [Option.getD_some,box_add,Nat.zero_add,Nat.mul_one]
 exact r i.toNat (by omega)
theorem zrs1 {s:ByteArray} {Q:Int->Leaf->Hp->Prop} (hs:s.size<4611686018427387904) (hq:∀(n:Int) (er:Leaf) h',h<=h'->U64 n->ErK er->Q n er h'):zcb prog s (16:Int) (64:Int) Q h:=by
 unfold zcb
 have z:U64 0:=⟨0,rfl,by decide⟩
 refine iteB (fun _=>encE (hq _ _ h (Hp.le_refl h) z (zxc (.inr rfl)))) fun _=> ?_
 refine JoinW2.direct (letW (iteT (by decide) (JoinW1.direct (iteF (by decide) (letW (iteF (by decide) (JoinW1.direct (iteF (by decide) (iteT (by decide) ⟨by decide,?_⟩)))))))))
 intro c b t hc hb
 have hle:=zji (o:=.cells (zfg s++zbn [.int .u8 0] (c-s.size)).toArray t (c,c+1)) hb
 have tx:TxtAt (h.set b (.cells (zfg s++zbn [.int .u8 0] (c-s.size)).toArray t (c,c+1))) b s:=zjf2
 generalize h.set b (.cells (zfg s++zbn [.int .u8 0] (c-s.size)).toArray t (c,c+1))=H at*
 refine LoopW3.intro (fun us n i k=>k=H/\us=false/\U64 n/\0<=i) (fun _ _ i _=>(s.size-i).toNat) ⟨rfl,rfl,z,by decide⟩ ?_
 rintro _ n i H ⟨rfl,rfl,hn,i0⟩
 refine iteB (fun hi=> ?_) fun _=>effF rfl true (letW (iteF (by decide) (encN (hq _ _ _ hle hn zfn1))))
 have hi:i<(s.size:Int):=of_decide_eq_true hi
 refine JoinW2.intro (fun us n k=>k=H/\us=false/\U64 n) (zbq2 tx i0 hi ?_) ?_
 ·generalize (((UInt8.toNat (List.getD s.data.toList (Int.toNat i) 0)):Nat):Int)=x
  refine JoinW2.intro (fun us _ k=>k=H/\us=false) (letW (iteF ?_ (letW (iteB (fun _=>⟨rfl,rfl⟩) fun _=>lowC fun r1=>lowE fun r2=>letW (iteB (fun _=>lowC fun r3=>⟨rfl,rfl⟩) fun _=>encE (hq _ _ _ hle z (zxc (.inr rfl)))))))) ?_
  ·rw [Bool.and_eq_true]
   rintro ⟨_,e⟩
   exact absurd e (by decide)
  rintro _ d k ⟨rfl,rfl⟩
  exact iteB (fun _=>encE (hq _ _ _ hle z (zxc (.inr rfl)))) fun _=>iteB (fun _=>encE (hq _ _ _ hle (ztr _) (zxc (.inl rfl)))) fun _=>letW (iteB (fun _=>encE (hq _ _ _ hle (ztr _) (zxc (.inl rfl)))) fun _=>⟨rfl,rfl,ztr _⟩)
 rintro _ n k ⟨rfl,rfl,hn⟩
 rw [zab (n:=i+1) (by omega) (by omega)]
 grind
theorem hexF :∀d,d<16->hexD d<256/\((hexD d<58->48<=hexD d/\IntKind.wrap .u8 ((hexD d:Int)-48)=(d:Int))/\(¬hexD d<58->bitsI .or .u8 (hexD d:Int) 32=(hexD d:Int)/\97<=hexD d/\hexD d<=122/\IntKind.wrap .u8 (IntKind.wrap .u8 ((hexD d:Int)-97)+10)=(d:Int))):=by decide
theorem zrt1 {w:Nat} {Q:Int->Leaf->Hp->Prop} (hw:w<18446744073709551616) (hq:∀(er:Leaf) h',h<=h'->er.v=.nilIface->Q (w:Int) er h'):zcb prog (strN (hexL w)) (16:Int) (64:Int) Q h:=by
 unfold zcb
 have hlen:=ztq w
 have hat:=fun {i:Nat} (hi:i<16)=>zih1 (n:=w) hi
 have hsz:(strN (hexL w)).size=16:=by rw [zal];exact hlen
 have hch:∀ {i:Nat},i<16->UInt8.toNat (List.getD (strN (hexL w)).data.toList i 0)=hexD (w / 16^(15-i)%16):=fun {i} hi=>zju (hat hi) (hexF _ (Nat.mod_lt _ (by decide))).1
 generalize strN (hexL w)=S at*
 refine iteF (zjy1 fun e=>by rw [e] at hsz;cases hsz) ?_
 refine JoinW2.direct (letW (iteT (by decide) (JoinW1.direct (iteF (by decide) (letW (iteF (by decide) (JoinW1.direct (iteF (by decide) (iteT (by decide) ⟨by decide,?_⟩)))))))))
 intro c b t hc hb
 have hle:=zji (o:=.cells (zfg S++zbn [.int .u8 0] (c-S.size)).toArray t (c,c+1)) hb
 have tx:TxtAt (h.set b (.cells (zfg S++zbn [.int .u8 0] (c-S.size)).toArray t (c,c+1))) b S:=zjf2
 generalize h.set b (.cells (zfg S++zbn [.int .u8 0] (c-S.size)).toArray t (c,c+1))=H at*
 refine LoopW3.intro (fun us n i k=>k=H/\us=false/\∃j:Nat,j<=16/\i=(j:Int)/\n=((w / 16^(16-j):Nat):Int)) (fun _ _ i _=>(16-i).toNat) ⟨rfl,rfl,0,by omega,rfl,by omega⟩ ?_
 rintro _ _ _ H ⟨rfl,rfl,j,hj,rfl,rfl⟩
 by_cases hj16:j<16
 ·refine iteT (decide_eq_true (by show (j:Int)<(S.size:Int);omega)) ?_
  have hd:w / 16^(15-j)%16<16:=Nat.mod_lt _ (by decide)
  have hstep:w / 16^(15-j)=w / 16^(16-j)*16+w / 16^(15-j)%16:=by
   rw [show 16-j=15-j+1 by omega,Nat.pow_succ,<-Nat.div_div_eq_div_mul]
   omega
  have hlt:w / 16^(15-j)<18446744073709551616:=Nat.lt_of_le_of_lt (Nat.div_le_self _ _) hw
  obtain ⟨f0,f1,f2⟩:=hexF _ hd
  have hz:=hch hj16
  generalize hd':w / 16^(15-j)%16=d at*
  generalize hm1:w / 16^(15-j)=m1 at*
  generalize hm:w / 16^(16-j)=m at*
  refine JoinW2.intro (fun us n k=>k=H/\us=false/\n=((m*16+d:Nat):Int)) (zbq2 tx (by omega) (by omega) ?_) ?_
  ·rw [Int.toNat_natCast,hz]
   refine JoinW2.intro (fun us d' k=>k=H/\us=false/\d'=(d:Int)) (letW (iteF ?_ (letW ?_))) ?_
   ·rw [Bool.and_eq_true]
    rintro ⟨_,e⟩
    exact absurd e (by decide)
   ·by_cases h58:hexD d<58
    ·obtain ⟨g1,g2⟩:=f1 h58
     refine iteT ?_ ⟨rfl,rfl,g2⟩
     rw [decide_eq_true (show (48:Int)<=((hexD d:Nat):Int) by omega),decide_eq_true (show ((hexD d:Nat):Int)<=57 by omega)];rfl
    ·obtain ⟨g1,g2,g3,g4⟩:=f2 h58
     refine iteF ?_ (zau (zvp ?_))
     ·rw [Bool.and_eq_true]
      rintro ⟨_,e⟩
      have:((hexD d:Nat):Int)<=57:=of_decide_eq_true e
      omega
     rw [g1,decide_eq_true (show (97:Int)<=(hexD d:Int) by omega)]
     refine effT (zau (zvp ?_))
     rw [g1]
     refine letW (iteT ?_ (zau (zvp ?_)))
     ·rw [decide_eq_true (show (hexD d:Int)<=122 by omega)];rfl
     ·rw [g1]
      exact ⟨rfl,rfl,g4⟩
   rintro _ _ k ⟨rfl,rfl,rfl⟩
   have w16:IntKind.wrap .u8 (16:Int)=16:=by decide
   have w64:IntKind.wrap .u64 (16:Int)=16:=by decide
   have wd:IntKind.wrap .u64 (d:Int)=(d:Int):=by rw [zah];omega
   have wm:IntKind.wrap .u64 ((m:Int)*16)=(m:Int)*16:=by rw [zah];omega
   have wt:IntKind.wrap .u64 ((m:Int)*16+(d:Int))=(m:Int)*16+(d:Int):=by rw [zah];omega
   have wx:IntKind.wrap .u64 ((shlI .u64 (1:Int) (IntKind.wrap .u64 (64:Int)))-(1:Int))=18446744073709551615:=by decide
   rw [w16,w64,wd,wm,wt,wx]
   refine iteF (fun hh=>by have:(d:Int)>=16:=of_decide_eq_true hh;omega) (iteF (fun hh=>by have:(m:Int)>=1152921504606846976:=of_decide_eq_true hh;omega) (letW (iteF (fun hh=> ?_) ⟨rfl,rfl,by omega⟩)))
   rw [Bool.or_eq_true] at hh
   rcases hh with hh | hh
   ·have:(m:Int)*16+(d:Int)<(m:Int)*16:=of_decide_eq_true hh
    omega
   ·have:(m:Int)*16+(d:Int)>18446744073709551615:=of_decide_eq_true hh
    omega
  rintro _ _ k ⟨rfl,rfl,rfl⟩
  rw [zab (n:=(j:Int)+1) (by omega) (by omega)]
  refine ⟨⟨rfl,rfl,j+1,hj16,by omega,?_⟩,by omega⟩
  grind
 ·refine iteF (fun hh=>hj16 (by grind)) (effF rfl true (letW (iteF (by decide) (encN ?_))))
  have:j=16:=by omega
  subst this
  rw [Nat.sub_self,Nat.pow_zero,Nat.div_one]
  exact hq _ _ hle rfl
end
structure VEnv (h:Hp):Prop where
 pe:PEnv h
 ae:AEnv h
 ee:EEnv h
theorem VEnv.mono {h h':Hp} (e:VEnv h) (hl:h<=h'):VEnv h':=⟨e.pe.mono hl,e.ae.mono hl,e.ee.mono hl⟩
section
variable {h:Hp}
theorem zor2 {f:Nat} {K:Int->Hp->Prop} (hk:K (f:Int) h):SemE prog (Extern.MathFloatBits.float64bits #[(.float .f64 f)]) (shInt .u64) K h:=⟨(f:Int),rfl,hk⟩
theorem zhb1 {s p:ByteArray} {Q:ByteArray->Bool->Hp->Prop} (hn:¬(p.size<=s.size/\s.extract 0 p.size=p)->Q s false h) (hy:p.size<=s.size->s.extract 0 p.size=p->Q (s.extract p.size s.size) true h):znm prog s p Q h:=by
 unfold znm
 refine znt ?_
 unfold zhx
 refine znu ?_
 unfold zhy
 refine ⟨fun hh=>⟨by omega,by grind⟩,letW ?_⟩
 rw [Int.toNat_natCast]
 by_cases hc:p.size<=s.size/\s.extract 0 p.size=p
 ·grind
 ·refine iteT ?_ (hn hc)
  rw [Bool.not_eq_true',Bool.and_eq_false_iff]
  by_cases h1:p.size<=s.size
  ·right
   rw [Bool.eq_false_iff]
   exact zjy1 fun e=>hc ⟨h1,e⟩
  grind
theorem znf1 {s:ByteArray} {Q:Int->Leaf->Hp->Prop} (ee:EEnv h) (hs:s.size<=281474976710656) (hq:∀(n:Int) (er:Leaf) h',h<=h'->Q n er h'):zgi prog s (16:Int) (64:Int) Q h:=by
 unfold zgi
 refine ziw (zrs1 (by omega) fun n er h1 hl _ he=> ?_)
 rcases he with he | ⟨k,hk,he⟩
 ·rw [he]
  exact ⟨rfl,iteF (by decide) (encN (hq _ _ _ hl))⟩
 ·rw [he]
  exact ⟨rfl,iteT rfl (zox1 (ee.mono hl) hs hk fun er=>encL (hq _ _ _ hl))⟩
theorem zng1 {w:Nat} {Q:Int->Leaf->Hp->Prop} (hw:w<18446744073709551616) (hq:∀(er:Leaf) h',h<=h'->Q (w:Int) er h'):zgi prog (strN (hexL w)) (16:Int) (64:Int) Q h:=by
 unfold zgi
 refine ziw (zrt1 hw fun er h1 hl he=> ?_)
 rw [he]
 exact ⟨rfl,iteF (by decide) (encN (hq _ _ hl))⟩
theorem zej2 {w:Nat} {out:List Nat} {Q:Nat->Int->Leaf->Hp->Prop} (e:AEnv h) (hw:w<18446744073709551616) (hr:¬9218868437227405312<w%9223372036854775808) (hi:zbr w out) (hk:∀(er:Leaf) h',h<=h'->er.v=.nilIface->Q w (out.length:Int) er h'):
  zan prog (strN out) Q h:=by
 have hsg:w=sgn (negD w)+w%9223372036854775808:=by
  unfold sgn negD
  grind
 unfold zbr at hi
 rw [if_neg hr] at hi
 split at hi
 ·rename_i c2
  subst hi
  refine zei2 (neg:=negD w) fun er h1 hl he=> ?_
  rw [c2] at hsg
  rw [<-hsg]
  exact hk er h1 hl he
 ·split at hi
  ·rename_i c3
   subst hi
   refine zyi1 (neg:=negD w) e fun er h1 hl he=> ?_
   rw [c3,Nat.add_zero] at hsg
   rw [<-hsg]
   exact hk er h1 hl he
  ·refine zeg2 e (by omega) (by omega) hi fun er h1 hl he=> ?_
   grind
theorem zuo1 {w:Nat} {out:List Nat} (hr:¬9218868437227405312<w%9223372036854775808) (hi:zbr w out):∃c,out[0]? =some c/\c<110:=by
 unfold zbr at hi
 rw [if_neg hr] at hi
 split at hi
 ·subst hi
  cases negD w
  ·exact ⟨105,rfl,by decide⟩
  simp
 ·split at hi
  ·subst hi
   cases negD w
   ·exact ⟨48,rfl,by decide⟩
   simp
  ·obtain ⟨c,ds,eneg,xs,v,s,rfl,hc, -⟩:=zrr (by omega) (by omega) hi
   cases negD w
   ·exact ⟨c,rfl,by omega⟩
   ·exact ⟨45,rfl,by decide⟩
end
section
variable {h:Hp}
def nanT :ByteArray:=⟨#[110,97,110,58]⟩
theorem zjg2 {t:ByteArray} (hs:nanT.size<=t.size) (he:t.extract 0 nanT.size=nanT):(t.data.toList.getD 0 0).toNat=110:=by
 have h4:4<=t.size:=hs
 have e1:(t.extract 0 nanT.size).data.toList.getD 0 0=110:=by rw [he];rfl
 rw [ByteArray.data_extract] at e1
 have e2:(t.data.extract 0 nanT.size).toList=(t.data.toList.take 4):=by simp [nanT];rfl
 rw [e2] at e1
 have e3:t.data.toList.getD 0 0=110:=by
  grind
 rw [e3]
 rfl
theorem zup1 {t:ByteArray} {Q:Int->Int->Hp->Prop} (e:VEnv h) (hs:t.size<=281474976710656) (hk:∀h' x er,h<=h'->Said t x er->Q x er h'):zer1 prog t Q h:=by
 unfold zer1
 by_cases hT:∃w out,w<18446744073709551616/\zbr w out/\t=strN out
 ·obtain ⟨w,out,hw,hi,rfl⟩:=hT
  have fin:∀k,h<=k->CallT prog zqf [(.int .i64 (IntKind.wrap .i64 (w:Int)))] shStr (fun r2 h3=>
    (if (!((ByteArray.toList r2)==(ByteArray.toList (strN out))))=true then
    Q (0:Int) (4:Int) h3
    else
    Q (IntKind.wrap .i64 (w:Int)) (0:Int) h3)) k:=fun k hl=>
   zwt (zcy1 (n:=IntKind.wrap .i64 (w:Int)) (w:=w) (zgz1 hw) hw (e.pe.mono hl) fun k' out' l' hi'=>by
    rw [zig1 hi' hi]
    exact iteF (by simp) (hk _ _ _ (Hp.le_trans hl l') (.inl ⟨w,out,hw,hi,rfl,rfl,rfl⟩)))
  by_cases hr:9218868437227405312<w%9223372036854775808
  ·have ho:out=[110,97,110,58]++hexL w:=by
    have:=hi
    unfold zbr at this
    grind
   have hlen:(strN out).size=20:=by rw [zal,ho,List.length_append,ztq];rfl
   have e4:(strN out).extract 0 4=nanT:=by rw [zgd _ _ _ (by grind),ho];rfl
   have e5:(strN out).extract 4 (strN out).size=strN (hexL w):=by
    rw [zal,zgd _ _ _ (Nat.le_refl _),List.take_of_length_le (Nat.le_refl _),ho];rfl
   refine zgt (zhb1 (p:=nanT) (fun hn=>absurd ⟨by rw [hlen];decide,e4⟩ hn) fun _ _=> ?_)
   refine JoinW1.intro (fun u k=>h<=k/\u=(w:Int)) (iteT rfl ?_) ?_
   ·rw [show (strN out).extract nanT.size (strN out).size=strN (hexL w) from e5]
    exact zqc (zng1 hw fun er h1 hl=>⟨hl,rfl⟩)
   ·rintro _ k ⟨hl,rfl⟩
    exact fin k hl
  ·obtain ⟨c,hc,c110⟩:=zuo1 hr hi
   refine zgt (zhb1 (p:=nanT) (fun _=> ?_) fun h1 h2=> ?_)
   ·refine JoinW1.intro (fun u k=>h<=k/\u=(w:Int)) (iteF (by decide) ?_) ?_
    ·refine zpe (zne1 (f:=w) (fun {Q'} hq=>zej2 e.ae hw hr hi fun er h1 hl he=> ?_) fun er h1 hl=>zor2 ⟨hl,rfl⟩)
     have:=hq er h1 hl he
     rw [zal] at this
     exact this
    ·rintro _ k ⟨hl,rfl⟩
     exact fin k hl
   ·have:=zjg2 h1 h2
    rw [zju hc (by omega)] at this
    omega
 ·have hno:∀w out,w<18446744073709551616->zbr w out->t≠strN out:=fun w out hw hi ht=>hT ⟨w,out,hw,hi,ht⟩
  have fin:∀(u:Int) k,h<=k->CallT prog zqf [(.int .i64 (IntKind.wrap .i64 u))] shStr (fun r2 h3=>
    (if (!((ByteArray.toList r2)==(ByteArray.toList t)))=true then
    Q (0:Int) (4:Int) h3
    else
    Q (IntKind.wrap .i64 u) (0:Int) h3)) k:=fun u k hl=>by
   have hb:0<=IntKind.wrap .u64 (IntKind.wrap .i64 u)/\IntKind.wrap .u64 (IntKind.wrap .i64 u)<18446744073709551616:=by rw [zah];omega
   refine zwt (zcy1 (n:=IntKind.wrap .i64 u) (w:=(IntKind.wrap .u64 (IntKind.wrap .i64 u)).toNat) (Int.toNat_of_nonneg hb.1).symm (by omega) (e.pe.mono hl) fun k' out' l' hi'=> ?_)
   refine iteT ?_ (hk _ _ _ (Hp.le_trans hl l') (.inr ⟨hno,rfl,rfl⟩))
   rw [Bool.not_eq_true',Bool.eq_false_iff]
   intro hh
   exact hno _ _ (by omega) hi' (zjx1 hh).symm
  refine zgt (zhb1 (p:=nanT) (fun _=> ?_) fun h1 h2=> ?_)
  ·refine JoinW1.intro (fun u k=>h<=k) (iteF (by decide) ?_) fun u k hl=>fin u k hl
   exact zpe (znd1 e.ae e.ee hs fun f er h1 hl=>zor2 hl)
  ·refine JoinW1.intro (fun u k=>h<=k) (iteT rfl ?_) fun u k hl=>fin u k hl
   exact zqc (znf1 e.ee (by rw [ByteArray.size_extract];omega) fun n er h1 hl=>hl)
end
theorem zuq1 {x:Nat}:∀ {a b c d:List Nat},x∉a->x∉c->a++x::b=c++x::d->a=c/\b=d
 | [],b,[],d,_,_,h=>by
  grind
 | [],b,y::c,d,_,hc,h=>by
  grind
 | y::a,b,[],d,ha,_,h=>by
  grind
 | y::a,b,z::c,d,ha,hc,h=>by
  rw [List.cons_append,List.cons_append] at h
  obtain ⟨e1,e2⟩:=List.cons.inj h
  obtain ⟨e3,e4⟩:=zuq1 (fun hm=>ha (List.mem_cons.2 (.inr hm))) (fun hm=>hc (List.mem_cons.2 (.inr hm))) e2
  grind
theorem zos2 {c:Nat} {ds:List Nat} (hc:49<=c/\c<58) (hd:Digs ds):101∉manL c ds:=by
 unfold manL
 grind
theorem zqu2 {n1 n2 e1 e2:Bool} {c1 c2:Nat} {d1 d2 x1 x2:List Nat} (hc1:49<=c1/\c1<58) (hc2:49<=c2/\c2<58) (hd1:Digs d1) (hd2:Digs d2) (hx1:Digs x1) (hx2:Digs x2) (h1:1<=x1.length) (h2:1<=x2.length)
  (h:fltL n1 c1 d1 e1 x1=fltL n2 c2 d2 e2 x2):n1=n2/\c1=c2/\d1=d2/\e1=e2/\x1=x2:=by
 have hn:n1=n2/\manL c1 d1++101::((if e1 then [45] else [])++x1)=manL c2 d2++101::((if e2 then [45] else [])++x2):=by
  unfold fltL at h
  cases n1<;>cases n2
  ·exact ⟨rfl,h⟩
  ·have:c1=45:=(List.cons.inj h).1
   omega
  ·have:45=c2:=(List.cons.inj h).1
   omega
  ·exact ⟨rfl,(List.cons.inj h).2⟩
 obtain ⟨en,h⟩:=hn
 obtain ⟨hm,hx⟩:=zuq1 (zos2 hc1 hd1) (zos2 hc2 hd2) h
 unfold manL at hm
 obtain ⟨ec,hm⟩:=List.cons.inj hm
 have ed:d1=d2:=by
  split at hm
  ·rename_i e
   split at hm
   ·rename_i e';rw [e,e']
   ·cases hm
  ·split at hm
   ·cases hm
   ·exact (List.cons.inj hm).2
 have ex:e1=e2/\x1=x2:=by
  cases x1 with
  | nil=>exact absurd h1 (by decide)
  | cons y1 x1=>
   cases x2 with
   | nil=>exact absurd h2 (by decide)
   | cons y2 x2=>
    have a1:=hx1 y1 (List.mem_cons.2 (.inl rfl))
    have a2:=hx2 y2 (List.mem_cons.2 (.inl rfl))
    cases e1<;>cases e2
    ·exact ⟨rfl,hx⟩
    ·have:y1=45:=(List.cons.inj hx).1
     omega
    ·have:45=y2:=(List.cons.inj hx).1
     omega
    ·exact ⟨rfl,(List.cons.inj hx).2⟩
 grind
theorem zmx2 :∀a,a<16->∀b,b<16->hexD a=hexD b->a=b:=by decide
theorem zqv2 {a b:Nat} (ha:a<18446744073709551616) (hb:b<18446744073709551616) (h:hexL a=hexL b):a=b:=by
 have key:∀j,j<=16->a / 16^(16-j)=b / 16^(16-j):=by
  intro j
  induction j with
  | zero=>intro _;rw [Nat.div_eq_of_lt (by exact ha),Nat.div_eq_of_lt (by exact hb)]
  | succ j ih=>
   intro hj
   have ih:=ih (by omega)
   have e:=zih1 (n:=a) (i:=j) (by omega)
   rw [h,zih1 (by omega)] at e
   have hd:=zmx2 _ (Nat.mod_lt _ (by decide)) _ (Nat.mod_lt _ (by decide)) (Option.some.inj e)
   have sp:∀n:Nat,n / 16^(15-j)=n / 16^(16-j)*16+n / 16^(15-j)%16:=fun n=>by
    rw [show 16-j=15-j+1 by omega,Nat.pow_succ,<-Nat.div_div_eq_div_mul]
    omega
   rw [show 16-(j+1)=15-j by omega,sp a,sp b,ih,hd]
 have:=key 16 (Nat.le_refl _)
 omega
theorem zot2 (w:Nat) (hw:w<18446744073709551616):w=sgn (negD w)+w%9223372036854775808:=by
 unfold sgn negD
 grind
def KindT (w:Nat) (out:List Nat):Prop:=
 (w%9223372036854775808=9218868437227405312/\out=infL (negD w))\/(w%9223372036854775808=0/\out=zeroL (negD w))\/
  (0<w%9223372036854775808/\w%9223372036854775808<9218868437227405312/\TextF (w%9223372036854775808) (negD w) out)
theorem zjh2 {w:Nat} {out:List Nat} (hr:¬9218868437227405312<w%9223372036854775808) (hi:zbr w out):KindT w out:=by
 unfold zbr at hi
 rw [if_neg hr] at hi
 split at hi
 ·rename_i c;exact .inl ⟨c,hi⟩
 ·split at hi
  ·rename_i c;exact .inr (.inl ⟨c,hi⟩)
  ·exact .inr (.inr ⟨by omega,by omega,hi⟩)
theorem zmy2 {r:Nat} {neg:Bool} {out:List Nat} (h1:0<r) (h2:r<9218868437227405312) (ht:TextF r neg out):∃c l,out=(if neg then [45] else [])++c::l/\49<=c/\c<58:=by
 obtain ⟨c,ds,eneg,xs,v,s,rfl,hc, -⟩:=zrr h1 h2 ht
 exact ⟨c,_,rfl,hc⟩
theorem zmz2 {n1 n2:Bool} {a b:Nat} {l m:List Nat} (ha:a≠45) (hb:b≠45) (h:(if n1 then [45] else [])++a::l=(if n2 then [45] else [])++b::m):n1=n2/\a=b/\l=m:=by
 grind
theorem zur1 {w:Nat} {out:List Nat} (h:KindT w out):∃c l,out=(if negD w then [45] else [])++c::l/\c≠45/\((c=105/\w%9223372036854775808=9218868437227405312)\/(c=48/\w%9223372036854775808=0)\/(49<=c/\c<58/\0<w%9223372036854775808/\w%9223372036854775808<9218868437227405312/\TextF (w%9223372036854775808) (negD w) out)):=by
 rcases h with ⟨e,rfl⟩ | ⟨e,rfl⟩ | ⟨h1,h2,ht⟩
 ·exact ⟨105,_,rfl,by decide,.inl ⟨rfl,e⟩⟩
 ·exact ⟨48,_,rfl,by decide,.inr (.inl ⟨rfl,e⟩)⟩
 ·obtain ⟨c,l,e,c1,c2⟩:=zmy2 h1 h2 ht
  grind
theorem zna2 {a b:Nat} {out:List Nat} (ha:a<18446744073709551616) (hb:b<18446744073709551616) (h1:zbr a out) (h2:zbr b out):a=b:=by
 have hd:∀ {w:Nat},zbr w out->(out[0]? =some 110/\out=[110,97,110,58]++hexL w)\/(¬9218868437227405312<w%9223372036854775808/\∃c,out[0]? =some c/\c<110):=fun {w} hi=>by
  by_cases hr:9218868437227405312<w%9223372036854775808
  ·have:=hi
   unfold zbr at this
   grind
  ·exact .inr ⟨hr,zuo1 hr hi⟩
 rcases hd h1 with ⟨f1,e1⟩ | ⟨r1,c1,f1,g1⟩<;>rcases hd h2 with ⟨f2,e2⟩ | ⟨r2,c2,f2,g2⟩
 ·rw [e1] at e2
  exact zqv2 ha hb (List.append_cancel_left e2)
 ·grind
 ·grind
 ·obtain ⟨x,l,ex,x45,kx⟩:=zur1 (zjh2 r1 h1)
  obtain ⟨y,m,ey,y45,ky⟩:=zur1 (zjh2 r2 h2)
  have eo:=ex.symm.trans ey
  obtain ⟨en,exy, -⟩:=zmz2 x45 y45 eo
  rw [zot2 a ha,zot2 b hb,en]
  congr 1
  rcases kx with ⟨p,q⟩ | ⟨p,q⟩ | ⟨p,p',q1,q2,q⟩<;>rcases ky with ⟨p2,u⟩ | ⟨p2,u⟩ | ⟨p2,p2',u1,u2,u⟩
  ·rw [q,u]
  ·omega
  ·omega
  ·omega
  ·rw [q,u]
  ·omega
  ·omega
  ·omega
  ·obtain ⟨c,ds,eneg,xs,v,s,e1,hc,hds, -,hxs,x1, -,ev,es, -, -, -, -,he⟩:=zrr q1 q2 q
   obtain ⟨c',ds',eneg',xs',v',s',e1',hc',hds', -,hxs',x1', -,ev',es', -, -, -, -,he'⟩:=zrr u1 u2 u
   obtain ⟨-,rfl,rfl,rfl,rfl⟩:=zqu2 hc hc' hds hds' hxs hxs' x1 x1' (e1.symm.trans e1')
   subst ev
   subst es
   subst ev'
   subst es'
   have i1:=zfm1 q1 q2
   have i2:=zfm1 u1 u2
   rw [<-he] at i1
   rw [<-he'] at i2
   exact zri1 q1 u1 i1 i2
theorem zus1 {x:List Nat} (h:∀z∈x,z<128):(strN x).data.toList.map UInt8.toNat=x:=by
 rw [zhm,List.map_map]
 have:x.map (UInt8.toNat ∘ UInt8.ofNat)=x.map id:=List.map_congr_left fun z hz=>by
  show (UInt8.ofNat z).toNat=z
  rw [UInt8.toNat_ofNat']
  grind
 rw [this,List.map_id]
theorem znb2 {a b:Nat} {x y:List Nat} (ha:a<18446744073709551616) (hb:b<18446744073709551616) (h1:zbr a x) (h2:zbr b y) (h:strN x=strN y):a=b:=by
 have e1:=zus1 (zqy h1).2
 rw [h,zus1 (zqy h2).2] at e1
 subst e1
 exact zna2 ha hb h1 h2
end Lf
namespace Lf
open Go Go.Proofs Go.ChangeShapes Go.WideShapes Go.ChangeAt Go.RowKit
abbrev fltLaid :List (String×DataW Unit):=YtgmfbapkfjemnaaGreatDoor.Rows.fltReturnsUptoRow.laid
theorem star : "*" ++ "errors.errorString" = "*errors.errorString" :=by decide
theorem zsf2 (u:TypeId) (h:Tryz.prog.typeName? 3 u=some "*errors.errorString"):u=202:=
 typeName_ptr_named (nm:= "errors.errorString") (by rw [star];kernel_rfl) (by kernel_rfl) (by decide) u (by rw [star];exact h)
def dbL :List Int:=[0,1,56,2,57,49,28,3,61,58,42,50,38,29,17,4,62,47,59,36,45,43,51,22,53,39,33,30,24,18,12,5,63,55,48,27,60,41,37,16,46,35,44,21,52,32,23,11,54,26,40,15,34,20,31,10,25,14,19,9,13,8,7,6]
theorem znc2 :∀k,k<61->Go.Pinned.cheatRows[k]? =some (newD k,(fiveL k).map UInt8.ofNat):=by decide+kernel
theorem env_laid {W:World} (h:laidMetH Tryz.prog fltLaid W):VEnv (whole W):=by
 rw [MakeChecks.laidMetH_plain _ _ _ (by kernel_rfl)] at h
 have h1:=h.tail
 have h2:=h1.tail
 have h3:=h2.tail
 have h4:=h3.tail
 have h5:=h4.tail
 have h6:=h5.tail
 have h8:=h6.tail.tail
 have h9:=h8.tail
 have h10:=h9.tail
 have h11:=h10.tail
 have h12:=h11.tail
 have i0:LdIs (whole W) ⟨7,0,none⟩ [.int .u64 52]:=zhm1 (j:=0) rfl h3 (by kernel_rfl) (by kernel_rfl) Tryz.underlying213 rfl rfl (by kernel_rfl) (by kernel_rfl)
 have i1:LdIs (whole W) ⟨7,1,none⟩ [.int .u64 11]:=zhm1 (j:=1) rfl h3 (by kernel_rfl) (by kernel_rfl) Tryz.underlying213 rfl rfl (by kernel_rfl) (by kernel_rfl)
 have i2:LdIs (whole W) ⟨7,2,none⟩ [.int .i64 (-1023)]:=zhm1 (j:=2) rfl h3 (by kernel_rfl) (by kernel_rfl) Tryz.underlying213 rfl rfl (by kernel_rfl) (by kernel_rfl)
 have fe:FEnv (whole W):=by
  refine ⟨?_,?_,?_,i0,?_⟩
  ·exact zcw2 (g:=8) h12 (by kernel_rfl) (by kernel_rfl) Tryz.underlying229 Tryz.underlying228 rfl rfl rfl rfl rfl rfl (by kernel_rfl) (by kernel_rfl) (by kernel_rfl)
  ·have h8':laidMet Tryz.prog (("internal/strconv.uint64pow10",.agg (((List.range 20).map fun k=>((10^k:Nat):Int)).map fun x=>.lit (.int .u64 x)))::_) W:=h8
   have:=zsx1 (g:=5) h8' (by kernel_rfl) (by kernel_rfl) Tryz.underlying182 Tryz.underlying51 (by kernel_rfl) (by kernel_rfl)
   rw [List.map_map] at this
   exact this
  ·exact zgz2 (g:=2) h4 (by kernel_rfl) (by kernel_rfl) Tryz.underlying4
  ·have h6':laidMet Tryz.prog (("internal/strconv.float64pow10",.slice (pow10F.map fun x=>.lit (.float .f64 x)) [])::_) W:=h6
   exact zwt1 (g:=12) h6' (by kernel_rfl) (by kernel_rfl) Tryz.underlying240 Tryz.underlying48 (by kernel_rfl)
 have tz:LdIs (whole W) ⟨14,15,none⟩ [.int .u8 4]:=by
  have h1':laidMet Tryz.prog (("math/bits.deBruijn64tab",.agg (dbL.map fun x=>.lit (.int .u8 x)))::_) W:=h1
  have:=zsx1 (g:=14) h1' (by kernel_rfl) (by kernel_rfl) Tryz.underlying242 Tryz.underlying5 (by kernel_rfl) (by kernel_rfl)
  intro i v hv
  cases i with
  | zero=>
   cases hv
   have:=this 15 _ rfl
   rw [box_add] at this
   rw [box_add]
   exact this
  | succ i=>simp at hv
 have err:∀ {n:String} {text:List UInt8} {r:List (String×DataW Unit)} {g:Nat},laidMet Tryz.prog ((n,.iface "*errors.errorString" (.ptr (.agg [.lit (.string text)])))::r) W→Tryz.prog.globalNamed n=some g→(Tryz.prog.globals[g]?).map (·.type)=some 56→∃te pe,LdIs (whole W) ⟨g,0,none⟩ [.iface te pe]:=fun {n text r g} hl hg ht=>by
  obtain ⟨a0,s0,hv0, -, -, -⟩:=laid_sentinel hl hg ht Tryz.underlying56 zsf2 Tryz.underlying202 Tryz.underlying204 rfl rfl Tryz.underlying9 (by kernel_rfl) (by kernel_rfl)
  refine ⟨202,.pointer (some a0),fun i v e=> ?_⟩
  cases i with
  | succ i=>simp at e
  | zero=>
   cases e
   have h0:=World.var?_cell hg hv0 0
   rw [znj,box_add]
   simpa using h0
 refine ⟨⟨fe,tz⟩,⟨fe,⟨⟨zai2 h3 (by kernel_rfl) (by kernel_rfl) Tryz.underlying213 (of_decide_eq_true (by kernel_rfl)),i0,i1,i2,zai2 h2 (by kernel_rfl) (by kernel_rfl) Tryz.underlying213 (of_decide_eq_true (by kernel_rfl))⟩,?_,?_⟩⟩,⟨err h10 (by kernel_rfl) (by kernel_rfl),err h9 (by kernel_rfl) (by kernel_rfl)⟩⟩
 ·have h11':laidMet Tryz.prog (("internal/strconv.leftcheats",.slice (Go.Pinned.cheatRows.map fun x=>.agg [.lit (.int .i64 x.1),.lit (.string x.2)]) [])::_) W:=h11
  obtain ⟨a,c,e1,e2⟩:=zcy2 (g:=9) h11' (by kernel_rfl) (by kernel_rfl) Tryz.underlying233 Tryz.underlying232 rfl rfl rfl rfl rfl rfl Tryz.underlying3 Tryz.underlying9 (by kernel_rfl) (by kernel_rfl) (by kernel_rfl)
  have hlen:Go.Pinned.cheatRows.length=61:=by decide+kernel
  rw [hlen] at e1
  exact ⟨a,c,e1,fun k hk=>e2 k _ (znc2 k hk)⟩
 ·have h5':laidMet Tryz.prog (("internal/strconv.powtab",.slice (powL.map fun x=>.lit (.int .i64 x)) [])::_) W:=h5
  exact zwu1 (g:=11) h5' (by kernel_rfl) (by kernel_rfl) Tryz.underlying239 Tryz.underlying3 (by kernel_rfl)
theorem own :ownKnob Tryz.prog.godebug=none:=by kernel_rfl
theorem laidOut :laidOutB Tryz.prog=true:=by kernel_rfl
theorem laid_met (os:Os) (args:Array Value):laidMetH Tryz.prog fltLaid ((World.laidAll Tryz.prog os fltLaid).forCall (fun _ _=>0) ⟨#[],args,[]⟩).memory:=by
 rw [MakeChecks.laidMetH_plain _ _ _ (by kernel_rfl)]
 exact laidMet_laidAll args (by kernel_rfl) (by kernel_rfl)
end Lf
namespace Lf
open Go
def bB (l:List Nat):List UInt8:=l.map UInt8.ofNat
def decB (v:Int):List UInt8:=bB (signL v++decL v.natAbs)
def InI (v:Int):Prop:= -9223372036854775808<=v/\v<9223372036854775808
theorem zxd {z:Nat} (h:z<256):(UInt8.ofNat z).toNat=z:=by
 rw [UInt8.toNat_ofNat']
 omega
theorem zyj1 :∀(zs:List Nat) (n:Nat),n<=zs.foldl (fun n z=>10*n+(z-48)) n
 | [],_=>Nat.le_refl _
 | z::zs,n=>Nat.le_trans (by omega) (zyj1 zs (10*n+(z-48)))
theorem zbr2 {M:Nat} (hM:M<=18446744073709551615):∀(zs:List Nat) (acc:Nat),(∀z∈zs,48<=z/\z<58)->zs.foldl (fun n z=>10*n+(z-48)) acc<=M->Lib.parseUintM M acc (bB zs)=.ok (zs.foldl (fun n z=>10*n+(z-48)) acc)
 | [],_,_,_=>rfl
 | z::zs,acc,hz,hf=>by
  obtain ⟨z0,z1⟩:=hz z (List.mem_cons_self ..)
  have hg:=zyj1 zs (10*acc+(z-48))
  rw [List.foldl_cons] at hf ⊢
  have e:acc*10+(z-48)=10*acc+(z-48):=by omega
  show (if 48<=(UInt8.ofNat z).toNat/\(UInt8.ofNat z).toNat<=57 then _ else _)=_
  rw [zxd (by omega),if_pos ⟨z0,by omega⟩,if_neg (by omega),e,if_neg (by omega)]
  exact zbr2 hM zs _ (fun x hx=>hz x (List.mem_cons_of_mem _ hx)) hf
theorem zut1 {n:Nat} (h:n<18446744073709551616):Lib.parseUintB 64 (bB (decL n))=.ok n:=by
 have hl:1<=(decL n).length:=by rw [zmg];exact zkx _
 unfold Lib.parseUintB
 rw [if_neg (by intro e;have:=congrArg List.length e;unfold bB at this;grind)]
 obtain ⟨M,hM⟩:∃M,M=2^64-1:=⟨_,rfl⟩
 have e:=zgv1 n
 unfold numV at e
 rw [<-hM,zbr2 (by omega) _ _ (zuo n) (by rw [e];omega),e]
theorem zuu1 {v:Int} (h:InI v):Lib.parseIntB 64 (decB v)=.ok v:=by
 obtain ⟨h0,h1⟩:=h
 have hm:=zut1 (n:=v.natAbs) (by omega)
 unfold decB signL
 by_cases hn:v<0
 ·rw [if_pos hn]
  have e:bB ([45]++decL v.natAbs)=45::bB (decL v.natAbs):=rfl
  rw [e]
  unfold Lib.parseIntB
  grind
 ·rw [if_neg hn,List.nil_append]
  have hl:1<=(decL v.natAbs).length:=by rw [zmg];exact zkx _
  have hd:=zuo v.natAbs
  cases hq:decL v.natAbs with
  | nil=>grind
  | cons z zs=>
   rw [hq] at hm hd
   obtain ⟨z0,z1⟩:=hd z (List.mem_cons_self ..)
   have e:bB (z::zs)=UInt8.ofNat z::bB zs:=rfl
   rw [e] at hm ⊢
   unfold Lib.parseIntB
   have hz:=zxd (z:=z) (by omega)
   grind
def intV (s:List UInt8):Option Int:=match Lib.parseIntB 64 s with
 | .ok v=>if decB v=s then some v else none
 | _=>none
theorem zmg1 {s:List UInt8} {v:Int} (h:Lib.parseIntB 64 s=.ok v):InI v:=by
 unfold Lib.parseIntB at h
 split at h
 ·cases h
 ·rename_i c r
  simp only at h
  split at h
  ·cases h
  ·cases h
  ·rename_i u hu
   by_cases hc:c.toNat=45
   ·rw [if_neg (by simp [hc])] at h
    by_cases h2:2^(64-1)<u
    ·grind
    ·rw [if_neg (fun e=>h2 e.2),if_pos hc] at h
     cases h
     unfold InI
     omega
   ·by_cases h2:2^(64-1)<=u
    ·grind
    ·rw [if_neg (fun e=>h2 e.2),if_neg (fun e=>hc e.1),if_neg hc] at h
     cases h
     unfold InI
     omega
theorem zru1 {v:Int} (h:InI v):intV (decB v)=some v:=by
 unfold intV
 rw [zuu1 h]
 exact if_pos rfl
theorem zhc1 {s:List UInt8} {v:Int} (h:intV s=some v):s=decB v/\InI v:=by
 unfold intV at h
 split at h
 ·rename_i u hu
  split at h
  ·rename_i he
   cases h
   exact ⟨he.symm,zmg1 hu⟩
  ·cases h
 ·cases h
def i64N (v:Int):Nat:=(IntKind.wrap .u64 v).toNat
theorem zrv1 (v:Int):i64N v<18446744073709551616:=by
 unfold i64N
 rw [zah]
 omega
theorem zuv1 (v:Int):IntKind.wrap .u64 v=(i64N v:Int):=by
 unfold i64N
 rw [zah]
 omega
theorem zji2 {w:Nat} (h:w<18446744073709551616):i64N (IntKind.wrap .i64 (w:Int))=w:=by
 unfold i64N
 rw [zgz1 h,Int.toNat_natCast]
theorem zuw1 {v:Int} (h:InI v):IntKind.wrap .i64 (i64N v:Int)=v:=by
 rw [<-zuv1]
 obtain ⟨h0,h1⟩:=h
 rw [zah]
 unfold IntKind.wrap
 simp only [IntKind.signed,IntKind.bits]
 grind
theorem zrw1 (v:Int):InI (IntKind.wrap .i64 v):=by
 unfold InI IntKind.wrap
 simp only [IntKind.signed,IntKind.bits]
 grind
noncomputable def fltB (v:Int):List UInt8:=open Classical in if h:∃out,zbr (i64N v) out then bB (choose h) else []
noncomputable def fltV (s:List UInt8):Option Int:=open Classical in if h:∃v,InI v/\∃out,zbr (i64N v) out/\s=bB out then some (choose h) else none
theorem zyk1 {v:Int} {out:List Nat} (h:zbr (i64N v) out):fltB v=bB out:=by
 unfold fltB
 rw [dif_pos ⟨out,h⟩,zig1 (Classical.choose_spec (⟨out,h⟩:∃out,zbr (i64N v) out)) h]
theorem zrx1 (out:List Nat):(strN out).data.toList=bB out:=zhm out
theorem zux1 {s:List UInt8} {v:Int} (h:fltV s=some v):InI v/\∃out,zbr (i64N v) out/\s=bB out:=by
 unfold fltV at h
 split at h
 ·grind
 ·cases h
theorem zqw2 {a b:List Nat} (h:bB a=bB b):strN a=strN b:=by
 apply zum
 apply Array.ext'
 exact (zrx1 a).trans (h.trans (zrx1 b).symm)
theorem zjj2 {v:Int} {out:List Nat} (h:InI v) (ht:zbr (i64N v) out):fltV (bB out)=some v:=by
 have hq:∃v,InI v/\∃o,zbr (i64N v) o/\bB out=bB o:=⟨v,h,out,ht,rfl⟩
 unfold fltV
 rw [dif_pos hq]
 obtain ⟨h1,o,ho,he⟩:=Classical.choose_spec hq
 generalize Classical.choose hq=u at*
 have:=znb2 (zrv1 u) (zrv1 v) ho ht (zqw2 he).symm
 rw [<-zuw1 h1,this,zuw1 h]
theorem zuy1 {t:ByteArray} {x e:Int} (h:Said t x e):(fltV t.data.toList=some x/\e=0)\/(fltV t.data.toList=none/\e=4):=by
 rcases h with ⟨w,out,hw,hi,rfl,rfl,rfl⟩ | ⟨hn,rfl,rfl⟩
 ·refine .inl ⟨?_,rfl⟩
  rw [zrx1]
  exact zjj2 (zrw1 _) (by rw [zji2 hw];exact hi)
 ·refine .inr ⟨?_,rfl⟩
  cases hq:fltV t.data.toList with
  | none=>rfl
  | some v=>
   obtain ⟨h1,out,ho,he⟩:=zux1 hq
   refine absurd ?_ (hn _ out (zrv1 v) ho)
   apply zum
   apply Array.ext'
   rw [he,zrx1]
theorem znd2 {r:Nat} {neg:Bool} (h1:0<r) (h2:r<9218868437227405312):∃out,TextF r neg out:=by
 obtain ⟨f1,f2⟩:=zie1 h1 h2
 have hp:=pF_in h1 h2
 have hs2: -3000<=(zbh (mS r) (eS r)).2:=by
  unfold zbh
  split
  ·show -3000<= -(pF r-1);omega
  ·split
   ·show -3000<= -pF r;omega
   ·show -3000<= -pF r;omega
 have key:∀(k u:Nat) (t:Int),u≠0->u<=k-> -3000<=t->u*unitW 0 t=valS r->∃out,TextF r neg out:=by
  intro k
  induction k with
  | zero=>omega
  | succ k ih=>
   intro u t h0 hk ht hu
   by_cases h:u%10=0
   ·have e:=zfj (a:=0) (b:=t) (n:=1) (by omega)
    exact ih (u / 10) (t+1) (by omega) (by omega) (by omega) (by
     rw [<-hu,show t+1=t+((1:Nat):Int) from rfl,<-e,<-Nat.mul_assoc,show u / 10*10^1=u by omega])
   ·exact ⟨_,u,t,h,ht,hu,rfl⟩
 exact key _ _ _ f1 (Nat.le_refl _) hs2 (rfl:(zbh (mS r) (eS r)).1*unitW 0 (zbh (mS r) (eS r)).2=valS r)
theorem zjk2 (w:Nat):∃out,zbr w out:=by
 unfold zbr
 split
 ·simp
 ·split
  ·simp
  ·split
   ·simp
   ·exact znd2 (by omega) (by omega)
theorem zyl1 (v:Int):∃out,zbr (i64N v) out/\fltB v=bB out:=by
 obtain ⟨out,h⟩:=zjk2 (i64N v)
 exact ⟨out,h,zyk1 h⟩
theorem zjl2 {v:Int} (h:InI v):fltV (fltB v)=some v:=by
 obtain ⟨out,h1,h2⟩:=zyl1 v
 rw [h2]
 exact zjj2 h h1
theorem zuz1 {s:List UInt8} {v:Int} (h:fltV s=some v):s=fltB v/\InI v:=by
 obtain ⟨h1,out,h2,h3⟩:=zux1 h
 exact ⟨by rw [h3,zyk1 h2],h1⟩
theorem zjm2 {b:Nat} {out:List Nat} (h:zbr b out):∀x∈out,45<=x/\x<128:=by
 intro x hx
 refine ⟨?_,(zqy h).2 x hx⟩
 have sg:∀ {n:Bool},∀x∈((if n then [45] else []):List Nat),45<=x:=fun {n}=>by cases n<;>simp
 unfold zbr at h
 split at h
 ·subst h
  rw [List.mem_append] at hx
  rcases hx with hx | hx
  ·simp at hx;omega
  ·unfold hexL at hx
   rw [List.mem_map] at hx
   obtain ⟨i, -,rfl⟩:=hx
   unfold hexD
   split<;>omega
 ·split at h
  ·grind
  ·split at h
   ·grind
   ·obtain ⟨c,ds,eneg,xs,v,s,rfl,hc,hds,dl,hxs, -⟩:=zrr (by omega) (by omega) h
    unfold fltL manL at hx
    grind
theorem bB_in {l:List Nat} (h:∀x∈l,45<=x/\x<128):∀c∈bB l,45<=c.toNat/\c.toNat<128:=by
 intro c hc
 unfold bB at hc
 obtain ⟨x,hx,rfl⟩:=List.mem_map.1 hc
 have:=h x hx
 rw [zxd (by omega)]
 exact this
theorem zqx2 (v:Int):∀c∈fltB v,45<=c.toNat/\c.toNat<128:=by
 obtain ⟨out,h1,h2⟩:=zyl1 v
 rw [h2]
 exact bB_in (zjm2 h1)
theorem zym1 (v:Int):∀c∈decB v,45<=c.toNat/\c.toNat<58:=by
 intro c hc
 unfold decB bB at hc
 obtain ⟨x,hx,rfl⟩:=List.mem_map.1 hc
 have:45<=x/\x<58:=by
  rw [List.mem_append] at hx
  rcases hx with hx | hx
  ·unfold signL at hx
   grind
  ·have:=zuo _ x hx;omega
 rw [zxd (by omega)]
 exact this
theorem zne2 (v:Int):(fltB v).length<=25:=by
 obtain ⟨out,h1,h2⟩:=zyl1 v
 rw [h2]
 unfold bB
 rw [List.length_map]
 exact (zqy h1).1
theorem zka1 {v:Int} (h:InI v):(decB v).length<=21:=by
 obtain ⟨h0,h1⟩:=h
 have hl:=(ztv (m:=v.natAbs) (by omega)).1
 unfold decB bB
 rw [List.length_map,List.length_append]
 have:(signL v).length<=1:=by unfold signL;split<;>simp
 omega
end Lf
namespace Lf
structure PIns where
 op:Int
 a:Int
 b:Int
 c:Int
 imm:Int
def zam (op:Int):Bool×Bool×Bool×Bool:=
 if op=1 then (true,false,false,true)
 else if op=2\/op=20\/op=21\/op=25\/op=26 then (true,true,false,false)
 else if (3<=op/\op<=14)\/(15<=op/\op<=19)\/op=24 then (true,true,true,false)
 else if op=22\/op=29\/op=30 then (false,false,false,true)
 else if op=23 then (true,false,false,true)
 else if op=27\/op=28\/op=31\/op=32\/op=33 then (true,false,false,false)
 else (false,false,false,false)
def regP (has:Bool) (n:Int):Int:=if has=false/\n≠0 then 11 else if n<0\/8<=n then 10 else 0
def zrs (x:PIns) (n locks:Int):Int×Int:=
 if x.op<0\/34<=x.op then (9,0)
 else if regP (zam x.op).1 x.a≠0 then (regP (zam x.op).1 x.a,1)
 else if regP (zam x.op).2.1 x.b≠0 then (regP (zam x.op).2.1 x.b,2)
 else if regP (zam x.op).2.2.1 x.c≠0 then (regP (zam x.op).2.2.1 x.c,3)
 else if (zam x.op).2.2.2=false/\x.imm≠0 then (11,4)
 else if (x.op=22\/x.op=23)/\(x.imm<0\/n<x.imm) then (12,4)
 else if (x.op=29\/x.op=30)/\(x.imm<0\/locks<=x.imm) then (13,4)
 else (0,0)
def codeR (n locks:Int):List PIns->Int->Int×Int
 | [],_=>(0,0)
 | x::r,i=>if (zrs x n locks).1≠0 then ((zrs x n locks).1,i) else codeR n locks r (i+1)
def codeP (l:List PIns) (locks:Int):Int×Int:=
 if locks<0\/8<locks then (1,0) else if 256<l.length then (3,256) else codeR l.length locks l 0
structure PProc where
 part:Int
 code:List PIns
structure PCfg where
 labels:List Int
 table:List Int
 fuel:Int
 lane:Int
 locks:Int
 log:Int
 procs:List PProc
def zsk2 (n a b:Int):Bool:=decide (a<=n)&&decide (n<=b)
end Lf
namespace Lf
open Go
def wordTab :List (List UInt8):=[[101,120,105,116],[115,101,116],[109,111,118,101],[97,100,100],[115,117,98],[109,117,108],[100,105,118],[114,101,109],[97,110,100],[111,114],[120,111,114],[115,104,108],[115,104,114],[108,101,115,115],[101,113,117,97,108],[102,97,100,100],[102,115,117,98],[102,109,117,108],[102,100,105,118],[102,108,101,115,115],[116,111,102,108,111,97,116],[116,111,105,110,116],[106,117,109,112],[105,102],[115,101,110,100],[114,101,99,118],[116,114,121],[116,105,109,101,114],[115,108,101,101,112],[108,111,99,107],[117,110,108,111,99,107],[111,117,116],[110,111,119],[115,101,108,102]]
def wordL (op:Nat):List UInt8:=wordTab.getD op []
theorem zbs2 :∀k,k<34->(wordL k).length<=7:=by decide
theorem zjn2 :∀k,k<34->∀c∈wordL k,97<=c.toNat/\c.toNat<123:=by decide
theorem znf2 :∀i,i<34->∀j,j<34->wordL i=wordL j->i=j:=by decide+kernel
def zky (n:Int):Bool:=decide (-4503599627370496<=n)&&decide (n<=4503599627370496)
noncomputable def numB (op n:Int):List UInt8:=if op=1/\zky n=false then 102::fltB n else decB n
def regB (n:Int):List UInt8:=114::decB n
theorem zzx :∀n,n<8->regB ((n:Nat):Int)=[114,UInt8.ofNat (48+n)]:=by
 intro n hn
 unfold regB decB signL
 rw [if_neg (by omega),Int.natAbs_natCast,zdm1 (by omega)]
 rfl
def fldB (has:Bool) (w:List UInt8):List UInt8:=if has then 32::w else []
noncomputable def lineB (x:PIns):List UInt8:=
 wordL x.op.toNat++(fldB (zam x.op).1 (regB x.a)++(fldB (zam x.op).2.1 (regB x.b)++(fldB (zam x.op).2.2.1 (regB x.c)++fldB (zam x.op).2.2.2 (numB x.op x.imm))))
noncomputable def progB (l:List PIns):List UInt8:=l.flatMap fun x=>lineB x++ [10]
def zbv (l:List UInt8) (n:Nat):List UInt8:=(l.drop n).takeWhile (· !=32)
def opOf (w:List UInt8):Option Nat:=(List.range 34).find? fun k=>wordL k==w
def regOf (w:List UInt8):Option Nat:=(List.range 8).find? fun n=>w==[114,UInt8.ofNat (48+n)]
noncomputable def setOf (w:List UInt8):Option Int:=match w with
 | []=>(intV []).filter zky
 | c::r=>if c=102 then (fltV r).filter (fun n=> !zky n) else (intV (c::r)).filter zky
noncomputable def immOf (op:Int) (w:List UInt8):Option Int:=if op=1 then setOf w else intV w
def immE (op n v:Int):Int:=if (op=22\/op=23)/\(v<0\/n<v) then 12 else if (op=29\/op=30)/\(v<0\/8<=v) then 13 else 0
structure RS where
 pos:Nat
 e:Int
 bad:Nat
def giveR (s:RS) (e:Int) (n:Nat):RS:=if s.e=0 then ⟨s.pos,e,n⟩ else s
def zfk (l:List UInt8) (s:RS):Option (List UInt8×Nat)×RS:=
 if s.e≠0 then (none,s) else if s.pos=l.length then (none,⟨s.pos,5,s.pos⟩) else (some (zbv l (s.pos+1),s.pos+1),⟨s.pos+1+(zbv l (s.pos+1)).length,0,s.bad⟩)
def regR (l:List UInt8) (s:RS) (has:Bool):Int×RS:=
 if has=false then (0,s) else match zfk l s with
  | (none,s')=>(0,s')
  | (some (w,f),s')=>match regOf w with
   | some n=>((n:Int),s')
   | none=>(0,⟨s'.pos,10,f⟩)
noncomputable def immR (l:List UInt8) (n op:Int) (s:RS):Int×RS:=match zfk l s with
 | (none,s')=>(0,s')
 | (some (w,f),s')=>match immOf op w with
  | none=>(0,⟨s'.pos,4,f⟩)
  | some v=>if immE op n v=0 then (v,s') else (0,⟨s'.pos,immE op n v,f⟩)
noncomputable def restR (l:List UInt8) (n op:Int) (has:Bool) (s:RS):Int×RS:=if has then immR l n op s else (0,s)
def endR (l:List UInt8) (s:RS):RS:=if s.pos<l.length then giveR s 6 s.pos else s
noncomputable def insR (l:List UInt8) (n:Int):PIns×RS:=match opOf (zbv l 0) with
 | none=>(⟨0,0,0,0,0⟩,⟨0,9,0⟩)
 | some k=>
  let f:=zam (k:Int)
  let p1:=regR l ⟨(zbv l 0).length,0,0⟩ f.1
  let p2:=regR l p1.2 f.2.1
  let p3:=regR l p2.2 f.2.2.1
  let p4:=restR l n (k:Int) f.2.2.2 p3.2
  (⟨(k:Int),p1.1,p2.1,p3.1,p4.1⟩,endR l p4.2)
noncomputable def zjh (n:Int):Nat->List UInt8->Int->List PIns->List PIns×Int×Int×Int
 | 0,_,_,_=>([],0,0,0)
 | k+1,r,i,acc=>
  if r=[] then (acc,0,0,0)
  else if 256<i then ([],3,i,0)
  else
   let s:=r.takeWhile (· !=10)
   let p:=insR s n
   let st:=if s.length=r.length then giveR p.2 5 s.length else p.2
   if st.e≠0 then ([],st.e,i,(st.bad:Int)) else zjh n k (r.drop (s.length+1)) (i+1) (acc++ [p.1])
noncomputable def zia (t:List UInt8):List PIns×Int×Int×Int:=zjh ((t.count 10:Nat):Int) (t.length+1) t 1 []
def Bl (r:List UInt8):Prop:=r=[]\/∃t,r=32::t
theorem zva1 {F r:List UInt8} (hF:∀c∈F,c≠32) (hb:Bl r):(F++r).takeWhile (· !=32)=F:=by
 rw [List.takeWhile_append_of_pos (fun c hc=>bne_iff_ne.2 (hF c hc))]
 rcases hb with rfl | ⟨t,rfl⟩
 ·simp
 ·simp
theorem zvb1 (r:List UInt8):Bl (r.dropWhile (· !=32)):=by
 induction r with
 | nil=>exact .inl rfl
 | cons c r ih=>
  rw [List.dropWhile_cons]
  split
  ·exact ih
  ·rename_i h
   refine .inr ⟨r,?_⟩
   grind
theorem zvc1 (r:List UInt8):∀c∈r.takeWhile (· !=32),c≠32:=by
 intro c hc
 have:=List.all_takeWhile (l:=r) (p:=(· !=32))
 grind
theorem zhd1 {P F r:List UInt8} {b:Nat} (hF:∀c∈F,c≠32) (hb:Bl r):zfk (P++32::(F++r)) ⟨P.length,0,b⟩=(some (F,P.length+1),⟨(P++32::F).length,0,b⟩):=by
 unfold zfk
 rw [if_neg (by simp),if_neg (by simp)]
 have e:zbv (P++32::(F++r)) (P.length+1)=F:=by
  unfold zbv
  rw [show P++32::(F++r)=(P++ [32])++(F++r) by simp,List.drop_left' (by simp)]
  exact zva1 hF hb
 grind
theorem zoy1 {P:List UInt8} {b:Nat}:zfk P ⟨P.length,0,b⟩=(none,⟨P.length,5,P.length⟩):=by
 unfold zfk
 simp
theorem zoz1 {l:List UInt8} {s:RS} (h:s.e≠0):zfk l s=(none,s):=if_pos h
theorem Bl.cut {r:List UInt8} (hb:Bl r) (h0:r≠ []):∃F r',r=32::(F++r')/\(∀c∈F,c≠32)/\Bl r':=by
 rcases hb with rfl | ⟨t,rfl⟩
 ·grind
 ·exact ⟨_,_,congrArg (32:: ·) (List.takeWhile_append_dropWhile (p:=(· !=32)) (l:=t)).symm,zvc1 t,zvb1 t⟩
theorem zqy2 {p:Nat->Bool} {N k:Nat} (hk:k<N) (hp:p k=true) (h1:∀j,j<N->p j=true->j=k):(List.range N).find? p=some k:=by
 rw [List.find?_range_eq_some]
 grind
theorem zmh1 {k:Nat} (hk:k<34):opOf (wordL k)=some k:=zqy2 hk (by simp) fun j hj e=>znf2 j hj k hk (by simpa using e)
theorem zvd1 {w:List UInt8} {k:Nat} (h:opOf w=some k):k<34/\w=wordL k:=by
 unfold opOf at h
 grind
theorem zek2 {w:List UInt8} {n:Nat} (h:regOf w=some n):n<8/\w=[114,UInt8.ofNat (48+n)]:=by
 unfold regOf at h
 grind
theorem zmi1 :∀n,n<8->regOf [114,UInt8.ofNat (48+n)]=some n:=by decide
theorem zjo2 :∀n,n<8->∀c∈ [114,UInt8.ofNat (48+n)],c≠32:=by decide
theorem filter_some {α:Type} {o:Option α} {p:α->Bool} {v:α} (h:o.filter p=some v):o=some v/\p v=true:=by
 cases o with
 | none=>cases h
 | some u=>
  grind
theorem zjp2 {v:Int} {c:UInt8} {r:List UInt8} (h:decB v=c::r):c≠102:=by
 have:=zym1 v c (by rw [h];exact List.mem_cons_self ..)
 intro e
 rw [e] at this
 grind
theorem zqz2 (v:Int):decB v≠ []:=by
 intro e
 have:=congrArg List.length e
 unfold decB bB at this
 rw [List.length_map,List.length_append,zmg] at this
 have:=zkx v.natAbs
 simp at*
 omega
theorem zjq2 {op v:Int} (h:InI v):immOf op (numB op v)=some v:=by
 unfold immOf numB
 by_cases h1:op=1
 ·rw [if_pos h1]
  by_cases hs:zky v=false
  ·rw [if_pos ⟨h1,hs⟩]
   unfold setOf
   show (if (102:UInt8)=102 then _ else _)=_
   rw [if_pos rfl,zjl2 h,Option.filter_some,hs]
   rfl
  ·rw [if_neg (fun e=>hs e.2)]
   have hs:zky v=true:=by simpa using hs
   unfold setOf
   cases hq:decB v with
   | nil=>exact absurd hq (zqz2 v)
   | cons c r=>
    show (if c=102 then _ else _)=_
    rw [if_neg (zjp2 hq),<-hq,zru1 h,Option.filter_some,hs]
    rfl
 ·rw [if_neg h1,if_neg (fun e=>h1 e.1),zru1 h]
theorem zel2 {op v:Int} {w:List UInt8} (h:immOf op w=some v):w=numB op v/\InI v:=by
 unfold immOf at h
 unfold numB
 by_cases h1:op=1
 ·rw [if_pos h1] at h
  unfold setOf at h
  split at h
  ·obtain ⟨h2,h3⟩:=filter_some h
   rw [if_neg (by rw [h3];simp)]
   exact zhc1 h2
  ·rename_i c r
   split at h
   ·rename_i hc
    obtain ⟨h2,h3⟩:=filter_some h
    have hs:zky v=false:=by simpa using h3
    rw [if_pos ⟨h1,hs⟩,hc,<-(zuz1 h2).1]
    exact ⟨rfl,(zuz1 h2).2⟩
   ·obtain ⟨h2,h3⟩:=filter_some h
    rw [if_neg (by rw [h3];simp)]
    exact zhc1 h2
 ·rw [if_neg h1] at h
  rw [if_neg (fun e=>h1 e.1)]
  exact zhc1 h
theorem zjr2 (op v:Int):∀c∈numB op v,45<=c.toNat/\c.toNat<128:=by
 intro c hc
 unfold numB at hc
 split at hc
 ·rcases List.mem_cons.1 hc with rfl | hc
  ·decide
  ·exact zqx2 v c hc
 ·have:=zym1 v c hc;omega
theorem zra2 {F:List UInt8} (h:∀c∈F,45<=c.toNat/\c.toNat<128):∀c∈F,c≠32:=by
 intro c hc e
 have:=(h c hc).1
 rw [e] at this
 grind
theorem zyn1 {P r:List UInt8} {b:Nat} {has:Bool} {n:Int} (hr:regP has n=0) (hb:Bl r):regR (P++(fldB has (regB n)++r)) ⟨P.length,0,b⟩ has=(n,⟨(P++fldB has (regB n)).length,0,b⟩):=by
 unfold regR fldB
 unfold regP at hr
 cases has with
 | false=>
  grind
 | true=>
  rw [if_neg (fun e=>by cases e.1)] at hr
  have hn:0<=n/\n<8:=by
   omega
  obtain ⟨k,rfl⟩:∃k:Nat,n=k:=⟨n.toNat,by omega⟩
  have hk:k<8:=by omega
  rw [if_neg (by simp),if_pos rfl,zzx k hk]
  show (match zfk (P++32::([114,UInt8.ofNat (48+k)]++r)) ⟨P.length,0,b⟩ with | (none,s')=>(0,s') | (some (w,f),s')=>(match regOf w with | some n=>((n:Int),s') | none=>(0,⟨s'.pos,10,f⟩)))=_
  rw [zhd1 (zjo2 k hk) hb]
  show (match regOf [114,UInt8.ofNat (48+k)] with | some n=>_ | none=>_)=_
  rw [zmi1 k hk]
theorem zkb1 {l:List UInt8} {s:RS} {has:Bool} (h:s.e≠0):(regR l s has).2=s:=by
 unfold regR
 split
 ·rfl
 ·rw [zoz1 h]
theorem zmj1 {P r:List UInt8} {b:Nat} {has:Bool} (hb:Bl r) (h:(regR (P++r) ⟨P.length,0,b⟩ has).2.e=0):
  ∃r',Bl r'/\r=fldB has (regB (regR (P++r) ⟨P.length,0,b⟩ has).1)++r'/\(regR (P++r) ⟨P.length,0,b⟩ has).2=⟨(P++fldB has (regB (regR (P++r) ⟨P.length,0,b⟩ has).1)).length,0,b⟩/\regP has (regR (P++r) ⟨P.length,0,b⟩ has).1=0:=by
 cases has with
 | false=>
  have e:regR (P++r) ⟨P.length,0,b⟩ false=(0,⟨P.length,0,b⟩):=rfl
  rw [e]
  exact ⟨r,hb,rfl,by simp [fldB],rfl⟩
 | true=>
  by_cases h0:r=[]
  ·subst h0
   have e:regR (P++ []) ⟨P.length,0,b⟩ true=(0,⟨P.length,5,P.length⟩):=by
    unfold regR
    rw [if_neg (by simp),List.append_nil,zoy1]
   grind
  ·obtain ⟨F,r',rfl,hF,hb'⟩:=hb.cut h0
   have e:regR (P++32::(F++r')) ⟨P.length,0,b⟩ true=(match regOf F with | some n=>((n:Int),⟨(P++32::F).length,0,b⟩) | none=>(0,⟨(P++32::F).length,10,P.length+1⟩)):=by
    unfold regR
    rw [if_neg (by simp),zhd1 hF hb']
   rw [e] at h ⊢
   cases hq:regOf F with
   | none=>
    grind
   | some n=>
    obtain ⟨hn,hw⟩:=zek2 hq
    refine ⟨r',hb',?_,?_,?_⟩
    ·show 32::(F++r')=fldB true (regB (n:Int))++r'
     rw [zzx n hn,<-hw]
     rfl
    ·show (⟨(P++32::F).length,0,b⟩:RS)=⟨(P++fldB true (regB (n:Int))).length,0,b⟩
     rw [zzx n hn,<-hw]
     rfl
    ·show regP true (n:Int)=0
     unfold regP
     grind
theorem zng2 {P r:List UInt8} {b:Nat} {has:Bool} {op n v:Int} (h0:has=false->v=0) (hv:InI v) (he:has=true->immE op n v=0) (hb:Bl r):restR (P++(fldB has (numB op v)++r)) n op has ⟨P.length,0,b⟩=(v,⟨(P++fldB has (numB op v)).length,0,b⟩):=by
 unfold restR fldB
 cases has with
 | false=>
  grind
 | true=>
  rw [if_pos rfl,if_pos rfl]
  unfold immR
  show (match zfk (P++32::(numB op v++r)) ⟨P.length,0,b⟩ with | (none,s')=>(0,s') | (some (w,f),s')=>(match immOf op w with | none=>(0,⟨s'.pos,4,f⟩) | some v=>if immE op n v=0 then (v,s') else (0,⟨s'.pos,immE op n v,f⟩)))=_
  rw [zhd1 (zra2 (zjr2 op v)) hb]
  show (match immOf op (numB op v) with | none=>_ | some v=>_)=_
  rw [zjq2 hv]
  grind
theorem zve1 {l:List UInt8} {s:RS} {has:Bool} {op n:Int} (h:s.e≠0):(restR l n op has s).2=s:=by
 unfold restR
 split
 ·unfold immR
  rw [zoz1 h]
 ·rfl
theorem zem2 {P r:List UInt8} {b:Nat} {has:Bool} {op n:Int} (hb:Bl r) (h:(restR (P++r) n op has ⟨P.length,0,b⟩).2.e=0):
  ∃r' v,Bl r'/\restR (P++r) n op has ⟨P.length,0,b⟩=(v,⟨(P++fldB has (numB op v)).length,0,b⟩)/\r=fldB has (numB op v)++r'/\InI v/\(has=false->v=0)/\(has=true->immE op n v=0):=by
 cases has with
 | false=>exact ⟨r,0,hb,by simp [restR,fldB],rfl,by unfold InI;omega,fun _=>rfl,fun e=>by cases e⟩
 | true=>
  by_cases h0:r=[]
  ·subst h0
   have e:restR (P++ []) n op true ⟨P.length,0,b⟩=(0,⟨P.length,5,P.length⟩):=by
    unfold restR immR
    rw [if_pos rfl,List.append_nil,zoy1]
   grind
  ·obtain ⟨F,r',rfl,hF,hb'⟩:=hb.cut h0
   have e:restR (P++32::(F++r')) n op true ⟨P.length,0,b⟩=(match immOf op F with | none=>(0,⟨(P++32::F).length,4,P.length+1⟩) | some v=>if immE op n v=0 then (v,⟨(P++32::F).length,0,b⟩) else (0,⟨(P++32::F).length,immE op n v,P.length+1⟩)):=by
    unfold restR immR
    rw [if_pos rfl,zhd1 hF hb']
   rw [e] at h ⊢
   cases hq:immOf op F with
   | none=>
    grind
   | some v=>
    rw [hq] at h
    obtain ⟨hw,hi⟩:=zel2 hq
    have he:immE op n v=0:=by
     grind
    refine ⟨r',v,hb',?_,?_,hi,fun e=>(by cases e),fun _=>he⟩
    ·show (if immE op n v=0 then ((v,⟨(P++32::F).length,0,b⟩):Int×RS) else _)=_
     rw [if_pos he,<-hw]
     rfl
    ·rw [<-hw]
     rfl
theorem wrong_right {x:PIns} {n:Int}:(zrs x n 8).1=0↔(0<=x.op/\x.op<34)/\regP (zam x.op).1 x.a=0/\regP (zam x.op).2.1 x.b=0/\regP (zam x.op).2.2.1 x.c=0/\((zam x.op).2.2.2=false->x.imm=0)/\immE x.op n x.imm=0:=by
 unfold zrs immE
 grind
theorem Bl.fld {has:Bool} {w r:List UInt8} (hb:Bl r):Bl (fldB has w++r):=by
 cases has with
 | false=>exact hb
 | true=>exact .inr ⟨w++r,rfl⟩
theorem Bl.nil :Bl []:=.inl rfl
theorem zjs2 {k:Nat} (hk:k<34):∀c∈wordL k,c≠32:=by
 intro c hc e
 have:=(zjn2 k hk c hc).1
 rw [e] at this
 grind
theorem zmk1 {x:PIns} {n:Int} (hw:(zrs x n 8).1=0) (hi:InI x.imm):insR (lineB x) n=(x,⟨(lineB x).length,0,0⟩):=by
 obtain ⟨⟨h0,h1⟩,ha,hb,hc,hf,he⟩:=wrong_right.1 hw
 obtain ⟨op,a,b,c,imm⟩:=x
 obtain ⟨k,rfl⟩:∃k:Nat,op=k:=⟨op.toNat,by simp only at h0;omega⟩
 simp only at h0 h1 ha hb hc hf he hi
 have hk:k<34:=by omega
 unfold lineB
 simp only [Int.toNat_natCast]
 generalize hF:zam (k:Int)=f at*
 have bD:Bl (fldB f.2.2.2 (numB (k:Int) imm)):=by
  have:=Bl.fld (has:=f.2.2.2) (w:=numB (k:Int) imm) Bl.nil
  rwa [List.append_nil] at this
 have bC:=bD.fld (has:=f.2.2.1) (w:=regB c)
 have bB':=bC.fld (has:=f.2.1) (w:=regB b)
 have bA:=bB'.fld (has:=f.1) (w:=regB a)
 have e0:zbv (wordL k++(fldB f.1 (regB a)++(fldB f.2.1 (regB b)++(fldB f.2.2.1 (regB c)++fldB f.2.2.2 (numB (k:Int) imm))))) 0=wordL k:=by
  unfold zbv
  rw [List.drop_zero]
  exact zva1 (zjs2 hk) bA
 have e1:=zyn1 (P:=wordL k) (b:=0) ha bB'
 have e2:=zyn1 (P:=wordL k++fldB f.1 (regB a)) (b:=0) hb bC
 have e3:=zyn1 (P:=(wordL k++fldB f.1 (regB a))++fldB f.2.1 (regB b)) (b:=0) hc bD
 have e4:=zng2 (P:=((wordL k++fldB f.1 (regB a))++fldB f.2.1 (regB b))++fldB f.2.2.1 (regB c)) (r:=[]) (b:=0) (op:=k) (n:=n) hf hi (fun _=>he) Bl.nil
 rw [List.append_nil] at e4
 simp only [List.append_assoc] at e1 e2 e3 e4
 unfold insR
 rw [e0,zmh1 hk]
 simp only [hF,e1,e2,e3,e4]
 unfold endR
 simp
theorem zml1 {s:RS} {e:Int} {n:Nat} (he:e≠0):(giveR s e n).e≠0:=by
 unfold giveR
 grind
theorem zvf1 {l:List UInt8} {n:Int} (h:(insR l n).2.e=0):l=lineB (insR l n).1/\(zrs (insR l n).1 n 8).1=0/\InI (insR l n).1.imm:=by
 cases hq:opOf (zbv l 0) with
 | none=>
  unfold insR at h
  grind
 | some k=>
  obtain ⟨hk,hw⟩:=zvd1 hq
  have hl:l=wordL k++l.dropWhile (· !=32):=by
   rw [<-hw]
   unfold zbv
   simp
  have bA:=zvb1 l
  have e:insR l n=(let f:=zam (k:Int)
   let p1:=regR l ⟨(wordL k).length,0,0⟩ f.1
   let p2:=regR l p1.2 f.2.1
   let p3:=regR l p2.2 f.2.2.1
   let p4:=restR l n (k:Int) f.2.2.2 p3.2
   (⟨(k:Int),p1.1,p2.1,p3.1,p4.1⟩,endR l p4.2)):=by
   unfold insR
   rw [hq,hw]
  generalize l.dropWhile (· !=32)=r at hl bA
  simp only at e
  generalize hF:zam (k:Int)=f at e
  generalize hp1:regR l ⟨(wordL k).length,0,0⟩ f.1=p1 at e
  generalize hp2:regR l p1.2 f.2.1=p2 at e
  generalize hp3:regR l p2.2 f.2.2.1=p3 at e
  generalize hp4:restR l n (k:Int) f.2.2.2 p3.2=p4 at e
  rw [e] at h ⊢
  simp only at h ⊢
  have c5:p4.2.e=0/\¬p4.2.pos<l.length:=by
   unfold endR at h
   split at h
   ·exact absurd h (zml1 (by decide))
   omega
  have c3:p3.2.e=0:=Classical.byContradiction fun hn=>hn (by rw [<-hp4,zve1 hn] at c5;exact c5.1)
  have c2:p2.2.e=0:=Classical.byContradiction fun hn=>hn (by rw [<-hp3,zkb1 hn] at c3;exact c3)
  have c1:p1.2.e=0:=Classical.byContradiction fun hn=>hn (by rw [<-hp2,zkb1 hn] at c2;exact c2)
  obtain ⟨r1,b1,x1,y1,z1⟩:=zmj1 (P:=wordL k) (b:=0) (has:=f.1) bA (by grind)
  rw [<-hl,hp1] at x1 y1 z1
  subst x1
  rw [<-List.append_assoc] at hl
  rw [y1] at hp2
  obtain ⟨r2,b2,x2,y2,z2⟩:=zmj1 (P:=wordL k++fldB f.1 (regB p1.1)) (b:=0) (has:=f.2.1) b1 (by grind)
  rw [<-hl,hp2] at x2 y2 z2
  subst x2
  rw [<-List.append_assoc] at hl
  rw [y2] at hp3
  obtain ⟨r3,b3,x3,y3,z3⟩:=zmj1 (P:=(wordL k++fldB f.1 (regB p1.1))++fldB f.2.1 (regB p2.1)) (b:=0) (has:=f.2.2.1) b2 (by grind)
  rw [<-hl,hp3] at x3 y3 z3
  subst x3
  rw [<-List.append_assoc] at hl
  rw [y3] at hp4
  obtain ⟨r4,v,b4,x4,y4,z4,z5,z6⟩:=zem2 (P:=((wordL k++fldB f.1 (regB p1.1))++fldB f.2.1 (regB p2.1))++fldB f.2.2.1 (regB p3.1)) (b:=0) (has:=f.2.2.2) (op:=k) (n:=n) b3 (by grind)
  rw [<-hl,hp4] at x4
  subst y4
  rw [<-List.append_assoc] at hl
  have hr:r4=[]:=by
   have:=c5.2
   rw [x4] at this
   have e2:=congrArg List.length hl
   rw [List.length_append] at e2
   simp only at this
   exact List.length_eq_zero_iff.1 (by omega)
  subst hr
  rw [List.append_nil] at hl
  rw [x4]
  refine ⟨?_,wrong_right.2 ⟨⟨by simp,by grind⟩,by grind,by grind,by grind,by grind,?_⟩,z4⟩
  ·rw [hl]
   unfold lineB
   grind
  ·show immE (k:Int) n v=0
   cases h4:f.2.2.2 with
   | true=>exact z6 h4
   | false=>
    rw [z5 h4]
    have:f=zam (k:Int):=hF.symm
    unfold immE
    rw [if_neg,if_neg]
    ·omega
    ·rintro ⟨o, -⟩
     rw [this] at h4
     rcases o with o | o<;>rw [o] at h4<;>exact absurd h4 (by decide)
theorem zry1 {has:Bool} {w:List UInt8} (h:∀c∈w,45<=c.toNat):∀c∈fldB has w,32<=c.toNat:=by
 intro c hc
 unfold fldB at hc
 split at hc
 ·rcases List.mem_cons.1 hc with rfl | hc
  ·decide
  grind
 ·cases hc
theorem zyo1 (n:Int):∀c∈regB n,45<=c.toNat:=by
 intro c hc
 unfold regB at hc
 rcases List.mem_cons.1 hc with rfl | hc
 ·decide
 ·exact (zym1 n c hc).1
theorem znh2 {x:PIns} (h:0<=x.op/\x.op<34):∀c∈lineB x,32<=c.toNat:=by
 intro c hc
 unfold lineB at hc
 simp only [List.mem_append] at hc
 rcases hc with hc | hc | hc | hc | hc
 ·have:=(zjn2 _ (by omega) c hc).1;omega
 ·exact zry1 (zyo1 _) c hc
 ·exact zry1 (zyo1 _) c hc
 ·exact zry1 (zyo1 _) c hc
 ·exact zry1 (fun c h=>(zjr2 _ _ c h).1) c hc
theorem zvg1 {x:PIns} (h:0<=x.op/\x.op<34):∀c∈lineB x,c≠10:=by
 intro c hc e
 have:=znh2 h c hc
 rw [e] at this
 grind
def zbt2 (n:Int) (l:List PIns):Prop:=∀x∈l,(zrs x n 8).1=0/\InI x.imm
theorem zbu2 {n:Int}:∀(l:List PIns) (i:Int),(codeR n 8 l i).1=0↔∀x∈l,(zrs x n 8).1=0
 | [],_=>⟨fun _ x hx=>(by cases hx),fun _=>rfl⟩
 | x::l,i=>by
  unfold codeR
  split
  ·grind
  ·rename_i h
   have h:=Classical.not_not.1 h
   rw [zbu2 l (i+1)]
   grind
theorem codeP_ok {l:List PIns}:(codeP l 8).1=0↔l.length<=256/\∀x∈l,(zrs x l.length 8).1=0:=by
 unfold codeP
 rw [if_neg (by decide)]
 split
 ·omega
 ·rename_i h
  rw [zbu2]
  grind
theorem zmi (x:PIns) (l:List PIns):progB (x::l)=lineB x++10::progB l:=by
 unfold progB
 simp
theorem zen2 {s:List UInt8} (h:∀c∈s,c≠10):s.count 10=0:=List.count_eq_zero.2 fun hc=>h _ hc rfl
theorem zij1 :∀(l:List PIns),(∀x∈l,0<=x.op/\x.op<34)->(progB l).count 10=l.length
 | [],_=>rfl
 | x::l,h=>by
  rw [zmi,List.count_append,List.count_cons,zen2 (zvg1 (h x (List.mem_cons_self ..))),zij1 l fun y hy=>h y (List.mem_cons_of_mem _ hy)]
  simp
theorem zjt2 {F r:List UInt8} (hF:∀c∈F,c≠10):(F++10::r).takeWhile (· !=10)=F:=by
 rw [List.takeWhile_append_of_pos (fun c hc=>bne_iff_ne.2 (hF c hc))]
 simp
theorem zmm1 {n:Int}:∀(l:List PIns) (acc:List PIns) (i:Int) (k:Nat),zbt2 n l->i+l.length<=257->(progB l).length<k->zjh n k (progB l) i acc=(acc++l,0,0,0)
 | [],acc,i,k+1,_,_,_=>by
  unfold zjh
  rw [List.append_nil]
  exact if_pos rfl
 | x::l,acc,i,k+1,hr,hi,hk=>by
  obtain ⟨hw,hx⟩:=hr x (List.mem_cons_self ..)
  have hop:=(wrong_right.1 hw).1
  rw [zmi] at hk ⊢
  rw [List.length_append,List.length_cons] at hk
  rw [List.length_cons] at hi
  unfold zjh
  rw [if_neg (by simp),if_neg (by omega)]
  simp only [zjt2 (zvg1 hop)]
  rw [zmk1 hw hx]
  have e:(lineB x++10::progB l).drop ((lineB x).length+1)=progB l:=by
   simp
  have c1:¬(lineB x).length=(lineB x++10::progB l).length:=by simp
  simp only [if_neg c1]
  rw [if_neg (by simp),e,zmm1 l (acc++ [x]) (i+1) k (fun y hy=>hr y (List.mem_cons_of_mem _ hy)) (by omega) (by omega),List.append_assoc]
  rfl
theorem zyp1 {l:List PIns} (h:(codeP l 8).1=0) (hi:∀x∈l,InI x.imm):zia (progB l)=(l,0,0,0):=by
 obtain ⟨h1,h2⟩:=codeP_ok.1 h
 unfold zia
 rw [zij1 l fun x hx=>(wrong_right.1 (h2 x hx)).1]
 rw [zmm1 l [] 1 _ (fun x hx=>⟨h2 x hx,hi x hx⟩) (by omega) (Nat.lt_succ_self _)]
 rfl
theorem zni2 (r:List UInt8) (h:(r.takeWhile (· !=10)).length≠r.length):r=r.takeWhile (· !=10)++10::r.drop ((r.takeWhile (· !=10)).length+1):=by
 induction r with
 | nil=>exact absurd rfl h
 | cons c r ih=>
  rw [List.takeWhile_cons] at h ⊢
  grind
theorem zmn1 {n:Int}:∀(k:Nat) (r:List UInt8) (i:Int) (acc:List PIns),r.length<k->i<=257->(zjh n k r i acc).2.1=0->(zjh n k r i acc).2.2=(0,0)/\∃l,(zjh n k r i acc).1=acc++l/\r=progB l/\zbt2 n l/\i+l.length<=257
 | k+1,r,i,acc,hk,hi,h=>by
  unfold zjh at h ⊢
  by_cases h0:r=[]
  ·subst h0
   rw [if_pos rfl]
   exact ⟨rfl,[],by simp,rfl,(fun x hx=>by cases hx),by simpa using hi⟩
  rw [if_neg h0] at h ⊢
  by_cases h1:256<i
  ·grind
  rw [if_neg h1] at h ⊢
  simp only at h ⊢
  by_cases h2:(r.takeWhile (· !=10)).length=r.length
  ·rw [if_pos h2] at h
   rw [if_pos (zml1 (by decide))] at h
   exact absurd h (zml1 (by decide))
  rw [if_neg h2] at h ⊢
  by_cases h3:(insR (r.takeWhile (· !=10)) n).2.e≠0
  ·grind
  rw [if_neg h3] at h ⊢
  obtain ⟨b1,b2,b3⟩:=zvf1 (Classical.not_not.1 h3)
  have hc:=zni2 r h2
  have hl:(r.drop ((r.takeWhile (· !=10)).length+1)).length<k:=by
   grind
  obtain ⟨e1,l,e2,e3,e4,e5⟩:=zmn1 k _ (i+1) _ hl (by omega) h
  refine ⟨e1,(insR (r.takeWhile (· !=10)) n).1::l,?_,?_,?_,by grind⟩
  ·grind
  ·rw [zmi,<-b1,<-e3]
   exact hc
  ·intro y hy
   rcases List.mem_cons.1 hy with rfl | hy
   ·exact ⟨b2,b3⟩
   ·exact e4 y hy
theorem zyq1 {t:List UInt8} (h:(zia t).2.1=0):(zia t).2.2=(0,0)/\t=progB (zia t).1/\(codeP (zia t).1 8).1=0/\∀x∈(zia t).1,InI x.imm:=by
 unfold zia at h ⊢
 obtain ⟨e1,l,e2,e3,e4,e5⟩:=zmn1 _ _ _ _ (Nat.lt_succ_self _) (by decide) h
 rw [List.nil_append] at e2
 rw [e2]
 have hc:t.count 10=l.length:=by
  rw [e3]
  exact zij1 l fun x hx=>(wrong_right.1 (e4 x hx).1).1
 rw [hc] at e4
 exact ⟨e1,e3,codeP_ok.2 ⟨by omega,fun x hx=>(e4 x hx).1⟩,fun x hx=>(e4 x hx).2⟩
theorem zob (l:List UInt8) (n:Nat):(zbv l n).length<=l.length-n:=by
 unfold zbv
 have:=(List.takeWhile_prefix (p:=(· !=32)) (l:=l.drop n)).length_le
 grind
def InR (l:List UInt8) (s:RS):Prop:=s.pos<=l.length/\s.bad<=l.length
theorem zvh1 {l:List UInt8} {s:RS} (h:InR l s):InR l (zfk l s).2/\∀w f,(zfk l s).1=some (w,f)->f<=l.length:=by
 unfold zfk
 split
 ·grind
 ·split
  ·exact ⟨⟨h.1,h.1⟩,fun _ _ e=>(by cases e)⟩
  ·rename_i hn
   have h1:=h.1
   have h2:=zob l (s.pos+1)
   refine ⟨⟨?_,h.2⟩,fun w f e=> ?_⟩
   ·show s.pos+1+_<=_
    omega
   grind
theorem zzy {l:List UInt8} {s:RS} {has:Bool} (h:InR l s):InR l (regR l s has).2:=by
 unfold regR
 split
 ·exact h
 ·obtain ⟨h1,h2⟩:=zvh1 h
  cases hq:zfk l s with
  | mk o s'=>
   rw [hq] at h1 h2
   cases o with
   | none=>exact h1
   | some p=>
    obtain ⟨w,f⟩:=p
    show InR l (match regOf w with | some n=>((n:Int),s') | none=>((0:Int),(⟨s'.pos,10,f⟩:RS))).2
    cases regOf w with
    | none=>exact ⟨h1.1,h2 w f rfl⟩
    | some n=>exact h1
theorem zbv2 {l:List UInt8} {s:RS} {has:Bool} {n op:Int} (h:InR l s):InR l (restR l n op has s).2:=by
 unfold restR
 split
 ·unfold immR
  obtain ⟨h1,h2⟩:=zvh1 h
  cases hq:zfk l s with
  | mk o s'=>
   rw [hq] at h1 h2
   cases o with
   | none=>exact h1
   | some p=>
    obtain ⟨w,f⟩:=p
    show InR l (match immOf op w with | none=>((0:Int),(⟨s'.pos,4,f⟩:RS)) | some v=>if immE op n v=0 then (v,s') else (0,⟨s'.pos,immE op n v,f⟩)).2
    cases immOf op w with
    | none=>exact ⟨h1.1,h2 w f rfl⟩
    | some v=>
     show InR l (if immE op n v=0 then (v,s') else ((0:Int),(⟨s'.pos,immE op n v,f⟩:RS))).2
     split
     ·exact h1
     ·exact ⟨h1.1,h2 w f rfl⟩
 ·exact h
theorem zbw2 {l:List UInt8} {s:RS} {e:Int} {n:Nat} (h:InR l s) (hn:n<=l.length):InR l (giveR s e n):=by
 unfold giveR
 split
 ·exact ⟨h.1,hn⟩
 ·exact h
theorem zju2 {l:List UInt8} {n:Int}:InR l (insR l n).2:=by
 unfold insR
 split
 ·exact ⟨Nat.zero_le _,Nat.zero_le _⟩
 ·rename_i k hk
  have h0:InR l ⟨(zbv l 0).length,0,0⟩:=⟨by have:=zob l 0;omega,Nat.zero_le _⟩
  have h4:=zbv2 (n:=n) (op:=(k:Int)) (has:=(zam (k:Int)).2.2.2) (zzy (has:=(zam (k:Int)).2.2.1) (zzy (has:=(zam (k:Int)).2.1) (zzy (has:=(zam (k:Int)).1) h0)))
  simp only
  unfold endR
  split
  ·exact zbw2 h4 h4.1
  ·exact h4
theorem zpa1 {n:Int} {N:Nat}:∀(k:Nat) (r:List UInt8) (i:Int) (acc:List PIns),1<=i->r.length<=N->(zjh n k r i acc).2.1≠0->(zjh n k r i acc).1=[]/\1<=(zjh n k r i acc).2.2.1/\0<=(zjh n k r i acc).2.2.2/\(zjh n k r i acc).2.2.2<=(N:Int)
 | 0,r,i,acc,_,_,h=>absurd rfl h
 | k+1,r,i,acc,hi,hr,h=>by
  unfold zjh at h ⊢
  by_cases h0:r=[]
  ·grind
  rw [if_neg h0] at h ⊢
  by_cases h1:256<i
  ·grind
  rw [if_neg h1] at h ⊢
  simp only at h ⊢
  have hp:=(List.takeWhile_prefix (p:=(· !=10)) (l:=r)).length_le
  have hin:InR (r.takeWhile (· !=10)) (if (r.takeWhile (· !=10)).length=r.length then giveR (insR (r.takeWhile (· !=10)) n).2 5 (r.takeWhile (· !=10)).length else (insR (r.takeWhile (· !=10)) n).2):=by
   split
   ·exact zbw2 zju2 (Nat.le_refl _)
   ·exact zju2
  generalize (if (r.takeWhile (· !=10)).length=r.length then giveR (insR (r.takeWhile (· !=10)) n).2 5 (r.takeWhile (· !=10)).length else (insR (r.takeWhile (· !=10)) n).2)=st at*
  by_cases h3:st.e≠0
  ·rw [if_pos h3]
   have:=hin.2
   grind
  ·rw [if_neg h3] at h ⊢
   exact zpa1 k _ _ _ (by omega) (by grind) h
theorem zeo2 {t:List UInt8} (h:(zia t).2.1≠0):(zia t).1=[]/\1<=(zia t).2.2.1/\0<=(zia t).2.2.2/\(zia t).2.2.2<=(t.length:Int):=zpa1 _ _ _ _ (by decide) (Nat.le_refl _) h
end Lf
namespace Go.Proofs
open Go.Shelf
def Tryz.laysC247_ren :Go.Shelf.Ren:=⟨fun | 247=>98 | 287=>63 | 321=>107 | 322=>108 | n=>n,fun | 9=>9 | 3=>3 | 2=>2 | 75=>56 | 4=>4 | 167=>122 | 5=>5 | 53=>51 | 175=>62 | 46=>67 | 37=>74 | 0=>0 | 21=>21 | 80=>78 | n=>n,fun | n=>n⟩
theorem Tryz.laysC247 :Go.Proofs.LaysC.n247 Tryz.prog Tryz.laysC247_ren:={
 mixed:=by kernel_rfl
 f247:=Tryz.func98.trans (congrArg some (by kernel_rfl))
 f287:=Tryz.func63.trans (congrArg some (by kernel_rfl))
 f321:=Tryz.func107.trans (congrArg some (by kernel_rfl))
 f322:=Tryz.func108.trans (congrArg some (by kernel_rfl))
 t0:=Tryz.underlying0
 a0:=Tryz.isAgg0
 z0:=Tryz.sizeOf0
 v0:=Tryz.zeroValue0
 t2:=Tryz.underlying2
 a2:=Tryz.isAgg2
 z2:=Tryz.sizeOf2
 v2:=Tryz.zeroValue2
 t3:=Tryz.underlying3
 a3:=Tryz.isAgg3
 z3:=Tryz.sizeOf3
 v3:=Tryz.zeroValue3
 t4:=Tryz.underlying4
 a4:=Tryz.isAgg4
 z4:=Tryz.sizeOf4
 v4:=Tryz.zeroValue4
 t5:=Tryz.underlying5
 a5:=Tryz.isAgg5
 z5:=Tryz.sizeOf5
 v5:=Tryz.zeroValue5
 t9:=Tryz.underlying9
 a9:=Tryz.isAgg9
 z9:=Tryz.sizeOf9
 v9:=Tryz.zeroValue9
 t21:=Tryz.underlying21
 a21:=Tryz.isAgg21
 z21:=Tryz.sizeOf21
 v21:=Tryz.zeroValue21
 t37:=Tryz.underlying74
 a37:=Tryz.isAgg74
 z37:=Tryz.sizeOf74
 v37:=Tryz.zeroValue74
 t46:=Tryz.underlying67
 a46:=Tryz.isAgg67
 z46:=Tryz.sizeOf67
 v46:=Tryz.zeroValue67
 t53:=Tryz.underlying51
 a53:=Tryz.isAgg51
 z53:=Tryz.sizeOf51
 v53:=Tryz.zeroValue51
 t75:=Tryz.underlying56
 a75:=Tryz.isAgg56
 z75:=Tryz.sizeOf56
 v75:=Tryz.zeroValue56
 t167:=Tryz.underlying122
 a167:=Tryz.isAgg122
 z167:=Tryz.sizeOf122
 v167:=Tryz.zeroValue122
 t175:=Tryz.underlying62
 a175:=Tryz.isAgg62
 z175:=Tryz.sizeOf62
 v175:=Tryz.zeroValue62
 t80:=Tryz.underlying78
 a80:=Tryz.isAgg78
 z80:=Tryz.sizeOf78
 v80:=Tryz.zeroValue78
 i0:=by kernel_rfl
 i2:=by kernel_rfl
 i3:=by kernel_rfl
 i4:=by kernel_rfl
 i5:=by kernel_rfl
 i9:=by kernel_rfl
 i21:=by kernel_rfl
 i37:=by kernel_rfl
 i46:=by kernel_rfl
 i53:=by kernel_rfl
 i75:=by kernel_rfl
 i80:=by kernel_rfl
 i167:=by kernel_rfl
 i175:=by kernel_rfl
 c0:=by kernel_rfl
 c2:=by kernel_rfl
 c3:=by kernel_rfl
 c4:=by kernel_rfl
 c5:=by kernel_rfl
 c9:=by kernel_rfl
 c21:=by kernel_rfl
 c37:=by kernel_rfl
 c46:=by kernel_rfl
 c53:=by kernel_rfl
 c75:=by kernel_rfl
 c80:=by kernel_rfl
 c167:=by kernel_rfl
 c175:=by kernel_rfl}
open Go.RowKit in
theorem Tryz.internal_strconv_ParseInt_10_all64 (s:ByteArray) (hmax:s.size<=9223372036854775806) (w:World):
  Calls Tryz.prog 98 #[.string s,.int .i64 10,.int .i64 64] w fun e w'=>e=.returned (Lib.intTuple 122 (Lib.intSat 64 s.data.toList) (Lib.parseIntB 64 s.data.toList))/\(w'=w\/∃t,w'=Lib.bytesWorld w 5 t):=Any.internal_strconv_ParseInt_10_all64 Tryz.laysC247 s hmax w
def Tryz.lays144_ren :Go.Shelf.Ren:=⟨fun | 144=>115 | 143=>80 | 219=>95 | 217=>131 | 225=>132 | 224=>133 | 267=>134 | 266=>165 | 314=>166 | n=>n,fun | 9=>9 | 4=>4 | 3=>3 | 5=>5 | 46=>67 | 146=>149 | 51=>148 | n=>n,fun | 1=>1 | n=>n⟩
theorem Tryz.lays144 :Go.Proofs.Lays.n144 Tryz.prog Tryz.lays144_ren:={
 mixed:=by kernel_rfl
 f143:=Tryz.func80.trans (congrArg some (by kernel_rfl))
 f144:=Tryz.func115.trans (congrArg some (by kernel_rfl))
 f217:=Tryz.func131.trans (congrArg some (by kernel_rfl))
 f219:=Tryz.func95.trans (congrArg some (by kernel_rfl))
 f224:=Tryz.func133.trans (congrArg some (by kernel_rfl))
 f225:=Tryz.func132.trans (congrArg some (by kernel_rfl))
 f266:=Tryz.func165.trans (congrArg some (by kernel_rfl))
 f267:=Tryz.func134.trans (congrArg some (by kernel_rfl))
 f314:=Tryz.func166.trans (congrArg some (by kernel_rfl))
 t3:=Tryz.underlying3
 a3:=Tryz.isAgg3
 z3:=Tryz.sizeOf3
 v3:=Tryz.zeroValue3
 t4:=Tryz.underlying4
 a4:=Tryz.isAgg4
 z4:=Tryz.sizeOf4
 v4:=Tryz.zeroValue4
 t5:=Tryz.underlying5
 a5:=Tryz.isAgg5
 z5:=Tryz.sizeOf5
 v5:=Tryz.zeroValue5
 t9:=Tryz.underlying9
 a9:=Tryz.isAgg9
 z9:=Tryz.sizeOf9
 v9:=Tryz.zeroValue9
 t46:=Tryz.underlying67
 a46:=Tryz.isAgg67
 z46:=Tryz.sizeOf67
 v46:=Tryz.zeroValue67
 t51:=Tryz.underlying148
 a51:=Tryz.isAgg148
 z51:=Tryz.sizeOf148
 v51:=Tryz.zeroValue148
 t146:=Tryz.underlying149
 a146:=Tryz.isAgg149
 z146:=Tryz.sizeOf149
 v146:=Tryz.zeroValue149
 g1:=by kernel_rfl}
open Go.RowKit Go.Lib in
theorem Tryz.strings_Contains_one (s:ByteArray) (c:UInt8) (w:World):
  Calls Tryz.prog 115 #[.string s,.string ⟨#[c]⟩] w fun e w'=>e=.returned (.bool (decide (0<=Lib.indexByte s.data.toList c)))/\w'=w:=Any.strings_Contains_one Tryz.lays144 s c w
def Tryz.lays138_ren :Go.Shelf.Ren:=⟨fun | 138=>47 | 195=>78 | 218=>79 | 143=>80 | 219=>95 | 217=>131 | 225=>132 | 224=>133 | 267=>134 | 266=>165 | 314=>166 | n=>n,fun | 9=>9 | 3=>3 | 4=>4 | 5=>5 | 0=>0 | 46=>67 | 146=>149 | 51=>148 | n=>n,fun | 1=>1 | n=>n⟩
theorem Tryz.lays138 :Go.Proofs.Lays.n138 Tryz.prog Tryz.lays138_ren:={
 mixed:=by kernel_rfl
 f138:=Tryz.func47.trans (congrArg some (by kernel_rfl))
 f143:=Tryz.func80.trans (congrArg some (by kernel_rfl))
 f195:=Tryz.func78.trans (congrArg some (by kernel_rfl))
 f217:=Tryz.func131.trans (congrArg some (by kernel_rfl))
 f218:=Tryz.func79.trans (congrArg some (by kernel_rfl))
 f219:=Tryz.func95.trans (congrArg some (by kernel_rfl))
 f224:=Tryz.func133.trans (congrArg some (by kernel_rfl))
 f225:=Tryz.func132.trans (congrArg some (by kernel_rfl))
 f266:=Tryz.func165.trans (congrArg some (by kernel_rfl))
 f267:=Tryz.func134.trans (congrArg some (by kernel_rfl))
 f314:=Tryz.func166.trans (congrArg some (by kernel_rfl))
 t0:=Tryz.underlying0
 a0:=Tryz.isAgg0
 z0:=Tryz.sizeOf0
 v0:=Tryz.zeroValue0
 t3:=Tryz.underlying3
 a3:=Tryz.isAgg3
 z3:=Tryz.sizeOf3
 v3:=Tryz.zeroValue3
 t4:=Tryz.underlying4
 a4:=Tryz.isAgg4
 z4:=Tryz.sizeOf4
 v4:=Tryz.zeroValue4
 t5:=Tryz.underlying5
 a5:=Tryz.isAgg5
 z5:=Tryz.sizeOf5
 v5:=Tryz.zeroValue5
 t9:=Tryz.underlying9
 a9:=Tryz.isAgg9
 z9:=Tryz.sizeOf9
 v9:=Tryz.zeroValue9
 t46:=Tryz.underlying67
 a46:=Tryz.isAgg67
 z46:=Tryz.sizeOf67
 v46:=Tryz.zeroValue67
 t51:=Tryz.underlying148
 a51:=Tryz.isAgg148
 z51:=Tryz.sizeOf148
 v51:=Tryz.zeroValue148
 t146:=Tryz.underlying149
 a146:=Tryz.isAgg149
 z146:=Tryz.sizeOf149
 v146:=Tryz.zeroValue149
 g1:=by kernel_rfl}
open Go.RowKit Go.Lib in
theorem Tryz.strings_Count_one (s:ByteArray) (c:UInt8) (w:World):
  Calls Tryz.prog 47 #[.string s,.string ⟨#[c]⟩] w fun e w'=>e=.returned (.int .i64 (Lib.countByte s.data.toList c))/\w'=w:=Any.strings_Count_one Tryz.lays138 s c w
end Go.Proofs
namespace Lf
structure zsg2 where
 tick:Int
 proc:Int
 value:Int
structure zrb2 where
 proc:Int
 value:Int
structure PLane where
 values:List Int
 waiters:List zrb2
 taken:Int
 dropped:Int
structure znj2 where
 state:Int
 pc:Int
 regs:List Int
 cursor:Int
 timer:Int
 fired:Bool
 wake:Int
 lanes:List PLane
structure PPart where
 cursor:Int
 log:List zsg2
 lost:Int
 forbidden:Int
 owners:List Int
 queues:List (List Int)
structure zsh2 where
 tick:Int
 parts:List PPart
 procs:List znj2
section
variable (c:PCfg) (s:zsh2)
end
abbrev D (α:Type):Type:=List UInt8->Nat->Except (Int×Nat) (α×Nat)
namespace D
variable {α β:Type}
def ret (x:α):D α:=fun _ at_=>.ok (x,at_)
def bind (d:D α) (f:α->D β):D β:=fun b at_=>match d b at_ with
 | .ok (x,at2)=>f x b at2
 | .error e=>.error e
def must (d:D α) (wrong:α->Int):D α:=fun b at_=>match d b at_ with
 | .ok (x,at2)=>if wrong x=0 then .ok (x,at2) else .error (wrong x,at_)
 | .error e=>.error e
def many (d:List α->D α):Nat->List α->D (List α)
 | 0,acc=>ret acc
 | n+1,acc=>bind (d acc) fun x=>many d n (acc++ [x])
def map (f:α->β) (d:D α):D β:=bind d fun x=>ret (f x)
end D
end Lf
namespace Lf
namespace D
variable {α γ:Type}
end D
open D
def i64 (n:Nat):Int:=if n<9223372036854775808 then n else (n:Int)-18446744073709551616
end Lf
namespace Lf
abbrev By (k:Nat) (x:Int):Prop:=0<=x/\x<((256^k:Nat):Int)
def less (n:Int):Int:=n-1
end Lf
namespace Lf
open Go Go.Proofs Go.RowKit
theorem zpb1 {P:Program} {g:FuncId} {args:List Value} {sh:Shape} {K:sh.T->Hp->Prop} {h:Hp} {x:sh.T} (hc:∀w,Sub h w->Calls P g args.toArray w fun e w'=>e=.returned (sh.enc x)/\w'=w) (hk:K x h):CallT P g args sh K h:=by
 intro w hs
 refine (hc w hs).mono ?_
 rintro e w' ⟨rfl,rfl⟩
 exact ⟨_,h,rfl,⟨x,rfl,hk⟩,⟨hs,Nat.le_refl _,fun i hi hn=>⟨rfl,hn⟩,rfl,rfl,rfl⟩⟩
def hasC (s:ByteArray) (c:UInt8):Bool:=decide (0<=Lib.indexByte s.data.toList c)
theorem zyr1 {s:ByteArray} {c:UInt8} {K:Bool->Hp->Prop} {h:Hp} (hk:K (hasC s c) h):CallT Tryz.prog zvm [.string s,.string ⟨#[c]⟩] zae K h:=by
 refine zpb1 (x:=hasC s c) (fun w _=> ?_) hk
 exact Tryz.strings_Contains_one s c w
def insOf (x:S_api_Ins):PIns:=⟨x.Op,x.A,x.B,x.C,x.Imm⟩
def fieldTab :List (List UInt8):=[[],[97,105],[97,98],[97,98,99],[97,98,99],[97,98,99],[97,98,99],[97,98,99],[97,98,99],[97,98,99],[97,98,99],[97,98,99],[97,98,99],[97,98,99],[97,98,99],[97,98,99],[97,98,99],[97,98,99],[97,98,99],[97,98,99],[97,98],[97,98],[105],[97,105],[97,98,99],[97,98],[97,98],[97],[97],[105],[105],[97],[97],[97]]
def zmj (op:Int):ByteArray:=if 0<=op/\op<34 then ⟨(fieldTab.getD op.toNat []).toArray⟩ else ⟨#[]⟩
theorem zys1 :∀n,n<34->(decide (0<=Lib.indexByte (fieldTab.getD n []) 97),decide (0<=Lib.indexByte (fieldTab.getD n []) 98),decide (0<=Lib.indexByte (fieldTab.getD n []) 99),decide (0<=Lib.indexByte (fieldTab.getD n []) 105))=zam (n:Int):=by decide
theorem zep2 (op:Int):(hasC (zmj op) 97,hasC (zmj op) 98,hasC (zmj op) 99,hasC (zmj op) 105)=zam op:=by
 by_cases h:0<=op/\op<34
 ·have e:=zys1 op.toNat (by omega)
  rw [Int.toNat_of_nonneg h.1] at e
  rw [<-e]
  simp [hasC,zmj,h]
 ·have e1:zmj op=⟨#[]⟩:=if_neg h
  rw [e1]
  have e2:zam op=(false,false,false,false):=by
   unfold zam
   grind
  rw [e2]
  decide
theorem zrc2 :∀n,n<34->fieldTab[n]? =some (fieldTab.getD n []):=by decide
theorem zcz1 {α:Type} (l:List α) (i:Nat):List.get?Internal l i=l[i]?:=by
 simp
theorem zrz1 {op:Int} {Q:ByteArray->Hp->Prop} {h:Hp} (hq:Q (zmj op) h):zzc Tryz.prog op Q h:=by
 unfold zzc
 refine letW ?_
 by_cases h0:0<=op/\op<34
 ·rw [if_neg (by simp;omega)]
  refine ⟨h0,zmj op,?_,hq⟩
  have e:zmj op=⟨(fieldTab.getD op.toNat []).toArray⟩:=if_pos h0
  rw [zcz1,e]
  have e2:=zrc2 op.toNat (by omega)
  rw [Nat.mul_one]
  have e3:(fieldTab.map fun l=>Value.string ⟨l.toArray⟩)[op.toNat]? =some (Value.string ⟨(fieldTab.getD op.toNat []).toArray⟩):=by grind
  exact e3
 ·rw [if_pos (by simp;omega)]
  have e:zmj op=⟨#[]⟩:=if_neg h0
  grind
theorem zbx2 {P:Program} {g:FuncId} {first captured:Array Value} {args:List Value} {sh:Shape} {K:sh.T->Hp->Prop} {h:Hp} (hg:tb.call g=true) (hc:CallT P g (first.toList++args++captured.toList) sh K h):CallV P tb (.func (.func g) first captured) args sh K h:=
 ⟨g,first,captured,rfl,hg,hc⟩
theorem zzz {op:Int} {Q:Bool->Bool->Bool->Bool->Hp->Prop} {h:Hp} (hq:∀h',h<=h'->Q (zam op).1 (zam op).2.1 (zam op).2.2.1 (zam op).2.2.2 h'):zza Tryz.prog op Q h:=by
 unfold zza
 refine zji1 (zrz1 ?_)
 intro b t hn
 refine zpz1 (b:=b) (off:=0) (cs:=[.string ⟨#[]⟩]) ⟨t,zdu⟩ (by simp) fun h3 hm hb=> ?_
 have hle:h<=h3:=(((Mv.new hn).trans hm).le (Hp.le_refl h) (by simp)).1
 have hl:LdIs h3 ⟨b,0,none⟩ [.string (zmj op)]:=hb.ldIs (n:=1) (by rfl)
 have one:∀(c:UInt8) (K:Bool->Hp->Prop),K (hasC (zmj op) c) h3->CallV Tryz.prog tb (.func (.func zbr1) #[] #[.pointer (some ⟨b,0,none⟩)]) [.string ⟨#[c]⟩] zae K h3:=fun c K hk=>by
  refine zbx2 rfl (zgn1 ?_)
  unfold zbv1
  refine ld_at (sh:=shStr) (zmj op) hl ?_
  exact zyr1 hk
 have e:=zep2 op
 grind
theorem zfo1 {P:Program} {has:Bool} {n:Int} {Q:Int->Hp->Prop} {h:Hp} (hq:Q (regP has n) h):zuf P has n Q h:=by
 unfold zuf
 refine letW ?_
 unfold regP at hq
 by_cases h1:has=false/\n≠0
 ·grind
 ·rw [if_neg h1] at hq
  rw [if_neg (by cases has<;>simp at h1 ⊢;exact h1)]
  refine letW ?_
  grind
theorem zjv2 {P:Program} {x:S_api_Ins} {has:Bool} {n locks:Int} {Q:Int->Hp->Prop} {h:Hp}
  (hq:Q (if has=false/\x.Imm≠0 then 11 else if (x.Op=22\/x.Op=23)/\(x.Imm<0\/n<x.Imm) then 12 else if (x.Op=29\/x.Op=30)/\(x.Imm<0\/locks<=x.Imm) then 13 else 0) h):zzb P x has n locks Q h:=by
 unfold zzb
 refine letW ?_
 by_cases h1:has=false/\x.Imm≠0
 ·grind
 ·rw [if_neg h1] at hq
  rw [if_neg (by cases has<;>simp at h1 ⊢;exact h1)]
  refine letW ?_
  by_cases h2:x.Op=22\/x.Op=23
  ·rw [if_pos (by simp;exact h2)]
   refine letW ?_
   grind
  ·rw [if_neg (fun e=>h2 e.1)] at hq
   rw [if_neg (by simp;omega)]
   refine letW ?_
   by_cases h4:x.Op=29\/x.Op=30
   ·rw [if_pos (by simp;exact h4)]
    refine letW ?_
    grind
   grind
theorem znk2 {x:S_api_Ins} {n locks:Int} {Q:Int->Int->Hp->Prop} {h:Hp} (hq:∀h' at_,h<=h'->((zrs (insOf x) n locks).1≠0->at_=(zrs (insOf x) n locks).2)->Q (zrs (insOf x) n locks).1 at_ h'):zbt1 Tryz.prog x n locks Q h:=by
 unfold zbt1
 refine letW ?_
 have le:=Hp.le_refl h
 rw [show zrs (insOf x) n locks=(if x.Op<0\/34<=x.Op then (9,0)
  else if regP (zam x.Op).1 x.A≠0 then (regP (zam x.Op).1 x.A,1)
  else if regP (zam x.Op).2.1 x.B≠0 then (regP (zam x.Op).2.1 x.B,2)
  else if regP (zam x.Op).2.2.1 x.C≠0 then (regP (zam x.Op).2.2.1 x.C,3)
  else if (zam x.Op).2.2.2=false/\x.Imm≠0 then (11,4)
  else if (x.Op=22\/x.Op=23)/\(x.Imm<0\/n<x.Imm) then (12,4)
  else if (x.Op=29\/x.Op=30)/\(x.Imm<0\/locks<=x.Imm) then (13,4)
  else (0,0)) from rfl] at hq
 by_cases h1:x.Op<0\/34<=x.Op
 ·grind
 ·rw [if_neg h1] at hq
  rw [if_neg (by simp;omega)]
  refine zsi (zzz fun h1 l1=> ?_)
  dsimp only
  refine zpf (zfo1 ?_)
  by_cases h2:regP (zam x.Op).1 x.A≠0
  ·grind
  ·rw [if_neg h2] at hq
   rw [if_neg (by simpa using h2)]
   refine zpf (zfo1 ?_)
   by_cases h3:regP (zam x.Op).2.1 x.B≠0
   ·grind
   ·rw [if_neg h3] at hq
    rw [if_neg (by simpa using h3)]
    refine zpf (zfo1 ?_)
    by_cases h4:regP (zam x.Op).2.2.1 x.C≠0
    ·grind
    ·rw [if_neg h4] at hq
     rw [if_neg (by simpa using h4)]
     refine zjh1 (zjv2 ?_)
     grind
theorem znl2 {x:S_api_Ins} {n locks:Int} {Q:Int->Hp->Prop} {h:Hp} (hq:∀h',h<=h'->Q (zrs (insOf x) n locks).1 h'):zbs1 Tryz.prog x n locks Q h:=by
 unfold zbs1
 exact zll1 (znk2 fun h' _ l _=>hq h' l)
abbrev InsS (h:Hp) (l:Sl) (xs:List S_api_Ins):Prop:=Rs h sh_api_Ins 5 l xs
theorem zeq2 {l:Sl} {xs:List S_api_Ins} {locks:Int} {Q:Int->Int->Hp->Prop} {h:Hp} (r:InsS h l xs) (hq:∀h',h<=h'->Q (codeP (xs.map insOf) locks).1 (codeP (xs.map insOf) locks).2 h'):zhp1 Tryz.prog l locks Q h:=by
 unfold zhp1
 have hlen:=r.1
 refine letW ?_
 unfold codeP at hq
 by_cases h1:locks<0\/8<locks
 ·rw [if_pos h1] at hq
  rw [if_pos (by simp;omega)]
  exact hq h (Hp.le_refl h)
 ·rw [if_neg h1,List.length_map] at hq
  rw [if_neg (by simp;omega)]
  by_cases h2:256<xs.length
  ·rw [if_pos h2] at hq
   rw [if_pos (by simp;omega)]
   exact hq h (Hp.le_refl h)
  ·rw [if_neg h2] at hq
   rw [if_neg (by simp;omega)]
   refine LoopW1.intro (fun i k=>h<=k/\0<=i/\i<=(xs.length:Int)/\codeR xs.length locks ((xs.drop i.toNat).map insOf) i=codeR xs.length locks (xs.map insOf) 0) (fun i _=>(xs.length-i).toNat) ⟨Hp.le_refl h,by omega,by omega,rfl⟩ ?_
   rintro i k ⟨hle,h0,hi,he⟩
   by_cases h3:i<(xs.length:Int)
   ·rw [if_pos (decide_eq_true (by omega))]
    refine Rs.get (sh:=sh_api_Ins) (Rw.mono hle r) (fun _=>rfl) (by omega) h0 h3 fun x hx=> ?_
    refine zlk1 (znl2 fun k' hle'=> ?_)
    have hd:xs.drop i.toNat=x::xs.drop (i.toNat+1):=by
     obtain ⟨hx1,hx2⟩:=List.getElem?_eq_some_iff.1 hx
     rw [<-hx2];simp
    rw [hd,List.map_cons,codeR] at he
    rw [hlen]
    by_cases h4:(zrs (insOf x) xs.length locks).1≠0
    ·rw [if_pos h4] at he
     rw [if_pos (by simpa using h4)]
     rw [<-he] at hq
     exact hq k' (Hp.le_trans hle hle')
    ·rw [if_neg h4] at he
     rw [if_neg (by simpa using h4)]
     have hw:IntKind.wrap .i64 (i+1)=i+1:=zab (by omega) (by omega)
     rw [hw]
     refine ⟨⟨Hp.le_trans hle hle',by omega,by omega,?_⟩,by omega⟩
     grind
   ·rw [if_neg (by simp;omega)]
    have hd:xs.drop i.toNat=[]:=List.drop_eq_nil_of_le (by omega)
    rw [hd] at he
    rw [<-he] at hq
    exact hq k hle
def txtB (l:List UInt8):ByteArray:=⟨l.toArray⟩
theorem zay (l:List UInt8):(txtB l).data.toList=l:=by simp [txtB]
theorem zsa1 (t:ByteArray):txtB t.data.toList=t:=by cases t;simp [txtB]
theorem zgc (t:ByteArray):t.data.toList.length=t.size:=by simp
theorem zjv (l:List UInt8):(txtB l).size=l.length:=by rw [<-zgc,zay]
theorem zyt1 {a b:ByteArray} (h:a.data.toList=b.data.toList):a=b:=by rw [<-zsa1 a,h,zsa1]
theorem zgm (t:ByteArray) (a b:Nat):t.extract a b=txtB ((t.data.toList.take b).drop a):=by
 apply zyt1
 rw [zay,ByteArray.data_extract,Array.toList_extract]
 show (t.data.toList.drop a).take (b-a)=_
 rw [List.drop_take]
theorem znm2 (xs:List Nat):strN xs=txtB (bB xs):=rfl
theorem txt_beq {a b:ByteArray}:((a.toList==b.toList)=true)↔a.data.toList=b.data.toList:=by
 rw [ByteArray.toList_eq,ByteArray.toList_eq]
 exact beq_iff_eq
theorem zyu1 {s:ByteArray} {i:Nat} (hi:i<s.data.toList.length):s[i]! =s.data.toList[i]:=by
 have hs:i<s.size:=by rw [<-zgc];exact hi
 rw [getElem!_pos s i hs]
 show s.data[i]=_
 simp
def hd (l:List UInt8) (c:UInt8):List UInt8:=l.takeWhile (· !=c)
theorem hd_le (l:List UInt8) (c:UInt8):(hd l c).length<=l.length:=(List.takeWhile_prefix (p:=(· !=c)) (l:=l)).length_le
theorem zjw2 (l:List UInt8) (c:UInt8):∀x∈hd l c,x≠c:=by
 intro x hx
 have:=List.all_takeWhile (l:=l) (p:=(· !=c))
 rw [List.all_eq_true] at this
 exact bne_iff_ne.1 (this x hx)
theorem zjx2 (l:List UInt8) (c:UInt8) (h:(hd l c).length≠l.length):l=hd l c++c::l.drop ((hd l c).length+1):=by
 induction l with
 | nil=>exact absurd rfl h
 | cons x r ih=>
  unfold hd at*
  rw [List.takeWhile_cons] at h ⊢
  grind
theorem zou2 {l:List UInt8} {c:UInt8} (h:(hd l c).length=l.length):hd l c=l:=(List.takeWhile_prefix (p:=(· !=c)) (l:=l)).eq_of_length h
theorem zrd2 (s:ByteArray) (c:UInt8):(List.range s.size).find? (fun i=>s[i]! ==c)=if (hd s.data.toList c).length=s.size then none else some (hd s.data.toList c).length:=by
 have hl:=zgc s
 by_cases h:(hd s.data.toList c).length=s.size
 ·rw [if_pos h,List.find?_eq_none]
  intro i hi e
  have hi:=List.mem_range.1 hi
  rw [zyu1 (by omega)] at e
  have ha:=zou2 (h.trans hl.symm)
  exact zjw2 s.data.toList c _ (by grind) (eq_of_beq e)
 ·rw [if_neg h,List.find?_range_eq_some]
  have hle:=hd_le s.data.toList c
  have hc:=zjx2 s.data.toList c (by omega)
  refine ⟨?_,List.mem_range.2 (by omega),?_⟩
  ·rw [zyu1 (by omega),beq_iff_eq]
   grind
  ·intro j hj
   rw [zyu1 (by omega)]
   have:s.data.toList[j]? =(hd s.data.toList c)[j]?:=by
    grind
   rw [List.getElem?_eq_getElem (by omega),List.getElem?_eq_getElem hj,Option.some.injEq] at this
   rw [this]
   have:=zjw2 s.data.toList c _ (List.getElem_mem hj)
   simpa using this
section
variable {h:Hp}
theorem zsb1 {s:ByteArray} {c:UInt8} {K:Int->Hp->Prop} (hk:K (if (hd s.data.toList c).length=s.size then -1 else ((hd s.data.toList c).length:Int)) h):
  SemE Tryz.prog (Extern.BytealgIndexByte.indexByte #[.string s,.int .u8 (((c.toNat):Nat):Int)]) (shInt .i64) K h:=by
 show semW Tryz.prog (match (List.range s.size).find? (fun i=>s[i]! ==(((c.toNat:Nat):Int).toNat.toUInt8)) with | some i=>pure (goInt i) | none=>pure (goInt (-1))) _ h
 have e:((c.toNat:Nat):Int).toNat.toUInt8=c:=by
  simp
 rw [e,zrd2]
 by_cases hh:(hd s.data.toList c).length=s.size
 ·rw [if_pos hh] at hk ⊢
  exact ⟨_,rfl,hk⟩
 ·rw [if_neg hh] at hk ⊢
  exact ⟨_,rfl,hk⟩
theorem zyv1 {s:ByteArray} {c:UInt8} {Q:ByteArray->ByteArray->Bool->Hp->Prop} (hs:s.size<4611686018427387904)
  (hq:Q (txtB (hd s.data.toList c)) (txtB (s.data.toList.drop ((hd s.data.toList c).length+1))) (decide ((hd s.data.toList c).length≠s.size)) h):zox Tryz.prog s ⟨#[c]⟩ Q h:=by
 unfold zox
 refine zka ?_
 unfold zhc
 refine ziy ?_
 have hl:=zgc s
 have hle:=hd_le s.data.toList c
 have fin:∀r:Int,r=(if (hd s.data.toList c).length=s.size then -1 else ((hd s.data.toList c).length:Int))->(if (decide (r>=(0:Int)))=true then
   (((0:Int)<=r/\r<=(((ByteArray.size s):Nat):Int))/\(((0:Int)<=(IntKind.wrap .i64 (r+(((ByteArray.size (⟨#[c]⟩:ByteArray)):Nat):Int)))/\(IntKind.wrap .i64 (r+(((ByteArray.size (⟨#[c]⟩:ByteArray)):Nat):Int)))<=(((ByteArray.size s):Nat):Int))/\Q (ByteArray.extract s 0 (Int.toNat r)) (ByteArray.extract s (Int.toNat (IntKind.wrap .i64 (r+(((ByteArray.size (⟨#[c]⟩:ByteArray)):Nat):Int)))) (ByteArray.size s)) true h))
   else Q s ⟨#[]⟩ false h):=by
  rintro r rfl
  by_cases hh:(hd s.data.toList c).length=s.size
  ·rw [if_pos hh]
   refine iteF (by decide) ?_
   rw [decide_eq_false (fun e=>e hh),zou2 (hh.trans hl.symm),zsa1,List.drop_of_length_le (by omega)] at hq
   exact hq
  ·rw [if_neg hh]
   refine iteT (decide_eq_true (by omega)) ?_
   have e1:ByteArray.size (⟨#[c]⟩:ByteArray)=1:=rfl
   rw [e1,zab (n:=((hd s.data.toList c).length:Int)+((1:Nat):Int)) (by omega) (by omega),zgm,zgm]
   have e2:(((hd s.data.toList c).length:Int)+((1:Nat):Int)).toNat=(hd s.data.toList c).length+1:=by omega
   rw [e2,Int.toNat_natCast,List.drop_zero,List.take_of_length_le (by omega:s.data.toList.length<=s.size)]
   rw [decide_eq_true hh] at hq
   have e3:s.data.toList.take (hd s.data.toList c).length=hd s.data.toList c:=by
    conv=>lhs;rw [zjx2 s.data.toList c (by omega)]
    have e:∀A B:List UInt8,(A++B).take A.length=A:=fun A B=>by simp
    rw [show (hd (hd s.data.toList c++c::s.data.toList.drop ((hd s.data.toList c).length+1)) c).length=(hd s.data.toList c).length by rw [<-zjx2 s.data.toList c (by omega)]]
    exact e _ _
   grind
 unfold zfs
 refine letW (iteB (fun hy=> ?_) fun _=>iteT rfl ⟨⟨by decide,by grind⟩,zgk ?_⟩)
 ·refine fin 0 ?_
  have hy:(((ByteArray.toList ⟨#[c]⟩)==(ByteArray.toList s)))=true:=by
   rw [Bool.or_eq_true] at hy
   rcases hy with hy | hy
   ·exact absurd hy (by rw [show ByteArray.size (⟨#[c]⟩:ByteArray)=1 from rfl];decide)
   ·exact hy
  have e:=txt_beq.1 hy
  have e:s.data.toList=[c]:=e.symm
  have e2:s.size=1:=by grind
  have e3:hd [c] c=[]:=by simp [hd]
  rw [e,e2,e3]
  rfl
 ·unfold zdr
  exact zsb1 (fin _ rfl)
theorem zjy2 {s:ByteArray} {c:UInt8} {K:Int->Hp->Prop} (hk:K ((s.data.toList.count c:Nat):Int) h):CallT Tryz.prog zbp1 [.string s,.string ⟨#[c]⟩] (shInt .i64) K h:=
 zpb1 (sh:=shInt .i64) (x:=((s.data.toList.count c:Nat):Int)) (fun w _=>Tryz.strings_Count_one s c w) hk
theorem zaa1 {P:Program} {g:FuncId} {args:List Value} {sh:Shape} {K:sh.T->Hp->Prop} {x:sh.T} (hc:∀w,Sub h w->Calls P g args.toArray w fun e w'=>e=.returned (sh.enc x)/\Below w.heap.size w w') (hk:K x h):CallT P g args sh K h:=by
 intro w hs
 refine (hc w hs).mono ?_
 rintro e w' ⟨rfl,hb⟩
 exact ⟨_,h,rfl,⟨x,rfl,hk⟩,⟨fun i o e=>by rw [hb.block i (hs.lt e)];exact hs i o e,hb.size,fun i hi hn=>⟨hb.block i hi,hn⟩,hb.os,hb.tape,hb.output⟩⟩
theorem zpc1 {fn s:ByteArray} {base bits k:Int} {K:Leaf->Hp->Prop} (e:EEnv h) (hs:s.size<=281474976710656) (h12:k=1\/k=2) (hk:∀er,isIfV er.v=true->zcl er.v=false->K er h):
  CallT Tryz.prog zcz [.string fn,.string s,.int .i64 base,.int .i64 bits,.iface 122 (.int .i64 k)] zai K h:=by
 intro w hw
 rcases h12 with rfl | rfl
 ·obtain ⟨te,pe,hl⟩:=e.rng
  refine (Tryz.strconv_toError_range fn s base bits (.iface te pe) w hs (zhe hw (hl 0 _ rfl)) (.inr ⟨te,pe,rfl⟩)).mono ?_
  rintro e w' ⟨N,rfl,_,_,hb⟩
  exact ⟨_,h,rfl,⟨⟨.iface 125 (.pointer (some ⟨N,0,none⟩)),rfl⟩,rfl,hk _ rfl rfl⟩,⟨fun i o e=>by rw [hb.block i (hw.lt e)];exact hw i o e,hb.size,fun i hi hn=>⟨hb.block i hi,hn⟩,hb.os,hb.tape,hb.output⟩⟩
 ·obtain ⟨te,pe,hl⟩:=e.syn
  refine (Tryz.strconv_toError_syntax fn s base bits (.iface te pe) w hs (zhe hw (hl 0 _ rfl)) (.inr ⟨te,pe,rfl⟩)).mono ?_
  rintro e w' ⟨N,rfl,_,_,hb⟩
  exact ⟨_,h,rfl,⟨⟨.iface 125 (.pointer (some ⟨N,0,none⟩)),rfl⟩,rfl,hk _ rfl rfl⟩,⟨fun i o e=>by rw [hb.block i (hw.lt e)];exact hw i o e,hb.size,fun i hi hn=>⟨hb.block i hi,hn⟩,hb.os,hb.tape,hb.output⟩⟩
theorem zvi1 {s:ByteArray} {Q:Int->Leaf->Hp->Prop} (e:EEnv h) (hs:s.size<=281474976710656) (hok:∀v,Lib.parseIntB 64 s.data.toList=.ok v->Q v leafN h) (hno:∀n er,(∀v,Lib.parseIntB 64 s.data.toList≠ .ok v)->isIfV er.v=true->zcl er.v=false->Q n er h):
  zpb Tryz.prog s (10:Int) (64:Int) Q h:=by
 unfold zpb
 have bw:∀ {w w':World},(w'=w\/∃t,w'=Lib.bytesWorld w 5 t)->Below w.heap.size w w':=fun {w w'} hw=>by
  rcases hw with rfl | ⟨t,rfl⟩
  ·exact Below.refl _ _
  ·exact Lib.bytesWorld_below _ _ _
 have con:=fun w=>Tryz.internal_strconv_ParseInt_10_all64 s (by omega) w
 rcases hq:Lib.parseIntB 64 s.data.toList with v | _ | _
 ·refine zaa1 (sh:=zie (shInt .i64) zai) (x:=(v,leafN)) (fun w _=>(con w).mono ?_) ?_
  ·rintro e w' ⟨rfl,hw⟩
   rw [hq]
   exact ⟨rfl,bw hw⟩
  ·exact ⟨rfl,iteF (by show ¬((!(zcl Value.nilIface))=true);decide) (encN (hok v hq))⟩
 ·refine zaa1 (sh:=zie (shInt .i64) zai) (x:=((0:Int),⟨.iface 122 (.int .i64 2),rfl⟩)) (fun w _=>(con w).mono ?_) ?_
  ·rintro e w' ⟨rfl,hw⟩
   rw [hq]
   exact ⟨rfl,bw hw⟩
  ·exact ⟨rfl,iteT rfl (zpc1 e hs (.inr rfl) fun er i1 i2=>encL (hno _ _ (fun v e=>by rw [hq] at e;cases e) i1 i2))⟩
 ·refine zaa1 (sh:=zie (shInt .i64) zai) (x:=(Lib.intSat 64 s.data.toList,⟨.iface 122 (.int .i64 1),rfl⟩)) (fun w _=>(con w).mono ?_) ?_
  ·rintro e w' ⟨rfl,hw⟩
   rw [hq]
   exact ⟨rfl,bw hw⟩
  ·exact ⟨rfl,iteT rfl (zpc1 e hs (.inl rfl) fun er i1 i2=>encL (hno _ _ (fun v e=>by rw [hq] at e;cases e) i1 i2))⟩
theorem zhe1 {i:Int} {Q:ByteArray->Hp->Prop} (hi:InI i) (t:zlz h) (hk:∀h',h<=h'->Q (txtB (decB i)) h'):zno Tryz.prog i (10:Int) Q h:=by
 unfold zno
 refine ziz (zix1 hi.1 hi.2 t fun zs h' hl hz=> ?_)
 rw [zgt1 hz]
 exact hk h' hl
theorem znn2 {i:Int} {Q:ByteArray->Hp->Prop} (hi:InI i) (t:zlz h) (hk:∀h',h<=h'->Q (txtB (decB i)) h'):zqz Tryz.prog i Q h:=
 zxv1 hi.1 hi.2 t fun zs h' hl hz=>by
  rw [zgt1 hz]
  exact hk h' hl
theorem zmo1 {s:ByteArray} {Q:Int->Bool->Hp->Prop} (e:VEnv h) (hs:s.size<=281474976710656) (hk:∀h' n,h<=h'->(∀v,intV s.data.toList=some v->n=v)->Q n (intV s.data.toList).isSome h'):zew1 Tryz.prog s Q h:=by
 unfold zew1
 refine zcs1 (zvi1 e.ee hs (fun v hv=> ?_) fun n er hn i1 i2=> ?_)
 ·refine ⟨rfl,effB rfl (zgu (zhe1 (zmg1 hv) e.pe.env.small fun h' hl=>letW ?_))⟩
  have:=hk h' v hl
  unfold intV at this
  rw [hv] at this
  by_cases hd:decB v=s.data.toList
  ·rw [show (zcl leafN.v&&((ByteArray.toList (txtB (decB v)))==(ByteArray.toList s)))=true by
    rw [Bool.and_eq_true];exact ⟨rfl,txt_beq.2 (by rw [zay];exact hd)⟩]
   grind
  ·rw [show (zcl leafN.v&&((ByteArray.toList (txtB (decB v)))==(ByteArray.toList s)))=false by
    rw [Bool.and_eq_false_iff];exact .inr (by rw [Bool.eq_false_iff];intro hh;exact hd (by have:=txt_beq.1 hh;rw [zay] at this;exact this))]
   grind
 ·refine ⟨i1,effF i2 ⟨#[]⟩ (letW ?_)⟩
  rw [i2,Bool.false_and]
  have e1:intV s.data.toList=none:=by
   unfold intV
   split
   ·rename_i v hv;exact absurd hv (hn v)
   ·rfl
  have:=hk h n (Hp.le_refl h)
  grind
theorem zfp1 {n:Int} {Q:Bool->Hp->Prop} (hq:Q (zky n) h):zev1 Tryz.prog n Q h:=by
 unfold zev1
 exact letW hq
def fT :ByteArray:=⟨#[102]⟩
theorem zjz2 {s:ByteArray} {Q:Int->Bool->Hp->Prop} (e:VEnv h) (hs:s.size<=281474976710656) (hk:∀h' n,h<=h'->(∀v,setOf s.data.toList=some v->n=v)->Q n (setOf s.data.toList).isSome h'):zlf1 Tryz.prog s Q h:=by
 unfold zlf1
 have hl:=zgc s
 refine zgt (zhb1 (p:=fT) (fun hn=> ?_) fun h1 h2=> ?_)
 ·refine iteF (by decide) (zed1 (zmo1 e hs fun h' n l' hv=> ?_))
  have key:setOf s.data.toList=(intV s.data.toList).filter zky:=by
   cases hq:s.data.toList with
   | nil=>rfl
   | cons c r=>
    show (if c=102 then _ else _)=_
    refine if_neg fun hc=>hn ⟨?_,?_⟩
    ·show 1<=s.size
     grind
    ·rw [zgm,hq,hc]
     rfl
  have:=hk h' n l'
  rw [key] at this
  cases hi:intV s.data.toList with
  | none=>
   rw [hi] at this
   refine effF rfl true (letW ?_)
   exact this fun v hv=>by cases hv
  | some v=>
   rw [hi] at this
   obtain rfl:=hv v hi
   rw [Option.filter_some] at this
   refine effB rfl (zwz (zfp1 (letW ?_)))
   grind
 ·have h1:1<=s.size:=h1
  obtain ⟨c,r,hq⟩:∃c r,s.data.toList=c::r:=by
   cases hq:s.data.toList with
   | nil=>grind
   | cons c r=>simp
  have hc:c=102:=by
   have e1:=congrArg (fun t:ByteArray=>t.data.toList) h2
   rw [zgm,zay,hq] at e1
   have e1: [c]=[102]:=e1
   grind
  subst hc
  have e3:s.extract fT.size s.size=txtB r:=by
   rw [zgm,<-hl,List.take_of_length_le (Nat.le_refl _),hq]
   rfl
  rw [e3]
  have hr:(txtB r).size<=281474976710656:=by
   rw [zjv]
   grind
  refine iteT rfl (zmz1 (zup1 e hr fun h' x er l' sd=> ?_))
  have key:setOf s.data.toList=(fltV r).filter fun n=> !zky n:=by
   rw [hq]
   show (if (102:UInt8)=102 then (fltV r).filter (fun n=> !zky n) else (intV (102::r)).filter zky)=_
   exact if_pos rfl
  have:=hk h' x l'
  rw [key] at this
  have sd:=zuy1 sd
  rw [zay] at sd
  rcases sd with ⟨e1,rfl⟩ | ⟨e1,rfl⟩
  ·rw [e1,Option.filter_some] at this
   refine effB rfl (zwz (zfp1 (letW ?_)))
   grind
  ·rw [e1] at this
   refine effF rfl true (letW ?_)
   exact this fun v hv=>by cases hv
end
end Lf
namespace Go.Proofs
open Go.Shelf
def Tryz.lays156_ren :Go.Shelf.Ren:=⟨fun | 156=>118 | 165=>93 | 166=>42 | 169=>44 | 240=>68 | 241=>130 | 276=>112 | 277=>164 | n=>n,fun | 31=>23 | 9=>9 | 3=>3 | 4=>4 | 0=>0 | 20=>20 | 72=>76 | 76=>57 | 70=>73 | 37=>74 | 75=>56 | 127=>99 | 164=>135 | 5=>5 | 80=>78 | n=>n,fun | n=>n⟩
theorem Tryz.lays156 :Go.Proofs.Lays.n156 Tryz.prog Tryz.lays156_ren:={
 mixed:=by kernel_rfl
 f156:=Tryz.func118.trans (congrArg some (by kernel_rfl))
 f165:=Tryz.func93.trans (congrArg some (by kernel_rfl))
 f166:=Tryz.func42.trans (congrArg some (by kernel_rfl))
 f169:=Tryz.func44.trans (congrArg some (by kernel_rfl))
 f240:=Tryz.func68.trans (congrArg some (by kernel_rfl))
 f241:=Tryz.func130.trans (congrArg some (by kernel_rfl))
 f276:=Tryz.func112.trans (congrArg some (by kernel_rfl))
 f277:=Tryz.func164.trans (congrArg some (by kernel_rfl))
 t0:=Tryz.underlying0
 a0:=Tryz.isAgg0
 z0:=Tryz.sizeOf0
 v0:=Tryz.zeroValue0
 t3:=Tryz.underlying3
 a3:=Tryz.isAgg3
 z3:=Tryz.sizeOf3
 v3:=Tryz.zeroValue3
 t4:=Tryz.underlying4
 a4:=Tryz.isAgg4
 z4:=Tryz.sizeOf4
 v4:=Tryz.zeroValue4
 t9:=Tryz.underlying9
 a9:=Tryz.isAgg9
 z9:=Tryz.sizeOf9
 v9:=Tryz.zeroValue9
 t20:=Tryz.underlying20
 a20:=Tryz.isAgg20
 z20:=Tryz.sizeOf20
 v20:=Tryz.zeroValue20
 t31:=Tryz.underlying23
 a31:=Tryz.isAgg23
 z31:=Tryz.sizeOf23
 v31:=Tryz.zeroValue23
 t37:=Tryz.underlying74
 a37:=Tryz.isAgg74
 z37:=Tryz.sizeOf74
 v37:=Tryz.zeroValue74
 t70:=Tryz.underlying73
 a70:=Tryz.isAgg73
 z70:=Tryz.sizeOf73
 v70:=Tryz.zeroValue73
 t72:=Tryz.underlying76
 a72:=Tryz.isAgg76
 z72:=Tryz.sizeOf76
 v72:=Tryz.zeroValue76
 t75:=Tryz.underlying56
 a75:=Tryz.isAgg56
 z75:=Tryz.sizeOf56
 v75:=Tryz.zeroValue56
 t76:=Tryz.underlying57
 a76:=Tryz.isAgg57
 z76:=Tryz.sizeOf57
 v76:=Tryz.zeroValue57
 t127:=Tryz.underlying99
 a127:=Tryz.isAgg99
 z127:=Tryz.sizeOf99
 v127:=Tryz.zeroValue99
 t164:=Tryz.underlying135
 a164:=Tryz.isAgg135
 z164:=Tryz.sizeOf135
 v164:=Tryz.zeroValue135}
theorem Tryz.Builder_Extra_156 :Builder.Extra Tryz.prog Tryz.lays156_ren:={
 sizeBuilder:=by kernel_rfl
 liesBuilder:=by kernel_rfl
 t5:=Tryz.underlying5
 a5:=Tryz.isAgg5
 z5:=Tryz.sizeOf5
 v5:=Tryz.zeroValue5
 infoByte:=by kernel_rfl
 cellsByte:=by kernel_rfl
 sizeByte:=by kernel_rfl
 neB5:=by decide}
open Go.RowKit in
theorem Tryz.strings_Join_none (a:Option Addr) (c:Nat) (sep:ByteArray) (w:World):
  Calls Tryz.prog 118 #[.slice a 0 c,.string sep] w fun e w'=>e=.returned (.string ⟨#[]⟩)/\w'=w:=Any.strings_Join_none Tryz.lays156 Tryz.Builder_Extra_156 a c sep w
open Go.RowKit in
theorem Tryz.strings_Join (bk o c:Nat) (xs:List ByteArray) (sep:ByteArray) (w:World) (hcells:∀(j:Nat) x,xs[j]? =some x->w.cell? ⟨bk,o+j,none⟩=some (.string x)) (hbk:bk<w.heap.size) (hN:xs.length<=140737488355328) (hcap:xs.length<=c) (hlen:(Lib.join (xs.map (·.data.toList)) sep.data.toList).length<=140737488355328):
  Calls Tryz.prog 118 #[.slice (some ⟨bk,o,none⟩) xs.length c,.string sep] w fun e w'=>e=.returned (.string ⟨(Lib.join (xs.map (·.data.toList)) sep.data.toList).toArray⟩)/\Below w.heap.size w w':=Any.strings_Join Tryz.lays156 Tryz.Builder_Extra_156 bk o c xs sep w hcells hbk hN hcap hlen
end Go.Proofs
namespace Lf
open Go Go.Proofs Go.RowKit
theorem zby2 (c:UInt8) (l:List UInt8):(⟨⟨c::(txtB l).data.toList⟩⟩:ByteArray)=txtB (c::l):=by
 apply zyt1
 rw [zay (c::l)]
 show c::(txtB l).data.toList=_
 rw [zay]
theorem zre2 (a b:List UInt8):(⟨⟨List.append (txtB a).data.toList b⟩⟩:ByteArray)=txtB (a++b):=by
 apply zyt1
 rw [zay (a++b)]
 show (txtB a).data.toList++b=_
 rw [zay]
theorem zbz2 {k:Nat} (hk:k<34):(wordTab.map fun l=>Value.string ⟨l.toArray⟩)[k]? =some (Value.string (txtB (wordL k))):=by
 have hl:k<wordTab.length:=hk
 rw [List.getElem?_map,List.getElem?_eq_getElem hl]
 unfold wordL
 rw [List.getD_eq_getElem?_getD,List.getElem?_eq_getElem hl]
 rfl
theorem inReg {has:Bool} {n:Int} (hr:regP has n=0) (ht:has=true):InI n:=by
 unfold regP at hr
 rw [if_neg (by rw [ht];simp)] at hr
 unfold InI
 omega
theorem zca2 {has:Bool} {w:List UInt8} {m:Nat} (hm:has=true->w.length<=m):(fldB has w).length<=m+1:=by
 cases has with
 | true=>have:=hm rfl;simp [fldB];omega
 | false=>simp [fldB]
theorem zmp1 {x:PIns} {n:Int} (hw:(zrs x n 8).1=0) (hi:InI x.imm):(lineB x).length<=110:=by
 obtain ⟨⟨p0,p1⟩,pa,pb,pc, -, -⟩:=wrong_right.1 hw
 have hreg:∀ {has:Bool} {n:Int},regP has n=0->(fldB has (regB n)).length<=23:=fun {has n} hr=>zca2 fun ht=>by
  have:=zka1 (inReg hr ht)
  unfold regB
  rw [List.length_cons]
  omega
 have hnum:(fldB (zam x.op).2.2.2 (numB x.op x.imm)).length<=27:=zca2 fun _=>by
  unfold numB
  split
  ·have:=zne2 x.imm;rw [List.length_cons];omega
  ·have:=zka1 hi;omega
 unfold lineB
 simp only [List.length_append]
 have h0:=zbs2 x.op.toNat (by omega)
 grind
section
variable {h:Hp}
theorem zpd1 {k:Nat} {Q:ByteArray->Hp->Prop} (hk:k<34) (hq:Q (txtB (wordL k)) h):zhq1 Tryz.prog (k:Int) Q h:=by
 unfold zhq1
 refine ⟨⟨by omega,by omega⟩,txtB (wordL k),?_,hq⟩
 rw [zcz1,Nat.mul_one,Int.toNat_natCast]
 exact zbz2 hk
theorem zer2 {k:Nat} {Q:ByteArray->Hp->Prop} (hk:k<34) (hq:Q (txtB (wordL k)) h):zln Tryz.prog (k:Int) Q h:=by
 unfold zln
 refine ⟨⟨by omega,by omega⟩,txtB (wordL k),?_,hq⟩
 rw [zcz1]
 first | rw [Nat.zero_add,Nat.mul_one,Int.toNat_natCast] | rw [Nat.mul_one,Int.toNat_natCast]
 exact zbz2 hk
theorem zvj1 {w:List UInt8} (h:∀k,k<34->wordL k≠w):opOf w=none:=by
 unfold opOf
 grind
theorem zno2 {s:ByteArray} {Q:Int->Bool->Hp->Prop} (h1:∀k,opOf s.data.toList=some k->Q (k:Int) true h) (h0:opOf s.data.toList=none->Q 0 false h):zqg1 Tryz.prog s Q h:=by
 unfold zqg1
 refine LoopW1.intro (fun i k=>k=h/\∃j:Nat,i=(j:Int)/\j<=34/\∀t,t<j->wordL t≠s.data.toList) (fun i _=>(34-i).toNat) ⟨rfl,0,rfl,by omega,fun t ht=>by omega⟩ ?_
 rintro _ k ⟨rfl,j,rfl,hj,hn⟩
 by_cases hlt:j<34
 ·refine iteT (decide_eq_true (by omega)) (zgm1 (zpd1 hlt ?_))
  refine iteB (fun he=> ?_) fun he=> ?_
  ·have e:=txt_beq.1 he
   rw [zay] at e
   exact h1 j (by rw [<-e];exact zmh1 hlt)
  ·have e:wordL j≠s.data.toList:=fun e=>he (txt_beq.2 (by rw [zay];exact e))
   rw [zab (by omega) (by omega)]
   refine ⟨⟨rfl,j+1,by omega,by omega,fun t ht=> ?_⟩,by omega⟩
   grind
 ·exact iteF (fun hh=>hlt (by grind)) (h0 (zvj1 fun t ht=>hn t (by omega)))
theorem zhf1 {n:Int} {Q:ByteArray->Hp->Prop} (hn:InI n) (t:zlz h) (hk:∀h',h<=h'->Q (txtB (regB n)) h'):zvy Tryz.prog n Q h:=by
 unfold zvy
 refine zqu (znn2 hn t fun h' hl=>⟨?_,?_⟩)
 ·rw [zjv]
  have:=zka1 hn
  omega
 ·rw [zby2]
  exact hk h' hl
theorem zka2 {x:S_api_Ins} {Q:ByteArray->Hp->Prop} (hn:InI x.Imm) (e:PEnv h) (hk:∀h',h<=h'->Q (txtB (numB x.Op x.Imm)) h'):zbu1 Tryz.prog x Q h:=by
 unfold zbu1
 have hc:∀(r:Bool),((x.Op==(1:Int))=true->r=zky x.Imm)->LetW ((x.Op==(1:Int))&&(!r)) fun y=>
   (if y=true then CallT Tryz.prog zqf [(.int .i64 x.Imm)] shStr (fun r1 h2=>((1+(ByteArray.size r1))<=9223372036854775807/\Q ⟨⟨(102::r1.data.toList)⟩⟩ h2)) h
   else CallT Tryz.prog zeb [(.int .i64 x.Imm),(.int .i64 (10:Int))] shStr (fun r1 h2=>Q r1 h2) h):=by
  intro r hr
  refine letW ?_
  by_cases h1:x.Op=1/\zky x.Imm=false
  ·have e1:(x.Op==(1:Int))=true:=beq_iff_eq.2 h1.1
   rw [e1,hr e1,h1.2]
   refine iteT rfl (zwt (zcy1 (zuv1 x.Imm) (zrv1 _) e fun h' out hl hi=>⟨?_,?_⟩))
   ·rw [zal]
    have:=(zqy hi).1
    omega
   ·have:=hk h' hl
    unfold numB at this
    rw [if_pos h1,zyk1 hi] at this
    rw [znm2,zby2]
    exact this
  ·refine iteF (fun hh=> ?_) (zgu (zhe1 hn e.env.small fun h' hl=> ?_))
   ·grind
   ·have:=hk h' hl
    unfold numB at this
    grind
 by_cases hb:(x.Op==(1:Int))=true
 ·exact effB hb (zwz (zfp1 (hc _ fun _=>rfl)))
 ·exact effF (Bool.eq_false_iff.2 hb) true (hc _ fun hh=>absurd hh hb)
def eTx (x:ByteArray):List Value:=zaj (shStr.enc x)
theorem zes2 (w:List UInt8):∀r:List (List UInt8),Lib.join (w::r) [32]=w++r.flatMap (32:: ·):=by
 intro r
 unfold Lib.join
 induction r generalizing w with
 | nil=>simp
 | cons x r ih=>
  have e: [(32:UInt8)].intercalate (w::x::r)=w++(32:: [(32:UInt8)].intercalate (x::r)):=by
   simp [List.intercalate,List.intersperse]
  grind
theorem znp2 {h0:Hp} {l:Sl} {xs:List ByteArray} {K:ByteArray->Hp->Prop} (o:Own h0 h 1 eTx l xs) (hn:xs.length<=100)
  (hlen:(Lib.join (xs.map (·.data.toList)) [32]).length<=1000000) (hk:K (txtB (Lib.join (xs.map (·.data.toList)) [32])) h):CallT Tryz.prog zec1 [l.v,.string ⟨#[32]⟩] shStr K h:=by
 refine zaa1 (x:=txtB (Lib.join (xs.map (·.data.toList)) [32])) (fun w hs=> ?_) hk
 obtain ⟨o1,o2,o3⟩:=o
 rcases o3 with ⟨e,ec⟩ | ⟨b,cs,t,e,hb,hl,ht,_⟩
 ·have hx:xs=[]:=List.length_eq_zero_iff.1 (by omega)
  subst hx
  have e0:l.len=0:=o1
  have ev:l.v=.slice none 0 l.cap:=by unfold Sl.v;rw [e,e0]
  rw [ev]
  refine (Tryz.strings_Join_none none l.cap ⟨#[32]⟩ w).mono ?_
  rintro e w' ⟨rfl,rfl⟩
  exact ⟨rfl,Below.refl _ _⟩
 ·have ev:l.v=.slice (some ⟨b,0,none⟩) xs.length l.cap:=by unfold Sl.v;rw [e,o1]
  rw [ev]
  refine Tryz.strings_Join b 0 l.cap xs ⟨#[32]⟩ w (fun j x hx=> ?_) (hs.lt hb) (by omega) (by omega) (Nat.le_trans hlen (by omega))
  refine zhe hs ?_
  have hcb:hcell h ⟨b,0+j,none⟩=cs[j]?:=by
   unfold hcell
   rw [Nat.zero_add]
   simp [hb]
  rw [hcb]
  have hj:j<xs.length:=(List.getElem?_eq_some_iff.1 hx).1
  have h1:(cs.take (l.len*1))[j]? =some (.string x):=by
   rw [ht]
   have:=zpw1 (enc:=eTx) (sz:=1) (fun _=>rfl) xs j x hx 0 (.string x) rfl
   simpa using this
  grind
theorem zet2 {h0:Hp} {l:Sl} {xs:List ByteArray} {Q:ByteArray->Hp->Prop} (o:Own h0 h 1 eTx l xs) (hn:xs.length<=100) (hlen:(Lib.join (xs.map (·.data.toList)) [32]).length<=1000000)
  (hk:Q (txtB (Lib.join (xs.map (·.data.toList)) [32]++ [10])) h):zhr1 Tryz.prog l Q h:=by
 unfold zhr1
 refine znp2 o hn hlen ⟨?_,?_⟩
 ·rw [zjv];omega
 ·rw [zre2]
  exact hk
theorem zsc1 {x:S_api_Ins} {n:Int} {Q:ByteArray->Hp->Prop} (hw:(zrs (insOf x) n 8).1=0) (hi:InI x.Imm) (e:PEnv h) (hk:∀h',h<=h'->Q (txtB (lineB (insOf x)++ [10])) h'):zyz Tryz.prog x Q h:=by
 obtain ⟨⟨p0,p1⟩,pa,pb,pc, -, -⟩:=wrong_right.1 hw
 obtain ⟨op,a,b,c,imm⟩:=x
 have p0:0<=op:=p0
 have p1:op<34:=p1
 have pa:regP (zam op).1 a=0:=pa
 have pb:regP (zam op).2.1 b=0:=pb
 have pc:regP (zam op).2.2.1 c=0:=pc
 have hi:InI imm:=hi
 obtain ⟨k,rfl⟩:∃k:Nat,op=k:=⟨op.toNat,by omega⟩
 unfold zyz
 refine zgm1 (zpd1 (by omega) ?_)
 refine zeo1 (h0:=h) (sz:=1) (enc:=eTx) (xs:=[txtB (wordL k)]) (Hp.le_refl h) rfl (fun _=>rfl) fun a1 h2 l2 o2=> ?_
 refine zsi (zzz fun h3 l3=> ?_)
 dsimp only
 have o3:=o2.mono l3
 have l23:=Hp.le_trans l2 l3
 have more:∀ {has:Bool} {w:List UInt8} {g:FuncId} {args:List Value} {l:Sl} {xs:List ByteArray} {k:Hp} {R:Sl->Hp->Prop},h<=k->Own h k 1 eTx l xs->xs.length<=4->
   (has=true->∀ {K:ByteArray->Hp->Prop},(∀k',k<=k'->K (txtB w) k')->CallT Tryz.prog g args shStr K k)->
   (∀l' k',h<=k'->Own h k' 1 eTx l' (xs++if has then [txtB w] else [])->R l' k')->
   (if has=true then CallT Tryz.prog g args shStr (fun r5 h4=>NewW [(.string r5)] (fun a1 h5=>zbb 1 16 [(.string ⟨#[]⟩)] l ⟨(some a1),1,1⟩ (fun r6 h6=>R r6 h6) h5) h4) k else R l k):=by
  intro has w g args l xs k R hk o hx hc hr
  cases has with
  | true=>
   refine iteT rfl (hc rfl fun k' lk=> ?_)
   exact zzw (enc:=eTx) (ys:=[txtB w]) (Hp.le_trans hk lk) (o.mono lk) rfl rfl (fun _=>rfl) (fun _=>rfl) rfl (by grind) fun l' h' hl o' _=>hr l' h' hl o'
  | false=>grind
 have hlen0:=zbs2 k (by omega)
 refine JoinW1.intro (fun l k'=>h<=k'/\Own h k' 1 eTx l ([txtB (wordL k)]++if (zam (k:Int)).1 then [txtB (regB a)] else []))
  (more l23 o3 (by simp) (fun ht _ hK=>zme (zhf1 (inReg pa ht) (e.mono l23).env.small hK)) fun l' k' hl o=>⟨hl,o⟩) ?_
 rintro l k1 ⟨m1,q1⟩
 refine JoinW1.intro (fun l k'=>h<=k'/\Own h k' 1 eTx l (([txtB (wordL k)]++if (zam (k:Int)).1 then [txtB (regB a)] else [])++if (zam (k:Int)).2.1 then [txtB (regB b)] else []))
  (more m1 q1 (by split<;>simp) (fun ht _ hK=>zme (zhf1 (inReg pb ht) (e.mono m1).env.small hK)) fun l' k' hl o=>⟨hl,o⟩) ?_
 rintro l k2 ⟨m2,q2⟩
 refine JoinW1.intro (fun l k'=>h<=k'/\Own h k' 1 eTx l ((([txtB (wordL k)]++if (zam (k:Int)).1 then [txtB (regB a)] else [])++if (zam (k:Int)).2.1 then [txtB (regB b)] else [])++if (zam (k:Int)).2.2.1 then [txtB (regB c)] else []))
  (more m2 q2 (by grind) (fun ht _ hK=>zme (zhf1 (inReg pc ht) (e.mono m2).env.small hK)) fun l' k' hl o=>⟨hl,o⟩) ?_
 rintro l k3 ⟨m3,q3⟩
 refine JoinW1.intro (fun l k'=>h<=k'/\Own h k' 1 eTx l (((([txtB (wordL k)]++if (zam (k:Int)).1 then [txtB (regB a)] else [])++if (zam (k:Int)).2.1 then [txtB (regB b)] else [])++if (zam (k:Int)).2.2.1 then [txtB (regB c)] else [])++if (zam (k:Int)).2.2.2 then [txtB (numB (k:Int) imm)] else []))
  (more m3 q3 (by grind) (fun _ _ hK=>zlm1 (zka2 (x:=⟨(k:Int),a,b,c,imm⟩) hi (e.mono m3) hK)) fun l' k' hl o=>⟨hl,o⟩) ?_
 rintro l k4 ⟨m4,q4⟩
 have one:∀(has:Bool) (w:List UInt8),((if has then [txtB w] else []).map (·.data.toList)).flatMap (32:: ·)=fldB has w:=by
  intro has w
  cases has with
  | true=>simp [fldB,zay]
  | false=>rfl
 have ej:Lib.join ((((([txtB (wordL k)]++if (zam (k:Int)).1 then [txtB (regB a)] else [])++if (zam (k:Int)).2.1 then [txtB (regB b)] else [])++if (zam (k:Int)).2.2.1 then [txtB (regB c)] else [])++if (zam (k:Int)).2.2.2 then [txtB (numB (k:Int) imm)] else []).map (·.data.toList)) [32]=lineB ⟨(k:Int),a,b,c,imm⟩:=by
  simp only [List.append_assoc,List.map_append,List.map_cons,List.map_nil,List.cons_append,List.nil_append,zay]
  rw [zes2]
  simp only [List.flatMap_append,one]
  unfold lineB
  simp
 refine zqu1 (zet2 q4 (by split<;>split<;>split<;>split<;>simp) ?_ ?_)
 ·rw [ej]
  have:=zmp1 (x:=⟨(k:Int),a,b,c,imm⟩) hw hi
  omega
 ·rw [ej]
  exact hk k4 m4
end
end Lf
namespace Go.Proofs
open Go.Shelf Go.RowKit
set_option maxHeartbeats 2000000 in
theorem zvk1 {P:Program} {ρ:Ren} (L:Lays.n169 P ρ) (X:Builder.Extra P ρ) (b g cap:Nat) (p:Value) (cur:Array Value) (l:List UInt8) (w:World) (h0:l≠ []) (h63:l.length<=1000000)
  (hbk:w.heap[b]? =some (.cells #[p,.slice (some ⟨g,0,none⟩) l.length cap] (ρ.t 72) (0,0))) (hg:w.heap[g]? =some (.cells cur (ρ.t 5) (0,0))) (hcap:l.length<=cap) (hcs:l.length<=cur.size) (hcell:∀(j:Nat) (x:UInt8),l[j]? =some x->cur[j]? =some (.int .u8 x.toNat)):
  Calls P (ρ.f 169) #[.pointer (some ⟨b,0,none⟩)] w fun e w'=>e=.returned (.string ⟨l.toArray⟩)/\w'=w.drew.freeze ⟨g,0,none⟩ l.length:=by
 have hl0:l.length≠0:=by simpa using h0
 have c1:w.drew.cell? ⟨b,1,none⟩=some (.slice (some ⟨g,0,none⟩) l.length cap):=by
  have:w.drew.heap[b]? =some (.cells #[p,.slice (some ⟨g,0,none⟩) l.length cap] (ρ.t 72) (0,0)):=hbk
  rw [Lib.cell_of_heap this];rfl
 have hSD:(Builtin.unsafeSliceData_ #[(ρ.t 37)] (ρ.t 127) #[.slice (some ⟨g,0,none⟩) l.length cap]).run P w.drew=.ok (.pointer (some ⟨g,0,none⟩)) w.drew:=
  Lib.run_unsafeSliceData_row _ _ _ _ _ _ (by omega)
 have hg':w.drew.heap[g]? =some (.cells cur (ρ.t 5) (0,0)):=hg
 have hUS:(Builtin.unsafeString_ #[(ρ.t 127),(ρ.t 3)] (ρ.t 9) #[.pointer (some ⟨g,0,none⟩),.int .i64 l.length]).run P w.drew=.ok (.string ⟨l.toArray⟩) (w.drew.freeze ⟨g,0,none⟩ l.length):=by
  refine Lib.run_unsafeString_row w.drew (ρ.t 127) (ρ.t 3) (ρ.t 9) (ρ.t 5) L.t127 X.cellsByte g cur.size (by simp [World.shape?,hg']) l h0 hcs (by omega) ?_
  intro j x hx
  have ha:(⟨g,0,none⟩:Addr).add j=⟨g,j,none⟩:=by rw [Lf.box_add,Nat.zero_add]
  rw [ha,Lib.cell_of_heap hg']
  exact hcell j x hx
 have mixed:=L.mixed
 have t72:=L.t72;have a72:=L.a72;have z72:=L.z72;have v72:=L.v72;have u72:=run_underlying L.t72
 have t70:=L.t70;have a70:=L.a70;have z70:=L.z70;have v70:=L.v70;have u70:=run_underlying L.t70
 have t37:=L.t37;have a37:=L.a37;have z37:=L.z37;have v37:=L.v37;have u37:=run_underlying L.t37
 have t127:=L.t127;have a127:=L.a127;have z127:=L.z127;have v127:=L.v127;have u127:=run_underlying L.t127
 have t3:=L.t3;have a3:=L.a3;have z3:=L.z3;have v3:=L.v3;have u3:=run_underlying L.t3
 have t9:=L.t9;have a9:=L.a9;have z9:=L.z9;have v9:=L.v9;have u9:=run_underlying L.t9
 have t5:=X.t5;have a5:=X.a5;have z5:=X.z5;have v5:=X.v5;have u5:=run_underlying X.t5
 go_enter L.f169,Body.n169_ntmps ρ
 go_wp2
 go_region_o
 all_goals (go_wp2;go_ret;simp)
end Go.Proofs
namespace Lf
open Go Go.Proofs Go.Shelf Go.RowKit
def byteV (b:UInt8):Value:=.int .u8 ((b.toNat:Nat):Int)
def Bld (h:Hp) (b:Nat) (bs:List UInt8) (F:List Nat):Prop:=
 ∃(p:Value) (l:Sl),(p=Value.pointer none\/p=.pointer (some ⟨b,0,none⟩))/\h b=some (.cells #[p,l.v] 76 (0,0))/\b∉F/\l.len=bs.length/\l.len<=l.cap/\
  ((l.base=none/\l.cap=0/\F=[])\/∃(g:Nat) (cs:List Value),l.base=some ⟨g,0,none⟩/\F=[g]/\h g=some (.cells (List.toArray cs) 5 (0,0))/\cs.length=l.cap/\cs.take l.len=bs.map byteV)
theorem Bld.le {h h':Hp} {b:Nat} {bs:List UInt8} {F:List Nat} (B:Bld h b bs F) (hl:h<=h'):Bld h' b bs F:=by
 obtain ⟨p,l,hp,hb,hn,e1,e2,e3⟩:=B
 refine ⟨p,l,hp,hl _ _ hb,hn,e1,e2,e3.imp id ?_⟩
 rintro ⟨g,cs,f1,f2,f3,f4⟩
 exact ⟨g,cs,f1,f2,hl _ _ f3,f4⟩
theorem zov2 :Lays.n240 Tryz.prog Tryz.lays156_ren:={Tryz.lays156 with}
theorem zow2 :Lays.n169 Tryz.prog Tryz.lays156_ren:={Tryz.lays156 with}
section
variable {h:Hp}
theorem zcb2 {b:Nat} {o:Obj} (e:h b=some o):h.set b o=h:=by
 funext i
 unfold Hp.set
 grind
theorem zvl1 {b:Nat} {p v:Value} {K:Hp->Prop} (hp:p=Value.pointer none\/p=.pointer (some ⟨b,0,none⟩)) (e:h b=some (.cells #[p,v] 76 (0,0)))
  (hk:K (h.set b (.cells #[.pointer (some ⟨b,0,none⟩),v] 76 (0,0)))):Call0 Tryz.prog zle [.pointer (some ⟨b,0,none⟩)] K h:=by
 intro w hs
 have hw:=hs _ _ e
 rcases hp with rfl | rfl
 ·have e0:hcell h ⟨b,0,none⟩=some (.pointer none):=by unfold hcell;simp [e]
  refine (Any.Builder_copyCheck_fresh zov2 Tryz.Builder_Extra_156.toX72 b w (zhe hs e0) (by simp [World.shape?,hw];rfl) (by simp [World.frozen?,hw])).mono ?_
  rintro e' w' ⟨rfl,rfl⟩
  have st:=zpg1 hs (v:=.pointer (some ⟨b,0,none⟩)) e0
  obtain ⟨c,t,fr,hb,hput⟩:=zyy1 (v:=.pointer (some ⟨b,0,none⟩)) e0
  grind
 ·have e0:hcell h ⟨b,0,none⟩=some (.pointer (some ⟨b,0,none⟩)):=by unfold hcell;simp [e]
  refine (Any.Builder_copyCheck_used zov2 Tryz.Builder_Extra_156.toX72 b w (zhe hs e0)).mono ?_
  rintro e' w' ⟨rfl,rfl⟩
  rw [zcb2 e] at hk
  exact ⟨_,_,rfl,⟨(),rfl,hk⟩,Step.refl hs⟩
theorem zkb2 {b:Nat} {o o':Obj}:(h.set b o).set b o'=h.set b o':=by
 funext i
 unfold Hp.set
 split<;>rfl
theorem zpe1 {g t off:Nat}:∀(new:List Value) (i:Nat) (cs:List Value) (h:Hp),h g=some (.cells (List.toArray cs) t (0,0))->off+i+new.length<=cs.length->
  putL h ⟨g,off,none⟩ new i=h.set g (.cells (List.toArray (cs.take (off+i)++new++cs.drop (off+i+new.length))) t (0,0))
 | [],i,cs,h,e,_=>by
  have:cs.take (off+i)++ []++cs.drop (off+i+0)=cs:=by simp
  show h=h.set g (.cells (List.toArray (cs.take (off+i)++ []++cs.drop (off+i+0))) t (0,0))
  rw [this,zcb2 e]
 | v::new,i,cs,h,e,hl=>by
  rw [List.length_cons] at hl
  have hlt:off+i<cs.length:=by omega
  have c0:hcell h ⟨g,off+i,none⟩=some cs[off+i]:=by unfold hcell;simp [e,hlt]
  obtain ⟨c,t',fr,hb,hput⟩:=zyy1 (v:=v) c0
  have hb:h g=some (.cells c t' fr):=hb
  rw [e] at hb
  cases hb
  have e1:h.put ⟨g,off+i,none⟩ v=h.set g (.cells (List.toArray (cs.set (off+i) v)) t (0,0)):=by
   rw [hput]
   simp
  show putL (h.put ((⟨g,off,none⟩:Addr).add i) v) ⟨g,off,none⟩ new (i+1)=_
  rw [box_add,e1,zpe1 new (i+1) (cs.set (off+i) v) _ zdu (by rw [List.length_set];omega),zkb2]
  congr 3
  have t1:(cs.set (off+i) v).take (off+(i+1))=cs.take (off+i)++ [v]:=by
   rw [show off+(i+1)=off+i+1 by omega,List.take_add_one,List.getElem?_set_self hlt,List.take_set_of_le (Nat.le_refl _)]
   rfl
  have t2:(cs.set (off+i) v).drop (off+(i+1)+new.length)=cs.drop (off+i+(new.length+1)):=by
   rw [List.drop_set_of_lt (by omega),show off+(i+1)+new.length=off+i+(new.length+1) by omega]
  grind
theorem znw (s:ByteArray):zfg s=s.data.toList.map byteV:=rfl
theorem zmq1 :∀l:List UInt8,zge (l.map byteV)=true
 | []=>rfl
 | _::l=>zmq1 l
theorem znq2 {h0:Hp} {b:Nat} {bs:List UInt8} {F:List Nat} {s:ByteArray} {Q:Int->Leaf->Hp->Prop} (hw:h0<=h) (hb0:h0 b=none) (hF:∀g∈F,h0 g=none) (B:Bld h b bs F) (hl:bs.length+s.size<=1000000)
  (hk:∀n er h' F',h0<=h'->(∀g∈F',h0 g=none)->Bld h' b (bs++s.data.toList) F'->Q n er h'):zff Tryz.prog (some ⟨b,0,none⟩) s Q h:=by
 obtain ⟨p,l,hp,hb,hn,e1,e2,e3⟩:=B
 have hsz:=zgc s
 unfold zff
 refine zvl1 hp hb ?_
 have k1:(h.set b (.cells #[.pointer (some ⟨b,0,none⟩),l.v] 76 (0,0))) b=some (.cells #[.pointer (some ⟨b,0,none⟩),l.v] 76 (0,0)):=zdu
 have w1:=zjn1 (o:=.cells #[.pointer (some ⟨b,0,none⟩),l.v] 76 (0,0)) hw hb0
 have o1:∀g,g≠b->(h.set b (.cells #[.pointer (some ⟨b,0,none⟩),l.v] 76 (0,0))) g=h g:=fun g hg=>by unfold Hp.set;rw [if_neg hg]
 generalize h.set b (.cells #[.pointer (some ⟨b,0,none⟩),l.v] 76 (0,0))=h1 at*
 have ea:(⟨b,0,none⟩:Addr).add 1=⟨b,1,none⟩:=by rw [box_add]
 have c1:hcell h1 ⟨b,1,none⟩=some l.v:=by unfold hcell;simp [k1]
 refine zag ?_
 refine ld_at (sh:=shSl) l (by rw [ea];exact zvo c1) ?_
 have fin:∀(r:Sl) (h2:Hp) (F':List Nat),h0<=h2->(∀g∈F',h0 g=none)->b∉F'->h2 b=some (.cells #[.pointer (some ⟨b,0,none⟩),l.v] 76 (0,0))->r.len=(bs++s.data.toList).length->r.len<=r.cap->
   ((r.base=none/\r.cap=0/\F'=[])\/∃g cs,r.base=some ⟨g,0,none⟩/\F'=[g]/\h2 g=some (.cells (List.toArray cs) 5 (0,0))/\cs.length=r.cap/\cs.take r.len=(bs++s.data.toList).map byteV)->
   NilW none (some ⟨b,0,none⟩) fun p1=>StW h2 (Addr.add p1 1) [r.v] (fun h3=>EncW zai .nilIface fun e=>Q (((ByteArray.size s):Nat):Int) e h3):=by
  intro r h2 F' l2 f2 n2 b2 r1 r2 r3
  refine zag ?_
  rw [ea]
  have c2:hcell h2 ⟨b,1,none⟩=some l.v:=by unfold hcell;simp [b2]
  have kb2:Blk h2 b [.pointer (some ⟨b,0,none⟩),l.v]:=⟨_,b2⟩
  refine ⟨kb2.stOk (off:=1) 1 (by simp),?_⟩
  obtain ⟨c,t,fr,hbb,hput⟩:=zyy1 (v:=r.v) c2
  have hbb:h2 b=some (.cells c t fr):=hbb
  rw [b2] at hbb
  cases hbb
  have e3:putL h2 ⟨b,1,none⟩ [r.v] 0=h2.set b (.cells #[.pointer (some ⟨b,0,none⟩),r.v] 76 (0,0)):=by
   show (h2.put (Addr.add ⟨b,1,none⟩ 0) r.v)=_
   rw [box_add,Nat.add_zero,hput]
   rfl
  show EncW zai .nilIface fun e=>Q _ e (putL h2 ⟨b,1,none⟩ [r.v] 0)
  rw [e3]
  refine encN (hk _ _ _ F' (zjn1 l2 hb0) f2 ⟨_,r,.inr rfl,zdu,n2,r1,r2,r3.imp id ?_⟩)
  rintro ⟨g,cs,g1,g2,g3,g4,g5⟩
  have hne:g≠b:=fun e=>n2 (by rw [g2,e];exact List.mem_singleton.2 rfl)
  refine ⟨g,cs,g1,g2,?_,g4,g5⟩
  unfold Hp.set
  grind
 have hlen:(bs++s.data.toList).length=l.len+s.size:=by grind
 rcases e3 with ⟨f1,f2,rfl⟩ | ⟨g,cs,f1,rfl,f3,f4,f5⟩
 ·have hl0:l.len=0:=by omega
  have hbs:bs=[]:=List.length_eq_zero_iff.1 (by omega)
  subst hbs
  refine ⟨[],⟨by rw [hl0];rfl,.inl (by rw [hl0])⟩,⟨by omega,by omega⟩,by rw [znw];exact zmq1 _,fun hc=>⟨fun a ha=> ?_,?_⟩,fun hc c g hg1 hg2=> ?_⟩
  ·grind
  ·have hs0:s.size=0:=by omega
   have hd0:s.data.toList=[]:=List.length_eq_zero_iff.1 (by omega)
   have e4:putO h1 l.base (l.len*1) (zfg s)=h1:=by rw [f1];rfl
   rw [e4]
   exact fin ⟨l.base,l.len+s.size,l.cap⟩ h1 [] w1 (fun g hg=>by cases hg) (by simp) k1 hlen.symm (by omega) (.inl ⟨f1,f2,rfl⟩)
  ·have hne:b≠g:=fun e=>by grind
   refine fin ⟨some ⟨g,0,none⟩,l.len+s.size,c⟩ _ [g] (Hp.le_trans w1 (zji hg2)) (fun x hx=> ?_) (fun hx=>hne (List.mem_singleton.1 hx)) ?_ hlen.symm hg1 (.inr ⟨g,_,rfl,rfl,zdu,?_,?_⟩)
   ·rw [List.mem_singleton.1 hx]
    exact zqe w1 hg2
   ·unfold Hp.set
    grind
   ·have:(zfg s).length=s.size:=by rw [znw,List.length_map,hsz]
    rw [List.length_append,List.length_append,this,ztt]
    grind
   ·show (([]++zfg s++zbn [Value.int .u8 0] (c-(l.len+s.size)))).take (l.len+s.size)=_
    rw [hl0,Nat.zero_add,List.nil_append,List.nil_append,znw,List.take_left' (by simp)]
 ·have hne:g≠b:=fun e=>hn (by grind)
  have g1:h1 g=some (.cells (List.toArray cs) 5 (0,0)):=by rw [o1 g hne];exact f3
  have kb:Blk h1 g cs:=⟨_,g1⟩
  have hg0:=hF g (List.mem_singleton.2 rfl)
  have hbl:(zfg s).length=s.size:=by rw [znw,List.length_map,hsz]
  refine ⟨cs.take l.len,?_,⟨by omega,by omega⟩,by rw [znw];exact zmq1 _,fun hc=>⟨fun a ha=> ?_,?_⟩,fun hc c g' hg1 hg2=> ?_⟩
  ·rw [f1,Nat.mul_one]
   exact kb.rd (off:=0) (n:=l.len) (by grind) (by simp)
  ·rw [f1] at ha
   cases ha
   rw [box_add,Nat.zero_add,Nat.mul_one,Nat.mul_one]
   exact kb.stOk _ (by omega)
  ·have e4:putO h1 l.base (l.len*1) (zfg s)=h1.set g (.cells (List.toArray (cs.take l.len++zfg s++cs.drop (l.len+s.size))) 5 (0,0)):=by
    rw [f1,Nat.mul_one]
    simp only [putO,box_add,Nat.zero_add]
    have hp:=zpe1 (off:=l.len) (zfg s) 0 cs h1 g1 (by omega)
    grind
   rw [e4]
   refine fin ⟨l.base,l.len+s.size,l.cap⟩ _ [g] (zjn1 w1 hg0) (fun x hx=>by grind) (fun hx=>hne (List.mem_singleton.1 hx).symm) ?_ hlen.symm hc (.inr ⟨g,_,f1,rfl,zdu,?_,?_⟩)
   ·unfold Hp.set
    grind
   ·grind
   ·show (cs.take l.len++zfg s++cs.drop (l.len+s.size)).take (l.len+s.size)=_
    rw [List.take_left' (by rw [List.length_append,List.length_take,hbl];omega),f5,znw,List.map_append]
  ·have hne2:b≠g':=fun e=>by grind
   refine fin ⟨some ⟨g',0,none⟩,l.len+s.size,c⟩ _ [g'] (Hp.le_trans w1 (zji hg2)) (fun x hx=> ?_) (fun hx=>hne2 (List.mem_singleton.1 hx)) ?_ hlen.symm hg1 (.inr ⟨g',_,rfl,rfl,zdu,?_,?_⟩)
   ·rw [List.mem_singleton.1 hx]
    exact zqe w1 hg2
   ·unfold Hp.set
    grind
   ·rw [List.length_append,List.length_append,hbl,ztt,List.length_take]
    grind
   ·show ((cs.take l.len++zfg s++zbn [Value.int .u8 0] (c-(l.len+s.size)))).take (l.len+s.size)=_
    rw [List.take_left' (by rw [List.length_append,List.length_take,hbl];omega),f5,znw,List.map_append]
theorem zrf2 {h0:Hp} {b:Nat} {bs:List UInt8} {F:List Nat} {K:ByteArray->Hp->Prop} (hw:h0<=h) (hF:∀g∈F,h0 g=none) (B:Bld h b bs F) (hl:bs.length<=1000000) (hz:bs=[]->F=[]) (hk:∀h',h0<=h'->K (txtB bs) h'):CallT Tryz.prog zew [.pointer (some ⟨b,0,none⟩)] shStr K h:=by
 obtain ⟨p,l,hp,hb,hn,e1,e2,e3⟩:=B
 intro w hs
 have hwb:=hs _ _ hb
 by_cases h0:bs=[]
 ·subst h0
  have le0:l.len=0:=e1
  rcases e3 with ⟨f1,f2,rfl⟩ | ⟨g,cs,f1,rfl,f3,f4,f5⟩
  ·have ev:l.v=.slice none 0 0:=by unfold Sl.v;rw [f1,le0,f2]
   rw [ev] at hwb
   refine (Any.Builder_String_nil zow2 Tryz.Builder_Extra_156 w.heap.size b p w hwb).mono ?_
   rintro e w' ⟨rfl,hb⟩
   exact ⟨_,h,rfl,⟨txtB [],rfl,hk h hw⟩,⟨fun i o e=>by rw [hb.block i (hs.lt e)];exact hs i o e,hb.size,fun i hi hn=>⟨hb.block i hi,hn⟩,hb.os,hb.tape,hb.output⟩⟩
  ·cases hz rfl
 ·rcases e3 with ⟨f1,f2,rfl⟩ | ⟨g,cs,f1,rfl,f3,f4,f5⟩
  ·exact absurd (List.length_eq_zero_iff.1 (by omega)) h0
  ·have ev:l.v=.slice (some ⟨g,0,none⟩) bs.length l.cap:=by unfold Sl.v;rw [f1,e1]
   rw [ev] at hwb
   have hwg:=hs _ _ f3
   have hcs:bs.length<=(List.toArray cs).size:=by grind
   refine (zvk1 zow2 Tryz.Builder_Extra_156 b g l.cap p (List.toArray cs) bs w h0 hl hwb hwg (by omega) hcs (fun j x hx=> ?_)).mono ?_
   ·have hj:j<bs.length:=(List.getElem?_eq_some_iff.1 hx).1
    rw [List.getElem?_toArray]
    have h1:(cs.take l.len)[j]? =some (byteV x):=by grind
    rw [List.getElem?_take,if_pos (by omega)] at h1
    exact h1
   ·rintro e w' ⟨rfl,rfl⟩
    have hl0:bs.length≠0:=fun e=>h0 (List.length_eq_zero_iff.1 e)
    have st:=zyk (w:=w.drew) (h:=h) hs (o:=.cells (List.toArray cs) 5 (0,bs.length)) f3
    have ew:w.drew.freeze ⟨g,0,none⟩ bs.length={w.drew with heap:=w.drew.heap.setIfInBounds g (.cells (List.toArray cs) 5 (0,bs.length))}:=by
     unfold World.freeze
     rw [if_neg hl0]
     congr 1
     apply Array.ext_getElem?
     intro i
     have hlt:g<w.drew.heap.size:=hs.lt f3
     by_cases hi:i=g
     ·subst hi
      rw [Array.getElem?_setIfInBounds_self_of_lt hlt,Array.getElem?_modify,if_pos rfl,show w.drew.heap[i]? =_ from hwg]
      simp
     grind
    rw [ew]
    exact ⟨_,_,rfl,⟨txtB bs,rfl,hk _ (zjn1 hw (hF g (List.mem_singleton.2 rfl)))⟩,st.drew⟩
end
end Lf
namespace Lf
open Go Go.Proofs Go.RowKit
theorem zvm1 {n locks:Int}:∀(l:List PIns) (i:Int),(codeR n locks l i).1=0->(codeR n locks l i).2=0
 | [],_,_=>rfl
 | x::l,i,h=>by
  unfold codeR at h ⊢
  split
  ·grind
  ·rename_i hn
   rw [if_neg hn] at h
   exact zvm1 l (i+1) h
theorem zkc2 {l:List PIns} {locks:Int} (h:(codeP l locks).1=0):(codeP l locks).2=0:=by
 unfold codeP at h ⊢
 split
 ·rfl
 ·rename_i h1
  rw [if_neg h1] at h
  split
  ·grind
  ·rename_i h2
   rw [if_neg h2] at h
   exact zvm1 l 0 h
theorem zkd2 (a b:List PIns):progB (a++b)=progB a++progB b:=List.flatMap_append
theorem zke2 (x:PIns):progB [x]=lineB x++ [10]:=by
 rw [zmi]
 rfl
theorem zvn1 {n:Int}:∀(l:List PIns),zbt2 n l->(progB l).length<=l.length*111
 | [],_=>by simp [progB]
 | x::l,h=>by
  obtain ⟨h1,h2⟩:=h x (List.mem_cons_self ..)
  have:=zmp1 h1 h2
  have:=zvn1 l fun y hy=>h y (List.mem_cons_of_mem _ hy)
  rw [zmi,List.length_append,List.length_cons,List.length_cons]
  omega
noncomputable def zcc2 (l:List PIns):List UInt8:=if (codeP l 8).1=0 then progB l else []
section
variable {h:Hp}
theorem zeu2 {xs:List S_api_Ins} {j:Nat} (hc:(codeP (xs.map insOf) 8).1=0) (hi:∀x∈xs,InI x.Imm):zbt2 (xs.length:Int) ((xs.take j).map insOf):=by
 obtain ⟨h1,h2⟩:=codeP_ok.1 hc
 intro y hy
 obtain ⟨x,hx,rfl⟩:=List.mem_map.1 hy
 have hx:=List.mem_of_mem_take hx
 have:=h2 (insOf x) (List.mem_map.2 ⟨x,hx,rfl⟩)
 rw [List.length_map] at this
 exact ⟨this,hi x hx⟩
theorem zfq1 {l:Sl} {xs:List S_api_Ins} {Q:ByteArray->Int->Int->Hp->Prop} (r:InsS h l xs) (hi:∀x∈xs,InI x.Imm) (e:PEnv h)
  (hk:∀h',h<=h'->Q (txtB (zcc2 (xs.map insOf))) (codeP (xs.map insOf) 8).1 (codeP (xs.map insOf) 8).2 h'):zes1 Tryz.prog l Q h:=by
 unfold zes1
 unfold zcc2 at hk
 have hlen:=r.1
 refine zqt1 (zeq2 r fun h1 l1=> ?_)
 by_cases hc:(codeP (xs.map insOf) 8).1=0
 ·rw [if_pos hc,zkc2 hc,hc] at hk
  rw [hc]
  obtain ⟨c1,c2⟩:=codeP_ok.1 hc
  rw [List.length_map] at c1
  refine iteF (by decide) ?_
  intro b hb
  have hle:=zji (o:=.cells [Value.pointer none,.slice none 0 0].toArray 76 (0,0)) hb
  have B0:Bld (h1.set b (.cells [Value.pointer none,.slice none 0 0].toArray 76 (0,0))) b [] []:=⟨_,⟨none,0,0⟩,.inl rfl,zdu,by simp,rfl,Nat.le_refl _,.inl ⟨rfl,rfl,rfl⟩⟩
  generalize h1.set b (.cells [Value.pointer none,.slice none 0 0].toArray 76 (0,0))=h2 at*
  refine LoopW1.intro (fun t k=>h1<=k/\∃j:Nat,t=(j:Int)/\j<=xs.length/\∃F,(∀g∈F,h1 g=none)/\Bld k b (progB ((xs.take j).map insOf)) F/\(progB ((xs.take j).map insOf)=[]->F=[])) (fun t _=>(xs.length-t).toNat)
   ⟨hle,0,rfl,by omega,[],(fun g hg=>by cases hg),by simpa [progB] using B0,fun _=>rfl⟩ ?_
  rintro _ k ⟨hk1,j,rfl,hj,F,hF,B,hz⟩
  have hbd:∀j,(progB ((xs.take j).map insOf)).length<=30000:=fun j=>by
   have h1:=zvn1 _ (zeu2 (j:=j) hc hi)
   grind
  by_cases hlt:j<xs.length
  ·refine iteT (decide_eq_true (by omega)) ?_
   refine Rs.get (sh:=sh_api_Ins) (Rw.mono (Hp.le_trans l1 hk1) r) (fun _=>rfl) (by omega) (by omega) (by omega) fun x hx=> ?_
   rw [Int.toNat_natCast] at hx
   have hxm:=List.mem_of_getElem? hx
   have hw:=c2 (insOf x) (List.mem_map.2 ⟨x,hxm,rfl⟩)
   rw [List.length_map] at hw
   have hlx:=zmp1 hw (hi x hxm)
   refine zjg1 (zsc1 hw (hi x hxm) (e.mono (Hp.le_trans l1 hk1)) fun k2 l2=> ?_)
   have hstep:progB ((xs.take (j+1)).map insOf)=progB ((xs.take j).map insOf)++(lineB (insOf x)++ [10]):=by
    rw [List.take_add_one,hx,List.map_append,zkd2]
    show _++progB [insOf x]=_
    rw [zke2]
   have hb0:=hbd j
   refine zpv (znq2 (h0:=h1) (Hp.le_trans hk1 l2) hb hF (B.le l2) ?_ fun n er k3 F' l3 hF' B'=> ?_)
   ·rw [zjv,List.length_append,List.length_singleton]
    omega
   ·rw [zay,<-hstep] at B'
    rw [zab (by omega) (by omega)]
    refine ⟨⟨l3,j+1,by omega,by omega,F',hF',B',fun hz'=> ?_⟩,by omega⟩
    grind
  ·have hje:j=xs.length:=by omega
   refine iteF (fun hh=>hlt (by grind)) ?_
   have hb0:=hbd j
   refine zrf2 (h0:=h1) hk1 hF B (by omega) hz fun h' hl'=> ?_
   rw [hje,List.take_of_length_le (Nat.le_refl _)]
   exact hk h' (Hp.le_trans l1 hl')
 ·rw [if_neg hc] at hk
  exact iteT (bne_iff_ne.2 hc) (hk h1 l1)
end
section
variable {P:Program} {h:Hp}
theorem joinA {α:Type} {v:α} {A:(α->Hp->Prop)->Prop} {B:α->Hp->Prop} (hA:∀k:α->Hp->Prop,k v h->A k) (hB:B v h):JoinW1 A B:=JoinW1.intro (fun x h'=>x=v/\h'=h) (hA _ ⟨rfl,rfl⟩) (by grind)
def zkf2 (op:Int) (k:Bool->Hp->Prop) (h:Hp):List Int->Prop
 | []=>True
 | [a]=>k (op==a) h
 | a::b::r=>if (op==a)=true then k (op==a) h else zkf2 op k h (b::r)
theorem zyj {op:Int} {k:Bool->Hp->Prop}:∀l:List Int,l≠ []->k (decide (op∈l)) h->zkf2 op k h l
 | [],hn,_=>absurd rfl hn
 | [a],_,hk=>by
  have:(op==a)=decide (op∈ [a]):=by grind
  show k (op==a) h
  grind
 | a::b::r,_,hk=>by
  show if (op==a)=true then k (op==a) h else zkf2 op k h (b::r)
  by_cases e:op=a
  ·grind
  ·rw [if_neg (by simpa using e)]
   refine zyj (b::r) (by simp) ?_
   grind
theorem zev2 {op:Int} {Q:Bool->Bool->Bool->Bool->Hp->Prop} (hq:Q (zam op).1 (zam op).2.1 (zam op).2.2.1 (zam op).2.2.2 h):zjr P op Q h:=by
 unfold zjr
 unfold zam at hq
 by_cases h1:op=1
 ·grind
 rw [if_neg h1] at hq;rw [if_neg (by simpa using h1)]
 refine joinA (h:=h) (v:=decide (op∈ [2,20,21,25,26])) (fun k hk=>zyj [2,20,21,25,26] (by simp) hk) ?_
 by_cases h2:op∈ [2,20,21,25,26]
 ·grind
 rw [if_neg (fun e=>h2 (of_decide_eq_true e))]
 rw [if_neg (by simpa using h2)] at hq
 refine joinA (h:=h) (v:=decide (op∈ [3,4,5,6,7,8,9,10,11,12,13,14])) (fun k hk=>zyj [3,4,5,6,7,8,9,10,11,12,13,14] (by simp) hk) ?_
 by_cases h3:op∈ [3,4,5,6,7,8,9,10,11,12,13,14]
 ·rw [if_pos (decide_eq_true h3)]
  rw [if_pos (Or.inl (by simp at h3;omega))] at hq
  exact hq
 rw [if_neg (fun e=>h3 (of_decide_eq_true e))]
 refine joinA (h:=h) (v:=decide (op∈ [15,16,17,18,19,24])) (fun k hk=>zyj [15,16,17,18,19,24] (by simp) hk) ?_
 by_cases h4:op∈ [15,16,17,18,19,24]
 ·rw [if_pos (decide_eq_true h4)]
  rw [if_pos (Or.inr (by simp at h4;omega))] at hq
  exact hq
 rw [if_neg (fun e=>h4 (of_decide_eq_true e))]
 rw [if_neg (by simp at h3 h4;omega)] at hq
 refine joinA (h:=h) (v:=decide (op∈ [22,29,30])) (fun k hk=>zyj [22,29,30] (by simp) hk) ?_
 by_cases h5:op∈ [22,29,30]
 ·grind
 rw [if_neg (fun e=>h5 (of_decide_eq_true e))]
 rw [if_neg (by simpa using h5)] at hq
 by_cases h6:op=23
 ·grind
 rw [if_neg h6] at hq;rw [if_neg (by simpa using h6)]
 refine joinA (h:=h) (v:=decide (op∈ [27,28,31,32,33])) (fun k hk=>zyj [27,28,31,32,33] (by simp) hk) ?_
 grind
end
theorem zvq {c:UInt8} {n:Nat} (hn:n<256):((c.toNat:Nat):Int)=(n:Int)↔c=UInt8.ofNat n:=by
 constructor
 ·intro e
  apply UInt8.toNat_inj.1
  rw [zxd hn]
  omega
 ·rintro rfl
  rw [zxd hn]
theorem zik1 {l:List UInt8} {j:Nat} {c:UInt8} (h:l[j]? =some c):l.getD j 0=c:=by grind
theorem zyw1 {l:List UInt8} {j:Nat} {c:UInt8} (h:l[j]? =some c):zbv l j=if c=32 then [] else c::zbv l (j+1):=by
 obtain ⟨h1,h2⟩:=List.getElem?_eq_some_iff.1 h
 unfold zbv
 rw [List.drop_eq_getElem_cons h1,h2,List.takeWhile_cons]
 simp
theorem zew2 {l:List UInt8} {j:Nat} (h:l.length<=j):zbv l j=[]:=by
 unfold zbv
 rw [List.drop_of_length_le h]
 rfl
theorem zmr1 (l:List UInt8) (j:Nat):(l.take (j+(zbv l j).length)).drop j=zbv l j:=by
 rw [List.drop_take,Nat.add_sub_cancel_left]
 exact (List.prefix_iff_eq_take.1 (List.takeWhile_prefix (p:=(· !=32)) (l:=l.drop j))).symm
theorem zcd2 {w:List UInt8} (h:∀k,k<8->w≠ [114,UInt8.ofNat (48+k)]):regOf w=none:=by
 unfold regOf
 grind
section
variable {h:Hp} {s:ByteArray}
theorem zkg2 {a:Nat} {Q:Int->Hp->Prop} (ha:a<=s.size) (hs:s.size<4611686018427387904) (hq:Q ((a+(zbv s.data.toList a).length:Nat):Int) h):zlp Tryz.prog s (a:Int) Q h:=by
 unfold zlp
 have hl:=zgc s
 refine LoopW1.intro (fun i k=>k=h/\∃j:Nat,i=(j:Int)/\j<=s.size/\j+(zbv s.data.toList j).length=a+(zbv s.data.toList a).length) (fun i _=>(s.size-i).toNat) ⟨rfl,a,rfl,ha,rfl⟩ ?_
 rintro _ k ⟨rfl,j,rfl,hj,he⟩
 refine ⟨fun hh=>⟨by omega,of_decide_eq_true hh⟩,letW ?_⟩
 by_cases hlt:j<s.size
 ·obtain ⟨c,hc⟩:∃c,s.data.toList[j]? =some c:=⟨_,List.getElem?_eq_getElem (by omega)⟩
  rw [Int.toNat_natCast,zik1 hc,zyw1 hc] at*
  by_cases h32:c=32
  ·rw [if_pos h32] at he
   refine iteF (fun hh=> ?_) ?_
   ·rw [Bool.and_eq_true] at hh
    exact bne_iff_ne.1 hh.2 ((zvq (n:=32) (by decide)).2 h32)
   grind
  ·rw [if_neg h32,List.length_cons] at he
   refine iteT ?_ ?_
   ·rw [Bool.and_eq_true]
    exact ⟨decide_eq_true (by omega),bne_iff_ne.2 fun e=>h32 ((zvq (n:=32) (by decide)).1 e)⟩
   ·rw [zab (by omega) (by omega)]
    grind
 ·rw [zew2 (by omega:s.data.toList.length<=j),List.length_nil,Nat.add_zero] at he
  grind
theorem zvo1 {a:Nat} {Q:ByteArray->Int->Int->Bool->Hp->Prop} (ha:a<=s.size) (hs:s.size<4611686018427387904) (hn:a=s.size->Q ⟨#[]⟩ 0 0 false h)
  (hy:a<s.size->Q (txtB (zbv s.data.toList (a+1))) ((a+1:Nat):Int) ((a+1+(zbv s.data.toList (a+1)).length:Nat):Int) true h):zkm Tryz.prog s (a:Int) Q h:=by
 unfold zkm
 have hl:=zgc s
 by_cases h1:a=s.size
 ·grind
 ·have hw:=zob s.data.toList (a+1)
  have ew:IntKind.wrap .i64 ((a:Int)+1)=((a+1:Nat):Int):=by rw [zab (by omega) (by omega)];omega
  refine iteF (fun hh=>h1 (by have:=beq_iff_eq.1 hh;omega)) ?_
  rw [ew]
  refine znz (zkg2 (a:=a+1) (by omega) hs ?_)
  have hle:a+1+(zbv s.data.toList (a+1)).length<=s.size:=by omega
  refine ⟨⟨Int.natCast_nonneg _,Int.ofNat_le.2 (Nat.le_add_right _ _),Int.ofNat_le.2 hle⟩,?_⟩
  rw [Int.toNat_natCast,Int.toNat_natCast,zgm,zmr1]
  grind
theorem zrg2 {Q:Int->Bool->Hp->Prop} (h1:∀n,regOf s.data.toList=some n->Q (n:Int) true h) (h0:regOf s.data.toList=none->Q 0 false h):zhr Tryz.prog s Q h:=by
 unfold zhr
 have hl:=zgc s
 have h20:∀c:UInt8,(((c.toNat:Nat):Int) !=(114:Int))=true↔c≠114:=fun c=>by
  rw [bne_iff_ne]
  exact not_congr (zvq (n:=114) (by decide))
 by_cases h2:s.size=2
 ·obtain ⟨c,d,hcd⟩:∃c d,s.data.toList=[c,d]:=by
   rw [h2] at hl
   match hq:s.data.toList,hl with
   | [c,d],_=>simp
  rw [hcd] at h0 h1 ⊢
  rw [h2]
  refine ⟨fun _=>⟨by omega,by omega⟩,letW ⟨fun _=>⟨by omega,by omega⟩,letW ⟨fun _=>⟨by omega,by omega⟩,letW ?_⟩⟩⟩
  show (if ((((((2:Nat):Int) !=2) || (((c.toNat:Nat):Int) !=114)) || decide (((d.toNat:Nat):Int)<48)) || decide (((d.toNat:Nat):Int)>55))=true then Q 0 false h else _)
  by_cases hok:c=114/\48<=d.toNat/\d.toNat<=55
  ·obtain ⟨rfl,d0,d1⟩:=hok
   have ed:d=UInt8.ofNat (48+(d.toNat-48)):=by
    apply UInt8.toNat_inj.1
    rw [zxd (by omega)]
    omega
   refine iteF (fun hh=> ?_) ⟨⟨by omega,by omega⟩,?_⟩
   ·grind
   ·have:=h1 (d.toNat-48) (by
     have:=zmi1 (d.toNat-48) (by omega)
     rw [<-ed] at this
     exact this)
    show Q (IntKind.wrap .i64 (IntKind.wrap .u8 (((d.toNat:Nat):Int)-48))) true h
    rw [byte8,zab (by omega) (by omega)]
    grind
  ·refine iteT ?_ (h0 (zcd2 fun n hn e=>hok ?_))
   ·grind
   ·obtain ⟨e1,e2⟩:=List.cons.inj e
    obtain ⟨e3, -⟩:=List.cons.inj e2
    refine ⟨e1,?_⟩
    rw [e3,zxd (by omega)]
    omega
 ·have hno:regOf s.data.toList=none:=zcd2 fun n _ e=>h2 (by grind)
  have hb:((((s.size:Nat):Int)) !=(2:Int))=true:=bne_iff_ne.2 fun e=>h2 (by omega)
  rw [hb]
  simp only [Bool.true_or,Bool.not_true,Bool.false_eq_true,false_implies,true_and]
  exact letW ⟨fun hh=>(by cases hh),letW ⟨fun hh=>(by cases hh),letW (iteT rfl (h0 hno))⟩⟩
theorem zja1 {zs:List Nat} (j:Nat):numV (zs.take j)<=numV zs:=by
 have e:numV zs=(zs.drop j).foldl (fun n z=>10*n+(z-48)) (numV (zs.take j)):=by
  unfold numV
  rw [<-List.foldl_append,List.take_append_drop]
 rw [e]
 exact zyj1 _ _
theorem zex2 {v:Int} {Q:Int->Bool->Hp->Prop} (hv:InI v) (hd:s.data.toList=decB v) (t:zlz h) (hk:∀h',h<=h'->Q v true h'):zci Tryz.prog s Q h:=by
 unfold zci
 have hl:=zgc s
 have hlen:=zka1 hv
 rw [<-hd,hl] at hlen
 obtain ⟨v0,v1⟩:=hv
 generalize hzs:decL v.natAbs=zs at*
 have hdig:Digs zs:=by rw [<-hzs];exact zuo _
 have hval:numV zs=v.natAbs:=by rw [<-hzs];exact zgv1 _
 have hzl:1<=zs.length:=by rw [<-hzs,zmg];exact zkx _
 obtain ⟨a,ha⟩:∃a:Nat,a=if v<0 then 1 else 0:=⟨_,rfl⟩
 have hsz:s.size=a+zs.length:=by
  rw [<-hl,hd,ha]
  unfold decB bB signL
  grind
 have hat:∀j z,zs[j]? =some z->s.data.toList[a+j]? =some (UInt8.ofNat z):=by
  intro j z hz
  rw [hd,ha]
  unfold decB bB signL
  grind
 have hfirst:(decide (((s.size:Nat):Int)>0)&&((((UInt8.toNat (List.getD s.data.toList 0 0)):Nat):Int)==(45:Int)))=decide (v<0):=by
  rw [decide_eq_true (show ((s.size:Nat):Int)>0 by omega),Bool.true_and]
  by_cases hn:v<0
  ·have:s.data.toList[0]? =some 45:=by
    rw [hd]
    unfold decB bB signL
    grind
   rw [zik1 this,decide_eq_true hn]
   rfl
  ·have ha0:a=0:=by rw [ha,if_neg hn]
   obtain ⟨z,hz⟩:∃z,zs[0]? =some z:=⟨_,List.getElem?_eq_getElem (by omega)⟩
   have h2:=hat 0 z hz
   rw [ha0] at h2
   have hz2:=hdig z (List.mem_of_getElem? hz)
   rw [zik1 h2,zxd (by omega),decide_eq_false hn,beq_eq_false_iff_ne]
   omega
 rw [hfirst]
 refine ⟨fun hh=>⟨by omega,of_decide_eq_true hh⟩,letW ?_⟩
 refine JoinW1.intro (fun at_ k=>k=h/\at_=(a:Int)) ?_ ?_
 ·grind
 rintro _ k ⟨rfl,rfl⟩
 refine LoopW2.intro (fun n i k'=>k'=k/\∃j:Nat,i=((a+j:Nat):Int)/\j<=zs.length/\n= -((numV (zs.take j):Nat):Int)) (fun _ i _=>(s.size-i).toNat) ⟨rfl,0,by omega,by omega,rfl⟩ ?_
 rintro _ _ k' ⟨rfl,j,rfl,hj,rfl⟩
 have hle:=zja1 (zs:=zs) j
 by_cases hlt:j<zs.length
 ·obtain ⟨z,hz⟩:∃z,zs[j]? =some z:=⟨_,List.getElem?_eq_getElem hlt⟩
  have hz2:=hdig z (List.mem_of_getElem? hz)
  have hle2:=zja1 (zs:=zs) (j+1)
  have hstep:numV (zs.take (j+1))=10*numV (zs.take j)+(z-48):=by
   rw [List.take_add_one,hz]
   exact zyh _ _
  rw [hstep] at hle2
  have hc:=hat j z hz
  rw [Int.toNat_natCast,zik1 hc,zxd (by omega)]
  generalize numV (zs.take j)=m at*
  have hin:(0:Int)<=((a+j:Nat):Int)/\((a+j:Nat):Int)<((s.size:Nat):Int):=⟨by omega,by omega⟩
  refine iteT (decide_eq_true hin.2) ⟨hin,fun _=>hin,letW (iteF (fun hh=> ?_) ⟨hin,by decide,?_⟩)⟩
  ·grind
  ·have ed:IntKind.wrap .i64 (IntKind.wrap .u8 (((z:Nat):Int)-48))=((z-48:Nat):Int):=by
    rw [byte8,zab (by omega) (by omega)]
    omega
   rw [ed]
   have hd9:z-48<=9:=by omega
   generalize z-48=d at*
   have ew:IntKind.wrap .i64 (-9223372036854775808+(d:Int))= -((9223372036854775808-d:Nat):Int):=by rw [zab (by omega) (by omega)];omega
   have et:Int.tdiv (-((9223372036854775808-d:Nat):Int)) 10= -(((9223372036854775808-d) / 10:Nat):Int):=by
    simp
   rw [ew,et,zab (n:= -(((9223372036854775808-d) / 10:Nat):Int)) (by omega) (by omega)]
   have hmd:10*m+d<=9223372036854775808:=by omega
   refine iteF (fun hh=> ?_) ?_
   ·grind
   ·rw [zab (n:=10* -((m:Nat):Int)) (by omega) (by omega),zab (n:=10* -((m:Nat):Int)-(d:Int)) (by omega) (by omega),zab (n:=((a+j:Nat):Int)+1) (by omega) (by omega)]
    grind
 ·have hje:j=zs.length:=by omega
  subst hje
  rw [List.take_of_length_le (Nat.le_refl _),hval]
  refine iteF (fun hh=> ?_) ?_
  ·grind
  have fin:∀k2,k2=k'->CallT Tryz.prog zeb [(.int .i64 v),(.int .i64 (10:Int))] shStr (fun r h4=>Q v ((ByteArray.toList r)==(ByteArray.toList s)) h4) k2:=by
   rintro k2 rfl
   refine zgu (zhe1 ⟨v0,v1⟩ t fun h' hl'=> ?_)
   rw [show ((ByteArray.toList (txtB (decB v)))==(ByteArray.toList s))=true from txt_beq.2 (by rw [zay,hd])]
   exact hk h' hl'
  refine JoinW1.intro (fun n1 k2=>k2=k'/\n1=v) ?_ ?_
  ·by_cases hn:v<0
   ·grind
   ·rw [decide_eq_false hn]
    refine iteT rfl (iteF (fun hh=> ?_) ⟨rfl,?_⟩)
    ·grind
    ·rw [zab (by omega) (by omega)]
     omega
  ·rintro _ k2 ⟨rfl,rfl⟩
   exact fin _ rfl
theorem zkh2 {Q:Int->Bool->Hp->Prop} (hs:s.size<4611686018427387904) (hd:∀v,InI v->s.data.toList≠decB v) (t:zlz h) (hk:∀h' v,h<=h'->Q v false h'):zci Tryz.prog s Q h:=by
 unfold zci
 refine ⟨fun hh=>⟨by omega,of_decide_eq_true hh⟩,letW ?_⟩
 refine JoinW1.intro (fun at_ k=>k=h/\0<=at_) (iteB (fun _=>⟨rfl,by decide⟩) fun _=>⟨rfl,by decide⟩) ?_
 rintro at_ k ⟨rfl,hat⟩
 refine LoopW2.intro (fun n i k'=>k'=k/\InI n/\0<=i) (fun _ i _=>(s.size-i).toNat) ⟨rfl,by unfold InI;omega,hat⟩ ?_
 rintro n i k' ⟨rfl,hn,hi⟩
 refine iteB (fun hlt=> ?_) fun _=> ?_
 ·have hlt:i<((s.size:Nat):Int):=of_decide_eq_true hlt
  refine ⟨⟨hi,hlt⟩,fun _=>⟨hi,hlt⟩,letW (iteB (fun _=>hk _ _ (Hp.le_refl _)) fun _=>⟨⟨hi,hlt⟩,by decide,iteB (fun _=>hk _ _ (Hp.le_refl _)) fun _=> ?_⟩)⟩
  rw [zab (n:=i+1) (by omega) (by omega)]
  exact ⟨⟨rfl,zrw1 _,by omega⟩,by omega⟩
 ·refine JoinW1.intro (fun n1 k2=>k2=k'/\InI n1) (iteB (fun _=>iteB (fun _=>hk _ _ (Hp.le_refl _)) fun _=>⟨rfl,zrw1 _⟩) fun _=>⟨rfl,hn⟩) ?_
  rintro n1 k2 ⟨rfl,h1⟩
  refine zgu (zhe1 h1 t fun h' hl'=> ?_)
  rw [show ((ByteArray.toList (txtB (decB n1)))==(ByteArray.toList s))=false by
   rw [Bool.eq_false_iff]
   intro hh
   have:=txt_beq.1 hh
   rw [zay] at this
   grind]
  exact hk h' n1 hl'
theorem zki2 {Q:Int->Bool->Hp->Prop} (hs:s.size<4611686018427387904) (t:zlz h) (hk:∀h' v,h<=h'->(∀u,intV s.data.toList=some u->v=u)->Q v (intV s.data.toList).isSome h'):zci Tryz.prog s Q h:=by
 cases hq:intV s.data.toList with
 | some v=>
  obtain ⟨h1,h2⟩:=zhc1 hq
  refine zex2 h2 h1 t fun h' hl=> ?_
  grind
 | none=>
  refine zkh2 hs (fun v hv e=> ?_) t fun h' v hl=> ?_
  ·rw [e,zru1 hv] at hq
   cases hq
  grind
end
end Lf
