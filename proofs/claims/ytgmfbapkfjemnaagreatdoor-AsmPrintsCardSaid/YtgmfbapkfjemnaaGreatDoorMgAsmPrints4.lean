/-
  Part 5 of the texts that the claim leans on.
-/
import Derived.Test.YtgmfbapkfjemnaaGreatDoorCards
import Derived.Test.YtgmfbapkfjemnaaGreatDoorTie
import Derived.Lib.ParseIntBCases
import Derived.Shelf.Strings.Search1
import Derived.Shelf.Strings.Count
import Derived.Shelf.LaysC
import Derived.Shelf.Strconv.ParseInt10All
import Derived.Test.YtgmfbapkfjemnaaGreatDoorProg
import Derived.Shelf.Strings.Builder1
import Derived.Shelf.Strings.OnBuilder
import Derived.Shelf.RegionOpenPlain
import Derived.Lib.Strings
import Derived.Lib.Slices
import Derived.Lib.Walk
import Derived.Lib.Builder
import Derived.Lib.AppendStr
import Derived.Lib.UnsafeStr
import Derived.Lib.MakeNoZero
import Derived.WalkKit
import Derived.Laws.Externs
import Derived.Laws.IdiomCopy
import Derived.Laws.BitsLemmas
import Derived.Test.YtgmfbapkfjemnaaGreatDoorMgAsmPrints3
namespace Lf
open Go Go.Proofs
theorem zka (xs ys:List Nat):(⟨⟨List.append (strN xs).data.toList (strN ys).data.toList⟩⟩:ByteArray)=strN (xs++ys):=by
 rw [zgy,zgy]
 unfold strN
 rw [List.map_append];rfl
theorem zju2 :∀d,d<16→ByteArray.extract ⟨#[48,49,50,51,52,53,54,55,56,57,97,98,99,100,101,102]⟩ d (d+1)=strN [hexD d]:=fun d hd=>ztn (by
 have:∀d,d<16→(ByteArray.extract ⟨#[48,49,50,51,52,53,54,55,56,57,97,98,99,100,101,102]⟩ d (d+1)).data=(strN [hexD d]).data:=by decide+kernel
 exact this d hd)
theorem zst (n:Nat):(hexL n).length=16:=by simp [hexL]
theorem zkd1 {n i:Nat} (hi:i<16):(hexL n)[i]? =some (hexD (n / 16^(15-i)%16)):=by
 unfold hexL
 rw [List.getElem?_map,List.getElem?_range hi];rfl
section
variable {h:Hp}
theorem and15 (x:Nat) (hx:x<18446744073709551616):bitsI .and .u64 (x:Int) (15:Int)=((x%16:Nat):Int):=by
 unfold bitsI
 dsimp only
 rw [zqb,BitVec.toNat_and,zla hx,show (BitVec.ofInt 64 15).toNat=2^4-1 by decide,Nat.and_two_pow_sub_one_eq_mod,zal]
 omega
theorem zpd2 {n:Nat} {Q:ByteArray→Hp→Prop} (hn:n<18446744073709551616) (hk:Q (strN (hexL n)) h):zlr Tryz.prog (n:Int) Q h:=by
 unfold zlr
 refine LoopW2.intro (fun s i k=>k=h∧ -1≤i∧i≤15∧s=strN ((hexL n).take (15-i).toNat)) (fun _ i _=>(i+1).toNat) ⟨rfl,by omega,by omega,rfl⟩ ?_
 rintro s i h ⟨rfl,i0,i1,rfl⟩
 by_cases hi:i≥0
 ·obtain ⟨j,rfl⟩:=Int.eq_ofNat_of_zero_le hi
  refine iteT (decide_eq_true hi) ?_
  have e4:IntKind.wrap .i64 ((4:Int)*(j:Int))=((4*j:Nat):Int):=by rw [zad (by omega) (by omega)];omega
  have hlt:n / 2^(4*j)<18446744073709551616:=Nat.lt_of_le_of_lt (Nat.div_le_self _ _) hn
  rw [e4,shrN n (n:=4*j) (by omega),and15 _ hlt]
  have hd:n / 2^(4*j)%16<16:=Nat.mod_lt _ (by decide)
  have e16:n / 2^(4*j)%16=n / 16^(15-(15-j))%16:=by
   rw [show 15-(15-j)=j by omega,Nat.pow_mul]
  rw [e16] at hd ⊢
  generalize hD:n / 16^(15-(15-j))%16=d at*
  have e1:IntKind.wrap .u64 ((d:Int)+1)=((d+1:Nat):Int):=by rw [zal];omega
  rw [e1,Int.toNat_natCast,Int.toNat_natCast,zju2 d hd,zka]
  refine ⟨by omega,⟨by omega,by omega,by omega⟩,?_,?_⟩
  ·rw [zan,zan,List.length_take]
   simp only [List.length_singleton]
   omega
  ·rw [zad (by omega) (by omega)]
   refine ⟨⟨rfl,by omega,by omega,?_⟩,by omega⟩
   rw [show ((15:Int)-((j:Int)-1)).toNat=(15-j)+1 by omega,show ((15:Int)-(j:Int)).toNat=15-j by omega,List.take_add_one,zkd1 (by omega),hD]
   rfl
 ·refine iteF (fun hh=>hi (of_decide_eq_true hh)) ?_
  rw [List.take_of_length_le (by rw [zst];omega)]
  exact hk
theorem znp2 {b:Nat} {Q:ByteArray→Hp→Prop} (h1:0<b) (h2:b<9218868437227405312) (hk:∀h' out,h≤h'→TextF b false out→Q (strN out) h'):zgv Tryz.prog (b:Int) Q h:=by
 unfold zgv
 refine iteF (fun hh=>by have:((b:Nat):Int)=0:=beq_iff_eq.1 hh;omega) ?_
 refine zud (zfx2 h1 h2 fun k v s lk hm hv s0 s1 he=> ?_)
 obtain ⟨hvb,hs⟩:=zkc1 h1 h2 hm s0 he
 have hp:=pF_in h1 h2
 have hln:=zsx (m:=v) (by omega)
 refine zdp (zby1 (by omega) fun k1 l1=> ?_)
 have hT:∀out,out=numL false v s→TextF b false out:=fun out e=>⟨v,s,hm,s0,he,e⟩
 have hhead:headL false (lenN v) v=match decL v with | []=> [] | c::ds=>c::(if ds=[] then [] else 46::ds):=by
  unfold headL decL
  cases digL (lenN v) v<;>rfl
 unfold numL at hT
 rw [hhead] at hT
 rw [zmi] at hln
 have hdl:=zmi v
 cases hq:decL v with
 | nil=>rw [hq] at hdl;simp at hdl;omega
 | cons c ds=>
  rw [hq] at hT hdl
  rw [List.length_cons] at hdl
  dsimp only at hT
  have e0:(strN (c::ds)).extract 0 1=strN [c]:=by rw [zim _ _ _ (by simp)];rfl
  have e1:(strN (c::ds)).extract 1 (ds.length+1)=strN ds:=by rw [zim _ _ _ (by simp),List.take_of_length_le (by simp)];rfl
  rw [zan,List.length_cons,e0,e1]
  have c46:(46:UInt8)::(strN ds).data.toList=(strN (46::ds)).data.toList:=by rw [zgy,zgy];rfl
  refine ⟨⟨by decide,by omega⟩,JoinW1.intro (fun t k2=>k2=k1∧t=strN (c::(if ds=[] then [] else 46::ds))) ?_ ?_⟩
  ·by_cases hd:ds=[]
   ·subst hd
    exact iteF (by decide) ⟨rfl,rfl⟩
   ·have:=List.length_pos_iff.2 hd
    refine iteT (decide_eq_true (by omega)) ⟨⟨by decide,by omega⟩,by rw [zan];omega,?_,rfl,?_⟩
    ·rw [c46]
     show _+(strN (46::ds)).data.size≤_
     have:(strN (46::ds)).data.size=(46::ds).length:=zan _
     rw [this,zan]
     simp only [List.length_cons,List.length_nil]
     omega
    ·rw [c46,zka,if_neg hd];rfl
  rintro _ k2 ⟨rfl,rfl⟩
  have hlen:(c::(if ds=[] then [] else 46::ds)).length≤ds.length+2:=by
   rw [List.length_cons]
   split
   ·simp
   ·simp
  generalize c::(if ds=[] then [] else 46::ds)=H at*
  have hE:s+(lenN v:Int)-1=(lenN v:Int)+s-1:=by omega
  have b101:([101,45]:List UInt8)=(strN [101,45]).data.toList:=rfl
  have b101':([101]:List UInt8)=(strN [101]).data.toList:=rfl
  rw [hE]
  have hEb: -2000≤(lenN v:Int)+s-1∧(lenN v:Int)+s-1≤4000:=by omega
  generalize (lenN v:Int)+s-1=E at*
  by_cases hneg:E<0
  ·refine iteT (decide_eq_true hneg) ⟨by rw [zan];omega,?_⟩
   have ee:IntKind.wrap .u64 (IntKind.wrap .i64 ((0:Int)-E))=((E.natAbs:Nat):Int):=by rw [zad (by omega) (by omega),zal];omega
   rw [ee]
   refine zdp (zby1 (by omega) fun k3 l3=> ?_)
   have hx:=(zsx (m:=E.natAbs) (by omega)).1
   rw [b101,show (strN H).data.toList.append (strN [101,45]).data.toList=(strN (H++ [101,45])).data.toList by rw [←zka]]
   refine ⟨?_,?_⟩
   ·show (strN (H++ [101,45])).data.size+_≤_
    have:(strN (H++ [101,45])).data.size=(H++ [101,45]).length:=zan _
    rw [this,zan,List.length_append]
    simp only [List.length_cons,List.length_nil]
    omega
   ·rw [zka]
    refine hk k3 _ (Hp.le_trans lk (Hp.le_trans l1 l3)) (hT _ ?_)
    unfold signL
    rw [if_pos hneg]
    simp
  ·refine iteF (fun hh=>hneg (of_decide_eq_true hh)) ⟨by rw [zan];omega,?_⟩
   have ee:IntKind.wrap .u64 E=((E.natAbs:Nat):Int):=by rw [zal];omega
   rw [ee]
   refine zdp (zby1 (by omega) fun k3 l3=> ?_)
   have hx:=(zsx (m:=E.natAbs) (by omega)).1
   rw [b101',show (strN H).data.toList.append (strN [101]).data.toList=(strN (H++ [101])).data.toList by rw [←zka]]
   refine ⟨?_,?_⟩
   ·show (strN (H++ [101])).data.size+_≤_
    have:(strN (H++ [101])).data.size=(H++ [101]).length:=zan _
    rw [this,zan,List.length_append]
    simp only [List.length_cons,List.length_nil]
    omega
   ·rw [zka]
    refine hk k3 _ (Hp.le_trans lk (Hp.le_trans l1 l3)) (hT _ ?_)
    unfold signL
    rw [if_neg hneg]
    simp
theorem zfy2 {r:Nat} {out:List Nat} (h:TextF r false out):TextF r true (45::out):=by
 obtain ⟨v,s,a1,a2,a3,rfl⟩:=h
 refine ⟨v,s,a1,a2,a3,?_⟩
 have hl:=zli v
 have hd:=zmh (lenN v) v
 unfold numL headL
 cases hq:digL (lenN v) v with
 | nil=>rw [hq] at hd;simp at hd;omega
 | cons c ds=>simp
theorem zwb1 {n:Int} {w:Nat} {Q:ByteArray→Hp→Prop} (hn:IntKind.wrap .u64 n=(w:Int)) (hw:w<18446744073709551616) (hk:∀h' out,h≤h'→zcd w out→Q (strN out) h'):zji Tryz.prog n Q h:=by
 unfold zji
 rw [hn,zjb2 hw,zvo1 hw]
 have hsg:(((sgn (negD w):Nat):Int) !=0)=negD w:=by cases negD w<;>rfl
 rw [hsg]
 have hr:w%9223372036854775808<9223372036854775808:=Nat.mod_lt _ (by decide)
 unfold zcd at hk
 refine JoinW1.intro (fun s k=>k=h∧(w%9223372036854775808≤9218868437227405312→s=strN (if negD w then [45] else []))) (letW ?_) ?_
 ·by_cases hc:w%9223372036854775808≤9218868437227405312
  ·rw [decide_eq_true (show ((w%9223372036854775808:Nat):Int)≤9218868437227405312 by omega),Bool.and_true]
   cases hb:negD w with
   | true=>exact iteT rfl ⟨rfl,fun _=>rfl⟩
   | false=>exact iteF (by decide) ⟨rfl,fun _=>rfl⟩
  ·rw [decide_eq_false (show ¬((w%9223372036854775808:Nat):Int)≤9218868437227405312 by omega),Bool.and_false]
   exact iteF (by decide) ⟨rfl,fun h=>absurd h hc⟩
 rintro s h ⟨rfl,hs⟩
 by_cases c1:9218868437227405312<w%9223372036854775808
 ·refine iteT (decide_eq_true (by omega)) (zyi (zpd2 hw ⟨by rw [zan,zst];decide,?_⟩))
  have e:(⟨⟨110::(97::(110::(58::(strN (hexL w)).data.toList)))⟩⟩:ByteArray)=strN ([110,97,110,58]++hexL w):=by rw [←zka];rfl
  rw [e]
  exact hk h _ (Hp.le_refl _) (by rw [if_pos c1])
 ·refine iteF (fun hh=>c1 (by have:=of_decide_eq_true hh;omega)) ?_
  have hs:=hs (by omega)
  subst hs
  have sgl:((if negD w then [45] else []):List Nat).length≤1:=by split<;>simp
  by_cases c2:w%9223372036854775808=9218868437227405312
  ·refine iteT (by rw [c2];rfl) ⟨by rw [zan];omega,?_⟩
   have e:(⟨⟨List.append (strN (if negD w then [45] else [])).data.toList [105,110,102]⟩⟩:ByteArray)=strN ((if negD w then [45] else [])++ [105,110,102]):=by rw [←zka];rfl
   rw [e]
   exact hk h _ (Hp.le_refl _) (by rw [if_neg c1,if_pos c2])
  ·refine iteF (fun hh=>c2 (by have:((w%9223372036854775808:Nat):Int)=9218868437227405312:=beq_iff_eq.1 hh;omega)) (zwt ?_)
   by_cases c3:w%9223372036854775808=0
   ·rw [c3]
    unfold zgv
    refine iteT rfl ⟨by rw [zan];show _+3≤_;omega,?_⟩
    have e:(⟨⟨List.append (strN (if negD w then [45] else [])).data.toList (⟨#[48,101,48]⟩:ByteArray).data.toList⟩⟩:ByteArray)=strN ((if negD w then [45] else [])++ [48,101,48]):=by rw [←zka];rfl
    rw [e]
    exact hk h _ (Hp.le_refl _) (by rw [if_neg c1,if_neg c2,if_pos c3])
   ·refine znp2 (by omega) (by omega) fun k out lk ht=> ?_
    have hol:out.length≤25:=by
     have h1:zcd (w%9223372036854775808) out:=by
      unfold zcd
      rw [Nat.mod_eq_of_lt hr,if_neg c1,if_neg c2,if_neg c3,show negD (w%9223372036854775808)=false by unfold negD;rw [decide_eq_false (by omega)]]
      exact ht
     exact (zpx h1).1
    rw [zka]
    refine ⟨by rw [zan,zan];omega,hk k _ lk ?_⟩
    rw [if_neg c1,if_neg c2,if_neg c3]
    cases hb:negD w with
    | true=>exact zfy2 ht
    | false=>exact ht
end
end Lf

namespace Lf
open Go Go.Proofs
theorem iteB {c:Prop} [Decidable c] {a b:Prop} (ha:c→a) (hb:¬c→b):if c then a else b:=by
 split
 ·exact ha ‹_›
 ·exact hb ‹_›
section
variable {h:Hp}
end
end Lf



namespace Lf
open Go Go.Proofs
def Said (t:ByteArray) (x e:Int):Prop:=
 (∃w out,w<18446744073709551616∧zcd w out∧t=strN out∧x=IntKind.wrap .i64 (w:Int)∧e=0)∨((∀w out,w<18446744073709551616→zcd w out→t≠strN out)∧x=0∧e=4)
theorem zbd (op:BinOp) (a b:Int):∃n:Nat,bitsI op .u64 a b=(n:Int)∧n<18446744073709551616:=by
 have h:0≤bitsI op .u64 a b∧bitsI op .u64 a b<18446744073709551616:=by
  unfold bitsI
  split<;>(rw [zal];omega)
 exact ⟨(bitsI op .u64 a b).toNat,(Int.toNat_of_nonneg h.1).symm,by omega⟩
theorem zzd1 {a b:ByteArray} (h:(a.toList==b.toList)=true):a=b:=by
 have e:=eq_of_beq h
 rw [ByteArray.toList_eq,ByteArray.toList_eq] at e
 exact ztn (Array.toList_inj.1 e)
theorem zso1 {w:Nat} (hw:w<18446744073709551616):IntKind.wrap .u64 (IntKind.wrap .i64 (w:Int))=(w:Int):=by
 have:IntKind.wrap .i64 (w:Int)=if w<9223372036854775808 then (w:Int) else (w:Int)-18446744073709551616:=by
  unfold IntKind.wrap
  simp only [IntKind.signed,IntKind.bits]
  grind
 rw [this,zal]
 split<;>omega
theorem znq2 :∀d,d<16→hexD d<256:=by decide
section
variable {h:Hp}
end
end Lf

namespace Lf
open Go Go.Proofs
section
variable {h:Hp}
theorem zze1 {a b:ByteArray} (h:a≠b):¬(a.toList==b.toList)=true:=fun hh=>h (zzd1 hh)
end
end Lf

namespace Lf
open Go Go.Proofs
def pow10F :List Nat:=[4607182418800017408,4621819117588971520,4636737291354636288,4652007308841189376,4666723172467343360,4681608360884174848,4696837146684686336,4711630319722168320,4726483295884279808,4741671816366391296,4756540486875873280,4771362005757984768,4786511204640096256,4801453603149578240,4816244402031689728,4831355200913801216,4846369599423283200,4861130398305394688,4876203697187506176,4891288408196988160,4906019910204099648,4921056587992461136,4936209963552724370]
structure FEnv (h:Hp):Prop where
 pow:Pow10 h
 small:ztm h
 opt:LdIs h ⟨2,0,none⟩ [.bool true]
 info:LdIs h ⟨7,0,none⟩ [.int .u64 52]
 f10:∃a c,LdIs h ⟨12,0,none⟩ [.slice (some a) 23 c]∧LdIs h a (pow10F.map fun x=>.float .f64 x)
theorem FEnv.mono {h h':Hp} (e:FEnv h) (hl:h≤h'):FEnv h':=by
 obtain ⟨a,c,e1,e2⟩:=e.f10
 exact ⟨zbe hl e.pow,zbe hl e.small,zbe hl e.opt,zbe hl e.info,a,c,zbe hl e1,zbe hl e2⟩
section
variable {neg eneg:Bool} {c:Nat} {ds xs:List Nat} {h:Hp}
theorem zfz2 {s p:ByteArray} {x y:Nat} {Q:Int→Hp→Prop} (hs:1≤s.size) (hp:1≤p.size) (hx:(s.data.toList.getD 0 0).toNat=x) (hy:(p.data.toList.getD 0 0).toNat=y) (hd:x<65) (hne:x≠y) (hq:Q 0 h):zak Tryz.prog s p Q h:=by
 unfold zak
 refine LoopW1.intro (fun i k=>i=0∧k=h) (fun _ _=>0) ⟨rfl,rfl⟩ ?_
 rintro _ h ⟨rfl,rfl⟩
 have hm:(0:Int)<min2I ((p.size:Nat):Int) ((s.size:Nat):Int):=by unfold min2I;split<;>omega
 rw [show Int.toNat 0=0 from rfl,hx,hy]
 refine iteT (decide_eq_true hm) ⟨⟨by decide,by omega⟩,JoinW1.direct (letW (iteF (fun hh=> ?_) ⟨⟨by decide,by omega⟩,iteT (bne_iff_ne.2 (by omega)) hq⟩))⟩
 rw [Bool.and_eq_true] at hh
 have:=of_decide_eq_true hh.1
 omega
theorem zmy1 {Q:Nat→Int→Bool→Hp→Prop} (hc:48≤c∧c<58) (hq:Q 0 0 false h):zba Tryz.prog (strN (fltL neg c ds eneg xs)) Q h:=by
 have hL:=zif1 (neg:=neg) (c:=c) (ds:=ds) (eneg:=eneg) (xs:=xs)
 have hm:=zie1 c ds
 have hm1:1≤(manL c ds).length:=by rw [hm];split<;>omega
 have g0:(fltL neg c ds eneg xs)[0]? =some (if neg then 45 else c):=by
  unfold fltL manL
  cases neg<;>rfl
 unfold zba
 rw [zss g0 (by split<;>omega),zan]
 refine iteF (fun hh=>by have:((fltL neg c ds eneg xs).length:Int)=0:=beq_iff_eq.1 hh;omega) ⟨⟨by decide,by omega⟩,JoinW3.direct ?_⟩
 cases neg with
 | false=>
  have nc:∀n:Int,58≤n∨n<48→¬((((if false=true then 45 else c:Nat):Nat):Int)==n)=true:=fun n hn hh=>by
   have:((c:Nat):Int)=n:=beq_iff_eq.1 hh
   omega
  refine JoinW1.direct (iteF (nc 43 (by omega)) (iteF (nc 45 (by omega)) ?_))
  refine JoinW1.direct (iteF (nc 105 (by omega)) (iteF (nc 73 (by omega)) ?_))
  exact JoinW1.direct (iteF (nc 110 (by omega)) (iteF (nc 78 (by omega)) hq))
 | true=>
  refine JoinW1.direct (iteF (by show ¬(((45:Nat):Int)==43)=true;decide) (iteT (by show (((45:Nat):Int)==45)=true;decide) ?_))
  refine JoinW1.direct ⟨⟨by decide,by omega⟩,iteT (by show (((45:Nat):Int)==45)=true;decide) ⟨⟨by decide,by omega⟩,?_⟩⟩
  have e:(strN (fltL true c ds eneg xs)).extract 1 (fltL true c ds eneg xs).length=strN (fltL false c ds eneg xs):=by
   rw [zim _ _ _ (Nat.le_refl _),List.take_of_length_le (Nat.le_refl _)]
   rfl
  rw [e]
  have g1:(fltL false c ds eneg xs)[0]? =some c:=rfl
  have h1:=zif1 (neg:=false) (c:=c) (ds:=ds) (eneg:=eneg) (xs:=xs)
  refine zat (zfz2 (x:=c) (y:=105) (by rw [zan];omega) (by decide) (zss g1 (by omega)) (by decide) (by omega) (by omega) ?_)
  exact JoinW1.direct (letW (iteF (by decide) (letW (iteF (by decide) hq))))
theorem znr2 {b:Int}:SemIs Tryz.prog (convert 51 48 (.int .u64 b)) h (.float .f64 (f64.nearest b)):=by
 refine zha1 fun w=> ?_
 have u1:=run_underlying' (e:=ty51) tb_ok (t:=51) rfl w
 have u2:=run_underlying' (e:=ty48) tb_ok (t:=48) rfl w
 simp only [convert,Sem.run_bind,u1,u2,Result.andThen_ok]
 rfl
end
end Lf



namespace Lf
open Go Go.Proofs
structure PEnv (h:Hp):Prop where
 env:FEnv h
 tz:LdIs h ⟨14,15,none⟩ [.int .u8 4]
theorem PEnv.mono {h h':Hp} (e:PEnv h) (hl:h≤h'):PEnv h':=⟨e.env.mono hl,zbe hl e.tz⟩
section
variable {h:Hp}
theorem zns2 {Q:Int→Hp→Prop} (e:PEnv h) (hq:Q 4 h):zhd Tryz.prog (16:Int) Q h:=by
 unfold zhd
 refine zqr ?_
 unfold zkx
 have e1:shrI .u64 (IntKind.wrap .u64 ((bitsI .and .u64 (16:Int) (IntKind.wrap .u64 ((0:Int)-16)))*(285870213051353865:Int))) (58:Int)=15:=by decide+kernel
 rw [e1]
 refine iteF (by decide) ⟨by decide,⟨by decide,by decide⟩,ld_at (sh:=shInt .u8) (4:Int) ?_ hq⟩
 show LdIs h (Addr.add ⟨_,0,none⟩ 15) _
 rw [box_add]
 exact e.tz
theorem zjv2 {w j:Nat} (hj:j<16):(hexL w).drop (16-(j+1))=hexD (w / 16^j%16)::(hexL w).drop (16-j):=by
 have h1:=zkd1 (n:=w) (i:=15-j) (by omega)
 obtain ⟨h2,h3⟩:=List.getElem?_eq_some_iff.1 h1
 rw [show 16-(j+1)=15-j by omega,List.drop_eq_getElem_cons h2,h3,show 15-(15-j)=j by omega,show 15-j+1=16-j by omega]
theorem zzf1 :∀d,d<16→(List.getD ([48,49,50,51,52,53,54,55,56,57,97,98,99,100,101,102,103,104,105,106,107,108,109,110,111,112,113,114,115,116,117,118,119,120,121,122]:List UInt8) d 0).toNat=hexD d:=by decide
theorem zzg1 {α:Type} {n:Nat} {z v:α} {suf:List α}:(List.replicate (n+1) z++suf).set n v=List.replicate n z++v::suf:=by
 rw [List.replicate_succ',List.append_assoc,List.set_append_right (h:=by simp)]
 simp
theorem zpn1 {w:Nat} {Q:Sl→ByteArray→Hp→Prop} (e:PEnv h) (hw:w<18446744073709551616) (hw0:1152921504606846976≤w) (hk:∀s h',h≤h'→Q s (strN (hexL w)) h'):
  zeu Tryz.prog ⟨none,0,0⟩ (w:Int) (16:Int) false false Q h:=by
 unfold zeu
 refine JoinW0.direct (letW (letW (iteF (by decide) ?_)))
 intro b ty hb
 generalize hbuf:([.int .u8 (0:Int),_,_,_,_,_,_,_,_,_,_,_,_,_,_,_,_,_,_,_,_,_,_,_,_,_,_,_,_,_,_,_,_,_,_,_,_,_,_,_,_,_,_,_,_,_,_,_,_,_,_,_,_,_,_,_,_,_,_,_,_,_,_,_,_]:List Value)=buf
 have hbl:buf=List.replicate 65 (Value.int .u8 (0:Int)):=by rw [←hbuf];rfl
 have hle:=zki (o:=.cells buf.toArray ty (0,0)) hb
 have kb:Blk (h.set b (.cells buf.toArray ty (0,0))) b buf:=⟨ty,zen⟩
 clear hbuf
 subst hbl
 generalize h.set b (.cells (List.replicate 65 (Value.int .u8 (0:Int))).toArray ty (0,0))=h1 at*
 refine JoinW1.direct (iteF (by decide) ?_)
 refine JoinW1.intro (fun i k=>i=49∧Mv [b] h1 [b] k∧Blk k b (List.replicate 49 (Value.int .u8 (0:Int))++(hexL w).map fun (c:Nat)=>Value.int .u8 (c:Int))) ?_ ?_
 ·refine znj ?_
  unfold zhz
  refine iteT (by decide+kernel) (zsp ?_)
  rw [show IntKind.wrap .u64 (16:Int)=16 by decide]
  refine zns2 (e.mono hle) ?_
  refine LoopW2.intro (fun u i k=>∃j:Nat,j≤15∧u=((w / 16^j:Nat):Int)∧i=((65-j:Nat):Int)∧Mv [b] h1 [b] k∧Blk k b (List.replicate (65-j) (Value.int .u8 (0:Int))++((hexL w).drop (16-j)).map fun (c:Nat)=>Value.int .u8 (c:Int))) (fun _ i _=>i.toNat)
   ⟨0,by omega,by rw [Nat.pow_zero,Nat.div_one],rfl,Mv.refl _ _,by rw [List.drop_of_length_le (by rw [zst];omega)];simpa using kb⟩ ?_
  rintro _ _ k ⟨j,hj,rfl,rfl,mv,kb⟩
  have hlt:w / 16^j<18446744073709551616:=Nat.lt_of_le_of_lt (Nat.div_le_self _ _) hw
  have hd:w / 16^j%16<16:=Nat.mod_lt _ (by decide)
  have ei:IntKind.wrap .i64 (((65-j:Nat):Int)-1)=((64-j:Nat):Int):=by rw [zad (by omega) (by omega)];omega
  have hblk:List.replicate (65-j) (Value.int .u8 (0:Int))=List.replicate (64-j+1) (Value.int .u8 (0:Int)):=by rw [show 64-j+1=65-j by omega]
  rw [hblk] at kb
  have ea:Addr.add (⟨b,0,none⟩:Addr) (64-j)=⟨b,64-j,none⟩:=by rw [box_add,Nat.zero_add]
  rw [ei,Int.toNat_natCast,Nat.mul_one,ea]
  have hsuf:∀d,d=w / 16^j%16→Value.int .u8 ((hexD d:Nat):Int)::((hexL w).drop (16-j)).map (fun (c:Nat)=>Value.int .u8 (c:Int))=((hexL w).drop (16-(j+1))).map fun (c:Nat)=>Value.int .u8 (c:Int):=fun d e=>by
   rw [zjv2 (by omega),e];rfl
  by_cases h16:16≤w / 16^j
  ·refine iteT (decide_eq_true (by omega)) ?_
   rw [show IntKind.wrap .u64 ((16:Int)-1)=15 by decide,and15 _ hlt,Int.toNat_natCast,zzf1 _ hd]
   have hj15:j<15:=by
    refine Classical.byContradiction fun hn=> ?_
    have:j=15:=by omega
    subst this
    omega
   refine ⟨⟨by omega,by omega⟩,⟨by omega,by omega⟩,put1 kb (by rw [List.length_append,List.length_replicate];omega) fun k2 m2 b2=>⟨by decide,?_⟩⟩
   rw [zzg1,hsuf _ rfl] at b2
   have es:shrI .u64 ((w / 16^j:Nat):Int) (IntKind.wrap .u64 (4:Int))=((w / 16^(j+1):Nat):Int):=by
    rw [show IntKind.wrap .u64 (4:Int)=((4:Nat):Int) by decide,shrN _ (by decide),show (2:Nat)^4=16 from rfl,Nat.div_div_eq_div_mul,Nat.pow_succ]
   rw [es]
   refine ⟨⟨j+1,by omega,rfl,by rw [show 65-(j+1)=64-j by omega],mv.trans m2,?_⟩,by omega⟩
   rw [show 65-(j+1)=64-j by omega]
   exact b2
  ·refine iteF (fun hh=>h16 (by have:=of_decide_eq_true hh;omega)) ?_
   have hj15:j=15:=by
    refine Classical.byContradiction fun hn=>h16 ?_
    have hp:=Nat.pow_le_pow_right (n:=16) (i:=j) (j:=14) (by decide) (by omega)
    rw [Nat.le_div_iff_mul_le (Nat.pow_pos (by decide))]
    have:=Nat.mul_le_mul_left 16 hp
    omega
   subst hj15
   rw [Nat.mod_eq_of_lt (by omega)] at hd hsuf
   rw [Int.toNat_natCast,zzf1 _ hd]
   refine ⟨⟨by omega,by omega⟩,⟨by omega,by omega⟩,put1 kb (by rw [List.length_append,List.length_replicate];omega) fun k2 m2 b2=>⟨rfl,mv.trans m2,?_⟩⟩
   rw [zzg1,hsuf _ rfl] at b2
   exact b2
 rintro _ k ⟨rfl,mv,kb⟩
 refine iteF (by decide) (iteF (by decide) ⟨by decide,letW ?_⟩)
 have eb:sbase (some ⟨b,0,none⟩) 1 (Int.toNat 49) 65=some ⟨b,49,none⟩:=by unfold sbase;rw [if_neg (by decide)];show some (Addr.add _ _)=_;rw [box_add];rfl
 rw [eb]
 have hin:∀x∈hexL w,x<256:=fun x hx=>by
  unfold hexL at hx
  obtain ⟨i, -,rfl⟩:=List.mem_map.1 hx
  exact znq2 (w / 16^(15-i)%16) (Nat.mod_lt _ (by decide))
 refine ⟨strN (hexL w),zpw (e:=5) (l:=⟨some ⟨b,49,none⟩,65-Int.toNat 49,65-Int.toNat 49⟩) (tb_ok.und _ ty74 rfl) (tb_ok.und _ ty5 rfl) (tb_ok.und _ ty9 rfl) (zic1 kb (by rw [zst];rfl) ?_) hin,hk _ _ ?_⟩
 ·rw [List.drop_append_of_le_length (by simp),List.drop_of_length_le (by simp),List.nil_append,List.take_of_length_le (by rw [List.length_map];exact Nat.le_refl _),zms1]
 ·exact fun c o hc=>mv.keep c o (hle c o hc) (by simp only [List.mem_singleton];intro e;rw [e,hb] at hc;cases hc)
theorem zbk2 {w:Nat} {Q:ByteArray→Hp→Prop} (e:PEnv h) (hw:w<18446744073709551616) (hw0:1152921504606846976≤w) (hk:∀h',h≤h'→Q (strN (hexL w)) h'):zxr Tryz.prog (w:Int) Q h:=by
 unfold zxr
 refine zyk ?_
 unfold zrs
 refine zos ?_
 unfold ziz
 refine iteF (by decide) (zot (zpn1 e hw hw0 fun s h' hl=> ?_))
 dsimp only
 rw [zan,zst]
 refine zeb1 ?_
 unfold zyu
 refine iteT (by decide) ⟨?_,?_⟩
 ·show 0+16≤_;decide
 ·have:=hk h' hl
  have e2:(⟨⟨List.append (⟨#[]⟩:ByteArray).data.toList (strN (hexL w)).data.toList⟩⟩:ByteArray)=strN (hexL w):=by
   show (⟨⟨[]++(strN (hexL w)).data.toList⟩⟩:ByteArray)=_
   rw [List.nil_append]
  rw [e2]
  exact this
theorem zjw2 {h0:Hp} {dst:Sl} {xs:List Nat} {neg:Bool} {Q:Sl→Hp→Prop} (hw:h0≤h) (o:ON h0 h dst xs) (hx:xs.length<1000)
  (hk:∀r h',h0≤h'→ON h0 h' r (xs++((if neg then [45] else [])++ [48,101,43,48,48]))→Q r h'):zcj Tryz.prog dst neg ⟨none,0,0⟩ (0:Int) (0:Int) (-1:Int) (101:Int) true Q h:=by
 unfold zcj
 refine JoinW2.direct (letW (iteF (by decide) (JoinW1.direct (iteT (by decide) (iteT (by decide) ?_)))))
 refine JoinW1.intro (fun d k=>h0≤k∧ON h0 k d (xs++if neg then [45] else [])) ?_ ?_
 ·cases neg with
  | true=>exact iteT rfl (app1 (c:=45) hw o rfl (by omega) fun l' h' hl' o'=>⟨hl',o'⟩)
  | false=>exact iteF (by decide) ⟨hw,by simpa using o⟩
 rintro d k ⟨lk,od⟩
 have hlen:(xs++if neg then [45] else []).length<1002:=by rw [List.length_append];split<;>simp<;>omega
 rw [←List.append_assoc] at hk
 generalize (xs++if neg then [45] else [])=ys at*
 refine JoinW1.direct (iteF (by decide) ?_)
 refine app1 (c:=48) lk od rfl (by omega) fun r1 k1 l1 o1=> ?_
 refine JoinW1.direct (iteF (by decide) ?_)
 refine app1 (c:=101) l1 o1 rfl (by rw [List.length_append,List.length_singleton];omega) fun r2 k2 l2 o2=> ?_
 refine JoinW1.direct (iteT (by decide) (JoinW2.direct (iteF (by decide) ?_)))
 refine app1 (c:=43) l2 o2 rfl (by rw [List.length_append,List.length_append];simp only [List.length_singleton];omega) fun r3 k3 l3 o3=>iteT (by decide) ?_
 refine app2 (c:=48) (d:=48) l3 o3 rfl (by decide) (by rw [List.length_append,List.length_append,List.length_append];simp only [List.length_singleton];omega) fun r4 k4 l4 o4=>hk r4 k4 l4 ?_
 simpa using o4
theorem zhp1 {w:Nat} {Q:ByteArray→Hp→Prop} (hw64:w<18446744073709551616) (w0:w%9223372036854775808=0) (hk:∀h',h≤h'→Q (strN ((if negD w then [45] else [])++ [48,101,43,48,48])) h'):
  zeh Tryz.prog w (101:Int) (-1:Int) (64:Int) Q h:=by
 unfold zeh
 refine zgw ?_
 unfold zei
 refine iteF (by decide) (iteT (by decide) ⟨by decide,fun b t hb=> ?_⟩)
 have hle:=zki (o:=.cells (zbo [Value.int .u8 (0:Int)] (max2I (IntKind.wrap .i64 ((-1:Int)+4)) 24).toNat).toArray t (0,0)) hb
 have own:ON h (h.set b (.cells (zbo [Value.int .u8 (0:Int)] (max2I (IntKind.wrap .i64 ((-1:Int)+4)) 24).toNat).toArray t (0,0))) ⟨some ⟨b,0,none⟩,(0:Int).toNat,(max2I (IntKind.wrap .i64 ((-1:Int)+4)) 24).toNat⟩ []:=
  ⟨rfl,Nat.zero_le _,.inr ⟨b,_,t,rfl,zen,(by show (zbo [Value.int .u8 (0:Int)] (max2I (IntKind.wrap .i64 ((-1:Int)+4)) 24).toNat).length=(max2I (IntKind.wrap .i64 ((-1:Int)+4)) 24).toNat*1;decide),rfl,hb⟩⟩
 refine zjw ?_
 unfold zea
 refine JoinW4.direct ⟨(w:Int),rfl,⟨by decide,by decide,by decide,by decide,by decide,?_⟩⟩
 have zin:∀ {n:Bool},∀x∈((if n then [45] else [])++ [48,101,43,48,48]:List Nat),x<256:=fun {n} x hx=>by
  cases n<;>simp at hx<;>omega
 have hcase:w=0∨w=9223372036854775808:=by omega
 have fin:∀ {n:Bool} {r:Sl} {h':Hp},n=negD w→h≤h'→ON h h' r ([]++((if n then [45] else [])++ [48,101,43,48,48]))→∃x,SemIs Tryz.prog (convert 74 9 r.v) h' (.string x)∧Q x h':=fun {n r h'} hn hl o=>by
  subst hn
  rw [List.nil_append] at o
  exact ⟨_,zpw (e:=5) (tb_ok.und _ ty74 rfl) (tb_ok.und _ ty5 rfl) (tb_ok.und _ ty9 rfl) (Own.rw o zqt) zin,hk h' hl⟩
 rw [show IntKind.wrap .i64 ((shlI .i64 (1:Int) (11:Int))-(1:Int))=((2^11-1:Nat):Int) by decide,show IntKind.wrap .u64 ((shlI .u64 (1:Int) (52:Int))-(1:Int))=(4503599627370495:Int) by decide,show shlI .u64 (1:Int) (52:Int)=((1*2^52:Nat):Int) by decide,
  show IntKind.wrap .i64 ((11:Int)+(52:Int))=((63:Nat):Int) by decide,show (52:Int)=((52:Nat):Int) from rfl,shrN w (by decide),shrN w (by decide),zrw1 11 (by omega) (by decide),zpa1 hw64]
 have hneg:(((w / 2^63:Nat):Int) !=(0:Int))=negD w:=by
  unfold negD
  by_cases c:9223372036854775808≤w
  ·rw [decide_eq_true c];exact bne_iff_ne.2 (by omega)
  ·rw [decide_eq_false c,Bool.eq_false_iff]
   intro hh
   exact bne_iff_ne.1 hh (by omega)
 rw [hneg,show w / 2^52%2^11=0 by omega,show w%4503599627370496=0 by omega]
 clear hneg hcase w0 hw64
 refine iteF (by decide) (JoinW2.direct (iteT (by decide) (iteF (by decide) (letW (iteF (by decide) (iteT rfl ?_))))))
 refine zjx (s:=⟨none,0,0⟩) ?_
 exact zjw2 hle own (by decide) fun r h' hl o=>fin rfl hl o
end
end Lf

namespace Lf
open Go Go.Proofs
section
variable {h:Hp}
theorem zbk1 {n:Int} {w:Nat} {Q:ByteArray→Hp→Prop} (hn:IntKind.wrap .u64 n=(w:Int)) (hw:w<18446744073709551616) (e:PEnv h) (hk:∀h' out,h≤h'→zcd w out→Q (strN out) h'):zpg Tryz.prog n Q h:=by
 have hf:zmj1 n=w:=by unfold zmj1;rw [hn,Int.toNat_natCast]
 by_cases c1:9218868437227405312<w%9223372036854775808
 ·unfold zpg
  refine zvo (zpf1 ?_)
  rw [hf]
  refine zjc (sh:=zae) (v:=isNaN w) rfl (iteT (by rw [zoy1 hw];exact decide_eq_true c1) ?_)
  rw [hn]
  refine zhl1 (zbk2 e hw (by omega) fun h' hl=>⟨by rw [zan,zst];decide,?_⟩)
  have e1:(⟨⟨110::(97::(110::(58::(strN (hexL w)).data.toList)))⟩⟩:ByteArray)=strN ([110,97,110,58]++hexL w):=by rw [←zka];rfl
  rw [e1]
  exact hk h' _ hl (by unfold zcd;rw [if_pos c1])
 by_cases c0:0<w%9223372036854775808∧w%9223372036854775808<9218868437227405312
 ·obtain ⟨f1,f2⟩:=zgs1 c0.1 c0.2
  refine zjp2 hf c0.1 c0.2 f1 (by omega) e.env.pow e.env.small fun h' out hl hp=>hk h' out hl ?_
  unfold zcd
  rw [if_neg c1,if_neg (by omega),if_neg (by omega)]
  exact zsj1 c0.1 c0.2 hp
 have nn:¬isNaN w=true:=by rw [zoy1 hw];exact zqv c1
 unfold zpg
 refine zvo (zpf1 ?_)
 rw [hf]
 refine zjc (sh:=zae) (v:=isNaN w) rfl (iteF nn ?_)
 have o1:=zyn (a:=w) (b:=9218868437227405311) hw (by omega) c1 (by omega)
 have o2:=zyn (a:=w) (b:=18442240474082181119) hw (by omega) c1 (by omega)
 have r1:rzD 9218868437227405311=9218868437227405311:=by unfold rzD negD;rw [decide_eq_false (by omega)];decide
 have r2:rzD 18442240474082181119= -9218868437227405311:=by unfold rzD negD;rw [decide_eq_true (by omega)];decide
 rw [r1] at o1
 rw [r2] at o2
 have gt_:∀ {x y:Int},y<x→compare x y=.gt:=fun {x y} h=>by rw [Int.compare_eq_gt];omega
 have lt_:∀ {x y:Int},x<y→compare x y=.lt:=fun {x y} h=>by rw [Int.compare_eq_lt];omega
 have hz:rzD w=if negD w then -((w%9223372036854775808:Nat):Int) else ((w%9223372036854775808:Nat):Int):=rfl
 by_cases c2:w%9223372036854775808=9218868437227405312
 ·rw [c2] at hz
  cases hb:negD w with
  | false=>
   rw [hb,if_neg (by decide)] at hz
   refine zjc (sh:=zae) (v:=f64.format.order w 9218868437227405311==some .gt) rfl (iteT ?_ ?_)
   ·show (dbl.order w 9218868437227405311==some .gt)=true
    rw [o1,gt_ (by rw [hz];decide)];rfl
   ·refine hk h [105,110,102] (Hp.le_refl _) ?_
    unfold zcd
    rw [if_neg c1,if_pos c2,hb];rfl
  | true=>
   rw [hb,if_pos rfl] at hz
   refine zjc (sh:=zae) (v:=f64.format.order w 9218868437227405311==some .gt) rfl (iteF (fun hh=> ?_) ?_)
   ·have hh:(dbl.order w 9218868437227405311==some .gt)=true:=hh
    rw [o1] at hh
    exact zvy1 (by rw [hz];decide) (Option.some.inj (eq_of_beq hh))
   refine zjc (sh:=zae) (v:=f64.format.order w 18442240474082181119==some .lt) rfl (iteT ?_ ?_)
   ·show (dbl.order w 18442240474082181119==some .lt)=true
    rw [o2,lt_ (by rw [hz];decide)];rfl
   ·refine hk h [45,105,110,102] (Hp.le_refl _) ?_
    unfold zcd
    rw [if_neg c1,if_pos c2,hb];rfl
 ·have c3:w%9223372036854775808=0:=by omega
  rw [c3] at hz
  have hz0:rzD w=0:=by rw [hz];split<;>rfl
  refine zjc (sh:=zae) (v:=f64.format.order w 9218868437227405311==some .gt) rfl (iteF (fun hh=> ?_) ?_)
  ·have hh:(dbl.order w 9218868437227405311==some .gt)=true:=hh
   rw [o1] at hh
   exact zvy1 (by rw [hz0];decide) (Option.some.inj (eq_of_beq hh))
  refine zjc (sh:=zae) (v:=f64.format.order w 18442240474082181119==some .lt) rfl (iteF (fun hh=> ?_) ?_)
  ·have hh:(dbl.order w 18442240474082181119==some .lt)=true:=hh
   rw [o2] at hh
   exact zfo2 (by rw [hz0];decide) (Option.some.inj (eq_of_beq hh))
  have hfin:zcd w ((if negD w then [45] else [])++ [48,101,48]):=by
   unfold zcd
   rw [if_neg c1,if_neg c2,if_pos c3]
  refine zmx (zhp1 hw c3 fun h1 l1=> ?_)
  have es:(if negD w then [45] else [])++ [48,101,43,48,48]=((if negD w then [45] else [])++ [48])++101:: [43,48,48]:=by simp
  rw [es]
  refine zja (zlp2 (c:=101) (by decide) ?_ (by simp) (by cases negD w<;>simp) ?_)
  ·intro x hx
   cases hb:negD w<;>rw [hb] at hx<;>simp at hx<;>omega
  refine zws (zfl2 (sg:=43) (zs:=[48,48]) (.inl rfl) (by decide) (by decide) (by decide) fun h2 er l2 _=> ?_)
  have e0:(if (43:Nat)=45 then -((numV [48,48]:Nat):Int) else ((numV [48,48]:Nat):Int))=0:=by decide
  rw [e0]
  have hsz:∀xs:List Nat,(⟨⟨List.append (strN xs).data.toList [101]⟩⟩:ByteArray)=strN (xs++ [101]):=fun xs=>by rw [←zka];rfl
  have hl2:((if negD w then [45] else [])++ [48]:List Nat).length≤2:=by cases negD w<;>simp
  refine ⟨by rw [zan];omega,zlf (zvx1 (by decide) (by decide) (zbe (Hp.le_trans l1 l2) e.env.small) fun zs h3 l3 hz3=> ?_)⟩
  have hzs:zs=[48]:=by
   have:=zfl1 hz3
   rw [this,show Int.natAbs 0=0 from rfl,zbx1 (by decide)]
  subst hzs
  rw [hsz]
  refine ⟨by rw [zan,zan,List.length_append];simp only [List.length_cons,List.length_nil];show _+_≤_;rw [show (signL 0++ [48]:List Nat).length=1 from rfl];omega,?_⟩
  have e3:(⟨⟨List.append (List.append (strN ((if negD w then [45] else [])++ [48])).data.toList [101]) (strN (signL 0++ [48])).data.toList⟩⟩:ByteArray)=strN ((if negD w then [45] else [])++ [48,101,48]):=by
   have e4:List.append (strN ((if negD w then [45] else [])++ [48])).data.toList [101]=(strN (((if negD w then [45] else [])++ [48])++ [101])).data.toList:=by rw [←zka ((if negD w then [45] else [])++ [48]) [101]];rfl
   rw [e4,zka]
   congr 1
   cases negD w<;>rfl
  rw [e3]
  exact hk h3 _ (Hp.le_trans l1 (Hp.le_trans l2 l3)) hfin
end
end Lf

namespace Lf
def WholeF (x m:Nat):Prop:=4503599627370496≤x∧x<9218868437227405312∧ -60≤zab x∧zab x≤60∧zac x*2^(zab x+60).toNat=m*2^60
theorem zke1 {m:Nat} (m0:0<m) (m1:m<9007199254740992):WholeF (rungD m 0 false) m:=by
 have hb:=zqa m
 have hl:2^(bitsN m-1)≤m:=by
  unfold bitsN
  rw [if_neg (by omega),Nat.add_sub_cancel]
  exact Nat.log2_self_le (by omega)
 have hb0:1≤bitsN m:=by unfold bitsN;rw [if_neg (by omega)];omega
 have hb1:bitsN m≤53:=by
  refine Classical.byContradiction fun hn=> ?_
  have:=Nat.pow_le_pow_right (n:=2) (i:=53) (j:=bitsN m-1) (by decide) (by omega)
  omega
 have ho:offD m 0=(bitsN m:Int)-53:=by
  unfold offD
  rw [if_neg (by omega)]
 obtain ⟨j,hj⟩:∃j:Nat,53=bitsN m+j:=⟨53-bitsN m,by omega⟩
 have hq:keptD m (offD m 0) false=m*2^j:=by
  unfold keptD
  rw [ho,if_pos (by omega),show (-((bitsN m:Int)-53)).toNat=j by omega]
 have q0:4503599627370496≤m*2^j:=by
  have:=Nat.mul_le_mul_right (2^j) hl
  rw [←Nat.pow_add,show bitsN m-1+j=52 by omega] at this
  exact this
 have q1:m*2^j<9007199254740992:=by
  have:=Nat.mul_lt_mul_of_pos_right hb (Nat.two_pow_pos j)
  rw [←Nat.pow_add,←hj] at this
  exact this
 have e:rungD m 0 false=(1075-j)*4503599627370496+(m*2^j-4503599627370496):=by
  have e0:rungD m 0 false=if keptD m (offD m 0) false<4503599627370496 then keptD m (offD m 0) false else if 2047≤0+offD m 0+1075 then 9218868437227405312 else min ((0+offD m 0+1075).toNat*4503599627370496+(keptD m (offD m 0) false-4503599627370496)) 9218868437227405312:=rfl
  rw [e0,hq]
  have hoj:offD m 0= -(j:Int):=by omega
  rw [hoj]
  clear hq ho e0 hoj hb hl hb0
  generalize m*2^j=q at*
  rw [if_neg (show ¬q<4503599627370496 by omega),if_neg (show ¬(2047:Int)≤0+ -(j:Int)+1075 by omega),show ((0:Int)+ -(j:Int)+1075).toNat=1075-j by omega]
  exact Nat.min_eq_left (by omega)
 have hx:¬rungD m 0 false<4503599627370496:=by omega
 have hd:rungD m 0 false / 4503599627370496=1075-j:=by omega
 have hr:rungD m 0 false%4503599627370496=m*2^j-4503599627370496:=by omega
 have hM:zac (rungD m 0 false)=m*2^j:=by unfold zac;rw [if_neg hx,hr];omega
 have hE:zab (rungD m 0 false)= -(j:Int):=by unfold zab;rw [if_neg hx,hd];omega
 refine ⟨by omega,by omega,by omega,by omega,?_⟩
 rw [hM,hE,Nat.mul_assoc,←Nat.pow_add,show j+(-(j:Int)+60).toNat=60 by omega]
theorem zbl2 :∀k,k<23→(decide (4503599627370496≤pow10F.getD k 0)&&decide (pow10F.getD k 0<9218868437227405312)&&decide (-60≤zab (pow10F.getD k 0))&&decide (zab (pow10F.getD k 0)≤60)&&decide (zac (pow10F.getD k 0)*2^(zab (pow10F.getD k 0)+60).toNat=10^k*2^60))=true:=by decide+kernel
theorem zkf1 {k x:Nat} (hx:pow10F[k]? =some x):WholeF x (10^k)∧k<23:=by
 have hk:k<23:=(List.getElem?_eq_some_iff.1 hx).1
 have:=zbl2 k hk
 rw [show pow10F.getD k 0=x by simp [List.getD,hx]] at this
 simp only [Bool.and_eq_true,decide_eq_true_eq] at this
 exact ⟨⟨this.1.1.1.1,this.1.1.1.2,this.1.1.2,this.1.2,this.2⟩,hk⟩
theorem WholeF.val {x m:Nat} (h:WholeF x m):zac x*unitW (zab x) 0=m*unitW 0 0:=by
 obtain ⟨-, -,a,b,c⟩:=h
 have e1:=zcv (a:= -60) (b:=0) (n:=(zab x+60).toNat) (by omega)
 have e2:=zcv (a:= -60) (b:=0) (n:=60) (by omega)
 rw [show -60+((zab x+60).toNat:Int)=zab x by omega] at e1
 rw [show (-60:Int)+((60:Nat):Int)=0 by decide] at e2
 rw [←e1,←e2,←Nat.mul_assoc,←Nat.mul_assoc,c]
theorem WholeF.m {x m:Nat} (h:WholeF x m):4503599627370496≤zac x∧zac x<9007199254740992:=by
 obtain ⟨a, -⟩:=h
 unfold zac
 rw [if_neg (by omega)]
 omega
theorem WholeF.one {x m:Nat} (h:WholeF x m):inF x (m*unitW 0 0)=true:=by
 rw [←h.val]
 obtain ⟨a,b,c, -⟩:=h
 have e3:zac x*unitW (zab x) 0=vF x:=by
  unfold vF kF
  rw [←zih 2 4 rfl (a:=zab x-2) (b:=zab x) (by omega) (by omega)]
  ac_rfl
 obtain ⟨v1,v2⟩:=v_in (r:=x) (by omega) b
 rw [e3]
 exact zln2 (by omega) (by omega) fun _=>⟨v1,v2⟩
section
variable {r x y m n:Nat}
theorem zjx2 (h1:0<r) (h2:r<9218868437227405312) (hx:WholeF x m) (hy:WholeF y n) (hin:inF r (m*n*unitW 0 0)=true):rungD (zac x*zac y) (zab x+zab y) false=r:=by
 have a:=hx.m
 have b:=hy.m
 refine zvv1 h1 h2 (Nat.ne_of_gt (Nat.mul_pos (by omega) (by omega))) (by have:=hx.2.2.1;have:=hy.2.2.1;omega) ?_
 rw [show zac x*zac y*unitW (zab x+zab y) 0=m*n*unitW 0 0 from ?_]
 ·exact hin
 obtain ⟨-, -,a1, -,c1⟩:=hx
 obtain ⟨-, -,a2, -,c2⟩:=hy
 have e1:=zcv (a:= -120) (b:=0) (n:=(zab x+60).toNat+(zab y+60).toNat) (by omega)
 have e2:=zcv (a:= -120) (b:=0) (n:=60+60) (by omega)
 rw [show -120+(((zab x+60).toNat+(zab y+60).toNat:Nat):Int)=zab x+zab y by omega,Nat.pow_add] at e1
 rw [show (-120:Int)+((60+60:Nat):Int)=0 by decide,Nat.pow_add] at e2
 rw [←e1,←e2]
 generalize unitW (-120) 0=U
 generalize 2^(zab x+60).toNat=p1 at*
 generalize 2^(zab y+60).toNat=p2 at*
 generalize (2:Nat)^60=s at*
 rw [show zac x*zac y*(p1*p2*U)=(zac x*p1)*(zac y*p2)*U by ac_rfl,c1,c2]
 ac_rfl
theorem zmz1 {s:Bool} (h1:0<r) (h2:r<9218868437227405312) (hx:WholeF x m) (hy:WholeF y n) (hin:inF r (m*n*unitW 0 0)=true):mulD (sgn s+x) y=sgn s+r:=by
 have e:=zjx2 h1 h2 hx hy hin
 have a:=hx.m
 have b:=hy.m
 obtain ⟨x0,x1, -⟩:=hx
 obtain ⟨y0,y1, -⟩:=hy
 have hm:(sgn s+x)%9223372036854775808=x:=by unfold sgn;cases s<;>simp<;>omega
 have hn:negD (sgn s+x)=s:=by unfold negD sgn;cases s<;>simp<;>omega
 have hy2:y%9223372036854775808=y:=by omega
 have hny:negD y=false:=by unfold negD;rw [decide_eq_false (by omega)]
 have nx:¬znq (sgn s+x)=true:=zqv (by rw [hm];omega)
 have ny:¬znq y=true:=zqv (by rw [hy2];omega)
 unfold mulD
 dsimp only
 rw [hm,hy2,hn,hny,if_neg (fun h=>h.elim nx fun h=>h.elim ny fun h=>h.elim (fun h=>by omega) fun h=>by omega),if_neg (by omega)]
 unfold zio
 rw [if_neg (Nat.ne_of_gt (Nat.mul_pos (by omega) (by omega))),Bool.xor_false,e]
theorem zbm2 {s:Bool} {k:Nat} (h1:0<r) (h2:r<9218868437227405312) (hx:WholeF x m) (hy:WholeF y (10^k)) (hk:k≤22) (hin:inF r (m*unitW 0 (-(k:Int)))=true):divD (sgn s+x) y=sgn s+r:=by
 have a:=hx.m
 have b:=hy.m
 obtain ⟨x0,x1,a1,b1,c1⟩:=hx
 obtain ⟨y0,y1,a2,b2,c2⟩:=hy
 have hm:(sgn s+x)%9223372036854775808=x:=by unfold sgn;cases s<;>simp<;>omega
 have hn:negD (sgn s+x)=s:=by unfold negD sgn;cases s<;>simp<;>omega
 have hy2:y%9223372036854775808=y:=by omega
 have hny:negD y=false:=by unfold negD;rw [decide_eq_false (by omega)]
 have nx:¬znq (sgn s+x)=true:=zqv (by rw [hm];omega)
 have ny:¬znq y=true:=zqv (by rw [hy2];omega)
 have key:zac x*2^128*unitW (zab x-zab y-128) 0=zac y*(m*unitW 0 (-(k:Int))):=by
  have e1:=zcv (a:=zab x-zab y-128) (b:=0) (n:=128) (by omega)
  rw [show zab x-zab y-128+((128:Nat):Int)=zab x-zab y by omega] at e1
  have e2:=zcv (a:=zab x-zab y) (b:=0) (n:=(zab y+60).toNat) (by omega)
  rw [show zab x-zab y+((zab y+60).toNat:Int)=zab x+60 by omega] at e2
  have e3:=zcv (a:=0) (b:=0) (n:=(zab x+60).toNat) (by omega)
  rw [show (0:Int)+((zab x+60).toNat:Int)=zab x+60 by omega] at e3
  have e4:=zfa (a:=0) (b:= -(k:Int)) (n:=k) (by omega)
  rw [show -(k:Int)+(k:Int)=0 by omega] at e4
  refine Nat.eq_of_mul_eq_mul_left (Nat.two_pow_pos (zab y+60).toNat) ?_
  rw [Nat.mul_assoc,e1]
  rw [show 2^(zab y+60).toNat*(zac x*unitW (zab x-zab y) 0)=zac x*(2^(zab y+60).toNat*unitW (zab x-zab y) 0) by ac_rfl,e2,←e3,←Nat.mul_assoc,c1]
  rw [show 2^(zab y+60).toNat*(zac y*(m*unitW 0 (-(k:Int))))=(zac y*2^(zab y+60).toNat)*(m*unitW 0 (-(k:Int))) by ac_rfl,c2,←e4]
  ac_rfl
 have hq:1152921504606846976≤zac x*2^128 / zac y:=by
  rw [Nat.le_div_iff_mul_le (by omega)]
  exact Nat.le_trans (Nat.mul_le_mul_left _ (Nat.le_of_lt b.2)) (Nat.le_trans (show (1152921504606846976:Nat)*9007199254740992≤4503599627370496*2^128 by decide) (Nat.mul_le_mul_right _ a.1))
 have hB:0<zac y:=by omega
 have hdm:=Nat.div_add_mod (zac x*2^128) (zac y)
 have hlt:=Nat.mod_lt (zac x*2^128) hB
 have e:rungD (zac x*2^128 / zac y) (zab x-zab y-128) (decide (0<zac x*2^128%zac y))=r:=by
  generalize zac x*2^128 / zac y=q at*
  generalize zac x*2^128%zac y=z at*
  generalize hX:m*unitW 0 (-(k:Int))=X at*
  have hU:=zbp (zab x-zab y-128) 0
  rw [←hdm] at key
  by_cases hz:z=0
  ·rw [decide_eq_false (by omega)]
   refine zvv1 h1 h2 (by omega) (by omega) ?_
   rw [show q*unitW (zab x-zab y-128) 0=X from ?_]
   ·exact hin
   refine Nat.eq_of_mul_eq_mul_left hB ?_
   rw [←key,hz,Nat.add_zero,Nat.mul_assoc]
  ·rw [decide_eq_true (by omega)]
   refine znk2 (X:=X) h1 h2 hq (by omega) ?_ ?_ hin
   ·refine Nat.lt_of_mul_lt_mul_left (a:=zac y) ?_
    rw [←key,Nat.add_mul,←Nat.mul_assoc]
    have:=Nat.mul_pos (show 0<z by omega) hU
    omega
   ·refine Nat.lt_of_mul_lt_mul_left (a:=zac y) ?_
    rw [←key,←Nat.mul_assoc,Nat.mul_add,Nat.mul_one]
    exact Nat.mul_lt_mul_of_pos_right (by omega) hU
 unfold divD
 dsimp only
 rw [hm,hy2,hn,hny,if_neg (fun h=>h.elim nx fun h=>h.elim ny fun h=>h.elim (fun h=>by omega) fun h=>by omega),if_neg (by omega),if_neg (by omega)]
 unfold zio
 rw [if_neg (Nat.ne_of_gt (Nat.lt_of_lt_of_le (by decide) hq)),Bool.xor_false,e]
theorem zga2 (hx:WholeF x m) (hy:WholeF y n) (h0:0<m*n) (hle:m*n≤1000000000000000):∃z,WholeF z (m*n)∧∀s,mulD (sgn s+x) y=sgn s+z:=by
 have hz:=zke1 h0 (by omega)
 exact ⟨_,hz,fun s=>zmz1 (by have:=hz.1;omega) hz.2.1 hx hy hz.one⟩
theorem zgb2 (hx:WholeF x m) (hy:WholeF y n) (hgt:1000000000000000<m*n):4831355200913801216<rungD (zac x*zac y) (zab x+zab y) false:=by
 have e:rungD 1000000000000001 0 false=4831355200913801224:=by decide+kernel
 have a:=hx.m
 have b:=hy.m
 obtain ⟨-, -,a1, -,c1⟩:=hx
 obtain ⟨-, -,a2, -,c2⟩:=hy
 have:=zfb2 (m:=1000000000000001) (n:=zac x*zac y) (e:=0) (f:=zab x+zab y) (K:=0) (by decide) (Nat.ne_of_gt (Nat.mul_pos (by omega) (by omega))) (by omega) (by omega) (by
  obtain ⟨T,hT⟩:∃T:Nat,T=954:=⟨_,rfl⟩
  rw [show ((0:Int)+1074+((0:Nat):Int)).toNat=60+60+T by omega,show (zab x+zab y+1074+((0:Nat):Int)).toNat=(zab x+60).toNat+(zab y+60).toNat+T by omega,Nat.pow_add,Nat.pow_add,Nat.pow_add,Nat.pow_add]
  generalize 2^(zab x+60).toNat=p1 at*
  generalize 2^(zab y+60).toNat=p2 at*
  generalize (2:Nat)^60=s at*
  generalize (2:Nat)^T=t at*
  rw [show zac x*zac y*(p1*p2*t)=(zac x*p1)*(zac y*p2)*t by ac_rfl,c1,c2,show m*s*(n*s)*t=m*n*(s*s*t) by ac_rfl]
  exact Nat.mul_le_mul_right _ (by omega))
 omega
end
end Lf

namespace Lf
open Go Go.Proofs
theorem znt2 (a n:Nat):a&&&2^n=if a / 2^n%2=1 then 2^n else 0:=by
 refine Nat.eq_of_testBit_eq fun i=> ?_
 rw [Nat.testBit_and,Nat.testBit_two_pow]
 by_cases hi:n=i
 ·subst hi
  rw [decide_eq_true rfl,Bool.and_true,Nat.testBit_eq_decide_div_mod_eq]
  by_cases h:a / 2^n%2=1
  ·rw [if_pos h,decide_eq_true h];exact (Nat.testBit_two_pow_self (n:=n)).symm
  ·rw [if_neg h,decide_eq_false h,Nat.zero_testBit]
 ·rw [decide_eq_false hi,Bool.and_false]
  by_cases h:a / 2^n%2=1
  ·rw [if_pos h,Nat.testBit_two_pow,decide_eq_false hi]
  ·rw [if_neg h,Nat.zero_testBit]
theorem and52 {a:Nat} (ha:a<18446744073709551616):(bitsI .and .u64 (a:Int) (4503599627370496:Int)==0)=decide (a / 4503599627370496%2=0):=by
 unfold bitsI
 dsimp only
 rw [zqb,BitVec.toNat_and,zla ha,show (BitVec.ofInt 64 4503599627370496).toNat=2^52 by decide,znt2]
 by_cases h:a / 2^52%2=1
 ·rw [if_pos h,decide_eq_false (by omega)];decide
 ·rw [if_neg h,decide_eq_true (by omega)];decide
theorem zjy2 {s f:Nat} (hs:s=0∨s=9223372036854775808) (hf:f<4503599627370496):bitsI .andNot .u64 ((s+(4503599627370496+f):Nat):Int) (4503599627370496:Int)=((s+f:Nat):Int):=by
 unfold bitsI
 dsimp only
 have ha:s+(4503599627370496+f)<18446744073709551616:=by omega
 rw [zqb,BitVec.toNat_and,zla ha,show (~~~ BitVec.ofInt 64 4503599627370496).toNat=2^53*(2^11-1)+(2^52-1) by decide]
 have key:(s+(4503599627370496+f))&&&(2^53*(2^11-1)+(2^52-1))=s+f:=by
  have h1:=Nat.and_div_two_pow (a:=s+(4503599627370496+f)) (b:=2^53*(2^11-1)+(2^52-1)) (n:=53)
  have h2:=Nat.and_mod_two_pow (a:=s+(4503599627370496+f)) (b:=2^53*(2^11-1)+(2^52-1)) (n:=53)
  rw [show (2^53*(2^11-1)+(2^52-1)) / 2^53=2^11-1 by decide,Nat.and_two_pow_sub_one_eq_mod] at h1
  rw [show (2^53*(2^11-1)+(2^52-1))%2^53=2^52-1 by decide,Nat.and_two_pow_sub_one_eq_mod] at h2
  generalize (s+(4503599627370496+f))&&&(2^53*(2^11-1)+(2^52-1))=z at*
  omega
 rw [key,zal]
 omega
theorem zwc1 (s:Int):∃n:Nat,n<64∧bitsI .and .i64 s (63:Int)=(n:Int):=by
 refine ⟨((BitVec.ofInt 64 s)&&&(BitVec.ofInt 64 63)).toNat,?_,?_⟩
 ·rw [BitVec.toNat_and,show (BitVec.ofInt 64 63).toNat=2^6-1 by decide,Nat.and_two_pow_sub_one_eq_mod]
  exact Nat.mod_lt _ (by decide)
 ·have:((BitVec.ofInt 64 s)&&&(BitVec.ofInt 64 63)).toNat<64:=by
   rw [BitVec.toNat_and,show (BitVec.ofInt 64 63).toNat=2^6-1 by decide,Nat.and_two_pow_sub_one_eq_mod]
   exact Nat.mod_lt _ (by decide)
  show IntKind.wrap .i64 ((((BitVec.ofInt 64 s)&&&(BitVec.ofInt 64 63)).toNat:Nat):Int)=_
  exact zad (by omega) (by omega)
section
variable {h:Hp}
theorem zhg1 {b:Nat} {x0 x1 x2:Value} {e p lp:Int} {Q:Hp→Prop} (k:Blk h b [x0,x1,x2]) (t:Pow10 h) (hb:b≠8) (h0: -348≤p) (h1:p≤347) (hl:lp=log2P p) (he: -5000≤e∧e≤5000)
  (hk:∀h',Mv [b] h [b] h'→Blk h' b [.int .u64 (hiP p:Int),.int .u64 (loP p:Int),.int .i64 (-(e+lp+3))]→Q h'):zca Tryz.prog (some ⟨b,0,none⟩) e p lp Q h:=by
 unfold zca
 have hlp: -1200≤lp∧lp≤1200:=by subst hl;unfold log2P;omega
 have e1:IntKind.wrap .i64 (p-(-348:Int))=p+348:=by rw [zad (by omega) (by omega)];omega
 have e2:IntKind.wrap .i64 ((0:Int)-(IntKind.wrap .i64 ((IntKind.wrap .i64 (e+lp))+(3:Int))))= -(e+lp+3):=by
  rw [zad (n:=e+lp) (by omega) (by omega),zad (n:=e+lp+3) (by omega) (by omega),zad (by omega) (by omega)]
  omega
 rw [e1,e2]
 obtain ⟨c1,c2⟩:=zhx1 t h0 h1
 have a1:Addr.add (Addr.add ⟨8,0,none⟩ ((p+348).toNat*2)) 0=⟨8,(p+348).toNat*2,none⟩:=by rw [box_add,box_add];simp
 have a2:Addr.add (Addr.add ⟨8,0,none⟩ ((p+348).toNat*2)) 1=⟨8,(p+348).toNat*2+1,none⟩:=by rw [box_add,box_add];simp
 rw [a1,a2]
 refine ⟨⟨by omega,by omega⟩,ld_at (sh:=shInt .u64) (hiP p:Int) c1 (zag ?_)⟩
 refine put1 (i:=0) k (by simp) fun k1 m1 b1=> ?_
 have c2':=zeo2 c2 m1 (by simpa using Ne.symm hb)
 refine ⟨⟨by omega,by omega⟩,ld_at (sh:=shInt .u64) (loP p:Int) c2' (zag ?_)⟩
 refine put1 (i:=1) b1 (by simp) fun k2 m2 b2=> ?_
 refine zag (put1 (i:=2) b2 (by simp) fun k3 m3 b3=> ?_)
 exact hk k3 (m1.trans (m2.trans m3)) b3
theorem zbn2 {x hi lo b:Nat} {s:Int} {Q:Int→Hp→Prop} (hx:x<18446744073709551616) (hh:hi<18446744073709551616) (hl:lo<18446744073709551616)
  (k:Blk h b [.int .u64 (hi:Int),.int .u64 (lo:Int),.int .i64 s]) (hq:∀u:Nat,u<18446744073709551616→Q (u:Int) h):zck Tryz.prog x (some ⟨b,0,none⟩) Q h:=by
 unfold zck
 have fin:∀x:Int,(∃u:Nat,x=(u:Int)∧u<18446744073709551616)→Q x h:=fun x ⟨u,e,hu⟩=>e▸hq u hu
 refine zag (ld_at (sh:=shInt .u64) (hi:Int) (k.ldIs (off:=0) (n:=1) rfl) (zhl (zhw1 hx hh ?_)))
 refine zag (ld_at (sh:=shInt .i64) s (k.ldIs (off:=2) (n:=1) rfl) ?_)
 obtain ⟨n,hn,e⟩:=zwc1 s
 rw [e]
 refine ⟨by omega,by omega,iteB (fun _=>⟨by omega,fin _ (zbd _ _ _)⟩) fun _=> ?_⟩
 refine zag (ld_at (sh:=shInt .u64) (lo:Int) (k.ldIs (off:=1) (n:=1) rfl) (zhl (zhw1 hx hl ?_)))
 refine zap (zfg1 ⟨by omega,?_⟩)
 exact zap (zfg1 (fin _ (zbd _ _ _)))
theorem zhn {m:Int} {n:Nat} {K:Nat→Hp→Prop} (e:m=(n:Int)) (hn:n<18446744073709551616) (hk:K n h):SemE Tryz.prog (Extern.MathFloatBits.float64frombits #[(.int .u64 m)]) (shFlt .f64) K h:=by
 subst e
 refine ⟨n,?_,hk⟩
 show Value.float .f64 ((n:Int)).toNat=_
 rw [Int.toNat_natCast]
theorem zbo2 {m e:Int} {Q:Nat→Leaf→Hp→Prop} (hm:∃n:Nat,m=(n:Int)∧n<18446744073709551616) (hq:∀(f:Nat) (er:Leaf),(er.v=.nilIface∨er.v=.iface 122 (.int .i64 (1:Int)))→Q f er h):zcm Tryz.prog m e Q h:=by
 unfold zcm
 obtain ⟨n,rfl,hn⟩:=hm
 refine iteB (fun _=>zhn rfl hn ⟨⟨.nilIface,rfl⟩,rfl,hq _ _ (.inl rfl)⟩) fun _=>iteB (fun _=> ?_) fun _=>⟨by decide,?_⟩
 ·obtain ⟨u,e1,hu⟩:=zbd .or (bitsI .and .u64 (n:Int) (9223372036854775808:Int)) (9218868437227405312:Int)
  exact zhn e1 hu ⟨⟨.iface 122 (.int .i64 1),rfl⟩,rfl,hq _ _ (.inr rfl)⟩
 ·obtain ⟨u,e1,hu⟩:=zbd .or (bitsI .andNot .u64 (n:Int) (4503599627370496:Int)) (shlI .u64 (IntKind.wrap .u64 (IntKind.wrap .i64 ((1075:Int)+e))) (52:Int))
  exact zhn e1 hu ⟨⟨.nilIface,rfl⟩,rfl,hq _ _ (.inl rfl)⟩
theorem zsp1 {r:Nat} {s:Bool} {Q:Nat→Leaf→Hp→Prop} (h1:0<r) (h2:r<9218868437227405312) (hq:∀er:Leaf,er.v=.nilIface→Q (sgn s+r) er h):zcm Tryz.prog ((sgn s+zac r:Nat):Int) (zab r) Q h:=by
 unfold zcm
 have hs:=zsh1 s
 by_cases hr:r<4503599627370496
 ·have hM:zac r=r:=by unfold zac;rw [if_pos hr]
  rw [hM]
  refine iteT ?_ (zhn rfl (by omega) ⟨⟨.nilIface,rfl⟩,rfl,hq _ rfl⟩)
  rw [and52 (by omega)]
  exact decide_eq_true (by omega)
 ·have hM:zac r=4503599627370496+r%4503599627370496:=by unfold zac;rw [if_neg hr];omega
  have hE:zab r=((r / 4503599627370496:Nat):Int)-1075:=by unfold zab;rw [if_neg hr]
  rw [hM,hE]
  refine iteF ?_ (iteF (fun hh=>by have:=of_decide_eq_true hh;omega) ⟨by decide,?_⟩)
  ·rw [and52 (by omega)]
   intro hh
   have:=of_decide_eq_true hh
   omega
  ·have e1:IntKind.wrap .u64 (IntKind.wrap .i64 ((1075:Int)+(((r / 4503599627370496:Nat):Int)-1075)))=((r / 4503599627370496:Nat):Int):=by rw [zad (by omega) (by omega),zal];omega
   have e2:shlI .u64 ((r / 4503599627370496:Nat):Int) (52:Int)=((r / 4503599627370496*2^52:Nat):Int):=shlN (n:=52) (by decide) (by omega)
   rw [e1,e2,zjy2 hs (Nat.mod_lt _ (by decide))]
   have e3:bitsI .or .u64 ((sgn s+r%4503599627370496:Nat):Int) ((r / 4503599627370496*2^52:Nat):Int)=((sgn s+r:Nat):Int):=by
    have a1:=zmm1 (k:=.u64) (a:=r / 4503599627370496) (s:=52) (v:=r%4503599627370496) (.inl ⟨rfl,by omega⟩) (Nat.mod_lt _ (by decide))
    rw [show r / 4503599627370496*2^52+r%4503599627370496=r by omega] at a1
    have a2:=zvp1 (s:=s) (a:=r) (by omega)
    have a3:=zvp1 (s:=s) (a:=r%4503599627370496) (by omega)
    have f:∀ {x y:Nat},x<18446744073709551616→y<18446744073709551616→bitsI .or .u64 (x:Int) (y:Int)=((x ||| y:Nat):Int):=fun hx hy=>orN hx hy
    have a0:=Nat.div_mul_le_self r (2^52)
    rw [f (by omega) (by omega)] at a1 a2 a3 ⊢
    have b1:=Int.ofNat.inj a1
    have b2:=Int.ofNat.inj a2
    have b3:=Int.ofNat.inj a3
    rw [←b3,Nat.or_assoc,Nat.or_comm (r%4503599627370496),b1,b2]
   exact zhn e3 (by omega) ⟨⟨.nilIface,rfl⟩,rfl,hq _ rfl⟩
end
end Lf

namespace Lf
open Go Go.Proofs
theorem zpe2 (u:Nat):u ||| u%2=u:=by
 refine Nat.eq_of_testBit_eq fun i=> ?_
 rw [Nat.testBit_or]
 cases i with
 | zero=>simp
 | succ i=>
  rw [Nat.testBit_succ (u%2),show u%2 / 2=0 by omega,Nat.zero_testBit,Bool.or_false]
section
variable {h:Hp}
theorem and1 {u:Nat} (hu:u<18446744073709551616):bitsI .and .u64 (u:Int) (1:Int)=((u%2:Nat):Int):=by
 unfold bitsI
 dsimp only
 rw [zqb,BitVec.toNat_and,zla hu,show (BitVec.ofInt 64 1).toNat=2^1-1 by decide,Nat.and_two_pow_sub_one_eq_mod,zal]
 omega
theorem zzh1 {Q:Int→Hp→Prop} (hq:Q 36028797018963966 h):zia Tryz.prog (9007199254740992:Int) Q h:=by
 unfold zia
 exact ⟨by decide,hq⟩
abbrev ErOk (er:Leaf):Prop:=er.v=.nilIface∨er.v=.iface 122 (.int .i64 (1:Int))
theorem zpf2 {d:Nat} (hd:d<18446744073709551616):bitsN d≤64:=zpc1 (by omega)
theorem zkg1 {d sg:Nat} {p:Int} {Q:Nat→Leaf→Hp→Prop} (t:Pow10 h) (hd:d<18446744073709551616) (hsg:sg<18446744073709551616) (h0: -348≤p) (h1:p≤347) (hq:∀(f:Nat) (er:Leaf) h',h≤h'→ErOk er→Q f er h'):
  zbl Tryz.prog (d:Int) p (sg:Int) Q h:=by
 have hb:=zpf2 hd
 have hl: -1200≤log2P p∧log2P p≤1200:=by unfold log2P;omega
 unfold zbl
 refine zhm (zia1 hd ?_)
 refine zdx (zvq1 (by omega) (by omega) ?_)
 intro b ty hbn
 have hle:=zki (o:=.cells [Value.int .u64 (0:Int),.int .u64 (0:Int),.int .i64 (0:Int)].toArray ty (0,0)) hbn
 have kb:Blk (h.set b (.cells [Value.int .u64 (0:Int),.int .u64 (0:Int),.int .i64 (0:Int)].toArray ty (0,0))) b [.int .u64 (0:Int),.int .u64 (0:Int),.int .i64 (0:Int)]:=⟨ty,zen⟩
 generalize h.set b (.cells [Value.int .u64 (0:Int),.int .u64 (0:Int),.int .i64 (0:Int)].toArray ty (0,0))=k1 at*
 have hbg:b≠8:=fun e=>by
  obtain ⟨c1, -⟩:=zhx1 t h0 h1
  have:=c1 0 _ rfl
  rw [box_add] at this
  unfold hcell at this
  rw [←e,hbn] at this
  simp at this
 have back:∀ {k':Hp},Mv [b] k1 [b] k'→h≤k':=fun mv c o hc=>mv.keep c o (hle c o hc) (by simp only [List.mem_singleton];intro e;rw [e,hbn] at hc;cases hc)
 have emin:IntKind.wrap .i64 ((IntKind.wrap .i64 ((53:Int)-(bitsN d:Int)))-log2P p)=53-(bitsN d:Int)-log2P p:=by rw [zad (n:=(53:Int)-_) (by omega) (by omega),zad (by omega) (by omega)]
 have e64:IntKind.wrap .i64 ((64:Int)-(bitsN d:Int))=((64-bitsN d:Nat):Int):=by rw [zad (by omega) (by omega)];omega
 rw [emin,e64]
 obtain ⟨E,hE⟩:∃E,E=min2I (1074:Int) (53-(bitsN d:Int)-log2P p):=⟨_,rfl⟩
 have hEb: -3000≤E∧E≤1074:=by rw [hE];unfold min2I;split<;>omega
 rw [←hE,zad (n:=E-((64-bitsN d:Nat):Int)) (by omega) (by omega)]
 refine zel (zhg1 kb (fun i v hv=>zbt1 hle (t i v hv)) hbg h0 h1 rfl (by omega) fun k2 m2 b2=> ?_)
 refine ld_at (sh:=shInt .i64) (-(E-((64-bitsN d:Nat):Int)+log2P p+3)) ?_ ?_
 ·rw [box_add]
  exact b2.ldIs (off:=2) (n:=1) rfl
 have fb:∀ {x:Int} {K:Nat→Hp→Prop} {k:Hp},(∃n:Nat,x=(n:Int)∧n<18446744073709551616)→(∀f,K f k)→SemE Tryz.prog (Extern.MathFloatBits.float64frombits #[(.int .u64 x)]) (shFlt .f64) K k:=fun ⟨n,e,hn⟩ hK=>zhn e hn (hK _)
 refine iteB (fun _=>fb (zbd _ _ _) fun f=>⟨⟨.nilIface,rfl⟩,rfl,hq f _ k2 (back m2) (.inl rfl)⟩) fun _=>⟨by omega,?_⟩
 obtain ⟨x,ex,hx⟩:∃x:Nat,shlI .u64 (d:Int) ((64-bitsN d:Nat):Int)=(x:Int)∧x<18446744073709551616:=by
  refine ⟨(shlI .u64 (d:Int) ((64-bitsN d:Nat):Int)).toNat,?_,?_⟩<;>(unfold shlI;rw [zal];omega)
 rw [ex]
 obtain ⟨t1,t2,t3⟩:=zmn1 h0 h1
 refine zfs (zbn2 hx t2 t3 b2 fun u hu=> ?_)
 refine zky (zzh1 ?_)
 refine zdw (zpe1 ⟨by omega,?_⟩)
 obtain ⟨v,ev,hv⟩:=zbd .or (shrI .u64 (u:Int) (((decide ((u:Int)≥36028797018963966)).toNat:Nat):Int)) (bitsI .and .u64 (u:Int) (1:Int))
 rw [ev]
 refine zbg (zhy1 hv ?_)
 exact zft (zbo2 (zbd _ _ _) fun f er he=>⟨er,rfl,hq f er k2 (back m2) he⟩)
theorem zbp2 {r d:Nat} {s:Bool} {p:Int} {Q:Nat→Leaf→Hp→Prop} (t:Pow10 h) (h1:0<r) (h2:r<9218868437227405312) (hd:d<144115188075855872) (d0:0<d) (p0: -348≤p) (p1:p≤347) (hin:inF r (d*unitW 0 p)=true)
  (hq:∀(er:Leaf) h',h≤h'→er.v=.nilIface→Q (sgn s+r) er h'):zbl Tryz.prog (d:Int) p ((sgn s:Nat):Int) Q h:=by
 have hb:bitsN d≤57:=zpc1 (by omega)
 have hb1:1≤bitsN d:=by unfold bitsN;rw [if_neg (by omega)];omega
 have hlo:=zul (m:=d) (by omega)
 have hhi:=zqa d
 obtain ⟨rs,rm,rx⟩:=zne2 h1 h2 p0 p1 hb hb1 hlo hhi hin
 obtain ⟨s8,sc⟩:=zbh2 p0 p1 hb hlo hhi hb1 rs
 have hl: -1200≤log2P p∧log2P p≤1200:=by unfold log2P;omega
 have hE:readE (bitsN d) p=min2I (1074:Int) (53-(bitsN d:Int)-log2P p):=by unfold readE min2I;omega
 have hEb: -3000≤readE (bitsN d) p∧readE (bitsN d) p≤1074:=by unfold readE;omega
 unfold zbl
 refine zhm (zia1 (by omega) ?_)
 refine zdx (zvq1 (by omega) (by omega) ?_)
 intro b ty hbn
 have hle:=zki (o:=.cells [Value.int .u64 (0:Int),.int .u64 (0:Int),.int .i64 (0:Int)].toArray ty (0,0)) hbn
 have kb:Blk (h.set b (.cells [Value.int .u64 (0:Int),.int .u64 (0:Int),.int .i64 (0:Int)].toArray ty (0,0))) b [.int .u64 (0:Int),.int .u64 (0:Int),.int .i64 (0:Int)]:=⟨ty,zen⟩
 generalize h.set b (.cells [Value.int .u64 (0:Int),.int .u64 (0:Int),.int .i64 (0:Int)].toArray ty (0,0))=k1 at*
 have hbg:b≠8:=fun e=>by
  obtain ⟨c1, -⟩:=zhx1 t p0 p1
  have:=c1 0 _ rfl
  rw [box_add] at this
  unfold hcell at this
  rw [←e,hbn] at this
  simp at this
 have back:∀ {k':Hp},Mv [b] k1 [b] k'→h≤k':=fun mv c o hc=>mv.keep c o (hle c o hc) (by simp only [List.mem_singleton];intro e;rw [e,hbn] at hc;cases hc)
 have emin:IntKind.wrap .i64 ((IntKind.wrap .i64 ((53:Int)-(bitsN d:Int)))-log2P p)=53-(bitsN d:Int)-log2P p:=by rw [zad (n:=(53:Int)-_) (by omega) (by omega),zad (by omega) (by omega)]
 have e64:IntKind.wrap .i64 ((64:Int)-(bitsN d:Int))=((64-bitsN d:Nat):Int):=by rw [zad (by omega) (by omega)];omega
 rw [emin,e64,←hE,zad (n:=readE (bitsN d) p-((64-bitsN d:Nat):Int)) (by omega) (by omega)]
 have hS: -(readE (bitsN d) p-((64-bitsN d:Nat):Int)+log2P p+3)=readS (bitsN d) p:=by unfold readS;omega
 refine zel (zhg1 kb (fun i v hv=>zbt1 hle (t i v hv)) hbg p0 p1 rfl (by omega) fun k2 m2 b2=> ?_)
 rw [hS] at b2
 refine ld_at (sh:=shInt .i64) (readS (bitsN d) p) ?_ (iteF (fun hh=>by have h9:readS (bitsN d) p≥64:=of_decide_eq_true hh;omega) ⟨by omega,?_⟩)
 ·rw [box_add]
  exact b2.ldIs (off:=2) (n:=1) rfl
 obtain ⟨j,hj⟩:∃j,64=bitsN d+j:=⟨64-bitsN d,by omega⟩
 have ej:64-bitsN d=j:=by omega
 have hx:d*2^j<18446744073709551616:=by
  have:=Nat.mul_lt_mul_of_pos_right hhi (Nat.two_pow_pos j)
  rw [←Nat.pow_add,←hj] at this
  exact this
 have hx0:2305843009213693952≤d*2^j:=by
  have:=Nat.mul_le_mul_right (2^j) hlo
  rw [←Nat.pow_add,show bitsN d-1+j=63 by omega] at this
  exact Nat.le_trans (by decide) this
 rw [ej] at sc ⊢
 rw [shlN (by omega) hx]
 obtain ⟨t1,t2,t3⟩:=zmn1 p0 p1
 have b3:Scl k2 b (hiP p) (loP p) (readS (bitsN d) p).toNat:=by
  unfold Scl
  rw [show (((readS (bitsN d) p).toNat:Nat):Int)=readS (bitsN d) p by omega]
  exact b2
 refine zfs (zrp1 hx t2 t3 (by omega) (zhz1 hx0 t1) b3 ?_)
 have hu:=zmp1 (lo:=loP p) (s:=(readS (bitsN d) p).toNat) hx t2
 rw [←sc] at rm rx
 generalize zvu (d*2^j) (hiP p) (loP p) (readS (bitsN d) p).toNat=u at*
 refine zky (zzh1 ?_)
 refine zdw (zpe1 ⟨by omega,?_⟩)
 rw [and1 hu]
 have hpr:∀k,h≤k→(∀(er:Leaf),er.v=.nilIface→EncW zah er.v fun e=>Q (sgn s+r) e k):=fun k hl er he=>⟨er,rfl,hq er k hl he⟩
 have hMb:zac r<9007199254740992:=by unfold zac;split<;>omega
 have fin:bitsI .or .u64 ((sgn s:Nat):Int) ((zac r:Nat):Int)=((sgn s+zac r:Nat):Int):=zvp1 (by omega)
 unfold readM at rm
 unfold readX at rx
 by_cases c:36028797018963966≤u
 ·rw [if_pos c] at rm rx
  rw [decide_eq_true (show (u:Int)≥36028797018963966 by omega)]
  have e1:shrI .u64 (u:Int) (((true.toNat:Nat):Int))=((u / 2:Nat):Int):=shrN u (n:=1) (by decide)
  rw [e1,orN (Nat.lt_of_le_of_lt (Nat.div_le_self _ _) hu) (by omega)]
  refine zbg (zhy1 (Nat.or_lt_two_pow (n:=64) (Nat.lt_of_le_of_lt (Nat.div_le_self _ _) hu) (by omega)) ?_)
  rw [rm,fin,show (((true.toNat:Nat):Int))=1 from rfl,zad (n:=readE (bitsN d) p-1) (by omega) (by omega),zad (by omega) (by omega),show (0:Int)-(readE (bitsN d) p-1)=zab r by omega]
  exact zft (zsp1 h1 h2 fun er he=>hpr k2 (back m2) er he)
 ·rw [if_neg c] at rm rx
  rw [decide_eq_false (show ¬(u:Int)≥36028797018963966 by omega)]
  have e1:shrI .u64 (u:Int) (((false.toNat:Nat):Int))=(u:Int):=by
   have:=shrN u (n:=0) (by decide)
   rw [Nat.pow_zero,Nat.div_one] at this
   exact this
  rw [e1,orN hu (by omega),zpe2]
  refine zbg (zhy1 hu ?_)
  rw [rm,fin,show (((false.toNat:Nat):Int))=0 from rfl,zad (n:=readE (bitsN d) p-0) (by omega) (by omega),zad (by omega) (by omega),show (0:Int)-(readE (bitsN d) p-0)=zab r by omega]
  exact zft (zsp1 h1 h2 fun er he=>hpr k2 (back m2) er he)
end
end Lf

namespace Lf
open Go Go.Proofs
theorem zgc2 {o:Option Nat} {v:Nat} (h:outD o=v) (hn:¬9218868437227405312<v%9223372036854775808):o=some v:=by
 cases o with
 | some x=>exact congrArg some h
 | none=>
  have:9221120237041090560=v:=h
  exact absurd (by rw [←this];decide) hn
theorem zpo1 {a b v:Nat} (ha:a<18446744073709551616) (hb:b<18446744073709551616) (hv:mulD a b=v) (hn:¬9218868437227405312<v%9223372036854775808):f64.format.mul a b=some v:=
 zgc2 ((zoq2 ha hb).1.trans hv) hn
theorem zjz2 {a b v:Nat} (ha:a<18446744073709551616) (hb:b<18446744073709551616) (hv:divD a b=v) (hn:¬9218868437227405312<v%9223372036854775808):f64.format.div a b=some v:=
 zgc2 ((zor2 ha hb).1.trans hv) hn
theorem zka2 {s:Bool} {x y m n:Nat} (hx:WholeF x m) (hy:WholeF y n):mulD (sgn s+x) y=sgn s+rungD (zac x*zac y) (zab x+zab y) false:=by
 have a:=hx.m
 have b:=hy.m
 obtain ⟨x0,x1, -⟩:=hx
 obtain ⟨y0,y1, -⟩:=hy
 have hm:(sgn s+x)%9223372036854775808=x:=by unfold sgn;cases s<;>simp<;>omega
 have hn:negD (sgn s+x)=s:=by unfold negD sgn;cases s<;>simp<;>omega
 have hy2:y%9223372036854775808=y:=by omega
 have hny:negD y=false:=by unfold negD;rw [decide_eq_false (by omega)]
 have nx:¬znq (sgn s+x)=true:=zqv (by rw [hm];omega)
 have ny:¬znq y=true:=zqv (by rw [hy2];omega)
 unfold mulD
 dsimp only
 rw [hm,hy2,hn,hny,if_neg (fun h=>h.elim nx fun h=>h.elim ny fun h=>h.elim (fun h=>by omega) fun h=>by omega),if_neg (by omega)]
 unfold zio
 rw [if_neg (Nat.ne_of_gt (Nat.mul_pos (by omega) (by omega))),Bool.xor_false]
theorem zwd1 {x:Nat} (hx:x<9223372036854775808):Op.negFloat .f64 x=9223372036854775808+x:=by
 show x^^^2^63=_
 have h1:x^^^2^63=x ||| 2^63:=by
  refine Nat.eq_of_testBit_eq fun i=> ?_
  rw [Nat.testBit_xor,Nat.testBit_or,Nat.testBit_two_pow]
  by_cases hi:63=i
  ·subst hi
   rw [Nat.testBit_lt_two_pow (by omega)];rfl
  ·rw [decide_eq_false hi,Bool.xor_false,Bool.or_false]
 rw [h1,Nat.or_comm]
 have:=Nat.shiftLeft_add_eq_or_of_lt (b:=x) (i:=63) (by omega) 1
 rw [Nat.shiftLeft_eq,Nat.one_mul] at this
 rw [←this]
section
variable {h:Hp}
theorem zlr2 {c:Option Bool} {P:Program} {s:Sem Value} {sh:Shape} {v:sh.T} {K:sh.T→Prop} (he:s=Sem.pure (sh.enc v)) (hk:K v):SemV c P s sh h K:=by
 obtain ⟨x,hx,hk⟩:=zjc (P:=P) (h:=h) he hk
 refine ⟨x,?_,hk⟩
 cases c with
 | none=>exact hx
 | some b=>exact fun _=>hx
theorem zkh1 (env:FEnv h) {i:Int} {K:Nat→Prop} (i0:0≤i) (i1:i<23) (hk:∀x,pow10F[i.toNat]? =some x→K x):
  LdW none shSl h ⟨12,0,none⟩ fun y=>(InB y.base y.len i)∧LdW none (shFlt .f64) h (sat y.base 1 i) K:=by
 obtain ⟨a,c,e1,e2⟩:=env.f10
 obtain ⟨j,rfl⟩:=Int.eq_ofNat_of_zero_le i0
 have hlen:pow10F.length=23:=rfl
 obtain ⟨x,hx⟩:∃x,pow10F[j]? =some x:=⟨pow10F[j]'(by omega),List.getElem?_eq_getElem (by omega)⟩
 refine ld_at (sh:=shSl) ⟨some a,23,c⟩ e1 ⟨⟨by simp,by omega,by show (j:Int)<23;omega⟩,ld_at (sh:=shFlt .f64) x ?_ (hk x (by rw [Int.toNat_natCast];exact hx))⟩
 show LdIs h (Addr.add a (Int.toNat (j:Int)*1)) [.float .f64 x]
 rw [Int.toNat_natCast,Nat.mul_one]
 exact zum (e2 j _ (by rw [List.getElem?_map,hx];rfl))
theorem zki1 :∀x∈pow10F,x<9218868437227405312:=by decide
theorem zzi1 {m r:Nat} {p:Int} {neg:Bool} {Q:Nat→Bool→Hp→Prop} (env:FEnv h) (hm0:0<m) (hm:m<18446744073709551616) (hp0: -400≤p) (hp1:p≤400)
  (hq:∀f ok,(0<r→r<9218868437227405312→inF r (m*unitW 0 p)=true→ok=true→f=sgn neg+r)→Q f ok h):zek Tryz.prog (m:Int) p neg Q h:=by
 have no:∀f,Q f false h:=fun f=>hq f false fun _ _ _ e=>by cases e
 unfold zek
 have ea:Addr.add ⟨7,0,none⟩ 0=(⟨7,0,none⟩:Addr):=by rw [box_add]
 rw [ea]
 refine ld_at (sh:=shInt .u64) (52:Int) env.info ⟨by decide,?_⟩
 have e0:shrI .u64 (m:Int) (52:Int)=((m / 2^52:Nat):Int):=shrN m (n:=52) (by decide)
 rw [e0]
 refine iteB (fun _=>no 0) fun hz=> ?_
 have hm52:m<4503599627370496:=by
  refine Classical.byContradiction fun hn=>hz (bne_iff_ne.2 ?_)
  omega
 have hx:=zke1 hm0 (show m<9007199254740992 by omega)
 have hf:f64.nearest (m:Int)=rungD m 0 false:=by
  rw [zix2]
  unfold zyi1
  rw [show ((m:Int)).natAbs=m by omega,decide_eq_false (by omega)]
  unfold zio
  rw [if_neg (by omega)]
  show 0+_=_
  omega
 generalize hX:rungD m 0 false=x at*
 refine ⟨x,by rw [←hf];exact znr2,?_⟩
 obtain ⟨x0,x1, -⟩:=id hx
 have hs:=zsh1 neg
 refine JoinW1.intro (fun f k=>k=h∧f=sgn neg+x) ?_ ?_
 ·cases neg with
  | true=>exact iteT rfl ⟨rfl,zwd1 (by omega)⟩
  | false=>exact iteF (by decide) ⟨rfl,by show x=0+x;omega⟩
 rintro _ h ⟨rfl,rfl⟩
 refine iteB (fun hp=> ?_) fun hpn=>letW (iteB (fun hy=> ?_) fun hyn=>letW (iteB (fun hy=> ?_) fun _=>no _))
 ·have hp:p=0:=beq_iff_eq.1 hp
  subst hp
  exact hq _ _ fun h1 h2 hin _=>by rw [zfd2 (by omega) h1 hx.one hin]
 ·rw [Bool.and_eq_true] at hy
  have y1:=of_decide_eq_true hy.1
  have y2:=of_decide_eq_true hy.2
  refine JoinW2.intro (fun e f k=>k=h∧0<e∧e≤22∧∃z,f=sgn neg+z∧((∃M,0<M∧WholeF z M∧m*unitW 0 p=M*10^e.toNat*unitW 0 0)∨(4831355200913801216<z∧z≤9218868437227405312))) ?_ ?_
  ·refine iteB (fun h22=> ?_) fun h22=> ?_
   ·have h22:=of_decide_eq_true h22
    rw [zad (by omega) (by omega)]
    have hpw:=zkh1 env (i:=p-22) (by omega) (by omega) (K:=fun x3=>SemE Tryz.prog (binS .mul 48 (.tmp 31) (.tmp 36) (.float .f64 (sgn neg+x)) (.float .f64 x3)) (shFlt .f64) (fun r h2=>(fun e f k=>k=h∧0<e∧e≤22∧∃z,f=sgn neg+z∧((∃M,0<M∧WholeF z M∧m*unitW 0 p=M*10^e.toNat*unitW 0 0)∨(4831355200913801216<z∧z≤9218868437227405312))) (22:Int) r h2) h) ?_
    ·exact hpw
    intro y hy
    obtain ⟨hyw,hk⟩:=zkf1 hy
    have hyl:=zki1 y (List.mem_of_getElem? hy)
    have hprod:0<m*10^(p-22).toNat:=Nat.mul_pos hm0 (Nat.pow_pos (by decide))
    have hval:m*unitW 0 p=m*10^(p-22).toNat*10^(22:Int).toNat*unitW 0 0:=by
     have e:=zfa (a:=0) (b:=0) (n:=(p-22).toNat+22) (by omega)
     rw [show (0:Int)+(((p-22).toNat+22:Nat):Int)=p by omega] at e
     rw [←e,Nat.pow_add,←Nat.mul_assoc,←Nat.mul_assoc];rfl
    by_cases hle:m*10^(p-22).toNat≤1000000000000000
    ·obtain ⟨z,hz1,hz2⟩:=zga2 hx hyw hprod hle
     refine zbw1 zvu1 fun g g1 _=>⟨rfl,by decide,by decide,z,g1 _ (zpo1 (by omega) (by omega) (hz2 neg) ?_),.inl ⟨_,hprod,hz1,hval⟩⟩
     have:=hz1.2.1
     omega
    ·have hg:=zgb2 hx hyw (by omega)
     have hr:=zhu1 (m:=zac x*zac y) (e:=zab x+zab y) (b:=false)
     refine zbw1 zvu1 fun g g1 _=>⟨rfl,by decide,by decide,_,g1 _ (zpo1 (by omega) (by omega) (zka2 hx hyw) (by omega)),.inr ⟨hg,hr⟩⟩
   ·have h22:¬p>22:=fun e=>h22 (decide_eq_true e)
    refine ⟨rfl,y1,by omega,x,rfl,.inl ⟨m,hm0,hx,?_⟩⟩
    have e:=zfa (a:=0) (b:=0) (n:=p.toNat) (by omega)
    rw [show (0:Int)+(p.toNat:Int)=p by omega] at e
    rw [←e,←Nat.mul_assoc]
  rintro e _ h ⟨rfl,e0,e1,z,rfl,hz⟩
  have hzb:z≤9218868437227405312:=by
   rcases hz with ⟨M, -,hz, -⟩ | hz
   ·have:=hz.2.1;omega
   ·exact hz.2
  have o1:=zyn (a:=sgn neg+z) (b:=4831355200913801216) (by omega) (by omega) (by omega) (by omega)
  have o2:=zyn (a:=sgn neg+z) (b:=14054727237768577024) (by omega) (by omega) (by omega) (by omega)
  have r1:rzD 4831355200913801216=4831355200913801216:=by unfold rzD negD;rw [decide_eq_false (by omega)];decide
  have r2:rzD 14054727237768577024= -4831355200913801216:=by unfold rzD negD;rw [decide_eq_true (by omega)];decide
  refine zjc (sh:=zae) (v:=f64.format.order (sgn neg+z) 4831355200913801216==some .gt) rfl ?_
  refine zlr2 (sh:=zae) (v:=f64.format.order (sgn neg+z) 14054727237768577024==some .lt) rfl (letW ?_)
  refine iteB (fun _=>no _) fun hnot=> ?_
  rcases hz with ⟨M,M0,hzw,hval⟩ | ⟨hz1,hz2⟩
  ·have hpw:=zkh1 env (i:=e) (by omega) (by omega) (K:=fun x5=>SemE Tryz.prog (binS .mul 48 (.tmp 44) (.tmp 48) (.float .f64 (sgn neg+z)) (.float .f64 x5)) (shFlt .f64) (fun r h3=>Q r true h3) h) ?_
   ·exact hpw
   intro y hy
   obtain ⟨hyw,hk⟩:=zkf1 hy
   have hyl:=zki1 y (List.mem_of_getElem? hy)
   refine zbw1 zvu1 fun g g1 _=>hq _ _ fun h1 h2 hin _=> ?_
   rw [hval] at hin
   exact g1 _ (zpo1 (by omega) (by omega) (zmz1 h1 h2 hzw hyw hin) (by omega))
  ·exfalso
   refine hnot ?_
   have hzr:rzD (sgn neg+z)=if neg then -(z:Int) else (z:Int):=by
    unfold rzD negD
    cases neg with
    | true=>rw [show sgn true=9223372036854775808 from rfl,decide_eq_true (by omega),show (9223372036854775808+z)%9223372036854775808=z by omega]
    | false=>rw [show sgn false=0 from rfl,decide_eq_false (by omega),show (0+z)%9223372036854775808=z by omega]
   rw [Bool.or_eq_true]
   cases neg with
   | true=>
    right
    show (dbl.order _ _==some .lt)=true
    rw [o2,hzr,r2,if_pos rfl,show compare (-(z:Int)) (-4831355200913801216)=.lt by rw [Int.compare_eq_lt];omega];rfl
   | false=>
    left
    show (dbl.order _ _==some .gt)=true
    rw [o1,hzr,r1,if_neg (by decide),show compare (z:Int) 4831355200913801216=.gt by rw [Int.compare_eq_gt];omega];rfl
 ·rw [Bool.and_eq_true] at hy
  have y1:=of_decide_eq_true hy.1
  have y2:=of_decide_eq_true hy.2
  rw [zad (by omega) (by omega)]
  have hpw:=zkh1 env (i:=(0:Int)-p) (by omega) (by omega) (K:=fun x3=>SemE Tryz.prog (binS .quo 48 (.tmp 57) (.tmp 62) (.float .f64 (sgn neg+x)) (.float .f64 x3)) (shFlt .f64) (fun r h2=>Q r true h2) h) ?_
  ·exact hpw
  intro y hy
  obtain ⟨hyw,hk⟩:=zkf1 hy
  have hyl:=zki1 y (List.mem_of_getElem? hy)
  refine zbw1 zmw2 fun g g1 _=>hq _ _ fun h1 h2 hin _=> ?_
  exact g1 _ (zjz2 (by omega) (by omega) (zbm2 h1 h2 hx hyw (by omega) (by rw [show -((((0:Int)-p).toNat:Nat):Int)=p by omega];exact hin)) (by omega))
end
end Lf

namespace Lf
open Go Go.Proofs
abbrev U64 (x:Int):Prop:=∃n:Nat,x=(n:Int)∧n<18446744073709551616
theorem zsu (x:Int):U64 (IntKind.wrap .u64 x):=⟨(IntKind.wrap .u64 x).toNat,by rw [zal];omega,by rw [zal];omega⟩
section
variable {h:Hp}
theorem lowE {b:Bool} {c:Int} {K:Int→Hp→Prop} (hk:∀x,K x h):EffC (some b) (CallT Tryz.prog zaf [(.int .u8 c)] (shInt .u8)) K h:=
 ⟨fun _=>zau (zun (hk _)),fun _=>⟨(0:Int),hk 0⟩⟩
theorem lowC {c:Int} {K:Int→Hp→Prop} (hk:∀x,K x h):CallT Tryz.prog zaf [(.int .u8 c)] (shInt .u8) K h:=zau (zun (hk _))
theorem zlf1 {s:ByteArray} {Q:Bool→Hp→Prop} (hs:s.size<4611686018427387904) (hq:∀b,Q b h):zdt Tryz.prog s Q h:=by
 unfold zdt
 refine JoinW1.intro (fun s k=>k=h∧s.size<4611686018427387904) ⟨fun hh=>⟨by decide,by have:=of_decide_eq_true hh;omega⟩,fun hh=>⟨by decide,by rw [Bool.and_eq_true] at hh;have:=of_decide_eq_true hh.1;omega⟩,letW (letW (iteB (fun hy=> ?_) fun _=>⟨rfl,hs⟩))⟩ ?_
 ·rw [Bool.and_eq_true] at hy
  have:=of_decide_eq_true hy.1
  refine ⟨⟨by decide,by omega⟩,rfl,?_⟩
  rw [ByteArray.size_extract]
  omega
 clear hs s
 rintro s h ⟨rfl,hs⟩
 refine JoinW3.intro (fun _ i _ k=>k=h∧0≤i∧i≤(s.size:Int)) ?_ ?_
 ·refine ⟨fun hh=>⟨by decide,by have:=of_decide_eq_true hh;omega⟩,letW ?_⟩
  generalize hy:((decide ((((ByteArray.size s):Nat):Int)≥(2:Int)))&&((((UInt8.toNat (List.getD s.data.toList 0 0)):Nat):Int)==(48:Int)))=y
  have hy2:y=true→(2:Int)≤(s.size:Int):=fun e=>by
   rw [e,Bool.and_eq_true] at hy
   exact of_decide_eq_true hy.1
  refine ⟨fun e=>⟨by decide,by have:=hy2 e;omega⟩,lowE fun r=>⟨fun e=> ?_,lowE fun r1=>letW ⟨fun e=> ?_,lowE fun r2=>letW (letW (iteB (fun e=> ?_) fun _=>⟨rfl,by omega,by omega⟩))⟩⟩⟩
  ·rw [Bool.and_eq_true] at e;exact ⟨by decide,by have:=hy2 e.1;omega⟩
  ·rw [Bool.and_eq_true] at e;exact ⟨by decide,by have:=hy2 e.1;omega⟩
  ·rw [Bool.and_eq_true] at e
   have:=hy2 e.1
   exact ⟨⟨by decide,by omega⟩,lowC fun _=>⟨rfl,by omega,this⟩⟩
 rintro saw i hex h ⟨rfl,i0,i1⟩
 refine LoopW2.intro (fun _ i k=>k=h∧0≤i∧i≤(s.size:Int)) (fun _ i _=>(s.size-i).toNat) ⟨rfl,i0,i1⟩ ?_
 clear i0 i1 saw i
 rintro saw i h ⟨rfl,i0,i1⟩
 refine iteB (fun hi=> ?_) fun _=> ?_
 ·have hi:=of_decide_eq_true hi
  have key:∀v:Int,(h=h∧0≤IntKind.wrap .i64 (i+1)∧IntKind.wrap .i64 (i+1)≤(s.size:Int))∧(s.size-IntKind.wrap .i64 (i+1)).toNat<(s.size-i).toNat:=fun _=>by
   rw [zad (by omega) (by omega)]
   exact ⟨⟨rfl,by omega,by omega⟩,by omega⟩
  refine JoinW1.intro (fun _ k=>k=h) ?_ fun v k hk=>by rw [hk];exact key v
  refine ⟨⟨i0,hi⟩,fun _=>⟨i0,hi⟩,letW ⟨fun _=>⟨i0,hi⟩,lowE fun r=>letW ⟨fun _=>⟨i0,hi⟩,lowE fun r1=>letW (letW (iteB (fun _=>rfl) fun _=>⟨⟨i0,hi⟩,?_⟩))⟩⟩⟩
  exact iteB (fun _=>iteB (fun _=>hq _) fun _=>rfl) fun _=>iteB (fun _=>hq _) fun _=>rfl
 ·exact hq _
theorem zpp1 {s:ByteArray} {Q:Int→Int→Bool→Bool→Bool→Int→Bool→Hp→Prop} (hs:s.size<4611686018427387904) (hq:∀(m:Nat) e neg tr hex i ok,m<18446744073709551616→(ok=true→0≤i∧i≤(s.size:Int))→Q (m:Int) e neg tr hex i ok h):zax Tryz.prog s Q h:=by
 unfold zax
 have no:∀(m e:Int) neg tr hex i,U64 m→Q m e neg tr hex i false h:=fun m e neg tr hex i ⟨n,en,hn⟩=>en▸hq n e neg tr hex i false hn fun e=>by cases e
 generalize hN:s.size=N at*
 refine iteB (fun _=>no _ _ _ _ _ _ ⟨0,rfl,by decide⟩) fun hN0=> ?_
 have hN0:¬(0:Int)≥(N:Int):=fun e=>hN0 (decide_eq_true e)
 refine ⟨⟨by decide,by omega⟩,JoinW2.intro (fun _ i k=>k=h∧0≤i∧i≤(N:Int)) (iteB (fun _=>⟨rfl,by omega,by omega⟩) fun _=>iteB (fun _=>⟨rfl,by omega,by omega⟩) fun _=>⟨rfl,by omega,by omega⟩) ?_⟩
 rintro neg i h ⟨rfl,i0,i1⟩
 refine JoinW5.intro (fun _ i _ _ _ k=>k=h∧0≤i∧i≤(N:Int)) ?_ ?_
 ·have w2:IntKind.wrap .i64 (i+2)=i+2:=zad (by omega) (by omega)
  have w1:IntKind.wrap .i64 (i+1)=i+1:=zad (by omega) (by omega)
  rw [w2,w1]
  refine ⟨fun hh=>⟨i0,by have:=of_decide_eq_true hh;omega⟩,letW ⟨fun hh=> ?_,lowE fun r=>letW (iteB (fun hh=> ?_) fun _=>⟨rfl,i0,i1⟩)⟩⟩
  ·rw [Bool.and_eq_true] at hh
   have:=of_decide_eq_true hh.1
   exact ⟨by omega,by omega⟩
  ·rw [Bool.and_eq_true,Bool.and_eq_true] at hh
   have:=of_decide_eq_true hh.1.1
   exact ⟨rfl,by omega,by omega⟩
 clear i0 i1 i
 rintro hex i base mx ex h ⟨rfl,i0,i1⟩
 refine JoinW9.intro (fun m _ i _ _ _ _ _ _ k=>k=h∧0≤i∧i≤(N:Int)∧U64 m) ?_ ?_
 ·refine LoopW9.intro (fun m _ i _ _ _ _ _ _ k=>k=h∧0≤i∧i≤(N:Int)∧U64 m) (fun _ _ i _ _ _ _ _ _ _=>(N-i).toNat) ⟨rfl,i0,i1,0,rfl,by decide⟩ ?_
  clear i0 i1 i
  rintro m tr i us sd sg nd ndm dp h ⟨rfl,i0,i1,hm⟩
  refine iteB (fun hi=> ?_) fun _=>⟨rfl,i0,i1,hm⟩
  have hi:=of_decide_eq_true hi
  refine JoinW8.intro (fun m _ _ _ _ _ _ _ k=>k=h∧U64 m) ?_ ?_
  ·refine ⟨⟨i0,hi⟩,iteB (fun _=>⟨rfl,hm⟩) fun _=>iteB (fun _=>iteB (fun _=>⟨rfl,i0,i1,hm⟩) fun _=>⟨rfl,hm⟩) fun _=>letW (iteB (fun _=>letW (iteB (fun _=>⟨rfl,hm⟩) fun _=>iteB (fun _=>⟨rfl,zsu _⟩) fun _=>iteB (fun _=>⟨rfl,hm⟩) fun _=>⟨rfl,hm⟩)) fun _=> ?_)⟩
   refine lowE fun r=>letW (lowE fun r1=>letW (iteB (fun _=>iteB (fun _=>lowC fun _=>⟨rfl,zsu _⟩) fun _=>⟨rfl,hm⟩) fun _=>⟨rfl,i0,i1,hm⟩))
  rintro m tr us sd sg nd ndm dp h ⟨rfl,hm⟩
  rw [zad (n:=i+1) (by omega) (by omega)]
  exact ⟨⟨rfl,by omega,by omega,hm⟩,by omega⟩
 clear i0 i1 i
 rintro m tr i us sd sg nd ndm dp h ⟨rfl,i0,i1,hm⟩
 refine iteB (fun _=>no _ _ _ _ _ _ hm) fun _=> ?_
 refine JoinW1.intro (fun _ k=>k=h) (iteB (fun _=>rfl) fun _=>rfl) ?_
 rintro dp h rfl
 refine JoinW2.intro (fun _ _ k=>k=h) (iteB (fun _=>rfl) fun _=>rfl) ?_
 rintro ndm dp h rfl
 refine JoinW3.intro (fun i _ _ k=>k=h∧0≤i∧i≤(N:Int)) ?_ ?_
 ·refine ⟨fun hh=>⟨i0,of_decide_eq_true hh⟩,lowE fun r=>letW (iteB (fun hy=> ?_) fun _=>iteB (fun _=>no _ _ _ _ _ _ hm) fun _=>⟨rfl,i0,i1⟩)⟩
  rw [Bool.and_eq_true] at hy
  have hi:=of_decide_eq_true hy.1
  rw [zad (n:=i+1) (by omega) (by omega)]
  refine iteB (fun _=>no _ _ _ _ _ _ hm) fun h1=> ?_
  have h1:¬i+1≥(N:Int):=fun e=>h1 (decide_eq_true e)
  refine ⟨⟨by omega,by omega⟩,JoinW2.intro (fun i3 _ k=>k=h∧0≤i3∧i3≤(N:Int)) ?_ ?_⟩
  ·rw [zad (n:=i+1+1) (by omega) (by omega)]
   exact iteB (fun _=>⟨rfl,by omega,by omega⟩) fun _=>iteB (fun _=>⟨rfl,by omega,by omega⟩) fun _=>⟨rfl,by omega,by omega⟩
  rintro i3 es h ⟨rfl,j0,j1⟩
  refine ⟨fun hh=>⟨j0,?_⟩,letW ⟨fun hh=>⟨j0,?_⟩,letW (iteB (fun _=>no _ _ _ _ _ _ hm) fun hy2=> ?_)⟩⟩
  ·have:¬i3≥(N:Int):=fun e=>by rw [decide_eq_true e] at hh;cases hh
   omega
  ·have:¬i3≥(N:Int):=fun e=>by rw [decide_eq_true e,Bool.true_or] at hh;cases hh
   omega
  refine LoopW3.intro (fun i4 _ _ k=>k=h∧0≤i4∧i4≤(N:Int)) (fun i4 _ _ _=>(N-i4).toNat) ⟨rfl,j0,j1⟩ ?_
  rintro i4 us4 e4 h ⟨rfl,k0,k1⟩
  refine ⟨fun hh=>⟨k0,of_decide_eq_true hh⟩,fun hh=>⟨k0,by rw [Bool.and_eq_true] at hh;exact of_decide_eq_true hh.1⟩,letW ⟨fun hh=>⟨k0,by rw [Bool.and_eq_true] at hh;exact of_decide_eq_true hh.1⟩,letW (letW (iteB (fun hy=> ?_) fun _=>⟨rfl,k0,k1⟩))⟩⟩
  rw [Bool.and_eq_true] at hy
  have hi4:=of_decide_eq_true hy.1
  refine JoinW2.intro (fun _ _ k=>k=h) ⟨⟨k0,hi4⟩,iteB (fun _=>rfl) fun _=>iteB (fun _=>⟨⟨k0,hi4⟩,rfl⟩) fun _=>rfl⟩ ?_
  rintro us5 e5 h rfl
  rw [zad (n:=i4+1) (by omega) (by omega)]
  exact ⟨⟨rfl,by omega,by omega⟩,by omega⟩
 clear i0 i1 i
 rintro i us dp h ⟨rfl,i0,i1⟩
 refine JoinW1.intro (fun _ k=>k=h) (iteB (fun _=>rfl) fun _=>rfl) ?_
 rintro e h rfl
 obtain ⟨n,rfl,hn⟩:=hm
 have fin:∀r:Bool,(if (us&&(!r))=true then Q (n:Int) e neg tr hex i false h else Q (n:Int) e neg tr hex i true h):=fun r=>iteB (fun _=>no _ _ _ _ _ _ ⟨n,rfl,hn⟩) fun _=>hq n e neg tr hex i true hn fun _=>⟨i0,i1⟩
 refine ⟨fun _=>⟨i0,i1⟩,fun _=>zni (zlf1 ?_ fun r=>letW (fin r)),fun _=>⟨true,letW (fin true)⟩⟩
 rw [ByteArray.size_extract]
 omega
end
end Lf

namespace Lf
open Go Go.Proofs
structure HEnv (h:Hp):Prop where
 f64:∃cs,Blk h 7 cs
 i0:LdIs h ⟨7,0,none⟩ [.int .u64 52]
 i1:LdIs h ⟨7,1,none⟩ [.int .u64 11]
 i2:LdIs h ⟨7,2,none⟩ [.int .i64 (-1023)]
 f32:∃cs,Blk h 6 cs
theorem HEnv.mono {h h':Hp} (e:HEnv h) (hl:h≤h'):HEnv h':=⟨e.f64.imp fun _ k=>k.le hl,zbe hl e.i0,zbe hl e.i1,zbe hl e.i2,e.f32.imp fun _ k=>k.le hl⟩
theorem zgd2 {x b:Nat} (hb:b≤1):x ||| b≤2*(x / 2)+1:=by
 have:=Nat.or_div_two_pow (a:=x) (b:=b) (n:=1)
 rw [Nat.pow_one,show b / 2=0 by omega,Nat.or_zero] at this
 omega
section
variable {h:Hp}
theorem ld_c {sh:Shape} {c:Option Bool} {a:Addr} {K:sh.T→Prop} (x:sh.T) (hl:LdIs h a (zaj (sh.enc x))) (hk:K x):LdW c sh h a K:=by
 refine ⟨x,?_,hk⟩
 cases c with
 | none=>exact hl
 | some b=>exact fun _=>hl
set_option maxRecDepth 100000 in
theorem zpg2 {a b:Nat} {ca cb:List Value} {x y:Operand} (ka:Blk h a ca) (kb:Blk h b cb) (hne:a≠b):SemIs Tryz.prog (binS .eql 211 x y (.pointer (some ⟨a,0,none⟩)) (.pointer (some ⟨b,0,none⟩))) h (.bool false):=by
 have hb2:((⟨a,0,none⟩:Addr).block==(⟨b,0,none⟩:Addr).block)=false:=by simpa using hne
 obtain ⟨ta,ea⟩:=id ka
 obtain ⟨tb',eb⟩:=id kb
 obtain ⟨i,hi,h1, -, -⟩:=tb_ok.info 213 ty213 rfl
 have hsz:i.size≠0:=by rw [h1];decide
 have key:∀d,semW Tryz.prog (Op.equalIn (d+1) 211 (.pointer (some ⟨a,0,none⟩)) (.pointer (some ⟨b,0,none⟩))) (fun u h'=>u=false∧h'=h) h:=by
  intro d
  unfold Op.equalIn
  refine (zij1 _ _).2 (ziq2 (tb_ok.und _ ty211 rfl) ?_)
  show semW _ (Go.sizeOf 213>>=fun n=>if n≠0 then sameAddr ⟨a,0,none⟩ ⟨b,0,none⟩ else _) _ h
  refine (semW_bind' _ _).2 (zek2 hi ?_)
  rw [if_pos hsz]
  unfold sameAddr
  rw [hb2]
  simp only [Bool.false_eq_true,if_false]
  refine (semW_bind' _ _).2 (zyo (a:=⟨a,0,none⟩) ea ?_)
  refine (semW_bind' _ _).2 (zyo (a:=⟨b,0,none⟩) eb ?_)
  rw [zoz1 ka]
  simp only [Bool.false_and,Bool.false_eq_true,if_false]
  refine (semW_bind' _ _).2 (zjt1 ka ?_)
  refine (semW_bind' _ _).2 (zjt1 kb ?_)
  refine (semW_bind' _ _).2 ?_
  unfold mayBeOne
  refine (semW_bind' _ _).2 (zcx1 ka ?_)
  refine (semW_bind' _ _).2 (zcx1 kb ?_)
  refine (semW_bind' _ _).2 ((semW_bind' _ _).2 (zbu1 (r:=a) ea ?_))
  refine (semW_bind' _ _).2 ((semW_bind' _ _).2 (zbu1 (r:=b) eb ?_))
  exact ⟨rfl,rfl⟩
 refine zer1 ?_
 show semW Tryz.prog (Sem.bind (Op.equal 211 (.pointer (some ⟨a,0,none⟩)) (.pointer (some ⟨b,0,none⟩))) fun b=>Sem.pure (Value.bool b)) _ h
 refine (zij1 _ _).2 (zcf2 _ (fun a k hk=> ?_) (key 9999))
 obtain ⟨rfl,rfl⟩:=hk
 exact ⟨rfl,rfl⟩
theorem zna1 {s p:ByteArray} {Q:Int→Hp→Prop} (hs:s.size<4611686018427387904) (hq:∀n,Q n h):zak Tryz.prog s p Q h:=by
 unfold zak
 refine LoopW1.intro (fun i k=>k=h∧0≤i) (fun i _=>(s.size-i).toNat) ⟨rfl,by omega⟩ ?_
 rintro i h ⟨rfl,i0⟩
 refine iteB (fun hi=> ?_) fun _=>hq _
 have hi:=of_decide_eq_true hi
 have h2:i<(s.size:Int)∧i<(p.size:Int):=by unfold min2I at hi;split at hi<;>omega
 refine ⟨⟨i0,h2.1⟩,JoinW1.intro (fun _ k=>k=h) (letW (iteB (fun _=>rfl) fun _=>rfl)) ?_⟩
 rintro c h rfl
 refine ⟨⟨i0,h2.2⟩,iteB (fun _=>hq _) fun _=> ?_⟩
 rw [zad (by omega) (by omega)]
 exact ⟨⟨rfl,by omega⟩,by omega⟩
theorem zwe1 {s:ByteArray} {Q:Nat→Int→Bool→Hp→Prop} (hs:s.size<4611686018427387904) (hq:∀f n ok,Q f n ok h):zba Tryz.prog s Q h:=by
 unfold zba
 refine iteB (fun _=>hq _ _ _) fun h0=> ?_
 have h0:0<s.size:=by
  refine Nat.pos_of_ne_zero fun e=>h0 (by rw [e];rfl)
 refine ⟨⟨by decide,by omega⟩,JoinW3.intro (fun s _ _ k=>k=h∧s.size<4611686018427387904) ?_ ?_⟩
 ·refine JoinW1.intro (fun _ k=>k=h) (iteB (fun _=>rfl) fun _=>rfl) ?_
  rintro t13 h rfl
  refine iteB (fun _=> ?_) fun _=> ?_
  ·refine JoinW1.intro (fun _ k=>k=h) ⟨⟨by decide,by omega⟩,iteB (fun _=>rfl) fun _=>rfl⟩ ?_
   rintro sg h rfl
   refine ⟨⟨by decide,by omega⟩,rfl,?_⟩
   rw [ByteArray.size_extract]
   omega
  ·refine JoinW1.intro (fun _ k=>k=h) (iteB (fun _=>rfl) fun _=>rfl) ?_
   rintro t16 h rfl
   refine iteB (fun _=>⟨rfl,hs⟩) fun _=> ?_
   refine JoinW1.intro (fun _ k=>k=h) (iteB (fun _=>rfl) fun _=>rfl) ?_
   rintro t19 h rfl
   refine iteB (fun _=>zat (zna1 hs fun n=>iteB (fun _=>zvt ?_) fun _=>hq _ _ _)) fun _=>hq _ _ _
   unfold zpc
   exact zhn (n:=9221120237041090561) rfl (by decide) (hq _ _ _)
 rintro s1 sg ns h ⟨rfl,hs1⟩
 refine zat (zna1 hs1 fun n=> ?_)
 refine JoinW1.intro (fun _ k=>k=h) (letW (iteB (fun _=>rfl) fun _=>rfl)) ?_
 rintro n h rfl
 refine letW (iteB (fun _=>zmg ?_) fun _=>hq _ _ _)
 unfold zjq
 refine JoinW1.intro (fun v k=>k=h∧U64 v) (iteB (fun _=>⟨rfl,9218868437227405312,rfl,by decide⟩) fun _=>⟨rfl,18442240474082181120,rfl,by decide⟩) ?_
 rintro _ h ⟨rfl,v,rfl,hv⟩
 exact zhn rfl hv (hq _ _ _)
theorem znu2 {s:ByteArray} {m:Nat} {exp:Int} {neg tr:Bool} {Q:Nat→Leaf→Hp→Prop} (e:HEnv h) (hm:m<18446744073709551616) (hq:∀(f:Nat) (er:Leaf),ErOk er→Q f er h):
  zgq Tryz.prog s (some ⟨7,0,none⟩) (m:Int) exp neg tr Q h:=by
 have c0:LdIs h (Addr.add ⟨7,0,none⟩ 0) [.int .u64 52]:=by rw [box_add];exact e.i0
 have c1:LdIs h (Addr.add ⟨7,0,none⟩ 1) [.int .u64 11]:=by rw [box_add];exact e.i1
 have c2:LdIs h (Addr.add ⟨7,0,none⟩ 2) [.int .i64 (-1023)]:=by rw [box_add];exact e.i2
 unfold zgq
 refine zag (ld_c (sh:=shInt .u64) (11:Int) c1 ⟨by decide,zag (ld_c (sh:=shInt .i64) (-1023:Int) c2 (zag (ld_c (sh:=shInt .i64) (-1023:Int) c2 (zag (ld_c (sh:=shInt .u64) (52:Int) c0 ?_)))))⟩)
 refine LoopW2.intro (fun m _ k=>k=h∧U64 m) (fun m _ _=>(9223372036854775808-m).toNat) ⟨rfl,m,rfl,hm⟩ ?_
 rintro _ ex h ⟨rfl,m,rfl,hm⟩
 have w54:IntKind.wrap .u64 ((52:Int)+2)=((54:Nat):Int):=by decide
 refine zag (ld_c (sh:=shInt .u64) (52:Int) c0 ⟨fun _=>by decide,letW ?_⟩)
 rw [w54,shrN m (by decide)]
 refine iteB (fun hy=>⟨by decide,?_⟩) fun _=> ?_
 ·rw [Bool.and_eq_true] at hy
  have h1:((m:Nat):Int)≠0:=bne_iff_ne.1 hy.1
  have h2:((m / 2^54:Nat):Int)=0:=beq_iff_eq.1 hy.2
  have hlt:m<2^54:=by
   refine Classical.byContradiction fun hn=> ?_
   have:=Nat.div_pos (Nat.le_of_not_lt hn) (Nat.two_pow_pos 54)
   omega
  have es:shlI .u64 (m:Int) (1:Int)=((m*2:Nat):Int):=shlN (n:=1) (by decide) (by omega)
  rw [es]
  exact ⟨⟨rfl,m*2,rfl,by omega⟩,by omega⟩
 refine JoinW1.intro (fun m k=>k=h∧U64 m) (iteB (fun _=>⟨rfl,zbd _ _ _⟩) fun _=>⟨rfl,m,rfl,hm⟩) ?_
 rintro _ h ⟨rfl,m,rfl,hm⟩
 have step:∀ {m:Nat},m<18446744073709551616→bitsI .or .u64 (shrI .u64 (m:Int) (1:Int)) (bitsI .and .u64 (m:Int) (1:Int))=((m / 2 ||| m%2:Nat):Int)∧m / 2 ||| m%2≤2*(m / 4)+1:=fun {m} hm=>by
  have e1:shrI .u64 (m:Int) (1:Int)=((m / 2:Nat):Int):=shrN m (n:=1) (by decide)
  rw [e1,and1 hm,orN (by omega) (by omega)]
  refine ⟨rfl,?_⟩
  have:=zgd2 (x:=m / 2) (b:=m%2) (by omega)
  omega
 refine LoopW2.intro (fun m _ k=>k=h∧U64 m) (fun m _ _=>m.toNat) ⟨rfl,m,rfl,hm⟩ ?_
 rintro _ ex h ⟨rfl,m,rfl,hm⟩
 have w55:IntKind.wrap .u64 ((IntKind.wrap .u64 ((1:Int)+52))+2)=((55:Nat):Int):=by decide
 refine zag (ld_c (sh:=shInt .u64) (52:Int) c0 ⟨by decide,?_⟩)
 rw [w55,shrN m (by decide)]
 refine iteB (fun hy=>⟨by decide,?_⟩) fun _=> ?_
 ·have h2:((m / 2^55:Nat):Int)≠0:=bne_iff_ne.1 hy
  have hge:2^55≤m:=by
   refine Classical.byContradiction fun hn=>h2 ?_
   rw [Nat.div_eq_of_lt (by omega)];rfl
  obtain ⟨s1,s2⟩:=step hm
  rw [s1]
  exact ⟨⟨rfl,_,rfl,by omega⟩,by omega⟩
 refine LoopW2.intro (fun m _ k=>k=h∧U64 m) (fun m _ _=>m.toNat) ⟨rfl,m,rfl,hm⟩ ?_
 rintro _ ex h ⟨rfl,m,rfl,hm⟩
 refine letW (iteB (fun hy=>⟨by decide,?_⟩) fun _=>⟨by decide,?_⟩)
 ·rw [Bool.and_eq_true] at hy
  have h1:=of_decide_eq_true hy.1
  obtain ⟨s1,s2⟩:=step hm
  rw [s1]
  exact ⟨⟨rfl,_,rfl,by omega⟩,by omega⟩
 refine JoinW2.intro (fun _ _ k=>k=h) (iteB (fun _=>zag (ld_c (sh:=shInt .u64) (52:Int) c0 ⟨by decide,iteB (fun _=>⟨by decide,rfl⟩) fun _=>rfl⟩)) fun _=>rfl) ?_
 rintro m5 e4 h rfl
 refine JoinW1.intro (fun _ k=>k=h) (zag (ld_c (sh:=shInt .u64) (52:Int) c0 ⟨by decide,iteB (fun _=>zag (ld_c (sh:=shInt .i64) (-1023:Int) c2 rfl)) fun _=>rfl⟩)) ?_
 rintro e5 h rfl
 refine JoinW3.intro (fun _ _ er k=>k=h∧ErOk er) (iteB (fun _=>zag (ld_c (sh:=shInt .u64) (52:Int) c0 ⟨by decide,⟨.iface 122 (.int .i64 1),rfl⟩,rfl,rfl,.inr rfl⟩)) fun _=>⟨⟨.nilIface,rfl⟩,rfl,rfl,.inl rfl⟩) ?_
 rintro m6 e6 er h ⟨rfl,her⟩
 refine zag (ld_c (sh:=shInt .u64) (52:Int) c0 ⟨by decide,zag (ld_c (sh:=shInt .i64) (-1023:Int) c2 (zag (ld_c (sh:=shInt .u64) (11:Int) c1 ⟨by decide,zag (ld_c (sh:=shInt .u64) (52:Int) c0 ⟨by decide,?_⟩)⟩)))⟩)
 refine JoinW1.intro (fun b k=>k=h∧U64 b) (iteB (fun _=>zag (ld_c (sh:=shInt .u64) (52:Int) c0 ⟨by decide,zag (ld_c (sh:=shInt .u64) (11:Int) c1 ⟨by decide,rfl,zbd _ _ _⟩)⟩)) fun _=>⟨rfl,zbd _ _ _⟩) ?_
 rintro _ h ⟨rfl,b,rfl,hb⟩
 obtain ⟨cs,k32⟩:=e.f32
 obtain ⟨cs64,k64⟩:=e.f64
 refine ⟨false,zpg2 k64 k32 (by decide),iteF (by decide) (zhn rfl hb ⟨er,rfl,hq _ er her⟩)⟩
end
end Lf

namespace Lf
open Go Go.Proofs
def DecC (ds:List Nat) (nd dp:Int) (neg tr:Bool):List Value:=(ds.map fun (c:Nat)=>Value.int .u8 (c:Int))++ [.int .i64 nd,.int .i64 dp,.bool neg,.bool tr]
structure DX (h0 h:Hp) (b:Nat) (ds:List Nat) (nd dp:Int) (neg tr:Bool):Prop where
 le:h0≤h
 fresh:h0 b=none
 len:ds.length=800
 blk:Blk h b (DecC ds nd dp neg tr)
structure GoodD (ds:List Nat) (nd:Nat):Prop where
 pos:1≤nd
 most:nd≤800
 digs:Digs (ds.take nd)
 head:∃c,ds[0]? =some c∧49≤c∧c<58
def ndOf (h:Hp) (b:Nat):Nat:=match hcell h ⟨b,800,none⟩ with
 | some (.int _ n)=>n.toNat
 | _=>0
theorem decAt (b i:Nat):Addr.add (Addr.add (⟨b,0,none⟩:Addr) 0) (i*1)=⟨b,i,none⟩:=by rw [box_add,box_add];simp
section
variable {h0 h:Hp} {b:Nat} {ds:List Nat} {nd dp:Int} {neg tr:Bool}
theorem zkb2 (hl:ds.length=800):(DecC ds nd dp neg tr).length=804:=by unfold DecC;rw [List.length_append,List.length_map,hl];rfl
theorem DX.digit (x:DX h0 h b ds nd dp neg tr) {i:Nat} (hi:i<800):LdIs h ⟨b,i,none⟩ [.int .u8 ((ds.getD i 0:Nat):Int)]:=by
 refine x.blk.ldIs (off:=i) (n:=1) ?_
 have hl:=x.len
 unfold DecC
 rw [List.drop_append_of_le_length (by rw [List.length_map];omega),List.take_append_of_le_length (by rw [List.length_drop,List.length_map];omega),List.drop_eq_getElem_cons (by rw [List.length_map];omega)]
 simp [List.getD,hl,hi]
theorem zfo1 {j:Nat} (hl:ds.length=800) (hj:j<4):((DecC ds nd dp neg tr).drop (800+j)).take 1=(([.int .i64 nd,.int .i64 dp,.bool neg,.bool tr]:List Value).drop j).take 1:=by
 unfold DecC
 rw [←List.drop_drop,List.drop_left' (by rw [List.length_map];exact hl)]
theorem DX.ndAt (x:DX h0 h b ds nd dp neg tr):LdIs h (Addr.add ⟨b,0,none⟩ 800) [.int .i64 nd]:=by
 rw [box_add]
 exact x.blk.ldIs (n:=1) (zfo1 (j:=0) x.len (by decide))
theorem DX.dpAt (x:DX h0 h b ds nd dp neg tr):LdIs h (Addr.add ⟨b,0,none⟩ 801) [.int .i64 dp]:=by
 rw [box_add]
 exact x.blk.ldIs (n:=1) (zfo1 (j:=1) x.len (by decide))
theorem DX.negAt (x:DX h0 h b ds nd dp neg tr):LdIs h (Addr.add ⟨b,0,none⟩ 802) [.bool neg]:=by
 rw [box_add]
 exact x.blk.ldIs (n:=1) (zfo1 (j:=2) x.len (by decide))
theorem DX.trAt (x:DX h0 h b ds nd dp neg tr):LdIs h (Addr.add ⟨b,0,none⟩ 803) [.bool tr]:=by
 rw [box_add]
 exact x.blk.ldIs (n:=1) (zfo1 (j:=3) x.len (by decide))
theorem DX.ndIs (x:DX h0 h b ds nd dp neg tr):ndOf h b=nd.toNat:=by
 have:=x.ndAt 0 _ rfl
 rw [box_add,box_add] at this
 unfold ndOf
 rw [show 0+800+0=800 from rfl] at this
 rw [this]
theorem DX.put (x:DX h0 h b ds nd dp neg tr) {i:Nat} {v:Value} {ds':List Nat} {nd' dp':Int} {neg' tr':Bool} {K:Hp→Prop} (hi:i<804) (hl:ds'.length=800) (e:(DecC ds nd dp neg tr).set i v=DecC ds' nd' dp' neg' tr')
  (hk:∀h',DX h0 h' b ds' nd' dp' neg' tr'→K h'):StW h ⟨b,i,none⟩ [v] K:=
 put1 x.blk (by rw [zkb2 x.len];exact hi) fun h' m k=>hk h' ⟨(m.le x.le fun b' hb=>by rw [List.mem_singleton.1 hb];exact x.fresh).1,x.fresh,hl,e▸k⟩
theorem DX.putD (x:DX h0 h b ds nd dp neg tr) {i c:Nat} {v:Int} {K:Hp→Prop} (hi:i<800) (hv:v=(c:Int)) (hk:∀h',DX h0 h' b (ds.set i c) nd dp neg tr→K h'):StW h ⟨b,i,none⟩ [.int .u8 v] K:=by
 subst hv
 refine x.put (by omega) (by rw [List.length_set];exact x.len) ?_ hk
 unfold DecC
 rw [List.set_append_left (h:=by rw [List.length_map,x.len];exact hi),List.map_set]
theorem zig1 {j:Nat} {v:Value} (hl:ds.length=800):(DecC ds nd dp neg tr).set (800+j) v=(ds.map fun (c:Nat)=>Value.int .u8 (c:Int))++([.int .i64 nd,.int .i64 dp,.bool neg,.bool tr]:List Value).set j v:=by
 unfold DecC
 rw [List.set_append_right (h:=by rw [List.length_map,hl];omega),List.length_map,hl,show 800+j-800=j by omega]
theorem DX.putNd (x:DX h0 h b ds nd dp neg tr) {v:Int} {K:Hp→Prop} (hk:∀h',DX h0 h' b ds v dp neg tr→K h'):StW h (Addr.add ⟨b,0,none⟩ 800) [.int .i64 v] K:=by
 rw [box_add]
 exact x.put (by decide) x.len (zig1 (j:=0) x.len) hk
theorem DX.putDp (x:DX h0 h b ds nd dp neg tr) {v:Int} {K:Hp→Prop} (hk:∀h',DX h0 h' b ds nd v neg tr→K h'):StW h (Addr.add ⟨b,0,none⟩ 801) [.int .i64 v] K:=by
 rw [box_add]
 exact x.put (by decide) x.len (zig1 (j:=1) x.len) hk
theorem DX.putNeg (x:DX h0 h b ds nd dp neg tr) {v:Bool} {K:Hp→Prop} (hk:∀h',DX h0 h' b ds nd dp v tr→K h'):StW h (Addr.add ⟨b,0,none⟩ 802) [.bool v] K:=by
 rw [box_add]
 exact x.put (by decide) x.len (zig1 (j:=2) x.len) hk
theorem DX.putTr (x:DX h0 h b ds nd dp neg tr) {v:Bool} {K:Hp→Prop} (hk:∀h',DX h0 h' b ds nd dp neg v→K h'):StW h (Addr.add ⟨b,0,none⟩ 803) [.bool v] K:=by
 rw [box_add]
 exact x.put (by decide) x.len (zig1 (j:=3) x.len) hk
theorem GoodD.less {n m:Nat} (g:GoodD ds n) (h1:1≤m) (h2:m≤n):GoodD ds m:=
 ⟨h1,Nat.le_trans h2 g.most,fun z hz=>g.digs z (by
  rw [show m=min m n by omega,←List.take_take] at hz
  exact List.mem_of_mem_take hz),g.head⟩
theorem zzj1 {n:Nat} {Q:Hp→Prop} (x:DX h0 h b ds n dp neg tr) (g:GoodD ds n) (hk:∀h' (m:Nat),DX h0 h' b ds m dp neg tr→GoodD ds m→Q h'):ziw Tryz.prog (some ⟨b,0,none⟩) Q h:=by
 unfold ziw
 refine LoopW0.intro (fun k=>∃m:Nat,DX h0 k b ds m dp neg tr∧GoodD ds m) (fun k=>ndOf k b) ⟨n,x,g⟩ ?_
 clear x g
 rintro k ⟨m,x,g⟩
 have g1:=g.pos
 have g2:=g.most
 have hm:decide ((m:Int)>0)=true:=decide_eq_true (by omega)
 refine zag (ld_c (sh:=shInt .i64) (m:Int) x.ndAt (zag (ld_c (sh:=shInt .i64) (m:Int) x.ndAt (zag ⟨fun _=> ?_,?_⟩))))
 ·rw [zad (by omega) (by omega)];exact ⟨by omega,by omega⟩
 have e1:IntKind.wrap .i64 ((m:Int)-1)=((m-1:Nat):Int):=by rw [zad (by omega) (by omega)];omega
 rw [e1,Int.toNat_natCast,decAt]
 refine ld_c (sh:=shInt .u8) ((ds.getD (m-1) 0:Nat):Int) (x.digit (by omega)) (letW (iteB (fun hy=> ?_) fun _=> ?_))
 ·refine zag (ld_c (sh:=shInt .i64) (m:Int) x.ndAt (zag ?_))
  rw [e1]
  refine x.putNd fun k' x'=>⟨⟨m-1,x',g.less ?_ (by omega)⟩,?_⟩
  ·refine Classical.byContradiction fun hn=> ?_
   obtain ⟨c,hc,h49, -⟩:=g.head
   have:m=1:=by omega
   subst this
   rw [Bool.and_eq_true] at hy
   have:((ds.getD 0 0:Nat):Int)=48:=beq_iff_eq.1 hy.2
   rw [List.getD_eq_getElem?_getD,hc] at this
   have:(c:Int)=48:=this
   omega
  ·rw [x.ndIs,x'.ndIs];omega
 ·refine zag (ld_c (sh:=shInt .i64) (m:Int) x.ndAt (iteF (fun hh=> ?_) (hk k m x g)))
  have:(m:Int)=0:=beq_iff_eq.1 hh
  omega
theorem DX.row {n:Nat} (x:DX h0 h b ds n dp neg tr) (hn:n≤800):Rw h 1 eN ⟨some ⟨b,0,none⟩,n,800⟩ (ds.take n):=by
 have hl:=x.len
 refine zic1 x.blk (by rw [List.length_take];omega) ?_
 rw [List.drop_zero,List.length_take,show min n ds.length=n by omega,←zms1,List.map_take]
 unfold DecC
 rw [List.take_append_of_le_length (by rw [List.length_map];omega)]
theorem zkc2 {xs:List Nat} {k:Nat} {l:Sl} {Q:Bool→Hp→Prop} (r:Rw h 1 eN l xs) (hx:Digs xs) (hxl:xs.length≤800) (k1:1≤k) (k2:k<61) (hq:∀lt,LessL lt xs k→Q lt h):zct Tryz.prog l (strN (fiveL k)) Q h:=by
 have hF:fiveL k=decL (5^k):=by unfold fiveL;rw [if_neg (by omega)]
 have hv:numV (fiveL k)=5^k:=by rw [hF];exact zid1 _
 have hd:Digs (fiveL k):=by rw [hF];exact zwy _
 have h5:=(zzb1 k k2 k1)
 have hlen:(fiveL k).length≤60:=by rw [hF,zmi];have:=zli (2^k);omega
 have er:=r.1
 unfold LessL at hq
 rw [←hv] at hq
 have hmod:numV (fiveL k)%10=5:=by rw [hv];exact h5.2
 generalize fiveL k=ys at*
 unfold zct
 rw [zan]
 refine LoopW1.intro (fun i k=>k=h∧∃j:Nat,i=(j:Int)∧j≤ys.length∧j≤xs.length∧numV (xs.take j)=numV (ys.take j)) (fun i _=>(ys.length-i).toNat) ⟨rfl,0,rfl,by omega,by omega,rfl⟩ ?_
 rintro _ h ⟨rfl,j,rfl,j1,j2,he⟩
 by_cases hj:j<ys.length
 ·refine iteT (decide_eq_true (by omega)) ?_
  by_cases hjx:j<xs.length
  ·refine iteF (fun hh=>by have:=of_decide_eq_true hh;omega) ?_
   have hxj:xs[j]? =some xs[j]:=List.getElem?_eq_getElem hjx
   have hyj:ys[j]? =some ys[j]:=List.getElem?_eq_getElem hj
   have dx:=hx _ (List.getElem_mem hjx)
   have dy:=hd _ (List.getElem_mem hj)
   have nx:=zbi1 hxj
   have ny:=zbi1 hyj
   have px:numV (xs.take (j+1))<numV (ys.take (j+1))→_:=fun hlt=>zlq2 (x:=xs) (y:=ys) (i:=j+1) hx hd (by omega) (by omega) hlt
   have py:numV (ys.take (j+1))<numV (xs.take (j+1))→_:=fun hlt=>zlq2 (x:=ys) (y:=xs) (i:=j+1) hd hx (by omega) (by omega) hlt
   generalize xs[j]=u at*
   generalize ys[j]=v at*
   have hu:∀ {z:Nat},xs[((j:Int)).toNat]? =some z→z=u:=fun hz=>by rw [Int.toNat_natCast,hxj] at hz;exact (Option.some.inj hz).symm
   have hch:(((UInt8.toNat (List.getD (strN ys).data.toList (Int.toNat ((j:Nat):Int)) 0)):Nat):Int)=(v:Int):=by rw [Int.toNat_natCast,zss hyj (by omega)]
   rw [hch]
   refine rdN r (by omega) (by omega) fun z hz=>⟨⟨by omega,by omega⟩,?_⟩
   rw [hu hz]
   by_cases e:u=v
   ·refine iteF (fun hh=>bne_iff_ne.1 hh (by rw [e])) ?_
    rw [zad (by omega) (by omega)]
    exact ⟨⟨rfl,j+1,by omega,by omega,by omega,by rw [nx,ny,he,e]⟩,by omega⟩
   ·refine iteT (bne_iff_ne.2 (show (u:Int)≠(v:Int) by omega)) (rdN r (by omega) (by omega) fun z hz=>⟨⟨by omega,by omega⟩,?_⟩)
    rw [hu hz]
    by_cases c:u<v
    ·rw [decide_eq_true (show (u:Int)<(v:Int) by omega)]
     refine hq true ?_
     rw [if_pos rfl]
     exact px (by omega)
    ·rw [decide_eq_false (show ¬(u:Int)<(v:Int) by omega)]
     refine hq false ?_
     rw [if_neg (by decide)]
     exact Nat.le_of_lt (py (by omega))
  ·refine iteT (decide_eq_true (by omega)) (hq true ?_)
   rw [if_pos rfl]
   have hjx:j=xs.length:=by omega
   subst hjx
   rw [List.take_of_length_le (Nat.le_refl _)] at he
   have ey:=zfm1 (ys.take xs.length) (ys.drop xs.length)
   rw [List.take_append_drop,List.length_drop,←he] at ey
   obtain ⟨q,eq⟩:∃q,ys.length=xs.length+(q+1):=⟨ys.length-xs.length-1,by omega⟩
   rw [eq,show xs.length+(q+1)-xs.length=q+1 by omega,Nat.pow_succ,←Nat.mul_assoc] at ey
   rw [eq,Nat.pow_add,Nat.mul_comm (10^xs.length),←Nat.mul_assoc,Nat.pow_succ,←Nat.mul_assoc]
   refine Nat.mul_lt_mul_of_pos_right ?_ (Nat.pow_pos (by decide))
   generalize numV xs*10^q=a at*
   omega
 ·refine iteF (fun hh=>hj (by have:=of_decide_eq_true hh;omega)) (hq false ?_)
  rw [if_neg (by decide)]
  have hjl:j=ys.length:=by omega
  subst hjl
  rw [List.take_of_length_le (l:=ys) (Nat.le_refl _)] at he
  have ex:=zfm1 (xs.take ys.length) (xs.drop ys.length)
  rw [List.take_append_drop,List.length_drop,he] at ex
  obtain ⟨q,eq⟩:∃q,xs.length=ys.length+q:=⟨xs.length-ys.length,by omega⟩
  rw [eq,show ys.length+q-ys.length=q by omega] at ex
  rw [eq,Nat.pow_add,Nat.mul_comm (10^ys.length),←Nat.mul_assoc]
  exact Nat.mul_le_mul_right _ (by omega)
end
end Lf

namespace Lf
open Go Go.Proofs
theorem zsq1 {x k:Nat} (hx:x<18446744073709551616) (hk:k≤60):bitsI .and .u64 (x:Int) (IntKind.wrap .u64 ((shlI .u64 (1:Int) (k:Int))-(1:Int)))=((x%2^k:Nat):Int):=by
 have h2:2^k≤2^60:=Nat.pow_le_pow_right (by decide) hk
 have hp:=Nat.two_pow_pos k
 have e1:shlI .u64 (1:Int) (k:Int)=((2^k:Nat):Int):=by
  have:=shlN (x:=1) (n:=k) (by omega) (by omega)
  rw [Nat.one_mul] at this
  exact this
 have e2:IntKind.wrap .u64 (((2^k:Nat):Int)-1)=((2^k-1:Nat):Int):=by rw [zal];omega
 rw [e1,e2]
 unfold bitsI
 dsimp only
 rw [zqb,BitVec.toNat_and,zla hx,zla (by omega),Nat.and_two_pow_sub_one_eq_mod,zal]
 have:=Nat.mod_lt x hp
 omega
theorem zsv {ds:List Nat} {i j c:Nat} (hi:i<ds.length):(ds.set i c).getD j 0=if i=j then c else ds.getD j 0:=by
 rw [List.getD_eq_getElem?_getD,List.getD_eq_getElem?_getD,List.getElem?_set]
 by_cases h:i=j
 ·subst h;rw [if_pos rfl,if_pos hi,if_pos rfl];rfl
 ·rw [if_neg h,if_neg h]
theorem zwz {ds:List Nat} {i:Nat} (hi:i≤ds.length):Digs (ds.take i)↔∀q,q<i→48≤ds.getD q 0∧ds.getD q 0<58:=by
 constructor
 ·intro h q hq
  have e:ds.getD q 0=ds[q]'(by omega):=by simp [List.getD,show q<ds.length by omega]
  rw [e]
  exact h _ (List.mem_take_iff_getElem.2 ⟨q,by omega,rfl⟩)
 ·intro h z hz
  obtain ⟨q,hq,rfl⟩:=List.mem_take_iff_getElem.1 hz
  have:=h q (by omega)
  rw [List.getD,List.getElem?_eq_getElem (by omega)] at this
  exact this
theorem digB {z:Nat} (hz:z<10):IntKind.wrap .u8 (IntKind.wrap .u64 ((z:Int)+48))=((48+z:Nat):Int):=by rw [zal,byte8];omega
section
variable {h0 h:Hp} {b:Nat} {ds:List Nat} {dp:Int} {neg tr:Bool}
structure RInv (ds:List Nat) (i N N0 k:Nat):Prop where
 lt:N<10*2^k
 digs:∀q,q<i→48≤ds.getD q 0∧ds.getD q 0<58
 head:(i=0∧N=N0)∨(1≤i∧ds.getD 0 0=48+N0 / 2^k)
theorem RInv.step {ds:List Nat} {i N N0 k:Nat} (r:RInv ds i N N0 k) (hi:i<ds.length) (d:Nat) (hd:d<10):RInv (ds.set i (48+N / 2^k)) (i+1) (N%2^k*10+d) N0 k:=by
 have hp:=Nat.two_pow_pos k
 have hm:=Nat.mod_lt N hp
 have hq:N / 2^k<10:=by rw [Nat.div_lt_iff_lt_mul hp];exact r.lt
 refine ⟨by omega,fun q hq'=> ?_,.inr ⟨by omega,?_⟩⟩
 ·rw [zsv hi]
  split
  ·generalize N / 2^k=z at*
   omega
  ·exact r.digs q (by omega)
 ·rw [zsv hi]
  rcases r.head with ⟨rfl,rfl⟩ | ⟨h1,h2⟩
  ·rw [if_pos rfl]
  ·rw [if_neg (by omega)];exact h2
theorem RInv.rest {ds:List Nat} {i N N0 k:Nat} (r:RInv ds i N N0 k) (hi:1≤i):RInv ds i (N%2^k*10) N0 k:=by
 have hm:=Nat.mod_lt N (Nat.two_pow_pos k)
 refine ⟨by omega,r.digs,?_⟩
 rcases r.head with ⟨rfl,rfl⟩ | h2
 ·omega
 ·exact .inr h2
theorem zkj1 {n k c:Nat} {Q:Hp→Prop} (x:DX h0 h b ds n dp neg tr) (g:GoodD ds n) (hc:ds[0]? =some c) (k1:1≤k) (k2:k≤60) (d0: -1000000000000000≤dp) (d1:dp≤1000000000000000)
  (hk:∀h' ds' (m r:Nat) tr',DX h0 h' b ds' m (dp-((r:Int)-1)) neg tr'→GoodD ds' m→1≤r→r≤900→(4≤k→2≤r)→(k=3→2≤r∨(56≤c∧ds'.getD 0 0=49))→Q h'):zev Tryz.prog (some ⟨b,0,none⟩) (k:Int) Q h:=by
 have h2:2^k≤2^60:=Nat.pow_le_pow_right (by decide) k2
 have hp:=Nat.two_pow_pos k
 have hl:=x.len
 have g1:=g.pos
 have g2:=g.most
 obtain ⟨c',hc',c49,c58⟩:=g.head
 have ecc:c'=c:=Option.some.inj (hc'.symm.trans hc)
 rw [ecc] at c49 c58
 have hdig:=(zwz (i:=n) (by omega)).1 g.digs
 have hsh:∀ {m:Nat},shrI .u64 (m:Int) (k:Int)=((m / 2^k:Nat):Int):=fun {m}=>shrN m (by omega)
 have hz:∀ {m:Nat},((((m / 2^k:Nat):Int)==0)=true↔m<2^k):=fun {m}=>by
  rw [beq_iff_eq]
  constructor
  ·intro e
   refine Classical.byContradiction fun hn=> ?_
   have:=Nat.div_pos (Nat.le_of_not_lt hn) hp
   omega
  ·intro e
   rw [Nat.div_eq_of_lt e];rfl
 have hone:numV (ds.take 1)=c-48:=by
  have:=zbi1 hc
  simpa [numV] using this
 have hpos:∀j,1≤j→j≤n→1≤numV (ds.take j):=fun j j1 j2=>by
  have hh:(ds.take j)[0]? =some c:=by rw [List.getElem?_take,if_pos (by omega)];exact hc
  have:=(zfs2 hh c49).1
  have:=Nat.pow_pos (n:=(ds.take j).length-1) (show 0<10 by decide)
  omega
 unfold zev
 refine JoinW2.intro (fun r v m=>m=h∧∃j N:Nat,r=(j:Int)∧v=(N:Int)∧1≤j∧j≤870∧2^k≤N∧N<10*2^k∧(4≤k→2≤j)∧(k=3→2≤j∨(56≤c∧N≤9))) ?_ ?_
 ·refine LoopW2.intro (fun r v m=>m=h∧∃j N:Nat,r=(j:Int)∧v=(N:Int)∧j≤n∧N=numV (ds.take j)∧N<10*2^k) (fun r _ _=>(n-r).toNat) ⟨rfl,0,0,rfl,rfl,by omega,rfl,by omega⟩ ?_
  rintro _ _ h ⟨rfl,j,N,rfl,rfl,j1,eN,hN⟩
  refine ⟨by omega,?_⟩
  rw [hsh]
  refine iteB (fun e=> ?_) fun e=> ?_
  ·have hlt:=hz.1 e
   refine zag (ld_c (sh:=shInt .i64) (n:Int) x.ndAt (iteB (fun hr=> ?_) fun hr=> ?_))
   ·have hr:(j:Int)≥(n:Int):=of_decide_eq_true hr
    have hjn:j=n:=by omega
    have hN1:=hpos j (by omega) j1
    refine iteF (fun hh=>by have:((N:Nat):Int)=0:=beq_iff_eq.1 hh;omega) ?_
    refine LoopW2.intro (fun r v m=>m=h∧∃j1 N1:Nat,r=(j1:Int)∧v=(N1:Int)∧n≤j1∧2^(j1-n)≤N1∧N1<10*2^k∧(n<j1∨N1<2^k)) (fun _ v _=>(18446744073709551616-v).toNat) ⟨rfl,j,N,rfl,rfl,by omega,by rw [hjn,Nat.sub_self];omega,hN,.inr hlt⟩ ?_
    rintro _ _ h ⟨rfl,j2,N2,rfl,rfl,b1,b2,b3,b4⟩
    have hj2:j2-n<64:=by
     refine Classical.byContradiction fun hn=> ?_
     have:=Nat.pow_le_pow_right (n:=2) (i:=64) (j:=j2-n) (by decide) (by omega)
     omega
    refine ⟨by omega,?_⟩
    rw [hsh]
    refine iteB (fun e=> ?_) fun e=> ?_
    ·have hlt2:=hz.1 e
     have hN2:1≤N2:=Nat.le_trans (Nat.two_pow_pos _) b2
     rw [zad (by omega) (by omega),show IntKind.wrap .u64 ((N2:Int)*10)=((N2*10:Nat):Int) by rw [zal];omega]
     refine ⟨⟨rfl,j2+1,N2*10,rfl,rfl,by omega,?_,by omega,.inl (by omega)⟩,by omega⟩
     rw [show j2+1-n=j2-n+1 by omega,Nat.pow_succ]
     omega
    ·have hge:¬N2<2^k:=fun c=>e (hz.2 c)
     exact ⟨rfl,j2,N2,rfl,rfl,by omega,by omega,by omega,b3,fun _=>by omega,fun _=>.inl (by omega)⟩
   ·have hr:¬(j:Int)≥(n:Int):=fun e=>hr (decide_eq_true e)
    have hdj:=hdig j (by omega)
    have hnx:numV (ds.take (j+1))=10*numV (ds.take j)+(ds.getD j 0-48):=zbi1 (by simp [List.getD,show j<ds.length by omega])
    refine zag ⟨⟨by omega,by omega⟩,?_⟩
    rw [Int.toNat_natCast,decAt]
    refine ld_c (sh:=shInt .u8) ((ds.getD j 0:Nat):Int) (x.digit (by omega)) ?_
    rw [zad (by omega) (by omega)]
    have ev:IntKind.wrap .u64 ((IntKind.wrap .u64 ((IntKind.wrap .u64 ((N:Int)*(10:Int)))+(IntKind.wrap .u64 ((ds.getD j 0:Nat):Int))))-(48:Int))=((10*N+(ds.getD j 0-48):Nat):Int):=by
     rw [zal,zal,zal,zal];omega
    rw [ev]
    exact ⟨⟨rfl,j+1,_,rfl,rfl,by omega,by rw [hnx,eN],by omega⟩,by omega⟩
  ·have hge:¬N<2^k:=fun c=>e (hz.2 c)
   have hj0:1≤j:=by
    refine Nat.pos_of_ne_zero fun e=>hge ?_
    subst e
    rw [eN];exact hp
   have hj1:j=1→N=c-48:=fun e=>by subst e;rw [eN];exact hone
   refine ⟨rfl,j,N,rfl,rfl,hj0,by omega,by omega,hN,fun hk4=> ?_,fun hk3=> ?_⟩
   ·refine Classical.byContradiction fun hn=>hge ?_
    have:=hj1 (by omega)
    have:=Nat.pow_le_pow_right (n:=2) (i:=4) (j:=k) (by decide) hk4
    omega
   ·by_cases hj:j=1
    ·right
     have:=hj1 hj
     subst hk3
     omega
    ·left;omega
 rintro _ _ h ⟨rfl,r,N0,rfl,rfl,r1,r2,N1,N2,rk4,rk3⟩
 refine zag (ld_c (sh:=shInt .i64) dp x.dpAt (zag ?_))
 rw [zad (n:=(r:Int)-1) (by omega) (by omega),zad (by omega) (by omega)]
 refine x.putDp fun m1 x1=>⟨by omega,?_⟩
 have hq0:1≤N0 / 2^k∧N0 / 2^k<10:=⟨Nat.div_pos N1 hp,by rw [Nat.div_lt_iff_lt_mul hp];exact N2⟩
 have h49:k=3→N0≤9→48+N0 / 2^k=49:=fun e1 e2=>by
  subst e1
  omega
 refine LoopW3.intro (fun r1 w v m=>∃(j i N:Nat) (ds1:List Nat),r1=(j:Int)∧w=(i:Int)∧v=(N:Int)∧i<j∧(j≤n∨i=0)∧DX h0 m b ds1 n (dp-((r:Int)-1)) neg tr∧RInv ds1 i N N0 k∧∀q,j≤q→q<n→ds1.getD q 0=ds.getD q 0) (fun r1 _ _ _=>(n-r1).toNat)
  ⟨r,0,N0,ds,rfl,rfl,rfl,by omega,.inr rfl,x1,⟨N2,fun q hq=>by omega,.inl ⟨rfl,rfl⟩⟩,fun _ _ _=>rfl⟩ ?_
 rintro _ _ _ m ⟨j,i,N,ds1,rfl,rfl,rfl,hij,hjn,x2,rI,hst⟩
 have hl1:=x2.len
 have hNlt:=rI.lt
 refine zag (ld_c (sh:=shInt .i64) (n:Int) x2.ndAt (iteB (fun hr=> ?_) fun hr=> ?_))
 ·have hr:(j:Int)<(n:Int):=of_decide_eq_true hr
  have hdj:=hdig j (by omega)
  refine zag ⟨⟨by omega,by omega⟩,?_⟩
  rw [Int.toNat_natCast,decAt]
  refine ld_c (sh:=shInt .u8) ((ds1.getD j 0:Nat):Int) (x2.digit (by omega)) ⟨by omega,zag ⟨⟨by omega,by omega⟩,?_⟩⟩
  rw [hst j (by omega) (by omega),Int.toNat_natCast,decAt,hsh,zsq1 (by omega) k2]
  have hqd:N / 2^k<10:=by rw [Nat.div_lt_iff_lt_mul hp];exact hNlt
  have hmd:=Nat.mod_lt N hp
  refine x2.putD (c:=48+N / 2^k) (by omega) (digB hqd) fun m3 x3=> ?_
  have ev:IntKind.wrap .u64 ((IntKind.wrap .u64 ((IntKind.wrap .u64 (((N%2^k:Nat):Int)*(10:Int)))+(IntKind.wrap .u64 ((ds.getD j 0:Nat):Int))))-(48:Int))=((N%2^k*10+(ds.getD j 0-48):Nat):Int):=by
   rw [zal,zal,zal,zal];omega
  rw [ev,zad (n:=(j:Int)+1) (by omega) (by omega),zad (n:=(i:Int)+1) (by omega) (by omega)]
  refine ⟨⟨j+1,i+1,_,_,rfl,rfl,rfl,by omega,.inl (by omega),x3,rI.step (by omega) _ (by omega),fun q q1 q2=> ?_⟩,by omega⟩
  rw [zsv (by omega),if_neg (by omega)]
  exact hst q (by omega) q2
 ·have hr:¬(j:Int)<(n:Int):=fun e=>hr (decide_eq_true e)
  refine LoopW2.intro (fun w v m=>∃(i N:Nat) (ds1:List Nat) (tr1:Bool),w=(i:Int)∧v=(N:Int)∧i≤800∧DX h0 m b ds1 n (dp-((r:Int)-1)) neg tr1∧RInv ds1 i N N0 k) (fun _ v _=>restN v.toNat)
   ⟨i,N,ds1,tr,rfl,rfl,by omega,x2,rI⟩ ?_
  clear rI x2 hst hjn hij hl1 hNlt hr ds1 m N i
  rintro _ _ m ⟨i,N,ds1,tr1,rfl,rfl,hi,x2,rI⟩
  have hl1:=x2.len
  have hNlt:=rI.lt
  have hqd:N / 2^k<10:=by rw [Nat.div_lt_iff_lt_mul hp];exact hNlt
  refine iteB (fun hn=>⟨by omega,?_⟩) fun hn=> ?_
  ·have hn:(N:Int)>0:=of_decide_eq_true hn
   have hmd:=Nat.mod_lt N hp
   have hrest:=zft2 (n:=N) k2 (by omega)
   have ev:IntKind.wrap .u64 (((N%2^k:Nat):Int)*(10:Int))=((N%2^k*10:Nat):Int):=by rw [zal];omega
   rw [hsh,zsq1 (by omega) k2,ev]
   refine JoinW1.intro (fun w m=>∃(i:Nat) (ds1:List Nat) (tr1:Bool),w=(i:Int)∧i≤800∧DX h0 m b ds1 n (dp-((r:Int)-1)) neg tr1∧RInv ds1 i (N%2^k*10) N0 k) ?_ ?_
   ·generalize hdw:decide ((i:Int)<800)=dw
    cases dw with
    | true=>
     have hw:(i:Int)<800:=of_decide_eq_true hdw
     rw [if_pos rfl]
     refine zag ⟨⟨by omega,by omega⟩,?_⟩
     rw [Int.toNat_natCast,decAt]
     refine x2.putD (c:=48+N / 2^k) (by omega) (digB hqd) fun m3 x3=> ?_
     rw [zad (by omega) (by omega)]
     exact ⟨i+1,_,tr1,rfl,by omega,x3,rI.step (by omega) 0 (by decide)⟩
    | false=>
     have hw:¬(i:Int)<800:=of_decide_eq_false hdw
     rw [if_neg (by decide)]
     refine iteB (fun _=>zag (x2.putTr fun m3 x3=>⟨i,ds1,true,rfl,hi,x3,rI.rest (by omega)⟩)) fun _=>⟨i,ds1,tr1,rfl,hi,x2,rI.rest (by omega)⟩
   rintro _ m3 ⟨i3,ds3,tr3,rfl,hi3,x3,rI3⟩
   exact ⟨⟨i3,_,ds3,tr3,rfl,rfl,hi3,x3,rI3⟩,by rw [Int.toNat_natCast,Int.toNat_natCast];exact hrest⟩
  ·have hn:¬(N:Int)>0:=fun e=>hn (decide_eq_true e)
   have hhead:1≤i∧ds1.getD 0 0=48+N0 / 2^k:=by
    rcases rI.head with ⟨e1,e2⟩ | e
    ·omega
    ·exact e
   refine zag (x2.putNd fun m3 x3=> ?_)
   have g3:GoodD ds1 i:=⟨hhead.1,hi,(zwz (by omega)).2 rI.digs,48+N0 / 2^k,by
    have:=hhead.2
    rw [List.getD,List.getElem?_eq_getElem (show 0<ds1.length by omega)] at this
    rw [List.getElem?_eq_getElem (show 0<ds1.length by omega)]
    exact congrArg some this,by omega,by omega⟩
   refine zlm (zzj1 x3 g3 fun m4 q x4 g4=>hk m4 ds1 q r tr1 x4 g4 r1 (by omega) rk4 fun e=> ?_)
   rcases rk3 e with e3 | e3
   ·exact .inl e3
   ·exact .inr ⟨e3.1,hhead.2.trans (h49 e e3.2)⟩
end
end Lf

namespace Lf
open Go Go.Proofs
def Cheats (h:Hp):Prop:=∃a c,LdIs h ⟨9,0,none⟩ [.slice (some a) 61 c]∧∀k,k<61→LdIs h (Addr.add (Addr.add a (k*2)) 0) [.int .i64 (newD k:Int)]∧LdIs h (Addr.add (Addr.add a (k*2)) 1) [.string (strN (fiveL k))]
theorem Cheats.mono {h h':Hp} (e:Cheats h) (hl:h≤h'):Cheats h':=by
 obtain ⟨a,c,e1,e2⟩:=e
 exact ⟨a,c,zbe hl e1,fun k hk=>⟨zbe hl (e2 k hk).1,zbe hl (e2 k hk).2⟩⟩
theorem zge2 :∀k,k<61→newD k≤19:=by decide+kernel
theorem zkd2 {k:Nat} (h:1≤k):1≤newD k:=by unfold newD;rw [if_neg (by omega)];exact zli _
section
variable {h0 h:Hp} {b:Nat} {ds:List Nat} {dp:Int} {neg tr:Bool}
theorem zgf2 {v:Nat} (hv:v<18446744073709551616):IntKind.wrap .u64 ((v:Int)-(IntKind.wrap .u64 ((10:Int)*(IntKind.wrap .u64 (Int.tdiv (v:Int) (10:Int))))))=((v%10:Nat):Int):=by
 rw [show Int.tdiv (v:Int) (10:Int)=((v / 10:Nat):Int) from tdivN,wrapN (by omega),show (10:Int)*((v / 10:Nat):Int)=((10*(v / 10):Nat):Int) by omega,wrapN (by omega),zal]
 omega
theorem zgg2 {v:Nat} (hv:v<18446744073709551616):IntKind.wrap .u64 (Int.tdiv (v:Int) (10:Int))=((v / 10:Nat):Int):=by
 rw [show Int.tdiv (v:Int) (10:Int)=((v / 10:Nat):Int) from tdivN,wrapN (by omega)]
theorem zke2 {n k c:Nat} {Q:Hp→Prop} (t:Cheats h0) (x:DX h0 h b ds n dp neg tr) (g:GoodD ds n) (hc:ds[0]? =some c) (k1:1≤k) (k2:k≤60) (d0: -1000000000000000≤dp) (d1:dp≤1000000000000000)
  (hk:∀h' ds' (m D:Nat) tr',DX h0 h' b ds' m (dp+(D:Int)) neg tr'→GoodD ds' m→newD k≤D+1→D≤newD k→(D=0→(c-48)*2^k≤ds'.getD 0 0-48)→Q h'):zfq Tryz.prog (some ⟨b,0,none⟩) (k:Int) Q h:=by
 have h2:2^k≤2^60:=Nat.pow_le_pow_right (by decide) k2
 have hp:=Nat.two_pow_pos k
 have hl:=x.len
 have g1:=g.pos
 have g2:=g.most
 obtain ⟨c',hc',c49,c58⟩:=g.head
 have ecc:c'=c:=Option.some.inj (hc'.symm.trans hc)
 rw [ecc] at c49 c58
 have hdig:=(zwz (i:=n) (by omega)).1 g.digs
 have hnew:=zge2 k (by omega)
 have hnew1:=zkd2 k1
 have hc0:ds.getD 0 0=c:=by rw [List.getD,hc];rfl
 have htl:(ds.take n).length=n:=by rw [List.length_take];omega
 have hhead:(ds.take n)[0]? =some c:=by rw [List.getElem?_take,if_pos (by omega)];exact hc
 obtain ⟨a,cap,t1,t2⟩:=t
 obtain ⟨t3,t4⟩:=t2 k (by omega)
 have s3:sat (some a) 2 (k:Int)=Addr.add a (k*2):=by unfold sat;rw [Int.toNat_natCast];rfl
 unfold zfq
 refine ld_c (sh:=shSl) ⟨some a,61,cap⟩ (zbe x.le t1) ⟨⟨by simp,by omega,by show (k:Int)<((61:Nat):Int);omega⟩,?_⟩
 dsimp only
 rw [s3]
 refine ld_c (sh:=shInt .i64) (newD k:Int) (zbe x.le t3) ?_
 refine JoinW1.intro (fun d m=>m=h∧∃(lt:Bool) (D:Nat),d=(D:Int)∧D=(if lt then newD k-1 else newD k)∧LessL lt (ds.take n) k) ?_ ?_
 ·refine zag (zag (ld_c (sh:=shInt .i64) (n:Int) x.ndAt ⟨⟨by decide,by omega,by omega⟩,letW ?_⟩))
  refine ld_c (sh:=shSl) ⟨some a,61,cap⟩ (zbe x.le t1) ⟨⟨by simp,by omega,by show (k:Int)<((61:Nat):Int);omega⟩,?_⟩
  dsimp only
  rw [s3]
  refine ld_c (sh:=shStr) (strN (fiveL k)) (zbe x.le t4) ?_
  have eb:sbase (some (Addr.add (⟨b,0,none⟩:Addr) 0)) 1 0 800=some ⟨b,0,none⟩:=by rw [box_add];unfold sbase;rw [if_neg (by decide)];show some (Addr.add _ _)=_;rw [box_add]
  rw [eb,Int.toNat_natCast,Nat.sub_zero]
  refine zlh (b:=⟨some ⟨b,0,none⟩,n,800⟩) (zkc2 (x.row g2) g.digs (by omega) k1 (by omega) fun lt hlt=> ?_)
  cases lt with
  | true=>
   refine iteT rfl ⟨rfl,true,newD k-1,?_,rfl,hlt⟩
   rw [zad (by omega) (by omega)];omega
  | false=>exact iteF (by decide) ⟨rfl,false,newD k,rfl,rfl,hlt⟩
 rintro _ _ ⟨rfl,lt,D,rfl,hD,hlt⟩
 have hDb:newD k≤D+1∧D≤newD k:=by rw [hD];split<;>omega
 obtain ⟨q1,q2,q3⟩:=zvz1 g.digs hhead c49 k1 (by omega) hlt hD
 rw [htl] at q1 q2
 clear hlt hD lt
 refine zag (ld_c (sh:=shInt .i64) (n:Int) x.ndAt (zag (ld_c (sh:=shInt .i64) (n:Int) x.ndAt ?_)))
 rw [zad (n:=(n:Int)-1) (by omega) (by omega),zad (n:=(n:Int)+(D:Int)) (by omega) (by omega)]
 have hX:∀j,j≤n→(ds.take n).take j=ds.take j:=fun j hj=>by rw [List.take_take,Nat.min_eq_left hj]
 refine LoopW3.intro (fun r w v m=>∃(j N:Nat) (ds1:List Nat) (tr1:Bool),r=(j:Int)-1∧w=((j+D:Nat):Int)∧v=(N:Int)∧j≤n∧N<2^k∧numV (ds.take j)*2^k+N=numV (ds.take n)*2^k / 10^(n-j)∧DX h0 m b ds1 n dp neg tr1∧
   (∀q,q<j→ds1.getD q 0=ds.getD q 0)∧(∀q,j+D≤q→q<n+D→q<800→48≤ds1.getD q 0∧ds1.getD q 0<58)∧(D=0→j=0→(c-48)*2^k≤ds1.getD 0 0-48)) (fun r _ _ _=>(r+1).toNat)
  ⟨n,0,ds,tr,rfl,by omega,rfl,by omega,hp,by rw [Nat.sub_self,Nat.pow_zero,Nat.div_one,Nat.add_zero],x,fun _ _=>rfl,fun q a1 a2=>by omega,fun _ e=>by omega⟩ ?_
 rintro _ _ _ m ⟨j,N,ds1,tr1,rfl,rfl,rfl,hj,hN,hV,x1,hold,hnw,hh0⟩
 have hl1:=x1.len
 refine iteB (fun hr=> ?_) fun hr=> ?_
 ·have hr:(j:Int)-1≥0:=of_decide_eq_true hr
  obtain ⟨i,rfl⟩:∃i,j=i+1:=⟨j-1,by omega⟩
  have hdi:=hdig i (by omega)
  have hoi:=hold i (by omega)
  have ei:((i+1:Nat):Int)-1=(i:Int):=by omega
  rw [ei]
  refine zag ⟨⟨by omega,by omega⟩,?_⟩
  rw [Int.toNat_natCast,decAt]
  refine ld_c (sh:=shInt .u8) ((ds1.getD i 0:Nat):Int) (x1.digit (by omega)) ⟨by omega,by decide,?_⟩
  rw [hoi]
  obtain ⟨d,hd⟩:∃d,ds.getD i 0=48+d:=⟨ds.getD i 0-48,by omega⟩
  have hd10:d<10:=by omega
  rw [hd]
  have hsh:shlI .u64 (IntKind.wrap .u64 ((IntKind.wrap .u64 ((48+d:Nat):Int))-(48:Int))) (k:Int)=((d*2^k:Nat):Int):=by
   rw [show IntKind.wrap .u64 ((IntKind.wrap .u64 ((48+d:Nat):Int))-(48:Int))=(d:Int) by rw [zal,zal];omega]
   refine shlN (by omega) ?_
   have:=Nat.mul_le_mul (show d≤9 by omega) h2
   omega
  have hVb:N+d*2^k<10*2^k:=by
   have:=Nat.mul_le_mul_right (2^k) (show d≤9 by omega)
   omega
  have eV:IntKind.wrap .u64 ((N:Int)+((d*2^k:Nat):Int))=((N+d*2^k:Nat):Int):=by rw [zal];omega
  rw [hsh,eV,zgf2 (by omega),zgg2 (by omega)]
  have ew:IntKind.wrap .i64 (((i+1+D:Nat):Int)-1)=((i+D:Nat):Int):=by rw [zad (by omega) (by omega)];omega
  rw [ew,zad (n:=(i:Int)-1) (by omega) (by omega)]
  have hnt:=zbi1 (ds:=ds) (i:=i) (z:=48+d) (by rw [←hd];simp [List.getD,show i<ds.length by omega])
  rw [show 48+d-48=d by omega] at hnt
  have hV2:numV (ds.take i)*2^k+(N+d*2^k) / 10=numV (ds.take n)*2^k / 10^(n-i):=by
   rw [hnt] at hV
   have:=zfu2 hV
   rw [show n-(i+1)+1=n-i by omega] at this
   exact this
  have hq2:(N+d*2^k) / 10<2^k:=by omega
  have hzero:D=0→i=0→N+d*2^k<10∧d=c-48:=fun e1 e2=>by
   subst e1 e2
   rw [List.take_zero,show numV []=0 from rfl,Nat.zero_mul,Nat.zero_add,Nat.sub_zero] at hV2
   rw [Nat.pow_zero] at q1
   refine ⟨by omega,by omega⟩
  refine JoinW0.intro (fun m=>∃(ds2:List Nat) (tr2:Bool),DX h0 m b ds2 n dp neg tr2∧(∀q,q<i→ds2.getD q 0=ds.getD q 0)∧(∀q,i+D≤q→q<n+D→q<800→48≤ds2.getD q 0∧ds2.getD q 0<58)∧(D=0→i=0→(c-48)*2^k≤ds2.getD 0 0-48)) ?_ ?_
  ·generalize hdw:decide (((i+D:Nat):Int)<800)=dw
   cases dw with
   | true=>
    have hw:((i+D:Nat):Int)<800:=of_decide_eq_true hdw
    rw [if_pos rfl]
    refine zag ⟨⟨by omega,by omega⟩,?_⟩
    rw [Int.toNat_natCast,decAt]
    have hm10:=Nat.mod_lt (N+d*2^k) (show 0<10 by decide)
    refine x1.putD (c:=48+(N+d*2^k)%10) (by omega) (digB hm10) fun m2 x2=>⟨_,tr1,x2,fun q hq=> ?_,fun q a1 a2 a3=> ?_,fun e1 e2=> ?_⟩
    ·rw [zsv (by omega),if_neg (by omega)];exact hold q (by omega)
    ·rw [zsv (by omega)]
     by_cases e:i+D=q
     ·rw [if_pos e]
      generalize (N+d*2^k)%10=z at*
      omega
     ·rw [if_neg e];exact hnw q (by omega) a2 a3
    ·obtain ⟨z1,z2⟩:=hzero e1 e2
     rw [zsv (by omega),if_pos (by omega),Nat.mod_eq_of_lt z1,z2]
     omega
   | false=>
    have hw:¬((i+D:Nat):Int)<800:=of_decide_eq_false hdw
    rw [if_neg (by decide)]
    have keep:(∀q,q<i→ds1.getD q 0=ds.getD q 0)∧(∀q,i+D≤q→q<n+D→q<800→48≤ds1.getD q 0∧ds1.getD q 0<58)∧(D=0→i=0→(c-48)*2^k≤ds1.getD 0 0-48):=
     ⟨fun q hq=>hold q (by omega),fun q a1 a2 a3=>by omega,fun e1 e2=>by omega⟩
    exact iteB (fun _=>zag (x1.putTr fun m2 x2=>⟨ds1,true,x2,keep⟩)) fun _=>⟨ds1,tr1,x1,keep⟩
  rintro m2 ⟨ds2,tr2,x2,e1,e2,e3⟩
  exact ⟨⟨i,_,ds2,tr2,rfl,rfl,rfl,by omega,hq2,hV2,x2,e1,e2,e3⟩,by omega⟩
 ·have hr:¬(j:Int)-1≥0:=fun e=>hr (decide_eq_true e)
  have hj0:j=0:=by omega
  subst hj0
  rw [List.take_zero,show numV []=0 from rfl,Nat.zero_mul,Nat.zero_add,Nat.sub_zero] at hV
  rw [←hV] at q1 q2
  have hh0':=fun e=>hh0 e rfl
  refine LoopW2.intro (fun w v m=>∃(W N:Nat) (ds1:List Nat),w=(W:Int)∧v=(N:Int)∧W≤D∧N<2^k∧N<10^W∧(1≤W→10^(W-1)≤N)∧DX h0 m b ds1 n dp neg tr1∧(∀q,W≤q→q<n+D→q<800→48≤ds1.getD q 0∧ds1.getD q 0<58)∧(W=0→49≤ds1.getD 0 0)∧(D=0→(c-48)*2^k≤ds1.getD 0 0-48)) (fun w _ _=>w.toNat)
   ⟨D,N,ds1,by omega,rfl,Nat.le_refl _,hN,q1,q2,x1,fun q a1 a2 a3=>hnw q (by omega) a2 a3,fun e=> ?_,hh0'⟩ ?_
  ·have:=hh0' e
   have:=Nat.mul_le_mul (show 1≤c-48 by omega) hp
   omega
  clear hh0 hh0' hnw hold x1 hl1 hr q1 q2 hV hN ds1 m N
  rintro _ _ m ⟨W,N,ds1,rfl,rfl,hW,hN,n1,n2,x1,hnw,hh1,hh0⟩
  have hl1:=x1.len
  refine iteB (fun hn=>⟨by decide,?_⟩) fun hn=> ?_
  ·have hn:(N:Int)>0:=of_decide_eq_true hn
   have hW1:1≤W:=by
    refine Nat.pos_of_ne_zero fun e=> ?_
    subst e
    rw [Nat.pow_zero] at n1
    omega
   obtain ⟨V,rfl⟩:∃V,W=V+1:=⟨W-1,by omega⟩
   have n2:=n2 hW1
   rw [Nat.add_sub_cancel] at n2
   rw [Nat.pow_succ] at n1
   have ew:IntKind.wrap .i64 (((V+1:Nat):Int)-1)=(V:Int):=by rw [zad (by omega) (by omega)];omega
   rw [ew,zgf2 (by omega),zgg2 (by omega)]
   have hm10:=Nat.mod_lt N (show 0<10 by decide)
   refine JoinW0.intro (fun m=>∃ds2:List Nat,DX h0 m b ds2 n dp neg tr1∧(∀q,V≤q→q<n+D→q<800→48≤ds2.getD q 0∧ds2.getD q 0<58)∧(V=0→49≤ds2.getD 0 0)) ?_ ?_
   ·rw [decide_eq_true (show (V:Int)<800 by omega),if_pos rfl]
    refine zag ⟨⟨by omega,by omega⟩,?_⟩
    rw [Int.toNat_natCast,decAt]
    refine x1.putD (c:=48+N%10) (by omega) (digB hm10) fun m2 x2=>⟨_,x2,fun q a1 a2 a3=> ?_,fun e=> ?_⟩
    ·rw [zsv (by omega)]
     by_cases e:V=q
     ·rw [if_pos e];omega
     ·rw [if_neg e];exact hnw q (by omega) a2 a3
    ·subst e
     rw [Nat.pow_zero] at n1 n2
     rw [zsv (by omega),if_pos rfl]
     omega
   rintro m2 ⟨ds2,x2,e1,e2⟩
   refine ⟨⟨V,N / 10,ds2,rfl,rfl,by omega,by omega,by omega,fun v1=> ?_,x2,e1,e2,fun e=>by omega⟩,by omega⟩
   obtain ⟨U,rfl⟩:∃U,V=U+1:=⟨V-1,by omega⟩
   rw [Nat.pow_succ] at n2
   rw [Nat.add_sub_cancel]
   omega
  ·have hn:¬(N:Int)>0:=fun e=>hn (decide_eq_true e)
   have hW0:W=0:=by
    refine Classical.byContradiction fun e=> ?_
    have:=n2 (by omega)
    have:=Nat.pow_pos (n:=W-1) (show 0<10 by decide)
    omega
   subst hW0
   have h49:=hh1 rfl
   refine zag (ld_c (sh:=shInt .i64) (n:Int) x1.ndAt (zag ?_))
   rw [zad (by omega) (by omega),show (n:Int)+(D:Int)=((n+D:Nat):Int) by omega]
   refine x1.putNd fun m2 x2=> ?_
   refine JoinW0.intro (fun m=>∃M:Nat,1≤M∧M≤800∧M≤n+D∧DX h0 m b ds1 M dp neg tr1) ?_ ?_
   ·refine zag (ld_c (sh:=shInt .i64) ((n+D:Nat):Int) x2.ndAt ?_)
    generalize hdw:decide (((n+D:Nat):Int)≥800)=dw
    cases dw with
    | true=>
     have hw:((n+D:Nat):Int)≥800:=of_decide_eq_true hdw
     rw [if_pos rfl]
     exact zag (x2.putNd fun m3 x3=>⟨800,by decide,by decide,by omega,x3⟩)
    | false=>
     have hw:¬((n+D:Nat):Int)≥800:=of_decide_eq_false hdw
     rw [if_neg (by decide)]
     exact ⟨n+D,by omega,by omega,Nat.le_refl _,x2⟩
   rintro m3 ⟨M,M1,M2,M3,x3⟩
   refine zag (ld_c (sh:=shInt .i64) dp x3.dpAt (zag ?_))
   rw [zad (by omega) (by omega)]
   refine x3.putDp fun m4 x4=> ?_
   have d0':=hnw 0 (by omega) (by omega) (by decide)
   have g3:GoodD ds1 M:=⟨M1,M2,(zwz (by omega)).2 fun q hq=>hnw q (by omega) (by omega) (by omega),ds1.getD 0 0,by simp [List.getD,show 0<ds1.length by omega],h49,d0'.2⟩
   exact zlm (zzj1 x4 g3 fun m5 q x5 g5=>hk m5 ds1 q D tr1 x5 g5 hDb.1 hDb.2 hh0)
end
end Lf

namespace Lf
open Go Go.Proofs
def dpOf (h:Hp) (b:Nat):Int:=match hcell h ⟨b,801,none⟩ with
 | some (.int _ n)=>n
 | _=>0
def d0Of (h:Hp) (b:Nat):Nat:=match hcell h ⟨b,0,none⟩ with
 | some (.int _ n)=>n.toNat
 | _=>0
section
variable {h0 h:Hp} {b:Nat} {ds:List Nat} {dp:Int} {neg tr:Bool}
theorem DX.dpIs {nd:Int} (x:DX h0 h b ds nd dp neg tr):dpOf h b=dp:=by
 have:=x.dpAt 0 _ rfl
 rw [box_add,box_add] at this
 unfold dpOf
 rw [show 0+801+0=801 from rfl] at this
 rw [this]
theorem DX.d0Is {nd:Int} (x:DX h0 h b ds nd dp neg tr):d0Of h b=ds.getD 0 0:=by
 have:=x.digit (i:=0) (by decide) 0 _ rfl
 rw [box_add] at this
 unfold d0Of
 rw [show 0+0=0 from rfl] at this
 rw [this]
 exact Int.toNat_natCast _
theorem GoodD.first {n:Nat} (g:GoodD ds n):ds[0]? =some (ds.getD 0 0)∧49≤ds.getD 0 0∧ds.getD 0 0<58:=by
 obtain ⟨c,hc,c1,c2⟩:=g.head
 have:ds.getD 0 0=c:=by rw [List.getD,hc];rfl
 rw [this]
 exact ⟨hc,c1,c2⟩
theorem zwf1 {n k:Nat} {Q:Hp→Prop} (x:DX h0 h b ds n dp neg tr) (g:GoodD ds n) (k1:1≤k) (k2:k≤60) (d0: -1000000000000000≤dp) (d1:dp≤1000000000000000)
  (hk:∀h' ds' (m r:Nat) tr',DX h0 h' b ds' m (dp-((r:Int)-1)) neg tr'→GoodD ds' m→1≤r→r≤900→(4≤k→2≤r)→(k=3→2≤r∨(56≤ds.getD 0 0∧ds'.getD 0 0=49))→Q h'):zas Tryz.prog (some ⟨b,0,none⟩) (-(k:Int)) Q h:=by
 unfold zas
 have gp:=g.pos
 refine zag (ld_c (sh:=shInt .i64) (n:Int) x.ndAt (iteF (fun hh=>by have:((n:Nat):Int)=0:=beq_iff_eq.1 hh;omega) (iteF (fun hh=>by have:=of_decide_eq_true hh;omega) (iteT (decide_eq_true (by omega)) ?_))))
 refine LoopW1.intro (fun k1 m=>m=h∧k1= -(k:Int)) (fun _ _=>0) ⟨rfl,rfl⟩ ?_
 rintro _ m ⟨rfl,rfl⟩
 have e:IntKind.wrap .u64 (IntKind.wrap .i64 ((0:Int)-(-(k:Int))))=(k:Int):=by rw [zad (by omega) (by omega),zal];omega
 rw [e]
 refine iteF (fun hh=>by have:=of_decide_eq_true hh;omega) (zdo (zkj1 x g g.first.1 k1 k2 d0 d1 hk))
theorem zkk1 {n:Nat} {K:Int} {Q:Hp→Prop} (x:DX h0 h b ds n dp neg tr) (g:GoodD ds n) (k1:K<0) (k2: -100000000≤K) (d0: -1000000000≤dp) (d1:dp≤1000000000)
  (hk:∀h' ds' (m:Nat) dp' tr',DX h0 h' b ds' m dp' neg tr'→GoodD ds' m→ -100000000000000≤dp'→dp'≤dp→Q h'):zas Tryz.prog (some ⟨b,0,none⟩) K Q h:=by
 unfold zas
 have gp:=g.pos
 refine zag (ld_c (sh:=shInt .i64) (n:Int) x.ndAt (iteF (fun hh=>by have:((n:Nat):Int)=0:=beq_iff_eq.1 hh;omega) (iteF (fun hh=>by have:=of_decide_eq_true hh;omega) (iteT (decide_eq_true k1) ?_))))
 refine LoopW1.intro (fun k m=>K≤k∧k<0∧∃(ds1:List Nat) (n1:Nat) (dp1:Int) (tr1:Bool),DX h0 m b ds1 n1 dp1 neg tr1∧GoodD ds1 n1∧dp1≤dp∧dp-15*(k-K)≤dp1) (fun k _=>(-k).toNat) ⟨Int.le_refl _,k1,ds,n,dp,tr,x,g,Int.le_refl _,by omega⟩ ?_
 rintro k m ⟨a1,a2,ds1,n1,dp1,tr1,x1,g1,b1,b2⟩
 refine iteB (fun hc=> ?_) fun hc=> ?_
 ·have hc:k< -60:=of_decide_eq_true hc
  refine zdo (zkj1 (k:=60) x1 g1 g1.first.1 (by decide) (by decide) (by omega) (by omega) fun m2 ds2 q r tr2 x2 g2 r1 r2 _ _=> ?_)
  rw [zad (by omega) (by omega)]
  exact ⟨⟨by omega,by omega,ds2,q,_,tr2,x2,g2,by omega,by omega⟩,by omega⟩
 ·have hc:¬k< -60:=fun e=>hc (decide_eq_true e)
  obtain ⟨j,rfl⟩:∃j:Nat,k= -(j:Int):=⟨(-k).toNat,by omega⟩
  have e:IntKind.wrap .u64 (IntKind.wrap .i64 ((0:Int)-(-(j:Int))))=(j:Int):=by rw [zad (by omega) (by omega),zal];omega
  rw [e]
  refine zdo (zkj1 (k:=j) x1 g1 g1.first.1 (by omega) (by omega) (by omega) (by omega) fun m2 ds2 q r tr2 x2 g2 r1 r2 _ _=> ?_)
  exact hk m2 ds2 q _ tr2 x2 g2 (by omega) (by omega)
theorem znb1 {n k:Nat} {Q:Hp→Prop} (t:Cheats h0) (x:DX h0 h b ds n dp neg tr) (g:GoodD ds n) (k1:1≤k) (k2:k≤60) (d0: -1000000000000000≤dp) (d1:dp≤1000000000000000)
  (hk:∀h' ds' (m D:Nat) tr',DX h0 h' b ds' m (dp+(D:Int)) neg tr'→GoodD ds' m→newD k≤D+1→D≤newD k→(D=0→(ds.getD 0 0-48)*2^k≤ds'.getD 0 0-48)→Q h'):zas Tryz.prog (some ⟨b,0,none⟩) (k:Int) Q h:=by
 unfold zas
 have gp:=g.pos
 refine zag (ld_c (sh:=shInt .i64) (n:Int) x.ndAt (iteF (fun hh=>by have:((n:Nat):Int)=0:=beq_iff_eq.1 hh;omega) (iteT (decide_eq_true (by omega)) ?_)))
 refine LoopW1.intro (fun k1 m=>m=h∧k1=(k:Int)) (fun _ _=>0) ⟨rfl,rfl⟩ ?_
 rintro _ m ⟨rfl,rfl⟩
 rw [show IntKind.wrap .u64 (k:Int)=(k:Int) by rw [zal];omega]
 exact iteF (fun hh=>by have:=of_decide_eq_true hh;omega) (zpv (zke2 t x g g.first.1 k1 k2 d0 d1 hk))
theorem zwg1 {n:Nat} {i:Int} {Q:Bool→Hp→Prop} (x:DX h0 h b ds n dp neg tr) (hn:n≤800) (hq:∀v,Q v h):zdn Tryz.prog (some ⟨b,0,none⟩) i Q h:=by
 unfold zdn
 refine zag (ld_c (sh:=shInt .i64) (n:Int) x.ndAt (letW (iteB (fun _=>hq _) fun hy=> ?_)))
 have hi:0≤i∧i<(n:Int):=by
  rw [Bool.or_eq_true,not_or] at hy
  have h1:¬i<0:=fun e=>hy.1 (decide_eq_true e)
  have h2:¬i≥(n:Int):=fun e=>hy.2 (decide_eq_true e)
  omega
 obtain ⟨j,rfl⟩:=Int.eq_ofNat_of_zero_le hi.1
 refine zag ⟨⟨by omega,by omega⟩,?_⟩
 rw [Int.toNat_natCast,decAt]
 refine ld_c (sh:=shInt .u8) _ (x.digit (by omega)) (zag (ld_c (sh:=shInt .i64) (n:Int) x.ndAt (letW (iteB (fun _=> ?_) fun _=> ?_))))
 ·refine zag (ld_c (sh:=zae) tr x.trAt (iteB (fun _=>hq _) fun _=>zag ⟨fun hh=> ?_,?_⟩))
  ·have:=of_decide_eq_true hh
   rw [zad (by omega) (by omega)]
   exact ⟨by omega,by omega⟩
  ·by_cases hj:j=0
   ·subst hj
    exact ⟨(0:Int),fun e:decide (((0:Nat):Int)>0)=true=>absurd e (by decide),fun e:decide (((0:Nat):Int)>0)=true=>absurd e (by decide),letW (hq _)⟩
   ·have e1:IntKind.wrap .i64 ((j:Int)-1)=((j-1:Nat):Int):=by rw [zad (by omega) (by omega)];omega
    rw [e1,Int.toNat_natCast,decAt]
    exact ld_c (sh:=shInt .u8) _ (x.digit (by omega)) ⟨fun _=>by decide,letW (hq _)⟩
 ·refine zag ⟨⟨by omega,by omega⟩,?_⟩
  rw [decAt]
  exact ld_c (sh:=shInt .u8) _ (x.digit (by omega)) (hq _)
theorem zwh1 {n:Nat} {Q:Int→Hp→Prop} (x:DX h0 h b ds n dp neg tr) (hn:n≤800) (hq:∀v,U64 v→Q v h):zbw Tryz.prog (some ⟨b,0,none⟩) Q h:=by
 unfold zbw
 refine zag (ld_c (sh:=shInt .i64) dp x.dpAt (iteB (fun _=>hq _ ⟨18446744073709551615,rfl,by decide⟩) fun h20=> ?_))
 have h20:¬dp>20:=fun e=>h20 (decide_eq_true e)
 refine LoopW2.intro (fun i v m=>m=h∧0≤i∧i≤1000∧U64 v) (fun i _ _=>(1000-i).toNat) ⟨rfl,by omega,by omega,0,rfl,by decide⟩ ?_
 rintro i v m ⟨rfl,i0,i1,hv⟩
 refine zag (ld_c (sh:=shInt .i64) dp x.dpAt (zag (ld_c (sh:=shInt .i64) (n:Int) x.ndAt (letW (iteB (fun hy=> ?_) fun _=> ?_)))))
 ·rw [Bool.and_eq_true] at hy
  have h1:=of_decide_eq_true hy.1
  have h2:=of_decide_eq_true hy.2
  obtain ⟨j,rfl⟩:=Int.eq_ofNat_of_zero_le i0
  refine zag ⟨⟨by omega,by omega⟩,?_⟩
  rw [Int.toNat_natCast,decAt,zad (by omega) (by omega)]
  exact ld_c (sh:=shInt .u8) _ (x.digit (by omega)) ⟨⟨rfl,by omega,by omega,zsu _⟩,by omega⟩
 ·refine LoopW2.intro (fun i v k=>k=m∧0≤i∧i≤1000∧U64 v) (fun i _ _=>(1000-i).toNat) ⟨rfl,i0,i1,hv⟩ ?_
  rintro i v m ⟨rfl,i0,i1,hv⟩
  refine zag (ld_c (sh:=shInt .i64) dp x.dpAt (iteB (fun hc=> ?_) fun _=> ?_))
  ·have hc:=of_decide_eq_true hc
   rw [zad (by omega) (by omega)]
   exact ⟨⟨rfl,by omega,by omega,zsu _⟩,by omega⟩
  ·refine zag (ld_c (sh:=shInt .i64) dp x.dpAt (zmu (zwg1 x hn fun r=>iteB (fun _=>hq _ (zsu _)) fun _=>hq _ hv)))
end
end Lf

namespace Lf
open Go Go.Proofs
def powL :List Int:=[1,3,6,9,13,16,19,23,26]
def pN (i:Nat):Nat:=if 9≤i then 27 else [1,3,6,9,13,16,19,23,26].getD i 0
theorem zls2 :∀i,i<9→powL[i]? =some (pN i:Int)∧1≤pN i∧pN i≤27∧(2≤i→6≤pN i):=by decide
theorem pN_in (i:Nat):1≤pN i∧pN i≤27∧(2≤i→6≤pN i):=by
 by_cases h:9≤i
 ·unfold pN
  rw [if_pos h]
  omega
 ·exact (zls2 i (by omega)).2
def PowT (h:Hp):Prop:=∃a c,LdIs h ⟨11,0,none⟩ [.slice (some a) 9 c]∧LdIs h a (powL.map fun x=>.int .i64 x)
structure SEnv (h:Hp):Prop where
 hx:HEnv h
 ch:Cheats h
 pw:PowT h
theorem SEnv.mono {h h':Hp} (e:SEnv h) (hl:h≤h'):SEnv h':=by
 obtain ⟨a,c,e1,e2⟩:=e.pw
 exact ⟨e.hx.mono hl,e.ch.mono hl,a,c,zbe hl e1,zbe hl e2⟩
section
variable {h0 h:Hp} {b:Nat} {ds:List Nat} {dp:Int} {neg tr:Bool}
theorem zgu1 {n:Int} {f:Int→Int→Int} {g:Int} {ov:Bool} {Q:Int→Bool→Hp→Prop} (c0:LdIs h (Addr.add ⟨7,0,none⟩ 0) [.int .u64 52]) (c1:LdIs h (Addr.add ⟨7,0,none⟩ 1) [.int .u64 11]) (x:DX h0 h b ds n dp neg tr)
  (hf:∀a b,U64 (f a b)) (hg:U64 g) (hq:∀v ov,U64 v→Q v ov h):NilW none (some ⟨b,0,none⟩) fun p=>LdW none zae h (Addr.add p 802) fun x6=>
   (if x6=true then
   NilW none (some ⟨7,0,none⟩) fun p7=>LdW none (shInt .u64) h (Addr.add p7 0) fun x7=>
   ((0:Int)≤x7∧NilW none (some ⟨7,0,none⟩) fun p8=>LdW none (shInt .u64) h (Addr.add p8 1) fun x8=>
   ((0:Int)≤x8∧Q (f x7 x8) ov h))
   else
   Q g ov h):=
 zag (ld_c (sh:=zae) neg x.negAt (iteB (fun _=>zag (ld_c (sh:=shInt .u64) (52:Int) c0 ⟨by decide,zag (ld_c (sh:=shInt .u64) (11:Int) c1 ⟨by decide,hq _ _ (hf _ _)⟩)⟩)) fun _=>hq _ _ hg))
theorem zgh2 {n:Nat} {i:Int} {K:Int→Hp→Prop} {A:Int→Int} (pw:PowT h) (x:DX h0 h b ds n dp neg tr) (hA:A dp=i) (i0:0≤i) (hk:K (pN i.toNat:Int) h):
  NilW none (some ⟨b,0,none⟩) fun p4=>LdW none (shInt .i64) h (Addr.add p4 801) fun x4=>LdW none shSl h ⟨11,0,none⟩ fun x5=>
   (if (decide (A x4≥((x5.len:Nat):Int)))=true then
   K (27:Int) h
   else
   LdW none shSl h ⟨11,0,none⟩ fun x6=>NilW none (some ⟨b,0,none⟩) fun p5=>LdW none (shInt .i64) h (Addr.add p5 801) fun x7=>
   ((InB x6.base x6.len (A x7))∧LdW none (shInt .i64) h (sat x6.base 1 (A x7)) fun x8=>
   K x8 h)):=by
 obtain ⟨a,c,e1,e2⟩:=pw
 obtain ⟨j,rfl⟩:=Int.eq_ofNat_of_zero_le i0
 rw [Int.toNat_natCast] at hk
 refine zag (ld_c (sh:=shInt .i64) dp x.dpAt (ld_c (sh:=shSl) ⟨some a,9,c⟩ e1 ?_))
 rw [hA]
 by_cases hj:9≤j
 ·have:pN j=27:=by unfold pN;rw [if_pos hj]
  rw [this] at hk
  exact iteT (decide_eq_true (by show (j:Int)≥((9:Nat):Int);omega)) hk
 ·refine iteF (fun hh=>by have h9:(j:Int)≥((9:Nat):Int):=of_decide_eq_true hh;omega) ?_
  refine ld_c (sh:=shSl) ⟨some a,9,c⟩ e1 (zag (ld_c (sh:=shInt .i64) dp x.dpAt ?_))
  rw [hA]
  refine ⟨⟨by simp,by omega,by show (j:Int)<((9:Nat):Int);omega⟩,ld_c (sh:=shInt .i64) (pN j:Int) ?_ hk⟩
  show LdIs h (Addr.add a (Int.toNat (j:Int)*1)) [.int .i64 (pN j:Int)]
  rw [Int.toNat_natCast,Nat.mul_one]
  exact zum (e2 j _ (by rw [List.getElem?_map,(zls2 j (by omega)).1];rfl))
theorem zzk1 (e:HEnv h):LdIs h (Addr.add ⟨7,0,none⟩ 0) [.int .u64 52]∧LdIs h (Addr.add ⟨7,0,none⟩ 1) [.int .u64 11]∧LdIs h (Addr.add ⟨7,0,none⟩ 2) [.int .i64 (-1023)]:=
 ⟨by rw [box_add];exact e.i0,by rw [box_add];exact e.i1,by rw [box_add];exact e.i2⟩
theorem zpq1 {n:Nat} {Q:Int→Bool→Hp→Prop} (e:SEnv h0) (x:DX h0 h b ds n dp neg tr) (g:n=0∨GoodD ds n) (hq:∀v ov h',h0≤h'→U64 v→Q v ov h'):
  zcl Tryz.prog (some ⟨b,0,none⟩) (some ⟨7,0,none⟩) Q h:=by
 obtain ⟨c0,c1,c2⟩:=zzk1 (e.hx.mono x.le)
 have hqh:∀v ov,U64 v→Q v ov h:=fun v ov hv=>hq v ov h x.le hv
 unfold zcl
 refine zag (ld_c (sh:=shInt .i64) (n:Int) x.ndAt (iteB (fun _=> ?_) fun hn=> ?_))
 ·refine zag (ld_c (sh:=shInt .i64) (-1023:Int) c2 (zag (ld_c (sh:=shInt .u64) (52:Int) c0 ⟨by decide,zag (ld_c (sh:=shInt .i64) (-1023:Int) c2 (zag (ld_c (sh:=shInt .u64) (11:Int) c1 ⟨by decide,zag (ld_c (sh:=shInt .u64) (52:Int) c0 ⟨by decide,?_⟩)⟩)))⟩)))
  exact zgu1 c0 c1 x (fun _ _=>zbd _ _ _) (zbd _ _ _) hqh
 have g:GoodD ds n:=g.resolve_left fun e=>hn (by rw [e];rfl)
 refine zag (ld_c (sh:=shInt .i64) dp x.dpAt (iteB (fun _=> ?_) fun h310=> ?_))
 ·refine zag (ld_c (sh:=shInt .u64) (11:Int) c1 ⟨by decide,zag (ld_c (sh:=shInt .i64) (-1023:Int) c2 (zag (ld_c (sh:=shInt .u64) (52:Int) c0 ⟨by decide,zag (ld_c (sh:=shInt .i64) (-1023:Int) c2 (zag (ld_c (sh:=shInt .u64) (11:Int) c1 ⟨by decide,zag (ld_c (sh:=shInt .u64) (52:Int) c0 ⟨by decide,?_⟩)⟩)))⟩)))⟩)
  exact zgu1 c0 c1 x (fun _ _=>zbd _ _ _) (zbd _ _ _) hqh
 have h310:¬dp>310:=fun e=>h310 (decide_eq_true e)
 refine zag (ld_c (sh:=shInt .i64) dp x.dpAt (iteB (fun _=> ?_) fun h330=> ?_))
 ·refine zag (ld_c (sh:=shInt .i64) (-1023:Int) c2 (zag (ld_c (sh:=shInt .u64) (52:Int) c0 ⟨by decide,zag (ld_c (sh:=shInt .i64) (-1023:Int) c2 (zag (ld_c (sh:=shInt .u64) (11:Int) c1 ⟨by decide,zag (ld_c (sh:=shInt .u64) (52:Int) c0 ⟨by decide,?_⟩)⟩)))⟩)))
  exact zgu1 c0 c1 x (fun _ _=>zbd _ _ _) (zbd _ _ _) hqh
 have h330:¬dp< -330:=fun e=>h330 (decide_eq_true e)
 refine LoopW1.intro (fun ex m=>∃(ds1:List Nat) (n1:Nat) (dp1:Int) (tr1:Bool),DX h0 m b ds1 n1 dp1 neg tr1∧GoodD ds1 n1∧ -2000≤dp1∧dp1≤310∧0≤ex∧ex+27*((dp1.toNat*10+ds1.getD 0 0:Nat):Int)≤1000000) (fun _ m=>(dpOf m b).toNat*10+d0Of m b)
  ⟨ds,n,dp,tr,x,g,by omega,by omega,by omega,by have:=g.first;omega⟩ ?_
 rintro ex m ⟨ds1,n1,dp1,tr1,x1,g1,d0,d1,e0,e1⟩
 obtain ⟨-,f1,f2⟩:=g1.first
 refine zag (ld_c (sh:=shInt .i64) dp1 x1.dpAt (iteB (fun hd=> ?_) fun hd=> ?_))
 ·have hd:dp1>0:=of_decide_eq_true hd
  obtain ⟨p1,p2,p3⟩:=pN_in dp1.toNat
  refine JoinW1.intro (fun k m2=>m2=m∧k=(pN dp1.toNat:Int)) ?_ ?_
  ·exact zgh2 (K:=fun k m2=>m2=m∧k=(pN dp1.toNat:Int)) (A:=fun x=>x) ((e.mono x1.le).pw) x1 rfl (by omega) ⟨rfl,rfl⟩
  rintro _ m ⟨rfl,rfl⟩
  rw [zad (n:=(0:Int)-_) (by omega) (by omega),show (0:Int)-(pN dp1.toNat:Int)= -(pN dp1.toNat:Int) by omega,zad (n:=ex+_) (by omega) (by omega)]
  refine zbs (zwf1 x1 g1 p1 (by omega) (by omega) (by omega) fun m2 ds2 q r tr2 x2 g2 r1 r2 r4 r3=> ?_)
  obtain ⟨-,f3,f4⟩:=g2.first
  have key:(dp1-((r:Int)-1)).toNat*10+ds2.getD 0 0<dp1.toNat*10+ds1.getD 0 0:=by
   by_cases h2:2≤dp1.toNat
   ·have:=r4 (by have:=p3 h2;omega)
    omega
   ·have h1:dp1=1:=by omega
    subst h1
    rcases r3 (by decide) with r3 | ⟨r3,r5⟩
    ·omega
    ·omega
  refine ⟨⟨ds2,q,_,tr2,x2,g2,by omega,by omega,by omega,by omega⟩,?_⟩
  rw [x2.dpIs,x2.d0Is,x1.dpIs,x1.d0Is]
  exact key
 have hd:¬dp1>0:=fun e=>hd (decide_eq_true e)
 refine LoopW1.intro (fun ex m=>∃(ds2:List Nat) (n2:Nat) (dp2:Int) (tr2:Bool),DX h0 m b ds2 n2 dp2 neg tr2∧GoodD ds2 n2∧ -2000≤dp2∧dp2≤1000∧ex≤1000000∧27*(((1-dp2).toNat*10+(58-ds2.getD 0 0):Nat):Int)-2000000≤ex) (fun _ m=>(1-dpOf m b).toNat*10+(58-d0Of m b))
  ⟨ds1,n1,dp1,tr1,x1,g1,by omega,by omega,by omega,by omega⟩ ?_
 rintro ex m ⟨ds1,n1,dp1,tr1,x1,g1,d0,d1,e0,e1⟩
 obtain ⟨c0,c1,c2⟩:=zzk1 (e.hx.mono x1.le)
 obtain ⟨-,f1,f2⟩:=g1.first
 refine zag (ld_c (sh:=shInt .i64) dp1 x1.dpAt (zag (ld_c (sh:=shInt .i64) dp1 x1.dpAt (zag ⟨fun _=>by decide,?_⟩))))
 have ea:Addr.add (Addr.add (⟨b,0,none⟩:Addr) 0) 0=⟨b,0,none⟩:=by rw [box_add,box_add]
 rw [ea]
 refine ld_c (sh:=shInt .u8) ((ds1.getD 0 0:Nat):Int) (x1.digit (by decide)) (letW (letW (iteB (fun hy=> ?_) fun _=> ?_)))
 ·have hc:dp1<0∨(dp1=0∧ds1.getD 0 0<53):=by
   rw [Bool.or_eq_true,Bool.and_eq_true] at hy
   rcases hy with hy | hy
   ·exact .inl (of_decide_eq_true hy)
   ·refine .inr ⟨beq_iff_eq.1 hy.1,?_⟩
    have:((ds1.getD 0 0:Nat):Int)<53:=of_decide_eq_true hy.2
    omega
  obtain ⟨p1,p2,p3⟩:=pN_in (-dp1).toNat
  refine JoinW1.intro (fun k m2=>m2=m∧k=(pN (-dp1).toNat:Int)) ?_ ?_
  ·exact zgh2 (K:=fun k m2=>m2=m∧k=(pN (-dp1).toNat:Int)) (A:=fun x=>IntKind.wrap .i64 ((0:Int)-x)) (i:= -dp1) ((e.mono x1.le).pw) x1 (by show IntKind.wrap .i64 ((0:Int)-dp1)= -dp1;rw [zad (by omega) (by omega)];omega) (by omega) ⟨rfl,rfl⟩
  rintro _ m ⟨rfl,rfl⟩
  rw [zad (n:=ex-_) (by omega) (by omega)]
  refine zbs (znb1 e.ch x1 g1 p1 (by omega) (by omega) (by omega) fun m2 ds2 q D tr2 x2 g2 a1 a2 a3=> ?_)
  obtain ⟨-,f3,f4⟩:=g2.first
  have hnd:=zge2 (pN (-dp1).toNat) (by omega)
  have key:(1-(dp1+(D:Int))).toNat*10+(58-ds2.getD 0 0)<(1-dp1).toNat*10+(58-ds1.getD 0 0):=by
   by_cases hD:D=0
   ·have:=a3 hD
    have h2:2≤2^pN (-dp1).toNat:=Nat.pow_le_pow_right (n:=2) (i:=1) (by decide) p1
    have:=Nat.mul_le_mul_left (ds1.getD 0 0-48) h2
    subst hD
    omega
   ·omega
  refine ⟨⟨ds2,q,_,tr2,x2,g2,by omega,by omega,by omega,by omega⟩,?_⟩
  rw [x2.dpIs,x2.d0Is,x1.dpIs,x1.d0Is]
  exact key
 refine JoinW1.intro (fun ex m=>∃(ds2:List Nat) (n2:Nat) (dp2:Int) (tr2:Bool),DX h0 m b ds2 n2 dp2 neg tr2∧GoodD ds2 n2∧ -100000000000000≤dp2∧dp2≤1000) ?_ ?_
 ·refine zag (ld_c (sh:=shInt .i64) (-1023:Int) c2 ?_)
  rw [zad (n:=ex-1) (by omega) (by omega),show IntKind.wrap .i64 ((-1023:Int)+1)= -1022 by decide]
  refine iteB (fun hlt=> ?_) fun _=>⟨ds1,n1,dp1,tr1,x1,g1,by omega,by omega⟩
  have hlt:ex-1< -1022:=of_decide_eq_true hlt
  refine zag (ld_c (sh:=shInt .i64) (-1023:Int) c2 ?_)
  rw [show IntKind.wrap .i64 ((-1023:Int)+1)= -1022 by decide,zad (n:=(-1022:Int)-(ex-1)) (by omega) (by omega),zad (n:=(0:Int)-_) (by omega) (by omega)]
  exact zbs (zkk1 x1 g1 (by omega) (by omega) (by omega) (by omega) fun m2 ds2 q dp2 tr2 x2 g2 b1 b2=>⟨ds2,q,dp2,tr2,x2,g2,b1,by omega⟩)
 rintro ex2 m ⟨ds1,n1,dp1,tr1,x1,g1,d0,d1⟩
 obtain ⟨c0,c1,c2⟩:=zzk1 (e.hx.mono x1.le)
 refine zag (ld_c (sh:=shInt .i64) (-1023:Int) c2 (zag (ld_c (sh:=shInt .u64) (11:Int) c1 ⟨by decide,iteB (fun _=> ?_) fun _=> ?_⟩)))
 ·refine zag (ld_c (sh:=shInt .u64) (11:Int) c1 ⟨by decide,zag (ld_c (sh:=shInt .i64) (-1023:Int) c2 (zag (ld_c (sh:=shInt .u64) (52:Int) c0 ⟨by decide,zag (ld_c (sh:=shInt .i64) (-1023:Int) c2 (zag (ld_c (sh:=shInt .u64) (11:Int) c1 ⟨by decide,zag (ld_c (sh:=shInt .u64) (52:Int) c0 ⟨by decide,?_⟩)⟩)))⟩)))⟩)
  exact zgu1 c0 c1 x1 (fun _ _=>zbd _ _ _) (zbd _ _ _) fun v ov hv=>hq v ov m x1.le hv
 refine zag (ld_c (sh:=shInt .u64) (52:Int) c0 ?_)
 rw [show IntKind.wrap .i64 (IntKind.wrap .u64 ((1:Int)+52))=((53:Nat):Int) by decide]
 refine zbs (znb1 e.ch x1 g1 (by decide) (by decide) (by omega) (by omega) fun m2 ds2 q D tr2 x2 g2 _ _ _=> ?_)
 obtain ⟨c0,c1,c2⟩:=zzk1 (e.hx.mono x2.le)
 have hq2:∀v ov,U64 v→Q v ov m2:=fun v ov hv=>hq v ov m2 x2.le hv
 refine zik (zwh1 x2 g2.most fun r hr=> ?_)
 refine JoinW2.intro (fun _ _ k=>m2=k) ?_ ?_
 ·refine zag (ld_c (sh:=shInt .u64) (52:Int) c0 ⟨by decide,iteB (fun _=>⟨by decide,zag (ld_c (sh:=shInt .i64) (-1023:Int) c2 (zag (ld_c (sh:=shInt .u64) (11:Int) c1 ⟨by decide,iteB (fun _=> ?_) fun _=>rfl⟩)))⟩) fun _=>rfl⟩)
  refine zag (ld_c (sh:=shInt .u64) (11:Int) c1 ⟨by decide,zag (ld_c (sh:=shInt .i64) (-1023:Int) c2 (zag (ld_c (sh:=shInt .u64) (52:Int) c0 ⟨by decide,zag (ld_c (sh:=shInt .i64) (-1023:Int) c2 (zag (ld_c (sh:=shInt .u64) (11:Int) c1 ⟨by decide,zag (ld_c (sh:=shInt .u64) (52:Int) c0 ⟨by decide,?_⟩)⟩)))⟩)))⟩)
  exact zgu1 c0 c1 x2 (fun _ _=>zbd _ _ _) (zbd _ _ _) hq2
 rintro ex3 mant m2 rfl
 refine JoinW1.intro (fun _ k=>m2=k) (zag (ld_c (sh:=shInt .u64) (52:Int) c0 ⟨by decide,iteB (fun _=>zag (ld_c (sh:=shInt .i64) (-1023:Int) c2 rfl)) fun _=>rfl⟩)) ?_
 rintro ex4 m2 rfl
 refine zag (ld_c (sh:=shInt .u64) (52:Int) c0 ⟨by decide,zag (ld_c (sh:=shInt .i64) (-1023:Int) c2 (zag (ld_c (sh:=shInt .u64) (11:Int) c1 ⟨by decide,zag (ld_c (sh:=shInt .u64) (52:Int) c0 ⟨by decide,?_⟩)⟩)))⟩)
 exact zgu1 c0 c1 x2 (fun _ _=>zbd _ _ _) (zbd _ _ _) hq2
end
end Lf

namespace Lf
open Go Go.Proofs
section
variable {h0 h:Hp} {b:Nat} {ds:List Nat} {dp:Int} {neg tr:Bool}
theorem zgi2 {n c:Nat} (hl:ds.length=800) (g:n=0∨GoodD ds n) (hn:n<800) (hc:48≤c∧c<58) (h0:n=0→c≠48):GoodD (ds.set n c) (n+1):=by
 refine ⟨by omega,by omega,(zwz (by rw [List.length_set];omega)).2 fun q hq=> ?_,?_⟩
 ·rw [zsv (by omega)]
  by_cases e:n=q
  ·rw [if_pos e];exact hc
  ·rw [if_neg e]
   have g:=g.resolve_left fun e=>by omega
   exact (zwz (by omega)).1 g.digs q (by omega)
 ·rw [List.getElem?_set]
  by_cases e:n=0
  ·subst e
   rw [if_pos rfl,if_pos (by omega)]
   exact ⟨c,rfl,by have:=h0 rfl;omega,hc.2⟩
  ·rw [if_neg e]
   exact (g.resolve_left e).head
theorem znv2 {s:ByteArray} {Q:Bool→Hp→Prop} (hs:s.size<4611686018427387904) (x:DX h0 h b ds 0 dp neg tr) (hq:∀h' ds' (n:Nat) dp' neg' tr' ok,DX h0 h' b ds' n dp' neg' tr'→(n=0∨GoodD ds' n)→Q ok h'):
  zej Tryz.prog (some ⟨b,0,none⟩) s Q h:=by
 unfold zej
 refine zag (x.putNeg fun h x=>zag (x.putTr fun h x=> ?_))
 generalize hN:s.size=N at*
 refine iteB (fun _=>hq h ds 0 _ _ _ _ x (.inl rfl)) fun hN0=> ?_
 have hN0:¬(0:Int)≥(N:Int):=fun e=>hN0 (decide_eq_true e)
 refine ⟨⟨by decide,by omega⟩,JoinW1.intro (fun i k=>0≤i∧i≤(N:Int)∧∃neg,DX h0 k b ds ((0:Nat):Int) dp neg false) (iteB (fun _=>⟨by omega,by omega,_,x⟩) fun _=>iteB (fun _=>zag (x.putNeg fun h x=>⟨by omega,by omega,_,x⟩)) fun _=>⟨by omega,by omega,_,x⟩) ?_⟩
 clear x
 rintro i h ⟨i0,i1,neg,x⟩
 refine JoinW3.intro (fun i _ _ k=>0≤i∧i≤(N:Int)∧∃(ds:List Nat) (n:Nat) (dp:Int) (neg tr:Bool),DX h0 k b ds (n:Int) dp neg tr∧(n=0∨GoodD ds n)) ?_ ?_
 ·refine LoopW3.intro (fun i _ _ k=>0≤i∧i≤(N:Int)∧∃(ds:List Nat) (n:Nat) (dp:Int) (neg tr:Bool),DX h0 k b ds (n:Int) dp neg tr∧(n=0∨GoodD ds n)) (fun i _ _ _=>(N-i).toNat) ⟨i0,i1,ds,0,dp,neg,false,x,.inl rfl⟩ ?_
  clear x i0 i1 i
  rintro i sd sg h ⟨i0,i1,ds,n,dp,neg,tr,x,g⟩
  refine iteB (fun hi=> ?_) fun _=>⟨i0,i1,ds,n,dp,neg,tr,x,g⟩
  have hi:=of_decide_eq_true hi
  have hin:(0:Int)≤i∧i<(N:Int):=⟨i0,hi⟩
  refine JoinW2.intro (fun _ _ k=>∃(ds:List Nat) (n:Nat) (dp:Int) (neg tr:Bool),DX h0 k b ds (n:Int) dp neg tr∧(n=0∨GoodD ds n)) ?_ ?_
  ·generalize hc:UInt8.toNat (List.getD s.data.toList (Int.toNat i) 0)=c
   refine ⟨hin,iteB (fun _=>⟨ds,n,dp,neg,tr,x,g⟩) fun _=>⟨hin,iteB (fun _=>iteB (fun _=>hq h ds n _ _ _ _ x g) fun _=> ?_) fun _=>⟨hin,fun _=>hin,letW (iteB (fun hy=>⟨hin,?_⟩) fun _=>⟨i0,i1,ds,n,dp,neg,tr,x,g⟩)⟩⟩⟩
   ·exact zag (ld_c (sh:=shInt .i64) (n:Int) x.ndAt (zag (x.putDp fun h x=>⟨ds,n,_,neg,tr,x,g⟩)))
   rw [Bool.and_eq_true] at hy
   have c0:(48:Int)≤(c:Int):=of_decide_eq_true hy.1
   have c1:(c:Int)≤57:=of_decide_eq_true hy.2
   refine zag (ld_c (sh:=shInt .i64) (n:Int) x.ndAt (letW (iteB (fun _=> ?_) fun hz=> ?_)))
   ·exact zag (ld_c (sh:=shInt .i64) dp x.dpAt (zag (x.putDp fun h x=>⟨ds,n,_,neg,tr,x,g⟩)))
   have hz:n=0→c≠48:=fun e1 e2=>by subst e1;subst e2;exact hz rfl
   refine zag (ld_c (sh:=shInt .i64) (n:Int) x.ndAt ?_)
   generalize hd:decide ((n:Int)<800)=lt
   refine iteB (fun hn=> ?_) fun _=>⟨hin,iteB (fun _=>zag (x.putTr fun h x=>⟨ds,n,dp,neg,_,x,g⟩)) fun _=>⟨ds,n,dp,neg,tr,x,g⟩⟩
   rw [hn] at hd
   have hn:(n:Int)<800:=of_decide_eq_true hd
   refine zag (ld_c (sh:=shInt .i64) (n:Int) x.ndAt ⟨hin,zag ⟨⟨by omega,hn⟩,?_⟩⟩)
   rw [Int.toNat_natCast,decAt]
   refine x.putD (by omega) rfl fun h x=>zag (ld_c (sh:=shInt .i64) (n:Int) x.ndAt (zag ?_))
   rw [zad (n:=(n:Int)+1) (by omega) (by omega)]
   have hl:=x.len
   rw [List.length_set] at hl
   exact x.putNd fun h x=>⟨_,n+1,dp,neg,tr,x,.inr (zgi2 hl g (by omega) ⟨by omega,by omega⟩ hz)⟩
  rintro sd sg h ⟨ds,n,dp,neg,tr,x,g⟩
  rw [zad (n:=i+1) (by omega) (by omega)]
  exact ⟨⟨by omega,by omega,ds,n,dp,neg,tr,x,g⟩,by omega⟩
 clear x i0 i1 i
 rintro i sd sg h ⟨i0,i1,ds,n,dp,neg,tr,x,g⟩
 refine iteB (fun _=>hq h ds n _ _ _ _ x g) fun _=> ?_
 refine JoinW0.intro (fun k=>∃dp,DX h0 k b ds (n:Int) dp neg tr) (iteB (fun _=>zag (ld_c (sh:=shInt .i64) (n:Int) x.ndAt (zag (x.putDp fun h x=>⟨_,x⟩)))) fun _=>⟨_,x⟩) ?_
 clear x
 rintro h ⟨dp,x⟩
 refine ⟨fun hh=>⟨i0,of_decide_eq_true hh⟩,lowE fun r=>letW (iteB (fun hy=> ?_) fun _=>iteB (fun _=>hq h ds n _ _ _ _ x g) fun _=>hq h ds n _ _ _ _ x g)⟩
 rw [Bool.and_eq_true] at hy
 have hi:=of_decide_eq_true hy.1
 rw [zad (n:=i+1) (by omega) (by omega)]
 refine iteB (fun _=>hq h ds n _ _ _ _ x g) fun h1=> ?_
 have h1:¬i+1≥(N:Int):=fun e=>h1 (decide_eq_true e)
 refine ⟨⟨by omega,by omega⟩,JoinW2.intro (fun i3 _ k=>k=h∧0≤i3∧i3≤(N:Int)) ?_ ?_⟩
 ·rw [zad (n:=i+1+1) (by omega) (by omega)]
  exact iteB (fun _=>⟨rfl,by omega,by omega⟩) fun _=>iteB (fun _=>⟨rfl,by omega,by omega⟩) fun _=>⟨rfl,by omega,by omega⟩
 rintro i3 es h ⟨rfl,j0,j1⟩
 refine ⟨fun hh=>⟨j0,?_⟩,letW ⟨fun hh=>⟨j0,?_⟩,letW (iteB (fun _=>hq h ds n _ _ _ _ x g) fun hy2=> ?_)⟩⟩
 ·have:¬i3≥(N:Int):=fun e=>by rw [decide_eq_true e] at hh;cases hh
  omega
 ·have:¬i3≥(N:Int):=fun e=>by rw [decide_eq_true e,Bool.true_or] at hh;cases hh
  omega
 refine LoopW2.intro (fun i4 _ k=>k=h∧0≤i4∧i4≤(N:Int)) (fun i4 _ _=>(N-i4).toNat) ⟨rfl,j0,j1⟩ ?_
 rintro i4 e4 h ⟨rfl,k0,k1⟩
 refine ⟨fun hh=>⟨k0,of_decide_eq_true hh⟩,fun hh=>⟨k0,by rw [Bool.and_eq_true] at hh;exact of_decide_eq_true hh.1⟩,letW ⟨fun hh=>⟨k0,by rw [Bool.and_eq_true] at hh;exact of_decide_eq_true hh.1⟩,letW (letW (iteB (fun hy=> ?_) fun _=> ?_))⟩⟩
 ·rw [Bool.and_eq_true] at hy
  have hi4:=of_decide_eq_true hy.1
  refine JoinW1.intro (fun _ k=>k=h) ⟨⟨k0,hi4⟩,iteB (fun _=>rfl) fun _=>iteB (fun _=>⟨⟨k0,hi4⟩,rfl⟩) fun _=>rfl⟩ ?_
  rintro e5 h rfl
  rw [zad (n:=i4+1) (by omega) (by omega)]
  exact ⟨⟨rfl,by omega,by omega⟩,by omega⟩
 ·exact zag (ld_c (sh:=shInt .i64) dp x.dpAt (zag (x.putDp fun h x=>iteB (fun _=>hq h ds n _ _ _ _ x g) fun _=>hq h ds n _ _ _ _ x g)))
end
end Lf

namespace Lf
open Go Go.Proofs
structure AEnv (h:Hp):Prop where
 fe:FEnv h
 se:SEnv h
theorem AEnv.mono {h h':Hp} (e:AEnv h) (hl:h≤h'):AEnv h':=⟨e.fe.mono hl,e.se.mono hl⟩
abbrev ErK (er:Leaf):Prop:=er.v=.nilIface∨∃k:Int,(k=1∨k=2)∧er.v=.iface 122 (.int .i64 k)
theorem ErOk.k {er:Leaf} (h:ErOk er):ErK er:=h.imp id fun e=>⟨1,.inl rfl,e⟩
def leafN :Leaf:=⟨.nilIface,rfl⟩
def leafE (k:Int):Leaf:=⟨.iface 122 (.int .i64 k),rfl⟩
theorem zef1 :ErK leafN:=.inl rfl
theorem zvv {k:Int} (h:k=1∨k=2):ErK (leafE k):=.inr ⟨k,h,rfl⟩
section
variable {h:Hp}
theorem encN {K:Leaf→Prop} (hk:K leafN):EncW zah .nilIface K:=⟨leafN,rfl,hk⟩
theorem encE {k:Int} {K:Leaf→Prop} (hk:K (leafE k)):EncW zah (.iface 122 (.int .i64 k)) K:=⟨leafE k,rfl,hk⟩
theorem encL {er:Leaf} {K:Leaf→Prop} (hk:K er):EncW zah er.v K:=⟨er,rfl,hk⟩
theorem zkf2 {s:ByteArray} {n:Int} {er:Leaf} {Q:Nat→Int→Leaf→Hp→Prop} (e:AEnv h) (hs:s.size<4611686018427387904) (n0:0≤n) (n1:n≤(s.size:Int)) (hq:∀(f:Nat) (er2:Leaf) h',h≤h'→(ErK er2∨er2=er)→Q f n er2 h') {b:Nat} {ty:_}
  {cs:List Value} (hcs:cs=DecC (List.replicate 800 0) 0 0 false false) (hb:h b=none):
  (((0:Int)≤n∧n≤(((ByteArray.size s):Nat):Int))∧CallT Tryz.prog zef [(.pointer (some ⟨b,0,none⟩)),(.string (ByteArray.extract s 0 (Int.toNat n)))] zae (fun r10 h5=>
   (if (!r10)=true then
   EncW zah (.iface 122 (.int .i64 (2:Int))) fun e=>
   Q 0 n e h5
   else
   Call2 Tryz.prog zbm [(.pointer (some ⟨b,0,none⟩)),(.pointer (some ⟨7,0,none⟩))] (shInt .u64) zae (fun r11 r12 h6=>
   SemE Tryz.prog (Extern.MathFloatBits.float64frombits #[(.int .u64 r11)]) (shFlt .f64) (fun r13 h7=>
   (if r12=true then
   EncW zah (.iface 122 (.int .i64 (1:Int))) fun e=>
   Q r13 n e h7
   else
   EncW zah er.v fun e=>
   Q r13 n e h7)) h6) h5)) (h.set b (.cells cs.toArray ty (0,0)))):=by
 have hle:=zki (o:=.cells cs.toArray ty (0,0)) hb
 have x:DX h (h.set b (.cells cs.toArray ty (0,0))) b (List.replicate 800 0) 0 0 false false:=⟨hle,hb,List.length_replicate,ty,by rw [←hcs];exact zen⟩
 generalize h.set b (.cells cs.toArray ty (0,0))=k at*
 refine ⟨⟨n0,n1⟩,zof (znv2 (by rw [ByteArray.size_extract];omega) x fun k2 ds m dp neg tr ok x2 g=> ?_)⟩
 refine iteB (fun _=>encE (hq _ _ _ x2.le (.inl (zvv (.inr rfl))))) fun _=> ?_
 refine zkz (zpq1 (e.se) x2 g fun v ov k3 hle3 hv=> ?_)
 obtain ⟨v,rfl,hv⟩:=hv
 exact zhn rfl hv (iteB (fun _=>encE (hq _ _ _ hle3 (.inl (zvv (.inl rfl))))) fun _=>encL (hq _ _ _ hle3 (.inr rfl)))
end
end Lf

namespace Lf
open Go Go.Proofs
section
variable {h:Hp}
theorem zgj2 (neg:Bool):shlI .u64 (if neg then (1:Int) else 0) (63:Int)=((sgn neg:Nat):Int)∧sgn neg<18446744073709551616:=by cases neg<;>decide
theorem zpr1 {neg:Bool} {Q:Int→Hp→Prop} (hq:Q (if neg then 1 else 0) h):zbk Tryz.prog neg Q h:=by
 unfold zbk
 cases neg
 ·exact iteF (by decide) hq
 ·exact iteT rfl hq
set_option maxRecDepth 200000 in
theorem zbq2 {s:ByteArray} {Q:Nat→Int→Leaf→Hp→Prop} (e:AEnv h) (hs:s.size<4611686018427387904) (hq:∀(f:Nat) (n:Int) (er:Leaf) h',h≤h'→ErK er→Q f n er h'):
  zam Tryz.prog s Q h:=by
 have here:∀(f:Nat) (n:Int) (er:Leaf),ErK er→Q f n er h:=fun f n er k=>hq f n er h (Hp.le_refl h) k
 unfold zam
 refine zcq (zwe1 hs fun f n ok=>iteB (fun _=>encN (here _ _ _ zef1)) fun _=> ?_)
 refine zdy (zpp1 hs fun m p neg tr hex i ok hm hi=> ?_)
 refine iteB (fun _=>encE (here _ _ _ (zvv (.inr rfl)))) fun hok=> ?_
 have hok:ok=true:=by cases ok;exact absurd rfl hok;rfl
 obtain ⟨i0,i1⟩:=hi hok
 refine iteB (fun _=>⟨⟨i0,i1⟩,zrk (znu2 e.se.hx hm fun f er k=>encL (here _ _ _ k.k))⟩) fun _=> ?_
 refine JoinW2.intro (fun n er k=>h≤k∧0≤n∧n≤(s.size:Int)∧ErK er) ?_ ?_
 ·refine ld_at (sh:=zae) true e.fe.opt (iteT rfl (zap (zpr1 ⟨by decide,?_⟩)))
  obtain ⟨es,hsg⟩:=zgj2 neg
  rw [es]
  have hz:U64 (bitsI .or .u64 ((sgn neg:Nat):Int) (0:Int)):=zbd _ _ _
  have hy:U64 (bitsI .or .u64 ((sgn neg:Nat):Int) (9218868437227405312:Int)):=zbd _ _ _
  obtain ⟨z,ez,hz⟩:=hz
  obtain ⟨y,ey,hy⟩:=hy
  refine iteB (fun _=>zhn ez hz (encN (here _ _ _ zef1))) fun hm0=> ?_
  refine iteB (fun _=>zhn ey hy (encE (here _ _ _ (zvv (.inl rfl))))) fun hp1=> ?_
  have hp1:¬p>310:=fun e=>hp1 (decide_eq_true e)
  refine iteB (fun _=>zhn ez hz (encN (here _ _ _ zef1))) fun hp0=> ?_
  have hp0:¬p< -345:=fun e=>hp0 (decide_eq_true e)
  have hm0:0<m:=Nat.pos_of_ne_zero fun e=>hm0 (by rw [e];rfl)
  refine JoinW2.intro (fun n er k=>h≤k∧n=i∧ErK er) ?_ ?_
  ·refine iteB (fun _=>zgx (zzi1 (r:=0) e.fe hm0 hm (by omega) (by omega) fun f ok _=>iteB (fun _=>encN (here _ _ _ zef1)) fun _=>encN ⟨Hp.le_refl h,rfl,zef1⟩)) fun _=>encN ⟨Hp.le_refl h,rfl,zef1⟩
  rintro _ er k ⟨hk,rfl,ker⟩
  refine zde (zkg1 (e.mono hk).fe.pow hm hsg (by omega) (by omega) fun f1 er1 k1 hk1 ok1=> ?_)
  have l1:=Hp.le_trans hk hk1
  refine iteB (fun _=>encL (hq _ _ _ _ l1 ok1.k)) fun _=> ?_
  obtain ⟨m2,em2,hm2⟩:=zsu ((m:Int)+1)
  rw [em2]
  refine zde (zkg1 (e.mono l1).fe.pow hm2 hsg (by omega) (by omega) fun f2 er2 k2 hk2 ok2=> ?_)
  have l2:=Hp.le_trans l1 hk2
  exact zlr2 (sh:=zae) (v:=f64.format.order f1 f2==some .eq) rfl (iteB (fun _=>encL (hq _ _ _ _ l2 ok1.k)) fun _=>encL ⟨l2,i0,i1,ker⟩)
 rintro n er k ⟨hk,n0,n1,ker⟩
 intro b ty hb
 refine zkf2 (e.mono hk) hs n0 n1 (fun f er2 k2 hk2 he=>hq _ _ _ _ (Hp.le_trans hk hk2) (he.elim id fun e=>e▸ker)) rfl hb
end
end Lf

namespace Lf
open Go Go.Proofs
section
variable {h:Hp}
theorem zbr2 {r:Nat} {neg:Bool} {out:List Nat} {Q:Nat→Int→Leaf→Hp→Prop} (e:AEnv h) (h1:0<r) (h2:r<9218868437227405312) (ht:TextF r neg out) (hk:∀(er:Leaf) h',h≤h'→er.v=.nilIface→Q (sgn neg+r) (out.length:Int) er h'):
  zam Tryz.prog (strN out) Q h:=by
 obtain ⟨c,ds,eneg,xs,v,s,rfl,hc,hds,hl,hxs,x1,x2,ev,es,hv,hv57,s0,s1,he⟩:=zto h1 h2 ht
 have hin:inF r (v*unitW 0 s)=true:=by rw [he];exact zgr1 h1 h2
 have hv0:0<v:=Nat.pos_of_ne_zero fun e=>hv (by rw [e])
 unfold zam
 refine zcq (zmy1 (by omega) (iteF (by decide) ?_))
 refine zdy (zsn1 hc hds hl hxs x1 (by omega) (iteF (by decide) (iteF (by decide) (JoinW2.direct ?_))))
 rw [ev,es]
 refine ld_at (sh:=zae) true e.fe.opt (iteT rfl (zap (zpr1 ⟨by decide,?_⟩)))
 obtain ⟨ess,hsg⟩:=zgj2 neg
 rw [ess]
 refine iteF (fun hh=>by have:((v:Nat):Int)=0:=beq_iff_eq.1 hh;omega) ?_
 refine iteF (fun hh=>by have:s>310:=of_decide_eq_true hh;omega) (iteF (fun hh=>by have:s< -345:=of_decide_eq_true hh;omega) ?_)
 refine JoinW2.intro (fun n er k=>k=h∧n=((fltL neg c ds eneg xs).length:Int)) ?_ ?_
 ·refine iteT (by decide) (zgx (zzi1 (r:=r) e.fe hv0 (by omega) (by omega) (by omega) fun f ok hf=>iteB (fun hok=>encN ?_) fun _=>encN ⟨rfl,rfl⟩))
  have:=hf h1 h2 hin hok
  subst this
  exact hk _ h (Hp.le_refl h) rfl
 rintro _ er k ⟨rfl,rfl⟩
 exact zde (zbp2 e.fe.pow h1 h2 hv57 hv0 (by omega) (by omega) hin fun er k1 hk1 her=>iteT (by decide) (encL (hk _ _ hk1 her)))
end
end Lf

namespace Lf
open Go Go.Proofs
section
variable {h:Hp}
def zeroL (neg:Bool):List Nat:=(if neg then [45] else [])++ [48,101,48]
def infL (neg:Bool):List Nat:=(if neg then [45] else [])++ [105,110,102]
theorem zlg1 {neg:Bool} {Q:Int→Int→Bool→Bool→Bool→Int→Bool→Hp→Prop} (hq:Q 0 0 neg false false ((zeroL neg).length:Int) true h):zax Tryz.prog (strN (zeroL neg)) Q h:=by
 unfold zax
 refine iteF (by cases neg<;>decide) ⟨by cases neg<;>decide,?_⟩
 refine JoinW2.intro (fun n i k=>k=h∧neg=n∧i=((sgnN neg:Nat):Int)) ?_ ?_
 ·cases neg with
  | true=>exact iteF (by decide) (iteT (by decide) ⟨rfl,rfl,rfl⟩)
  | false=>exact iteF (by decide) (iteF (by decide) ⟨rfl,rfl,rfl⟩)
 rintro _ _ h ⟨rfl,rfl,rfl⟩
 refine JoinW5.intro (fun hx i b m e k=>k=h∧hx=false∧i=((sgnN neg:Nat):Int)∧b=10∧m=19∧e=101) ?_ ?_
 ·refine ⟨fun _=>by cases neg<;>decide,letW ⟨fun _=>by cases neg<;>decide,?_⟩⟩
  refine ⟨fun _=>zau (zun (letW (iteF ?_ ⟨rfl,rfl,rfl,rfl,rfl,rfl⟩))),fun _=>⟨(0:Int),letW (iteF ?_ ⟨rfl,rfl,rfl,rfl,rfl,rfl⟩)⟩⟩
  ·cases neg<;>decide
  ·cases neg<;>decide
 rintro _ _ _ _ _ h ⟨rfl,rfl,rfl,rfl,rfl,rfl⟩
 refine JoinW9.intro (fun m tr i us sd sg nd ndm dp k=>k=h∧m=0∧tr=false∧i=((sgnN neg+1:Nat):Int)∧us=false∧sd=false∧sg=true∧nd=0∧ndm=0) ?_ ?_
 ·refine LoopW9.intro (fun m tr i us sd sg nd ndm dp k=>k=h∧m=0∧tr=false∧us=false∧sd=false∧nd=0∧ndm=0∧((sg=false∧i=((sgnN neg:Nat):Int)∧dp=0)∨(sg=true∧i=((sgnN neg+1:Nat):Int))))
   (fun _ _ i _ _ _ _ _ _ _=>(4-i).toNat) ⟨rfl,rfl,rfl,rfl,rfl,rfl,rfl,.inl ⟨rfl,rfl,rfl⟩⟩ ?_
  rintro _ _ _ _ _ _ _ _ _ h ⟨rfl,rfl,rfl,rfl,rfl,rfl,rfl,(⟨rfl,rfl,rfl⟩ | ⟨rfl,rfl⟩)⟩
  ·refine iteT (by cases neg<;>decide) (JoinW8.direct ⟨by cases neg<;>decide,iteF (by cases neg<;>decide) (iteF (by cases neg<;>decide) (letW (iteT (by cases neg<;>decide) (letW (iteT (by cases neg<;>decide) ⟨⟨rfl,rfl,rfl,rfl,rfl,rfl,rfl,.inr ⟨rfl,?_⟩⟩,?_⟩)))))⟩)
   ·cases neg<;>decide
   ·cases neg<;>decide
  ·refine iteT (by cases neg<;>decide) (JoinW8.direct ⟨by cases neg<;>decide,iteF (by cases neg<;>decide) (iteF (by cases neg<;>decide) (letW (iteF (by cases neg<;>decide) ?_)))⟩)
   exact effF (by cases neg<;>decide) (0:Int) (letW (effF (by cases neg<;>decide) (0:Int) (letW (iteF (by cases neg<;>decide) ⟨rfl,rfl,rfl,rfl,rfl,rfl,rfl,rfl,rfl⟩))))
 rintro _ _ _ _ _ _ _ _ dp h ⟨rfl,rfl,rfl,rfl,rfl,rfl,rfl,rfl,rfl⟩
 refine iteF (by decide) (JoinW1.direct (iteT (by decide) (JoinW2.direct (iteF (by decide) ?_))))
 refine JoinW3.intro (fun i us dp k=>k=h∧i=((zeroL neg).length:Int)∧us=false) ?_ ?_
 ·refine ⟨fun _=>by cases neg<;>decide,⟨fun _=>zau (zun ?_),fun hh=>absurd hh (by cases neg<;>decide)⟩⟩
  refine letW (iteT (by cases neg<;>decide) (iteF (by cases neg<;>decide) ⟨by cases neg<;>decide,JoinW2.intro (fun i e k=>k=h∧i=((sgnN neg+2:Nat):Int)) (iteF (by cases neg<;>decide) (iteF (by cases neg<;>decide) ⟨rfl,by cases neg<;>decide⟩)) ?_⟩))
  rintro _ es h ⟨rfl,rfl⟩
  refine ⟨fun _=>by cases neg<;>decide,letW ⟨fun _=>by cases neg<;>decide,letW (iteF (by cases neg<;>decide) ?_)⟩⟩
  refine LoopW3.intro (fun i us e k=>k=h∧us=false∧(i=((sgnN neg+2:Nat):Int)∨i=((zeroL neg).length:Int))) (fun i _ _ _=>(4-i).toNat) ⟨rfl,rfl,.inl rfl⟩ ?_
  rintro _ _ ex h ⟨rfl,rfl,(rfl | rfl)⟩
  ·refine ⟨fun _=>by cases neg<;>decide,fun _=>by cases neg<;>decide,letW ⟨fun _=>by cases neg<;>decide,letW (letW (iteT (by cases neg<;>decide) ?_))⟩⟩
   refine JoinW2.intro (fun us _ k=>k=h∧us=false) ⟨by cases neg<;>decide,iteF (by cases neg<;>decide) (iteB (fun _=>⟨by cases neg<;>decide,rfl,rfl⟩) fun _=>⟨rfl,rfl⟩)⟩ ?_
   rintro _ e5 h ⟨rfl,rfl⟩
   exact ⟨⟨rfl,rfl,.inr (by cases neg<;>decide)⟩,by cases neg<;>decide⟩
  ·refine ⟨fun hh=>absurd hh (by cases neg<;>decide),fun hh=>absurd hh (by cases neg<;>decide),letW ⟨fun hh=>absurd hh (by cases neg<;>decide),letW (letW (iteF (by cases neg<;>decide) ⟨rfl,rfl,rfl⟩))⟩⟩
 rintro _ _ dp3 h ⟨rfl,rfl,rfl⟩
 exact JoinW1.direct (iteF (by decide) ⟨fun hh=>(by cases hh),effF rfl true (letW (iteF (by decide) hq))⟩)
theorem zsr1 {neg:Bool} {Q:Nat→Int→Bool→Hp→Prop} (hq:Q 0 0 false h):zba Tryz.prog (strN (zeroL neg)) Q h:=
 zmy1 (neg:=neg) (c:=48) (ds:=[]) (eneg:=false) (xs:=[48]) (by decide) hq
theorem zwi1 {neg:Bool} {Q:Nat→Int→Leaf→Hp→Prop} (e:AEnv h) (hk:∀(er:Leaf) h',h≤h'→er.v=.nilIface→Q (sgn neg) ((zeroL neg).length:Int) er h'):zam Tryz.prog (strN (zeroL neg)) Q h:=by
 unfold zam
 refine zcq (zsr1 (iteF (by decide) ?_))
 refine zdy (zlg1 (iteF (by decide) (iteF (by decide) (JoinW2.direct ?_))))
 refine ld_at (sh:=zae) true e.fe.opt (iteT rfl (zap (zpr1 ⟨by decide,?_⟩)))
 refine iteT (by decide) (zhn (n:=sgn neg) (by cases neg<;>decide) (by cases neg<;>decide) (encN (hk _ h (Hp.le_refl h) rfl)))
theorem zbs2 {Q:Int→Hp→Prop} (hq:Q 3 h):zak Tryz.prog (strN [105,110,102]) ⟨#[105,110,102,105,110,105,116,121]⟩ Q h:=by
 unfold zak
 refine LoopW1.intro (fun i k=>k=h∧(i=0∨i=1∨i=2∨i=3)) (fun i _=>(3-i).toNat) ⟨rfl,.inl rfl⟩ ?_
 rintro _ h ⟨rfl,(rfl | rfl | rfl | rfl)⟩
 ·exact iteT (by decide) ⟨by decide,JoinW1.direct (letW (iteF (by decide) ⟨by decide,iteF (by decide) ⟨⟨rfl,.inr (.inl (by decide))⟩,by decide⟩⟩))⟩
 ·exact iteT (by decide) ⟨by decide,JoinW1.direct (letW (iteF (by decide) ⟨by decide,iteF (by decide) ⟨⟨rfl,.inr (.inr (.inl (by decide)))⟩,by decide⟩⟩))⟩
 ·exact iteT (by decide) ⟨by decide,JoinW1.direct (letW (iteF (by decide) ⟨by decide,iteF (by decide) ⟨⟨rfl,.inr (.inr (.inr (by decide)))⟩,by decide⟩⟩))⟩
 ·exact iteF (by decide) hq
theorem zbt2 {neg:Bool} {Q:Nat→Int→Leaf→Hp→Prop} (hk:∀(er:Leaf) h',h≤h'→er.v=.nilIface→Q (sgn neg+9218868437227405312) ((infL neg).length:Int) er h'):zam Tryz.prog (strN (infL neg)) Q h:=by
 unfold zam
 refine zcq ?_
 unfold zba
 refine iteF (by cases neg<;>decide) ⟨by cases neg<;>decide,?_⟩
 refine JoinW3.intro (fun s sg ns k=>k=h∧s=strN [105,110,102]∧sg=(if neg then -1 else 1)∧ns=(if neg then 1 else 0)) ?_ ?_
 ·cases neg with
  | true=>exact JoinW1.direct (iteF (by decide) (iteT (by decide) (JoinW1.direct ⟨by decide,iteT (by decide) ⟨by decide,rfl,rfl,rfl,rfl⟩⟩)))
  | false=>exact JoinW1.direct (iteF (by decide) (iteF (by decide) (JoinW1.direct (iteT (by decide) (iteT (by decide) ⟨rfl,rfl,rfl,rfl⟩)))))
 rintro _ _ _ h ⟨rfl,rfl,rfl,rfl⟩
 refine zat (zbs2 (JoinW1.direct (letW (iteF (by decide) (letW (iteT (by decide) (zmg ?_)))))))
 unfold zjq
 cases neg with
 | true=>exact JoinW1.direct (iteF (by decide) (zhn (n:=18442240474082181120) rfl (by decide) (iteT (by decide) (encN (hk _ h (Hp.le_refl h) rfl)))))
 | false=>exact JoinW1.direct (iteT (by decide) (zhn (n:=9218868437227405312) rfl (by decide) (iteT (by decide) (encN (hk _ h (Hp.le_refl h) rfl)))))
end
end Lf

namespace Lf
open Go Go.Proofs Go.RowKit
structure EEnv (h:Hp):Prop where
 syn:∃te pe,LdIs h ⟨3,0,none⟩ [.iface te pe]
 rng:∃te pe,LdIs h ⟨4,0,none⟩ [.iface te pe]
theorem EEnv.mono {h h':Hp} (e:EEnv h) (hl:h≤h'):EEnv h':=by
 obtain ⟨⟨a,b,e1⟩,⟨c,d,e2⟩⟩:=e
 exact ⟨⟨a,b,zbe hl e1⟩,⟨c,d,zbe hl e2⟩⟩
section
variable {h:Hp}
theorem znc1 {fn s:ByteArray} {base bits k:Int} {K:Leaf→Hp→Prop} (e:EEnv h) (hs:s.size≤281474976710656) (h12:k=1∨k=2) (hk:∀er,K er h):
  CallT Tryz.prog zcu [.string fn,.string s,.int .i64 base,.int .i64 bits,.iface 122 (.int .i64 k)] zah K h:=by
 intro w hw
 rcases h12 with rfl | rfl
 ·obtain ⟨te,pe,hl⟩:=e.rng
  refine (Tryz.strconv_toError_range fn s base bits (.iface te pe) w hs (zgr hw (hl 0 _ rfl)) (.inr ⟨te,pe,rfl⟩)).mono ?_
  rintro e w' ⟨N,rfl,_,_,hb⟩
  exact ⟨_,h,rfl,⟨⟨.iface 125 (.pointer (some ⟨N,0,none⟩)),rfl⟩,rfl,hk _⟩,⟨fun i o e=>by rw [hb.block i (hw.lt e)];exact hw i o e,hb.size,fun i hi hn=>⟨hb.block i hi,hn⟩,hb.os,hb.tape,hb.output⟩⟩
 ·obtain ⟨te,pe,hl⟩:=e.syn
  refine (Tryz.strconv_toError_syntax fn s base bits (.iface te pe) w hs (zgr hw (hl 0 _ rfl)) (.inr ⟨te,pe,rfl⟩)).mono ?_
  rintro e w' ⟨N,rfl,_,_,hb⟩
  exact ⟨_,h,rfl,⟨⟨.iface 125 (.pointer (some ⟨N,0,none⟩)),rfl⟩,rfl,hk _⟩,⟨fun i o e=>by rw [hb.block i (hw.lt e)];exact hw i o e,hb.size,fun i hi hn=>⟨hb.block i hi,hn⟩,hb.os,hb.tape,hb.output⟩⟩
end
end Lf

namespace Lf
open Go Go.Proofs
section
variable {h:Hp}
theorem zlh1 {s:ByteArray} {Q:Nat→Leaf→Hp→Prop} (e:AEnv h) (ee:EEnv h) (hs:s.size≤281474976710656) (hq:∀(f:Nat) (er:Leaf) h',h≤h'→Q f er h'):zey Tryz.prog s (64:Int) Q h:=by
 unfold zey
 have fin:∀(f:Nat) (er:Leaf) (h1:Hp),h≤h1→ErK er→((isIfV er.v)=true∧(if (!(zcg er.v))=true then
   CallT Tryz.prog zcu [(.string ⟨#[80,97,114,115,101,70,108,111,97,116]⟩),(.string s),(.int .i64 (0:Int)),(.int .i64 (64:Int)),er.v] zah (fun r2 h2=>EncW zah r2.v fun e=>Q f e h2) h1
   else EncW zah .nilIface fun e=>Q f e h1)):=by
  rintro f er h1 hl (he | ⟨k,hk,he⟩)
  ·rw [he]
   exact ⟨rfl,iteF (by decide) (encN (hq _ _ _ hl))⟩
  ·rw [he]
   exact ⟨rfl,iteT rfl (znc1 (ee.mono hl) hs hk fun er=>encL (hq _ _ _ hl))⟩
 refine zhk ?_
 unfold zet
 refine zeq ?_
 unfold zcs
 refine iteF (by decide) (zjy (zbq2 e (by omega) fun f n er h1 hl he=>encL ?_))
 exact iteB (fun _=>encE (fin _ _ _ hl (zvv (.inr rfl)))) fun _=>encL (fin _ _ _ hl he)
theorem zli1 {s:ByteArray} {f:Nat} {Q:Nat→Leaf→Hp→Prop} (ha:∀ {Q':Nat→Int→Leaf→Hp→Prop},(∀(er:Leaf) h',h≤h'→er.v=.nilIface→Q' f (s.size:Int) er h')→zam Tryz.prog s Q' h)
  (hk:∀(er:Leaf) h',h≤h'→Q f er h'):zey Tryz.prog s (64:Int) Q h:=by
 unfold zey
 refine zhk ?_
 unfold zet
 refine zeq ?_
 unfold zcs
 refine iteF (by decide) (zjy (ha fun er h1 hl he=>encL (iteF (fun hh=>bne_iff_ne.1 hh rfl) (encL ?_))))
 dsimp only
 rw [he]
 exact ⟨rfl,iteF (by decide) (encN (hk _ _ hl))⟩
def TxtAt (h:Hp) (b:Nat) (s:ByteArray):Prop:=∀i,i<s.size→hcell h ⟨b,i,none⟩=some (.int .u8 (((UInt8.toNat (List.getD s.data.toList i 0)):Nat):Int))
theorem zgk2 {s:ByteArray} {b:Nat} {t:_} {m:_} {zs:List Value}:TxtAt (h.set b (.cells (zex s++zs).toArray t m)) b s:=fun i hi=>by
 have hl:s.data.toList.length=s.size:=by rw [Array.length_toList];rfl
 unfold hcell
 rw [zen]
 simp [zex,List.getElem?_append_left,hl,hi,List.getD]
theorem zzl1 {s:ByteArray} {b:Nat} {i:Int} {K:Int→Prop} (r:TxtAt h b s) (h0:0≤i) (h1:i<(s.size:Int)) (hk:K (((UInt8.toNat (List.getD s.data.toList (Int.toNat i) 0)):Nat):Int)):
  InB (some ⟨b,0,none⟩) s.size i∧LdW none (shInt .u8) h (sat (some ⟨b,0,none⟩) 1 i) K:=by
 refine ⟨⟨by simp,h0,h1⟩,ld_c (sh:=shInt .u8) _ (zum ?_) hk⟩
 unfold sat
 rw [Option.getD_some,box_add,Nat.zero_add,Nat.mul_one]
 exact r i.toNat (by omega)
theorem zps1 {s:ByteArray} {Q:Int→Leaf→Hp→Prop} (hs:s.size<4611686018427387904) (hq:∀(n:Int) (er:Leaf) h',h≤h'→U64 n→ErK er→Q n er h'):zby Tryz.prog s (16:Int) (64:Int) Q h:=by
 unfold zby
 have z:U64 0:=⟨0,rfl,by decide⟩
 refine iteB (fun _=>encE (hq _ _ h (Hp.le_refl h) z (zvv (.inr rfl)))) fun _=> ?_
 refine JoinW2.direct (letW (iteT (by decide) (JoinW1.direct (iteF (by decide) (letW (iteF (by decide) (JoinW1.direct (iteF (by decide) (iteT (by decide) ⟨by decide,?_⟩)))))))))
 intro c b t hc hb
 have hle:=zki (o:=.cells (zex s++zbo [.int .u8 0] (c-s.size)).toArray t (c,c+1)) hb
 have tx:TxtAt (h.set b (.cells (zex s++zbo [.int .u8 0] (c-s.size)).toArray t (c,c+1))) b s:=zgk2
 generalize h.set b (.cells (zex s++zbo [.int .u8 0] (c-s.size)).toArray t (c,c+1))=H at*
 refine LoopW3.intro (fun us n i k=>k=H∧us=false∧U64 n∧0≤i) (fun _ _ i _=>(s.size-i).toNat) ⟨rfl,rfl,z,by decide⟩ ?_
 rintro _ n i H ⟨rfl,rfl,hn,i0⟩
 refine iteB (fun hi=> ?_) fun _=>effF rfl true (letW (iteF (by decide) (encN (hq _ _ _ hle hn zef1))))
 have hi:i<(s.size:Int):=of_decide_eq_true hi
 refine JoinW2.intro (fun us n k=>k=H∧us=false∧U64 n) (zzl1 tx i0 hi ?_) ?_
 ·generalize (((UInt8.toNat (List.getD s.data.toList (Int.toNat i) 0)):Nat):Int)=x
  refine JoinW2.intro (fun us _ k=>k=H∧us=false) (letW (iteF ?_ (letW (iteB (fun _=>⟨rfl,rfl⟩) fun _=>lowC fun r1=>lowE fun r2=>letW (iteB (fun _=>lowC fun r3=>⟨rfl,rfl⟩) fun _=>encE (hq _ _ _ hle z (zvv (.inr rfl)))))))) ?_
  ·rw [Bool.and_eq_true]
   rintro ⟨_,e⟩
   exact absurd e (by decide)
  rintro _ d k ⟨rfl,rfl⟩
  exact iteB (fun _=>encE (hq _ _ _ hle z (zvv (.inr rfl)))) fun _=>iteB (fun _=>encE (hq _ _ _ hle (zsu _) (zvv (.inl rfl)))) fun _=>letW (iteB (fun _=>encE (hq _ _ _ hle (zsu _) (zvv (.inl rfl)))) fun _=>⟨rfl,rfl,zsu _⟩)
 rintro _ n k ⟨rfl,rfl,hn⟩
 rw [zad (n:=i+1) (by omega) (by omega)]
 exact ⟨⟨rfl,rfl,hn,by omega⟩,by omega⟩
theorem hexF :∀d,d<16→hexD d<256∧((hexD d<58→48≤hexD d∧IntKind.wrap .u8 ((hexD d:Int)-48)=(d:Int))∧(¬hexD d<58→bitsI .or .u8 (hexD d:Int) 32=(hexD d:Int)∧97≤hexD d∧hexD d≤122∧IntKind.wrap .u8 (IntKind.wrap .u8 ((hexD d:Int)-97)+10)=(d:Int))):=by decide
theorem zpt1 {w:Nat} {Q:Int→Leaf→Hp→Prop} (hw:w<18446744073709551616) (hq:∀(er:Leaf) h',h≤h'→er.v=.nilIface→Q (w:Int) er h'):zby Tryz.prog (strN (hexL w)) (16:Int) (64:Int) Q h:=by
 unfold zby
 have hlen:=zst w
 have hat:=fun {i:Nat} (hi:i<16)=>zkd1 (n:=w) hi
 have hsz:(strN (hexL w)).size=16:=by rw [zan];exact hlen
 have hch:∀ {i:Nat},i<16→UInt8.toNat (List.getD (strN (hexL w)).data.toList i 0)=hexD (w / 16^(15-i)%16):=fun {i} hi=>zss (hat hi) (hexF _ (Nat.mod_lt _ (by decide))).1
 generalize strN (hexL w)=S at*
 refine iteF (zze1 fun e=>by rw [e] at hsz;cases hsz) ?_
 refine JoinW2.direct (letW (iteT (by decide) (JoinW1.direct (iteF (by decide) (letW (iteF (by decide) (JoinW1.direct (iteF (by decide) (iteT (by decide) ⟨by decide,?_⟩)))))))))
 intro c b t hc hb
 have hle:=zki (o:=.cells (zex S++zbo [.int .u8 0] (c-S.size)).toArray t (c,c+1)) hb
 have tx:TxtAt (h.set b (.cells (zex S++zbo [.int .u8 0] (c-S.size)).toArray t (c,c+1))) b S:=zgk2
 generalize h.set b (.cells (zex S++zbo [.int .u8 0] (c-S.size)).toArray t (c,c+1))=H at*
 refine LoopW3.intro (fun us n i k=>k=H∧us=false∧∃j:Nat,j≤16∧i=(j:Int)∧n=((w / 16^(16-j):Nat):Int)) (fun _ _ i _=>(16-i).toNat) ⟨rfl,rfl,0,by omega,rfl,by rw [Nat.div_eq_of_lt (by exact hw)];rfl⟩ ?_
 rintro _ _ _ H ⟨rfl,rfl,j,hj,rfl,rfl⟩
 by_cases hj16:j<16
 ·refine iteT (decide_eq_true (by show (j:Int)<(S.size:Int);omega)) ?_
  have hd:w / 16^(15-j)%16<16:=Nat.mod_lt _ (by decide)
  have hstep:w / 16^(15-j)=w / 16^(16-j)*16+w / 16^(15-j)%16:=by
   rw [show 16-j=15-j+1 by omega,Nat.pow_succ,←Nat.div_div_eq_div_mul]
   omega
  have hlt:w / 16^(15-j)<18446744073709551616:=Nat.lt_of_le_of_lt (Nat.div_le_self _ _) hw
  obtain ⟨f0,f1,f2⟩:=hexF _ hd
  have hz:=hch hj16
  generalize hd':w / 16^(15-j)%16=d at*
  generalize hm1:w / 16^(15-j)=m1 at*
  generalize hm:w / 16^(16-j)=m at*
  refine JoinW2.intro (fun us n k=>k=H∧us=false∧n=((m*16+d:Nat):Int)) (zzl1 tx (by omega) (by omega) ?_) ?_
  ·rw [Int.toNat_natCast,hz]
   refine JoinW2.intro (fun us d' k=>k=H∧us=false∧d'=(d:Int)) (letW (iteF ?_ (letW ?_))) ?_
   ·rw [Bool.and_eq_true]
    rintro ⟨_,e⟩
    exact absurd e (by decide)
   ·by_cases h58:hexD d<58
    ·obtain ⟨g1,g2⟩:=f1 h58
     refine iteT ?_ ⟨rfl,rfl,g2⟩
     rw [decide_eq_true (show (48:Int)≤((hexD d:Nat):Int) by omega),decide_eq_true (show ((hexD d:Nat):Int)≤57 by omega)];rfl
    ·obtain ⟨g1,g2,g3,g4⟩:=f2 h58
     refine iteF ?_ (zau (zun ?_))
     ·rw [Bool.and_eq_true]
      rintro ⟨_,e⟩
      have:((hexD d:Nat):Int)≤57:=of_decide_eq_true e
      omega
     rw [g1,decide_eq_true (show (97:Int)≤(hexD d:Int) by omega)]
     refine effT (zau (zun ?_))
     rw [g1]
     refine letW (iteT ?_ (zau (zun ?_)))
     ·rw [decide_eq_true (show (hexD d:Int)≤122 by omega)];rfl
     ·rw [g1]
      exact ⟨rfl,rfl,g4⟩
   rintro _ _ k ⟨rfl,rfl,rfl⟩
   have w16:IntKind.wrap .u8 (16:Int)=16:=by decide
   have w64:IntKind.wrap .u64 (16:Int)=16:=by decide
   have wd:IntKind.wrap .u64 (d:Int)=(d:Int):=by rw [zal];omega
   have wm:IntKind.wrap .u64 ((m:Int)*16)=(m:Int)*16:=by rw [zal];omega
   have wt:IntKind.wrap .u64 ((m:Int)*16+(d:Int))=(m:Int)*16+(d:Int):=by rw [zal];omega
   have wx:IntKind.wrap .u64 ((shlI .u64 (1:Int) (IntKind.wrap .u64 (64:Int)))-(1:Int))=18446744073709551615:=by decide
   rw [w16,w64,wd,wm,wt,wx]
   refine iteF (fun hh=>by have:(d:Int)≥16:=of_decide_eq_true hh;omega) (iteF (fun hh=>by have:(m:Int)≥1152921504606846976:=of_decide_eq_true hh;omega) (letW (iteF (fun hh=> ?_) ⟨rfl,rfl,by omega⟩)))
   rw [Bool.or_eq_true] at hh
   rcases hh with hh | hh
   ·have:(m:Int)*16+(d:Int)<(m:Int)*16:=of_decide_eq_true hh
    omega
   ·have:(m:Int)*16+(d:Int)>18446744073709551615:=of_decide_eq_true hh
    omega
  rintro _ _ k ⟨rfl,rfl,rfl⟩
  rw [zad (n:=(j:Int)+1) (by omega) (by omega)]
  refine ⟨⟨rfl,rfl,j+1,hj16,by omega,?_⟩,by omega⟩
  rw [show 16-(j+1)=15-j by omega,hm1]
  omega
 ·refine iteF (fun hh=>hj16 (by have:(j:Int)<(S.size:Int):=of_decide_eq_true hh;omega)) (effF rfl true (letW (iteF (by decide) (encN ?_))))
  have:j=16:=by omega
  subst this
  rw [Nat.sub_self,Nat.pow_zero,Nat.div_one]
  exact hq _ _ hle rfl
end
end Lf

namespace Lf
open Go Go.Proofs
structure VEnv (h:Hp):Prop where
 pe:PEnv h
 ae:AEnv h
 ee:EEnv h
theorem VEnv.mono {h h':Hp} (e:VEnv h) (hl:h≤h'):VEnv h':=⟨e.pe.mono hl,e.ae.mono hl,e.ee.mono hl⟩
section
variable {h:Hp}
theorem zlt2 {f:Nat} {K:Int→Hp→Prop} (hk:K (f:Int) h):SemE Tryz.prog (Extern.MathFloatBits.float64bits #[(.float .f64 f)]) (shInt .u64) K h:=⟨(f:Int),rfl,hk⟩
theorem zfp1 {s p:ByteArray} {Q:ByteArray→Bool→Hp→Prop} (hn:¬(p.size≤s.size∧s.extract 0 p.size=p)→Q s false h) (hy:p.size≤s.size→s.extract 0 p.size=p→Q (s.extract p.size s.size) true h):zml Tryz.prog s p Q h:=by
 unfold zml
 refine zms ?_
 unfold zhi
 refine zmt ?_
 unfold zhj
 refine ⟨fun hh=>⟨by omega,by have:(s.size:Int)≥(p.size:Int):=of_decide_eq_true hh;omega⟩,letW ?_⟩
 rw [Int.toNat_natCast]
 by_cases hc:p.size≤s.size∧s.extract 0 p.size=p
 ·refine iteF ?_ ⟨⟨by omega,by omega⟩,hy hc.1 hc.2⟩
  rw [decide_eq_true (show (s.size:Int)≥(p.size:Int) by omega),hc.2]
  simp
 ·refine iteT ?_ (hn hc)
  rw [Bool.not_eq_true',Bool.and_eq_false_iff]
  by_cases h1:p.size≤s.size
  ·right
   rw [Bool.eq_false_iff]
   exact zze1 fun e=>hc ⟨h1,e⟩
  ·left
   exact decide_eq_false (show ¬(s.size:Int)≥(p.size:Int) by omega)
theorem zlj1 {s:ByteArray} {Q:Int→Leaf→Hp→Prop} (ee:EEnv h) (hs:s.size≤281474976710656) (hq:∀(n:Int) (er:Leaf) h',h≤h'→Q n er h'):zfz Tryz.prog s (16:Int) (64:Int) Q h:=by
 unfold zfz
 refine zib (zps1 (by omega) fun n er h1 hl _ he=> ?_)
 rcases he with he | ⟨k,hk,he⟩
 ·rw [he]
  exact ⟨rfl,iteF (by decide) (encN (hq _ _ _ hl))⟩
 ·rw [he]
  exact ⟨rfl,iteT rfl (znc1 (ee.mono hl) hs hk fun er=>encL (hq _ _ _ hl))⟩
theorem zlk1 {w:Nat} {Q:Int→Leaf→Hp→Prop} (hw:w<18446744073709551616) (hq:∀(er:Leaf) h',h≤h'→Q (w:Int) er h'):zfz Tryz.prog (strN (hexL w)) (16:Int) (64:Int) Q h:=by
 unfold zfz
 refine zib (zpt1 hw fun er h1 hl he=> ?_)
 rw [he]
 exact ⟨rfl,iteF (by decide) (encN (hq _ _ hl))⟩
theorem zbu2 {w:Nat} {out:List Nat} {Q:Nat→Int→Leaf→Hp→Prop} (e:AEnv h) (hw:w<18446744073709551616) (hr:¬9218868437227405312<w%9223372036854775808) (hi:zcd w out) (hk:∀(er:Leaf) h',h≤h'→er.v=.nilIface→Q w (out.length:Int) er h'):
  zam Tryz.prog (strN out) Q h:=by
 have hsg:w=sgn (negD w)+w%9223372036854775808:=by
  unfold sgn negD
  by_cases c:9223372036854775808≤w
  ·rw [decide_eq_true c,if_pos rfl];omega
  ·rw [decide_eq_false c,if_neg (by decide)];omega
 unfold zcd at hi
 rw [if_neg hr] at hi
 split at hi
 ·rename_i c2
  subst hi
  refine zbt2 (neg:=negD w) fun er h1 hl he=> ?_
  rw [c2] at hsg
  rw [←hsg]
  exact hk er h1 hl he
 ·split at hi
  ·rename_i c3
   subst hi
   refine zwi1 (neg:=negD w) e fun er h1 hl he=> ?_
   rw [c3,Nat.add_zero] at hsg
   rw [←hsg]
   exact hk er h1 hl he
  ·refine zbr2 e (by omega) (by omega) hi fun er h1 hl he=> ?_
   rw [←hsg]
   exact hk er h1 hl he
theorem zss1 {w:Nat} {out:List Nat} (hr:¬9218868437227405312<w%9223372036854775808) (hi:zcd w out):∃c,out[0]? =some c∧c<110:=by
 unfold zcd at hi
 rw [if_neg hr] at hi
 split at hi
 ·subst hi
  cases negD w
  ·exact ⟨105,rfl,by decide⟩
  ·exact ⟨45,rfl,by decide⟩
 ·split at hi
  ·subst hi
   cases negD w
   ·exact ⟨48,rfl,by decide⟩
   ·exact ⟨45,rfl,by decide⟩
  ·obtain ⟨c,ds,eneg,xs,v,s,rfl,hc, -⟩:=zto (by omega) (by omega) hi
   cases negD w
   ·exact ⟨c,rfl,by omega⟩
   ·exact ⟨45,rfl,by decide⟩
end
end Lf

namespace Lf
open Go Go.Proofs
section
variable {h:Hp}
def nanT :ByteArray:=⟨#[110,97,110,58]⟩
theorem zgl2 {t:ByteArray} (hs:nanT.size≤t.size) (he:t.extract 0 nanT.size=nanT):(t.data.toList.getD 0 0).toNat=110:=by
 have h4:4≤t.size:=hs
 have e1:(t.extract 0 nanT.size).data.toList.getD 0 0=110:=by rw [he];rfl
 rw [ByteArray.data_extract] at e1
 have e2:(t.data.extract 0 nanT.size).toList=(t.data.toList.take 4):=by simp [nanT];rfl
 rw [e2] at e1
 have e3:t.data.toList.getD 0 0=110:=by
  rw [←e1]
  cases t.data.toList<;>rfl
 rw [e3]
 rfl
theorem zst1 {t:ByteArray} {Q:Int→Int→Hp→Prop} (e:VEnv h) (hs:t.size≤281474976710656) (hk:∀h' x er,h≤h'→Said t x er→Q x er h'):zdk1 Tryz.prog t Q h:=by
 unfold zdk1
 by_cases hT:∃w out,w<18446744073709551616∧zcd w out∧t=strN out
 ·obtain ⟨w,out,hw,hi,rfl⟩:=hT
  have fin:∀k,h≤k→CallT Tryz.prog zpf [(.int .i64 (IntKind.wrap .i64 (w:Int)))] shStr (fun r2 h3=>
    (if (!((ByteArray.toList r2)==(ByteArray.toList (strN out))))=true then
    Q (0:Int) (4:Int) h3
    else
    Q (IntKind.wrap .i64 (w:Int)) (0:Int) h3)) k:=fun k hl=>
   zvj (zbk1 (n:=IntKind.wrap .i64 (w:Int)) (w:=w) (zso1 hw) hw (e.pe.mono hl) fun k' out' l' hi'=>by
    rw [zmx1 hi' hi]
    exact iteF (by simp) (hk _ _ _ (Hp.le_trans hl l') (.inl ⟨w,out,hw,hi,rfl,rfl,rfl⟩)))
  by_cases hr:9218868437227405312<w%9223372036854775808
  ·have ho:out=[110,97,110,58]++hexL w:=by
    have:=hi
    unfold zcd at this
    rw [if_pos hr] at this
    exact this
   have hlen:(strN out).size=20:=by rw [zan,ho,List.length_append,zst];rfl
   have e4:(strN out).extract 0 4=nanT:=by rw [zim _ _ _ (by rw [ho,List.length_append,zst];decide),ho];rfl
   have e5:(strN out).extract 4 (strN out).size=strN (hexL w):=by
    rw [zan,zim _ _ _ (Nat.le_refl _),List.take_of_length_le (Nat.le_refl _),ho];rfl
   refine zgg (zfp1 (p:=nanT) (fun hn=>absurd ⟨by rw [hlen];decide,e4⟩ hn) fun _ _=> ?_)
   refine JoinW1.intro (fun u k=>h≤k∧u=(w:Int)) (iteT rfl ?_) ?_
   ·rw [show (strN out).extract nanT.size (strN out).size=strN (hexL w) from e5]
    exact zpd (zlk1 hw fun er h1 hl=>⟨hl,rfl⟩)
   ·rintro _ k ⟨hl,rfl⟩
    exact fin k hl
  ·obtain ⟨c,hc,c110⟩:=zss1 hr hi
   refine zgg (zfp1 (p:=nanT) (fun _=> ?_) fun h1 h2=> ?_)
   ·refine JoinW1.intro (fun u k=>h≤k∧u=(w:Int)) (iteF (by decide) ?_) ?_
    ·refine zod (zli1 (f:=w) (fun {Q'} hq=>zbu2 e.ae hw hr hi fun er h1 hl he=> ?_) fun er h1 hl=>zlt2 ⟨hl,rfl⟩)
     have:=hq er h1 hl he
     rw [zan] at this
     exact this
    ·rintro _ k ⟨hl,rfl⟩
     exact fin k hl
   ·have:=zgl2 h1 h2
    rw [zss hc (by omega)] at this
    omega
 ·have hno:∀w out,w<18446744073709551616→zcd w out→t≠strN out:=fun w out hw hi ht=>hT ⟨w,out,hw,hi,ht⟩
  have fin:∀(u:Int) k,h≤k→CallT Tryz.prog zpf [(.int .i64 (IntKind.wrap .i64 u))] shStr (fun r2 h3=>
    (if (!((ByteArray.toList r2)==(ByteArray.toList t)))=true then
    Q (0:Int) (4:Int) h3
    else
    Q (IntKind.wrap .i64 u) (0:Int) h3)) k:=fun u k hl=>by
   have hb:0≤IntKind.wrap .u64 (IntKind.wrap .i64 u)∧IntKind.wrap .u64 (IntKind.wrap .i64 u)<18446744073709551616:=by rw [zal];omega
   refine zvj (zbk1 (n:=IntKind.wrap .i64 u) (w:=(IntKind.wrap .u64 (IntKind.wrap .i64 u)).toNat) (Int.toNat_of_nonneg hb.1).symm (by omega) (e.pe.mono hl) fun k' out' l' hi'=> ?_)
   refine iteT ?_ (hk _ _ _ (Hp.le_trans hl l') (.inr ⟨hno,rfl,rfl⟩))
   rw [Bool.not_eq_true',Bool.eq_false_iff]
   intro hh
   exact hno _ _ (by omega) hi' (zzd1 hh).symm
  refine zgg (zfp1 (p:=nanT) (fun _=> ?_) fun h1 h2=> ?_)
  ·refine JoinW1.intro (fun u k=>h≤k) (iteF (by decide) ?_) fun u k hl=>fin u k hl
   exact zod (zlh1 e.ae e.ee hs fun f er h1 hl=>zlt2 hl)
  ·refine JoinW1.intro (fun u k=>h≤k) (iteT rfl ?_) fun u k hl=>fin u k hl
   exact zpd (zlj1 e.ee (by rw [ByteArray.size_extract];omega) fun n er h1 hl=>hl)
end
end Lf

namespace Lf
open Go Go.Proofs
theorem zsu1 {x:Nat}:∀ {a b c d:List Nat},x∉a→x∉c→a++x::b=c++x::d→a=c∧b=d
 | [],b,[],d,_,_,h=>by
  rw [List.nil_append,List.nil_append] at h
  exact ⟨rfl,(List.cons.inj h).2⟩
 | [],b,y::c,d,_,hc,h=>by
  rw [List.nil_append,List.cons_append] at h
  exact absurd (List.mem_cons.2 (.inl (List.cons.inj h).1)) hc
 | y::a,b,[],d,ha,_,h=>by
  rw [List.nil_append,List.cons_append] at h
  exact absurd (List.mem_cons.2 (.inl (List.cons.inj h).1.symm)) ha
 | y::a,b,z::c,d,ha,hc,h=>by
  rw [List.cons_append,List.cons_append] at h
  obtain ⟨e1,e2⟩:=List.cons.inj h
  obtain ⟨e3,e4⟩:=zsu1 (fun hm=>ha (List.mem_cons.2 (.inr hm))) (fun hm=>hc (List.mem_cons.2 (.inr hm))) e2
  exact ⟨by rw [e1,e3],e4⟩
theorem zlu2 {c:Nat} {ds:List Nat} (hc:49≤c∧c<58) (hd:Digs ds):101∉manL c ds:=by
 unfold manL
 intro hm
 rcases List.mem_cons.1 hm with e | hm
 ·omega
 ·split at hm
  ·cases hm
  ·rcases List.mem_cons.1 hm with e | hm
   ·omega
   ·have:=hd _ hm
    omega
theorem znw2 {n1 n2 e1 e2:Bool} {c1 c2:Nat} {d1 d2 x1 x2:List Nat} (hc1:49≤c1∧c1<58) (hc2:49≤c2∧c2<58) (hd1:Digs d1) (hd2:Digs d2) (hx1:Digs x1) (hx2:Digs x2) (h1:1≤x1.length) (h2:1≤x2.length)
  (h:fltL n1 c1 d1 e1 x1=fltL n2 c2 d2 e2 x2):n1=n2∧c1=c2∧d1=d2∧e1=e2∧x1=x2:=by
 have hn:n1=n2∧manL c1 d1++101::((if e1 then [45] else [])++x1)=manL c2 d2++101::((if e2 then [45] else [])++x2):=by
  unfold fltL at h
  cases n1<;>cases n2
  ·exact ⟨rfl,h⟩
  ·have:c1=45:=(List.cons.inj h).1
   omega
  ·have:45=c2:=(List.cons.inj h).1
   omega
  ·exact ⟨rfl,(List.cons.inj h).2⟩
 obtain ⟨en,h⟩:=hn
 obtain ⟨hm,hx⟩:=zsu1 (zlu2 hc1 hd1) (zlu2 hc2 hd2) h
 unfold manL at hm
 obtain ⟨ec,hm⟩:=List.cons.inj hm
 have ed:d1=d2:=by
  split at hm
  ·rename_i e
   split at hm
   ·rename_i e';rw [e,e']
   ·cases hm
  ·split at hm
   ·cases hm
   ·exact (List.cons.inj hm).2
 have ex:e1=e2∧x1=x2:=by
  cases x1 with
  | nil=>exact absurd h1 (by decide)
  | cons y1 x1=>
   cases x2 with
   | nil=>exact absurd h2 (by decide)
   | cons y2 x2=>
    have a1:=hx1 y1 (List.mem_cons.2 (.inl rfl))
    have a2:=hx2 y2 (List.mem_cons.2 (.inl rfl))
    cases e1<;>cases e2
    ·exact ⟨rfl,hx⟩
    ·have:y1=45:=(List.cons.inj hx).1
     omega
    ·have:45=y2:=(List.cons.inj hx).1
     omega
    ·exact ⟨rfl,(List.cons.inj hx).2⟩
 exact ⟨en,ec,ed,ex.1,ex.2⟩
theorem zkg2 :∀a,a<16→∀b,b<16→hexD a=hexD b→a=b:=by decide
theorem znx2 {a b:Nat} (ha:a<18446744073709551616) (hb:b<18446744073709551616) (h:hexL a=hexL b):a=b:=by
 have key:∀j,j≤16→a / 16^(16-j)=b / 16^(16-j):=by
  intro j
  induction j with
  | zero=>intro _;rw [Nat.div_eq_of_lt (by exact ha),Nat.div_eq_of_lt (by exact hb)]
  | succ j ih=>
   intro hj
   have ih:=ih (by omega)
   have e:=zkd1 (n:=a) (i:=j) (by omega)
   rw [h,zkd1 (by omega)] at e
   have hd:=zkg2 _ (Nat.mod_lt _ (by decide)) _ (Nat.mod_lt _ (by decide)) (Option.some.inj e)
   have sp:∀n:Nat,n / 16^(15-j)=n / 16^(16-j)*16+n / 16^(15-j)%16:=fun n=>by
    rw [show 16-j=15-j+1 by omega,Nat.pow_succ,←Nat.div_div_eq_div_mul]
    omega
   rw [show 16-(j+1)=15-j by omega,sp a,sp b,ih,hd]
 have:=key 16 (Nat.le_refl _)
 rw [Nat.sub_self,Nat.pow_zero,Nat.div_one,Nat.div_one] at this
 exact this
theorem zlv2 (w:Nat) (hw:w<18446744073709551616):w=sgn (negD w)+w%9223372036854775808:=by
 unfold sgn negD
 by_cases c:9223372036854775808≤w
 ·rw [decide_eq_true c,if_pos rfl];omega
 ·rw [decide_eq_false c,if_neg (by decide)];omega
def KindT (w:Nat) (out:List Nat):Prop:=
 (w%9223372036854775808=9218868437227405312∧out=infL (negD w))∨(w%9223372036854775808=0∧out=zeroL (negD w))∨
  (0<w%9223372036854775808∧w%9223372036854775808<9218868437227405312∧TextF (w%9223372036854775808) (negD w) out)
theorem zgm2 {w:Nat} {out:List Nat} (hr:¬9218868437227405312<w%9223372036854775808) (hi:zcd w out):KindT w out:=by
 unfold zcd at hi
 rw [if_neg hr] at hi
 split at hi
 ·rename_i c;exact .inl ⟨c,hi⟩
 ·split at hi
  ·rename_i c;exact .inr (.inl ⟨c,hi⟩)
  ·exact .inr (.inr ⟨by omega,by omega,hi⟩)
theorem zkh2 {r:Nat} {neg:Bool} {out:List Nat} (h1:0<r) (h2:r<9218868437227405312) (ht:TextF r neg out):∃c l,out=(if neg then [45] else [])++c::l∧49≤c∧c<58:=by
 obtain ⟨c,ds,eneg,xs,v,s,rfl,hc, -⟩:=zto h1 h2 ht
 exact ⟨c,_,rfl,hc⟩
theorem zki2 {n1 n2:Bool} {a b:Nat} {l m:List Nat} (ha:a≠45) (hb:b≠45) (h:(if n1 then [45] else [])++a::l=(if n2 then [45] else [])++b::m):n1=n2∧a=b∧l=m:=by
 cases n1<;>cases n2
 ·obtain ⟨e1,e2⟩:=List.cons.inj h
  exact ⟨rfl,e1,e2⟩
 ·exact absurd (List.cons.inj h).1 ha
 ·exact absurd (List.cons.inj h).1.symm hb
 ·obtain ⟨e1,e2⟩:=List.cons.inj (List.cons.inj h).2
  exact ⟨rfl,e1,e2⟩
theorem zsv1 {w:Nat} {out:List Nat} (h:KindT w out):∃c l,out=(if negD w then [45] else [])++c::l∧c≠45∧((c=105∧w%9223372036854775808=9218868437227405312)∨(c=48∧w%9223372036854775808=0)∨(49≤c∧c<58∧0<w%9223372036854775808∧w%9223372036854775808<9218868437227405312∧TextF (w%9223372036854775808) (negD w) out)):=by
 rcases h with ⟨e,rfl⟩ | ⟨e,rfl⟩ | ⟨h1,h2,ht⟩
 ·exact ⟨105,_,rfl,by decide,.inl ⟨rfl,e⟩⟩
 ·exact ⟨48,_,rfl,by decide,.inr (.inl ⟨rfl,e⟩)⟩
 ·obtain ⟨c,l,e,c1,c2⟩:=zkh2 h1 h2 ht
  exact ⟨c,l,e,by omega,.inr (.inr ⟨c1,c2,h1,h2,ht⟩)⟩
theorem zkj2 {a b:Nat} {out:List Nat} (ha:a<18446744073709551616) (hb:b<18446744073709551616) (h1:zcd a out) (h2:zcd b out):a=b:=by
 have hd:∀ {w:Nat},zcd w out→(out[0]? =some 110∧out=[110,97,110,58]++hexL w)∨(¬9218868437227405312<w%9223372036854775808∧∃c,out[0]? =some c∧c<110):=fun {w} hi=>by
  by_cases hr:9218868437227405312<w%9223372036854775808
  ·have:=hi
   unfold zcd at this
   rw [if_pos hr] at this
   exact .inl ⟨by rw [this];rfl,this⟩
  ·exact .inr ⟨hr,zss1 hr hi⟩
 rcases hd h1 with ⟨f1,e1⟩ | ⟨r1,c1,f1,g1⟩<;>rcases hd h2 with ⟨f2,e2⟩ | ⟨r2,c2,f2,g2⟩
 ·rw [e1] at e2
  exact znx2 ha hb (List.append_cancel_left e2)
 ·rw [f1] at f2
  have:=Option.some.inj f2
  omega
 ·rw [f1] at f2
  have:=Option.some.inj f2
  omega
 ·obtain ⟨x,l,ex,x45,kx⟩:=zsv1 (zgm2 r1 h1)
  obtain ⟨y,m,ey,y45,ky⟩:=zsv1 (zgm2 r2 h2)
  have eo:=ex.symm.trans ey
  obtain ⟨en,exy, -⟩:=zki2 x45 y45 eo
  rw [zlv2 a ha,zlv2 b hb,en]
  congr 1
  rcases kx with ⟨p,q⟩ | ⟨p,q⟩ | ⟨p,p',q1,q2,q⟩<;>rcases ky with ⟨p2,u⟩ | ⟨p2,u⟩ | ⟨p2,p2',u1,u2,u⟩
  ·rw [q,u]
  ·omega
  ·omega
  ·omega
  ·rw [q,u]
  ·omega
  ·omega
  ·omega
  ·obtain ⟨c,ds,eneg,xs,v,s,e1,hc,hds, -,hxs,x1, -,ev,es, -, -, -, -,he⟩:=zto q1 q2 q
   obtain ⟨c',ds',eneg',xs',v',s',e1',hc',hds', -,hxs',x1', -,ev',es', -, -, -, -,he'⟩:=zto u1 u2 u
   obtain ⟨-,rfl,rfl,rfl,rfl⟩:=znw2 hc hc' hds hds' hxs hxs' x1 x1' (e1.symm.trans e1')
   subst ev
   subst es
   subst ev'
   subst es'
   have i1:=zgr1 q1 q2
   have i2:=zgr1 u1 u2
   rw [←he] at i1
   rw [←he'] at i2
   exact zfd2 q1 u1 i1 i2
theorem zsw1 {x:List Nat} (h:∀z∈x,z<128):(strN x).data.toList.map UInt8.toNat=x:=by
 rw [zgy,List.map_map]
 have:x.map (UInt8.toNat ∘ UInt8.ofNat)=x.map id:=List.map_congr_left fun z hz=>by
  show (UInt8.ofNat z).toNat=z
  rw [UInt8.toNat_ofNat']
  exact Nat.mod_eq_of_lt (by have:=h z hz;omega)
 rw [this,List.map_id]
theorem zkk2 {a b:Nat} {x y:List Nat} (ha:a<18446744073709551616) (hb:b<18446744073709551616) (h1:zcd a x) (h2:zcd b y) (h:strN x=strN y):a=b:=by
 have e1:=zsw1 (zpx h1).2
 rw [h,zsw1 (zpx h2).2] at e1
 subst e1
 exact zkj2 ha hb h1 h2
end Lf



namespace Lf
open Go Go.Proofs Go.ChangeShapes Go.WideShapes Go.ChangeAt Go.RowKit
abbrev fltLaid :List (String×DataW Unit):=YtgmfbapkfjemnaaGreatDoor.Rows.fltReturnsUptoRow.laid
theorem star : "*" ++ "errors.errorString" = "*errors.errorString" :=by decide
theorem zph2 (u:TypeId) (h:Tryz.prog.typeName? 3 u=some "*errors.errorString"):u=202:=
 typeName_ptr_named (nm:= "errors.errorString") (by rw [star];kernel_rfl) (by kernel_rfl) (by decide) u (by rw [star];exact h)
def dbL :List Int:=[0,1,56,2,57,49,28,3,61,58,42,50,38,29,17,4,62,47,59,36,45,43,51,22,53,39,33,30,24,18,12,5,63,55,48,27,60,41,37,16,46,35,44,21,52,32,23,11,54,26,40,15,34,20,31,10,25,14,19,9,13,8,7,6]
theorem zkl2 :∀k,k<61→Go.Pinned.cheatRows[k]? =some (newD k,(fiveL k).map UInt8.ofNat):=by decide+kernel
theorem env_laid {W:World} (h:laidMetH Tryz.prog fltLaid W):VEnv (whole W):=by
 rw [MakeChecks.laidMetH_plain _ _ _ (by kernel_rfl)] at h
 have h1:=h.tail
 have h2:=h1.tail
 have h3:=h2.tail
 have h4:=h3.tail
 have h5:=h4.tail
 have h6:=h5.tail
 have h8:=h6.tail.tail
 have h9:=h8.tail
 have h10:=h9.tail
 have h11:=h10.tail
 have h12:=h11.tail
 have i0:LdIs (whole W) ⟨7,0,none⟩ [.int .u64 52]:=zfz1 (j:=0) rfl h3 (by kernel_rfl) (by kernel_rfl) Tryz.underlying213 rfl rfl (by kernel_rfl) (by kernel_rfl)
 have i1:LdIs (whole W) ⟨7,1,none⟩ [.int .u64 11]:=zfz1 (j:=1) rfl h3 (by kernel_rfl) (by kernel_rfl) Tryz.underlying213 rfl rfl (by kernel_rfl) (by kernel_rfl)
 have i2:LdIs (whole W) ⟨7,2,none⟩ [.int .i64 (-1023)]:=zfz1 (j:=2) rfl h3 (by kernel_rfl) (by kernel_rfl) Tryz.underlying213 rfl rfl (by kernel_rfl) (by kernel_rfl)
 have fe:FEnv (whole W):=by
  refine ⟨?_,?_,?_,i0,?_⟩
  ·exact zam2 (g:=8) h12 (by kernel_rfl) (by kernel_rfl) Tryz.underlying229 Tryz.underlying228 rfl rfl rfl rfl rfl rfl (by kernel_rfl) (by kernel_rfl) (by kernel_rfl)
  ·have h8':laidMet Tryz.prog (("internal/strconv.uint64pow10",.agg (((List.range 20).map fun k=>((10^k:Nat):Int)).map fun x=>.lit (.int .u64 x)))::_) W:=h8
   have:=zqz1 (g:=5) h8' (by kernel_rfl) (by kernel_rfl) Tryz.underlying182 Tryz.underlying51 (by kernel_rfl) (by kernel_rfl)
   rw [List.map_map] at this
   exact this
  ·exact zeb2 (g:=2) h4 (by kernel_rfl) (by kernel_rfl) Tryz.underlying4
  ·have h6':laidMet Tryz.prog (("internal/strconv.float64pow10",.slice (pow10F.map fun x=>.lit (.float .f64 x)) [])::_) W:=h6
   exact zut1 (g:=12) h6' (by kernel_rfl) (by kernel_rfl) Tryz.underlying240 Tryz.underlying48 (by kernel_rfl)
 have tz:LdIs (whole W) ⟨14,15,none⟩ [.int .u8 4]:=by
  have h1':laidMet Tryz.prog (("math/bits.deBruijn64tab",.agg (dbL.map fun x=>.lit (.int .u8 x)))::_) W:=h1
  have:=zqz1 (g:=14) h1' (by kernel_rfl) (by kernel_rfl) Tryz.underlying242 Tryz.underlying5 (by kernel_rfl) (by kernel_rfl)
  intro i v hv
  cases i with
  | zero=>
   cases hv
   have:=this 15 _ rfl
   rw [box_add] at this
   rw [box_add]
   exact this
  | succ i=>simp at hv
 have err:∀ {n:String} {text:List UInt8} {r:List (String×DataW Unit)} {g:Nat},laidMet Tryz.prog ((n,.iface "*errors.errorString" (.ptr (.agg [.lit (.string text)])))::r) W→Tryz.prog.globalNamed n=some g→(Tryz.prog.globals[g]?).map (·.type)=some 56→∃te pe,LdIs (whole W) ⟨g,0,none⟩ [.iface te pe]:=fun {n text r g} hl hg ht=>by
  obtain ⟨a0,s0,hv0, -, -, -⟩:=laid_sentinel hl hg ht Tryz.underlying56 zph2 Tryz.underlying202 Tryz.underlying204 rfl rfl Tryz.underlying9 (by kernel_rfl) (by kernel_rfl)
  refine ⟨202,.pointer (some a0),fun i v e=> ?_⟩
  cases i with
  | succ i=>simp at e
  | zero=>
   cases e
   have h0:=World.var?_cell hg hv0 0
   rw [zmj,box_add]
   simpa using h0
 refine ⟨⟨fe,tz⟩,⟨fe,⟨⟨zyg1 h3 (by kernel_rfl) (by kernel_rfl) Tryz.underlying213 (of_decide_eq_true (by kernel_rfl)),i0,i1,i2,zyg1 h2 (by kernel_rfl) (by kernel_rfl) Tryz.underlying213 (of_decide_eq_true (by kernel_rfl))⟩,?_,?_⟩⟩,⟨err h10 (by kernel_rfl) (by kernel_rfl),err h9 (by kernel_rfl) (by kernel_rfl)⟩⟩
 ·have h11':laidMet Tryz.prog (("internal/strconv.leftcheats",.slice (Go.Pinned.cheatRows.map fun x=>.agg [.lit (.int .i64 x.1),.lit (.string x.2)]) [])::_) W:=h11
  obtain ⟨a,c,e1,e2⟩:=zao2 (g:=9) h11' (by kernel_rfl) (by kernel_rfl) Tryz.underlying233 Tryz.underlying232 rfl rfl rfl rfl rfl rfl Tryz.underlying3 Tryz.underlying9 (by kernel_rfl) (by kernel_rfl) (by kernel_rfl)
  have hlen:Go.Pinned.cheatRows.length=61:=by decide+kernel
  rw [hlen] at e1
  exact ⟨a,c,e1,fun k hk=>e2 k _ (zkl2 k hk)⟩
 ·have h5':laidMet Tryz.prog (("internal/strconv.powtab",.slice (powL.map fun x=>.lit (.int .i64 x)) [])::_) W:=h5
  exact zuv1 (g:=11) h5' (by kernel_rfl) (by kernel_rfl) Tryz.underlying239 Tryz.underlying3 (by kernel_rfl)
theorem own :ownKnob Tryz.prog.godebug=none:=by kernel_rfl
theorem laidOut :laidOutB Tryz.prog=true:=by kernel_rfl
theorem laid_met (os:Os) (args:Array Value):laidMetH Tryz.prog fltLaid ((World.laidAll Tryz.prog os fltLaid).forCall (fun _ _=>0) ⟨#[],args,[]⟩).memory:=by
 rw [MakeChecks.laidMetH_plain _ _ _ (by kernel_rfl)]
 exact laidMet_laidAll args (by kernel_rfl) (by kernel_rfl)
end Lf

namespace Lf
open Go
def bB (l:List Nat):List UInt8:=l.map UInt8.ofNat
def decB (v:Int):List UInt8:=bB (signL v++decL v.natAbs)
def InI (v:Int):Prop:= -9223372036854775808≤v∧v<9223372036854775808
theorem zpu1 {z:Nat} (h:z<256):(UInt8.ofNat z).toNat=z:=by
 rw [UInt8.toNat_ofNat']
 exact Nat.mod_eq_of_lt h
theorem zgn2 :∀(zs:List Nat) (n:Nat),n≤zs.foldl (fun n z=>10*n+(z-48)) n
 | [],_=>Nat.le_refl _
 | z::zs,n=>Nat.le_trans (by omega) (zgn2 zs (10*n+(z-48)))
theorem zzm1 {M:Nat} (hM:M≤18446744073709551615):∀(zs:List Nat) (acc:Nat),(∀z∈zs,48≤z∧z<58)→zs.foldl (fun n z=>10*n+(z-48)) acc≤M→Lib.parseUintM M acc (bB zs)=.ok (zs.foldl (fun n z=>10*n+(z-48)) acc)
 | [],_,_,_=>rfl
 | z::zs,acc,hz,hf=>by
  obtain ⟨z0,z1⟩:=hz z (List.mem_cons_self ..)
  have hg:=zgn2 zs (10*acc+(z-48))
  rw [List.foldl_cons] at hf ⊢
  have e:acc*10+(z-48)=10*acc+(z-48):=by omega
  show (if 48≤(UInt8.ofNat z).toNat∧(UInt8.ofNat z).toNat≤57 then _ else _)=_
  rw [zpu1 (by omega),if_pos ⟨z0,by omega⟩,if_neg (by omega),e,if_neg (by omega)]
  exact zzm1 hM zs _ (fun x hx=>hz x (List.mem_cons_of_mem _ hx)) hf
theorem zsx1 {n:Nat} (h:n<18446744073709551616):Lib.parseUintB 64 (bB (decL n))=.ok n:=by
 have hl:1≤(decL n).length:=by rw [zmi];exact zli _
 unfold Lib.parseUintB
 rw [if_neg (by intro e;have:=congrArg List.length e;unfold bB at this;rw [List.length_map] at this;simp at this;rw [this] at hl;simp at hl)]
 obtain ⟨M,hM⟩:∃M,M=2^64-1:=⟨_,rfl⟩
 have e:=zid1 n
 unfold numV at e
 rw [←hM,zzm1 (by omega) _ _ (zwy n) (by rw [e];omega),e]
theorem zsy1 {v:Int} (h:InI v):Lib.parseIntB 64 (decB v)=.ok v:=by
 obtain ⟨h0,h1⟩:=h
 have hm:=zsx1 (n:=v.natAbs) (by omega)
 unfold decB signL
 by_cases hn:v<0
 ·rw [if_pos hn]
  have e:bB ([45]++decL v.natAbs)=45::bB (decL v.natAbs):=rfl
  rw [e]
  unfold Lib.parseIntB
  have h45:(45:UInt8).toNat=45:=rfl
  simp only [h45]
  rw [if_pos (Or.inr trivial),hm]
  show (if ¬True∧2^(64-1)≤v.natAbs then _ else _)=_
  rw [if_neg (by simp),if_neg (by rintro ⟨-,hh⟩;omega),if_pos trivial]
  congr 1
  omega
 ·rw [if_neg hn,List.nil_append]
  have hl:1≤(decL v.natAbs).length:=by rw [zmi];exact zli _
  have hd:=zwy v.natAbs
  cases hq:decL v.natAbs with
  | nil=>rw [hq] at hl;simp at hl
  | cons z zs=>
   rw [hq] at hm hd
   obtain ⟨z0,z1⟩:=hd z (List.mem_cons_self ..)
   have e:bB (z::zs)=UInt8.ofNat z::bB zs:=rfl
   rw [e] at hm ⊢
   unfold Lib.parseIntB
   have hz:=zpu1 (z:=z) (by omega)
   simp only [hz]
   rw [if_neg (by omega),hm]
   show (if ¬(z=45)∧2^(64-1)≤v.natAbs then _ else _)=_
   rw [if_neg (by intro hh;have:=hh.2;omega),if_neg (by omega),if_neg (by omega)]
   congr 1
   omega
def intV (s:List UInt8):Option Int:=match Lib.parseIntB 64 s with
 | .ok v=>if decB v=s then some v else none
 | _=>none
theorem zwj1 {s:List UInt8} {v:Int} (h:Lib.parseIntB 64 s=.ok v):InI v:=by
 unfold Lib.parseIntB at h
 split at h
 ·cases h
 ·rename_i c r
  simp only at h
  split at h
  ·cases h
  ·cases h
  ·rename_i u hu
   by_cases hc:c.toNat=45
   ·rw [if_neg (by simp [hc])] at h
    by_cases h2:2^(64-1)<u
    ·rw [if_pos ⟨hc,h2⟩] at h;cases h
    ·rw [if_neg (fun e=>h2 e.2),if_pos hc] at h
     cases h
     unfold InI
     omega
   ·by_cases h2:2^(64-1)≤u
    ·rw [if_pos ⟨hc,h2⟩] at h;cases h
    ·rw [if_neg (fun e=>h2 e.2),if_neg (fun e=>hc e.1),if_neg hc] at h
     cases h
     unfold InI
     omega
theorem zzn1 {v:Int} (h:InI v):intV (decB v)=some v:=by
 unfold intV
 rw [zsy1 h]
 exact if_pos rfl
def i64N (v:Int):Nat:=(IntKind.wrap .u64 v).toNat
theorem zkl1 (v:Int):i64N v<18446744073709551616:=by
 unfold i64N
 rw [zal]
 omega
theorem zkm1 (v:Int):IntKind.wrap .u64 v=(i64N v:Int):=by
 unfold i64N
 rw [zal]
 omega
theorem zgo2 {w:Nat} (h:w<18446744073709551616):i64N (IntKind.wrap .i64 (w:Int))=w:=by
 unfold i64N
 rw [zso1 h,Int.toNat_natCast]
theorem zsz1 {v:Int} (h:InI v):IntKind.wrap .i64 (i64N v:Int)=v:=by
 rw [←zkm1]
 obtain ⟨h0,h1⟩:=h
 rw [zal]
 unfold IntKind.wrap
 simp only [IntKind.signed,IntKind.bits]
 grind
theorem zkm2 (v:Int):InI (IntKind.wrap .i64 v):=by
 unfold InI IntKind.wrap
 simp only [IntKind.signed,IntKind.bits]
 grind
noncomputable def fltB (v:Int):List UInt8:=open Classical in if h:∃out,zcd (i64N v) out then bB (choose h) else []
noncomputable def fltV (s:List UInt8):Option Int:=open Classical in if h:∃v,InI v∧∃out,zcd (i64N v) out∧s=bB out then some (choose h) else none
theorem zwk1 {v:Int} {out:List Nat} (h:zcd (i64N v) out):fltB v=bB out:=by
 unfold fltB
 rw [dif_pos ⟨out,h⟩,zmx1 (Classical.choose_spec (⟨out,h⟩:∃out,zcd (i64N v) out)) h]
theorem zpv1 (out:List Nat):(strN out).data.toList=bB out:=zgy out
theorem zgp2 {s:List UInt8} {v:Int} (h:fltV s=some v):InI v∧∃out,zcd (i64N v) out∧s=bB out:=by
 unfold fltV at h
 split at h
 ·rename_i hq
  cases h
  exact Classical.choose_spec hq
 ·cases h
theorem zny2 {a b:List Nat} (h:bB a=bB b):strN a=strN b:=by
 apply ztn
 apply Array.ext'
 exact (zpv1 a).trans (h.trans (zpv1 b).symm)
theorem zgq2 {v:Int} {out:List Nat} (h:InI v) (ht:zcd (i64N v) out):fltV (bB out)=some v:=by
 have hq:∃v,InI v∧∃o,zcd (i64N v) o∧bB out=bB o:=⟨v,h,out,ht,rfl⟩
 unfold fltV
 rw [dif_pos hq]
 obtain ⟨h1,o,ho,he⟩:=Classical.choose_spec hq
 generalize Classical.choose hq=u at*
 have:=zkk2 (zkl1 u) (zkl1 v) ho ht (zny2 he).symm
 rw [←zsz1 h1,this,zsz1 h]
theorem zgr2 {t:ByteArray} {x e:Int} (h:Said t x e):(fltV t.data.toList=some x∧e=0)∨(fltV t.data.toList=none∧e=4):=by
 rcases h with ⟨w,out,hw,hi,rfl,rfl,rfl⟩ | ⟨hn,rfl,rfl⟩
 ·refine .inl ⟨?_,rfl⟩
  rw [zpv1]
  exact zgq2 (zkm2 _) (by rw [zgo2 hw];exact hi)
 ·refine .inr ⟨?_,rfl⟩
  cases hq:fltV t.data.toList with
  | none=>rfl
  | some v=>
   obtain ⟨h1,out,ho,he⟩:=zgp2 hq
   refine absurd ?_ (hn _ out (zkl1 v) ho)
   apply ztn
   apply Array.ext'
   rw [he,zpv1]
theorem zkn2 {r:Nat} {neg:Bool} (h1:0<r) (h2:r<9218868437227405312):∃out,TextF r neg out:=by
 obtain ⟨f1,f2⟩:=zgs1 h1 h2
 have hp:=pF_in h1 h2
 have hs2: -3000≤(zbf (mS r) (eS r)).2:=by
  unfold zbf
  split
  ·show -3000≤ -(pF r-1);omega
  ·split
   ·show -3000≤ -pF r;omega
   ·show -3000≤ -pF r;omega
 have key:∀(k u:Nat) (t:Int),u≠0→u≤k→ -3000≤t→u*unitW 0 t=valS r→∃out,TextF r neg out:=by
  intro k
  induction k with
  | zero=>intro u t h0 hk;omega
  | succ k ih=>
   intro u t h0 hk ht hu
   by_cases h:u%10=0
   ·have e:=zfa (a:=0) (b:=t) (n:=1) (by omega)
    exact ih (u / 10) (t+1) (by omega) (by omega) (by omega) (by
     rw [←hu,show t+1=t+((1:Nat):Int) from rfl,←e,←Nat.mul_assoc,show u / 10*10^1=u by omega])
   ·exact ⟨_,u,t,h,ht,hu,rfl⟩
 exact key _ _ _ f1 (Nat.le_refl _) hs2 (rfl:(zbf (mS r) (eS r)).1*unitW 0 (zbf (mS r) (eS r)).2=valS r)
theorem zgs2 (w:Nat):∃out,zcd w out:=by
 unfold zcd
 split
 ·exact ⟨_,rfl⟩
 ·split
  ·exact ⟨_,rfl⟩
  ·split
   ·exact ⟨_,rfl⟩
   ·exact zkn2 (by omega) (by omega)
theorem zwl1 (v:Int):∃out,zcd (i64N v) out∧fltB v=bB out:=by
 obtain ⟨out,h⟩:=zgs2 (i64N v)
 exact ⟨out,h,zwk1 h⟩
theorem zgt2 {v:Int} (h:InI v):fltV (fltB v)=some v:=by
 obtain ⟨out,h1,h2⟩:=zwl1 v
 rw [h2]
 exact zgq2 h h1
theorem zgu2 {b:Nat} {out:List Nat} (h:zcd b out):∀x∈out,45≤x∧x<128:=by
 intro x hx
 refine ⟨?_,(zpx h).2 x hx⟩
 have sg:∀ {n:Bool},∀x∈((if n then [45] else []):List Nat),45≤x:=fun {n}=>by cases n<;>simp
 unfold zcd at h
 split at h
 ·subst h
  rw [List.mem_append] at hx
  rcases hx with hx | hx
  ·simp at hx;omega
  ·unfold hexL at hx
   rw [List.mem_map] at hx
   obtain ⟨i, -,rfl⟩:=hx
   unfold hexD
   split<;>omega
 ·split at h
  ·subst h
   rw [List.mem_append] at hx
   rcases hx with hx | hx
   ·exact sg x hx
   ·simp at hx;omega
  ·split at h
   ·subst h
    rw [List.mem_append] at hx
    rcases hx with hx | hx
    ·exact sg x hx
    ·simp at hx;omega
   ·obtain ⟨c,ds,eneg,xs,v,s,rfl,hc,hds,dl,hxs, -⟩:=zto (by omega) (by omega) h
    unfold fltL manL at hx
    rw [List.mem_append,List.mem_append,List.mem_cons,List.mem_cons,List.mem_append] at hx
    rcases hx with hx | (hx | hx) | hx | hx | hx
    ·exact sg x hx
    ·omega
    ·split at hx
     ·cases hx
     ·rcases List.mem_cons.1 hx with hx | hx
      ·omega
      ·have:=hds x hx;omega
    ·omega
    ·exact sg x hx
    ·have:=hxs x hx;omega
theorem bB_in {l:List Nat} (h:∀x∈l,45≤x∧x<128):∀c∈bB l,45≤c.toNat∧c.toNat<128:=by
 intro c hc
 unfold bB at hc
 obtain ⟨x,hx,rfl⟩:=List.mem_map.1 hc
 have:=h x hx
 rw [zpu1 (by omega)]
 exact this
theorem znz2 (v:Int):∀c∈fltB v,45≤c.toNat∧c.toNat<128:=by
 obtain ⟨out,h1,h2⟩:=zwl1 v
 rw [h2]
 exact bB_in (zgu2 h1)
theorem zwm1 (v:Int):∀c∈decB v,45≤c.toNat∧c.toNat<58:=by
 intro c hc
 unfold decB bB at hc
 obtain ⟨x,hx,rfl⟩:=List.mem_map.1 hc
 have:45≤x∧x<58:=by
  rw [List.mem_append] at hx
  rcases hx with hx | hx
  ·unfold signL at hx
   split at hx
   ·rw [List.mem_singleton] at hx;omega
   ·cases hx
  ·have:=zwy _ x hx;omega
 rw [zpu1 (by omega)]
 exact this
theorem zzo1 (v:Int):(fltB v).length≤25:=by
 obtain ⟨out,h1,h2⟩:=zwl1 v
 rw [h2]
 unfold bB
 rw [List.length_map]
 exact (zpx h1).1
theorem zbz1 {v:Int} (h:InI v):(decB v).length≤21:=by
 obtain ⟨h0,h1⟩:=h
 have hl:=(zsx (m:=v.natAbs) (by omega)).1
 unfold decB bB
 rw [List.length_map,List.length_append]
 have:(signL v).length≤1:=by unfold signL;split<;>simp
 omega
end Lf

namespace Lf
structure PIns where
 op:Int
 a:Int
 b:Int
 c:Int
 imm:Int
def zai (op:Int):Bool×Bool×Bool×Bool:=
 if op=1 then (true,false,false,true)
 else if op=2∨op=20∨op=21∨op=25∨op=26 then (true,true,false,false)
 else if (3≤op∧op≤14)∨(15≤op∧op≤19)∨op=24 then (true,true,true,false)
 else if op=22∨op=29∨op=30 then (false,false,false,true)
 else if op=23 then (true,false,false,true)
 else if op=27∨op=28∨op=31∨op=32∨op=33 then (true,false,false,false)
 else (false,false,false,false)
def regP (has:Bool) (n:Int):Int:=if has=false∧n≠0 then 11 else if n<0∨8≤n then 10 else 0
def zkb (x:PIns) (n locks:Int):Int×Int:=
 if x.op<0∨34≤x.op then (9,0)
 else if regP (zai x.op).1 x.a≠0 then (regP (zai x.op).1 x.a,1)
 else if regP (zai x.op).2.1 x.b≠0 then (regP (zai x.op).2.1 x.b,2)
 else if regP (zai x.op).2.2.1 x.c≠0 then (regP (zai x.op).2.2.1 x.c,3)
 else if (zai x.op).2.2.2=false∧x.imm≠0 then (11,4)
 else if (x.op=22∨x.op=23)∧(x.imm<0∨n<x.imm) then (12,4)
 else if (x.op=29∨x.op=30)∧(x.imm<0∨locks≤x.imm) then (13,4)
 else (0,0)
def codeR (n locks:Int):List PIns→Int→Int×Int
 | [],_=>(0,0)
 | x::r,i=>if (zkb x n locks).1≠0 then ((zkb x n locks).1,i) else codeR n locks r (i+1)
def codeP (l:List PIns) (locks:Int):Int×Int:=
 if locks<0∨8<locks then (1,0) else if 256<l.length then (3,256) else codeR l.length locks l 0
structure PProc where
 part:Int
 code:List PIns
structure PCfg where
 labels:List Int
 table:List Int
 fuel:Int
 lane:Int
 locks:Int
 log:Int
 procs:List PProc
def zpn2 (n a b:Int):Bool:=decide (a≤n)&&decide (n≤b)
end Lf

namespace Lf
open Go
def wordTab :List (List UInt8):=[[101,120,105,116],[115,101,116],[109,111,118,101],[97,100,100],[115,117,98],[109,117,108],[100,105,118],[114,101,109],[97,110,100],[111,114],[120,111,114],[115,104,108],[115,104,114],[108,101,115,115],[101,113,117,97,108],[102,97,100,100],[102,115,117,98],[102,109,117,108],[102,100,105,118],[102,108,101,115,115],[116,111,102,108,111,97,116],[116,111,105,110,116],[106,117,109,112],[105,102],[115,101,110,100],[114,101,99,118],[116,114,121],[116,105,109,101,114],[115,108,101,101,112],[108,111,99,107],[117,110,108,111,99,107],[111,117,116],[110,111,119],[115,101,108,102]]
def wordL (op:Nat):List UInt8:=wordTab.getD op []
theorem zpw1 :∀k,k<34→(wordL k).length≤7:=by decide
theorem zgv2 :∀k,k<34→∀c∈wordL k,97≤c.toNat∧c.toNat<123:=by decide
theorem zko2 :∀i,i<34→∀j,j<34→wordL i=wordL j→i=j:=by decide+kernel
def zln (n:Int):Bool:=decide (-4503599627370496≤n)&&decide (n≤4503599627370496)
noncomputable def numB (op n:Int):List UInt8:=if op=1∧zln n=false then 102::fltB n else decB n
def regB (n:Int):List UInt8:=114::decB n
theorem zeg1 :∀n,n<8→regB ((n:Nat):Int)=[114,UInt8.ofNat (48+n)]:=by
 intro n hn
 unfold regB decB signL
 rw [if_neg (by omega),Int.natAbs_natCast,zbx1 (by omega)]
 rfl
def fldB (has:Bool) (w:List UInt8):List UInt8:=if has then 32::w else []
noncomputable def lineB (x:PIns):List UInt8:=
 wordL x.op.toNat++(fldB (zai x.op).1 (regB x.a)++(fldB (zai x.op).2.1 (regB x.b)++(fldB (zai x.op).2.2.1 (regB x.c)++fldB (zai x.op).2.2.2 (numB x.op x.imm))))
noncomputable def progB (l:List PIns):List UInt8:=l.flatMap fun x=>lineB x++ [10]
def zlo (l:List UInt8) (n:Nat):List UInt8:=(l.drop n).takeWhile (· !=32)
def opOf (w:List UInt8):Option Nat:=(List.range 34).find? fun k=>wordL k==w
def regOf (w:List UInt8):Option Nat:=(List.range 8).find? fun n=>w==[114,UInt8.ofNat (48+n)]
noncomputable def setOf (w:List UInt8):Option Int:=match w with
 | []=>(intV []).filter zln
 | c::r=>if c=102 then (fltV r).filter (fun n=> !zln n) else (intV (c::r)).filter zln
noncomputable def immOf (op:Int) (w:List UInt8):Option Int:=if op=1 then setOf w else intV w
def immE (op n v:Int):Int:=if (op=22∨op=23)∧(v<0∨n<v) then 12 else if (op=29∨op=30)∧(v<0∨8≤v) then 13 else 0
structure RS where
 pos:Nat
 e:Int
 bad:Nat
def giveR (s:RS) (e:Int) (n:Nat):RS:=if s.e=0 then ⟨s.pos,e,n⟩ else s
def zkc (l:List UInt8) (s:RS):Option (List UInt8×Nat)×RS:=
 if s.e≠0 then (none,s) else if s.pos=l.length then (none,⟨s.pos,5,s.pos⟩) else (some (zlo l (s.pos+1),s.pos+1),⟨s.pos+1+(zlo l (s.pos+1)).length,0,s.bad⟩)
def regR (l:List UInt8) (s:RS) (has:Bool):Int×RS:=
 if has=false then (0,s) else match zkc l s with
  | (none,s')=>(0,s')
  | (some (w,f),s')=>match regOf w with
   | some n=>((n:Int),s')
   | none=>(0,⟨s'.pos,10,f⟩)
noncomputable def immR (l:List UInt8) (n op:Int) (s:RS):Int×RS:=match zkc l s with
 | (none,s')=>(0,s')
 | (some (w,f),s')=>match immOf op w with
  | none=>(0,⟨s'.pos,4,f⟩)
  | some v=>if immE op n v=0 then (v,s') else (0,⟨s'.pos,immE op n v,f⟩)
noncomputable def restR (l:List UInt8) (n op:Int) (has:Bool) (s:RS):Int×RS:=if has then immR l n op s else (0,s)
def endR (l:List UInt8) (s:RS):RS:=if s.pos<l.length then giveR s 6 s.pos else s
noncomputable def insR (l:List UInt8) (n:Int):PIns×RS:=match opOf (zlo l 0) with
 | none=>(⟨0,0,0,0,0⟩,⟨0,9,0⟩)
 | some k=>
  let f:=zai (k:Int)
  let p1:=regR l ⟨(zlo l 0).length,0,0⟩ f.1
  let p2:=regR l p1.2 f.2.1
  let p3:=regR l p2.2 f.2.2.1
  let p4:=restR l n (k:Int) f.2.2.2 p3.2
  (⟨(k:Int),p1.1,p2.1,p3.1,p4.1⟩,endR l p4.2)
noncomputable def zyv (n:Int):Nat→List UInt8→Int→List PIns→List PIns×Int×Int×Int
 | 0,_,_,_=>([],0,0,0)
 | k+1,r,i,acc=>
  if r=[] then (acc,0,0,0)
  else if 256<i then ([],3,i,0)
  else
   let s:=r.takeWhile (· !=10)
   let p:=insR s n
   let st:=if s.length=r.length then giveR p.2 5 s.length else p.2
   if st.e≠0 then ([],st.e,i,(st.bad:Int)) else zyv n k (r.drop (s.length+1)) (i+1) (acc++ [p.1])
noncomputable def zcy1 (t:List UInt8):List PIns×Int×Int×Int:=zyv ((t.count 10:Nat):Int) (t.length+1) t 1 []
def Bl (r:List UInt8):Prop:=r=[]∨∃t,r=32::t
theorem zta1 {F r:List UInt8} (hF:∀c∈F,c≠32) (hb:Bl r):(F++r).takeWhile (· !=32)=F:=by
 rw [List.takeWhile_append_of_pos (fun c hc=>bne_iff_ne.2 (hF c hc))]
 rcases hb with rfl | ⟨t,rfl⟩
 ·simp
 ·simp
theorem zgw2 (r:List UInt8):Bl (r.dropWhile (· !=32)):=by
 induction r with
 | nil=>exact .inl rfl
 | cons c r ih=>
  rw [List.dropWhile_cons]
  split
  ·exact ih
  ·rename_i h
   refine .inr ⟨r,?_⟩
   have:c=32:=by simpa using h
   rw [this]
theorem ztb1 (r:List UInt8):∀c∈r.takeWhile (· !=32),c≠32:=by
 intro c hc
 have:=List.all_takeWhile (l:=r) (p:=(· !=32))
 rw [List.all_eq_true] at this
 exact bne_iff_ne.1 (this c hc)
theorem ztc1 {P F r:List UInt8} {b:Nat} (hF:∀c∈F,c≠32) (hb:Bl r):zkc (P++32::(F++r)) ⟨P.length,0,b⟩=(some (F,P.length+1),⟨(P++32::F).length,0,b⟩):=by
 unfold zkc
 rw [if_neg (by simp),if_neg (by simp)]
 have e:zlo (P++32::(F++r)) (P.length+1)=F:=by
  unfold zlo
  rw [show P++32::(F++r)=(P++ [32])++(F++r) by simp,List.drop_left' (by simp)]
  exact zta1 hF hb
 show (some (zlo _ (P.length+1),P.length+1),(⟨P.length+1+_,0,b⟩:RS))=_
 rw [e]
 simp only [List.length_append,List.length_cons]
 congr 2
 omega
theorem Bl.cut {r:List UInt8} (hb:Bl r) (h0:r≠ []):∃F r',r=32::(F++r')∧(∀c∈F,c≠32)∧Bl r':=by
 rcases hb with rfl | ⟨t,rfl⟩
 ·exact absurd rfl h0
 ·exact ⟨_,_,congrArg (32:: ·) (List.takeWhile_append_dropWhile (p:=(· !=32)) (l:=t)).symm,ztb1 t,zgw2 t⟩
theorem zoa2 {p:Nat→Bool} {N k:Nat} (hk:k<N) (hp:p k=true) (h1:∀j,j<N→p j=true→j=k):(List.range N).find? p=some k:=by
 rw [List.find?_range_eq_some]
 refine ⟨hp,List.mem_range.2 hk,fun j hj=> ?_⟩
 cases hq:p j with
 | false=>rfl
 | true=>have:=h1 j (by omega) hq;omega
theorem ztd1 {k:Nat} (hk:k<34):opOf (wordL k)=some k:=zoa2 hk (by simp) fun j hj e=>zko2 j hj k hk (by simpa using e)
theorem zgx2 {w:List UInt8} {k:Nat} (h:opOf w=some k):k<34∧w=wordL k:=by
 unfold opOf at h
 rw [List.find?_range_eq_some] at h
 obtain ⟨h1,h2, -⟩:=h
 exact ⟨List.mem_range.1 h2,(eq_of_beq h1).symm⟩
theorem zte1 :∀n,n<8→regOf [114,UInt8.ofNat (48+n)]=some n:=by decide
theorem zgy2 :∀n,n<8→∀c∈ [114,UInt8.ofNat (48+n)],c≠32:=by decide
theorem filter_some {α:Type} {o:Option α} {p:α→Bool} {v:α} (h:o.filter p=some v):o=some v∧p v=true:=by
 cases o with
 | none=>cases h
 | some u=>
  rw [Option.filter_some] at h
  split at h
  ·rename_i hp
   cases h
   exact ⟨rfl,hp⟩
  ·cases h
theorem zgz2 {v:Int} {c:UInt8} {r:List UInt8} (h:decB v=c::r):c≠102:=by
 have:=zwm1 v c (by rw [h];exact List.mem_cons_self ..)
 intro e
 rw [e] at this
 exact absurd this.2 (by decide)
theorem zob2 (v:Int):decB v≠ []:=by
 intro e
 have:=congrArg List.length e
 unfold decB bB at this
 rw [List.length_map,List.length_append,zmi] at this
 have:=zli v.natAbs
 simp at*
 omega
theorem zha2 {op v:Int} (h:InI v):immOf op (numB op v)=some v:=by
 unfold immOf numB
 by_cases h1:op=1
 ·rw [if_pos h1]
  by_cases hs:zln v=false
  ·rw [if_pos ⟨h1,hs⟩]
   unfold setOf
   show (if (102:UInt8)=102 then _ else _)=_
   rw [if_pos rfl,zgt2 h,Option.filter_some,hs]
   rfl
  ·rw [if_neg (fun e=>hs e.2)]
   have hs:zln v=true:=by simpa using hs
   unfold setOf
   cases hq:decB v with
   | nil=>exact absurd hq (zob2 v)
   | cons c r=>
    show (if c=102 then _ else _)=_
    rw [if_neg (zgz2 hq),←hq,zzn1 h,Option.filter_some,hs]
    rfl
 ·rw [if_neg h1,if_neg (fun e=>h1 e.1),zzn1 h]
theorem zhb2 (op v:Int):∀c∈numB op v,45≤c.toNat∧c.toNat<128:=by
 intro c hc
 unfold numB at hc
 split at hc
 ·rcases List.mem_cons.1 hc with rfl | hc
  ·decide
  ·exact znz2 v c hc
 ·have:=zwm1 v c hc;omega
theorem zoc2 {F:List UInt8} (h:∀c∈F,45≤c.toNat∧c.toNat<128):∀c∈F,c≠32:=by
 intro c hc e
 have:=(h c hc).1
 rw [e] at this
 exact absurd this (by decide)
theorem zwn1 {P r:List UInt8} {b:Nat} {has:Bool} {n:Int} (hr:regP has n=0) (hb:Bl r):regR (P++(fldB has (regB n)++r)) ⟨P.length,0,b⟩ has=(n,⟨(P++fldB has (regB n)).length,0,b⟩):=by
 unfold regR fldB
 unfold regP at hr
 cases has with
 | false=>
  have:n=0:=by
   refine Classical.byContradiction fun hn=> ?_
   rw [if_pos ⟨rfl,hn⟩] at hr
   cases hr
  subst this
  rw [if_pos rfl]
  simp
 | true=>
  rw [if_neg (fun e=>by cases e.1)] at hr
  have hn:0≤n∧n<8:=by
   refine Classical.byContradiction fun hn=> ?_
   rw [if_pos (by omega)] at hr
   cases hr
  obtain ⟨k,rfl⟩:∃k:Nat,n=k:=⟨n.toNat,by omega⟩
  have hk:k<8:=by omega
  rw [if_neg (by simp),if_pos rfl,zeg1 k hk]
  show (match zkc (P++32::([114,UInt8.ofNat (48+k)]++r)) ⟨P.length,0,b⟩ with | (none,s')=>(0,s') | (some (w,f),s')=>(match regOf w with | some n=>((n:Int),s') | none=>(0,⟨s'.pos,10,f⟩)))=_
  rw [ztc1 (zgy2 k hk) hb]
  show (match regOf [114,UInt8.ofNat (48+k)] with | some n=>_ | none=>_)=_
  rw [zte1 k hk]
theorem zkp2 {P r:List UInt8} {b:Nat} {has:Bool} {op n v:Int} (h0:has=false→v=0) (hv:InI v) (he:has=true→immE op n v=0) (hb:Bl r):restR (P++(fldB has (numB op v)++r)) n op has ⟨P.length,0,b⟩=(v,⟨(P++fldB has (numB op v)).length,0,b⟩):=by
 unfold restR fldB
 cases has with
 | false=>
  rw [h0 rfl]
  simp
 | true=>
  rw [if_pos rfl,if_pos rfl]
  unfold immR
  show (match zkc (P++32::(numB op v++r)) ⟨P.length,0,b⟩ with | (none,s')=>(0,s') | (some (w,f),s')=>(match immOf op w with | none=>(0,⟨s'.pos,4,f⟩) | some v=>if immE op n v=0 then (v,s') else (0,⟨s'.pos,immE op n v,f⟩)))=_
  rw [ztc1 (zoc2 (zhb2 op v)) hb]
  show (match immOf op (numB op v) with | none=>_ | some v=>_)=_
  rw [zha2 hv]
  show (if immE op n v=0 then _ else _)=_
  rw [if_pos (he rfl)]
end Lf

namespace Lf
open Go
theorem wrong_right {x:PIns} {n:Int}:(zkb x n 8).1=0↔(0≤x.op∧x.op<34)∧regP (zai x.op).1 x.a=0∧regP (zai x.op).2.1 x.b=0∧regP (zai x.op).2.2.1 x.c=0∧((zai x.op).2.2.2=false→x.imm=0)∧immE x.op n x.imm=0:=by
 unfold zkb immE
 generalize zai x.op=f
 generalize regP f.1 x.a=a
 generalize regP f.2.1 x.b=b
 generalize regP f.2.2.1 x.c=c
 by_cases h1:x.op<0∨34≤x.op
 ·rw [if_pos h1]
  exact ⟨fun e=>(by cases e),fun e=>by omega⟩
 rw [if_neg h1]
 by_cases h2:a≠0
 ·rw [if_pos h2]
  exact ⟨fun e=>absurd e h2,fun e=>absurd e.2.1 h2⟩
 rw [if_neg h2]
 by_cases h3:b≠0
 ·rw [if_pos h3]
  exact ⟨fun e=>absurd e h3,fun e=>absurd e.2.2.1 h3⟩
 rw [if_neg h3]
 by_cases h4:c≠0
 ·rw [if_pos h4]
  exact ⟨fun e=>absurd e h4,fun e=>absurd e.2.2.2.1 h4⟩
 rw [if_neg h4]
 by_cases h5:f.2.2.2=false∧x.imm≠0
 ·rw [if_pos h5]
  exact ⟨fun e=>(by cases e),fun e=>absurd (e.2.2.2.2.1 h5.1) h5.2⟩
 rw [if_neg h5]
 have p1:0≤x.op∧x.op<34:=by omega
 have p5:f.2.2.2=false→x.imm=0:=fun e=>Classical.byContradiction fun hn=>h5 ⟨e,hn⟩
 by_cases h6:(x.op=22∨x.op=23)∧(x.imm<0∨n<x.imm)
 ·rw [if_pos h6,if_pos h6]
  exact ⟨fun e=>(by cases e),fun e=>by cases e.2.2.2.2.2⟩
 rw [if_neg h6,if_neg h6]
 by_cases h7:(x.op=29∨x.op=30)∧(x.imm<0∨8≤x.imm)
 ·rw [if_pos h7,if_pos h7]
  exact ⟨fun e=>(by cases e),fun e=>by cases e.2.2.2.2.2⟩
 rw [if_neg h7,if_neg h7]
 exact ⟨fun _=>⟨p1,Classical.not_not.1 h2,Classical.not_not.1 h3,Classical.not_not.1 h4,p5,rfl⟩,fun _=>rfl⟩
theorem Bl.fld {has:Bool} {w r:List UInt8} (hb:Bl r):Bl (fldB has w++r):=by
 cases has with
 | false=>exact hb
 | true=>exact .inr ⟨w++r,rfl⟩
theorem Bl.nil :Bl []:=.inl rfl
theorem zhc2 {k:Nat} (hk:k<34):∀c∈wordL k,c≠32:=by
 intro c hc e
 have:=(zgv2 k hk c hc).1
 rw [e] at this
 exact absurd this (by decide)
theorem ztf1 {x:PIns} {n:Int} (hw:(zkb x n 8).1=0) (hi:InI x.imm):insR (lineB x) n=(x,⟨(lineB x).length,0,0⟩):=by
 obtain ⟨⟨h0,h1⟩,ha,hb,hc,hf,he⟩:=wrong_right.1 hw
 obtain ⟨op,a,b,c,imm⟩:=x
 obtain ⟨k,rfl⟩:∃k:Nat,op=k:=⟨op.toNat,by simp only at h0;omega⟩
 simp only at h0 h1 ha hb hc hf he hi
 have hk:k<34:=by omega
 unfold lineB
 simp only [Int.toNat_natCast]
 generalize hF:zai (k:Int)=f at*
 have bD:Bl (fldB f.2.2.2 (numB (k:Int) imm)):=by
  have:=Bl.fld (has:=f.2.2.2) (w:=numB (k:Int) imm) Bl.nil
  rwa [List.append_nil] at this
 have bC:=bD.fld (has:=f.2.2.1) (w:=regB c)
 have bB':=bC.fld (has:=f.2.1) (w:=regB b)
 have bA:=bB'.fld (has:=f.1) (w:=regB a)
 have e0:zlo (wordL k++(fldB f.1 (regB a)++(fldB f.2.1 (regB b)++(fldB f.2.2.1 (regB c)++fldB f.2.2.2 (numB (k:Int) imm))))) 0=wordL k:=by
  unfold zlo
  rw [List.drop_zero]
  exact zta1 (zhc2 hk) bA
 have e1:=zwn1 (P:=wordL k) (b:=0) ha bB'
 have e2:=zwn1 (P:=wordL k++fldB f.1 (regB a)) (b:=0) hb bC
 have e3:=zwn1 (P:=(wordL k++fldB f.1 (regB a))++fldB f.2.1 (regB b)) (b:=0) hc bD
 have e4:=zkp2 (P:=((wordL k++fldB f.1 (regB a))++fldB f.2.1 (regB b))++fldB f.2.2.1 (regB c)) (r:=[]) (b:=0) (op:=k) (n:=n) hf hi (fun _=>he) Bl.nil
 rw [List.append_nil] at e4
 simp only [List.append_assoc] at e1 e2 e3 e4
 unfold insR
 rw [e0,ztd1 hk]
 simp only [hF,e1,e2,e3,e4]
 unfold endR
 rw [if_neg (Nat.lt_irrefl _)]
theorem zhd2 {s:RS} {e:Int} {n:Nat} (he:e≠0):(giveR s e n).e≠0:=by
 unfold giveR
 split
 ·exact he
 ·assumption
theorem zpx1 {has:Bool} {w:List UInt8} (h:∀c∈w,45≤c.toNat):∀c∈fldB has w,32≤c.toNat:=by
 intro c hc
 unfold fldB at hc
 split at hc
 ·rcases List.mem_cons.1 hc with rfl | hc
  ·decide
  ·have:=h c hc;omega
 ·cases hc
theorem zwo1 (n:Int):∀c∈regB n,45≤c.toNat:=by
 intro c hc
 unfold regB at hc
 rcases List.mem_cons.1 hc with rfl | hc
 ·decide
 ·exact (zwm1 n c hc).1
theorem zkq2 {x:PIns} (h:0≤x.op∧x.op<34):∀c∈lineB x,32≤c.toNat:=by
 intro c hc
 unfold lineB at hc
 simp only [List.mem_append] at hc
 rcases hc with hc | hc | hc | hc | hc
 ·have:=(zgv2 _ (by omega) c hc).1;omega
 ·exact zpx1 (zwo1 _) c hc
 ·exact zpx1 (zwo1 _) c hc
 ·exact zpx1 (zwo1 _) c hc
 ·exact zpx1 (fun c h=>(zhb2 _ _ c h).1) c hc
theorem ztg1 {x:PIns} (h:0≤x.op∧x.op<34):∀c∈lineB x,c≠10:=by
 intro c hc e
 have:=zkq2 h c hc
 rw [e] at this
 exact absurd this (by decide)
def zhe2 (n:Int) (l:List PIns):Prop:=∀x∈l,(zkb x n 8).1=0∧InI x.imm
theorem zzp1 {n:Int}:∀(l:List PIns) (i:Int),(codeR n 8 l i).1=0↔∀x∈l,(zkb x n 8).1=0
 | [],_=>⟨fun _ x hx=>(by cases hx),fun _=>rfl⟩
 | x::l,i=>by
  unfold codeR
  split
  ·rename_i h
   exact ⟨fun e=>absurd e h,fun e=>absurd (e x (List.mem_cons_self ..)) h⟩
  ·rename_i h
   have h:=Classical.not_not.1 h
   rw [zzp1 l (i+1)]
   exact ⟨fun e y hy=>(by rcases List.mem_cons.1 hy with rfl | hy;exact h;exact e y hy),fun e y hy=>e y (List.mem_cons_of_mem _ hy)⟩
theorem codeP_ok {l:List PIns}:(codeP l 8).1=0↔l.length≤256∧∀x∈l,(zkb x l.length 8).1=0:=by
 unfold codeP
 rw [if_neg (by decide)]
 split
 ·rename_i h
  exact ⟨fun e=>(by cases e),fun e=>by omega⟩
 ·rename_i h
  rw [zzp1]
  exact ⟨fun e=>⟨by omega,e⟩,fun e=>e.2⟩
theorem zna (x:PIns) (l:List PIns):progB (x::l)=lineB x++10::progB l:=by
 unfold progB
 rw [List.flatMap_cons,List.append_assoc]
 rfl
theorem zbv2 {s:List UInt8} (h:∀c∈s,c≠10):s.count 10=0:=List.count_eq_zero.2 fun hc=>h _ hc rfl
theorem znd1 :∀(l:List PIns),(∀x∈l,0≤x.op∧x.op<34)→(progB l).count 10=l.length
 | [],_=>rfl
 | x::l,h=>by
  rw [zna,List.count_append,List.count_cons,zbv2 (ztg1 (h x (List.mem_cons_self ..))),znd1 l fun y hy=>h y (List.mem_cons_of_mem _ hy)]
  simp
theorem zhf2 {F r:List UInt8} (hF:∀c∈F,c≠10):(F++10::r).takeWhile (· !=10)=F:=by
 rw [List.takeWhile_append_of_pos (fun c hc=>bne_iff_ne.2 (hF c hc))]
 simp
theorem zkn1 {n:Int}:∀(l:List PIns) (acc:List PIns) (i:Int) (k:Nat),zhe2 n l→i+l.length≤257→(progB l).length<k→zyv n k (progB l) i acc=(acc++l,0,0,0)
 | [],acc,i,k+1,_,_,_=>by
  unfold zyv
  rw [List.append_nil]
  exact if_pos rfl
 | x::l,acc,i,k+1,hr,hi,hk=>by
  obtain ⟨hw,hx⟩:=hr x (List.mem_cons_self ..)
  have hop:=(wrong_right.1 hw).1
  rw [zna] at hk ⊢
  rw [List.length_append,List.length_cons] at hk
  rw [List.length_cons] at hi
  unfold zyv
  rw [if_neg (by simp),if_neg (by omega)]
  simp only [zhf2 (ztg1 hop)]
  rw [ztf1 hw hx]
  have e:(lineB x++10::progB l).drop ((lineB x).length+1)=progB l:=by
   rw [show lineB x++10::progB l=(lineB x++ [10])++progB l by simp]
   exact List.drop_left' (by simp)
  have c1:¬(lineB x).length=(lineB x++10::progB l).length:=by rw [List.length_append,List.length_cons];omega
  simp only [if_neg c1]
  rw [if_neg (by simp),e,zkn1 l (acc++ [x]) (i+1) k (fun y hy=>hr y (List.mem_cons_of_mem _ hy)) (by omega) (by omega),List.append_assoc]
  rfl
theorem zwp1 {l:List PIns} (h:(codeP l 8).1=0) (hi:∀x∈l,InI x.imm):zcy1 (progB l)=(l,0,0,0):=by
 obtain ⟨h1,h2⟩:=codeP_ok.1 h
 unfold zcy1
 rw [znd1 l fun x hx=>(wrong_right.1 (h2 x hx)).1]
 rw [zkn1 l [] 1 _ (fun x hx=>⟨h2 x hx,hi x hx⟩) (by omega) (Nat.lt_succ_self _)]
 rfl
theorem zca1 (l:List UInt8) (n:Nat):(zlo l n).length≤l.length-n:=by
 unfold zlo
 have:=(List.takeWhile_prefix (p:=(· !=32)) (l:=l.drop n)).length_le
 rw [List.length_drop] at this
 exact this
def InR (l:List UInt8) (s:RS):Prop:=s.pos≤l.length∧s.bad≤l.length
theorem zth1 {l:List UInt8} {s:RS} (h:InR l s):InR l (zkc l s).2∧∀w f,(zkc l s).1=some (w,f)→f≤l.length:=by
 unfold zkc
 split
 ·exact ⟨h,fun _ _ e=>(by cases e)⟩
 ·split
  ·exact ⟨⟨h.1,h.1⟩,fun _ _ e=>(by cases e)⟩
  ·rename_i hn
   have h1:=h.1
   have h2:=zca1 l (s.pos+1)
   refine ⟨⟨?_,h.2⟩,fun w f e=> ?_⟩
   ·show s.pos+1+_≤_
    omega
   ·cases e
    omega
theorem zwq1 {l:List UInt8} {s:RS} {has:Bool} (h:InR l s):InR l (regR l s has).2:=by
 unfold regR
 split
 ·exact h
 ·obtain ⟨h1,h2⟩:=zth1 h
  cases hq:zkc l s with
  | mk o s'=>
   rw [hq] at h1 h2
   cases o with
   | none=>exact h1
   | some p=>
    obtain ⟨w,f⟩:=p
    show InR l (match regOf w with | some n=>((n:Int),s') | none=>((0:Int),(⟨s'.pos,10,f⟩:RS))).2
    cases regOf w with
    | none=>exact ⟨h1.1,h2 w f rfl⟩
    | some n=>exact h1
theorem zkr2 {l:List UInt8} {s:RS} {has:Bool} {n op:Int} (h:InR l s):InR l (restR l n op has s).2:=by
 unfold restR
 split
 ·unfold immR
  obtain ⟨h1,h2⟩:=zth1 h
  cases hq:zkc l s with
  | mk o s'=>
   rw [hq] at h1 h2
   cases o with
   | none=>exact h1
   | some p=>
    obtain ⟨w,f⟩:=p
    show InR l (match immOf op w with | none=>((0:Int),(⟨s'.pos,4,f⟩:RS)) | some v=>if immE op n v=0 then (v,s') else (0,⟨s'.pos,immE op n v,f⟩)).2
    cases immOf op w with
    | none=>exact ⟨h1.1,h2 w f rfl⟩
    | some v=>
     show InR l (if immE op n v=0 then (v,s') else ((0:Int),(⟨s'.pos,immE op n v,f⟩:RS))).2
     split
     ·exact h1
     ·exact ⟨h1.1,h2 w f rfl⟩
 ·exact h
end Lf

namespace Go.Proofs
open Go.Shelf
def Tryz.laysC247_ren :Go.Shelf.Ren:=⟨fun | 247=>98 | 287=>63 | 321=>107 | 322=>108 | n=>n,fun | 9=>9 | 3=>3 | 2=>2 | 75=>56 | 4=>4 | 167=>122 | 5=>5 | 53=>51 | 175=>62 | 46=>67 | 37=>74 | 0=>0 | 21=>21 | 80=>78 | n=>n,fun | n=>n⟩
theorem Tryz.laysC247 :Go.Proofs.LaysC.n247 Tryz.prog Tryz.laysC247_ren:={
 mixed:=by kernel_rfl
 f247:=Tryz.func98.trans (congrArg some (by kernel_rfl))
 f287:=Tryz.func63.trans (congrArg some (by kernel_rfl))
 f321:=Tryz.func107.trans (congrArg some (by kernel_rfl))
 f322:=Tryz.func108.trans (congrArg some (by kernel_rfl))
 t0:=Tryz.underlying0
 a0:=Tryz.isAgg0
 z0:=Tryz.sizeOf0
 v0:=Tryz.zeroValue0
 t2:=Tryz.underlying2
 a2:=Tryz.isAgg2
 z2:=Tryz.sizeOf2
 v2:=Tryz.zeroValue2
 t3:=Tryz.underlying3
 a3:=Tryz.isAgg3
 z3:=Tryz.sizeOf3
 v3:=Tryz.zeroValue3
 t4:=Tryz.underlying4
 a4:=Tryz.isAgg4
 z4:=Tryz.sizeOf4
 v4:=Tryz.zeroValue4
 t5:=Tryz.underlying5
 a5:=Tryz.isAgg5
 z5:=Tryz.sizeOf5
 v5:=Tryz.zeroValue5
 t9:=Tryz.underlying9
 a9:=Tryz.isAgg9
 z9:=Tryz.sizeOf9
 v9:=Tryz.zeroValue9
 t21:=Tryz.underlying21
 a21:=Tryz.isAgg21
 z21:=Tryz.sizeOf21
 v21:=Tryz.zeroValue21
 t37:=Tryz.underlying74
 a37:=Tryz.isAgg74
 z37:=Tryz.sizeOf74
 v37:=Tryz.zeroValue74
 t46:=Tryz.underlying67
 a46:=Tryz.isAgg67
 z46:=Tryz.sizeOf67
 v46:=Tryz.zeroValue67
 t53:=Tryz.underlying51
 a53:=Tryz.isAgg51
 z53:=Tryz.sizeOf51
 v53:=Tryz.zeroValue51
 t75:=Tryz.underlying56
 a75:=Tryz.isAgg56
 z75:=Tryz.sizeOf56
 v75:=Tryz.zeroValue56
 t167:=Tryz.underlying122
 a167:=Tryz.isAgg122
 z167:=Tryz.sizeOf122
 v167:=Tryz.zeroValue122
 t175:=Tryz.underlying62
 a175:=Tryz.isAgg62
 z175:=Tryz.sizeOf62
 v175:=Tryz.zeroValue62
 t80:=Tryz.underlying78
 a80:=Tryz.isAgg78
 z80:=Tryz.sizeOf78
 v80:=Tryz.zeroValue78
 i0:=by kernel_rfl
 i2:=by kernel_rfl
 i3:=by kernel_rfl
 i4:=by kernel_rfl
 i5:=by kernel_rfl
 i9:=by kernel_rfl
 i21:=by kernel_rfl
 i37:=by kernel_rfl
 i46:=by kernel_rfl
 i53:=by kernel_rfl
 i75:=by kernel_rfl
 i80:=by kernel_rfl
 i167:=by kernel_rfl
 i175:=by kernel_rfl
 c0:=by kernel_rfl
 c2:=by kernel_rfl
 c3:=by kernel_rfl
 c4:=by kernel_rfl
 c5:=by kernel_rfl
 c9:=by kernel_rfl
 c21:=by kernel_rfl
 c37:=by kernel_rfl
 c46:=by kernel_rfl
 c53:=by kernel_rfl
 c75:=by kernel_rfl
 c80:=by kernel_rfl
 c167:=by kernel_rfl
 c175:=by kernel_rfl}
open Go.RowKit in
theorem Tryz.internal_strconv_ParseInt_10_all64 (s:ByteArray) (hmax:s.size≤9223372036854775806) (w:World):
  Calls Tryz.prog 98 #[.string s,.int .i64 10,.int .i64 64] w fun e w'=>e=.returned (Lib.intTuple 122 (Lib.intSat 64 s.data.toList) (Lib.parseIntB 64 s.data.toList))∧(w'=w∨∃t,w'=Lib.bytesWorld w 5 t):=Any.internal_strconv_ParseInt_10_all64 Tryz.laysC247 s hmax w
def Tryz.lays144_ren :Go.Shelf.Ren:=⟨fun | 144=>115 | 143=>80 | 219=>95 | 217=>131 | 225=>132 | 224=>133 | 267=>134 | 266=>165 | 314=>166 | n=>n,fun | 9=>9 | 4=>4 | 3=>3 | 5=>5 | 46=>67 | 146=>149 | 51=>148 | n=>n,fun | 1=>1 | n=>n⟩
theorem Tryz.lays144 :Go.Proofs.Lays.n144 Tryz.prog Tryz.lays144_ren:={
 mixed:=by kernel_rfl
 f143:=Tryz.func80.trans (congrArg some (by kernel_rfl))
 f144:=Tryz.func115.trans (congrArg some (by kernel_rfl))
 f217:=Tryz.func131.trans (congrArg some (by kernel_rfl))
 f219:=Tryz.func95.trans (congrArg some (by kernel_rfl))
 f224:=Tryz.func133.trans (congrArg some (by kernel_rfl))
 f225:=Tryz.func132.trans (congrArg some (by kernel_rfl))
 f266:=Tryz.func165.trans (congrArg some (by kernel_rfl))
 f267:=Tryz.func134.trans (congrArg some (by kernel_rfl))
 f314:=Tryz.func166.trans (congrArg some (by kernel_rfl))
 t3:=Tryz.underlying3
 a3:=Tryz.isAgg3
 z3:=Tryz.sizeOf3
 v3:=Tryz.zeroValue3
 t4:=Tryz.underlying4
 a4:=Tryz.isAgg4
 z4:=Tryz.sizeOf4
 v4:=Tryz.zeroValue4
 t5:=Tryz.underlying5
 a5:=Tryz.isAgg5
 z5:=Tryz.sizeOf5
 v5:=Tryz.zeroValue5
 t9:=Tryz.underlying9
 a9:=Tryz.isAgg9
 z9:=Tryz.sizeOf9
 v9:=Tryz.zeroValue9
 t46:=Tryz.underlying67
 a46:=Tryz.isAgg67
 z46:=Tryz.sizeOf67
 v46:=Tryz.zeroValue67
 t51:=Tryz.underlying148
 a51:=Tryz.isAgg148
 z51:=Tryz.sizeOf148
 v51:=Tryz.zeroValue148
 t146:=Tryz.underlying149
 a146:=Tryz.isAgg149
 z146:=Tryz.sizeOf149
 v146:=Tryz.zeroValue149
 g1:=by kernel_rfl}
open Go.RowKit Go.Lib in
theorem Tryz.strings_Contains_one (s:ByteArray) (c:UInt8) (w:World):
  Calls Tryz.prog 115 #[.string s,.string ⟨#[c]⟩] w fun e w'=>e=.returned (.bool (decide (0≤Lib.indexByte s.data.toList c)))∧w'=w:=Any.strings_Contains_one Tryz.lays144 s c w
def Tryz.lays138_ren :Go.Shelf.Ren:=⟨fun | 138=>47 | 195=>78 | 218=>79 | 143=>80 | 219=>95 | 217=>131 | 225=>132 | 224=>133 | 267=>134 | 266=>165 | 314=>166 | n=>n,fun | 9=>9 | 3=>3 | 4=>4 | 5=>5 | 0=>0 | 46=>67 | 146=>149 | 51=>148 | n=>n,fun | 1=>1 | n=>n⟩
theorem Tryz.lays138 :Go.Proofs.Lays.n138 Tryz.prog Tryz.lays138_ren:={
 mixed:=by kernel_rfl
 f138:=Tryz.func47.trans (congrArg some (by kernel_rfl))
 f143:=Tryz.func80.trans (congrArg some (by kernel_rfl))
 f195:=Tryz.func78.trans (congrArg some (by kernel_rfl))
 f217:=Tryz.func131.trans (congrArg some (by kernel_rfl))
 f218:=Tryz.func79.trans (congrArg some (by kernel_rfl))
 f219:=Tryz.func95.trans (congrArg some (by kernel_rfl))
 f224:=Tryz.func133.trans (congrArg some (by kernel_rfl))
 f225:=Tryz.func132.trans (congrArg some (by kernel_rfl))
 f266:=Tryz.func165.trans (congrArg some (by kernel_rfl))
 f267:=Tryz.func134.trans (congrArg some (by kernel_rfl))
 f314:=Tryz.func166.trans (congrArg some (by kernel_rfl))
 t0:=Tryz.underlying0
 a0:=Tryz.isAgg0
 z0:=Tryz.sizeOf0
 v0:=Tryz.zeroValue0
 t3:=Tryz.underlying3
 a3:=Tryz.isAgg3
 z3:=Tryz.sizeOf3
 v3:=Tryz.zeroValue3
 t4:=Tryz.underlying4
 a4:=Tryz.isAgg4
 z4:=Tryz.sizeOf4
 v4:=Tryz.zeroValue4
 t5:=Tryz.underlying5
 a5:=Tryz.isAgg5
 z5:=Tryz.sizeOf5
 v5:=Tryz.zeroValue5
 t9:=Tryz.underlying9
 a9:=Tryz.isAgg9
 z9:=Tryz.sizeOf9
 v9:=Tryz.zeroValue9
 t46:=Tryz.underlying67
 a46:=Tryz.isAgg67
 z46:=Tryz.sizeOf67
 v46:=Tryz.zeroValue67
 t51:=Tryz.underlying148
 a51:=Tryz.isAgg148
 z51:=Tryz.sizeOf148
 v51:=Tryz.zeroValue148
 t146:=Tryz.underlying149
 a146:=Tryz.isAgg149
 z146:=Tryz.sizeOf149
 v146:=Tryz.zeroValue149
 g1:=by kernel_rfl}
open Go.RowKit Go.Lib in
theorem Tryz.strings_Count_one (s:ByteArray) (c:UInt8) (w:World):
  Calls Tryz.prog 47 #[.string s,.string ⟨#[c]⟩] w fun e w'=>e=.returned (.int .i64 (Lib.countByte s.data.toList c))∧w'=w:=Any.strings_Count_one Tryz.lays138 s c w
end Go.Proofs

namespace Lf
structure zpi2 where
 tick:Int
 proc:Int
 value:Int
structure zod2 where
 proc:Int
 value:Int
structure PLane where
 values:List Int
 waiters:List zod2
 taken:Int
 dropped:Int
structure zks2 where
 state:Int
 pc:Int
 regs:List Int
 cursor:Int
 timer:Int
 fired:Bool
 wake:Int
 lanes:List PLane
structure PPart where
 cursor:Int
 log:List zpi2
 lost:Int
 forbidden:Int
 owners:List Int
 queues:List (List Int)
structure zpj2 where
 tick:Int
 parts:List PPart
 procs:List zks2
section
variable (c:PCfg) (s:zpj2)
end
end Lf



namespace Lf
abbrev D (α:Type):Type:=List UInt8→Nat→Except (Int×Nat) (α×Nat)
namespace D
variable {α β:Type}
def ret (x:α):D α:=fun _ at_=>.ok (x,at_)
def bind (d:D α) (f:α→D β):D β:=fun b at_=>match d b at_ with
 | .ok (x,at2)=>f x b at2
 | .error e=>.error e
def must (d:D α) (wrong:α→Int):D α:=fun b at_=>match d b at_ with
 | .ok (x,at2)=>if wrong x=0 then .ok (x,at2) else .error (wrong x,at_)
 | .error e=>.error e
def many (d:List α→D α):Nat→List α→D (List α)
 | 0,acc=>ret acc
 | n+1,acc=>bind (d acc) fun x=>many d n (acc++ [x])
def map (f:α→β) (d:D α):D β:=bind d fun x=>ret (f x)
end D
end Lf

namespace Lf
namespace D
variable {α γ:Type}
end D
open D
def i64 (n:Nat):Int:=if n<9223372036854775808 then n else (n:Int)-18446744073709551616
end Lf

namespace Lf
abbrev By (k:Nat) (x:Int):Prop:=0≤x∧x<((256^k:Nat):Int)
end Lf

namespace Lf
def less (n:Int):Int:=n-1
end Lf









namespace Lf
open Go Go.Proofs Go.RowKit
theorem zne1 {P:Program} {g:FuncId} {args:List Value} {sh:Shape} {K:sh.T→Hp→Prop} {h:Hp} {x:sh.T} (hc:∀w,Sub h w→Calls P g args.toArray w fun e w'=>e=.returned (sh.enc x)∧w'=w) (hk:K x h):CallT P g args sh K h:=by
 intro w hs
 refine (hc w hs).mono ?_
 rintro e w' ⟨rfl,rfl⟩
 exact ⟨_,h,rfl,⟨x,rfl,hk⟩,⟨hs,Nat.le_refl _,fun i hi hn=>⟨rfl,hn⟩,rfl,rfl,rfl⟩⟩
def hasC (s:ByteArray) (c:UInt8):Bool:=decide (0≤Lib.indexByte s.data.toList c)
theorem zwr1 {s:ByteArray} {c:UInt8} {K:Bool→Hp→Prop} {h:Hp} (hk:K (hasC s c) h):CallT Tryz.prog zuk [.string s,.string ⟨#[c]⟩] zae K h:=by
 refine zne1 (x:=hasC s c) (fun w _=> ?_) hk
 exact Tryz.strings_Contains_one s c w
def insOf (x:S_api_Ins):PIns:=⟨x.Op,x.A,x.B,x.C,x.Imm⟩
def fieldTab :List (List UInt8):=[[],[97,105],[97,98],[97,98,99],[97,98,99],[97,98,99],[97,98,99],[97,98,99],[97,98,99],[97,98,99],[97,98,99],[97,98,99],[97,98,99],[97,98,99],[97,98,99],[97,98,99],[97,98,99],[97,98,99],[97,98,99],[97,98,99],[97,98],[97,98],[105],[97,105],[97,98,99],[97,98],[97,98],[97],[97],[105],[105],[97],[97],[97]]
def zlj (op:Int):ByteArray:=if 0≤op∧op<34 then ⟨(fieldTab.getD op.toNat []).toArray⟩ else ⟨#[]⟩
theorem zws1 :∀n,n<34→(decide (0≤Lib.indexByte (fieldTab.getD n []) 97),decide (0≤Lib.indexByte (fieldTab.getD n []) 98),decide (0≤Lib.indexByte (fieldTab.getD n []) 99),decide (0≤Lib.indexByte (fieldTab.getD n []) 105))=zai (n:Int):=by decide
theorem zbw2 (op:Int):(hasC (zlj op) 97,hasC (zlj op) 98,hasC (zlj op) 99,hasC (zlj op) 105)=zai op:=by
 by_cases h:0≤op∧op<34
 ·have e:=zws1 op.toNat (by omega)
  rw [Int.toNat_of_nonneg h.1] at e
  rw [←e]
  simp [hasC,zlj,h]
 ·have e1:zlj op=⟨#[]⟩:=if_neg h
  rw [e1]
  have e2:zai op=(false,false,false,false):=by
   unfold zai
   grind
  rw [e2]
  decide
theorem zoe2 :∀n,n<34→fieldTab[n]? =some (fieldTab.getD n []):=by decide
theorem zbl1 {α:Type} (l:List α) (i:Nat):List.get?Internal l i=l[i]?:=by
 simp
theorem zpy1 {op:Int} {Q:ByteArray→Hp→Prop} {h:Hp} (hq:Q (zlj op) h):zxv Tryz.prog op Q h:=by
 unfold zxv
 refine letW ?_
 by_cases h0:0≤op∧op<34
 ·rw [if_neg (by simp;omega)]
  refine ⟨h0,zlj op,?_,hq⟩
  have e:zlj op=⟨(fieldTab.getD op.toNat []).toArray⟩:=if_pos h0
  rw [zbl1,e]
  have e2:=zoe2 op.toNat (by omega)
  rw [Nat.mul_one]
  have e3:(fieldTab.map fun l=>Value.string ⟨l.toArray⟩)[op.toNat]? =some (Value.string ⟨(fieldTab.getD op.toNat []).toArray⟩):=by grind
  exact e3
 ·rw [if_pos (by simp;omega)]
  have e:zlj op=⟨#[]⟩:=if_neg h0
  grind
theorem zzq1 {P:Program} {g:FuncId} {first captured:Array Value} {args:List Value} {sh:Shape} {K:sh.T→Hp→Prop} {h:Hp} (hg:tb.call g=true) (hc:CallT P g (first.toList++args++captured.toList) sh K h):CallV P tb (.func (.func g) first captured) args sh K h:=
 ⟨g,first,captured,rfl,hg,hc⟩
theorem zyq {op:Int} {Q:Bool→Bool→Bool→Bool→Hp→Prop} {h:Hp} (hq:∀h',h≤h'→Q (zai op).1 (zai op).2.1 (zai op).2.2.1 (zai op).2.2.2 h'):zxt Tryz.prog op Q h:=by
 unfold zxt
 refine zho1 (zpy1 ?_)
 intro b t hn
 refine zuu1 (b:=b) (off:=0) (cs:=[.string ⟨#[]⟩]) ⟨t,zen⟩ (by simp) fun h3 hm hb=> ?_
 have hle:h≤h3:=(((Mv.new hn).trans hm).le (Hp.le_refl h) (by simp)).1
 have hl:LdIs h3 ⟨b,0,none⟩ [.string (zlj op)]:=hb.ldIs (n:=1) (by rfl)
 have one:∀(c:UInt8) (K:Bool→Hp→Prop),K (hasC (zlj op) c) h3→CallV Tryz.prog tb (.func (.func zae1) #[] #[.pointer (some ⟨b,0,none⟩)]) [.string ⟨#[c]⟩] zae K h3:=fun c K hk=>by
  refine zzq1 rfl (zff1 ?_)
  unfold zai1
  refine ld_at (sh:=shStr) (zlj op) hl ?_
  exact zwr1 hk
 have e:=zbw2 op
 grind
theorem zeh1 {P:Program} {has:Bool} {n:Int} {Q:Int→Hp→Prop} {h:Hp} (hq:Q (regP has n) h):ztg P has n Q h:=by
 unfold ztg
 refine letW ?_
 unfold regP at hq
 by_cases h1:has=false∧n≠0
 ·grind
 ·rw [if_neg h1] at hq
  rw [if_neg (by cases has<;>simp at h1 ⊢;exact h1)]
  refine letW ?_
  grind
theorem zhg2 {P:Program} {x:S_api_Ins} {has:Bool} {n locks:Int} {Q:Int→Hp→Prop} {h:Hp}
  (hq:Q (if has=false∧x.Imm≠0 then 11 else if (x.Op=22∨x.Op=23)∧(x.Imm<0∨n<x.Imm) then 12 else if (x.Op=29∨x.Op=30)∧(x.Imm<0∨locks≤x.Imm) then 13 else 0) h):zxu P x has n locks Q h:=by
 unfold zxu
 refine letW ?_
 by_cases h1:has=false∧x.Imm≠0
 ·grind
 ·rw [if_neg h1] at hq
  rw [if_neg (by cases has<;>simp at h1 ⊢;exact h1)]
  refine letW ?_
  by_cases h2:x.Op=22∨x.Op=23
  ·rw [if_pos (by simp;exact h2)]
   refine letW ?_
   grind
  ·rw [if_neg (fun e=>h2 e.1)] at hq
   rw [if_neg (by simp;omega)]
   refine letW ?_
   by_cases h4:x.Op=29∨x.Op=30
   ·rw [if_pos (by simp;exact h4)]
    refine letW ?_
    by_cases h5:x.Imm<0∨locks≤x.Imm
    ·rw [if_pos ⟨h4,h5⟩] at hq
     rw [if_pos (by simp;omega)]
     exact hq
    ·rw [if_neg (fun e=>h5 e.2)] at hq
     rw [if_neg (by simp;omega)]
     exact hq
   grind
theorem zkt2 {x:S_api_Ins} {n locks:Int} {Q:Int→Int→Hp→Prop} {h:Hp} (hq:∀h' at_,h≤h'→((zkb (insOf x) n locks).1≠0→at_=(zkb (insOf x) n locks).2)→Q (zkb (insOf x) n locks).1 at_ h'):zag1 Tryz.prog x n locks Q h:=by
 unfold zag1
 refine letW ?_
 have le:=Hp.le_refl h
 rw [show zkb (insOf x) n locks=(if x.Op<0∨34≤x.Op then (9,0)
  else if regP (zai x.Op).1 x.A≠0 then (regP (zai x.Op).1 x.A,1)
  else if regP (zai x.Op).2.1 x.B≠0 then (regP (zai x.Op).2.1 x.B,2)
  else if regP (zai x.Op).2.2.1 x.C≠0 then (regP (zai x.Op).2.2.1 x.C,3)
  else if (zai x.Op).2.2.2=false∧x.Imm≠0 then (11,4)
  else if (x.Op=22∨x.Op=23)∧(x.Imm<0∨n<x.Imm) then (12,4)
  else if (x.Op=29∨x.Op=30)∧(x.Imm<0∨locks≤x.Imm) then (13,4)
  else (0,0)) from rfl] at hq
 by_cases h1:x.Op<0∨34≤x.Op
 ·grind
 ·rw [if_neg h1] at hq
  rw [if_neg (by simp;omega)]
  refine zrj (zyq fun h1 l1=> ?_)
  dsimp only
  refine zoe (zeh1 ?_)
  by_cases h2:regP (zai x.Op).1 x.A≠0
  ·grind
  ·rw [if_neg h2] at hq
   rw [if_neg (by simpa using h2)]
   refine zoe (zeh1 ?_)
   by_cases h3:regP (zai x.Op).2.1 x.B≠0
   ·grind
   ·rw [if_neg h3] at hq
    rw [if_neg (by simpa using h3)]
    refine zoe (zeh1 ?_)
    by_cases h4:regP (zai x.Op).2.2.1 x.C≠0
    ·grind
    ·rw [if_neg h4] at hq
     rw [if_neg (by simpa using h4)]
     refine zhn1 (zhg2 ?_)
     grind
theorem zku2 {x:S_api_Ins} {n locks:Int} {Q:Int→Hp→Prop} {h:Hp} (hq:∀h',h≤h'→Q (zkb (insOf x) n locks).1 h'):zaf1 Tryz.prog x n locks Q h:=by
 unfold zaf1
 exact zjr1 (zkt2 fun h' _ l _=>hq h' l)
abbrev InsS (h:Hp) (l:Sl) (xs:List S_api_Ins):Prop:=Rs h sh_api_Ins 5 l xs
theorem zbx2 {l:Sl} {xs:List S_api_Ins} {locks:Int} {Q:Int→Int→Hp→Prop} {h:Hp} (r:InsS h l xs) (hq:∀h',h≤h'→Q (codeP (xs.map insOf) locks).1 (codeP (xs.map insOf) locks).2 h'):zgc1 Tryz.prog l locks Q h:=by
 unfold zgc1
 have hlen:=r.1
 refine letW ?_
 unfold codeP at hq
 by_cases h1:locks<0∨8<locks
 ·rw [if_pos h1] at hq
  rw [if_pos (by simp;omega)]
  exact hq h (Hp.le_refl h)
 ·rw [if_neg h1,List.length_map] at hq
  rw [if_neg (by simp;omega)]
  by_cases h2:256<xs.length
  ·rw [if_pos h2] at hq
   rw [if_pos (by simp;omega)]
   exact hq h (Hp.le_refl h)
  ·rw [if_neg h2] at hq
   rw [if_neg (by simp;omega)]
   refine LoopW1.intro (fun i k=>h≤k∧0≤i∧i≤(xs.length:Int)∧codeR xs.length locks ((xs.drop i.toNat).map insOf) i=codeR xs.length locks (xs.map insOf) 0) (fun i _=>(xs.length-i).toNat) ⟨Hp.le_refl h,by omega,by omega,rfl⟩ ?_
   rintro i k ⟨hle,h0,hi,he⟩
   by_cases h3:i<(xs.length:Int)
   ·rw [if_pos (decide_eq_true (by omega))]
    refine Rs.get (sh:=sh_api_Ins) (Rw.mono hle r) (fun _=>rfl) (by omega) h0 h3 fun x hx=> ?_
    refine zjq1 (zku2 fun k' hle'=> ?_)
    have hd:xs.drop i.toNat=x::xs.drop (i.toNat+1):=by
     obtain ⟨hx1,hx2⟩:=List.getElem?_eq_some_iff.1 hx
     rw [←hx2];simp
    rw [hd,List.map_cons,codeR] at he
    rw [hlen]
    by_cases h4:(zkb (insOf x) xs.length locks).1≠0
    ·rw [if_pos h4] at he
     rw [if_pos (by simpa using h4)]
     rw [←he] at hq
     exact hq k' (Hp.le_trans hle hle')
    ·rw [if_neg h4] at he
     rw [if_neg (by simpa using h4)]
     have hw:IntKind.wrap .i64 (i+1)=i+1:=zad (by omega) (by omega)
     rw [hw]
     refine ⟨⟨Hp.le_trans hle hle',by omega,by omega,?_⟩,by omega⟩
     grind
   ·rw [if_neg (by simp;omega)]
    have hd:xs.drop i.toNat=[]:=List.drop_eq_nil_of_le (by omega)
    rw [hd] at he
    rw [←he] at hq
    exact hq k hle
end Lf

namespace Lf
open Go Go.Proofs Go.RowKit
def txtB (l:List UInt8):ByteArray:=⟨l.toArray⟩
theorem zaz (l:List UInt8):(txtB l).data.toList=l:=by simp [txtB]
theorem zpz1 (t:ByteArray):txtB t.data.toList=t:=by cases t;simp [txtB]
theorem zqc (t:ByteArray):t.data.toList.length=t.size:=by rw [Array.length_toList];rfl
theorem zec (l:List UInt8):(txtB l).size=l.length:=by rw [←zqc,zaz]
theorem zko1 {a b:ByteArray} (h:a.data.toList=b.data.toList):a=b:=by rw [←zpz1 a,h,zpz1]
theorem zpy (t:ByteArray) (a b:Nat):t.extract a b=txtB ((t.data.toList.take b).drop a):=by
 apply zko1
 rw [zaz,ByteArray.data_extract,Array.toList_extract]
 show (t.data.toList.drop a).take (b-a)=_
 rw [List.drop_take]
theorem zzr1 (xs:List Nat):strN xs=txtB (bB xs):=rfl
theorem txt_beq {a b:ByteArray}:((a.toList==b.toList)=true)↔a.data.toList=b.data.toList:=by
 rw [ByteArray.toList_eq,ByteArray.toList_eq]
 exact beq_iff_eq
theorem zwt1 {s:ByteArray} {i:Nat} (hi:i<s.data.toList.length):s[i]! =s.data.toList[i]:=by
 have hs:i<s.size:=by rw [←zqc];exact hi
 rw [getElem!_pos s i hs]
 show s.data[i]=_
 simp
def hd (l:List UInt8) (c:UInt8):List UInt8:=l.takeWhile (· !=c)
theorem hd_le (l:List UInt8) (c:UInt8):(hd l c).length≤l.length:=(List.takeWhile_prefix (p:=(· !=c)) (l:=l)).length_le
theorem zqa1 (l:List UInt8) (c:UInt8):∀x∈hd l c,x≠c:=by
 intro x hx
 have:=List.all_takeWhile (l:=l) (p:=(· !=c))
 rw [List.all_eq_true] at this
 exact bne_iff_ne.1 (this x hx)
theorem zhh2 (l:List UInt8) (c:UInt8) (h:(hd l c).length≠l.length):l=hd l c++c::l.drop ((hd l c).length+1):=by
 induction l with
 | nil=>exact absurd rfl h
 | cons x r ih=>
  unfold hd at*
  rw [List.takeWhile_cons] at h ⊢
  split
  ·rename_i hc
   rw [if_pos hc] at h
   rw [List.length_cons,List.drop_succ_cons,List.cons_append,←ih (by simpa using h)]
  ·rename_i hc
   have:x=c:=by simpa using hc
   rw [this]
   rfl
theorem zlw2 {l:List UInt8} {c:UInt8} (h:(hd l c).length=l.length):hd l c=l:=(List.takeWhile_prefix (p:=(· !=c)) (l:=l)).eq_of_length h
theorem zlx2 {A B:List UInt8} {c:UInt8} (hA:∀x∈A,x≠c):hd (A++c::B) c=A:=by
 unfold hd
 rw [List.takeWhile_append_of_pos (fun x hx=>bne_iff_ne.2 (hA x hx))]
 simp
theorem zof2 (s:ByteArray) (c:UInt8):(List.range s.size).find? (fun i=>s[i]! ==c)=if (hd s.data.toList c).length=s.size then none else some (hd s.data.toList c).length:=by
 have hl:=zqc s
 by_cases h:(hd s.data.toList c).length=s.size
 ·rw [if_pos h,List.find?_eq_none]
  intro i hi e
  have hi:=List.mem_range.1 hi
  rw [zwt1 (by omega)] at e
  have ha:=zlw2 (h.trans hl.symm)
  exact zqa1 s.data.toList c _ (by rw [ha];exact List.getElem_mem (by omega)) (eq_of_beq e)
 ·rw [if_neg h,List.find?_range_eq_some]
  have hle:=hd_le s.data.toList c
  have hc:=zhh2 s.data.toList c (by omega)
  refine ⟨?_,List.mem_range.2 (by omega),?_⟩
  ·rw [zwt1 (by omega),beq_iff_eq]
   have:s.data.toList[(hd s.data.toList c).length]? =some c:=by
    rw [hc]
    rw [zlx2 (zqa1 s.data.toList c)]
    simp
   exact (List.getElem?_eq_some_iff.1 this).2
  ·intro j hj
   rw [zwt1 (by omega)]
   have:s.data.toList[j]? =(hd s.data.toList c)[j]?:=by
    rw [hc]
    rw [zlx2 (zqa1 s.data.toList c),List.getElem?_append_left hj]
   rw [List.getElem?_eq_getElem (by omega),List.getElem?_eq_getElem hj,Option.some.injEq] at this
   rw [this]
   have:=zqa1 s.data.toList c _ (List.getElem_mem hj)
   simpa using this
section
variable {h:Hp}
theorem zqb1 {s:ByteArray} {c:UInt8} {K:Int→Hp→Prop} (hk:K (if (hd s.data.toList c).length=s.size then -1 else ((hd s.data.toList c).length:Int)) h):
  SemE Tryz.prog (Extern.BytealgIndexByte.indexByte #[.string s,.int .u8 (((c.toNat):Nat):Int)]) (shInt .i64) K h:=by
 show semW Tryz.prog (match (List.range s.size).find? (fun i=>s[i]! ==(((c.toNat:Nat):Int).toNat.toUInt8)) with | some i=>pure (goInt i) | none=>pure (goInt (-1))) _ h
 have e:((c.toNat:Nat):Int).toNat.toUInt8=c:=by
  rw [Int.toNat_natCast]
  exact UInt8.ofNat_toNat
 rw [e,zof2]
 by_cases hh:(hd s.data.toList c).length=s.size
 ·rw [if_pos hh] at hk ⊢
  exact ⟨_,rfl,hk⟩
 ·rw [if_neg hh] at hk ⊢
  exact ⟨_,rfl,hk⟩
theorem zwu1 {s:ByteArray} {c:UInt8} {Q:ByteArray→ByteArray→Bool→Hp→Prop} (hs:s.size<4611686018427387904)
  (hq:Q (txtB (hd s.data.toList c)) (txtB (s.data.toList.drop ((hd s.data.toList c).length+1))) (decide ((hd s.data.toList c).length≠s.size)) h):znw Tryz.prog s ⟨#[c]⟩ Q h:=by
 unfold znw
 refine zjb ?_
 unfold zgp
 refine zid ?_
 have hl:=zqc s
 have hle:=hd_le s.data.toList c
 have fin:∀r:Int,r=(if (hd s.data.toList c).length=s.size then -1 else ((hd s.data.toList c).length:Int))→(if (decide (r≥(0:Int)))=true then
   (((0:Int)≤r∧r≤(((ByteArray.size s):Nat):Int))∧(((0:Int)≤(IntKind.wrap .i64 (r+(((ByteArray.size (⟨#[c]⟩:ByteArray)):Nat):Int)))∧(IntKind.wrap .i64 (r+(((ByteArray.size (⟨#[c]⟩:ByteArray)):Nat):Int)))≤(((ByteArray.size s):Nat):Int))∧Q (ByteArray.extract s 0 (Int.toNat r)) (ByteArray.extract s (Int.toNat (IntKind.wrap .i64 (r+(((ByteArray.size (⟨#[c]⟩:ByteArray)):Nat):Int)))) (ByteArray.size s)) true h))
   else Q s ⟨#[]⟩ false h):=by
  rintro r rfl
  by_cases hh:(hd s.data.toList c).length=s.size
  ·rw [if_pos hh]
   refine iteF (by decide) ?_
   rw [decide_eq_false (fun e=>e hh),zlw2 (hh.trans hl.symm),zpz1,List.drop_of_length_le (by omega)] at hq
   exact hq
  ·rw [if_neg hh]
   refine iteT (decide_eq_true (by omega)) ?_
   have e1:ByteArray.size (⟨#[c]⟩:ByteArray)=1:=rfl
   rw [e1,zad (n:=((hd s.data.toList c).length:Int)+((1:Nat):Int)) (by omega) (by omega),zpy,zpy]
   have e2:(((hd s.data.toList c).length:Int)+((1:Nat):Int)).toNat=(hd s.data.toList c).length+1:=by omega
   rw [e2,Int.toNat_natCast,List.drop_zero,List.take_of_length_le (by omega:s.data.toList.length≤s.size)]
   rw [decide_eq_true hh] at hq
   have e3:s.data.toList.take (hd s.data.toList c).length=hd s.data.toList c:=by
    conv=>lhs;rw [zhh2 s.data.toList c (by omega)]
    have e:∀A B:List UInt8,(A++B).take A.length=A:=fun A B=>by simp
    rw [show (hd (hd s.data.toList c++c::s.data.toList.drop ((hd s.data.toList c).length+1)) c).length=(hd s.data.toList c).length by rw [←zhh2 s.data.toList c (by omega)]]
    exact e _ _
   rw [e3]
   exact ⟨⟨by omega,by omega⟩,⟨by omega,by omega⟩,hq⟩
 unfold zfj
 refine letW (iteB (fun hy=> ?_) fun _=>iteT rfl ⟨⟨by decide,by show (0:Int)<1;decide⟩,zgb ?_⟩)
 ·refine fin 0 ?_
  have hy:(((ByteArray.toList ⟨#[c]⟩)==(ByteArray.toList s)))=true:=by
   rw [Bool.or_eq_true] at hy
   rcases hy with hy | hy
   ·exact absurd hy (by rw [show ByteArray.size (⟨#[c]⟩:ByteArray)=1 from rfl];decide)
   ·exact hy
  have e:=txt_beq.1 hy
  have e:s.data.toList=[c]:=e.symm
  have e2:s.size=1:=by rw [←hl,e];rfl
  have e3:hd [c] c=[]:=by simp [hd]
  rw [e,e2,e3]
  rfl
 ·unfold zdm
  exact zqb1 (fin _ rfl)
theorem zhi2 {s:ByteArray} {c:UInt8} {K:Int→Hp→Prop} (hk:K ((s.data.toList.count c:Nat):Int) h):CallT Tryz.prog zac1 [.string s,.string ⟨#[c]⟩] (shInt .i64) K h:=
 zne1 (sh:=shInt .i64) (x:=((s.data.toList.count c:Nat):Int)) (fun w _=>Tryz.strings_Count_one s c w) hk
theorem zyr {P:Program} {g:FuncId} {args:List Value} {sh:Shape} {K:sh.T→Hp→Prop} {x:sh.T} (hc:∀w,Sub h w→Calls P g args.toArray w fun e w'=>e=.returned (sh.enc x)∧Below w.heap.size w w') (hk:K x h):CallT P g args sh K h:=by
 intro w hs
 refine (hc w hs).mono ?_
 rintro e w' ⟨rfl,hb⟩
 exact ⟨_,h,rfl,⟨x,rfl,hk⟩,⟨fun i o e=>by rw [hb.block i (hs.lt e)];exact hs i o e,hb.size,fun i hi hn=>⟨hb.block i hi,hn⟩,hb.os,hb.tape,hb.output⟩⟩
theorem znf1 {fn s:ByteArray} {base bits k:Int} {K:Leaf→Hp→Prop} (e:EEnv h) (hs:s.size≤281474976710656) (h12:k=1∨k=2) (hk:∀er,isIfV er.v=true→zcg er.v=false→K er h):
  CallT Tryz.prog zcu [.string fn,.string s,.int .i64 base,.int .i64 bits,.iface 122 (.int .i64 k)] zah K h:=by
 intro w hw
 rcases h12 with rfl | rfl
 ·obtain ⟨te,pe,hl⟩:=e.rng
  refine (Tryz.strconv_toError_range fn s base bits (.iface te pe) w hs (zgr hw (hl 0 _ rfl)) (.inr ⟨te,pe,rfl⟩)).mono ?_
  rintro e w' ⟨N,rfl,_,_,hb⟩
  exact ⟨_,h,rfl,⟨⟨.iface 125 (.pointer (some ⟨N,0,none⟩)),rfl⟩,rfl,hk _ rfl rfl⟩,⟨fun i o e=>by rw [hb.block i (hw.lt e)];exact hw i o e,hb.size,fun i hi hn=>⟨hb.block i hi,hn⟩,hb.os,hb.tape,hb.output⟩⟩
 ·obtain ⟨te,pe,hl⟩:=e.syn
  refine (Tryz.strconv_toError_syntax fn s base bits (.iface te pe) w hs (zgr hw (hl 0 _ rfl)) (.inr ⟨te,pe,rfl⟩)).mono ?_
  rintro e w' ⟨N,rfl,_,_,hb⟩
  exact ⟨_,h,rfl,⟨⟨.iface 125 (.pointer (some ⟨N,0,none⟩)),rfl⟩,rfl,hk _ rfl rfl⟩,⟨fun i o e=>by rw [hb.block i (hw.lt e)];exact hw i o e,hb.size,fun i hi hn=>⟨hb.block i hi,hn⟩,hb.os,hb.tape,hb.output⟩⟩
theorem zti1 {s:ByteArray} {Q:Int→Leaf→Hp→Prop} (e:EEnv h) (hs:s.size≤281474976710656) (hok:∀v,Lib.parseIntB 64 s.data.toList=.ok v→Q v leafN h) (hno:∀n er,(∀v,Lib.parseIntB 64 s.data.toList≠ .ok v)→isIfV er.v=true→zcg er.v=false→Q n er h):
  zoa Tryz.prog s (10:Int) (64:Int) Q h:=by
 unfold zoa
 have bw:∀ {w w':World},(w'=w∨∃t,w'=Lib.bytesWorld w 5 t)→Below w.heap.size w w':=fun {w w'} hw=>by
  rcases hw with rfl | ⟨t,rfl⟩
  ·exact Below.refl _ _
  ·exact Lib.bytesWorld_below _ _ _
 have con:=fun w=>Tryz.internal_strconv_ParseInt_10_all64 s (by omega) w
 rcases hq:Lib.parseIntB 64 s.data.toList with v | _ | _
 ·refine zyr (sh:=zho (shInt .i64) zah) (x:=(v,leafN)) (fun w _=>(con w).mono ?_) ?_
  ·rintro e w' ⟨rfl,hw⟩
   rw [hq]
   exact ⟨rfl,bw hw⟩
  ·exact ⟨rfl,iteF (by show ¬((!(zcg Value.nilIface))=true);decide) (encN (hok v hq))⟩
 ·refine zyr (sh:=zho (shInt .i64) zah) (x:=((0:Int),⟨.iface 122 (.int .i64 2),rfl⟩)) (fun w _=>(con w).mono ?_) ?_
  ·rintro e w' ⟨rfl,hw⟩
   rw [hq]
   exact ⟨rfl,bw hw⟩
  ·exact ⟨rfl,iteT rfl (znf1 e hs (.inr rfl) fun er i1 i2=>encL (hno _ _ (fun v e=>by rw [hq] at e;cases e) i1 i2))⟩
 ·refine zyr (sh:=zho (shInt .i64) zah) (x:=(Lib.intSat 64 s.data.toList,⟨.iface 122 (.int .i64 1),rfl⟩)) (fun w _=>(con w).mono ?_) ?_
  ·rintro e w' ⟨rfl,hw⟩
   rw [hq]
   exact ⟨rfl,bw hw⟩
  ·exact ⟨rfl,iteT rfl (znf1 e hs (.inl rfl) fun er i1 i2=>encL (hno _ _ (fun v e=>by rw [hq] at e;cases e) i1 i2))⟩
theorem zkp1 {i:Int} {Q:ByteArray→Hp→Prop} (hi:InI i) (t:ztm h) (hk:∀h',h≤h'→Q (txtB (decB i)) h'):zmn Tryz.prog i (10:Int) Q h:=by
 unfold zmn
 refine zie (zhf1 hi.1 hi.2 t fun zs h' hl hz=> ?_)
 rw [zfl1 hz]
 exact hk h' hl
theorem zzs1 {i:Int} {Q:ByteArray→Hp→Prop} (hi:InI i) (t:ztm h) (hk:∀h',h≤h'→Q (txtB (decB i)) h'):zpz Tryz.prog i Q h:=
 zvx1 hi.1 hi.2 t fun zs h' hl hz=>by
  rw [zfl1 hz]
  exact hk h' hl
theorem zkq1 {s:ByteArray} {Q:Int→Bool→Hp→Prop} (e:VEnv h) (hs:s.size≤281474976710656) (hk:∀h' n,h≤h'→(∀v,intV s.data.toList=some v→n=v)→Q n (intV s.data.toList).isSome h'):zdp1 Tryz.prog s Q h:=by
 unfold zdp1
 refine zbd1 (zti1 e.ee hs (fun v hv=> ?_) fun n er hn i1 i2=> ?_)
 ·refine ⟨rfl,effB rfl (zjt (zkp1 (zwj1 hv) e.pe.env.small fun h' hl=>letW ?_))⟩
  have:=hk h' v hl
  unfold intV at this
  rw [hv] at this
  by_cases hd:decB v=s.data.toList
  ·rw [show (zcg leafN.v&&((ByteArray.toList (txtB (decB v)))==(ByteArray.toList s)))=true by
    rw [Bool.and_eq_true];exact ⟨rfl,txt_beq.2 (by rw [zaz];exact hd)⟩]
   simp only [hd,if_true] at this
   exact this fun u hu=>by cases hu;rfl
  ·rw [show (zcg leafN.v&&((ByteArray.toList (txtB (decB v)))==(ByteArray.toList s)))=false by
    rw [Bool.and_eq_false_iff];exact .inr (by rw [Bool.eq_false_iff];intro hh;exact hd (by have:=txt_beq.1 hh;rw [zaz] at this;exact this))]
   simp only [hd,if_false] at this
   exact this fun u hu=>by cases hu
 ·refine ⟨i1,effF i2 ⟨#[]⟩ (letW ?_)⟩
  rw [i2,Bool.false_and]
  have e1:intV s.data.toList=none:=by
   unfold intV
   split
   ·rename_i v hv;exact absurd hv (hn v)
   ·rfl
  have:=hk h n (Hp.le_refl h)
  rw [e1] at this
  exact this fun u hu=>by cases hu
theorem zei1 {n:Int} {Q:Bool→Hp→Prop} (hq:Q (zln n) h):zdo1 Tryz.prog n Q h:=by
 unfold zdo1
 exact letW hq
def fT :ByteArray:=⟨#[102]⟩
theorem zhj2 {s:ByteArray} {Q:Int→Bool→Hp→Prop} (e:VEnv h) (hs:s.size≤281474976710656) (hk:∀h' n,h≤h'→(∀v,setOf s.data.toList=some v→n=v)→Q n (setOf s.data.toList).isSome h'):zjl1 Tryz.prog s Q h:=by
 unfold zjl1
 have hl:=zqc s
 refine zgg (zfp1 (p:=fT) (fun hn=> ?_) fun h1 h2=> ?_)
 ·refine iteF (by decide) (zcw1 (zkq1 e hs fun h' n l' hv=> ?_))
  have key:setOf s.data.toList=(intV s.data.toList).filter zln:=by
   cases hq:s.data.toList with
   | nil=>rfl
   | cons c r=>
    show (if c=102 then _ else _)=_
    refine if_neg fun hc=>hn ⟨?_,?_⟩
    ·show 1≤s.size
     rw [←hl,hq];simp
    ·rw [zpy,hq,hc]
     rfl
  have:=hk h' n l'
  rw [key] at this
  cases hi:intV s.data.toList with
  | none=>
   rw [hi] at this
   refine effF rfl true (letW ?_)
   exact this fun v hv=>by cases hv
  | some v=>
   rw [hi] at this
   obtain rfl:=hv v hi
   rw [Option.filter_some] at this
   refine effB rfl (zvr (zei1 (letW ?_)))
   rw [show ((some n).isSome&&zln n)=zln n from Bool.true_and _]
   cases hs:zln n with
   | true=>rw [hs] at this;exact this fun v hv=>by cases hv;rfl
   | false=>rw [hs] at this;exact this fun v hv=>by cases hv
 ·have h1:1≤s.size:=h1
  obtain ⟨c,r,hq⟩:∃c r,s.data.toList=c::r:=by
   cases hq:s.data.toList with
   | nil=>rw [hq] at hl;simp at hl;omega
   | cons c r=>exact ⟨c,r,rfl⟩
  have hc:c=102:=by
   have e1:=congrArg (fun t:ByteArray=>t.data.toList) h2
   rw [zpy,zaz,hq] at e1
   have e1: [c]=[102]:=e1
   exact (List.cons.inj e1).1
  subst hc
  have e3:s.extract fT.size s.size=txtB r:=by
   rw [zpy,←hl,List.take_of_length_le (Nat.le_refl _),hq]
   rfl
  rw [e3]
  have hr:(txtB r).size≤281474976710656:=by
   rw [zec]
   rw [hq,List.length_cons] at hl
   omega
  refine iteT rfl (zld1 (zst1 e hr fun h' x er l' sd=> ?_))
  have key:setOf s.data.toList=(fltV r).filter fun n=> !zln n:=by
   rw [hq]
   show (if (102:UInt8)=102 then (fltV r).filter (fun n=> !zln n) else (intV (102::r)).filter zln)=_
   exact if_pos rfl
  have:=hk h' x l'
  rw [key] at this
  have sd:=zgr2 sd
  rw [zaz] at sd
  rcases sd with ⟨e1,rfl⟩ | ⟨e1,rfl⟩
  ·rw [e1,Option.filter_some] at this
   refine effB rfl (zvr (zei1 (letW ?_)))
   rw [show (((0:Int)==0)&& !zln x)= !zln x from Bool.true_and _]
   cases hs:zln x with
   | true=>rw [hs] at this;exact this fun v hv=>by cases hv
   | false=>rw [hs] at this;exact this fun v hv=>by cases hv;rfl
  ·rw [e1] at this
   refine effF rfl true (letW ?_)
   exact this fun v hv=>by cases hv
end
end Lf

namespace Go.Proofs
open Go.Shelf
def Tryz.lays156_ren :Go.Shelf.Ren:=⟨fun | 156=>118 | 165=>93 | 166=>42 | 169=>44 | 240=>68 | 241=>130 | 276=>112 | 277=>164 | n=>n,fun | 31=>23 | 9=>9 | 3=>3 | 4=>4 | 0=>0 | 20=>20 | 72=>76 | 76=>57 | 70=>73 | 37=>74 | 75=>56 | 127=>99 | 164=>135 | 5=>5 | 80=>78 | n=>n,fun | n=>n⟩
theorem Tryz.lays156 :Go.Proofs.Lays.n156 Tryz.prog Tryz.lays156_ren:={
 mixed:=by kernel_rfl
 f156:=Tryz.func118.trans (congrArg some (by kernel_rfl))
 f165:=Tryz.func93.trans (congrArg some (by kernel_rfl))
 f166:=Tryz.func42.trans (congrArg some (by kernel_rfl))
 f169:=Tryz.func44.trans (congrArg some (by kernel_rfl))
 f240:=Tryz.func68.trans (congrArg some (by kernel_rfl))
 f241:=Tryz.func130.trans (congrArg some (by kernel_rfl))
 f276:=Tryz.func112.trans (congrArg some (by kernel_rfl))
 f277:=Tryz.func164.trans (congrArg some (by kernel_rfl))
 t0:=Tryz.underlying0
 a0:=Tryz.isAgg0
 z0:=Tryz.sizeOf0
 v0:=Tryz.zeroValue0
 t3:=Tryz.underlying3
 a3:=Tryz.isAgg3
 z3:=Tryz.sizeOf3
 v3:=Tryz.zeroValue3
 t4:=Tryz.underlying4
 a4:=Tryz.isAgg4
 z4:=Tryz.sizeOf4
 v4:=Tryz.zeroValue4
 t9:=Tryz.underlying9
 a9:=Tryz.isAgg9
 z9:=Tryz.sizeOf9
 v9:=Tryz.zeroValue9
 t20:=Tryz.underlying20
 a20:=Tryz.isAgg20
 z20:=Tryz.sizeOf20
 v20:=Tryz.zeroValue20
 t31:=Tryz.underlying23
 a31:=Tryz.isAgg23
 z31:=Tryz.sizeOf23
 v31:=Tryz.zeroValue23
 t37:=Tryz.underlying74
 a37:=Tryz.isAgg74
 z37:=Tryz.sizeOf74
 v37:=Tryz.zeroValue74
 t70:=Tryz.underlying73
 a70:=Tryz.isAgg73
 z70:=Tryz.sizeOf73
 v70:=Tryz.zeroValue73
 t72:=Tryz.underlying76
 a72:=Tryz.isAgg76
 z72:=Tryz.sizeOf76
 v72:=Tryz.zeroValue76
 t75:=Tryz.underlying56
 a75:=Tryz.isAgg56
 z75:=Tryz.sizeOf56
 v75:=Tryz.zeroValue56
 t76:=Tryz.underlying57
 a76:=Tryz.isAgg57
 z76:=Tryz.sizeOf57
 v76:=Tryz.zeroValue57
 t127:=Tryz.underlying99
 a127:=Tryz.isAgg99
 z127:=Tryz.sizeOf99
 v127:=Tryz.zeroValue99
 t164:=Tryz.underlying135
 a164:=Tryz.isAgg135
 z164:=Tryz.sizeOf135
 v164:=Tryz.zeroValue135}
theorem Tryz.Builder_Extra_156 :Builder.Extra Tryz.prog Tryz.lays156_ren:={
 sizeBuilder:=by kernel_rfl
 liesBuilder:=by kernel_rfl
 t5:=Tryz.underlying5
 a5:=Tryz.isAgg5
 z5:=Tryz.sizeOf5
 v5:=Tryz.zeroValue5
 infoByte:=by kernel_rfl
 cellsByte:=by kernel_rfl
 sizeByte:=by kernel_rfl
 neB5:=by decide}
open Go.RowKit in
theorem Tryz.strings_Join_none (a:Option Addr) (c:Nat) (sep:ByteArray) (w:World):
  Calls Tryz.prog 118 #[.slice a 0 c,.string sep] w fun e w'=>e=.returned (.string ⟨#[]⟩)∧w'=w:=Any.strings_Join_none Tryz.lays156 Tryz.Builder_Extra_156 a c sep w
open Go.RowKit in
theorem Tryz.strings_Join (bk o c:Nat) (xs:List ByteArray) (sep:ByteArray) (w:World) (hcells:∀(j:Nat) x,xs[j]? =some x→w.cell? ⟨bk,o+j,none⟩=some (.string x)) (hbk:bk<w.heap.size) (hN:xs.length≤140737488355328) (hcap:xs.length≤c) (hlen:(Lib.join (xs.map (·.data.toList)) sep.data.toList).length≤140737488355328):
  Calls Tryz.prog 118 #[.slice (some ⟨bk,o,none⟩) xs.length c,.string sep] w fun e w'=>e=.returned (.string ⟨(Lib.join (xs.map (·.data.toList)) sep.data.toList).toArray⟩)∧Below w.heap.size w w':=Any.strings_Join Tryz.lays156 Tryz.Builder_Extra_156 bk o c xs sep w hcells hbk hN hcap hlen
end Go.Proofs

namespace Lf
open Go Go.Proofs Go.RowKit
theorem zih1 (c:UInt8) (l:List UInt8):(⟨⟨c::(txtB l).data.toList⟩⟩:ByteArray)=txtB (c::l):=by
 apply zko1
 rw [zaz (c::l)]
 show c::(txtB l).data.toList=_
 rw [zaz]
theorem zqc1 (a b:List UInt8):(⟨⟨List.append (txtB a).data.toList b⟩⟩:ByteArray)=txtB (a++b):=by
 apply zko1
 rw [zaz (a++b)]
 show (txtB a).data.toList++b=_
 rw [zaz]
theorem zzt1 {k:Nat} (hk:k<34):(wordTab.map fun l=>Value.string ⟨l.toArray⟩)[k]? =some (Value.string (txtB (wordL k))):=by
 have hl:k<wordTab.length:=hk
 rw [List.getElem?_map,List.getElem?_eq_getElem hl]
 unfold wordL
 rw [List.getD_eq_getElem?_getD,List.getElem?_eq_getElem hl]
 rfl
theorem inReg {has:Bool} {n:Int} (hr:regP has n=0) (ht:has=true):InI n:=by
 unfold regP at hr
 rw [if_neg (by rw [ht];simp)] at hr
 unfold InI
 split at hr
 ·cases hr
 ·omega
theorem zqd1 {has:Bool} {w:List UInt8} {m:Nat} (hm:has=true→w.length≤m):(fldB has w).length≤m+1:=by
 cases has with
 | true=>have:=hm rfl;simp [fldB];omega
 | false=>simp [fldB]
theorem zfq1 {x:PIns} {n:Int} (hw:(zkb x n 8).1=0) (hi:InI x.imm):(lineB x).length≤110:=by
 obtain ⟨⟨p0,p1⟩,pa,pb,pc, -, -⟩:=wrong_right.1 hw
 have hreg:∀ {has:Bool} {n:Int},regP has n=0→(fldB has (regB n)).length≤23:=fun {has n} hr=>zqd1 fun ht=>by
  have:=zbz1 (inReg hr ht)
  unfold regB
  rw [List.length_cons]
  omega
 have hnum:(fldB (zai x.op).2.2.2 (numB x.op x.imm)).length≤27:=zqd1 fun _=>by
  unfold numB
  split
  ·have:=zzo1 x.imm;rw [List.length_cons];omega
  ·have:=zbz1 hi;omega
 unfold lineB
 simp only [List.length_append]
 have h0:=zpw1 x.op.toNat (by omega)
 have h1:=hreg pa
 have h2:=hreg pb
 have h3:=hreg pc
 omega
section
variable {h:Hp}
theorem zng1 {k:Nat} {Q:ByteArray→Hp→Prop} (hk:k<34) (hq:Q (txtB (wordL k)) h):zgd1 Tryz.prog (k:Int) Q h:=by
 unfold zgd1
 refine ⟨⟨by omega,by omega⟩,txtB (wordL k),?_,hq⟩
 rw [zbl1,Nat.mul_one,Int.toNat_natCast]
 exact zzt1 hk
theorem zby2 {k:Nat} {Q:ByteArray→Hp→Prop} (hk:k<34) (hq:Q (txtB (wordL k)) h):zks Tryz.prog (k:Int) Q h:=by
 unfold zks
 refine ⟨⟨by omega,by omega⟩,txtB (wordL k),?_,hq⟩
 rw [zbl1]
 first | rw [Nat.zero_add,Nat.mul_one,Int.toNat_natCast] | rw [Nat.mul_one,Int.toNat_natCast]
 exact zzt1 hk
theorem zhk2 {w:List UInt8} (h:∀k,k<34→wordL k≠w):opOf w=none:=by
 unfold opOf
 rw [List.find?_eq_none]
 intro k hk e
 exact h k (List.mem_range.1 hk) (eq_of_beq e)
theorem zkv2 {s:ByteArray} {Q:Int→Bool→Hp→Prop} (h1:∀k,opOf s.data.toList=some k→Q (k:Int) true h) (h0:opOf s.data.toList=none→Q 0 false h):zoj1 Tryz.prog s Q h:=by
 unfold zoj1
 refine LoopW1.intro (fun i k=>k=h∧∃j:Nat,i=(j:Int)∧j≤34∧∀t,t<j→wordL t≠s.data.toList) (fun i _=>(34-i).toNat) ⟨rfl,0,rfl,by omega,fun t ht=>by omega⟩ ?_
 rintro _ k ⟨rfl,j,rfl,hj,hn⟩
 by_cases hlt:j<34
 ·refine iteT (decide_eq_true (by omega)) (zfe1 (zng1 hlt ?_))
  refine iteB (fun he=> ?_) fun he=> ?_
  ·have e:=txt_beq.1 he
   rw [zaz] at e
   exact h1 j (by rw [←e];exact ztd1 hlt)
  ·have e:wordL j≠s.data.toList:=fun e=>he (txt_beq.2 (by rw [zaz];exact e))
   rw [zad (by omega) (by omega)]
   refine ⟨⟨rfl,j+1,by omega,by omega,fun t ht=> ?_⟩,by omega⟩
   by_cases ht2:t<j
   ·exact hn t ht2
   ·rw [show t=j by omega];exact e
 ·exact iteF (fun hh=>hlt (by have:=of_decide_eq_true hh;omega)) (h0 (zhk2 fun t ht=>hn t (by omega)))
theorem zfr1 {n:Int} {Q:ByteArray→Hp→Prop} (hn:InI n) (t:ztm h) (hk:∀h',h≤h'→Q (txtB (regB n)) h'):zus Tryz.prog n Q h:=by
 unfold zus
 refine zlf (zzs1 hn t fun h' hl=>⟨?_,?_⟩)
 ·rw [zec]
  have:=zbz1 hn
  omega
 ·rw [zih1]
  exact hk h' hl
theorem zhl2 {x:S_api_Ins} {Q:ByteArray→Hp→Prop} (hn:InI x.Imm) (e:PEnv h) (hk:∀h',h≤h'→Q (txtB (numB x.Op x.Imm)) h'):zah1 Tryz.prog x Q h:=by
 unfold zah1
 have hc:∀(r:Bool),((x.Op==(1:Int))=true→r=zln x.Imm)→LetW ((x.Op==(1:Int))&&(!r)) fun y=>
   (if y=true then CallT Tryz.prog zpf [(.int .i64 x.Imm)] shStr (fun r1 h2=>((1+(ByteArray.size r1))≤9223372036854775807∧Q ⟨⟨(102::r1.data.toList)⟩⟩ h2)) h
   else CallT Tryz.prog zfw [(.int .i64 x.Imm),(.int .i64 (10:Int))] shStr (fun r1 h2=>Q r1 h2) h):=by
  intro r hr
  refine letW ?_
  by_cases h1:x.Op=1∧zln x.Imm=false
  ·have e1:(x.Op==(1:Int))=true:=beq_iff_eq.2 h1.1
   rw [e1,hr e1,h1.2]
   refine iteT rfl (zvj (zbk1 (zkm1 x.Imm) (zkl1 _) e fun h' out hl hi=>⟨?_,?_⟩))
   ·rw [zan]
    have:=(zpx hi).1
    omega
   ·have:=hk h' hl
    unfold numB at this
    rw [if_pos h1,zwk1 hi] at this
    rw [zzr1,zih1]
    exact this
  ·refine iteF (fun hh=> ?_) (zjt (zkp1 hn e.env.small fun h' hl=> ?_))
   ·rw [Bool.and_eq_true] at hh
    have e1:x.Op=1:=beq_iff_eq.1 hh.1
    refine h1 ⟨e1,?_⟩
    rw [←hr hh.1]
    simpa using hh.2
   ·have:=hk h' hl
    unfold numB at this
    rw [if_neg h1] at this
    exact this
 by_cases hb:(x.Op==(1:Int))=true
 ·exact effB hb (zvr (zei1 (hc _ fun _=>rfl)))
 ·exact effF (Bool.eq_false_iff.2 hb) true (hc _ fun hh=>absurd hh hb)
def eTx (x:ByteArray):List Value:=zaj (shStr.enc x)
theorem zbz2 (w:List UInt8):∀r:List (List UInt8),Lib.join (w::r) [32]=w++r.flatMap (32:: ·):=by
 intro r
 unfold Lib.join
 induction r generalizing w with
 | nil=>simp [List.intercalate]
 | cons x r ih=>
  have e: [(32:UInt8)].intercalate (w::x::r)=w++(32:: [(32:UInt8)].intercalate (x::r)):=by
   simp [List.intercalate,List.intersperse]
  rw [e,ih,List.flatMap_cons]
  rfl
theorem zkw2 {h0:Hp} {l:Sl} {xs:List ByteArray} {K:ByteArray→Hp→Prop} (o:Own h0 h 1 eTx l xs) (hn:xs.length≤100)
  (hlen:(Lib.join (xs.map (·.data.toList)) [32]).length≤1000000) (hk:K (txtB (Lib.join (xs.map (·.data.toList)) [32])) h):CallT Tryz.prog zct1 [l.v,.string ⟨#[32]⟩] shStr K h:=by
 refine zyr (x:=txtB (Lib.join (xs.map (·.data.toList)) [32])) (fun w hs=> ?_) hk
 obtain ⟨o1,o2,o3⟩:=o
 rcases o3 with ⟨e,ec⟩ | ⟨b,cs,t,e,hb,hl,ht,_⟩
 ·have hx:xs=[]:=List.length_eq_zero_iff.1 (by omega)
  subst hx
  have e0:l.len=0:=o1
  have ev:l.v=.slice none 0 l.cap:=by unfold Sl.v;rw [e,e0]
  rw [ev]
  refine (Tryz.strings_Join_none none l.cap ⟨#[32]⟩ w).mono ?_
  rintro e w' ⟨rfl,rfl⟩
  exact ⟨rfl,Below.refl _ _⟩
 ·have ev:l.v=.slice (some ⟨b,0,none⟩) xs.length l.cap:=by unfold Sl.v;rw [e,o1]
  rw [ev]
  refine Tryz.strings_Join b 0 l.cap xs ⟨#[32]⟩ w (fun j x hx=> ?_) (hs.lt hb) (by omega) (by omega) (Nat.le_trans hlen (by omega))
  refine zgr hs ?_
  have hcb:hcell h ⟨b,0+j,none⟩=cs[j]?:=by
   unfold hcell
   rw [Nat.zero_add]
   simp [hb]
  rw [hcb]
  have hj:j<xs.length:=(List.getElem?_eq_some_iff.1 hx).1
  have h1:(cs.take (l.len*1))[j]? =some (.string x):=by
   rw [ht]
   have:=zob1 (enc:=eTx) (sz:=1) (fun _=>rfl) xs j x hx 0 (.string x) rfl
   simpa using this
  rw [List.getElem?_take] at h1
  split at h1
  ·exact h1
  ·cases h1
theorem zca2 {h0:Hp} {l:Sl} {xs:List ByteArray} {Q:ByteArray→Hp→Prop} (o:Own h0 h 1 eTx l xs) (hn:xs.length≤100) (hlen:(Lib.join (xs.map (·.data.toList)) [32]).length≤1000000)
  (hk:Q (txtB (Lib.join (xs.map (·.data.toList)) [32]++ [10])) h):zge1 Tryz.prog l Q h:=by
 unfold zge1
 refine zkw2 o hn hlen ⟨?_,?_⟩
 ·rw [zec];omega
 ·rw [zqc1]
  exact hk
theorem zqe1 {x:S_api_Ins} {n:Int} {Q:ByteArray→Hp→Prop} (hw:(zkb (insOf x) n 8).1=0) (hi:InI x.Imm) (e:PEnv h) (hk:∀h',h≤h'→Q (txtB (lineB (insOf x)++ [10])) h'):zxs Tryz.prog x Q h:=by
 obtain ⟨⟨p0,p1⟩,pa,pb,pc, -, -⟩:=wrong_right.1 hw
 obtain ⟨op,a,b,c,imm⟩:=x
 have p0:0≤op:=p0
 have p1:op<34:=p1
 have pa:regP (zai op).1 a=0:=pa
 have pb:regP (zai op).2.1 b=0:=pb
 have pc:regP (zai op).2.2.1 c=0:=pc
 have hi:InI imm:=hi
 obtain ⟨k,rfl⟩:∃k:Nat,op=k:=⟨op.toNat,by omega⟩
 unfold zxs
 refine zfe1 (zng1 (by omega) ?_)
 refine zfx1 (h0:=h) (sz:=1) (enc:=eTx) (xs:=[txtB (wordL k)]) (Hp.le_refl h) rfl (fun _=>rfl) fun a1 h2 l2 o2=> ?_
 refine zrj (zyq fun h3 l3=> ?_)
 dsimp only
 have o3:=o2.mono l3
 have l23:=Hp.le_trans l2 l3
 have more:∀ {has:Bool} {w:List UInt8} {g:FuncId} {args:List Value} {l:Sl} {xs:List ByteArray} {k:Hp} {R:Sl→Hp→Prop},h≤k→Own h k 1 eTx l xs→xs.length≤4→
   (has=true→∀ {K:ByteArray→Hp→Prop},(∀k',k≤k'→K (txtB w) k')→CallT Tryz.prog g args shStr K k)→
   (∀l' k',h≤k'→Own h k' 1 eTx l' (xs++if has then [txtB w] else [])→R l' k')→
   (if has=true then CallT Tryz.prog g args shStr (fun r5 h4=>NewW [(.string r5)] (fun a1 h5=>zbh 1 16 [(.string ⟨#[]⟩)] l ⟨(some a1),1,1⟩ (fun r6 h6=>R r6 h6) h5) h4) k else R l k):=by
  intro has w g args l xs k R hk o hx hc hr
  cases has with
  | true=>
   refine iteT rfl (hc rfl fun k' lk=> ?_)
   exact zgm1 (enc:=eTx) (ys:=[txtB w]) (Hp.le_trans hk lk) (o.mono lk) rfl rfl (fun _=>rfl) (fun _=>rfl) rfl (by simp only [List.length_cons,List.length_nil];omega) fun l' h' hl o' _=>hr l' h' hl o'
  | false=>exact iteF (by decide) (hr l k hk (by simpa using o))
 have hlen0:=zpw1 k (by omega)
 refine JoinW1.intro (fun l k'=>h≤k'∧Own h k' 1 eTx l ([txtB (wordL k)]++if (zai (k:Int)).1 then [txtB (regB a)] else []))
  (more l23 o3 (by simp) (fun ht _ hK=>zlg (zfr1 (inReg pa ht) (e.mono l23).env.small hK)) fun l' k' hl o=>⟨hl,o⟩) ?_
 rintro l k1 ⟨m1,q1⟩
 refine JoinW1.intro (fun l k'=>h≤k'∧Own h k' 1 eTx l (([txtB (wordL k)]++if (zai (k:Int)).1 then [txtB (regB a)] else [])++if (zai (k:Int)).2.1 then [txtB (regB b)] else []))
  (more m1 q1 (by split<;>simp) (fun ht _ hK=>zlg (zfr1 (inReg pb ht) (e.mono m1).env.small hK)) fun l' k' hl o=>⟨hl,o⟩) ?_
 rintro l k2 ⟨m2,q2⟩
 refine JoinW1.intro (fun l k'=>h≤k'∧Own h k' 1 eTx l ((([txtB (wordL k)]++if (zai (k:Int)).1 then [txtB (regB a)] else [])++if (zai (k:Int)).2.1 then [txtB (regB b)] else [])++if (zai (k:Int)).2.2.1 then [txtB (regB c)] else []))
  (more m2 q2 (by split<;>split<;>simp) (fun ht _ hK=>zlg (zfr1 (inReg pc ht) (e.mono m2).env.small hK)) fun l' k' hl o=>⟨hl,o⟩) ?_
 rintro l k3 ⟨m3,q3⟩
 refine JoinW1.intro (fun l k'=>h≤k'∧Own h k' 1 eTx l (((([txtB (wordL k)]++if (zai (k:Int)).1 then [txtB (regB a)] else [])++if (zai (k:Int)).2.1 then [txtB (regB b)] else [])++if (zai (k:Int)).2.2.1 then [txtB (regB c)] else [])++if (zai (k:Int)).2.2.2 then [txtB (numB (k:Int) imm)] else []))
  (more m3 q3 (by split<;>split<;>split<;>simp) (fun _ _ hK=>zjs1 (zhl2 (x:=⟨(k:Int),a,b,c,imm⟩) hi (e.mono m3) hK)) fun l' k' hl o=>⟨hl,o⟩) ?_
 rintro l k4 ⟨m4,q4⟩
 have one:∀(has:Bool) (w:List UInt8),((if has then [txtB w] else []).map (·.data.toList)).flatMap (32:: ·)=fldB has w:=by
  intro has w
  cases has with
  | true=>simp [fldB,zaz]
  | false=>rfl
 have ej:Lib.join ((((([txtB (wordL k)]++if (zai (k:Int)).1 then [txtB (regB a)] else [])++if (zai (k:Int)).2.1 then [txtB (regB b)] else [])++if (zai (k:Int)).2.2.1 then [txtB (regB c)] else [])++if (zai (k:Int)).2.2.2 then [txtB (numB (k:Int) imm)] else []).map (·.data.toList)) [32]=lineB ⟨(k:Int),a,b,c,imm⟩:=by
  simp only [List.append_assoc,List.map_append,List.map_cons,List.map_nil,List.cons_append,List.nil_append,zaz]
  rw [zbz2]
  simp only [List.flatMap_append,one]
  unfold lineB
  simp only [Int.toNat_natCast]
 refine zox1 (zca2 q4 (by split<;>split<;>split<;>split<;>simp) ?_ ?_)
 ·rw [ej]
  have:=zfq1 (x:=⟨(k:Int),a,b,c,imm⟩) hw hi
  omega
 ·rw [ej]
  exact hk k4 m4
end
end Lf

namespace Go.Proofs
open Go.Shelf Go.RowKit
set_option maxHeartbeats 2000000 in
set_option maxRecDepth 100000 in
theorem ztj1 {P:Program} {ρ:Ren} (L:Lays.n169 P ρ) (X:Builder.Extra P ρ) (b g cap:Nat) (p:Value) (cur:Array Value) (l:List UInt8) (w:World) (h0:l≠ []) (h63:l.length≤1000000)
  (hbk:w.heap[b]? =some (.cells #[p,.slice (some ⟨g,0,none⟩) l.length cap] (ρ.t 72) (0,0))) (hg:w.heap[g]? =some (.cells cur (ρ.t 5) (0,0))) (hcap:l.length≤cap) (hcs:l.length≤cur.size) (hcell:∀(j:Nat) (x:UInt8),l[j]? =some x→cur[j]? =some (.int .u8 x.toNat)):
  Calls P (ρ.f 169) #[.pointer (some ⟨b,0,none⟩)] w fun e w'=>e=.returned (.string ⟨l.toArray⟩)∧w'=w.drew.freeze ⟨g,0,none⟩ l.length:=by
 have hl0:l.length≠0:=by simpa using h0
 have c1:w.drew.cell? ⟨b,1,none⟩=some (.slice (some ⟨g,0,none⟩) l.length cap):=by
  have:w.drew.heap[b]? =some (.cells #[p,.slice (some ⟨g,0,none⟩) l.length cap] (ρ.t 72) (0,0)):=hbk
  rw [Lib.cell_of_heap this];rfl
 have hSD:(Builtin.unsafeSliceData_ #[(ρ.t 37)] (ρ.t 127) #[.slice (some ⟨g,0,none⟩) l.length cap]).run P w.drew=.ok (.pointer (some ⟨g,0,none⟩)) w.drew:=
  Lib.run_unsafeSliceData_row _ _ _ _ _ _ (by omega)
 have hg':w.drew.heap[g]? =some (.cells cur (ρ.t 5) (0,0)):=hg
 have hUS:(Builtin.unsafeString_ #[(ρ.t 127),(ρ.t 3)] (ρ.t 9) #[.pointer (some ⟨g,0,none⟩),.int .i64 l.length]).run P w.drew=.ok (.string ⟨l.toArray⟩) (w.drew.freeze ⟨g,0,none⟩ l.length):=by
  refine Lib.run_unsafeString_row w.drew (ρ.t 127) (ρ.t 3) (ρ.t 9) (ρ.t 5) L.t127 X.cellsByte g cur.size (by simp [World.shape?,hg']) l h0 hcs (by omega) ?_
  intro j x hx
  have ha:(⟨g,0,none⟩:Addr).add j=⟨g,j,none⟩:=by rw [Lf.box_add,Nat.zero_add]
  rw [ha,Lib.cell_of_heap hg']
  exact hcell j x hx
 have mixed:=L.mixed
 have t72:=L.t72;have a72:=L.a72;have z72:=L.z72;have v72:=L.v72;have u72:=run_underlying L.t72
 have t70:=L.t70;have a70:=L.a70;have z70:=L.z70;have v70:=L.v70;have u70:=run_underlying L.t70
 have t37:=L.t37;have a37:=L.a37;have z37:=L.z37;have v37:=L.v37;have u37:=run_underlying L.t37
 have t127:=L.t127;have a127:=L.a127;have z127:=L.z127;have v127:=L.v127;have u127:=run_underlying L.t127
 have t3:=L.t3;have a3:=L.a3;have z3:=L.z3;have v3:=L.v3;have u3:=run_underlying L.t3
 have t9:=L.t9;have a9:=L.a9;have z9:=L.z9;have v9:=L.v9;have u9:=run_underlying L.t9
 have t5:=X.t5;have a5:=X.a5;have z5:=X.z5;have v5:=X.v5;have u5:=run_underlying X.t5
 go_enter L.f169,Body.n169_ntmps ρ
 go_wp2
 go_region_o
 all_goals (go_wp2;go_ret;exact ⟨rfl,rfl⟩)
end Go.Proofs
namespace Lf
open Go Go.Proofs Go.Shelf Go.RowKit
def byteV (b:UInt8):Value:=.int .u8 ((b.toNat:Nat):Int)
def Bld (h:Hp) (b:Nat) (bs:List UInt8) (F:List Nat):Prop:=
 ∃(p:Value) (l:Sl),(p=Value.pointer none∨p=.pointer (some ⟨b,0,none⟩))∧h b=some (.cells #[p,l.v] 76 (0,0))∧b∉F∧l.len=bs.length∧l.len≤l.cap∧
  ((l.base=none∧l.cap=0∧F=[])∨∃(g:Nat) (cs:List Value),l.base=some ⟨g,0,none⟩∧F=[g]∧h g=some (.cells (List.toArray cs) 5 (0,0))∧cs.length=l.cap∧cs.take l.len=bs.map byteV)
theorem Bld.le {h h':Hp} {b:Nat} {bs:List UInt8} {F:List Nat} (B:Bld h b bs F) (hl:h≤h'):Bld h' b bs F:=by
 obtain ⟨p,l,hp,hb,hn,e1,e2,e3⟩:=B
 refine ⟨p,l,hp,hl _ _ hb,hn,e1,e2,e3.imp id ?_⟩
 rintro ⟨g,cs,f1,f2,f3,f4⟩
 exact ⟨g,cs,f1,f2,hl _ _ f3,f4⟩
theorem zly2 :Lays.n240 Tryz.prog Tryz.lays156_ren:={Tryz.lays156 with}
theorem zlz2 :Lays.n169 Tryz.prog Tryz.lays156_ren:={Tryz.lays156 with}
section
variable {h:Hp}
theorem zzu1 {b:Nat} {o:Obj} (e:h b=some o):h.set b o=h:=by
 funext i
 unfold Hp.set
 split
 ·rename_i hi;rw [hi,e]
 ·rfl
theorem ztk1 {b:Nat} {p v:Value} {K:Hp→Prop} (hp:p=Value.pointer none∨p=.pointer (some ⟨b,0,none⟩)) (e:h b=some (.cells #[p,v] 76 (0,0)))
  (hk:K (h.set b (.cells #[.pointer (some ⟨b,0,none⟩),v] 76 (0,0)))):Call0 Tryz.prog zkk [.pointer (some ⟨b,0,none⟩)] K h:=by
 intro w hs
 have hw:=hs _ _ e
 rcases hp with rfl | rfl
 ·have e0:hcell h ⟨b,0,none⟩=some (.pointer none):=by unfold hcell;simp [e]
  refine (Any.Builder_copyCheck_fresh zly2 Tryz.Builder_Extra_156.toX72 b w (zgr hs e0) (by simp [World.shape?,hw];rfl) (by simp [World.frozen?,hw])).mono ?_
  rintro e' w' ⟨rfl,rfl⟩
  have st:=znl1 hs (v:=.pointer (some ⟨b,0,none⟩)) e0
  obtain ⟨c,t,fr,hb,hput⟩:=zww1 (v:=.pointer (some ⟨b,0,none⟩)) e0
  have hb:h b=some (.cells c t fr):=hb
  rw [e] at hb
  cases hb
  rw [hput] at st
  exact ⟨_,_,rfl,⟨(),rfl,hk⟩,st⟩
 ·have e0:hcell h ⟨b,0,none⟩=some (.pointer (some ⟨b,0,none⟩)):=by unfold hcell;simp [e]
  refine (Any.Builder_copyCheck_used zly2 Tryz.Builder_Extra_156.toX72 b w (zgr hs e0)).mono ?_
  rintro e' w' ⟨rfl,rfl⟩
  rw [zzu1 e] at hk
  exact ⟨_,_,rfl,⟨(),rfl,hk⟩,Step.refl hs⟩
theorem zhm2 {b:Nat} {o o':Obj}:(h.set b o).set b o'=h.set b o':=by
 funext i
 unfold Hp.set
 split<;>rfl
theorem znh1 {g t off:Nat}:∀(new:List Value) (i:Nat) (cs:List Value) (h:Hp),h g=some (.cells (List.toArray cs) t (0,0))→off+i+new.length≤cs.length→
  putL h ⟨g,off,none⟩ new i=h.set g (.cells (List.toArray (cs.take (off+i)++new++cs.drop (off+i+new.length))) t (0,0))
 | [],i,cs,h,e,_=>by
  have:cs.take (off+i)++ []++cs.drop (off+i+0)=cs:=by simp
  show h=h.set g (.cells (List.toArray (cs.take (off+i)++ []++cs.drop (off+i+0))) t (0,0))
  rw [this,zzu1 e]
 | v::new,i,cs,h,e,hl=>by
  rw [List.length_cons] at hl
  have hlt:off+i<cs.length:=by omega
  have c0:hcell h ⟨g,off+i,none⟩=some cs[off+i]:=by unfold hcell;simp [e,hlt]
  obtain ⟨c,t',fr,hb,hput⟩:=zww1 (v:=v) c0
  have hb:h g=some (.cells c t' fr):=hb
  rw [e] at hb
  cases hb
  have e1:h.put ⟨g,off+i,none⟩ v=h.set g (.cells (List.toArray (cs.set (off+i) v)) t (0,0)):=by
   rw [hput]
   simp
  show putL (h.put ((⟨g,off,none⟩:Addr).add i) v) ⟨g,off,none⟩ new (i+1)=_
  rw [box_add,e1,znh1 new (i+1) (cs.set (off+i) v) _ zen (by rw [List.length_set];omega),zhm2]
  congr 3
  have t1:(cs.set (off+i) v).take (off+(i+1))=cs.take (off+i)++ [v]:=by
   rw [show off+(i+1)=off+i+1 by omega,List.take_add_one,List.getElem?_set_self hlt,List.take_set_of_le (Nat.le_refl _)]
   rfl
  have t2:(cs.set (off+i) v).drop (off+(i+1)+new.length)=cs.drop (off+i+(new.length+1)):=by
   rw [List.drop_set_of_lt (by omega),show off+(i+1)+new.length=off+i+(new.length+1) by omega]
  rw [t1,t2,List.length_cons]
  simp
theorem zmv (s:ByteArray):zex s=s.data.toList.map byteV:=rfl
theorem zkr1 :∀l:List UInt8,zfu (l.map byteV)=true
 | []=>rfl
 | _::l=>zkr1 l
theorem zkx2 {h0:Hp} {b:Nat} {bs:List UInt8} {F:List Nat} {s:ByteArray} {Q:Int→Leaf→Hp→Prop} (hw:h0≤h) (hb0:h0 b=none) (hF:∀g∈F,h0 g=none) (B:Bld h b bs F) (hl:bs.length+s.size≤1000000)
  (hk:∀n er h' F',h0≤h'→(∀g∈F',h0 g=none)→Bld h' b (bs++s.data.toList) F'→Q n er h'):zew Tryz.prog (some ⟨b,0,none⟩) s Q h:=by
 obtain ⟨p,l,hp,hb,hn,e1,e2,e3⟩:=B
 have hsz:=zqc s
 unfold zew
 refine ztk1 hp hb ?_
 have k1:(h.set b (.cells #[.pointer (some ⟨b,0,none⟩),l.v] 76 (0,0))) b=some (.cells #[.pointer (some ⟨b,0,none⟩),l.v] 76 (0,0)):=zen
 have w1:=zht1 (o:=.cells #[.pointer (some ⟨b,0,none⟩),l.v] 76 (0,0)) hw hb0
 have o1:∀g,g≠b→(h.set b (.cells #[.pointer (some ⟨b,0,none⟩),l.v] 76 (0,0))) g=h g:=fun g hg=>by unfold Hp.set;rw [if_neg hg]
 generalize h.set b (.cells #[.pointer (some ⟨b,0,none⟩),l.v] 76 (0,0))=h1 at*
 have ea:(⟨b,0,none⟩:Addr).add 1=⟨b,1,none⟩:=by rw [box_add]
 have c1:hcell h1 ⟨b,1,none⟩=some l.v:=by unfold hcell;simp [k1]
 refine zag ?_
 rw [ea]
 refine ld_at (sh:=shSl) l (zum c1) ?_
 have fin:∀(r:Sl) (h2:Hp) (F':List Nat),h0≤h2→(∀g∈F',h0 g=none)→b∉F'→h2 b=some (.cells #[.pointer (some ⟨b,0,none⟩),l.v] 76 (0,0))→r.len=(bs++s.data.toList).length→r.len≤r.cap→
   ((r.base=none∧r.cap=0∧F'=[])∨∃g cs,r.base=some ⟨g,0,none⟩∧F'=[g]∧h2 g=some (.cells (List.toArray cs) 5 (0,0))∧cs.length=r.cap∧cs.take r.len=(bs++s.data.toList).map byteV)→
   NilW none (some ⟨b,0,none⟩) fun p1=>StW h2 (Addr.add p1 1) [r.v] (fun h3=>EncW zah .nilIface fun e=>Q (((ByteArray.size s):Nat):Int) e h3):=by
  intro r h2 F' l2 f2 n2 b2 r1 r2 r3
  refine zag ?_
  rw [ea]
  have c2:hcell h2 ⟨b,1,none⟩=some l.v:=by unfold hcell;simp [b2]
  have kb2:Blk h2 b [.pointer (some ⟨b,0,none⟩),l.v]:=⟨_,b2⟩
  refine ⟨kb2.stOk (off:=1) 1 (by simp),?_⟩
  obtain ⟨c,t,fr,hbb,hput⟩:=zww1 (v:=r.v) c2
  have hbb:h2 b=some (.cells c t fr):=hbb
  rw [b2] at hbb
  cases hbb
  have e3:putL h2 ⟨b,1,none⟩ [r.v] 0=h2.set b (.cells #[.pointer (some ⟨b,0,none⟩),r.v] 76 (0,0)):=by
   show (h2.put (Addr.add ⟨b,1,none⟩ 0) r.v)=_
   rw [box_add,Nat.add_zero,hput]
   rfl
  show EncW zah .nilIface fun e=>Q _ e (putL h2 ⟨b,1,none⟩ [r.v] 0)
  rw [e3]
  refine encN (hk _ _ _ F' (zht1 l2 hb0) f2 ⟨_,r,.inr rfl,zen,n2,r1,r2,r3.imp id ?_⟩)
  rintro ⟨g,cs,g1,g2,g3,g4,g5⟩
  have hne:g≠b:=fun e=>n2 (by rw [g2,e];exact List.mem_singleton.2 rfl)
  refine ⟨g,cs,g1,g2,?_,g4,g5⟩
  unfold Hp.set
  rw [if_neg hne]
  exact g3
 have hlen:(bs++s.data.toList).length=l.len+s.size:=by rw [List.length_append,e1,hsz]
 rcases e3 with ⟨f1,f2,rfl⟩ | ⟨g,cs,f1,rfl,f3,f4,f5⟩
 ·have hl0:l.len=0:=by omega
  have hbs:bs=[]:=List.length_eq_zero_iff.1 (by omega)
  subst hbs
  refine ⟨[],⟨by rw [hl0];rfl,.inl (by rw [hl0])⟩,⟨by omega,by omega⟩,by rw [zmv];exact zkr1 _,fun hc=>⟨fun a ha=> ?_,?_⟩,fun hc c g hg1 hg2=> ?_⟩
  ·rw [f1] at ha;cases ha
  ·have hs0:s.size=0:=by omega
   have hd0:s.data.toList=[]:=List.length_eq_zero_iff.1 (by omega)
   have e4:putO h1 l.base (l.len*1) (zex s)=h1:=by rw [f1];rfl
   rw [e4]
   exact fin ⟨l.base,l.len+s.size,l.cap⟩ h1 [] w1 (fun g hg=>by cases hg) (by simp) k1 hlen.symm (by show l.len+s.size≤l.cap;omega) (.inl ⟨f1,f2,rfl⟩)
  ·have hne:b≠g:=fun e=>by rw [←e,k1] at hg2;cases hg2
   refine fin ⟨some ⟨g,0,none⟩,l.len+s.size,c⟩ _ [g] (Hp.le_trans w1 (zki hg2)) (fun x hx=> ?_) (fun hx=>hne (List.mem_singleton.1 hx)) ?_ hlen.symm hg1 (.inr ⟨g,_,rfl,rfl,zen,?_,?_⟩)
   ·rw [List.mem_singleton.1 hx]
    exact zwf w1 hg2
   ·unfold Hp.set
    rw [if_neg hne]
    exact k1
   ·have:(zex s).length=s.size:=by rw [zmv,List.length_map,hsz]
    rw [List.length_append,List.length_append,this,zwb]
    simp only [List.length_nil,List.length_cons]
    show 0+s.size+_=c
    have:=hg1
    omega
   ·show (([]++zex s++zbo [Value.int .u8 0] (c-(l.len+s.size)))).take (l.len+s.size)=_
    rw [hl0,Nat.zero_add,List.nil_append,List.nil_append,zmv,List.take_left' (by rw [List.length_map,hsz])]
 ·have hne:g≠b:=fun e=>hn (by rw [e];exact List.mem_singleton.2 rfl)
  have g1:h1 g=some (.cells (List.toArray cs) 5 (0,0)):=by rw [o1 g hne];exact f3
  have kb:Blk h1 g cs:=⟨_,g1⟩
  have hg0:=hF g (List.mem_singleton.2 rfl)
  have hbl:(zex s).length=s.size:=by rw [zmv,List.length_map,hsz]
  refine ⟨cs.take l.len,?_,⟨by omega,by omega⟩,by rw [zmv];exact zkr1 _,fun hc=>⟨fun a ha=> ?_,?_⟩,fun hc c g' hg1 hg2=> ?_⟩
  ·rw [f1,Nat.mul_one]
   exact kb.rd (off:=0) (n:=l.len) (by rw [List.length_take];omega) (by rw [List.drop_zero])
  ·rw [f1] at ha
   cases ha
   rw [box_add,Nat.zero_add,Nat.mul_one,Nat.mul_one]
   exact kb.stOk _ (by omega)
  ·have e4:putO h1 l.base (l.len*1) (zex s)=h1.set g (.cells (List.toArray (cs.take l.len++zex s++cs.drop (l.len+s.size))) 5 (0,0)):=by
    rw [f1,Nat.mul_one]
    simp only [putO,box_add,Nat.zero_add]
    have hp:=znh1 (off:=l.len) (zex s) 0 cs h1 g1 (by omega)
    rw [hbl,Nat.add_zero] at hp
    exact hp
   rw [e4]
   refine fin ⟨l.base,l.len+s.size,l.cap⟩ _ [g] (zht1 w1 hg0) (fun x hx=>by rw [List.mem_singleton.1 hx];exact hg0) (fun hx=>hne (List.mem_singleton.1 hx).symm) ?_ hlen.symm hc (.inr ⟨g,_,f1,rfl,zen,?_,?_⟩)
   ·unfold Hp.set
    rw [if_neg (fun e=>hne e.symm)]
    exact k1
   ·rw [List.length_append,List.length_append,List.length_take,List.length_drop,hbl]
    show min l.len cs.length+s.size+(cs.length-(l.len+s.size))=l.cap
    omega
   ·show (cs.take l.len++zex s++cs.drop (l.len+s.size)).take (l.len+s.size)=_
    rw [List.take_left' (by rw [List.length_append,List.length_take,hbl];omega),f5,zmv,List.map_append]
  ·have hne2:b≠g':=fun e=>by rw [←e,k1] at hg2;cases hg2
   refine fin ⟨some ⟨g',0,none⟩,l.len+s.size,c⟩ _ [g'] (Hp.le_trans w1 (zki hg2)) (fun x hx=> ?_) (fun hx=>hne2 (List.mem_singleton.1 hx)) ?_ hlen.symm hg1 (.inr ⟨g',_,rfl,rfl,zen,?_,?_⟩)
   ·rw [List.mem_singleton.1 hx]
    exact zwf w1 hg2
   ·unfold Hp.set
    rw [if_neg hne2]
    exact k1
   ·rw [List.length_append,List.length_append,hbl,zwb,List.length_take]
    simp only [List.length_nil,List.length_cons]
    show min l.len cs.length+s.size+_=c
    omega
   ·show ((cs.take l.len++zex s++zbo [Value.int .u8 0] (c-(l.len+s.size)))).take (l.len+s.size)=_
    rw [List.take_left' (by rw [List.length_append,List.length_take,hbl];omega),f5,zmv,List.map_append]
theorem zog2 {h0:Hp} {b:Nat} {bs:List UInt8} {F:List Nat} {K:ByteArray→Hp→Prop} (hw:h0≤h) (hF:∀g∈F,h0 g=none) (B:Bld h b bs F) (hl:bs.length≤1000000) (hz:bs=[]→F=[]) (hk:∀h',h0≤h'→K (txtB bs) h'):CallT Tryz.prog zeo [.pointer (some ⟨b,0,none⟩)] shStr K h:=by
 obtain ⟨p,l,hp,hb,hn,e1,e2,e3⟩:=B
 intro w hs
 have hwb:=hs _ _ hb
 by_cases h0:bs=[]
 ·subst h0
  have le0:l.len=0:=e1
  rcases e3 with ⟨f1,f2,rfl⟩ | ⟨g,cs,f1,rfl,f3,f4,f5⟩
  ·have ev:l.v=.slice none 0 0:=by unfold Sl.v;rw [f1,le0,f2]
   rw [ev] at hwb
   refine (Any.Builder_String_nil zlz2 Tryz.Builder_Extra_156 w.heap.size b p w hwb).mono ?_
   rintro e w' ⟨rfl,hb⟩
   exact ⟨_,h,rfl,⟨txtB [],rfl,hk h hw⟩,⟨fun i o e=>by rw [hb.block i (hs.lt e)];exact hs i o e,hb.size,fun i hi hn=>⟨hb.block i hi,hn⟩,hb.os,hb.tape,hb.output⟩⟩
  ·cases hz rfl
 ·rcases e3 with ⟨f1,f2,rfl⟩ | ⟨g,cs,f1,rfl,f3,f4,f5⟩
  ·exact absurd (List.length_eq_zero_iff.1 (by omega)) h0
  ·have ev:l.v=.slice (some ⟨g,0,none⟩) bs.length l.cap:=by unfold Sl.v;rw [f1,e1]
   rw [ev] at hwb
   have hwg:=hs _ _ f3
   have hcs:bs.length≤(List.toArray cs).size:=by rw [List.size_toArray];omega
   refine (ztj1 zlz2 Tryz.Builder_Extra_156 b g l.cap p (List.toArray cs) bs w h0 hl hwb hwg (by omega) hcs (fun j x hx=> ?_)).mono ?_
   ·have hj:j<bs.length:=(List.getElem?_eq_some_iff.1 hx).1
    rw [List.getElem?_toArray]
    have h1:(cs.take l.len)[j]? =some (byteV x):=by rw [f5,List.getElem?_map,hx];rfl
    rw [List.getElem?_take,if_pos (by omega)] at h1
    exact h1
   ·rintro e w' ⟨rfl,rfl⟩
    have hl0:bs.length≠0:=fun e=>h0 (List.length_eq_zero_iff.1 e)
    have st:=zxb (w:=w.drew) (h:=h) hs (o:=.cells (List.toArray cs) 5 (0,bs.length)) f3
    have ew:w.drew.freeze ⟨g,0,none⟩ bs.length={w.drew with heap:=w.drew.heap.setIfInBounds g (.cells (List.toArray cs) 5 (0,bs.length))}:=by
     unfold World.freeze
     rw [if_neg hl0]
     congr 1
     apply Array.ext_getElem?
     intro i
     have hlt:g<w.drew.heap.size:=hs.lt f3
     by_cases hi:i=g
     ·subst hi
      rw [Array.getElem?_setIfInBounds_self_of_lt hlt,Array.getElem?_modify,if_pos rfl,show w.drew.heap[i]? =_ from hwg]
      simp
     ·rw [Array.getElem?_setIfInBounds_ne (Ne.symm hi),Array.getElem?_modify,if_neg (Ne.symm hi)]
    rw [ew]
    exact ⟨_,_,rfl,⟨txtB bs,rfl,hk _ (zht1 hw (hF g (List.mem_singleton.2 rfl)))⟩,st.drew⟩
end
end Lf

namespace Lf
open Go Go.Proofs Go.RowKit
theorem ztl1 {n locks:Int}:∀(l:List PIns) (i:Int),(codeR n locks l i).1=0→(codeR n locks l i).2=0
 | [],_,_=>rfl
 | x::l,i,h=>by
  unfold codeR at h ⊢
  split
  ·rename_i hn
   rw [if_pos hn] at h
   exact absurd h hn
  ·rename_i hn
   rw [if_neg hn] at h
   exact ztl1 l (i+1) h
theorem ztm1 {l:List PIns} {locks:Int} (h:(codeP l locks).1=0):(codeP l locks).2=0:=by
 unfold codeP at h ⊢
 split
 ·rfl
 ·rename_i h1
  rw [if_neg h1] at h
  split
  ·rename_i h2
   rw [if_pos h2] at h
   cases h
  ·rename_i h2
   rw [if_neg h2] at h
   exact ztl1 l 0 h
theorem ztn1 (a b:List PIns):progB (a++b)=progB a++progB b:=List.flatMap_append
theorem zto1 (x:PIns):progB [x]=lineB x++ [10]:=by
 rw [zna]
 rfl
theorem zks1 {n:Int}:∀(l:List PIns),zhe2 n l→(progB l).length≤l.length*111
 | [],_=>by simp [progB]
 | x::l,h=>by
  obtain ⟨h1,h2⟩:=h x (List.mem_cons_self ..)
  have:=zfq1 h1 h2
  have:=zks1 l fun y hy=>h y (List.mem_cons_of_mem _ hy)
  rw [zna,List.length_append,List.length_cons,List.length_cons]
  omega
noncomputable def zni1 (l:List PIns):List UInt8:=if (codeP l 8).1=0 then progB l else []
section
variable {h:Hp}
theorem znj1 {xs:List S_api_Ins} {j:Nat} (hc:(codeP (xs.map insOf) 8).1=0) (hi:∀x∈xs,InI x.Imm):zhe2 (xs.length:Int) ((xs.take j).map insOf):=by
 obtain ⟨h1,h2⟩:=codeP_ok.1 hc
 intro y hy
 obtain ⟨x,hx,rfl⟩:=List.mem_map.1 hy
 have hx:=List.mem_of_mem_take hx
 have:=h2 (insOf x) (List.mem_map.2 ⟨x,hx,rfl⟩)
 rw [List.length_map] at this
 exact ⟨this,hi x hx⟩
theorem zkt1 {l:Sl} {xs:List S_api_Ins} {Q:ByteArray→Int→Int→Hp→Prop} (r:InsS h l xs) (hi:∀x∈xs,InI x.Imm) (e:PEnv h)
  (hk:∀h',h≤h'→Q (txtB (zni1 (xs.map insOf))) (codeP (xs.map insOf) 8).1 (codeP (xs.map insOf) 8).2 h'):zdl1 Tryz.prog l Q h:=by
 unfold zdl1
 unfold zni1 at hk
 have hlen:=r.1
 refine zow1 (zbx2 r fun h1 l1=> ?_)
 by_cases hc:(codeP (xs.map insOf) 8).1=0
 ·rw [if_pos hc,ztm1 hc,hc] at hk
  rw [hc]
  obtain ⟨c1,c2⟩:=codeP_ok.1 hc
  rw [List.length_map] at c1
  refine iteF (by decide) ?_
  intro b hb
  have hle:=zki (o:=.cells [Value.pointer none,.slice none 0 0].toArray 76 (0,0)) hb
  have B0:Bld (h1.set b (.cells [Value.pointer none,.slice none 0 0].toArray 76 (0,0))) b [] []:=⟨_,⟨none,0,0⟩,.inl rfl,zen,by simp,rfl,Nat.le_refl _,.inl ⟨rfl,rfl,rfl⟩⟩
  generalize h1.set b (.cells [Value.pointer none,.slice none 0 0].toArray 76 (0,0))=h2 at*
  refine LoopW1.intro (fun t k=>h1≤k∧∃j:Nat,t=(j:Int)∧j≤xs.length∧∃F,(∀g∈F,h1 g=none)∧Bld k b (progB ((xs.take j).map insOf)) F∧(progB ((xs.take j).map insOf)=[]→F=[])) (fun t _=>(xs.length-t).toNat)
   ⟨hle,0,rfl,by omega,[],(fun g hg=>by cases hg),by simpa [progB] using B0,fun _=>rfl⟩ ?_
  rintro _ k ⟨hk1,j,rfl,hj,F,hF,B,hz⟩
  have hbd:∀j,(progB ((xs.take j).map insOf)).length≤30000:=fun j=>by
   have h1:=zks1 _ (znj1 (j:=j) hc hi)
   rw [List.length_map,List.length_take] at h1
   have:min j xs.length*111≤256*111:=Nat.mul_le_mul_right _ (by omega)
   omega
  by_cases hlt:j<xs.length
  ·refine iteT (decide_eq_true (by omega)) ?_
   refine Rs.get (sh:=sh_api_Ins) (Rw.mono (Hp.le_trans l1 hk1) r) (fun _=>rfl) (by omega) (by omega) (by omega) fun x hx=> ?_
   rw [Int.toNat_natCast] at hx
   have hxm:=List.mem_of_getElem? hx
   have hw:=c2 (insOf x) (List.mem_map.2 ⟨x,hxm,rfl⟩)
   rw [List.length_map] at hw
   have hlx:=zfq1 hw (hi x hxm)
   refine zhm1 (zqe1 hw (hi x hxm) (e.mono (Hp.le_trans l1 hk1)) fun k2 l2=> ?_)
   have hstep:progB ((xs.take (j+1)).map insOf)=progB ((xs.take j).map insOf)++(lineB (insOf x)++ [10]):=by
    rw [List.take_add_one,hx,List.map_append,ztn1]
    show _++progB [insOf x]=_
    rw [zto1]
   have hb0:=hbd j
   refine zou (zkx2 (h0:=h1) (Hp.le_trans hk1 l2) hb hF (B.le l2) ?_ fun n er k3 F' l3 hF' B'=> ?_)
   ·rw [zec,List.length_append,List.length_singleton]
    omega
   ·rw [zaz,←hstep] at B'
    rw [zad (by omega) (by omega)]
    refine ⟨⟨l3,j+1,by omega,by omega,F',hF',B',fun hz'=> ?_⟩,by omega⟩
    rw [hstep] at hz'
    simp at hz'
  ·have hje:j=xs.length:=by omega
   refine iteF (fun hh=>hlt (by have:=of_decide_eq_true hh;omega)) ?_
   have hb0:=hbd j
   refine zog2 (h0:=h1) hk1 hF B (by omega) hz fun h' hl'=> ?_
   rw [hje,List.take_of_length_le (Nat.le_refl _)]
   exact hk h' (Hp.le_trans l1 hl')
 ·rw [if_neg hc] at hk
  exact iteT (bne_iff_ne.2 hc) (hk h1 l1)
end
end Lf

