/-
  Part 4 of the texts that the claim leans on.
-/
import Derived.Laws.StructEq
import Derived.Test.YtgplfmccdkfddaaGreatMgRnNames2
set_option maxRecDepth 100000
namespace Lf
open Go
def eB (b:UInt8):List Value:=[.int .u8 (b.toNat:Int)]
theorem zda2 (b:UInt8):(eB b).length=1:=rfl
theorem eB_ok (b:UInt8):zax (eB b)=true:=rfl
abbrev Bs (h:Hp) (l:Sl) (bs:List UInt8):Prop:=Rw h 1 eB l bs
abbrev OwnB (h0 h:Hp) (l:Sl) (bs:List UInt8):Prop:=Own h0 h 1 eB l bs
theorem zjd2 (bs:List UInt8):bs.flatMap eB=bs.map fun b=>.int .u8 (b.toNat:Int):=by
 induction bs with
 | nil=>rfl
 | cons b bs ih=>rw [List.flatMap_cons,ih];rfl
theorem zrk1 (n:Int):((UInt8.ofNat (n%256).toNat).toNat:Int)=n%256:=by
 rw [UInt8.toNat_ofNat']
 omega
theorem wrap8 (n:Int):IntKind.wrap .u8 n=((UInt8.ofNat (n%256).toNat).toNat:Int):=by
 rw [zrk1]
 rfl
theorem zje2 (n:Int):∀(k i:Nat),i<k->(leB n k)[i]? =some (UInt8.ofNat ((n / ((256^i:Nat):Int))%256).toNat)
 | 0,_,h=>by omega
 | k+1,0,_=>by simp [leB]
 | k+1,i+1,h=>by
  simp only [leB,List.getElem?_cons_succ]
  have e:n / 256 / ((256^i:Nat):Int)=n / ((256^(i+1):Nat):Int):=by
   rw [Int.ediv_ediv_of_nonneg (by decide)]
   grind
  rw [zje2 (n / 256) k i (by omega),e]
theorem zjf2 {n m:Int} {k:Nat} (h:n%((256^k:Nat):Int)=m%((256^k:Nat):Int)):leB n k=leB m k:=by
 have h1:=zfb1 n k
 have h2:=zfb1 m k
 have e:valB (leB n k)=valB (leB m k):=by omega
 have h3:=zao1 (leB n k)
 have h4:=zao1 (leB m k)
 rw [zdb] at h3 h4
 rw [<-h3,e,h4]
theorem zlg1 {n:Int} {k:Nat} (hk:k<=8):leB (IntKind.wrap .u64 n) k=leB n k:=by
 apply zjf2
 have e:IntKind.wrap .u64 n=n%((256^8:Nat):Int):=rfl
 rw [e]
 have hd:((256^k:Nat):Int) ∣ ((256^8:Nat):Int):=Int.natCast_dvd_natCast.2 (Nat.pow_dvd_pow 256 hk)
 exact Int.emod_emod_of_dvd n hd
theorem zmx2 (n:Int) {i:Nat} (hi:i<8):shrI .u64 n (8*(i:Int))=n / ((256^i:Nat):Int):=by
 have e:((256^i:Nat):Int)=2^(8*i):=by
  rw [show (256:Nat)=2^8 from rfl,<-Nat.pow_mul]
  exact Int.natCast_pow 2 (8*i)
 rw [e]
 have e2:min (8*(i:Int)).toNat IntKind.u64.bits=8*i:=by
  have:IntKind.u64.bits=64:=rfl
  omega
 unfold shrI
 grind
theorem zmy2 (n:Int) {i:Int} (h0:0<=i) (h1:i<8):IntKind.wrap .i64 (8*i)=8*i/\IntKind.wrap .u8 (shrI .u64 n (8*i))=((UInt8.ofNat ((n / ((256^i.toNat:Nat):Int))%256).toNat).toNat:Int):=by
 refine ⟨wrap64 (by omega) (by omega),?_⟩
 have e:(8*i)=8*((i.toNat:Nat):Int):=by omega
 rw [e,zmx2 n (by omega),wrap8]
section
variable {h0 h:Hp} {l:Sl} {bs:List UInt8} {K:Sl->Hp->Prop}
theorem zqq (hw:h0<=h) (o:OwnB h0 h l bs) {cs:List Value} (cs':List UInt8) {n:Nat} (hc:cs=cs'.map fun b=>.int .u8 (b.toNat:Int)) (hn:n=cs'.length) (hb:bs.length+cs'.length<=1099511627776)
  (hk:∀l' h',h0<=h'->OwnB h0 h' l' (bs++cs')->(∀b ob,h b=some ob->(∀a,l.base=some a->a.block≠b)->h' b=some ob)->K l' h'):NewW cs (fun a h2=>zai 1 1 [.int .u8 0] l ⟨some a,n,n⟩ K h2) h:=
 zqf2 hw o (by rw [hc,zjd2]) hn zda2 eB_ok rfl (by omega) hk
theorem zjg2 {n m:Int} {k:Nat} (hm:m=(k:Int)) (hk8:k<=8) (hw:h0<=h) (o:OwnB h0 h l bs) (hb:bs.length+8<=1099511627776) (hk:∀l' h',h0<=h'->OwnB h0 h' l' (bs++leB n k)->K l' h'):
  LoopW2 (α1:=Sl) (α2:=Int) (fun again b1 t9 h1=>
   (if (decide (t9<m))=true then
    ((0:Int)<=(IntKind.wrap .i64 ((8:Int)*t9))/\NewW [(.int .u8 (IntKind.wrap .u8 (shrI .u64 n (IntKind.wrap .i64 ((8:Int)*t9)))))] (fun a h2=>
     zai 1 1 [(.int .u8 (0:Int))] ⟨b1.base,b1.len,b1.cap⟩ ⟨(some a),1,1⟩ (fun r h3=>
      again r (IntKind.wrap .i64 (t9+(1:Int))) h3) h2) h1)
   else K b1 h1)) l (0:Int) h:=by
 subst hm
 refine LoopW2.intro (fun b1 i h1=>0<=i/\i<=(k:Int)/\h0<=h1/\OwnB h0 h1 b1 (bs++(leB n k).take i.toNat)) (fun _ i _=>(k-i).toNat) ⟨by omega,by omega,hw,by simpa using o⟩ ?_
 rintro b1 i h1 ⟨hi0,hi1,hle,ho⟩
 by_cases hi:i<(k:Int)
 ·rw [if_pos (decide_eq_true hi)]
  obtain ⟨e1,e2⟩:=zmy2 n hi0 (by omega)
  rw [e1,e2]
  refine ⟨by omega,?_⟩
  refine zqq hle ho [UInt8.ofNat ((n / ((256^i.toNat:Nat):Int))%256).toNat] rfl rfl (by grind) fun l' h' hle' ho' _=> ?_
  rw [wrap64 (by omega) (by omega)]
  refine ⟨⟨by omega,by omega,hle',?_⟩,by omega⟩
  have e3:(i+1).toNat=i.toNat+1:=by omega
  rw [e3,List.take_add_one,zje2 n k i.toNat (by omega),<-List.append_assoc]
  exact ho'
 ·rw [if_neg (fun e=>hi (of_decide_eq_true e))]
  have:i.toNat=k:=by omega
  rw [this,List.take_of_length_le (by rw [zdb];omega)] at ho
  grind
end
abbrev InU (x:Int):Prop:=0<=x/\x<18446744073709551616
def bit (x:Int) (n:Nat):Bool:=x.toNat.testBit n
theorem wrapU {x:Int} (h:InU x):IntKind.wrap .u64 x=x:=by
  unfold IntKind.wrap
  simp only [IntKind.signed,IntKind.bits]
  have:=h.1
  have:=h.2
  simp
  omega
theorem zge1 {x:Int} (h:InU x):BitVec.ofInt 64 x=BitVec.ofNat 64 x.toNat:=by
  obtain ⟨n,rfl⟩:=Int.eq_ofNat_of_zero_le h.1
  rfl
theorem zqg2 {a b:Int} (ha:InU a) (hb:InU b):(bitsI .andNot .u64 a b==0)=true↔∀n,n<64->bit a n=true->bit b n=true:=by
  have e:bitsI .andNot .u64 a b=(((BitVec.ofNat 64 a.toNat)&&& ~~~ (BitVec.ofNat 64 b.toNat)).toNat:Int):=by
    show IntKind.wrap .u64 ((BitVec.ofInt 64 a&&& ~~~ BitVec.ofInt 64 b).toNat:Int)=_
    rw [zge1 ha,zge1 hb,wrapU ⟨by omega,by have:=((BitVec.ofNat 64 a.toNat)&&& ~~~ (BitVec.ofNat 64 b.toNat)).isLt;omega⟩]
  rw [e]
  have e2:((((BitVec.ofNat 64 a.toNat)&&& ~~~ (BitVec.ofNat 64 b.toNat)).toNat:Int)==0)=true↔(BitVec.ofNat 64 a.toNat)&&& ~~~ (BitVec.ofNat 64 b.toNat)=0#64:=by
    rw [BitVec.toNat_eq]
    simp
  rw [e2]
  have ga:∀n,n<64->(BitVec.ofNat 64 a.toNat).getLsbD n=bit a n:=fun n hn=>by rw [BitVec.getLsbD_ofNat];simp [bit,hn]
  have gb:∀n,n<64->(BitVec.ofNat 64 b.toNat).getLsbD n=bit b n:=fun n hn=>by rw [BitVec.getLsbD_ofNat];simp [bit,hn]
  constructor
  · intro h n hn h1
    have:=congrArg (fun v=>v.getLsbD n) h
    simp only [BitVec.getLsbD_and,BitVec.getLsbD_not,ga n hn,gb n hn,h1,hn,decide_true,Bool.true_and,BitVec.getLsbD_zero] at this
    simpa using this
  · intro h
    apply BitVec.eq_of_getLsbD_eq
    intro n hn
    simp only [BitVec.getLsbD_and,BitVec.getLsbD_not,ga n hn,gb n hn,hn,decide_true,Bool.true_and,BitVec.getLsbD_zero]
    cases h1:bit a n with
    | false=>rfl
    | true=>simp [h n hn h1]
end Lf
namespace Lf
open Go Go.Proofs
abbrev Us (h:Hp) (l:Sl) (xs:List Int):Prop:=Rs h (shInt .u64) 1 l xs
abbrev Is (h:Hp) (l:Sl) (xs:List Int):Prop:=Rs h (shInt .i64) 1 l xs
theorem zsm2 {P:Program} {l:Sl} {xs:List Int} {Q:Int->Int->Hp->Prop} {h:Hp} (r:Us h l xs) (hl:xs.length<=8) (asc:xs.Pairwise (· < ·)) (h0:xs=[]->Q 1 0 h) (h1:xs≠ []->Q 0 0 h):zpw P l Q h:=by
 unfold zpw
 have hlen:=r.1
 split
 ·rename_i e
  have e:(l.len:Int)=0:=by simpa using e
  exact h0 (List.length_eq_zero_iff.1 (by omega))
 ·rename_i e
  have e:¬(l.len:Int)=0:=by simpa using e
  split
  ·grind
  ·refine LoopW1.intro (fun i k=>k=h/\1<=i/\i<=(xs.length:Int)) (fun i _=>(xs.length-i).toNat) ⟨rfl,by omega,by omega⟩ ?_
   rintro i k ⟨rfl,hi1,hi2⟩
   split
   ·rename_i e3
    have e3:i<(l.len:Int):=by simpa using e3
    have hw:IntKind.wrap .i64 (i-1)=i-1:=wrap64 (by omega) (by omega)
    rw [hw]
    refine r.get (fun _=>rfl) (by omega) (by omega) (by omega) fun (x:Int) hx=> ?_
    refine r.get (fun _=>rfl) (by omega) (by omega) (by omega) fun (y:Int) hy=> ?_
    have hxy:y<x:=by
     have e4:(i-1).toNat<i.toNat:=by omega
     have hxl:=(List.getElem?_eq_some_iff.1 hx)
     have hyl:=(List.getElem?_eq_some_iff.1 hy)
     obtain ⟨hx1,hx2⟩:=hxl
     obtain ⟨hy1,hy2⟩:=hyl
     rw [<-hx2,<-hy2]
     exact List.pairwise_iff_getElem.1 asc _ _ hy1 hx1 e4
    rw [if_neg (show ¬((x==y)=true) by simp;omega)]
    refine r.get (fun _=>rfl) (by omega) (by omega) (by omega) fun (x':Int) hx'=> ?_
    rw [hx] at hx';cases hx'
    refine r.get (fun _=>rfl) (by omega) (by omega) (by omega) fun (y':Int) hy'=> ?_
    rw [hy] at hy';cases hy'
    rw [if_neg (show ¬(decide (x<y)=true) by simp;omega)]
    have hw2:IntKind.wrap .i64 (i+1)=i+1:=wrap64 (by omega) (by omega)
    rw [hw2]
    exact ⟨⟨rfl,by omega,by omega⟩,by omega⟩
   grind
abbrev OwnU (h0 h:Hp) (l:Sl) (xs:List Int):Prop:=Own h0 h 1 (fun x=>zac ((shInt .u64).enc x)) l xs
abbrev OwnI (h0 h:Hp) (l:Sl) (xs:List Int):Prop:=Own h0 h 1 (fun x=>zac ((shInt .i64).enc x)) l xs
def flows (a b:Int):Bool:=(List.range 64).all fun n=> !bit a n || bit b n
theorem zjh2 {a b:Int}:flows a b=true↔∀n,n<64->bit a n=true->bit b n=true:=by
 unfold flows
 grind
theorem zui1 {a b:Int} {Q:Bool->Hp->Prop} {h:Hp} (ha:InU a) (hb:InU b) (hq:Q (flows a b) h):zuy Tryz.prog a b Q h:=by
 unfold zuy
 have:(bitsI .andNot .u64 a b==0)=flows a b:=by
  rw [Bool.eq_iff_iff,zqg2 ha hb,zjh2]
 grind
def fl (xs:List Int) (i j:Int):Bool:=if 0<=i/\i<(xs.length:Int)/\0<=j/\j<(xs.length:Int) then flows (xs.getD i.toNat 0) (xs.getD j.toNat 0) else false
theorem fl_in {xs:List Int} {i j:Int} {x y:Int} (h:0<=i/\0<=j) (hx:xs[i.toNat]? =some x) (hy:xs[j.toNat]? =some y):fl xs i j=flows x y:=by
 have h1:=(List.getElem?_eq_some_iff.1 hx).1
 have h2:=(List.getElem?_eq_some_iff.1 hy).1
 unfold fl
 grind
theorem zpi2 {xs:List Int} {i j:Int} (h:¬(0<=i/\i<(xs.length:Int)/\0<=j/\j<(xs.length:Int))):fl xs i j=false:=by
 unfold fl
 rw [if_neg h]
def ents :List Int->Nat->List MapEntry
 | [],_=> []
 | x::r,j=>{key:=.int .u64 x,val:=.int .i64 (j:Int),born:=j}::ents r (j+1)
def place (a:Int):List Int->Nat->Option Nat
 | [],_=>none
 | x::r,j=>if a=x then some j else place a r (j+1)
theorem zwv1 (a:Int):∀(ls:List Int) (j:Nat),Instr.findNow (.int .u64) (.int .u64 a) (ents ls j) j=some ((place a ls j).map fun (k:Nat)=>(k,Value.int .i64 (k:Int)))
 | [],j=>rfl
 | x::r,j=>by
  simp only [ents,Instr.findNow,Instr.sameNow,if_true,place]
  by_cases h:a=x
  ·simp [h]
  ·have:(a==x)=false:=by simpa using h
   rw [this]
   simp only [if_neg h]
   exact zwv1 a r (j+1)
theorem zww1 :∀(ls:List Int) (x:Int) (j:Nat),ents (ls++ [x]) j=ents ls j++ [{key:=.int .u64 x,val:=.int .i64 ((j+ls.length:Nat):Int),born:=j+ls.length}]
 | [],x,j=>by simp [ents]
 | y::r,x,j=>by
  simp only [List.cons_append,ents,zww1 r x (j+1),List.length_cons]
  grind
theorem zrl1 {a:Int}:∀ {ls:List Int} {j:Nat},a∉ls->place a ls j=none
 | [],_,_=>rfl
 | x::r,j,h=>by
  simp only [place]
  rw [if_neg fun e=>h (by grind)]
  exact zrl1 fun e=>h (List.mem_cons_of_mem _ e)
structure Tab (h:Hp) (p:Addr) (ls:List Int):Prop where
 ex:∃(sl:Sl) (m:Nat),LdIs h p [sl.v,.map (some m)]/\Us h sl ls/\h m=some (.map (ents ls 0).toArray ls.length)
theorem Tab.mono {h h':Hp} {p:Addr} {ls:List Int} (hl:h<=h') (t:Tab h p ls):Tab h' p ls:=by
 obtain ⟨sl,m,h1,h2,h3⟩:=t.ex
 exact ⟨sl,m,zbl hl h1,h2.mono hl,hl _ _ h3⟩
theorem Tab.sl {h:Hp} {p:Addr} {ls:List Int} (t:Tab h p ls) {K:Sl->Prop} (hk:∀sl,Us h sl ls->K sl):LdW none shSl h (p.add 0) K:=by
 obtain ⟨sl,m,h1,h2,h3⟩:=t.ex
 refine ⟨sl,fun i v hv=> ?_,hk sl h2⟩
 cases i with
 | zero=>
  have:=h1 0 v (by simpa [zac,Sl.v] using hv)
  rw [zmr]
  exact this
 | succ i=>simp [zac] at hv
theorem Tab.slC {h:Hp} {p:Addr} {ls:List Int} (t:Tab h p ls) {c:Bool} {K:Sl->Prop} (hk:∀sl,Us h sl ls->K sl):LdW (some c) shSl h (p.add 0) K:=by
 obtain ⟨sl,h1,h2⟩:=t.sl hk
 exact ⟨sl,fun _=>h1,h2⟩
theorem Tab.map {h:Hp} {p:Addr} {ls:List Int} (t:Tab h p ls) {K:Option Nat->Prop} (hk:∀m,h m=some (.map (ents ls 0).toArray ls.length)->K (some m)):LdW none shMap h (p.add 1) K:=by
 obtain ⟨sl,m,h1,h2,h3⟩:=t.ex
 refine ⟨some m,fun i v hv=> ?_,hk m h3⟩
 cases i with
 | zero=>
  have:=h1 1 v (by simpa [zac] using hv)
  rw [zmr]
  exact this
 | succ i=>simp [zac] at hv
theorem zdb2 {p:Addr} {ls:List Int} {i:Int} {Q:Bool->Hp->Prop} {h:Hp} (t:Tab h p ls) (hq:Q (decide (0<=i)&&decide (i<(ls.length:Int))) h):zoj Tryz.prog (some p) i Q h:=by
 unfold zoj
 refine zab (t.slC fun sl hs=>letW ?_)
 rw [hs.1]
 exact hq
theorem zai2 {p:Addr} {ls:List Int} {i j:Int} {Q:Bool->Hp->Prop} {h:Hp} (t:Tab h p ls) (hu:∀x∈ls,InU x) (hq:Q (fl ls i j) h):zkp Tryz.prog (some p) i j Q h:=by
 unfold zkp
 refine zqp (zdb2 t ?_)
 generalize hc:(decide (0<=i)&&decide (i<(ls.length:Int)))=ci
 refine ⟨fun e=>zqp (zdb2 t ?_),fun e=>⟨false,?_⟩⟩
 ·generalize hd:(decide (0<=j)&&decide (j<(ls.length:Int)))=cj
  refine letW ?_
  subst e
  rw [Bool.true_and]
  simp at hc
  refine zab (t.slC fun sl hs=> ?_)
  refine Rs.getC hs (0:Int) (fun _=>rfl) (by omega) (fun _=>hc) fun (x:Int) hx=> ?_
  refine zab (t.slC fun sl2 hs2=> ?_)
  refine Rs.getC hs2 (0:Int) (fun _=>rfl) (by omega) (fun e=>by grind) fun (y:Int) hy=> ?_
  refine ⟨fun e=> ?_,fun e=>⟨false,?_⟩⟩
  ·have ex:=hx e
   have ey:=hy e
   rw [e] at hd
   simp at hd
   refine zkx1 (zui1 (hu x (List.mem_of_getElem? ex)) (hu y (List.mem_of_getElem? ey)) (letW ?_))
   rw [e,Bool.true_and,<-fl_in ⟨hc.1,hd.1⟩ ex ey]
   exact hq
  ·refine letW ?_
   rw [e] at hd ⊢
   rw [Bool.false_and,<-zpi2 (xs:=ls) (i:=i) (j:=j) (by simp at hd;omega)]
   exact hq
 ·subst e
  simp at hc
  refine letW ?_
  rw [Bool.false_and]
  refine zab (t.slC fun sl hs=> ?_)
  refine Rs.getC hs (0:Int) (fun _=>rfl) (by omega) (fun e=>by cases e) fun (x:Int) hx=> ?_
  refine zab (t.slC fun sl2 hs2=> ?_)
  refine Rs.getC hs2 (0:Int) (fun _=>rfl) (by omega) (fun e=>by cases e) fun (y:Int) hy=> ?_
  refine ⟨fun e=>(by cases e),fun e=>⟨false,letW ?_⟩⟩
  rw [Bool.false_and,<-zpi2 (xs:=ls) (i:=i) (j:=j) (by omega)]
  exact hq
theorem zmz2 {s:Sl} {xs:List Int} {Q:Sl->Hp->Prop} {h:Hp} (r:Us h s xs) (hl:xs.length<=1000000) (hq:∀out h',h<=h'->OwnU h h' out xs->Q out h'):zcd Tryz.prog s Q h:=by
 unfold zcd
 refine ⟨s.base.isNone,zum (tb_ok.und 22 ty22 rfl) s,?_⟩
 cases hb:s.base with
 | none=>
  rw [if_pos (show (none:Option Addr).isNone=true from rfl)]
  have:xs=[]:=by
   rcases r.2.2 with e | ⟨a,ha,_⟩
   ·exact List.length_eq_zero_iff.1 (by omega)
   grind
  subst this
  exact hq _ h (Hp.le_refl h) ⟨rfl,Nat.le_refl _,.inl ⟨rfl,rfl⟩⟩
 | some a=>
  rw [if_neg (by simp)]
  refine zgy1 (xs:=([]:List Int)) (enc:=fun x=>zac ((shInt .u64).enc x)) (sz:=1) (Hp.le_refl h) rfl (fun _=>rfl) fun a h1 hle1 ho1=> ?_
  refine zzf1 hle1 ho1 (Rw.mono hle1 r) (fun _=>rfl) (fun _=>rfl) rfl ?_ fun l' h' hle' hown _=> ?_
  ·simp;omega
  grind
theorem zfw2 {ls:List Int} (hn:ls.Pairwise (· < ·)) {t:Nat} {x:Int} (hx:ls[t]? =some x):x∉ls.take t:=by
 intro hm
 obtain ⟨i,hi⟩:=List.mem_iff_getElem?.1 hm
 rw [List.getElem?_take] at hi
 split at hi
 ·rename_i hlt
  obtain ⟨h1,e1⟩:=List.getElem?_eq_some_iff.1 hi
  obtain ⟨h2,e2⟩:=List.getElem?_eq_some_iff.1 hx
  have:=List.pairwise_iff_getElem.1 hn i t h1 h2 hlt
  omega
 ·cases hi
theorem zsn2 {l:Sl} {ls:List Int} {Q:Option Addr->Int->Int->Hp->Prop} {h:Hp} (r:Us h l ls) (hl:ls.length<=8) (asc:ls.Pairwise (· < ·)) (h0:ls=[]->Q none 1 0 h)
  (h1:ls≠ []->∀p h',h<=h'->Tab h' p ls->Q (some p) 0 0 h'):zpy Tryz.prog l Q h:=by
 unfold zpy
 refine zsp (zsm2 r hl asc (fun e=> ?_) (fun e=> ?_))
 ·grind
 rw [if_neg (by simp)]
 refine zfe (zmz2 r (by omega) fun out k1 hle1 ho1=> ?_)
 intro m hm
 have hle2:k1<=k1.set m (.map #[] 0):=zcu hm
 intro b t hb
 have hle3:=zcu (o:=.cells (([out.v,.map (some m)]:List Value).toArray) t (0,0)) hb
 have hm0:h m=none:=zbz hle1 hm
 have hbm:b≠m:=fun e=>by rw [e,zbw] at hb;cases hb
 have rout:Us k1 out ls:=ho1.rw fun _=>rfl
 refine ⟨_,rfl,out,?_,?_⟩
 ·intro i v hv
  cases i with
  | zero=>
   rw [zmr]
   exact zul 0 v (by simpa [zac,Sl.v] using hv)
  | succ i=>simp [zac] at hv
 refine LoopW1.intro (fun i k=>h<=k/\0<=i/\i<=(ls.length:Int)/\Us k out ls/\LdIs k ⟨b,0,none⟩ [out.v,.map (some m)]/\k m=some (.map (ents (ls.take i.toNat) 0).toArray i.toNat)) (fun i _=>(ls.length-i).toNat)
  ⟨Hp.le_trans hle1 (Hp.le_trans hle2 hle3),by omega,by omega,Rw.mono (Hp.le_trans hle2 hle3) rout,zul,hle3 _ _ zbw⟩ ?_
 rintro i k ⟨hk,hi0,hi1,hr,hp,hmk⟩
 have hlen:=hr.1
 split
 ·rename_i e
  have e:i<(out.len:Int):=by simpa using e
  refine Rs.get hr (fun _=>rfl) (by omega) hi0 (by omega) fun (x:Int) hx=> ?_
  refine ⟨_,rfl,some m,?_,?_⟩
  ·intro j v hv
   cases j with
   | zero=>
    have:=hp 1 v (by simpa [zac] using hv)
    rw [zmr]
    exact this
   | succ j=>simp [zac] at hv
  have hlt:(ls.take i.toNat).length=i.toNat:=by grind
  refine ⟨m,_,_,rfl,hmk,.inl ⟨?_,?_⟩⟩
  ·have:=zwv1 x (ls.take i.toNat) 0
   rw [zrl1 (zfw2 asc hx)] at this
   exact this
  ·have hck:∀o,CKeep k (k.set m o):=fun o=>zse2 hmk rfl
   rw [wrap64 (by omega) (by omega)]
   refine ⟨⟨zez1 hk hm0,by omega,by omega,Rw.ck (hck _) hr,zio2 (hck _) hp,?_⟩,by omega⟩
   rw [zbw]
   have e1:(i+1).toNat=i.toNat+1:=by omega
   have e2:ls.take (i.toNat+1)=ls.take i.toNat++ [x]:=by rw [List.take_add_one,hx];rfl
   rw [e1,e2,zww1,hlt]
   grind
 ·rename_i e2
  have e2:¬i<(out.len:Int):=by simpa using e2
  have e3:i.toNat=ls.length:=by omega
  rw [e3,List.take_length] at hmk
  exact h1 e _ _ hk ⟨out,m,hp,hr,hmk⟩
def mayR :Int->List Int->Int->Int×Int
 | _,[],_=>(0,0)
 | p,x::r,i=>if x=p then (8,i) else if x<p then (7,i) else mayR x r (i+1)
def mayP :List Int->Int×Int
 | []=>(1,0)
 | x::r=>if 8<r.length+1 then (3,8) else mayR x r 1
theorem zwx1 :∀ {r:List Int} {p i:Int},(mayR p r i).1=0↔(p::r).Pairwise (· < ·)
 | [],p,i=>by simp [mayR]
 | x::r,p,i=>by
  simp only [mayR]
  by_cases h1:x=p
  ·rw [if_pos h1,List.pairwise_cons]
   refine ⟨fun e=>(by cases e),fun h=> ?_⟩
   have:=h.1 x (List.mem_cons_self ..)
   omega
  ·rw [if_neg h1]
   by_cases h2:x<p
   ·rw [if_pos h2,List.pairwise_cons]
    refine ⟨fun e=>(by cases e),fun h=> ?_⟩
    have:=h.1 x (List.mem_cons_self ..)
    omega
   ·rw [if_neg h2,zwx1,List.pairwise_cons (a:=p)]
    refine ⟨fun h=>⟨fun y hy=> ?_,h⟩,fun h=>h.2⟩
    rcases List.mem_cons.1 hy with rfl | hy
    ·omega
    ·have:=(List.pairwise_cons.1 h).1 y hy
     omega
theorem mayP_zero {xs:List Int}:(mayP xs).1=0↔xs≠ []/\xs.length<=8/\xs.Pairwise (· < ·):=by
 cases xs with
 | nil=>simp [mayP]
 | cons x r=>
  simp only [mayP,List.length_cons]
  by_cases h:8<r.length+1
  ·grind
  ·rw [if_neg h,zwx1]
   grind
theorem zaj2 {P:Program} {l:Sl} {xs:List Int} {Q:Int->Int->Hp->Prop} {h:Hp} (r:Us h l xs) (hq:Q (mayP xs).1 (mayP xs).2 h):zpw P l Q h:=by
 unfold zpw
 have hlen:=r.1
 cases hxs:xs with
 | nil=>
  subst hxs
  rw [if_pos (by simp [hlen])]
  exact hq
 | cons x0 r0=>
  subst hxs
  simp only [List.length_cons] at hlen
  rw [if_neg (show ¬(((l.len:Int)==0)=true) by simp;omega)]
  by_cases h8:(l.len:Int)>8
  ·rw [if_pos (decide_eq_true h8)]
   have:mayP (x0::r0)=(3,8):=by simp only [mayP];rw [if_pos (by omega)]
   grind
  rw [if_neg fun hh=>h8 (of_decide_eq_true hh)]
  have hm:mayP (x0::r0)=mayR x0 r0 1:=by simp only [mayP];grind
  rw [hm] at hq
  refine LoopW1.intro (fun i k=>k=h/\1<=i/\i<=((r0.length:Int)+1)/\∃p,(x0::r0)[(i-1).toNat]? =some p/\mayR p ((x0::r0).drop i.toNat) i=mayR x0 r0 1) (fun i _=>(r0.length+1-i).toNat)
   ⟨rfl,by omega,by omega,x0,rfl,rfl⟩ ?_
  rintro i k ⟨rfl,hi1,hi2,p,hp,hmr⟩
  split
  ·rename_i e3
   have e3:i<(l.len:Int):=by simpa using e3
   have hll:((x0::r0).length:Int)=(r0.length:Int)+1:=by simp
   rw [wrap64 (n:=i-1) (by omega) (by omega)]
   refine r.get (fun _=>rfl) (by omega) (by omega) (by omega) fun (x:Int) hx=> ?_
   refine r.get (fun _=>rfl) (by omega) (by omega) (by omega) fun (y:Int) hy=> ?_
   rw [hp] at hy;cases hy
   have hd:(x0::r0).drop i.toNat=x::(x0::r0).drop (i.toNat+1):=by
    obtain ⟨h3,h4⟩:=List.getElem?_eq_some_iff.1 hx
    rw [List.drop_eq_getElem_cons h3,h4]
   rw [hd] at hmr
   simp only [mayR] at hmr
   by_cases hxp:x=p
   ·grind
   rw [if_neg (by simpa using hxp)]
   rw [if_neg hxp] at hmr
   refine r.get (fun _=>rfl) (by omega) (by omega) (by omega) fun (x':Int) hx'=> ?_
   rw [hx] at hx';cases hx'
   refine r.get (fun _=>rfl) (by omega) (by omega) (by omega) fun (y':Int) hy'=> ?_
   rw [hp] at hy';cases hy'
   by_cases hlt:x<p
   ·grind
   rw [if_neg fun hh=>hlt (of_decide_eq_true hh)]
   rw [if_neg hlt] at hmr
   rw [wrap64 (by omega) (by omega)]
   have e1:(i+1).toNat=i.toNat+1:=by omega
   have e2:(i+1-1).toNat=i.toNat:=by omega
   exact ⟨⟨rfl,by omega,by omega,x,by rw [e2];exact hx,by rw [e1];exact hmr⟩,by omega⟩
  ·rename_i e3
   have e3:¬i<(l.len:Int):=by simpa using e3
   rw [List.drop_eq_nil_of_le (by simp;omega)] at hmr
   rw [<-hmr] at hq
   exact hq
theorem zqh2 {l:Sl} {ls:List Int} {Q:Option Addr->Int->Int->Hp->Prop} {h:Hp} (r:Us h l ls) (h0:(mayP ls).1≠0->Q none (mayP ls).1 (mayP ls).2 h)
  (h1:(mayP ls).1=0->∀p h',h<=h'->Tab h' p ls->Q (some p) 0 0 h'):zpy Tryz.prog l Q h:=by
 by_cases hm:(mayP ls).1=0
 ·obtain ⟨hne,hl,hasc⟩:=mayP_zero.1 hm
  exact zsn2 r hl hasc (fun e=>absurd e hne) fun _=>h1 hm
 ·unfold zpy
  refine zsp (zaj2 r ?_)
  grind
def All2 {α β:Type} (R:α->β->Prop):List α->List β->Prop
 | [],[]=>True
 | a::l,b::m=>R a b/\All2 R l m
 | _,_=>False
section
variable {α β:Type} {R S:α->β->Prop}
theorem All2.len :∀ {l:List α} {m:List β},All2 R l m->l.length=m.length
 | [],[],_=>rfl
 | _::l,_::m,h=>by simp [All2.len h.2]
 | [],_::_,h=>h.elim
 | _::_,[],h=>h.elim
theorem All2.imp (hi:∀a b,R a b->S a b):∀ {l:List α} {m:List β},All2 R l m->All2 S l m
 | [],[],_=>trivial
 | _::_,_::_,h=>⟨hi _ _ h.1,All2.imp hi h.2⟩
 | [],_::_,h=>h.elim
 | _::_,[],h=>h.elim
theorem All2.get :∀ {l:List α} {m:List β} {i:Nat} {a:α},All2 R l m->l[i]? =some a->∃b,m[i]? =some b/\R a b
 | [],_,_,_,_,e=>by simp at e
 | _::_,[],_,_,h,_=>h.elim
 | _::_,b::_,0,_,h,e=>by simp at e;subst e;exact ⟨b,rfl,h.1⟩
 | _::_,_::_,i+1,_,h,e=>by
  rw [List.getElem?_cons_succ] at e
  obtain ⟨b,h1,h2⟩:=All2.get h.2 e
  grind
theorem All2.get' :∀ {l:List α} {m:List β} {i:Nat} {b:β},All2 R l m->m[i]? =some b->∃a,l[i]? =some a/\R a b
 | _,[],_,_,_,e=>by simp at e
 | [],_::_,_,_,h,_=>h.elim
 | a::_,_::_,0,_,h,e=>by simp at e;subst e;exact ⟨a,rfl,h.1⟩
 | _::_,_::_,i+1,_,h,e=>by
  rw [List.getElem?_cons_succ] at e
  obtain ⟨b,h1,h2⟩:=All2.get' h.2 e
  grind
theorem All2.app :∀ {l l':List α} {m m':List β},All2 R l m->All2 R l' m'->All2 R (l++l') (m++m')
 | [],_,[],_,_,h=>h
 | _::_,_,_::_,_,h,h'=>⟨h.1,All2.app h.2 h'⟩
 | [],_,_::_,_,h,_=>h.elim
 | _::_,_,[],_,h,_=>h.elim
theorem All2.drop :∀ {l:List α} {m:List β} (n:Nat),All2 R l m->All2 R (l.drop n) (m.drop n)
 | _,_,0,h=>h
 | [],[],_+1,h=>h
 | _::_,_::_,n+1,h=>All2.drop n h.2
 | [],_::_,_+1,h=>h.elim
 | _::_,[],_+1,h=>h.elim
theorem All2.take :∀ {l:List α} {m:List β} (n:Nat),All2 R l m->All2 R (l.take n) (m.take n)
 | _,_,0,_=>trivial
 | [],[],_+1,h=>h
 | _::_,_::_,n+1,h=>⟨h.1,All2.take n h.2⟩
 | [],_::_,_+1,h=>h.elim
 | _::_,[],_+1,h=>h.elim
end
def ProcAt (h:Hp) (q:S_api_Proc) (p:PProc):Prop:=q.Part=p.part/\∃is,InsS h q.Code is/\is.map insOf=p.code
abbrev ProcS (h:Hp) (l:Sl) (ps:List S_api_Proc):Prop:=Rs h sh_api_Proc 2 l ps
structure CfgAt (h:Hp) (c:S_api_Config) (p:PCfg):Prop where
 labels:Us h c.Labels p.labels
 table:Is h c.Table p.table
 fuel:c.Fuel=p.fuel
 lane:c.Lane=p.lane
 locks:c.Locks=p.locks
 log:c.Log=p.log
 procs:∃ps,ProcS h c.Procs ps/\All2 (ProcAt h) ps p.procs
section
variable {h h':Hp}
theorem ProcAt.mono (hl:h<=h') {q:S_api_Proc} {p:PProc} (a:ProcAt h q p):ProcAt h' q p:=by
 obtain ⟨h1,is,h2,h3⟩:=a
 exact ⟨h1,is,Rw.mono hl h2,h3⟩
theorem CfgAt.mono (hl:h<=h') {c:S_api_Config} {p:PCfg} (a:CfgAt h c p):CfgAt h' c p:=by
 obtain ⟨ps,h1,h2⟩:=a.procs
 exact ⟨Rw.mono hl a.labels,Rw.mono hl a.table,a.fuel,a.lane,a.locks,a.log,ps,Rw.mono hl h1,h2.imp fun _ _ e=>e.mono hl⟩
end
section
variable {P:Program} {h:Hp}
theorem zzt {n a b:Int} {Q:Bool->Hp->Prop} (hq:Q (within n a b) h):zva P n a b Q h:=by
 unfold zva
 exact letW hq
theorem zak2 {n most:Int} {Q:Int->Hp->Prop} (hq:Q (cntE most n) h):zdd1 P n most Q h:=by
 unfold zdd1
 unfold cntE at hq
 grind
def zec (part n:Int):Int:=if part=2 then rngE 1 256 n else if part=3 then rngE 1 64 n else if part=4 then rngE 0 8 n else if part=5 then rngE 0 4096 n else 0
theorem zwy1 {part n:Int} {Q:Int->Hp->Prop} (hq:Q (zec part n) h):zuz Tryz.prog part n Q h:=by
 unfold zuz
 unfold zec at hq
 have one:∀a b,Q (rngE a b n) h->(if (!(within n a b))=true then Q 2 h else Q 0 h):=fun a b hq=>by
  unfold rngE at hq
  grind
 by_cases h2:part=2
 ·rw [if_pos h2] at hq;rw [if_pos (by simpa using h2)]
  exact zgo (zzt (one 1 256 hq))
 ·rw [if_neg h2] at hq;rw [if_neg (by simpa using h2)]
  by_cases h3:part=3
  ·rw [if_pos h3] at hq;rw [if_pos (by simpa using h3)]
   exact zgo (zzt (one 1 64 hq))
  ·rw [if_neg h3] at hq;rw [if_neg (by simpa using h3)]
   by_cases h4:part=4
   ·rw [if_pos h4] at hq;rw [if_pos (by simpa using h4)]
    exact zgo (zzt (one 0 8 hq))
   ·rw [if_neg h4] at hq;rw [if_neg (by simpa using h4)]
    by_cases h5:part=5
    ·rw [if_pos h5] at hq;rw [if_pos (by simpa using h5)]
     exact zgo (zzt (one 0 4096 hq))
    grind
end
theorem zjx1 {h:Hp} {s:Sl} {xs:List Int} {p:Int->Bool} {f:FnV} {Q:Int->Hp->Prop} (r:Is h s xs) (hl:xs.length<=1000000)
  (hc:∀x∈xs,∀(k:Hp) (K:Bool->Hp->Prop),h<=k->(∀k',h<=k'->K (p x) k')->CallV Tryz.prog tb (.func (.func f.g) f.first f.captured) [.int .i64 x] zae K k)
  (hq:∀i h',h<=h'->(0<=i↔xs.any p=true)->Q i h'):zea Tryz.prog s f Q h:=by
 unfold zea
 have hlen:=r.1
 refine LoopW1.intro (fun i k=>h<=k/\0<=i/\i<=(xs.length:Int)/\∀x∈xs.take i.toNat,p x=false) (fun i _=>(xs.length-i).toNat) ⟨Hp.le_refl h,by omega,by omega,fun x hx=>by simp at hx⟩ ?_
 rintro i k ⟨hle,h0,hi,hall⟩
 by_cases h3:i<(xs.length:Int)
 ·rw [if_pos (decide_eq_true (by omega))]
  refine Rs.get (sh:=shInt .i64) (Rw.mono hle r) (fun _=>rfl) (by omega) h0 h3 fun x hx=> ?_
  refine hc x (List.mem_of_getElem? hx) k _ hle fun k' hle'=> ?_
  cases hp:p x with
  | true=>
   grind
  | false=>
   rw [if_neg (by simp),wrap64 (by omega) (by omega)]
   refine ⟨⟨hle',by omega,by omega,fun y hy=> ?_⟩,by omega⟩
   have:(i+1).toNat=i.toNat+1:=by omega
   rw [this,List.take_add_one,hx] at hy
   grind
 ·rw [if_neg (fun e=>h3 (by have:=of_decide_eq_true e;omega))]
  refine hq (-1) k hle ⟨fun e=>by omega,fun e=> ?_⟩
  obtain ⟨x,hx,hp⟩:=List.any_eq_true.1 e
  have:xs.take i.toNat=xs:=List.take_of_length_le (by omega)
  grind
theorem zji2 {s:Sl} {xs:List Int} {Q:Sl->Hp->Prop} {h:Hp} (r:Is h s xs) (hl:xs.length<=1000000) (hq:∀out h',h<=h'->OwnI h h' out xs->Q out h'):zbp Tryz.prog s Q h:=by
 unfold zbp
 refine ⟨s.base.isNone,zum (tb_ok.und 23 ty23 rfl) s,?_⟩
 cases hb:s.base with
 | none=>
  rw [if_pos (show (none:Option Addr).isNone=true from rfl)]
  have:xs=[]:=by
   rcases r.2.2 with e | ⟨a,ha,_⟩
   ·exact List.length_eq_zero_iff.1 (by omega)
   grind
  subst this
  exact hq _ h (Hp.le_refl h) ⟨rfl,Nat.le_refl _,.inl ⟨rfl,rfl⟩⟩
 | some a=>
  rw [if_neg (by simp)]
  refine zgy1 (xs:=([]:List Int)) (enc:=fun x=>zac ((shInt .i64).enc x)) (sz:=1) (Hp.le_refl h) rfl (fun _=>rfl) fun a h1 hle1 ho1=> ?_
  refine zzf1 hle1 ho1 (Rw.mono hle1 r) (fun _=>rfl) (fun _=>rfl) rfl ?_ fun l' h' hle' hown _=> ?_
  ·simp;omega
  grind
theorem zal2 {h:Hp} {t:Sl} {xs:List Int} {n:Int} {Q:Option Addr->Int->Int->Hp->Prop} (r:Is h t xs) (h1:1<=n) (h8:n<=8) (hne:xs≠ []) (hl:xs.length<=64)
  (hq:∀p i h',h<=h'->Q p (if (xs.all fun x=>within x 0 (n-1))=false then 2 else 0) i h'):zpx Tryz.prog t n Q h:=by
 unfold zpx
 have hlen:=r.1
 have hpos:0<xs.length:=List.length_pos_iff.2 hne
 intro b ty hn
 have hle:=zcu (o:=.cells (#[Value.int .i64 n]) ty (0,0)) hn
 have hld:LdIs (h.set b (.cells (#[Value.int .i64 n]) ty (0,0))) ⟨b,0,none⟩ [.int .i64 n]:=zul (cs:=[Value.int .i64 n])
 refine ld_at (sh:=shInt .i64) n hld ?_
 refine ⟨n,fun _=>hld,?_⟩
 refine letW (letW ?_)
 rw [if_neg (by simp;omega),if_neg (by simp;omega)]
 have hany:(xs.any fun x=>decide (x<0) || decide (x>=n))= !(xs.all fun x=>within x 0 (n-1)):=by
  rw [Bool.eq_iff_iff]
  simp only [List.any_eq_true,Bool.not_eq_true',List.all_eq_false,Bool.or_eq_true,decide_eq_true_eq]
  constructor
  ·rintro ⟨x,hx,hb⟩
   exact ⟨x,hx,by rw [within_true];omega⟩
  ·rintro ⟨x,hx,hb⟩
   exact ⟨x,hx,by rw [within_true] at hb;omega⟩
 refine zgq (f:=⟨zlm, #[], #[.pointer (some ⟨b,0,none⟩)]⟩) (zjx1 (p:=fun x=>decide (x<0) || decide (x>=n)) (Rw.mono hle r) (by omega) (fun x _ k K hk hK=> ?_) fun i h' hle' hi=> ?_)
 ·refine zhq (g:=zlm) rfl (zxc ?_)
  unfold zvd
  refine ⟨n,fun _=>zbl hk hld,letW (hK k hk)⟩
 ·dsimp only
  rw [hany] at hi
  cases ha:(xs.all fun x=>within x 0 (n-1)) with
  | false=>
   rw [ha] at hi hq
   rw [if_pos (decide_eq_true (hi.2 rfl))]
   exact hq none i h' (Hp.le_trans hle hle')
  | true=>
   rw [ha] at hi hq
   rw [if_neg (fun e=>by grind)]
   refine ld_at (sh:=shInt .i64) n (zbl hle' hld) ?_
   refine zcz (zji2 (Rw.mono (Hp.le_trans hle hle') r) (by omega) fun out h2 hle2 ho=> ?_)
   refine ⟨⟨zbl (Hp.le_trans hle' hle2) hld,trivial⟩,?_⟩
   intro b2 t2 hn2
   exact hq _ 0 _ (Hp.le_trans (Hp.le_trans hle hle') (Hp.le_trans hle2 (zcu hn2)))
def numsR :List Int->Int->Int×Int->Int×Int
 | [],_,z=>z
 | n::r,i,z=>if zec i n≠0 then (zec i n,i) else numsR r (i+1) z
def restP (c:PCfg):Int×Int:=if c.procs=[] then (1,6) else if 32<c.procs.length then (3,6) else zrk c.labels.length c.locks c.procs 0
theorem zjj2 (m:Int) (c:PCfg):cfgP m c=if m≠0 then (m,0) else if c.table=[] then (1,1) else if 64<c.table.length then (3,1)
  else if (c.table.all fun p=>within p 0 (c.labels.length-1))=false then (2,1) else numsR [0,0,c.fuel,c.lane,c.locks,c.log] 0 (restP c):=by
 unfold cfgP
 have h0:zec 0 0=0:=rfl
 have h1:zec (0+1) 0=0:=rfl
 have h2:zec (0+1+1) c.fuel=rngE 1 256 c.fuel:=rfl
 have h3:zec (0+1+1+1) c.lane=rngE 1 64 c.lane:=rfl
 have h4:zec (0+1+1+1+1) c.locks=rngE 0 8 c.locks:=rfl
 have h5:zec (0+1+1+1+1+1) c.log=rngE 0 4096 c.log:=rfl
 simp only [numsR,h0,h1,h2,h3,h4,h5,ne_eq,not_true_eq_false,if_false]
 unfold rngE restP
 grind
def cfgE (c:PCfg):Int×Int:=cfgP (mayP c.labels).1 c
theorem zfx2 {h:Hp} {c:S_api_Config} {p:PCfg} {Q:Int->Int->Hp->Prop} (a:CfgAt h c p) (hq:∀h',h<=h'->Q (cfgE p).1 (cfgE p).2 h'):zhi1 Tryz.prog c Q h:=by
 unfold zhi1
 have le:=Hp.le_refl h
 unfold cfgE at hq
 rw [zjj2] at hq
 refine zsp (zaj2 a.labels ?_)
 dsimp only
 by_cases h1:(mayP p.labels).1≠0
 ·grind
 rw [if_neg h1] at hq
 rw [if_neg (by simpa using h1)]
 obtain ⟨hl1,hl2,_⟩:=mayP_zero.1 (Classical.not_not.1 h1)
 have hll:=a.labels.1
 have hlt:=a.table.1
 have hpos:0<p.labels.length:=List.length_pos_iff.2 hl1
 refine zso (zak2 ?_)
 by_cases h2:p.table=[]
 ·rw [if_pos h2] at hq
  have e:cntE 64 (c.Table.len:Int)=1:=by unfold cntE;rw [if_pos (by rw [hlt,h2];rfl)]
  grind
 rw [if_neg h2] at hq
 have hpt:0<p.table.length:=List.length_pos_iff.2 h2
 by_cases h3:64<p.table.length
 ·rw [if_pos h3] at hq
  have e:cntE 64 (c.Table.len:Int)=3:=by unfold cntE;rw [if_neg (by omega),if_pos (by omega)]
  grind
 rw [if_neg h3] at hq
 have e:cntE 64 (c.Table.len:Int)=0:=by unfold cntE;omega
 rw [e,if_neg (by simp)]
 rw [hll]
 refine zcj1 (zal2 a.table (by omega) (by omega) h2 (by omega) fun sp si h3' le3=> ?_)
 dsimp only
 by_cases h4:(p.table.all fun x=>within x 0 (p.labels.length-1))=false
 ·grind
 rw [if_neg h4] at hq
 rw [if_neg (by grind)]
 refine zgy1 (h0:=h3') (xs:=([0,0,p.fuel,p.lane,p.locks,p.log]:List Int)) (enc:=fun x=>zac ((shInt .i64).enc x)) (sz:=1) (Hp.le_refl h3') (by rw [a.fuel,a.lane,a.locks,a.log];rfl) (fun _=>rfl) fun ad h4' le4 o4=> ?_
 have r4:Is h4' ⟨some ad,6,6⟩ [0,0,p.fuel,p.lane,p.locks,p.log]:=o4.rw fun _=>rfl
 have le4':=Hp.le_trans le3 le4
 obtain ⟨ps,hps,hall⟩:=a.procs
 have hlp:=hps.1
 have hlp2:=hall.len
 refine LoopW1.intro (fun i k=>h4'<=k/\0<=i/\i<=6/\numsR (([0,0,p.fuel,p.lane,p.locks,p.log]:List Int).drop i.toNat) i (restP p)=numsR [0,0,p.fuel,p.lane,p.locks,p.log] 0 (restP p)) (fun i _=>(6-i).toNat) ⟨Hp.le_refl _,by omega,by omega,rfl⟩ ?_
 rintro i k ⟨hle,h0,hi,he⟩
 have hlek:=Hp.le_trans le4' hle
 by_cases h5:i<6
 ·rw [if_pos (decide_eq_true h5)]
  refine Rs.get (sh:=shInt .i64) (l:=⟨some ad,6,6⟩) (Rw.mono hle r4) (fun _=>rfl) (by omega) h0 (by simpa using h5) fun x hx=> ?_
  refine zxb (zwy1 ?_)
  have hd:([0,0,p.fuel,p.lane,p.locks,p.log]:List Int).drop i.toNat=x::([0,0,p.fuel,p.lane,p.locks,p.log]:List Int).drop (i.toNat+1):=by
   grind
  rw [hd,numsR] at he
  by_cases h6:zec i x≠0
  ·grind
  ·rw [if_neg h6] at he
   rw [if_neg (by simpa using h6),wrap64 (by omega) (by omega)]
   refine ⟨⟨hle,by omega,by omega,?_⟩,by omega⟩
   have:(i+1).toNat=i.toNat+1:=by omega
   grind
 ·rw [if_neg (fun e=>h5 (of_decide_eq_true e))]
  have:i=6:=by omega
  subst this
  rw [show ([0,0,p.fuel,p.lane,p.locks,p.log]:List Int).drop (6:Int).toNat=[] from rfl,numsR] at he
  rw [<-he] at hq
  unfold restP at hq
  refine zso (zak2 ?_)
  by_cases h6:p.procs=[]
  ·rw [if_pos h6] at hq
   have e:cntE 32 (c.Procs.len:Int)=1:=by unfold cntE;rw [if_pos (by rw [hlp,hlp2,h6];rfl)]
   grind
  rw [if_neg h6] at hq
  have hpp:0<p.procs.length:=List.length_pos_iff.2 h6
  by_cases h7:32<p.procs.length
  ·rw [if_pos h7] at hq
   have e:cntE 32 (c.Procs.len:Int)=3:=by unfold cntE;rw [if_neg (by omega),if_pos (by omega)]
   grind
  rw [if_neg h7] at hq
  have e:cntE 32 (c.Procs.len:Int)=0:=by unfold cntE;omega
  rw [e,if_neg (by simp)]
  refine LoopW1.intro (fun i k'=>k<=k'/\0<=i/\i<=(ps.length:Int)/\zrk p.labels.length p.locks (p.procs.drop i.toNat) i=zrk p.labels.length p.locks p.procs 0) (fun i _=>(ps.length-i).toNat) ⟨Hp.le_refl _,by omega,by omega,rfl⟩ ?_
  rintro i k' ⟨hle',h0,hi,he⟩
  have hlk:=Hp.le_trans hlek hle'
  by_cases h8:i<(ps.length:Int)
  ·rw [if_pos (decide_eq_true (by omega))]
   refine Rs.get (sh:=sh_api_Proc) (Rw.mono hlk hps) (fun _=>rfl) (by omega) h0 h8 fun q hx=> ?_
   obtain ⟨pp,hpp1,hq1,is,his,hmap⟩:=hall.get hx
   have hd:p.procs.drop i.toNat=pp::p.procs.drop (i.toNat+1):=by
    obtain ⟨hx1,hx2⟩:=List.getElem?_eq_some_iff.1 hpp1
    rw [<-hx2];simp
   rw [hd,zrk] at he
   rw [wrap64 (n:=(p.labels.length:Int)-1) (by omega) (by omega)]
   refine zgo (zzt ?_)
   rw [hq1]
   by_cases h9:within pp.part 0 ((p.labels.length:Int)-1)=false
   ·rw [if_pos h9] at he
    rw [if_pos (by rw [h9];rfl),wrap64 (by omega) (by omega)]
    grind
   rw [if_neg h9] at he
   rw [if_neg (by grind)]
   refine ztw1 (zfv2 (Rw.mono hlk his) fun k2 le2=> ?_)
   dsimp only
   rw [hmap,a.locks]
   by_cases h10:(codeP pp.code p.locks).1≠0
   ·rw [if_pos h10] at he
    rw [if_pos (by simpa using h10),wrap64 (by omega) (by omega)]
    rw [<-he] at hq
    exact hq k2 (Hp.le_trans hlk le2)
   ·rw [if_neg h10] at he
    rw [if_neg (by simpa using h10),wrap64 (by omega) (by omega)]
    refine ⟨⟨Hp.le_trans hle' le2,by omega,by omega,?_⟩,by omega⟩
    grind
  ·rw [if_neg (fun e=>h8 (by have:=of_decide_eq_true e;omega))]
   rw [List.drop_eq_nil_of_le (by omega),zrk] at he
   grind
def zgf1 (x:S_api_Waiter):zdi:=⟨x.Proc,x.Value_⟩
def zoc1 (x:S_api_Entry):zfc1:=⟨x.Tick,x.Proc,x.Value_⟩
abbrev WaitS (h:Hp) (l:Sl) (xs:List S_api_Waiter):Prop:=Rs h sh_api_Waiter 2 l xs
abbrev EntS (h:Hp) (l:Sl) (xs:List S_api_Entry):Prop:=Rs h sh_api_Entry 3 l xs
structure LaneAt (h:Hp) (x:S_api_Lane) (p:PLane):Prop where
 values:Is h x.Values p.values
 waiters:∃ws,WaitS h x.Waiters ws/\ws.map zgf1=p.waiters
 taken:x.Taken=p.taken
 dropped:x.Dropped=p.dropped
structure ProcessAt (h:Hp) (x:S_api_Process) (p:PProcess):Prop where
 state:x.State=p.state
 pc:x.PC=p.pc
 regs: [x.Regs_0,x.Regs_1,x.Regs_2,x.Regs_3,x.Regs_4,x.Regs_5,x.Regs_6,x.Regs_7]=p.regs
 cursor:x.Cursor=p.cursor
 timer:x.Timer=p.timer
 fired:x.Fired=p.fired
 wake:x.Wake=p.wake
 lanes:∃ls,Rs h sh_api_Lane 4 x.Lanes ls/\All2 (LaneAt h) ls p.lanes
structure PartAt (h:Hp) (x:S_api_Part) (p:PPart):Prop where
 cursor:x.Cursor=p.cursor
 log:∃es,EntS h x.Log es/\es.map zoc1=p.log
 lost:x.Lost=p.lost
 forbidden:x.Forbidden=p.forbidden
 owners:Is h x.Owners p.owners
 queues:∃qs,Rs h shSl 1 x.Queues qs/\All2 (Is h) qs p.queues
structure StateAt (h:Hp) (x:S_api_State) (p:zbi):Prop where
 tick:x.Tick=p.tick
 parts:∃ps,Rs h sh_api_Part 6 x.Parts ps/\All2 (PartAt h) ps p.parts
 procs:∃ps,Rs h sh_api_Process 15 x.Procs ps/\All2 (ProcessAt h) ps p.procs
section
variable {h h':Hp}
theorem LaneAt.mono (hl:h<=h') {x:S_api_Lane} {p:PLane} (a:LaneAt h x p):LaneAt h' x p:=by
 obtain ⟨ws,h1,h2⟩:=a.waiters
 exact ⟨Rw.mono hl a.values,⟨ws,Rw.mono hl h1,h2⟩,a.taken,a.dropped⟩
theorem ProcessAt.mono (hl:h<=h') {x:S_api_Process} {p:PProcess} (a:ProcessAt h x p):ProcessAt h' x p:=by
 obtain ⟨ls,h1,h2⟩:=a.lanes
 exact ⟨a.state,a.pc,a.regs,a.cursor,a.timer,a.fired,a.wake,ls,Rw.mono hl h1,h2.imp fun _ _ e=>e.mono hl⟩
theorem PartAt.mono (hl:h<=h') {x:S_api_Part} {p:PPart} (a:PartAt h x p):PartAt h' x p:=by
 obtain ⟨es,h1,h2⟩:=a.log
 obtain ⟨qs,h3,h4⟩:=a.queues
 exact ⟨a.cursor,⟨es,Rw.mono hl h1,h2⟩,a.lost,a.forbidden,Rw.mono hl a.owners,qs,Rw.mono hl h3,h4.imp fun _ _ e=>Rw.mono hl e⟩
theorem StateAt.mono (hl:h<=h') {x:S_api_State} {p:zbi} (a:StateAt h x p):StateAt h' x p:=by
 obtain ⟨ps,h1,h2⟩:=a.parts
 obtain ⟨qs,h3,h4⟩:=a.procs
 exact ⟨a.tick,⟨ps,Rw.mono hl h1,h2.imp fun _ _ e=>e.mono hl⟩,qs,Rw.mono hl h3,h4.imp fun _ _ e=>e.mono hl⟩
end
section
variable {h:Hp} {c:PCfg} {s:zbi}
end
theorem effI {α:Type} {c:Bool} {A:(α->Hp->Prop)->Hp->Prop} {K:α->Hp->Prop} {h:Hp} (p:α->Prop) (x0:α) (hA:c=true->(∀x,p x->K x h)->A K h) (hk:∀x,(c=true->p x)->K x h):EffC (some c) A K h:=
 ⟨fun hc=>hA hc fun x hp=>hk x fun _=>hp,fun hc=>⟨x0,hk x0 fun e=>by grind⟩⟩
theorem ldC {sh:Shape} {c:Bool} {h:Hp} {a:Addr} {K:sh.T->Prop} (x:sh.T) (hl:LdIs h a (zac (sh.enc x))) (hk:K x):LdW (some c) sh h a K:=⟨x,fun _=>hl,hk⟩
section
variable {h:Hp} {c:PCfg} {s:zbi}
end
def LsO {α β:Type} (R:α->β->Hp->List Nat->Prop):List α->List β->Hp->List Nat->Prop
 | [],[],_,B=>B=[]
 | a::l,b::m,h,B=>∃B1 B2,B=B1++B2/\R a b h B1/\LsO R l m h B2
 | _,_,_,_=>False
structure AsOk {α β:Type} (R:α->β->Hp->List Nat->Prop):Prop where
 same:∀ {a b h h' B},R a b h B->(∀c∈B,h' c=h c)->R a b h' B
 known:∀ {a b h B},R a b h B->∀c∈B,h c≠none
section
variable {α β:Type} {R:α->β->Hp->List Nat->Prop} {h h':Hp}
theorem LsO.same (ok:AsOk R):∀ {l:List α} {m:List β} {B:List Nat},LsO R l m h B->(∀c∈B,h' c=h c)->LsO R l m h' B
 | [],[],_,o,_=>o
 | _::_,_::_,_,⟨B1,B2,e,o1,o2⟩,hs=>⟨B1,B2,e,ok.same o1 fun c hc=>hs c (by grind),LsO.same ok o2 fun c hc=>hs c (by grind)⟩
 | [],_::_,_,o,_=>o.elim
 | _::_,[],_,o,_=>o.elim
theorem LsO.known (ok:AsOk R):∀ {l:List α} {m:List β} {B:List Nat},LsO R l m h B->∀c∈B,h c≠none
 | [],[],_,o,c,hc=>by rw [show _=[] from o] at hc;cases hc
 | _::_,_::_,_,⟨B1,B2,e,o1,o2⟩,c,hc=>by
  rw [e] at hc
  rcases List.mem_append.1 hc with hc | hc
  ·exact ok.known o1 c hc
  ·exact LsO.known ok o2 c hc
 | [],_::_,_,o,_,_=>o.elim
 | _::_,[],_,o,_,_=>o.elim
theorem LsO.snoc {a:α} {b:β} {B':List Nat} (e:R a b h B'):∀ {l:List α} {m:List β} {B:List Nat},LsO R l m h B->LsO R (l++ [a]) (m++ [b]) h (B++B')
 | [],[],_,o=>by
  rw [show _=[] from o]
  exact ⟨B',[],by simp,e,rfl⟩
 | _::_,_::_,_,⟨B1,B2,e1,o1,o2⟩=>⟨B1,B2++B',by grind,o1,LsO.snoc e o2⟩
 | [],_::_,_,o=>o.elim
 | _::_,[],_,o=>o.elim
theorem LsO.all2 {S:α->β->Prop} (hi:∀a b B,R a b h B->S a b):∀ {l:List α} {m:List β} {B:List Nat},LsO R l m h B->All2 S l m
 | [],[],_,_=>trivial
 | _::_,_::_,_,⟨B1,_,_,o1,o2⟩=>⟨hi _ _ B1 o1,LsO.all2 hi o2⟩
 | [],_::_,_,o=>o.elim
 | _::_,[],_,o=>o.elim
theorem OwnF.one {sz:Nat} {enc:α->List Value} {l:Sl} {xs:List α} {F:List Nat} (o:OwnF h sz enc l xs F):F=[]\/∃b,F=[b]:=by
 obtain ⟨_,_,o⟩:=o
 grind
theorem OwnF.nodup {sz:Nat} {enc:α->List Value} {l:Sl} {xs:List α} {F:List Nat} (o:OwnF h sz enc l xs F):F.Nodup:=by
 rcases o.one with e | ⟨b,e⟩<;>rw [e]<;>simp
end
def PureO {α β:Type} (S:α->β->Prop) (a:α) (b:β) (_:Hp) (B:List Nat):Prop:=B=[]/\S a b
theorem PureO.ok {α β:Type} (S:α->β->Prop):AsOk (PureO S):=⟨fun o _=>o,fun o c hc=>by rw [o.1] at hc;cases hc⟩
def RowsO {β:Type} (sh:Shape) (sz:Nat) (R:sh.T->β->Hp->List Nat->Prop) (l:Sl) (ps:List β) (h:Hp) (B:List Nat):Prop:=
 ∃(xs:List sh.T) (B1 B2:List Nat),B=B1++B2/\OwnF h sz (fun x=>zac (sh.enc x)) l xs B1/\LsO R xs ps h B2
section
variable {β:Type} {sh:Shape} {sz:Nat} {R:sh.T->β->Hp->List Nat->Prop} {l:Sl} {ps:List β} {h h':Hp} {B:List Nat}
theorem RowsO.nil :RowsO sh sz R ⟨none,0,0⟩ [] h []:=⟨[],[],[],rfl,⟨rfl,Nat.le_refl _,.inl ⟨rfl,rfl,rfl⟩⟩,rfl⟩
theorem RowsO.ok (ok:AsOk R):AsOk (RowsO sh sz R) where
 same:=by
  rintro a b h h' B ⟨xs,B1,B2,e,o1,o2⟩ hs
  exact ⟨xs,B1,B2,e,o1.same fun c hc=>hs c (by grind),o2.same ok fun c hc=>hs c (by grind)⟩
 known:=by
  rintro a b h B ⟨xs,B1,B2,e,o1,o2⟩ c hc
  rw [e] at hc
  rcases List.mem_append.1 hc with hc | hc
  ·exact o1.known c hc
  ·exact o2.known ok c hc
theorem RowsO.len (o:RowsO sh sz R l ps h B):l.len=ps.length:=by
 obtain ⟨xs,B1,B2,e,o1,o2⟩:=o
 have:=(o2.all2 (S:=fun _ _=>True) fun _ _ _ _=>trivial).len
 rw [<-this]
 exact o1.1
theorem RowsO.rows {S:sh.T->β->Prop} (henc:∀x,(zac (sh.enc x)).length=sz) (hi:∀a b B,R a b h B->S a b) (o:RowsO sh sz R l ps h B):∃xs,Rs h sh sz l xs/\All2 S xs ps:=by
 obtain ⟨xs,B1,B2,e,o1,o2⟩:=o
 exact ⟨xs,o1.rw henc,o2.all2 hi⟩
theorem zgg1 (ok:AsOk R) (o:RowsO sh sz R l ps h B) {v:sh.T} {p:β} {B':List Nat} (e:R v p h B') (nd:(B++B').Nodup) {x:Sl} (hx:Rs h sh sz x [v]) (henc:∀x,(zac (sh.enc x)).length=sz) (hok:∀x,zax (zac (sh.enc x))=true)
  {zero:List Value} {bytes:Nat} (hz:zero.length=sz) (hb:ps.length+1<=140737488355328/\(ps.length+1)*bytes<=140737488355328) {K:Sl->Hp->Prop}
  (hk:∀l' h' B'',RowsO sh sz R l' (ps++ [p]) h' B''->B''.Nodup->(∀b ob,h b=some ob->b∉B->h' b=some ob)->(∀c∈B'',c∈B++B'\/h c=none)->K l' h'):zai sz bytes zero l x K h:=by
 have hlen:=o.len
 obtain ⟨xs,B1,B2,e1,o1,o2⟩:=o
 have hxl:xs.length=ps.length:=by rw [<-hlen];exact o1.1.symm
 have k2:=o2.known ok
 have k3:=ok.known e
 refine appF o1 hx henc hok hz (by rw [hxl];exact hb) fun l' h' F' o1' m=> ?_
 rw [e1] at nd
 have nd2:=nd
 rw [List.append_assoc,List.nodup_append] at nd
 obtain ⟨nd1,nd3,nd4⟩:=nd
 have d2:∀c∈B2++B',c∉B1:=fun c hc hb=>nd4 c hb c hc rfl
 have kk:∀c∈B2++B',h c≠none:=fun c hc=>by
  rcases List.mem_append.1 hc with hc | hc
  ·exact k2 c hc
  ·exact k3 c hc
 have hs:∀c∈B2++B',h' c=h c:=zgz1 m kk d2
 have o2':=(o2.same ok fun c hc=>hs c (List.mem_append_left _ hc)).snoc (ok.same e fun c hc=>hs c (List.mem_append_right _ hc))
 have hf:∀c∈F'++(B2++B'),c∈B++B'\/h c=none:=fun c hc=>by
  rcases List.mem_append.1 hc with hc | hc
  ·rcases m.from_ c hc with hc | hc
   ·exact .inl (by rw [e1];simp [hc])
   ·exact .inr hc
  ·refine .inl ?_
   rw [e1,List.append_assoc]
   exact List.mem_append_right _ hc
 refine hk l' h' (F'++(B2++B')) ⟨xs++ [v],F',B2++B',rfl,o1',o2'⟩ ?_ (fun b ob hb hn=>m.keep b ob hb fun hb1=>hn (by rw [e1];simp [hb1])) hf
 rw [List.nodup_append]
 refine ⟨o1'.nodup,nd3,fun a ha b hb hab=> ?_⟩
 subst hab
 rcases m.from_ a ha with hc | hc
 ·exact d2 a hb hc
 grind
end
abbrev IsO (l:Sl) (xs:List Int) (h:Hp) (B:List Nat):Prop:=RowsO (shInt .i64) 1 (PureO Eq) l xs h B
abbrev UsO (l:Sl) (xs:List Int) (h:Hp) (B:List Nat):Prop:=RowsO (shInt .u64) 1 (PureO Eq) l xs h B
abbrev InsO (l:Sl) (xs:List PIns) (h:Hp) (B:List Nat):Prop:=RowsO sh_api_Ins 5 (PureO fun x p=>insOf x=p) l xs h B
def ProcO (q:S_api_Proc) (p:PProc) (h:Hp) (B:List Nat):Prop:=q.Part=p.part/\InsO q.Code p.code h B
abbrev zpj2 (l:Sl) (ps:List PProc) (h:Hp) (B:List Nat):Prop:=RowsO sh_api_Proc 2 ProcO l ps h B
def LaneO (x:S_api_Lane) (p:PLane) (h:Hp) (B:List Nat):Prop:=
 ∃B1 B2,B=B1++B2/\IsO x.Values p.values h B1/\RowsO sh_api_Waiter 2 (PureO fun x p=>zgf1 x=p) x.Waiters p.waiters h B2/\x.Taken=p.taken/\x.Dropped=p.dropped
def ProcessO (x:S_api_Process) (p:PProcess) (h:Hp) (B:List Nat):Prop:=
 RowsO sh_api_Lane 4 LaneO x.Lanes p.lanes h B/\x.State=p.state/\x.PC=p.pc/\ [x.Regs_0,x.Regs_1,x.Regs_2,x.Regs_3,x.Regs_4,x.Regs_5,x.Regs_6,x.Regs_7]=p.regs/\x.Cursor=p.cursor/\x.Timer=p.timer/\x.Fired=p.fired/\x.Wake=p.wake
def PartO (x:S_api_Part) (p:PPart) (h:Hp) (B:List Nat):Prop:=
 ∃B1 B2 B3,B=B1++(B2++B3)/\RowsO sh_api_Entry 3 (PureO fun x p=>zoc1 x=p) x.Log p.log h B1/\IsO x.Owners p.owners h B2/\RowsO shSl 1 IsO x.Queues p.queues h B3/\x.Cursor=p.cursor/\x.Lost=p.lost/\x.Forbidden=p.forbidden
def StateO (x:S_api_State) (p:zbi) (h:Hp) (B:List Nat):Prop:=
 ∃B1 B2,B=B1++B2/\RowsO sh_api_Part 6 PartO x.Parts p.parts h B1/\RowsO sh_api_Process 15 ProcessO x.Procs p.procs h B2/\x.Tick=p.tick
def CfgO (x:S_api_Config) (c:PCfg) (h:Hp) (B:List Nat):Prop:=
 ∃B1 B2 B3,B=B1++(B2++B3)/\UsO x.Labels c.labels h B1/\IsO x.Table c.table h B2/\zpj2 x.Procs c.procs h B3/\x.Fuel=c.fuel/\x.Lane=c.lane/\x.Locks=c.locks/\x.Log=c.log
theorem okIs :AsOk IsO:=RowsO.ok (PureO.ok _)
theorem okUs :AsOk UsO:=RowsO.ok (PureO.ok _)
theorem okIns :AsOk InsO:=RowsO.ok (PureO.ok _)
theorem zrm1 :AsOk ProcO:=⟨fun o hs=>⟨o.1,okIns.same o.2 hs⟩,fun o=>okIns.known o.2⟩
theorem okProcs :AsOk zpj2:=RowsO.ok zrm1
theorem mem_a {B1 B2:List Nat} {c:Nat} (h:c∈B1):c∈B1++B2:=List.mem_append_left _ h
theorem mem_b {B1 B2:List Nat} {c:Nat} (h:c∈B2):c∈B1++B2:=List.mem_append_right _ h
theorem zod1 :AsOk LaneO where
 same:=by
  rintro a b h h' B ⟨B1,B2,rfl,o1,o2,o3⟩ hs
  exact ⟨B1,B2,rfl,okIs.same o1 fun c hc=>hs c (mem_a hc),(RowsO.ok (PureO.ok _)).same o2 fun c hc=>hs c (mem_b hc),o3⟩
 known:=by
  rintro a b h B ⟨B1,B2,rfl,o1,o2,o3⟩ c hc
  rcases List.mem_append.1 hc with hc | hc
  ·exact okIs.known o1 c hc
  ·exact (RowsO.ok (PureO.ok _)).known o2 c hc
theorem zzu :AsOk ProcessO:=⟨fun o hs=>⟨(RowsO.ok zod1).same o.1 hs,o.2⟩,fun o=>(RowsO.ok zod1).known o.1⟩
theorem zwz1 :AsOk PartO where
 same:=by
  rintro a b h h' B ⟨B1,B2,B3,rfl,o1,o2,o3,o4⟩ hs
  exact ⟨B1,B2,B3,rfl,(RowsO.ok (PureO.ok _)).same o1 fun c hc=>hs c (mem_a hc),okIs.same o2 fun c hc=>hs c (mem_b (mem_a hc)),(RowsO.ok okIs).same o3 fun c hc=>hs c (mem_b (mem_b hc)),o4⟩
 known:=by
  rintro a b h B ⟨B1,B2,B3,rfl,o1,o2,o3,o4⟩ c hc
  rcases List.mem_append.1 hc with hc | hc
  ·exact (RowsO.ok (PureO.ok _)).known o1 c hc
  ·rcases List.mem_append.1 hc with hc | hc
   ·exact okIs.known o2 c hc
   ·exact (RowsO.ok okIs).known o3 c hc
theorem zqi2 :AsOk StateO where
 same:=by
  rintro a b h h' B ⟨B1,B2,rfl,o1,o2,o3⟩ hs
  exact ⟨B1,B2,rfl,(RowsO.ok zwz1).same o1 fun c hc=>hs c (mem_a hc),(RowsO.ok zzu).same o2 fun c hc=>hs c (mem_b hc),o3⟩
 known:=by
  rintro a b h B ⟨B1,B2,rfl,o1,o2,o3⟩ c hc
  rcases List.mem_append.1 hc with hc | hc
  ·exact (RowsO.ok zwz1).known o1 c hc
  ·exact (RowsO.ok zzu).known o2 c hc
theorem okCfg :AsOk CfgO where
 same:=by
  rintro a b h h' B ⟨B1,B2,B3,rfl,o1,o2,o3,o4⟩ hs
  exact ⟨B1,B2,B3,rfl,okUs.same o1 fun c hc=>hs c (mem_a hc),okIs.same o2 fun c hc=>hs c (mem_b (mem_a hc)),okProcs.same o3 fun c hc=>hs c (mem_b (mem_b hc)),o4⟩
 known:=by
  rintro a b h B ⟨B1,B2,B3,rfl,o1,o2,o3,o4⟩ c hc
  rcases List.mem_append.1 hc with hc | hc
  ·exact okUs.known o1 c hc
  ·rcases List.mem_append.1 hc with hc | hc
   ·exact okIs.known o2 c hc
   ·exact okProcs.known o3 c hc
theorem zam2 {α:Type}:∀ {l m:List α},All2 Eq l m->l=m
 | [],[],_=>rfl
 | _::_,_::_,h=>by rw [h.1,zam2 h.2]
 | [],_::_,h=>h.elim
 | _::_,[],h=>h.elim
theorem zlh1 {α β:Type} {f:α->β}:∀ {l:List α} {m:List β},All2 (fun x p=>f x=p) l m->l.map f=m
 | [],[],_=>rfl
 | _::_,_::_,h=>by rw [List.map_cons,h.1,zlh1 h.2]
 | [],_::_,h=>h.elim
 | _::_,[],h=>h.elim
section
variable {h:Hp} {B:List Nat}
theorem IsO.rd {l:Sl} {xs:List Int} (o:IsO l xs h B):Is h l xs:=by
 obtain ⟨ys,h1,h2⟩:=RowsO.rows (S:=Eq) (fun _=>rfl) (fun a b B o=>o.2) o
 rw [<-zam2 h2];exact h1
theorem UsO.rd {l:Sl} {xs:List Int} (o:UsO l xs h B):Us h l xs:=by
 obtain ⟨ys,h1,h2⟩:=RowsO.rows (S:=Eq) (fun _=>rfl) (fun a b B o=>o.2) o
 rw [<-zam2 h2];exact h1
theorem ProcO.rd {q:S_api_Proc} {p:PProc} (o:ProcO q p h B):ProcAt h q p:=by
 obtain ⟨e,o⟩:=o
 obtain ⟨ys,h1,h2⟩:=RowsO.rows (S:=fun x p=>insOf x=p) (fun _=>rfl) (fun a b B o=>o.2) o
 exact ⟨e,ys,h1,zlh1 h2⟩
theorem CfgO.rd {x:S_api_Config} {c:PCfg} (o:CfgO x c h B):CfgAt h x c:=by
 obtain ⟨B1,B2,B3,_,o1,o2,o3,f1,f2,f3,f4⟩:=o
 exact ⟨o1.rd,o2.rd,f1,f2,f3,f4,RowsO.rows (fun _=>rfl) (fun a b B o=>o.rd) o3⟩
theorem LaneO.rd {x:S_api_Lane} {p:PLane} (o:LaneO x p h B):LaneAt h x p:=by
 obtain ⟨B1,B2,_,o1,o2,f1,f2⟩:=o
 obtain ⟨ys,h1,h2⟩:=RowsO.rows (S:=fun x p=>zgf1 x=p) (fun _=>rfl) (fun a b B o=>o.2) o2
 exact ⟨o1.rd,⟨ys,h1,zlh1 h2⟩,f1,f2⟩
theorem ProcessO.rd {x:S_api_Process} {p:PProcess} (o:ProcessO x p h B):ProcessAt h x p:=by
 obtain ⟨o1,f1,f2,f3,f4,f5,f6,f7⟩:=o
 exact ⟨f1,f2,f3,f4,f5,f6,f7,RowsO.rows (fun _=>rfl) (fun a b B o=>o.rd) o1⟩
theorem PartO.rd {x:S_api_Part} {p:PPart} (o:PartO x p h B):PartAt h x p:=by
 obtain ⟨B1,B2,B3,_,o1,o2,o3,f1,f2,f3⟩:=o
 obtain ⟨ys,h1,h2⟩:=RowsO.rows (S:=fun x p=>zoc1 x=p) (fun _=>rfl) (fun a b B o=>o.2) o1
 exact ⟨f1,⟨ys,h1,zlh1 h2⟩,f2,f3,o2.rd,RowsO.rows (fun _=>rfl) (fun a b B o=>IsO.rd o) o3⟩
theorem StateO.rd {x:S_api_State} {p:zbi} (o:StateO x p h B):StateAt h x p:=by
 obtain ⟨B1,B2,_,o1,o2,f1⟩:=o
 exact ⟨f1,RowsO.rows (fun _=>rfl) (fun a b B o=>o.rd) o1,RowsO.rows (fun _=>rfl) (fun a b B o=>o.rd) o2⟩
end
def AsA {α β:Type} {R:α->β->Hp->List Nat->Prop} (ok:AsOk R) (v:α) (p:β):Asn where
 R k F:=∃B,R v p k B/\B.Nodup/\∀b,F b↔b∈B
 same:=fun ⟨B,h,n,e⟩ hs=>⟨B,ok.same h fun c hc=>hs c ((e c).2 hc),n,e⟩
 known:=fun ⟨B,h,n,e⟩ c hc=>ok.known h c ((e c).1 hc)
def OwnA {α:Type} (sz:Nat) (enc:α->List Value) (l:Sl) (xs:List α):Asn where
 R k F:=∃B,OwnF k sz enc l xs B/\∀b,F b↔b∈B
 same:=fun ⟨B,h,e⟩ hs=>⟨B,h.same fun c hc=>hs c ((e c).2 hc),e⟩
 known:=fun ⟨B,h,e⟩ c hc=>h.known c ((e c).1 hc)
section
variable {h0 k:Hp} {α β:Type} {R:α->β->Hp->List Nat->Prop} {ok:AsOk R}
theorem Has.as_ {v:α} {p:β} (o:Has h0 (AsA ok v p) k):∃B,R v p k B/\B.Nodup/\∀b∈B,h0 b=none:=by
 obtain ⟨_,F,⟨B,h,n,e⟩,hf⟩:=o
 grind
theorem Has.ofAs {v:α} {p:β} {B:List Nat} (hl:h0<=k) (h:R v p k B) (n:B.Nodup) (hf:∀b∈B,h0 b=none):Has h0 (AsA ok v p) k:=⟨hl,(· ∈B),⟨B,h,n,fun _=>Iff.rfl⟩,hf⟩
theorem Has.ownSl {sz:Nat} {enc:α->List Value} {l:Sl} {xs:List α} (o:Has h0 (OwnA sz enc l xs) k):Has h0 (SlA sz enc l xs) k:=by
 obtain ⟨hl,F,⟨B,h,e⟩,hf⟩:=o
 exact Has.ofOwnF h hl fun b hb=>hf b ((e b).2 hb)
theorem zuj1 {γ δ:Type} {S:γ->δ->Prop} {h:Hp}:∀ {l:List γ} {m:List δ},All2 S l m->LsO (PureO S) l m h []
 | [],[],_=>rfl
 | _::_,_::_,a=>⟨[],[],rfl,⟨rfl,a.1⟩,zuj1 a.2⟩
 | [],_::_,a=>a.elim
 | _::_,[],a=>a.elim
theorem Has.two {α' β':Type} {R':α'->β'->Hp->List Nat->Prop} {ok':AsOk R'} {v:α} {p:β} {v':α'} {p':β'} (o:Has h0 ((AsA ok v p).star (AsA ok' v' p')) k):
  ∃B B',R v p k B/\R' v' p' k B'/\(B++B').Nodup/\∀b∈B++B',h0 b=none:=by
 obtain ⟨_,F,⟨F1,F2,e,d,⟨B,a,n,ea⟩,⟨B',b,n',eb⟩⟩,hf⟩:=o
 grind
theorem Has.row {γ:Type} {sh:Shape} {sz:Nat} {Q:sh.T->γ->Hp->List Nat->Prop} {okQ:AsOk Q} {l:Sl} {ps:List γ} {v:sh.T} {p:γ} {cs zero:List Value} {bytes:Nat} {K:Sl->Hp->Prop} (o:Has h0 ((AsA (RowsO.ok (sh:=sh) (sz:=sz) okQ) l ps).star (AsA okQ v p)) k)
  (hcs:cs=zac (sh.enc v)) (henc:∀x,(zac (sh.enc x)).length=sz) (hok:∀x,zax (zac (sh.enc x))=true) (hz:zero.length=sz) (hb:ps.length+1<=140737488355328/\(ps.length+1)*bytes<=140737488355328)
  (hk:∀l' k',Has h0 (AsA (RowsO.ok (sh:=sh) (sz:=sz) okQ) l' (ps++ [p])) k'->K l' k'):NewW cs (fun a k1=>zai sz bytes zero l ⟨some a,1,1⟩ K k1) k:=by
 refine newSl (xs:=[v]) (sz:=sz) (enc:=fun x=>zac (sh.enc x)) (by rw [hcs];simp) henc fun a k1 hl1 n=> ?_
 have o:=o.grow hl1
 obtain ⟨B,B',r,e,nd,hf⟩:=o.two
 refine zgg1 okQ r e nd (n.srw henc) henc hok hz hb fun l' k' B'' r' nd' hkeep hfrom=> ?_
 refine hk l' k' (Has.ofAs (fun b ob eb=>hkeep b ob (o.1 b ob eb) fun hb=> ?_) r' nd' fun c hc=> ?_)
 ·grind
 ·rcases hfrom c hc with h | h
  ·exact hf c h
  ·exact zbz o.1 h
theorem Has.noRows {γ:Type} {sh:Shape} {sz:Nat} {Q:sh.T->γ->Hp->List Nat->Prop} {okQ:AsOk Q} (hl:h0<=k):Has h0 (AsA (RowsO.ok (sh:=sh) (sz:=sz) okQ) (⟨none,0,0⟩:Sl) ([]:List γ)) k:=
 Has.ofAs hl RowsO.nil .nil fun _ h=>by cases h
theorem Has.pureRows {γ:Type} {sh:Shape} {sz:Nat} {enc:γ->List Value} {S:sh.T->γ->Prop} {f:γ->sh.T} {l:Sl} {ps:List γ} (o:Has h0 (OwnA sz enc l ps) k) (he:∀x,enc x=zac (sh.enc (f x))) (hS:∀x,S (f x) x):
  Has h0 (AsA (RowsO.ok (sh:=sh) (sz:=sz) (PureO.ok S)) l ps) k:=by
 obtain ⟨hl,F,⟨B,⟨h1,h2,h3⟩,e⟩,hf⟩:=o
 have hfm:ps.flatMap enc=(ps.map f).flatMap fun x=>zac (sh.enc x):=by
  rw [List.flatMap_map]
  congr 1
  exact funext he
 have hA:∀m:List γ,All2 S (m.map f) m:=fun m=>by
  induction m with
  | nil=>trivial
  | cons a m ih=>exact ⟨hS a,ih⟩
 have hown:OwnF k sz (fun x=>zac (sh.enc x)) l (ps.map f) B:=⟨by grind,h2,by grind⟩
 refine Has.ofAs hl ⟨ps.map f,B,[],by simp,hown,zuj1 (hA ps)⟩ hown.nodup fun b hb=>hf b ((e b).2 hb)
theorem zka {P:Program} {sz:Nat} {enc:α->List Value} {s:Sl} {xs:List α} {tS tE bytes:Nat} {zero:List Value} {x y:Operand} {Q:Sl->Hp->Prop} (hu:P.underlying tS=some (.slice tE)) (r:Rw k sz enc s xs) (hsz:0<sz) (henc:∀x,(enc x).length=sz) (hok:∀x,zax (enc x)=true) (hz:zero.length=sz)
  (hb:xs.length<=140737488355328/\xs.length*bytes<=140737488355328) (hk:∀l' k',k<=k'->Has k (OwnA sz enc l' xs) k'->Q l' k'):
  SemV none P (binS .eql tS x y s.v (.slice none 0 0)) zae k fun x=>(if x=true then Q ⟨none,0,0⟩ k else NewW [] (fun a h1=>zai sz bytes zero ⟨(some a),0,0⟩ s (fun r h2=>Q r h2) h1) k):=by
 refine ⟨s.base.isNone,zum hu s,?_⟩
 cases hb0:s.base with
 | none=>
  rw [if_pos (show (none:Option Addr).isNone=true from rfl)]
  have:xs=[]:=by
   rcases r.2.2 with e | ⟨a,ha,_⟩
   ·exact List.length_eq_zero_iff.1 ((Nat.mul_eq_zero.1 e).resolve_right (by omega))
   grind
  subst this
  exact hk _ k (Hp.le_refl k) ⟨Hp.le_refl k,fun _=>False,⟨[],⟨rfl,Nat.le_refl _,.inl ⟨rfl,rfl,rfl⟩⟩,fun b=>by simp⟩,fun _ h=>h.elim⟩
 | some a=>
  rw [if_neg (by simp)]
  refine newF (xs:=([]:List α)) (enc:=enc) (sz:=sz) rfl henc fun b k1 hb1 hl1 m1 o1=> ?_
  refine appF o1 (Rw.mono hl1 r) henc hok hz (by simpa using hb) fun l' k' F' o m=> ?_
  have ml:=m.le (h0:=k) hl1 fun c hc=>by grind
  exact hk l' k' ml.1 ⟨ml.1,(· ∈F'),⟨F',by simpa using o,fun _=>Iff.rfl⟩,ml.2⟩
end
abbrev VRow (l:Sl) (xs:List Int):Asn:=AsA okIs l xs
abbrev WRow (l:Sl) (xs:List zdi):Asn:=AsA (RowsO.ok (sh:=sh_api_Waiter) (sz:=2) (PureO.ok fun x p=>zgf1 x=p)) l xs
section
variable {h0 k:Hp} {q:Addr} {room:Int} {l:PLane}
theorem zxa1 {Q:S_api_Lane->Hp->Prop} (o:Has h0 (LaneA q room l) k) (hv:l.values.length<=100) (hw:l.waiters.length<=100) (hq:∀r k',Has h0 ((LaneA q room l).star (AsA zod1 r l)) k'->Q r k'):znc Tryz.prog (some q) Q k:=by
 unfold znc
 obtain ⟨x,e1,e2,e3,o⟩:=o.laneX
 refine zab (o.left.ld (shf:=shSl) x.values rfl ?_)
 refine zab (o.left.ld (shf:=shSl) x.waiters rfl ?_)
 refine zab (o.left.ld (shf:=shInt .i64) x.taken rfl ?_)
 refine zab (o.left.ld (shf:=shInt .i64) x.dropped rfl ?_)
 refine zgp ?_
 unfold zdz
 refine zka (tb_ok.und 184 ty184 rfl) (o.right.left.srw (fun _=>rfl)) (by decide) (fun _=>rfl) (fun _=>rfl) rfl ⟨by omega,by omega⟩ fun vl k1 hl1 n1=> ?_
 have o1:=o.grow hl1
 refine ⟨⟨o1.left.ldis (n:=1) rfl,o1.left.ldis (n:=1) rfl,o1.left.ldis (n:=1) rfl,trivial⟩,?_⟩
 refine zdf ?_
 unfold zbv
 refine zka (tb_ok.und 185 ty185 rfl) (o1.right.right.srw (fun _=>rfl)) (by decide) (fun _=>rfl) (fun _=>rfl) rfl ⟨by omega,by omega⟩ fun wl k2 hl2 n2=> ?_
 have o2:=o1.grow hl2
 refine ⟨⟨o2.left.ldis (n:=1) rfl,o2.left.ldis (n:=1) rfl,trivial⟩,?_⟩
 refine hq _ k2 ?_
 have b1:Has k (VRow vl l.values) k1:=n1.pureRows (f:=fun x=>x) (fun _=>rfl) fun _=>rfl
 have b2:Has k1 (WRow wl l.waiters) k2:=n2.pureRows (f:=toW) (fun _=>rfl) fun _=>rfl
 have both:=b1.beside b2
 have lane:Has k (AsA zod1 (⟨vl,wl,x.taken,x.dropped⟩:S_api_Lane) l) k2:=by
  obtain ⟨B,B',r,e,nd,hf⟩:=both.two
  exact Has.ofAs both.le ⟨B,B',rfl,r,e,e2,e3⟩ nd hf
 exact (Has.ofLane o e1 e2 e3).beside lane
end
section
variable {h0 k:Hp} {q:Addr} {room:Int} {l:PLane}
theorem zna2 {s:Sl} {ws:List zdi} {Q:Bool->Hp->Prop} (r:Rw k 2 eW s ws) (hl:ws.length<=1000000) (hn:(ws.map (·.proc)).Nodup) (hq:∀k',k<=k'->Q false k'):zzh Tryz.prog s Q k:=by
 unfold zzh
 have hlen:=r.1
 intro m hm
 have hle:k<=k.set m (.map #[] 0):=zcu hm
 refine LoopW1.intro (fun i k'=>k<=k'/\0<=i/\i<=(ws.length:Int)/\∃kvs:List (Int×Int),MapKv k' m .i64 (shInt .i64).enc kvs/\(∀a,kget a kvs≠none->a∈(ws.take i.toNat).map (·.proc))) (fun i _=>(ws.length-i).toNat)
  ⟨hle,by omega,by omega,[],⟨[],0,zbw,rfl⟩,fun a h=>absurd rfl h⟩ ?_
 rintro i k' ⟨hk,i0,i1,kvs,hmap,hks⟩
 by_cases h3:i<(ws.length:Int)
 ·rw [if_pos (decide_eq_true (by omega))]
  have rs:Rs k' sh_api_Waiter 2 s (ws.map toW):=(r.mono hk).map (enc:=fun x=>zac (sh_api_Waiter.enc x))
  refine rs.get (fun _=>rfl) (by omega) i0 (by rw [List.length_map];exact h3) fun (x:S_api_Waiter) hx=> ?_
  rw [List.getElem?_map] at hx
  cases hw:ws[i.toNat]? with
  | none=>rw [hw] at hx;cases hx
  | some w=>
   rw [hw] at hx
   have hx:x=toW w:=by simpa using hx.symm
   subst hx
   have hnew:kget w.proc kvs=none:=by
    cases e:kget w.proc kvs with
    | none=>rfl
    | some v=>
     have h1:=hks w.proc (by rw [e];simp)
     obtain ⟨h2,h4⟩:=List.getElem?_eq_some_iff.1 hw
     have h5:(ws.map (·.proc))=(ws.take i.toNat).map (·.proc)++(w.proc::(ws.drop (i.toNat+1)).map (·.proc)):=by
      have:ws=ws.take i.toNat++w::ws.drop (i.toNat+1):=by rw [<-h4,<-List.drop_eq_getElem_cons h2,List.take_append_drop]
      conv=>lhs;rw [this]
      simp
     rw [h5] at hn
     exact absurd rfl ((List.nodup_append.1 hn).2.2 _ h1 _ (List.mem_cons_self ..))
   refine zar1 (sh:=shInt .i64) (z:=(0:Int)) hmap rfl (fun _=> ?_) fun v hv=>by rw [show (toW w).Proc=w.proc from rfl,hnew] at hv;cases hv
   rw [wrap64 (by omega) (by omega)]
   refine zzr (ev:=(shInt .i64).enc) (v:=(1:Int)) hmap fun o hoc hm2=> ?_
   have hmk:k m=none:=hm
   have hk2:k<=k'.set m o:=zez1 hk hmk
   have hget:kget w.proc (kset w.proc (1:Int) kvs)=some 1:=by rw [zlf1,if_pos rfl]
   refine zar1 (sh:=shInt .i64) (z:=(0:Int)) hm2 rfl (fun hv=>by rw [show (toW w).Proc=w.proc from rfl,hget] at hv;cases hv) fun v hv=> ?_
   have hv1:v=1:=by rw [show (toW w).Proc=w.proc from rfl,hget] at hv;exact (Option.some.inj hv).symm
   subst hv1
   dsimp only
   rw [if_neg (by decide),wrap64 (by omega) (by omega)]
   refine ⟨⟨hk2,by omega,by omega,_,hm2,fun a ha=> ?_⟩,by omega⟩
   have e1:(i+1).toNat=i.toNat+1:=by omega
   rw [e1,List.take_add_one,hw]
   rw [zlf1] at ha
   by_cases e:a=(toW w).Proc
   ·rw [e]
    simp [toW]
   ·rw [if_neg e] at ha
    have:=hks a ha
    simp only [List.map_append,List.mem_append]
    exact .inl this
 grind
theorem zqj2 {Q:Option Addr->Int->Hp->Prop} (h1:1<=room/\room<=64) (hq:∀p k',k<=k'->Has k (RecA zia p ⟨room,⟨none,0,0⟩,⟨none,0,0⟩,0,0⟩) k'->Q (some p) 0 k'):zho1 Tryz.prog room Q k:=by
 unfold zho1
 refine zon ?_
 unfold zpb
 refine letW ?_
 rw [show (decide (room>=1)&&decide (room<=64))=true by simp;omega]
 dsimp only
 rw [if_neg (by decide)]
 exact zjr1 (sh:=zia) ⟨room,⟨none,0,0⟩,⟨none,0,0⟩,0,0⟩ rfl fun p k' hl o=>hq p k' hl o
structure LnV (room:Int) (l:PLane):Prop where
 len:(l.values.length:Int)<=room
 full:l.waiters≠ []->(l.values.length:Int)=room
 taken:Cnt l.taken
 dropped:Cnt l.dropped
 once:(l.waiters.map (·.proc)).Nodup
 few:l.waiters.length<=100
theorem zdc2 {n:Int} {Q:Bool->Hp->Prop} (h:Cnt n) (hq:Q true k):zpb Tryz.prog n 0 65535 Q k:=by
 unfold zpb
 refine letW ?_
 have:(decide (n>=0)&&decide (n<=65535))=true:=by unfold Cnt at h;simp;omega
 grind
theorem zqk2 {x:S_api_Lane} {Q:Option Addr->Int->Hp->Prop} (h1:1<=room/\room<=64) (a:LaneAt k x l) (v:LnV room l) (hq:∀p k',k<=k'->Has k (LaneA p room l) k'->Q (some p) 0 k'):zhl1 Tryz.prog room x Q k:=by
 unfold zhl1
 refine zua1 (zqj2 h1 fun p k1 hl1 o1=> ?_)
 have hv:=a.values.1
 obtain ⟨ws,hws,hwm⟩:=a.waiters
 have hwl:ws.length=l.waiters.length:=by grind
 have hw:=hws.1
 have hlen:=v.len
 have hfew:=v.few
 rw [if_neg (by decide)]
 have e1:(decide (((x.Waiters.len:Nat):Int)>(0:Int))&&decide (((x.Values.len:Nat):Int)<room))=false:=by
  by_cases e:l.waiters=[]
  ·grind
  ·have:=v.full e
   grind
 refine letW (letW ?_)
 rw [e1,Bool.or_false,show decide (((x.Values.len:Nat):Int)>room)=false by simp;omega]
 refine ⟨fun _=>zon (zdc2 (by rw [a.taken];exact v.taken) ?_),fun e=>by cases e⟩
 refine letW ⟨fun _=>zon (zdc2 (by rw [a.dropped];exact v.dropped) ?_),fun e=>by cases e⟩
 refine letW ⟨fun _=>zny1 ?_,fun e=>by cases e⟩
 have hrw:Rw k1 2 eW x.Waiters l.waiters:=by
  have h2:Rw k1 2 (fun x=>zac (sh_api_Waiter.enc x)) x.Waiters ws:=Rw.mono hl1 hws
  obtain ⟨g1,g2⟩:=h2
  refine ⟨by rw [g1,hwl],?_⟩
  rw [<-hwl,<-hwm,List.flatMap_map]
  exact g2
 refine zna2 hrw (by omega) v.once fun k2 hl2=> ?_
 refine letW ?_
 rw [if_neg (by decide)]
 refine zgp ?_
 unfold zdz
 have hb:=h1.2
 refine zwd1 (tb_ok.und 184 ty184 rfl) (xs:=l.values) (enc:=eNum) (Rw.mono (Hp.le_trans hl1 hl2) a.values) (by decide) (fun _=>rfl) (fun _=>rfl) rfl ⟨by omega,by omega⟩ fun vl k3 hl3 n1=> ?_
 refine ⟨⟨trivial,trivial⟩,?_⟩
 refine zdf ?_
 unfold zbv
 refine zwd1 (tb_ok.und 185 ty185 rfl) (xs:=l.waiters) (Rw.mono (Hp.le_trans hl2 hl3) hrw) (by decide) (fun _=>rfl) (fun _=>rfl) rfl ⟨by omega,by omega⟩ fun wl k4 hl4 n2=> ?_
 have o:=(o1.grow (Hp.le_trans hl2 (Hp.le_trans hl3 hl4)))
 have o:Has k ((RecA zia p ⟨room,⟨none,0,0⟩,⟨none,0,0⟩,0,0⟩).star ((SlA 1 eNum vl l.values).star (SlA 2 eW wl l.waiters))) k4:=(o1.grow hl2).grow (Hp.le_refl _) |>.beside (n1.beside n2)
 obtain ⟨hh,_,o2,put⟩:=o.f1
 refine zab (o2.st (⟨room,vl,⟨none,0,0⟩,0,0⟩:S_lane_Lane) (show (2:Nat)<=5 by decide) rfl fun k5 o3=> ?_)
 refine zab (o3.st (⟨room,vl,wl,0,0⟩:S_lane_Lane) (show (3:Nat)<=5 by decide) rfl fun k6 o4=> ?_)
 refine zab (o4.st (⟨room,vl,wl,x.Taken,0⟩:S_lane_Lane) (show (4:Nat)<=5 by decide) rfl fun k7 o5=> ?_)
 refine ⟨⟨trivial,trivial⟩,?_⟩
 refine zab (o5.st (⟨room,vl,wl,x.Taken,x.Dropped⟩:S_lane_Lane) (show (5:Nat)<=5 by decide) rfl fun k8 o6=> ?_)
 have oo:=put _ _ o6
 exact hq p k8 oo.le (Has.ofLane oo rfl a.taken a.dropped)
end
abbrev eP :Addr->List Value:=fun a=> [.pointer (some a)]
def a0 :Addr:=⟨0,0,none⟩
def laneZ :PLane:=⟨[],[],0,0⟩
def zxb1 (ptrs:List Addr) (room:Int) (ls:List PLane):Asn:=Asn.first (fun i=>LaneA (ptrs.getD i a0) room (ls.getD i laneZ)) ls.length
def PostB (p:Addr) (x:S_post_Post) (ptrs:List Addr) (room:Int) (ls:List PLane):Asn:=(RecA zrl p x).star ((SlA 1 eP x.lanes ptrs).star (zxb1 ptrs room ls))
def PostA (p:Addr) (room:Int) (ls:List PLane) (cursor:Int):Asn:=
 .some_ fun x:S_post_Post=>.some_ fun ptrs:List Addr=>(PostB p x ptrs room ls).star (.fact (x.cursor=cursor/\ptrs.length=ls.length))
section
variable {h0 k:Hp} {p:Addr} {room cursor:Int} {ls:List PLane} {x:S_post_Post} {ptrs:List Addr}
theorem zhm {α:Type} {l:List α} {i:Nat} {a d:α} (h:l[i]? =some a):l.getD i d=a:=by grind
theorem Has.postX (o:Has h0 (PostA p room ls cursor) k):∃x ptrs,x.cursor=cursor/\ptrs.length=ls.length/\Has h0 (PostB p x ptrs room ls) k:=by
 obtain ⟨x,o⟩:=Has.ex.1 o
 obtain ⟨ptrs,o⟩:=Has.ex.1 o
 obtain ⟨o,e1,e2⟩:=o.noFact
 grind
theorem Has.ofPost (o:Has h0 (PostB p x ptrs room ls) k) (e1:x.cursor=cursor) (e2:ptrs.length=ls.length):Has h0 (PostA p room ls cursor) k:=Has.ex.2 ⟨x,Has.ex.2 ⟨ptrs,o.withFact ⟨e1,e2⟩⟩⟩
theorem Has.lane1 {i:Nat} {l:PLane} (o:Has h0 (PostB p x ptrs room ls) k) (hl:ls[i]? =some l):∃h1,h0<=h1/\Has h1 (LaneA (ptrs.getD i a0) room l) k/\∀l' k',Has h1 (LaneA (ptrs.getD i a0) room l') k'->Has h0 (PostB p x ptrs room (ls.set i l')) k':=by
 obtain ⟨h1,a1,o1,put⟩:=o.f3
 have hi:i<ls.length:=(List.getElem?_eq_some_iff.1 hl).1
 obtain ⟨h2,a2,o2,_,put2⟩:=o1.one hi
 rw [zhm hl] at o2
 refine ⟨h2,Hp.le_trans a1 a2,o2,fun l' k' o'=>put _ _ ?_⟩
 have:=put2 _ _ o'
 unfold zxb1
 rw [List.length_set]
 refine cast (congrArg (fun A=>Has h1 A k') (zci fun j hj=> ?_)) this
 by_cases e:j=i
 ·subst e
  rw [zbx,zhm (List.getElem?_set_self hj)]
 ·rw [zbq e]
  grind
theorem Has.ptr (o:Has h0 (PostB p x ptrs room ls) k) (e2:ptrs.length=ls.length) {i:Nat} (hi:i<ls.length) {K:Option Addr->Prop} (hk:K (some (ptrs.getD i a0))):InB x.lanes.base x.lanes.len (i:Int)/\LdW none shPtr k (sat x.lanes.base 1 (i:Int)) K:=by
 have rs:Rs k shPtr 1 x.lanes (ptrs.map some):=(o.right.left.srw (fun _=>rfl)).map (f:=some) (enc:=fun x=>zac (shPtr.enc x))
 refine rs.get (fun _=>rfl) (by omega) (by omega) (by rw [List.length_map];omega) fun (y:Option Addr) hy=> ?_
 grind
theorem zuk1 {n:Int} {Q:Bool->Hp->Prop} (o:Has h0 (PostA p room ls cursor) k) (hn:0<=n/\n<ls.length) (hq:Q true k):znd Tryz.prog (some p) n Q k:=by
 obtain ⟨x,ptrs,e1,e2,o⟩:=o.postX
 unfold znd
 have hs:=o.right.left.slen
 refine zab ((Has.left o).ldC (shf:=shSl) x.lanes rfl ?_)
 refine letW ?_
 grind
theorem Has.laneN {i:Nat} {l:PLane} (o:Has h0 (PostA p room ls cursor) k) (hl:ls[i]? =some l):∃(x:S_post_Post) (a:Addr) (h1:Hp),(∀ {K:Sl->Prop},K x.lanes->LdW none shSl k (p.add 0) K)/\(∀ {K:Option Addr->Prop},K (some a)->InB x.lanes.base x.lanes.len (i:Int)/\LdW none shPtr k (sat x.lanes.base 1 (i:Int)) K)/\h0<=h1/\Has h1 (LaneA a room l) k/\
  ∀l' k',Has h1 (LaneA a room l') k'->Has h0 (PostA p room (ls.set i l') cursor) k':=by
 obtain ⟨x,ptrs,e1,e2,o⟩:=o.postX
 obtain ⟨h1,a1,o1,put⟩:=o.lane1 hl
 exact ⟨x,_,h1,fun hK=>(Has.left o).ld (shf:=shSl) x.lanes rfl hK,fun hK=>o.ptr e2 (List.getElem?_eq_some_iff.1 hl).1 hK,a1,o1,fun l' k' o'=>(put l' k' o').ofPost e1 (by grind)⟩
theorem zql2 {i:Nat} {l:PLane} {v:Int} {Q:Int->Hp->Prop} (o:Has h0 (PostA p room ls cursor) k) (hl:ls[i]? =some l) (hr:room<=64) (hf:room<=(l.values.length:Int)->Q 19 k)
  (hq:∀k',¬room<=(l.values.length:Int)->Has h0 (PostA p room (ls.set i (inL v l)) cursor) k'->Q 0 k'):zlw Tryz.prog (some p) (i:Int) v Q k:=by
 unfold zlw
 refine zjt (zuk1 o ⟨by omega,by have:=(List.getElem?_eq_some_iff.1 hl).1;omega⟩ ?_)
 obtain ⟨x,a,h1,ld,ix,_,o1,put⟩:=o.laneN hl
 rw [if_neg (by decide)]
 refine zab (ld (ix ?_))
 exact zfw1 (zpz2 o1 hr hf fun k' hn o'=>hq k' hn (put _ _ o'))
theorem znb2 {i:Nat} {l:PLane} {Q:Hp->Prop} (o:Has h0 (PostA p room ls cursor) k) (hl:ls[i]? =some l) (hc:Cnt l.dropped) (hq:∀k',Has h0 (PostA p room (ls.set i (missL l)) cursor) k'->Q k'):zkd Tryz.prog (some p) (i:Int) Q k:=by
 unfold zkd
 refine zjt (zuk1 o ⟨by omega,by have:=(List.getElem?_eq_some_iff.1 hl).1;omega⟩ ?_)
 obtain ⟨x,a,h1,ld,ix,_,o1,put⟩:=o.laneN hl
 rw [if_pos rfl]
 refine zab (ld (ix ?_))
 exact zej1 (zmq2 o1 hc fun k' o'=>hq k' (put _ _ o'))
theorem zli1 {α:Type} {f:α->α} {xs:List α} {t:Nat} {y:α} (h:xs[t]? =some y):((xs.take t).map f++xs.drop t).set t (f y)=(xs.take (t+1)).map f++xs.drop (t+1):=by
 obtain ⟨h1,h2⟩:=List.getElem?_eq_some_iff.1 h
 have hl:((xs.take t).map f).length=t:=by rw [List.length_map,List.length_take];omega
 have e:xs.drop t=y::xs.drop (t+1):=by rw [List.drop_eq_getElem_cons h1,h2]
 rw [e,List.set_append_right _ _ (by omega),hl,Nat.sub_self,List.set_cons_zero,List.take_add_one,h]
 simp
theorem zul1 {α:Type} {f:α->α} {xs:List α} {t:Nat} {y:α} (h:xs[t]? =some y):((xs.take t).map f++xs.drop t)[t]? =some y:=by
 grind
theorem zjk2 {w:Int} {Q:Bool->Hp->Prop} (o:Has h0 (PostA p room ls cursor) k) (hw:ls.length<=1000000/\∀l∈ls,l.waiters.length<=100) (hq:∀b k',Has h0 (PostA p room (ls.map (zjw1 w)) cursor) k'->Q b k'):zne Tryz.prog (some p) w Q k:=by
 obtain ⟨x,ptrs,e1,e2,o⟩:=o.postX
 unfold zne
 have hs:=o.right.left.slen
 refine zab ((Has.left o).ld (shf:=shSl) x.lanes rfl ?_)
 refine LoopW2.intro (fun (_:Bool) (i:Int) k'=>0<=i/\i<=(ls.length:Int)/\Has h0 (PostB p x ptrs room ((ls.take i.toNat).map (zjw1 w)++ls.drop i.toNat)) k') (fun _ i _=>(ls.length-i).toNat) ⟨by omega,by omega,by simpa using o⟩ ?_
 rintro b i k' ⟨i0,i1,o⟩
 by_cases h3:i<(ls.length:Int)
 ·rw [if_pos (decide_eq_true (by omega))]
  have hi:i.toNat<ls.length:=by omega
  have hl:=List.getElem?_eq_getElem hi
  generalize ls[i.toNat]=l at hl
  have e2':ptrs.length=((ls.take i.toNat).map (zjw1 w)++ls.drop i.toNat).length:=by grind
  obtain ⟨h1,_,o1,put⟩:=o.lane1 (zul1 hl)
  have hix:=o.ptr e2' (i:=i.toNat) (by omega) (K:=fun y=>y=some (ptrs.getD i.toNat a0)) rfl
  have ei:((i.toNat:Nat):Int)=i:=by omega
  rw [ei] at hix
  refine ⟨fun r h2=>0<=i/\i<(ls.length:Int)/\Has h0 (PostB p x ptrs room ((ls.take (i.toNat+1)).map (zjw1 w)++ls.drop (i.toNat+1))) h2,⟨hix.1,?_⟩,?_⟩
  ·obtain ⟨y,hy,rfl⟩:=hix.2
   refine ⟨_,hy,?_⟩
   refine zbx1 (ziz2 o1 (hw.2 l (List.mem_of_getElem? hl)) fun b' k2 o2=> ?_)
   have o:=put _ _ o2
   rw [zli1 hl] at o
   grind
  ·rintro b' k2 ⟨_,_,o⟩
   rw [wrap64 (by omega) (by omega)]
   grind
 ·rw [if_neg (fun e=>h3 (by grind))]
  refine hq b k' ?_
  have ei:i.toNat=ls.length:=by omega
  rw [ei,List.take_length,List.drop_length,List.append_nil] at o
  exact o.ofPost e1 (by grind)
end
section
variable {h0 k:Hp} {p:Addr} {room cursor:Int} {ls:List PLane} {x:S_post_Post} {ptrs:List Addr}
theorem zwt {α:Type}:∀ {l:List α} {i:Nat} {a:α},l[i]? =some a->l.set i a=l
 | [],_,_,h=>by cases h
 | b::l,0,a,h=>by cases h;rfl
 | b::l,i+1,a,h=>by rw [List.set_cons_succ,zwt (by simpa using h)]
theorem znc2 {w:Int} {Q:Int->Hp->Prop} (o:Has h0 (PostA p room ls cursor) k) (hw:ls.length<=1000000/\∀l∈ls,l.waiters.length<=100/\l.values.length<=100) (hn:∀l∈ls,∀z∈l.waiters,z.proc≠w) (hq:∀k',Has h0 (PostA p room ls cursor) k'->Q (-1) k'):znl Tryz.prog (some p) w Q k:=by
 obtain ⟨x,ptrs,e1,e2,o⟩:=o.postX
 unfold znl
 have hs:=o.right.left.slen
 refine zab ((Has.left o).ld (shf:=shSl) x.lanes rfl ?_)
 refine LoopW1.intro (fun (i:Int) k'=>0<=i/\i<=(ls.length:Int)/\Has h0 (PostB p x ptrs room ls) k') (fun i _=>(ls.length-i).toNat) ⟨by omega,by omega,o⟩ ?_
 rintro i k' ⟨i0,i1,o⟩
 by_cases h3:i<(ls.length:Int)
 ·rw [if_pos (decide_eq_true (by omega))]
  have hi:i.toNat<ls.length:=by omega
  have hl:=List.getElem?_eq_getElem hi
  generalize ls[i.toNat]=l at hl
  have hm:=List.mem_of_getElem? hl
  obtain ⟨h1,_,o1,put⟩:=o.lane1 hl
  have ei:((i.toNat:Nat):Int)=i:=by omega
  have hix:=o.ptr e2 hi (K:=fun y=>y=some (ptrs.getD i.toNat a0)) rfl
  rw [ei] at hix
  obtain ⟨g1,y,hy,rfl⟩:=hix
  refine ⟨g1,_,hy,?_⟩
  refine zou (zxa1 o1 (hw.2 l hm).2 (hw.2 l hm).1 fun r k2 o2=> ?_)
  have hset:ls.set i.toNat l=ls:=zwt hl
  have oo:=put _ _ o2.left
  rw [hset] at oo
  obtain ⟨B,hB,_⟩:=o2.right.as_
  obtain ⟨ws,hws,hwm⟩:=(LaneO.rd hB).waiters
  have hwl:ws.length=l.waiters.length:=by grind
  have hlen:=hws.1
  have hfew:=(hw.2 l hm).1
  refine LoopW1.intro (fun (j:Int) k'=>k'=k2/\0<=j/\j<=(ws.length:Int)) (fun j _=>(ws.length-j).toNat) ⟨rfl,by omega,by omega⟩ ?_
  rintro j _ ⟨rfl,j0,j1⟩
  by_cases h4:j<(ws.length:Int)
  ·rw [if_pos (decide_eq_true (by omega))]
   refine Rs.get (sh:=sh_api_Waiter) hws (fun _=>rfl) (by omega) j0 h4 fun (y:S_api_Waiter) hy=> ?_
   have hne:y.Proc≠w:=by
    have:zgf1 y∈l.waiters:=by rw [<-hwm];exact List.mem_map_of_mem (List.mem_of_getElem? hy)
    exact hn l hm _ this
   rw [if_neg (show ¬(y.Proc==w)=true by simp [hne]),wrap64 (by omega) (by omega)]
   grind
  ·rw [if_neg (fun e=>h4 (by have:=of_decide_eq_true e;omega)),wrap64 (by omega) (by omega)]
   grind
 ·rw [if_neg (fun e=>h3 (by grind))]
  exact hq k' (o.ofPost e1 e2)
theorem znd2 {i:Nat} {l:PLane} {w v:Int} {Q:Int->Hp->Prop} (o:Has h0 (PostA p room ls cursor) k) (hw:ls.length<=1000000/\∀l∈ls,l.waiters.length<=100/\l.values.length<=100) (hn:∀l∈ls,∀z∈l.waiters,z.proc≠w) (hl:ls[i]? =some l) (hf:room<=(l.values.length:Int))
  (hq:∀k',Has h0 (PostA p room (ls.set i (waitL w v l)) cursor) k'->Q 0 k'):zok Tryz.prog (some p) (i:Int) w v Q k:=by
 unfold zok
 refine zjt (zuk1 o ⟨by omega,by grind⟩ ?_)
 rw [if_neg (by decide)]
 refine zbz1 (znc2 o hw hn fun k1 o=> ?_)
 rw [if_neg (by decide)]
 obtain ⟨x,a,h1,ld,ix,_,o1,put⟩:=o.laneN hl
 refine zab (ld (ix ?_))
 have hm:=List.mem_of_getElem? hl
 exact zen1 (zmt2 o1 (hw.2 l hm).1 hf (hn l hm) fun k' o'=>hq k' (put _ _ o'))
theorem zqm2 {Q:Sl->Hp->Prop} (o:Has h0 (PostA p room ls cursor) k) (hw:ls.length<=1000/\∀l∈ls,l.waiters.length<=100) (hq:∀s k',Has h0 ((PostA p room (ls.map endL) cursor).star (SlA 2 eW s (ls.flatMap (·.waiters)))) k'->Q s k'):zqd Tryz.prog (some p) Q k:=by
 obtain ⟨x,ptrs,e1,e2,o⟩:=o.postX
 unfold zqd
 have hs:=o.right.left.slen
 refine zab ((Has.left o).ld (shf:=shSl) x.lanes rfl ?_)
 have nil:Has k (SlA 2 eW (⟨none,0,0⟩:Sl) ([]:List zdi)) k:=Has.nilSl (Hp.le_refl _)
 have hcnt:∀t,((ls.take t).flatMap (·.waiters)).length<=t*100:=by
  have:∀m:List PLane,(∀l∈m,l.waiters.length<=100)->(m.flatMap (·.waiters)).length<=m.length*100:=fun m=>by
   induction m with
   | nil=>intro _;simp
   | cons a m ih=>
    intro h
    have:=ih fun l hl=>h l (List.mem_cons_of_mem _ hl)
    have:=h a (List.mem_cons_self ..)
    simp only [List.flatMap_cons,List.length_append,List.length_cons]
    omega
  grind
 refine LoopW2.intro (fun (s:Sl) (i:Int) k'=>0<=i/\i<=(ls.length:Int)/\Has h0 ((PostB p x ptrs room ((ls.take i.toNat).map endL++ls.drop i.toNat)).star (SlA 2 eW s ((ls.take i.toNat).flatMap (·.waiters)))) k') (fun _ i _=>(ls.length-i).toNat)
  ⟨by omega,by omega,by simpa using o.beside nil⟩ ?_
 rintro s i k' ⟨i0,i1,o⟩
 by_cases h3:i<(ls.length:Int)
 ·rw [if_pos (decide_eq_true (by omega))]
  have hi:i.toNat<ls.length:=by omega
  have hl:=List.getElem?_eq_getElem hi
  generalize ls[i.toNat]=l at hl
  have e2':ptrs.length=((ls.take i.toNat).map endL++ls.drop i.toNat).length:=by grind
  obtain ⟨h2,_,o2,_,put2⟩:=o.fst
  obtain ⟨h1,_,o1,put⟩:=o2.lane1 (zul1 hl)
  have hix:=o2.ptr e2' (i:=i.toNat) (by omega) (K:=fun y=>y=some (ptrs.getD i.toNat a0)) rfl
  have ei:((i.toNat:Nat):Int)=i:=by omega
  rw [ei] at hix
  obtain ⟨g1,y,hy,rfl⟩:=hix
  refine ⟨g1,_,hy,?_⟩
  refine zfy1 (zqa2 o1 fun r k2 o3=> ?_)
  have oo:Has h0 (((PostB p x ptrs room ((ls.take (i.toNat+1)).map endL++ls.drop (i.toNat+1))).star (SlA 2 eW s ((ls.take i.toNat).flatMap (·.waiters)))).star (SlA 2 eW r l.waiters)) k2:=
   o3.carry fun k' o'=>by
    have op:=put _ _ o'
    rw [zli1 hl] at op
    exact put2 _ _ op
  have hcur:l.waiters.length<=100:=hw.2 l (List.mem_of_getElem? hl)
  have h5:=hcnt i.toNat
  have e0:(⟨s.base,s.len,s.cap⟩:Sl)=s:=rfl
  rw [e0]
  obtain ⟨h6,_,o6,_,put6⟩:=oo.fst
  obtain ⟨h7,_,o7,_,put7⟩:=o6.snd
  refine o7.app (oo.right.srw (fun _=>rfl)) (fun _=>rfl) (fun _=>rfl) rfl ⟨by omega,by omega⟩ fun s' k3 o8=> ?_
  have o9:=put6 _ _ (put7 _ _ o8)
  rw [wrap64 (by omega) (by omega)]
  refine ⟨⟨by omega,by omega,?_⟩,by omega⟩
  rw [show (i+1).toNat=i.toNat+1 by omega]
  have e3:(ls.take (i.toNat+1)).flatMap (·.waiters)=(ls.take i.toNat).flatMap (·.waiters)++l.waiters:=by rw [List.take_add_one,hl];simp
  rw [e3]
  exact o9.left
 ·rw [if_neg (fun e=>h3 (by grind))]
  refine hq _ k' ?_
  have ei:i.toNat=ls.length:=by omega
  rw [ei,List.take_length,List.drop_length,List.append_nil] at o
  obtain ⟨h2,_,o2,_,put2⟩:=o.fst
  exact put2 _ _ (o2.ofPost e1 (by grind))
end
abbrev LRow (l:Sl) (xs:List PLane):Asn:=AsA (RowsO.ok (sh:=sh_api_Lane) (sz:=4) zod1) l xs
section
variable {h0 k:Hp} {p:Addr} {room cursor:Int} {ls:List PLane} {x:S_post_Post} {ptrs:List Addr}
theorem zjl2 {Q:Sl->Int->Hp->Prop} (o:Has h0 (PostA p room ls cursor) k) (hw:ls.length<=1000/\∀l∈ls,l.waiters.length<=100/\l.values.length<=100) (hq:∀s k',Has h0 ((PostA p room ls cursor).star (LRow s ls)) k'->Q s cursor k'):zmz Tryz.prog (some p) Q k:=by
 obtain ⟨x,ptrs,e1,e2,o⟩:=o.postX
 unfold zmz
 have hs:=o.right.left.slen
 refine zab ((Has.left o).ld (shf:=shSl) x.lanes rfl ?_)
 have nil:Has k (LRow (⟨none,0,0⟩:Sl) ([]:List PLane)) k:=Has.noRows (okQ:=zod1) (Hp.le_refl _)
 refine LoopW2.intro (fun (s:Sl) (i:Int) k'=>0<=i/\i<=(ls.length:Int)/\Has h0 ((PostB p x ptrs room ls).star (LRow s (ls.take i.toNat))) k') (fun _ i _=>(ls.length-i).toNat) ⟨by omega,by omega,by simpa using o.beside nil⟩ ?_
 rintro s i k' ⟨i0,i1,o⟩
 by_cases h3:i<(ls.length:Int)
 ·rw [if_pos (decide_eq_true (by omega))]
  have hi:i.toNat<ls.length:=by omega
  have hl:=List.getElem?_eq_getElem hi
  generalize ls[i.toNat]=l at hl
  have hm:=hw.2 l (List.mem_of_getElem? hl)
  obtain ⟨h2,_,o2,_,put2⟩:=o.fst
  obtain ⟨h1,_,o1,put⟩:=o2.lane1 hl
  have hix:=o2.ptr e2 hi (K:=fun y=>y=some (ptrs.getD i.toNat a0)) rfl
  have ei:((i.toNat:Nat):Int)=i:=by omega
  rw [ei] at hix
  obtain ⟨g1,y,hy,rfl⟩:=hix
  refine ⟨g1,_,hy,?_⟩
  refine zou (zxa1 o1 hm.2 hm.1 fun r k2 o3=> ?_)
  have oo:Has h0 (((PostB p x ptrs room ls).star (LRow s (ls.take i.toNat))).star (AsA zod1 r l)) k2:=o3.carry fun k' o'=>by
   have op:=put _ _ o'
   rw [zwt hl] at op
   exact put2 _ _ op
  obtain ⟨h4,_,o4,_,put4⟩:=oo.assoc.snd
  have e0:(⟨s.base,s.len,s.cap⟩:Sl)=s:=rfl
  rw [e0]
  refine o4.row rfl (fun _=>rfl) (fun _=>rfl) rfl ⟨by rw [List.length_take];omega,by rw [List.length_take];omega⟩ fun s' k3 o5=> ?_
  have o6:=put4 _ _ o5
  rw [wrap64 (by omega) (by omega)]
  refine ⟨⟨by omega,by omega,?_⟩,by omega⟩
  have e3:ls.take (i.toNat+1)=ls.take i.toNat++ [l]:=by rw [List.take_add_one,hl];rfl
  grind
 ·rw [if_neg (fun e=>h3 (by grind))]
  refine zab ((Has.left (Has.left o)).ld (shf:=shInt .i64) x.cursor rfl ?_)
  rw [e1]
  refine hq _ k' ?_
  have ei:i.toNat=ls.length:=by omega
  rw [ei,List.take_length] at o
  obtain ⟨h2,_,o2,_,put2⟩:=o.fst
  exact put2 _ _ (o2.ofPost e1 e2)
theorem zfy2 {q:Addr} {l:PLane} (hn:ptrs.length=ls.length) (o:Has h0 ((zxb1 ptrs room ls).star (LaneA q room l)) k):Has h0 (zxb1 (ptrs++ [q]) room (ls++ [l])) k:=by
 unfold zxb1
 rw [List.length_append]
 show Has h0 ((Asn.first (fun i=>LaneA ((ptrs++ [q]).getD i a0) room ((ls++ [l]).getD i laneZ)) ls.length).star (LaneA ((ptrs++ [q]).getD ls.length a0) room ((ls++ [l]).getD ls.length laneZ))) k
 have e1:(ptrs++ [q]).getD ls.length a0=q:=by simp [List.getD,<-hn]
 have e2:(ls++ [l]).getD ls.length laneZ=l:=by simp [List.getD]
 rw [e1,e2]
 refine cast (congrArg (fun A=>Has h0 (A.star (LaneA q room l)) k) (zci fun i hi=> ?_)) o
 grind
theorem zqn2 {s:Sl} {xs:List S_api_Lane} {Q:Option Addr->Int->Hp->Prop} (h1:1<=room/\room<=64) (hn:1<=ls.length/\ls.length<=9) (hc:0<=cursor/\cursor<ls.length) (r:Rs k sh_api_Lane 4 s xs) (a:All2 (LaneAt k) xs ls) (hv:∀l∈ls,LnV room l)
  (hq:∀p k',k<=k'->Has k (PostA p room ls cursor) k'->Q (some p) 0 k'):zhk1 Tryz.prog room s cursor Q k:=by
 unfold zhk1
 have hlen:=r.1
 have hxl:=a.len
 refine letW (letW (letW ?_))
 rw [show (decide ((s.len:Int)<1) || decide ((s.len:Int)>9) || decide (room<1) || decide (room>64))=false by simp;omega,if_neg (by decide)]
 refine letW ?_
 rw [show (decide (cursor<0) || decide (cursor>=(s.len:Int)))=false by simp;omega,if_neg (by decide)]
 refine zjr1 (sh:=zrl) ⟨⟨none,0,0⟩,cursor⟩ rfl fun p k1 hl1 o1=> ?_
 have st0:Has k (PostB p ⟨⟨none,0,0⟩,cursor⟩ [] room []) k1:=o1.beside ((Has.nilSl (Hp.le_refl k1)).beside (Has.fact trivial (Hp.le_refl k1)))
 refine LoopW1.intro (fun (i:Int) k'=>0<=i/\i<=(ls.length:Int)/\∃(sl:Sl) (ptrs:List Addr),ptrs.length=i.toNat/\Has k (PostB p ⟨sl,cursor⟩ ptrs room (ls.take i.toNat)) k') (fun i _=>(ls.length-i).toNat) ⟨by omega,by omega,_,[],rfl,st0⟩ ?_
 rintro i k' ⟨i0,i1,sl,ptrs,hp,o⟩
 by_cases h3:i<(ls.length:Int)
 ·rw [if_pos (decide_eq_true (by omega))]
  refine Rs.get (sh:=sh_api_Lane) (Rw.mono o.le r) (fun _=>rfl) (by omega) i0 (by omega) fun (y:S_api_Lane) hy=> ?_
  obtain ⟨l,hl,hat⟩:=a.get hy
  refine zty1 (zqk2 h1 (hat.mono o.le) (hv l (List.mem_of_getElem? hl)) fun q k2 hl2 o2=> ?_)
  rw [if_neg (by decide)]
  have o:=(o.beside o2)
  refine zab ((Has.left (Has.left o)).ld (shf:=shSl) sl rfl ?_)
  obtain ⟨h4,_,o4,_,put4⟩:=o.fst
  obtain ⟨h5,_,o5,put5⟩:=o4.f2
  refine o5.push (e:=q) rfl (fun _=>rfl) (fun _=>rfl) rfl ⟨by omega,by omega⟩ fun sl' k3 o6=> ?_
  have o:=put4 _ _ (put5 _ _ o6)
  obtain ⟨h4,_,o4,_,put4⟩:=o.fst
  obtain ⟨h5,_,o5,put5⟩:=o4.f1
  refine zab (o5.st (⟨sl',cursor⟩:S_post_Post) (show (1:Nat)<=2 by decide) rfl fun k4 o7=> ?_)
  have o:=put4 _ _ (put5 _ _ o7)
  rw [wrap64 (by omega) (by omega)]
  have e3:ls.take (i.toNat+1)=ls.take i.toNat++ [l]:=by rw [List.take_add_one,hl];rfl
  refine ⟨⟨by omega,by omega,sl',ptrs++ [q],by simp;omega,?_⟩,by omega⟩
  rw [show (i+1).toNat=i.toNat+1 by omega,e3]
  have oo:=o.assoc
  obtain ⟨h8,_,o8,_,put8⟩:=oo.snd
  obtain ⟨h9,_,o9,_,put9⟩:=o8.assoc.snd
  exact put8 _ _ (put9 _ _ (zfy2 (by grind) o9))
 ·rw [if_neg (fun e=>h3 (by grind))]
  have ei:i.toNat=ls.length:=by omega
  rw [ei,List.take_length] at o
  rw [ei] at hp
  exact hq p k' o.le (o.ofPost rfl hp)
end
abbrev eL :S_locks_lock->List Value:=fun x=>zac (sh_locks_lock.enc x)
def lock0 :S_locks_lock:=⟨0,⟨none,0,0⟩⟩
def QsA (xs:List S_locks_lock) (qs:List (List Int)):Asn:=Asn.first (fun i=>SlA 1 eNum (xs.getD i lock0).queue (qs.getD i [])) qs.length
def LocksB (p:Addr) (sl:Sl) (xs:List S_locks_lock) (qs:List (List Int)):Asn:=(RecA zgu p ⟨sl⟩).star ((SlA 2 eL sl xs).star (QsA xs qs))
def zfj (p:Addr) (os:List Int) (qs:List (List Int)):Asn:=
 .some_ fun sl:Sl=>.some_ fun xs:List S_locks_lock=>(LocksB p sl xs qs).star (.fact (xs.map (·.owner)=os/\xs.length=qs.length))
section
variable {h0 k:Hp} {p:Addr} {os:List Int} {qs:List (List Int)} {sl:Sl} {xs:List S_locks_lock}
theorem Has.locksX (o:Has h0 (zfj p os qs) k):∃sl xs,xs.map (·.owner)=os/\xs.length=qs.length/\Has h0 (LocksB p sl xs qs) k:=by
 obtain ⟨sl,o⟩:=Has.ex.1 o
 obtain ⟨xs,o⟩:=Has.ex.1 o
 obtain ⟨o,e1,e2⟩:=o.noFact
 grind
theorem Has.ofLocks (o:Has h0 (LocksB p sl xs qs) k) (e1:xs.map (·.owner)=os) (e2:xs.length=qs.length):Has h0 (zfj p os qs) k:=Has.ex.2 ⟨sl,Has.ex.2 ⟨xs,o.withFact ⟨e1,e2⟩⟩⟩
theorem Has.que1 {i:Nat} {x:S_locks_lock} {q:List Int} (o:Has h0 (QsA xs qs) k) (hx:xs[i]? =some x) (hq:qs[i]? =some q):∃h1,h0<=h1/\Has h1 (SlA 1 eNum x.queue q) k/\∀x' q' k',Has h1 (SlA 1 eNum x'.queue q') k'->Has h0 (QsA (xs.set i x') (qs.set i q')) k':=by
 have hi:i<qs.length:=(List.getElem?_eq_some_iff.1 hq).1
 have hix:i<xs.length:=(List.getElem?_eq_some_iff.1 hx).1
 obtain ⟨h1,a1,o1,_,put⟩:=Has.one hi o
 rw [zhm hx,zhm hq] at o1
 refine ⟨h1,a1,o1,fun x' q' k' o'=> ?_⟩
 have:=put _ _ o'
 unfold QsA
 rw [List.length_set]
 refine cast (congrArg (fun A=>Has h0 A k') (zci fun j hj=> ?_)) this
 by_cases e:j=i
 ·subst e
  rw [zbx,zhm (List.getElem?_set_self hix),zhm (List.getElem?_set_self hj)]
 ·rw [zbq e]
  grind
theorem Has.lsl (o:Has h0 (LocksB p sl xs qs) k) {K:Sl->Prop} (hk:K sl):LdW none shSl k (p.add 0) K:=(Has.left o).ld (shf:=shSl) sl rfl hk
theorem Has.lrow (o:Has h0 (LocksB p sl xs qs) k):Rs k sh_locks_lock 2 sl xs:=o.right.left.srw (fun _=>rfl)
theorem Has.lown {i:Nat} {x:S_locks_lock} (o:Has h0 (LocksB p sl xs qs) k) (hx:xs[i]? =some x) {K:Int->Prop} (hk:K x.owner):InB sl.base sl.len (i:Int)/\LdW none (shInt .i64) k ((sat sl.base 2 (i:Int)).add 0) K:=
 Rw.fld (sh:=shInt .i64) (o.right.left.srw (fun _=>rfl)) (fun _=>rfl) (by decide) (fun x=>x.owner) (j:=0) (fun _=>rfl) (by omega) (by grind) fun y hy=>by
  rw [Int.toNat_natCast,hx] at hy
  cases hy;exact hk
theorem Has.lque {i:Nat} {x:S_locks_lock} (o:Has h0 (LocksB p sl xs qs) k) (hx:xs[i]? =some x) {K:Sl->Prop} (hk:K x.queue):InB sl.base sl.len (i:Int)/\LdW none shSl k ((sat sl.base 2 (i:Int)).add 1) K:=
 Rw.fld (sh:=shSl) (o.right.left.srw (fun _=>rfl)) (fun _=>rfl) (by decide) (fun x=>x.queue) (j:=1) (fun _=>rfl) (by omega) (by grind) fun y hy=>by
  rw [Int.toNat_natCast,hx] at hy
  cases hy;exact hk
theorem zjm2 {i:Nat} {x x':S_locks_lock} (hx:xs[i]? =some x) (e:x'.queue=x.queue):QsA (xs.set i x') qs=QsA xs qs:=by
 unfold QsA
 grind
theorem Has.setOwner {i:Nat} {x:S_locks_lock} {v:Int} {K:Hp->Prop} (o:Has h0 (LocksB p sl xs qs) k) (hx:xs[i]? =some x) (hk:∀k',Has h0 (LocksB p sl (xs.set i ⟨v,x.queue⟩) qs) k'->K k'):StW k ((sat sl.base 2 (i:Int)).add 0) [.int .i64 v] K:=by
 obtain ⟨h1,_,o1,put⟩:=o.f2
 refine o1.sput (fun _=>rfl) hx (x':=⟨v,x.queue⟩) (show (1:Nat)<=2 by decide) rfl fun k' o'=>hk k' ?_
 have:=put _ _ o'
 unfold LocksB
 rw [zjm2 (x':=⟨v,x.queue⟩) hx rfl]
 exact this
theorem Has.setQue {i:Nat} {x:S_locks_lock} {s:Sl} {q q':List Int} {K:Hp->Prop} {h1:Hp} (oR:Has h0 ((RecA zgu p ⟨sl⟩).star ((SlA 2 eL sl xs).star (QsA (xs.set i ⟨x.owner,s⟩) (qs.set i q')))) k) (hx:xs[i]? =some x)
  (hk:∀k',Has h0 (LocksB p sl (xs.set i ⟨x.owner,s⟩) (qs.set i q')) k'->K k'):StW k ((sat sl.base 2 (i:Int)).add 1) [s.v] K:=by
 obtain ⟨h2,_,o1,put⟩:=oR.f2
 refine o1.sput (fun _=>rfl) hx (x':=⟨x.owner,s⟩) (show (2:Nat)<=2 by decide) rfl fun k' o'=>hk k' (put _ _ o')
theorem zxc1 {n w:Int} {Q:Int->Hp->Prop} (o:Has h0 (zfj p os qs) k) (hn:0<=n/\n<qs.length) (hw:0<=w) (hq:Q 0 k):zkq Tryz.prog (some p) n w Q k:=by
 obtain ⟨sl,xs,e1,e2,o⟩:=o.locksX
 unfold zkq
 have hs:=o.right.left.slen
 refine zab ((Has.left o).ldC (shf:=shSl) sl rfl ?_)
 refine letW ?_
 grind
theorem zxd1 {w:Int} {Q:Int->Bool->Hp->Prop} (o:Has h0 (LocksB p sl xs qs) k) (e2:xs.length=qs.length) (hl:qs.length<=1000/\∀q∈qs,q.length<=100) (hn:∀q∈qs,w∉q) (hq:Q 0 false k):zkm Tryz.prog (some p) w Q k:=by
 unfold zkm
 have hs:=o.right.left.slen
 refine zab (o.lsl ?_)
 refine LoopW1.intro (fun (i:Int) k'=>k'=k/\0<=i/\i<=(qs.length:Int)) (fun i _=>(qs.length-i).toNat) ⟨rfl,by omega,by omega⟩ ?_
 rintro i _ ⟨rfl,i0,i1⟩
 by_cases h3:i<(qs.length:Int)
 ·rw [if_pos (decide_eq_true (by omega))]
  refine o.lrow.get (fun _=>rfl) (by omega) i0 (by omega) fun (y:S_locks_lock) hy=> ?_
  have hi:i.toNat<qs.length:=by omega
  have hqq:=List.getElem?_eq_getElem hi
  generalize qs[i.toNat]=q at hqq
  have hm:=List.mem_of_getElem? hqq
  obtain ⟨h1,_,o1,_⟩:=o.right.right.que1 hy hqq
  refine zho (zjv1 (o1.srw (fun _=>rfl)) (by have:=hl.2 q hm;omega) ?_)
  dsimp only
  rw [if_neg (by simpa using hn q hm),wrap64 (by omega) (by omega)]
  exact ⟨⟨rfl,by omega,by omega⟩,by omega⟩
 grind
theorem zjn2 {n:Nat} {w o1:Int} {Q:Bool->Int->Hp->Prop} {q:List Int} (o:Has h0 (zfj p os qs) k) (hl:qs.length<=1000/\∀q∈qs,q.length<=100) (hn:∀q∈qs,w∉q) (hw:0<=w) (ho:os[n]? =some o1) (hqn:qs[n]? =some q)
  (h1:(o1= -1\/o1=w)->∀k',Has h0 (zfj p (os.set n w) qs) k'->Q true 0 k') (h2:¬(o1= -1\/o1=w)->∀k',Has h0 (zfj p os (qs.set n (q++ [w]))) k'->Q false 0 k'):zlx Tryz.prog (some p) (n:Int) w Q k:=by
 unfold zlx
 have hnl:n<qs.length:=(List.getElem?_eq_some_iff.1 hqn).1
 refine zmp (zxc1 o ⟨by omega,by omega⟩ hw ?_)
 rw [if_neg (by decide)]
 obtain ⟨sl,xs,e1,e2,o⟩:=o.locksX
 refine zmn (zxd1 o e2 hl hn ?_)
 rw [if_neg (by decide)]
 obtain ⟨x,hx,hxo⟩:∃x,xs[n]? =some x/\x.owner=o1:=by
  grind
 have hin:=(o.lown hx (K:=fun _=>True) trivial).1
 refine zab (o.lsl ⟨hin,?_⟩)
 refine ⟨fun _ k'=>∃v,((o1= -1/\v=w)\/(o1≠ -1/\v=o1))/\Has h0 (LocksB p sl (xs.set n ⟨v,x.queue⟩) qs) k',?_,?_⟩
 ·refine zab (o.lown hx ?_).2
  rw [hxo]
  by_cases e:o1= -1
  ·rw [if_pos (by simp [e])]
   refine zab (o.setOwner hx fun k' o'=> ?_)
   grind
  ·rw [if_neg (by simp [e])]
   refine ⟨o1,.inr ⟨e,rfl⟩,?_⟩
   have:(⟨o1,x.queue⟩:S_locks_lock)=x:=by cases x;grind
   rw [this,zwt hx];exact o
 ·rintro _ k1 ⟨v,hv,o⟩
  have hxs:(xs.set n ⟨v,x.queue⟩)[n]? =some ⟨v,x.queue⟩:=List.getElem?_set_self (List.getElem?_eq_some_iff.1 hx).1
  have hlen:(xs.set n ⟨v,x.queue⟩).length=qs.length:=by grind
  have hmap:(xs.set n ⟨v,x.queue⟩).map (·.owner)=os.set n v:=by rw [List.map_set,e1]
  refine zab (o.lown hxs ?_).2
  dsimp only
  by_cases e:v=w
  ·rw [if_neg (show ¬(v !=w)=true by simp [e])]
   refine zab (o.lown hxs ?_).2
   rw [show (v==w)=true by simp [e]]
   refine h1 (by omega) k1 (o.ofLocks ?_ hlen)
   rw [hmap,e]
  ·rw [if_pos (show (v !=w)=true by simp [e])]
   refine zab (o.lque hxs ?_).2
   obtain ⟨h4,_,o4,put4⟩:=o.f3
   obtain ⟨h5,_,o5,put5⟩:=o4.que1 hxs hqn
   have hq100:=hl.2 q (List.mem_of_getElem? hqn)
   refine o5.push (e:=w) rfl (fun _=>rfl) (fun _=>rfl) rfl ⟨by omega,by omega⟩ fun s' k2 o6=> ?_
   have o7:=put4 _ _ (put5 ⟨v,s'⟩ _ _ o6)
   refine zab (Has.setQue (x:=⟨v,x.queue⟩) (q:=q) (h1:=h4) o7 hxs fun k3 o8=> ?_)
   have hxs':((xs.set n ⟨v,x.queue⟩).set n ⟨v,s'⟩)[n]? =some ⟨v,s'⟩:=List.getElem?_set_self (List.getElem?_eq_some_iff.1 hxs).1
   refine zab (o8.lown hxs' ?_).2
   rw [show (v==w)=false by simp [e]]
   refine h2 (by omega) k3 (o8.ofLocks ?_ (by grind))
   rw [List.map_set,hmap]
   have hv1:v=o1:=by omega
   subst hv1
   rw [List.set_set,zwt ho]
end
def hold (w:Int):List Int->Nat->List Int
 | [],_=> []
 | o::r,i=>if o=w then (i:Int)::hold w r (i+1) else hold w r (i+1)
theorem zas1 {w:Int}:∀ {os:List Int} {i:Nat} {n:Int},n∈hold w os i->∃j:Nat,n=((i+j:Nat):Int)/\os[j]? =some w
 | [],_,_,h=>by cases h
 | o::r,i,n,h=>by
  unfold hold at h
  split at h
  ·rename_i e
   rcases List.mem_cons.1 h with h | h
   ·grind
   ·obtain ⟨j,h1,h2⟩:=zas1 h
    exact ⟨j+1,by omega,by simpa using h2⟩
  ·obtain ⟨j,h1,h2⟩:=zas1 h
   exact ⟨j+1,by omega,by simpa using h2⟩
theorem zjf1 {w:Int}:∀ {os:List Int} {i:Nat},(hold w os i).Nodup
 | [],_=>.nil
 | o::r,i=>by
  unfold hold
  split
  ·refine List.nodup_cons.2 ⟨fun h=> ?_,zjf1⟩
   obtain ⟨j,h1,_⟩:=zas1 h
   omega
  ·exact zjf1
theorem zum1 {w:Int}:∀ {os:List Int} {i:Nat},(hold w os i).length<=os.length
 | [],_=>by simp [hold]
 | o::r,i=>by
  unfold hold
  have:=zum1 (w:=w) (os:=r) (i:=i+1)
  grind
theorem zxe1 {w:Int}:∀ {os:List Int} {i t:Nat} {o:Int},os[t]? =some o->hold w (os.take (t+1)) i=hold w (os.take t) i++(if o=w then [((i+t:Nat):Int)] else [])
 | [],_,_,_,h=>by cases h
 | a::r,i,0,o,h=>by
  have h:a=o:=by simpa using h
  subst h
  simp [hold]
 | a::r,i,t+1,o,h=>by
  have ih:=zxe1 (w:=w) (i:=i+1) (t:=t) (o:=o) (os:=r) (by simpa using h)
  rw [List.take_succ_cons,List.take_succ_cons]
  unfold hold
  grind
def zdq (z:List Int×List (List Int)×List Int) (n:Int):List Int×List (List Int)×List Int:=
 match z.2.1.getD n.toNat [] with
 | []=>(z.1.set n.toNat (-1),z.2.1,z.2.2++ [-1])
 | a::r=>(z.1.set n.toNat a,z.2.1.set n.toNat r,z.2.2++ [a])
theorem zxf1 {w:Int}:∀ {os:List Int} {qs:List (List Int)} {po:List Int} {pq:List (List Int)} {G:List Int},os.length=qs.length->po.length=pq.length->
  (hold w os po.length).foldl zdq (po++os,pq++qs,G)=(po++(zca w os qs).1,pq++(zca w os qs).2.1,G++(zca w os qs).2.2)
 | [],[],po,pq,G,_,_=>by simp [hold,zca]
 | o::os,q::qs,po,pq,G,hl,hp=>by
  have hl:os.length=qs.length:=by simpa using hl
  have step:∀(o':Int) (q':List Int) (G':List Int),(hold w os (po.length+1)).foldl zdq (po++o'::os,pq++q'::qs,G')=(po++o'::(zca w os qs).1,pq++q'::(zca w os qs).2.1,G'++(zca w os qs).2.2):=fun o' q' G'=>by
   have:=zxf1 (w:=w) (po:=po++ [o']) (pq:=pq++ [q']) (G:=G') hl (by simp [hp])
   simpa using this
  by_cases e:o=w
  ·unfold hold zca
   rw [if_pos e,if_pos e,List.foldl_cons]
   have hg:(pq++q::qs).getD po.length []=q:=by rw [hp];simp [List.getD]
   have hs:∀v:Int,(po++o::os).set po.length v=po++v::os:=fun v=>by rw [List.set_append_right _ _ (Nat.le_refl _)];simp
   have hs2:∀v:List Int,(pq++q::qs).set po.length v=pq++v::qs:=fun v=>by rw [hp,List.set_append_right _ _ (Nat.le_refl _)];simp
   have hat:zdq (po++o::os,pq++q::qs,G) (po.length:Int)=(match q with
     | []=>(po++ -1::os,pq++ []::qs,G++ [-1])
     | a::r=>(po++a::os,pq++r::qs,G++ [a])):=by
    unfold zdq
    dsimp only
    rw [Int.toNat_natCast,hg]
    cases q with
    | nil=>dsimp only;rw [hs]
    | cons a r=>dsimp only;rw [hs,hs2]
   grind
  ·unfold hold zca
   grind
 | [],_::_,_,_,_,h,_=>by cases h
 | _::_,[],_,_,_,h,_=>by cases h
theorem zfz2 (z:List Int×List (List Int)×List Int) (n:Int):(zdq z n).1.length=z.1.length/\(zdq z n).2.1.length=z.2.1.length:=by
 unfold zdq
 split<;>simp
theorem zdd2 :∀(l:List Int) (z:List Int×List (List Int)×List Int),(l.foldl zdq z).1.length=z.1.length/\(l.foldl zdq z).2.1.length=z.2.1.length
 | [],_=>⟨rfl,rfl⟩
 | n::l,z=>by
  have h1:=zdd2 l (zdq z n)
  have h2:=zfz2 z n
  grind
theorem zjo2 :∀(l:List Int) (z:List Int×List (List Int)×List Int) (j:Nat),(∀n∈l,n.toNat≠j)->(l.foldl zdq z).1[j]? =z.1[j]?/\(l.foldl zdq z).2.1[j]? =z.2.1[j]?
 | [],_,_,_=>⟨rfl,rfl⟩
 | n::l,z,j,h=>by
  have h1:=zjo2 l (zdq z n) j fun m hm=>h m (List.mem_cons_of_mem _ hm)
  have hn:=h n (List.mem_cons_self ..)
  have h2:(zdq z n).1[j]? =z.1[j]?/\(zdq z n).2.1[j]? =z.2.1[j]?:=by
   unfold zdq
   split
   ·exact ⟨List.getElem?_set_ne hn,rfl⟩
   ·exact ⟨List.getElem?_set_ne hn,List.getElem?_set_ne hn⟩
  grind
section
variable {h0 k:Hp} {p:Addr} {os:List Int} {qs:List (List Int)} {sl:Sl} {xs:List S_locks_lock}
theorem zso2 {n:Nat} {w:Int} (e1:xs.map (·.owner)=os) (ho:os[n]? =some w):∃x,xs[n]? =some x/\x.owner=w:=by
 grind
theorem zde2 {n:Nat} {w:Int} {q:List Int} {Q:Int->Int->Hp->Prop} (o:Has h0 (zfj p os qs) k) (hw:0<=w) (ho:os[n]? =some w) (hqn:qs[n]? =some q)
  (h1:q=[]->∀k',Has h0 (zfj p (os.set n (-1)) qs) k'->Q (-1) 0 k') (h2:∀a r,q=a::r->∀k',Has h0 (zfj p (os.set n a) (qs.set n r)) k'->Q a 0 k'):zly Tryz.prog (some p) (n:Int) w Q k:=by
 unfold zly
 have hnl:n<qs.length:=(List.getElem?_eq_some_iff.1 hqn).1
 refine zmp (zxc1 o ⟨by omega,by omega⟩ hw ?_)
 rw [if_neg (by decide)]
 obtain ⟨sl,xs,e1,e2,o⟩:=o.locksX
 obtain ⟨x,hx,hxo⟩:=zso2 e1 ho
 have hin:=(o.lown hx (K:=fun _=>True) trivial).1
 have hxl:=(List.getElem?_eq_some_iff.1 hx).1
 refine zab (o.lsl ⟨hin,?_⟩)
 refine zab (o.lown hx ?_).2
 rw [if_neg (show ¬(x.owner !=w)=true by simp [hxo])]
 refine zab (o.lque hx ?_).2
 obtain ⟨h4,_,o4,put4⟩:=o.f3
 obtain ⟨h5,_,o5,put5⟩:=o4.que1 hx hqn
 have hql:=o5.slen
 cases q with
 | nil=>
  have hql:x.queue.len=0:=hql
  rw [if_pos (by simp [hql])]
  refine zab (o.setOwner (v:= -1) hx fun k1 o1=> ?_)
  have hx1:(xs.set n (⟨-1,x.queue⟩:S_locks_lock))[n]? =some ⟨-1,x.queue⟩:=List.getElem?_set_self hxl
  refine zab (o1.lown hx1 ?_).2
  exact h1 rfl k1 (o1.ofLocks (by rw [List.map_set,e1]) (by grind))
 | cons a r=>
  have hql:x.queue.len=r.length+1:=by simpa using hql
  rw [if_neg (by simp;omega)]
  refine zab (o.lque hx ?_).2
  have rq:Rs k (shInt .i64) 1 x.queue (a::r):=o5.srw (fun _=>rfl)
  refine rq.get (fun _=>rfl) (by omega) (by omega) (by simp) fun (y:Int) hy=> ?_
  have hy:y=a:=by grind
  subst hy
  refine zab (o.setOwner (v:=y) hx fun k1 o1=> ?_)
  have hx1:(xs.set n (⟨y,x.queue⟩:S_locks_lock))[n]? =some ⟨y,x.queue⟩:=List.getElem?_set_self hxl
  refine zab (o1.lque hx1 ?_).2
  refine zab (o1.lque hx1 ?_).2
  refine zab (o1.lque hx1 ?_).2
  obtain ⟨h6,_,o6,put6⟩:=o1.f3
  obtain ⟨h7,_,o7,put7⟩:=o6.que1 hx1 hqn
  have hqc:=o7.scap
  have hqc:x.queue.len<=x.queue.cap:=hqc
  refine ⟨by dsimp only;omega,letW ?_⟩
  dsimp only
  rw [Int.toNat_natCast]
  have o8:=o7.cutTail (fun _=>rfl) (c:=x.queue.len) (Nat.le_refl _) hqc
  have o9:=put6 _ _ (put7 ⟨y,⟨sbase x.queue.base 1 1 x.queue.len,x.queue.len-1,x.queue.len-1⟩⟩ _ _ o8)
  refine zab (Has.setQue (x:=⟨y,x.queue⟩) (q:=y::r) (h1:=h6) o9 hx1 fun k3 o10=> ?_)
  have hx2:((xs.set n (⟨y,x.queue⟩:S_locks_lock)).set n ⟨y,⟨sbase x.queue.base 1 1 x.queue.len,x.queue.len-1,x.queue.len-1⟩⟩)[n]? =some ⟨y,⟨sbase x.queue.base 1 1 x.queue.len,x.queue.len-1,x.queue.len-1⟩⟩:=List.getElem?_set_self (by grind)
  refine zab (o10.lown hx2 ?_).2
  exact h2 y r rfl k3 (o10.ofLocks (by rw [List.map_set,List.map_set,e1,List.set_set]) (by grind))
theorem zxg1 {w:Int} {Q:Sl->Hp->Prop} (o:Has h0 (zfj p os qs) k) (hl:qs.length<=1000) (hw:0<=w) (hq:∀s k',Has h0 ((zfj p os qs).star (SlA 1 eNum s (hold w os 0))) k'->Q s k'):zkn Tryz.prog (some p) w Q k:=by
 unfold zkn
 obtain ⟨sl,xs,e1,e2,o⟩:=o.locksX
 have hs:=o.right.left.slen
 have hol:os.length=qs.length:=by grind
 refine zab (o.lsl ?_)
 have nil:Has k (SlA 1 eNum (⟨none,0,0⟩:Sl) ([]:List Int)) k:=Has.nilSl (Hp.le_refl _)
 refine LoopW2.intro (fun (s:Sl) (i:Int) k'=>0<=i/\i<=(qs.length:Int)/\Has h0 ((LocksB p sl xs qs).star (SlA 1 eNum s (hold w (os.take i.toNat) 0))) k') (fun _ i _=>(qs.length-i).toNat) ⟨by omega,by omega,by simpa [hold] using o.beside nil⟩ ?_
 rintro s i k' ⟨i0,i1,o⟩
 by_cases h3:i<(qs.length:Int)
 ·rw [if_pos (decide_eq_true (by omega))]
  refine ⟨fun s' k2=>i<(qs.length:Int)/\Has h0 ((LocksB p sl xs qs).star (SlA 1 eNum s' (hold w (os.take (i.toNat+1)) 0))) k2,?_,?_⟩
  ·refine (Has.left o).lrow.get (fun _=>rfl) (by omega) i0 (by omega) fun (y:S_locks_lock) hy=>letW ?_
   have hoy:os[i.toNat]? =some y.owner:=by grind
   have hsn:=zxe1 (w:=w) (i:=0) hoy
   rw [show (w !=(-1:Int))=true by simp;omega,Bool.and_true]
   by_cases e:y.owner=w
   ·rw [if_pos (by simp [e])]
    rw [if_pos e] at hsn
    obtain ⟨h4,_,o4,_,put4⟩:=o.snd
    have hlen:=zum1 (w:=w) (os:=os.take i.toNat) (i:=0)
    rw [List.length_take] at hlen
    refine o4.push (e:=i) rfl (fun _=>rfl) (fun _=>rfl) rfl ⟨by omega,by omega⟩ fun s' k2 o5=> ?_
    grind
   ·rw [if_neg (by simp [e])]
    rw [if_neg e,List.append_nil] at hsn
    exact ⟨h3,by rw [hsn];exact o⟩
  ·rintro s' k2 ⟨_,o⟩
   rw [wrap64 (by omega) (by omega)]
   grind
 ·rw [if_neg (fun e=>h3 (by grind))]
  refine hq _ k' ?_
  have ei:i.toNat=os.length:=by omega
  rw [ei,List.take_length] at o
  obtain ⟨h4,_,o4,_,put4⟩:=o.fst
  exact put4 _ _ (o4.ofLocks e1 e2)
end
abbrev eG :S_locks_Given->List Value:=fun g=> [.int .i64 g.Lock,.int .i64 g.Proc]
abbrev QRow (l:Sl) (xs:List (List Int)):Asn:=AsA (RowsO.ok (sh:=shSl) (sz:=1) okIs) l xs
section
variable {h0 k:Hp} {p:Addr} {os:List Int} {qs:List (List Int)} {sl:Sl} {xs:List S_locks_lock}
def dropI (w:Int) (q:List Int):List Int:=zaf (fun z=>decide (z=w)) q
theorem zne2 {w:Int} {Q:Sl->Hp->Prop} (o:Has h0 (zfj p os qs) k) (hl:qs.length<=1000/\∀q∈qs,q.length<=100) (hos:os.length=qs.length) (hw:0<=w)
  (hq:∀s k' gs,gs.map S_locks_Given.Proc=(zca w os (qs.map (dropI w))).2.2->Has h0 ((zfj p (zca w os (qs.map (dropI w))).1 (zca w os (qs.map (dropI w))).2.1).star (SlA 2 eG s gs)) k'->Q s k'):znf Tryz.prog (some p) w Q k:=by
 unfold znf
 obtain ⟨sl,xs,e1,e2,o⟩:=o.locksX
 have hs:=o.right.left.slen
 refine zab (o.lsl ?_)
 refine LoopW1.intro (fun (i:Int) k'=>0<=i/\i<=(qs.length:Int)/\∃xs,xs.map (·.owner)=os/\xs.length=qs.length/\Has h0 (LocksB p sl xs ((qs.take i.toNat).map (dropI w)++qs.drop i.toNat)) k') (fun i _=>(qs.length-i).toNat) ⟨by omega,by omega,xs,e1,e2,by simpa using o⟩ ?_
 rintro i k' ⟨i0,i1,xs,e1,e2,o⟩
 by_cases h3:i<(qs.length:Int)
 ·rw [if_pos (decide_eq_true (by omega))]
  have hi:i.toNat<qs.length:=by omega
  have hq0:=List.getElem?_eq_getElem hi
  generalize qs[i.toNat]=q at hq0
  have hq1:=zul1 (f:=dropI w) hq0
  have hix:i.toNat<xs.length:=by omega
  have hx:=List.getElem?_eq_getElem hix
  generalize xs[i.toNat]=x at hx
  have ei:((i.toNat:Nat):Int)=i:=by omega
  have hq100:=hl.2 q (List.mem_of_getElem? hq0)
  refine ⟨fun _ k2=>i<(qs.length:Int)/\∃xs,xs.map (·.owner)=os/\xs.length=qs.length/\Has h0 (LocksB p sl xs ((qs.take (i.toNat+1)).map (dropI w)++qs.drop (i.toNat+1))) k2,?_,?_⟩
  ·refine zab (o.lsl ?_)
   have hlq:=o.lque hx (K:=fun y=>y=x.queue) rfl
   rw [ei] at hlq
   obtain ⟨g1,y,hy,rfl⟩:=hlq
   refine ⟨g1,_,hy,?_⟩
   obtain ⟨h4,_,o4,put4⟩:=o.f3
   obtain ⟨h5,_,o5,put5⟩:=o4.que1 hx hq1
   refine zjz (zwt1 (o5.srw (fun _=>rfl)) (by omega) ?_)
   have hd:=zyu (fun z:Int=>decide (z=w)) q
   by_cases hp:posI w q>=0
   ·rw [if_pos (decide_eq_true hp)]
    have hlt:posI w q<q.length:=zis2 hp
    refine zab (o.lsl ?_)
    refine zab (o.lsl ?_)
    refine ⟨g1,_,hy,?_⟩
    obtain ⟨n,hn⟩:∃n:Nat,posI w q=n:=⟨(posI w q).toNat,by omega⟩
    have hz:Tryz.prog.underlying 23=some (.slice 3):=tb_ok.und 23 ty23 rfl
    have hdel:∀(Q':Sl->Hp->Prop),(∀l' k',Has h5 (SlA 1 eNum l' (q.take n++q.drop (n+1))) k'->Q' l' k')->zgi Tryz.prog x.queue (n:Int) ((n+1:Nat):Int) Q' k':=fun Q' hQ'=>by
     unfold zgi
     exact Has.sdel (bytes:=8) (z:=.int .i64 0) hz (fun hK=>zmm1 tb_ok (e:=ty3) rfl hK) (fun _=>rfl) (fun _=>rfl) rfl (fun m=>by induction m with
      | zero=>rfl
      | succ m ih=>exact ih) o5 (by omega) (by omega) ⟨by omega,by omega⟩ hQ'
    rw [hn,wrap64 (by omega) (by omega)]
    refine zrd (hdel _ fun l' k2 o6=> ?_)
    have o7:=put4 _ _ (put5 ⟨x.owner,l'⟩ _ _ o6)
    refine ⟨⟨o7.left.ldis (n:=1) rfl,trivial⟩,g1,?_⟩
    have hstep:q.take n++q.drop (n+1)=dropI w q:=by
     have hn':posF (fun z:Int=>decide (z=w)) q=n:=hn
     show _=zaf (fun z=>decide (z=w)) q
     rw [hd,hn',if_pos (by omega),Int.toNat_natCast]
    rw [hstep,zli1 hq0] at o7
    have key:StW k2 ((sat sl.base 2 ((i.toNat:Nat):Int)).add 1) [l'.v] fun k4=>i<(qs.length:Int)/\∃xs,xs.map (·.owner)=os/\xs.length=qs.length/\Has h0 (LocksB p sl xs ((qs.take (i.toNat+1)).map (dropI w)++qs.drop (i.toNat+1))) k4:=by
     obtain ⟨h8,_,o8,put8⟩:=o7.f2
     refine o8.sput (fun _=>rfl) hx (x':=⟨x.owner,l'⟩) (show (2:Nat)<=2 by decide) rfl fun k4 o9=> ?_
     refine ⟨h3,xs.set i.toNat ⟨x.owner,l'⟩,?_,by rw [List.length_set];exact e2,put8 _ _ o9⟩
     rw [List.map_set,e1]
     refine zwt ?_
     rw [<-e1,List.getElem?_map,hx]
     rfl
    grind
   ·rw [if_neg (fun h=>hp (of_decide_eq_true h))]
    refine ⟨h3,xs,e1,e2,?_⟩
    have hsame:dropI w q=q:=by
     show zaf (fun z=>decide (z=w)) q=q
     rw [hd,if_neg (show ¬0<=posF (fun z:Int=>decide (z=w)) q from hp)]
    have:=zli1 (f:=dropI w) hq0
    rw [hsame,zwt hq1] at this
    grind
  ·rintro _ k2 ⟨_,xs,e1,e2,o⟩
   rw [wrap64 (by omega) (by omega)]
   refine ⟨⟨by omega,by omega,xs,e1,e2,?_⟩,by omega⟩
   rw [show (i+1).toNat=i.toNat+1 by omega]
   exact o
 ·rw [if_neg (fun e=>h3 (by grind))]
  have ei:i.toNat=qs.length:=by omega
  rw [ei,List.take_length,List.drop_length,List.append_nil] at o
  have o:Has h0 (zfj p os (qs.map (dropI w))) k':=o.ofLocks e1 (by grind)
  refine zmo (zxg1 o (by grind) hw fun s k1 o=> ?_)
  have hlen:=o.right.slen
  have hhl:=zum1 (w:=w) (os:=os) (i:=0)
  have rs:∀k2,Has h0 ((zfj p os (qs.map (dropI w))).star (SlA 1 eNum s (hold w os 0))) k2->Rw k2 1 eNum s (hold w os 0):=fun k2 o=>o.right.srw (fun _=>rfl)
  have nil:Has k1 (SlA 2 eG (⟨none,0,0⟩:Sl) ([]:List S_locks_Given)) k1:=Has.nilSl (Hp.le_refl _)
  have hfold:=zxf1 (w:=w) (os:=os) (qs:=qs.map (dropI w)) (po:=[]) (pq:=[]) (G:=[]) (by grind) rfl
  simp only [List.nil_append,List.length_nil] at hfold
  refine LoopW2.intro (fun (s':Sl) (i:Int) k'=>0<=i/\i<=((hold w os 0).length:Int)/\∃gs:List S_locks_Given,gs.map S_locks_Given.Proc=(((hold w os 0).take i.toNat).foldl zdq (os,qs.map (dropI w),[])).2.2/\gs.length=i.toNat/\
   Has h0 (((zfj p (((hold w os 0).take i.toNat).foldl zdq (os,qs.map (dropI w),[])).1 (((hold w os 0).take i.toNat).foldl zdq (os,qs.map (dropI w),[])).2.1).star (SlA 1 eNum s (hold w os 0))).star (SlA 2 eG s' gs)) k') (fun _ i _=>((hold w os 0).length-i).toNat)
   ⟨by omega,by omega,[],by simp,rfl,by simpa using o.beside nil⟩ ?_
  rintro s' i k' ⟨i0,i1,gs,hgs,hgl,o⟩
  by_cases h4:i<((hold w os 0).length:Int)
  ·rw [if_pos (decide_eq_true (by omega))]
   have hr:Rs k' (shInt .i64) 1 s (hold w os 0):=o.left.right.srw (fun _=>rfl)
   refine hr.get (fun _=>rfl) (by omega) i0 h4 fun (n:Int) hn=> ?_
   obtain ⟨j,hj,hoj⟩:=zas1 (List.mem_of_getElem? hn)
   have hjn:n=(j:Int):=by omega
   subst hjn
   generalize hz:((hold w os 0).take i.toNat).foldl zdq (os,qs.map (dropI w),[])=z at o hgs
   have hnot:∀m∈(hold w os 0).take i.toNat,m.toNat≠j:=fun m hm e=>by
    obtain ⟨a,ha⟩:=List.getElem?_of_mem hm
    rw [List.getElem?_take] at ha
    split at ha
    ·rename_i hlt
     obtain ⟨j2,hj2,_⟩:=zas1 (List.mem_of_getElem? ha)
     have em:m=(j:Int):=by omega
     rw [em] at ha
     have hnd:=zjf1 (w:=w) (os:=os) (i:=0)
     obtain ⟨b1,b2⟩:=List.getElem?_eq_some_iff.1 ha
     obtain ⟨c1,c2⟩:=List.getElem?_eq_some_iff.1 hn
     exact List.pairwise_iff_getElem.1 hnd a i.toNat b1 c1 (by omega) (b2.trans c2.symm)
    ·cases ha
   have hat:=zjo2 ((hold w os 0).take i.toNat) (os,qs.map (dropI w),[]) j hnot
   rw [hz] at hat
   have hzl:=zdd2 ((hold w os 0).take i.toNat) (os,qs.map (dropI w),[])
   rw [hz] at hzl
   have hjl:j<qs.length:=by grind
   obtain ⟨q,hqj⟩:∃q,z.2.1[j]? =some q:=⟨_,List.getElem?_eq_getElem (by grind)⟩
   have hzo:z.1[j]? =some w:=hat.1.trans hoj
   obtain ⟨h5,_,o5,_,put5⟩:=o.fst
   obtain ⟨h6,_,o6,_,put6⟩:=o5.fst
   have hnext:((hold w os 0).take (i.toNat+1)).foldl zdq (os,qs.map (dropI w),[])=zdq z (j:Int):=by
    rw [List.take_add_one,hn,List.foldl_append,hz]
    rfl
   have hgetD:z.2.1.getD j []=q:=zhm hqj
   have fin:∀(v:Int) k2,(zdq z (j:Int)).2.2=z.2.2++ [v]->Has h6 (zfj p (zdq z (j:Int)).1 (zdq z (j:Int)).2.1) k2->
     NewW [.int .i64 (j:Int),.int .i64 v] (fun a h5=>zai 2 16 [(.int .i64 (0:Int)),(.int .i64 (0:Int))] ⟨s'.base,s'.len,s'.cap⟩ ⟨(some a),1,1⟩ (fun r3 h6'=>
      (fun (s':Sl) (i:Int) k'=>0<=i/\i<=((hold w os 0).length:Int)/\∃gs:List S_locks_Given,gs.map S_locks_Given.Proc=(((hold w os 0).take i.toNat).foldl zdq (os,qs.map (dropI w),[])).2.2/\gs.length=i.toNat/\
       Has h0 (((zfj p (((hold w os 0).take i.toNat).foldl zdq (os,qs.map (dropI w),[])).1 (((hold w os 0).take i.toNat).foldl zdq (os,qs.map (dropI w),[])).2.1).star (SlA 1 eNum s (hold w os 0))).star (SlA 2 eG s' gs)) k') r3 (IntKind.wrap .i64 (i+1)) h6'/\((hold w os 0).length-IntKind.wrap .i64 (i+1)).toNat<((hold w os 0).length-i).toNat) h5) k2:=by
    intro v k2 hv o7
    have oo:=put5 _ _ (put6 _ _ o7)
    obtain ⟨h8,_,o8,_,put8⟩:=oo.snd
    refine o8.push (e:=⟨(j:Int),v⟩) rfl (fun _=>rfl) (fun _=>rfl) rfl ⟨by omega,by omega⟩ fun s2 k3 o9=> ?_
    rw [wrap64 (by omega) (by omega)]
    refine ⟨⟨by omega,by omega,gs++ [⟨(j:Int),v⟩],?_,?_,?_⟩,by omega⟩
    ·rw [show (i+1).toNat=i.toNat+1 by omega,hnext,hv,List.map_append,hgs];rfl
    ·rw [List.length_append,hgl];simp;omega
    grind
   refine znx (zde2 o6 hw hzo hqj (fun eq k2 o7=> ?_) fun a r eq k2 o7=> ?_)
   ·have hg:zdq z (j:Int)=(z.1.set j (-1),z.2.1,z.2.2++ [-1]):=by unfold zdq;rw [Int.toNat_natCast,hgetD,eq]
    grind
   ·have hg:zdq z (j:Int)=(z.1.set j a,z.2.1.set j r,z.2.2++ [a]):=by unfold zdq;rw [Int.toNat_natCast,hgetD,eq]
    grind
  ·rw [if_neg (fun e=>h4 (by grind))]
   have ei:i.toNat=(hold w os 0).length:=by omega
   rw [ei,List.take_length,hfold] at o hgs
   refine hq _ k' gs hgs ?_
   obtain ⟨h5,_,o5,_,put5⟩:=o.fst
   exact put5 _ _ o5.left
end
section
variable {h0 k:Hp} {p:Addr} {os:List Int} {qs:List (List Int)} {sl:Sl} {xs:List S_locks_lock}
theorem Has.rowP {γ:Type} {sh:Shape} {sz:Nat} {S:sh.T->γ->Prop} {l:Sl} {ps:List γ} {v:sh.T} {q:γ} {cs zero:List Value} {bytes:Nat} {K:Sl->Hp->Prop} (o:Has h0 (AsA (RowsO.ok (sh:=sh) (sz:=sz) (PureO.ok S)) l ps) k) (hS:S v q)
  (hcs:cs=zac (sh.enc v)) (henc:∀x,(zac (sh.enc x)).length=sz) (hok:∀x,zax (zac (sh.enc x))=true) (hz:zero.length=sz) (hb:ps.length+1<=140737488355328/\(ps.length+1)*bytes<=140737488355328)
  (hk:∀l' k',Has h0 (AsA (RowsO.ok (sh:=sh) (sz:=sz) (PureO.ok S)) l' (ps++ [q])) k'->K l' k'):NewW cs (fun a k1=>zai sz bytes zero l ⟨some a,1,1⟩ K k1) k:=
 Has.row (okQ:=PureO.ok S) (o.beside (Has.ofAs (Hp.le_refl k) ⟨rfl,hS⟩ .nil fun _ h=>by cases h)) hcs henc hok hz hb hk
theorem zga2 {Q:Sl->Sl->Hp->Prop} (o:Has h0 (zfj p os qs) k) (hl:qs.length<=1000/\∀q∈qs,q.length<=100) (hos:os.length=qs.length)
  (hq:∀s s' k',Has h0 ((zfj p os qs).star ((VRow s os).star (QRow s' qs))) k'->Q s s' k'):zkk Tryz.prog (some p) Q k:=by
 unfold zkk
 obtain ⟨sl,xs,e1,e2,o⟩:=o.locksX
 have hs:=o.right.left.slen
 refine zab (o.lsl ?_)
 have nil1:Has k (VRow (⟨none,0,0⟩:Sl) ([]:List Int)) k:=Has.noRows (okQ:=PureO.ok Eq) (Hp.le_refl _)
 have nil2:Has k (QRow (⟨none,0,0⟩:Sl) ([]:List (List Int))) k:=Has.noRows (okQ:=okIs) (Hp.le_refl _)
 refine LoopW3.intro (fun (s s':Sl) (i:Int) k'=>0<=i/\i<=(qs.length:Int)/\Has h0 ((LocksB p sl xs qs).star ((VRow s (os.take i.toNat)).star (QRow s' (qs.take i.toNat)))) k') (fun _ _ i _=>(qs.length-i).toNat)
  ⟨by omega,by omega,by simpa using o.beside (nil1.beside nil2)⟩ ?_
 rintro s s' i k' ⟨i0,i1,o⟩
 by_cases h3:i<(qs.length:Int)
 ·rw [if_pos (decide_eq_true (by omega))]
  refine (Has.left o).lrow.get (fun _=>rfl) (by omega) i0 (by omega) fun (y:S_locks_lock) hy=> ?_
  have hi:i.toNat<qs.length:=by omega
  have hq0:=List.getElem?_eq_getElem hi
  generalize qs[i.toNat]=q at hq0
  have hq100:=hl.2 q (List.mem_of_getElem? hq0)
  have hoy:os[i.toNat]? =some y.owner:=by grind
  have e0:(⟨s.base,s.len,s.cap⟩:Sl)=s:=rfl
  have e0':(⟨s'.base,s'.len,s'.cap⟩:Sl)=s':=rfl
  rw [e0,e0']
  obtain ⟨h4,_,o4,put4⟩:=o.f2
  refine o4.rowP (S:=Eq) (v:=y.owner) (q:=y.owner) rfl rfl (fun _=>rfl) (fun _=>rfl) rfl ⟨by rw [List.length_take];omega,by rw [List.length_take];omega⟩ fun s1 k1 o5=> ?_
  have o:=put4 _ _ o5
  refine zcz ?_
  unfold zbp
  obtain ⟨h6,_,o6,_⟩:=(Has.left o).right.right.que1 hy hq0
  refine zka (tb_ok.und 23 ty23 rfl) (o6.srw (fun _=>rfl)) (by decide) (fun _=>rfl) (fun _=>rfl) rfl ⟨by omega,by omega⟩ fun ql k2 hl2 n2=> ?_
  have b2:Has k1 (VRow ql q) k2:=n2.pureRows (f:=fun x=>x) (fun _=>rfl) fun _=>rfl
  have oo:=(o.beside b2).assoc
  obtain ⟨h7,_,o7,_,put7⟩:=oo.snd
  obtain ⟨h8,_,o8,_,put8⟩:=o7.assoc.snd
  refine Has.row (sh:=shSl) (okQ:=okIs) o8 rfl (fun _=>rfl) (fun _=>rfl) rfl ⟨by rw [List.length_take];omega,by rw [List.length_take];omega⟩ fun s2 k3 o9=> ?_
  have o10:=put7 _ _ (put8 _ _ o9)
  rw [wrap64 (by omega) (by omega)]
  refine ⟨⟨by omega,by omega,?_⟩,by omega⟩
  have t1:os.take (i.toNat+1)=os.take i.toNat++ [y.owner]:=by rw [List.take_add_one,hoy];rfl
  have t2:qs.take (i.toNat+1)=qs.take i.toNat++ [q]:=by rw [List.take_add_one,hq0];rfl
  rw [show (i+1).toNat=i.toNat+1 by omega,t1,t2]
  exact o10
 ·rw [if_neg (fun e=>h3 (by grind))]
  refine hq _ _ k' ?_
  have ei:i.toNat=qs.length:=by omega
  rw [ei,List.take_length,<-hos,List.take_length] at o
  obtain ⟨h2,_,o2,_,put2⟩:=o.fst
  exact put2 _ _ (o2.ofLocks e1 e2)
structure zpk2 (os:List Int) (qs:List (List Int)):Prop where
 len:os.length=qs.length/\os.length<=8
 own:∀o∈os, -1<=o
 que:∀(i:Nat) o q,os[i]? =some o->qs[i]? =some q->q.length<=100/\(o= -1->q=[])/\(∀z∈q,0<=z/\z≠o)/\q.Nodup
 once:∀(i j:Nat) q q',qs[i]? =some q->qs[j]? =some q'->i<j->∀z∈q',z∉q
theorem zqo2 {x:S_locks_lock} {q:List Int} (hn:xs.length=qs.length) (o:Has h0 ((QsA xs qs).star (SlA 1 eNum x.queue q)) k):Has h0 (QsA (xs++ [x]) (qs++ [q])) k:=by
 unfold QsA
 rw [List.length_append]
 show Has h0 ((Asn.first (fun i=>SlA 1 eNum ((xs++ [x]).getD i lock0).queue ((qs++ [q]).getD i [])) qs.length).star (SlA 1 eNum ((xs++ [x]).getD qs.length lock0).queue ((qs++ [q]).getD qs.length []))) k
 have e1:(xs++ [x]).getD qs.length lock0=x:=by simp [List.getD,<-hn]
 have e2:(qs++ [q]).getD qs.length []=q:=by simp [List.getD]
 rw [e1,e2]
 refine cast (congrArg (fun A=>Has h0 (A.star (SlA 1 eNum x.queue q)) k) (zci fun i hi=> ?_)) o
 grind
theorem LocksB.hdr {sl':Sl} {K:Hp->Prop} (o:Has h0 ((RecA zgu p ⟨sl⟩).star ((SlA 2 eL sl' xs).star (QsA xs qs))) k) (hk:∀k',Has h0 (LocksB p sl' xs qs) k'->K k'):StW k (p.add 0) [sl'.v] K:=by
 obtain ⟨h1,_,o1,put⟩:=o.f1
 exact o1.st (⟨sl'⟩:S_locks_Locks) (show (1:Nat)<=1 by decide) rfl fun k' o'=>hk k' (put _ _ o')
theorem znf2 {so sq:Sl} {ys:List Sl} {Q:Option Addr->Int->Hp->Prop} (v:zpk2 os qs) (ro:Is k so os) (rq:Rs k shSl 1 sq ys) (a:All2 (Is k) ys qs) (hq:∀p k',k<=k'->Has k (zfj p os qs) k'->Q (some p) 0 k'):zde1 Tryz.prog so sq Q k:=by
 unfold zde1
 have hol:=ro.1
 have hql:=rq.1
 have hyl:=a.len
 have hlen:=v.len
 refine letW ?_
 rw [show (decide ((so.len:Int)>8) || decide ((sq.len:Int)>8))=false by simp;omega,if_neg (by decide),if_neg (by simp;omega)]
 refine zjr1 (sh:=zgu) ⟨⟨none,0,0⟩⟩ rfl fun p k1 hl1 o1=> ?_
 have st0:Has k (LocksB p ⟨none,0,0⟩ [] []) k1:=o1.beside ((Has.nilSl (Hp.le_refl k1)).beside (Has.fact trivial (Hp.le_refl k1)))
 refine LoopW1.intro (fun (i:Int) k'=>0<=i/\i<=(os.length:Int)/\∃(sl:Sl) (xs:List S_locks_lock),xs.map (·.owner)=os.take i.toNat/\Has k (LocksB p sl xs (qs.take i.toNat)) k') (fun i _=>(os.length-i).toNat) ⟨by omega,by omega,_,[],by simp,by simpa using st0⟩ ?_
 rintro i k' ⟨i0,i1,sl,xs,e1,o⟩
 by_cases h3:i<(os.length:Int)
 ·rw [if_pos (decide_eq_true (by omega))]
  have hxl:xs.length=i.toNat:=by have:=congrArg List.length e1;grind
  refine Rs.get (sh:=shInt .i64) (Rw.mono o.le ro) (fun _=>rfl) (by omega) i0 h3 fun (w:Int) hw=> ?_
  have hw1:=v.own w (List.mem_of_getElem? hw)
  have rq':Rs k' shSl 1 sq ys:=Rw.mono o.le rq
  have hi:i.toNat<qs.length:=by omega
  have hq0:=List.getElem?_eq_getElem hi
  generalize qs[i.toNat]=q at hq0
  obtain ⟨y,hy,hyq⟩:=a.get' hq0
  obtain ⟨v1,v2,v3,v4⟩:=v.que i.toNat w q hw hq0
  refine rq'.getC (⟨none,0,0⟩:Sl) (fun _=>rfl) (by omega) (fun _=>⟨i0,by omega⟩) fun (y0:Sl) hy0=> ?_
  have hz:((w==(-1:Int))&&decide ((y0.len:Int)>0))=false:=by
   by_cases e:w= -1
   ·have:=hy0 (by simp [e])
    rw [hy] at this
    cases this
    have hlq:=hyq.1
    grind
   ·simp [e]
  refine letW (letW ?_)
  rw [hz,show decide (w<(-1:Int))=false by simp;omega,if_neg (by decide)]
  refine zab (o.lsl ?_)
  obtain ⟨h4,_,o4,put4⟩:=o.f2
  refine o4.push (e:=⟨w,⟨none,0,0⟩⟩) rfl (fun _=>rfl) (fun _=>rfl) rfl ⟨by omega,by omega⟩ fun sl1 k2 o5=> ?_
  have o6:=put4 _ _ o5
  have nil:Has k2 (SlA 1 eNum (⟨w,⟨none,0,0⟩⟩:S_locks_lock).queue []) k2:=Has.nilSl (Hp.le_refl _)
  have o7:Has k ((RecA zgu p ⟨sl⟩).star ((SlA 2 eL sl1 (xs++ [⟨w,⟨none,0,0⟩⟩])).star (QsA (xs++ [⟨w,⟨none,0,0⟩⟩]) (qs.take i.toNat++ [[]])))) k2:=by
   have oo:=(o6.beside nil).assoc
   obtain ⟨h8,_,o8,_,put8⟩:=oo.snd
   obtain ⟨h9,_,o9,_,put9⟩:=o8.assoc.snd
   exact put8 _ _ (put9 _ _ (zqo2 (by grind) o9))
  refine zab (LocksB.hdr o7 fun k3 o8=> ?_)
  have rq3:Rs k3 shSl 1 sq ys:=Rw.mono o8.le rq
  refine rq3.get (fun _=>rfl) (by omega) i0 (by omega) fun (y1:Sl) hy1=> ?_
  rw [hy] at hy1;cases hy1
  have hlq:=hyq.1
  have eti:(qs.take i.toNat).length=i.toNat:=by grind
  refine LoopW1.intro (fun (j:Int) k'=>0<=j/\j<=(q.length:Int)/\∃(s:Sl),Has k (LocksB p sl1 (xs++ [⟨w,s⟩]) (qs.take i.toNat++ [q.take j.toNat])) k') (fun j _=>(q.length-j).toNat) ⟨by omega,by omega,_,by simpa using o8⟩ ?_
  rintro j k4 ⟨j0,j1,s,o9⟩
  by_cases h5:j<(q.length:Int)
  ·rw [if_pos (decide_eq_true (by omega))]
   have hqr:Is k4 y q:=Rw.mono o9.le hyq
   refine hqr.get (fun _=>rfl) (by omega) j0 h5 fun (z:Int) hz=> ?_
   have hzm:=List.mem_of_getElem? hz
   have hzq:=v3 z hzm
   have hlx:(xs++ [(⟨w,s⟩:S_locks_lock)]).length=(qs.take i.toNat++ [q.take j.toNat]).length:=by simp [eti,hxl]
   refine zmn (zxd1 o9 hlx ⟨by simp [eti];omega,fun q' hq'=> ?_⟩ (fun q' hq'=> ?_) ?_)
   ·rcases List.mem_append.1 hq' with hq' | hq'
    ·obtain ⟨b,hb⟩:=List.getElem?_of_mem (List.mem_of_mem_take hq')
     have hbl:=(List.getElem?_eq_some_iff.1 hb).1
     exact (v.que b _ q' (List.getElem?_eq_getElem (show b<os.length by omega)) hb).1
    grind
   ·rcases List.mem_append.1 hq' with hq' | hq'
    ·obtain ⟨b,hb⟩:=List.getElem?_of_mem hq'
     rw [List.getElem?_take] at hb
     split at hb
     ·rename_i hlt
      exact v.once b i.toNat q' q hb hq0 hlt z hzm
     ·cases hb
    ·rw [List.mem_singleton.1 hq']
     intro hm
     obtain ⟨b,hb⟩:=List.getElem?_of_mem hm
     rw [List.getElem?_take] at hb
     split at hb
     ·rename_i hlt
      obtain ⟨b1,b2⟩:=List.getElem?_eq_some_iff.1 hb
      obtain ⟨c1,c2⟩:=List.getElem?_eq_some_iff.1 hz
      exact List.pairwise_iff_getElem.1 v4 b j.toNat b1 c1 hlt (b2.trans c2.symm)
     ·cases hb
   ·refine letW (letW ?_)
    rw [show (false || decide (z<0) || z==w)=false by simp;omega,if_neg (by decide)]
    have hx1:(xs++ [(⟨w,s⟩:S_locks_lock)])[i.toNat]? =some ⟨w,s⟩:=by rw [<-hxl];simp
    have hq1:(qs.take i.toNat++ [q.take j.toNat])[i.toNat]? =some (q.take j.toNat):=by
     rw [List.getElem?_append_right (by omega),eti];simp
    have ei:((i.toNat:Nat):Int)=i:=by omega
    refine zab (o9.lsl ?_)
    refine zab (o9.lsl ?_)
    have hlq2:=o9.lque hx1 (K:=fun y=>y=s) rfl
    rw [ei] at hlq2
    obtain ⟨g1,y2,hy2,rfl⟩:=hlq2
    refine ⟨g1,_,hy2,?_⟩
    obtain ⟨h10,_,o10,put10⟩:=o9.f3
    obtain ⟨h11,_,o11,put11⟩:=o10.que1 hx1 hq1
    refine newSl (xs:=[z]) (sz:=1) (enc:=eNum) rfl (fun _=>rfl) fun a2 k5 hl5 n5=> ?_
    refine ⟨⟨zbl hl5 (o9.left.ldis (n:=1) rfl),zbl hl5 (o9.left.ldis (n:=1) rfl),zbl hl5 hy2,trivial⟩,?_⟩
    refine (o11.grow hl5).app (n5.srw (fun _=>rfl)) (fun _=>rfl) (fun _=>rfl) rfl ⟨by simp [List.length_take];omega,by simp [List.length_take];omega⟩ fun s2 k6 o12=> ?_
    have o13:=put10 _ _ (put11 ⟨w,s2⟩ _ _ o12)
    refine ⟨⟨o13.left.ldis (n:=1) rfl,trivial⟩,g1,?_⟩
    have key:=Has.setQue (x:=⟨w,y2⟩) (q:=q.take j.toNat) (h1:=h10) o13 hx1 fun k7 o14=>(show (fun y1 k'=>(0<=y1/\y1<=(q.length:Int)/\∃(s:Sl),Has k (LocksB p sl1 (xs++ [⟨w,s⟩]) (qs.take i.toNat++ [q.take y1.toNat])) k')/\((q.length:Int)-y1).toNat<((q.length:Int)-j).toNat) (IntKind.wrap .i64 (j+1)) k7 from by
     rw [wrap64 (by omega) (by omega)]
     refine ⟨⟨by omega,by omega,s2,?_⟩,by omega⟩
     have t1:(xs++ [(⟨w,y2⟩:S_locks_lock)]).set i.toNat ⟨w,s2⟩=xs++ [⟨w,s2⟩]:=by rw [List.set_append_right _ _ (by omega),<-hxl];simp
     have t2:(qs.take i.toNat++ [q.take j.toNat]).set i.toNat (q.take j.toNat++ [z])=qs.take i.toNat++ [q.take (j+1).toNat]:=by
      rw [List.set_append_right _ _ (by omega),eti,show (j+1).toNat=j.toNat+1 by omega,List.take_add_one,hz]
      simp
     rw [<-t1,<-t2]
     exact o14)
    grind
  ·rw [if_neg (fun e=>h5 (by grind))]
   rw [wrap64 (by omega) (by omega)]
   have ej:j.toNat=q.length:=by omega
   rw [ej,List.take_length] at o9
   refine ⟨⟨by omega,by omega,sl1,xs++ [⟨w,s⟩],?_,?_⟩,by omega⟩
   ·rw [List.map_append,e1,show (i+1).toNat=i.toNat+1 by omega,List.take_add_one,hw];rfl
   ·rw [show (i+1).toNat=i.toNat+1 by omega,List.take_add_one,hq0]
    exact o9
 ·rw [if_neg (fun e=>h3 (by grind))]
  have ei:i.toNat=os.length:=by omega
  rw [ei,List.take_length] at e1
  rw [ei,hlen.1,List.take_length] at o
  exact hq p k' o.le (o.ofLocks e1 (by grind))
end
abbrev eE :S_wheel_entry->List Value:=fun x=>zac (sh_wheel_entry.enc x)
def ltE (a b:S_wheel_entry):Prop:=a.due<b.due\/a.due=b.due/\a.id_<b.id_
theorem zqp2 (a:S_wheel_entry):¬ltE a a:=by unfold ltE;omega
theorem zpl2 {a b c:S_wheel_entry} (h:ltE a b) (k:ltE b c):ltE a c:=by unfold ltE at*;omega
theorem zqq2 {a b:S_wheel_entry} (h:¬ltE a b) (hne:a≠b):ltE b a:=by
 unfold ltE at*
 by_cases h1:a.due=b.due
 ·by_cases h2:a.id_=b.id_
  ·exact absurd (by cases a;cases b;grind) hne
  ·omega
 ·omega
def cmpI (x y:Int):Int:=if x<y then -1 else if x>y then 1 else 0
theorem zng2 {x y:Int} {Q:Int->Hp->Prop} {h:Hp} (hq:Q (cmpI x y) h):zko Tryz.prog x y Q h:=by
 unfold zko
 refine zov ?_
 unfold znj
 refine zov ?_
 unfold znj
 dsimp only
 rw [if_neg (by simp),if_neg (by simp)]
 unfold cmpI at hq
 by_cases h1:x<y
 ·rw [if_pos (by simpa using h1)]
  rw [if_pos h1] at hq;exact hq
 ·rw [if_neg (by simpa using h1)]
  rw [if_neg h1] at hq
  by_cases h2:x>y
  ·rw [if_pos (by simpa using h2)]
   rw [if_pos h2] at hq;exact hq
  ·rw [if_neg (by simpa using h2)]
   rw [if_neg h2] at hq;exact hq
theorem zjp2 {x y:Int} {Q:Int->Hp->Prop} {h:Hp} (hq:Q (cmpI x y) h):zng Tryz.prog x y Q h:=by
 unfold zng
 refine zro ?_
 unfold zqg
 refine zro ?_
 unfold zqg
 dsimp only
 rw [if_neg (by simp),if_neg (by simp)]
 unfold cmpI at hq
 by_cases h1:x<y
 ·rw [if_pos (by simpa using h1)]
  rw [if_pos h1] at hq;exact hq
 ·rw [if_neg (by simpa using h1)]
  rw [if_neg h1] at hq
  by_cases h2:x>y
  ·rw [if_pos (by simpa using h2)]
   rw [if_pos h2] at hq;exact hq
  ·rw [if_neg (by simpa using h2)]
   rw [if_neg h2] at hq;exact hq
theorem zsp2 {l:Sl} {u v:Int} {Q:Int->Hp->Prop} {h:Hp} (r:Rs h (shInt .i64) 1 l [u,v]) (hq:Q (if u≠0 then u else v) h):zzi Tryz.prog l Q h:=by
 unfold zzi
 have hl:=r.1
 simp at hl
 refine LoopW1.intro (fun i k=>k=h/\(i=0\/(i=1/\u=0)\/(i=2/\u=0/\v=0))) (fun i _=>(2-i).toNat) ⟨rfl,.inl rfl⟩ ?_
 rintro i k ⟨rfl,hi⟩
 have w:IntKind.wrap .i64 (i+1)=i+1:=wrap64 (by omega) (by omega)
 rw [w]
 by_cases h2:i=2
 ·grind
 ·rw [if_pos (show decide (i<(l.len:Int))=true by simp;omega)]
  refine Rs.get r (fun _=>rfl) (by omega) (by omega) (by simp;omega) fun (x:Int) hx=> ?_
  grind
def ordE (a b:S_wheel_entry):Int:=if cmpI a.due b.due≠0 then cmpI a.due b.due else cmpI a.id_ b.id_
theorem ordE_lt {a b:S_wheel_entry}:ordE a b<0↔ltE a b:=by
 unfold ordE cmpI ltE
 omega
theorem zdf2 {a b:S_wheel_entry} {Q:Int->Hp->Prop} {h:Hp} (hq:∀h',h<=h'->Q (ordE a b) h'):zve Tryz.prog a b Q h:=by
 unfold zve
 refine zyn (zng2 ⟨⟨trivial,trivial,trivial⟩,?_⟩)
 refine zbv1 (zjp2 ?_)
 refine zgy1 (xs:=([cmpI a.due b.due,cmpI a.id_ b.id_]:List Int)) (enc:=fun x=>zac ((shInt .i64).enc x)) (sz:=1) (Hp.le_refl h) rfl (fun _=>rfl) fun a1 h1 l1 o1=> ?_
 exact znz1 (vals:=⟨some a1,2,2⟩) (zsp2 (o1.rw fun _=>rfl) (hq h1 l1))
theorem zsq2 {i j:Int} (h0:0<=i) (h1:0<=j) (h2:i+j<9223372036854775808):IntKind.wrap .i64 (shrI .u64 (IntKind.wrap .u64 (IntKind.wrap .i64 (i+j))) 1)=(i+j) / 2:=by
 rw [wrap64 (by omega) h2]
 have e1:IntKind.wrap .u64 (i+j)=i+j:=by
  unfold IntKind.wrap
  simp only [IntKind.signed,IntKind.bits]
  grind
 rw [e1]
 have e2:shrI .u64 (i+j) 1=(i+j) / 2:=by
  unfold shrI
  have:min (1:Int).toNat (IntKind.bits .u64)=1:=by decide
  grind
 rw [e2,wrap64 (by omega) (by omega)]
theorem zjq2 {x:Sl} {es:List S_wheel_entry} {tgt:S_wheel_entry} {Q:Int->Bool->Hp->Prop} {h:Hp} (r:Rw h 2 eE x es) (hl:es.length<=4398046511104) (hs:es.Pairwise ltE)
  (hq:∀(i:Nat) b h',h<=h'->i<=es.length->(∀e∈es.take i,ltE e tgt)->(∀e∈es.drop i,¬ltE e tgt)->Q (i:Int) b h'):
  zan Tryz.prog x tgt ⟨zln, #[], #[]⟩ Q h:=by
 unfold zan
 have hxl:=r.1
 refine LoopW2.intro (fun i j k=>h<=k/\0<=i/\i<=j/\j<=(es.length:Int)/\(∀e∈es.take i.toNat,ltE e tgt)/\(∀e∈es.drop j.toNat,¬ltE e tgt)) (fun i j _=>(j-i).toNat) ⟨Hp.le_refl h,by omega,by omega,by omega,fun e he=>by simp at he,fun e he=>by simp [hxl] at he⟩ ?_
 rintro i j k ⟨hk,hi0,hij,hj,hlo,hhi⟩
 have rk:=r.mono hk
 split
 ·rename_i e
  have e:i<j:=by simpa using e
  rw [zsq2 hi0 (by omega) (by omega)]
  have hm1:i<=(i+j) / 2:=by omega
  have hm2:(i+j) / 2<j:=by omega
  generalize (i+j) / 2=m at hm1 hm2
  refine JoinW2.intro (fun i' j' k'=>h<=k'/\0<=i'/\i'<=j'/\j'<=(es.length:Int)/\(∀e∈es.take i'.toNat,ltE e tgt)/\(∀e∈es.drop j'.toNat,¬ltE e tgt)/\j' - i'<j-i) ?_ ?_
  ·refine ⟨by omega,?_⟩
   refine Rs.get (sh:=sh_wheel_entry) rk (fun _=>rfl) (by omega) (by omega) (by omega) fun (x1:S_wheel_entry) hx1=> ?_
   refine ⟨zln, #[], #[],rfl,rfl,zxd (a:=x1) (b:=tgt) (zdf2 fun h' l'=> ?_)⟩
   obtain ⟨hml,hmx⟩:=List.getElem?_eq_some_iff.1 hx1
   by_cases ho:ordE x1 tgt<0
   ·rw [if_pos (by simpa using ho),wrap64 (by omega) (by omega)]
    have hlt:=ordE_lt.1 ho
    refine ⟨Hp.le_trans hk l',by omega,by omega,hj,fun y hy=> ?_,hhi,by omega⟩
    have:(m+1).toNat=m.toNat+1:=by omega
    rw [this,List.take_add_one,hx1] at hy
    rcases List.mem_append.1 hy with hy | hy
    ·obtain ⟨q,hq'⟩:=List.mem_iff_getElem?.1 hy
     rw [List.getElem?_take] at hq'
     split at hq'
     ·rename_i hqm
      obtain ⟨hql,hqx⟩:=List.getElem?_eq_some_iff.1 hq'
      have:=List.pairwise_iff_getElem.1 hs q m.toNat hql hml hqm
      rw [hqx,hmx] at this
      exact zpl2 this hlt
     ·cases hq'
    ·have:y=x1:=by simpa using hy
     rw [this];exact hlt
   ·rw [if_neg (by simpa using ho)]
    have hlt:¬ltE x1 tgt:=fun h=>ho (ordE_lt.2 h)
    refine ⟨Hp.le_trans hk l',hi0,hm1,by omega,hlo,fun y hy=> ?_,by omega⟩
    obtain ⟨q,hq'⟩:=List.mem_iff_getElem?.1 hy
    rw [List.getElem?_drop] at hq'
    obtain ⟨hql,hqx⟩:=List.getElem?_eq_some_iff.1 hq'
    by_cases hq0:q=0
    ·subst hq0
     rw [Nat.add_zero,hx1] at hq'
     cases hq'
     exact hlt
    ·have:=List.pairwise_iff_getElem.1 hs m.toNat (m.toNat+q) hml hql (by omega)
     rw [hqx,hmx] at this
     exact fun hy=>hlt (zpl2 this hy)
  grind
 ·rename_i e
  have e:¬i<j:=by simpa using e
  have hje:j=i:=by omega
  subst hje
  have hjn:(j.toNat:Int)=j:=by omega
  have hfin:∀b h',k<=h'->Q j b h':=fun b h' hl=>by
   have:=hq j.toNat b h' (Hp.le_trans hk hl) (by omega) hlo hhi
   grind
  cases hc:decide (j<(x.len:Int)) with
  | false=>
   refine Rs.getC (sh:=sh_wheel_entry) rk (⟨0,0⟩:S_wheel_entry) (fun _=>rfl) (by omega) (fun e=>by cases e) fun (x1:S_wheel_entry) _=> ?_
   exact ⟨fun e=>(by cases e),fun _=>⟨0,letW (hfin _ k (Hp.le_refl k))⟩⟩
  | true=>
   have hc':j<(x.len:Int):=by simpa using hc
   refine Rs.getC (sh:=sh_wheel_entry) rk (⟨0,0⟩:S_wheel_entry) (fun _=>rfl) (by omega) (fun _=>by omega) fun (x1:S_wheel_entry) _=> ?_
   refine effT ⟨zln, #[], #[],rfl,rfl,zxd (a:=x1) (b:=tgt) (zdf2 fun h' l'=>letW (hfin _ h' l'))⟩
theorem eqF {P:Program} (d:Nat) (xs ys:Array Value):∀(L:List (Field×IntKind×Int×Int)) (w:World),
    (∀q∈L,q.1.name≠ "_" ∧P.underlying q.1.type=some (.int q.2.1)∧xs[q.1.offset]? =some (.int q.2.1 q.2.2.1)∧ys[q.1.offset]? =some (.int q.2.1 q.2.2.2))→
    (Op.eqFields (d+1) xs ys (L.map (·.1))).run P w=.ok (L.all fun q=>q.2.2.1==q.2.2.2) w
  | [],w,_=>by simp [Op.eqFields]
  | q::L,w,h=>by
    obtain ⟨h1,h2,h3,h4⟩:=h q (List.mem_cons_self ..)
    have ih:=eqF d xs ys L w fun q' hq=>h q' (List.mem_cons_of_mem _ hq)
    have hag:(isAgg q.1.type).run P w=.ok false w:=by simp [isAgg,run_underlying h2]
    simp only [List.map_cons,Op.eqFields,Sem.run_bind,if_pos h1,part,hag,Result.andThen_ok,Bool.false_eq_true,if_false,h3,h4,Sem.run_pure,run_equalIn_int w d q.1.type q.2.1 q.2.1 q.2.2.1 q.2.2.2 h2]
    cases hb:(q.2.2.1==q.2.2.2) with
    | false=>simp [hb]
    | true=>simp [hb,ih]
theorem zxh1 {P:Program} {t:Nat} {x y:Operand} {h:Hp} {xs ys:Array Value} (L:List (Field×IntKind×Int×Int)) (hu:P.underlying t=some (.struct (L.map (·.1)).toArray)) (hg:P.eqGuardType P.depth t=false) (hp:P.stoodInHeld t=false)
    (hL:∀q∈L,q.1.name≠ "_" ∧P.underlying q.1.type=some (.int q.2.1)∧xs[q.1.offset]? =some (.int q.2.1 q.2.2.1)∧ys[q.1.offset]? =some (.int q.2.1 q.2.2.2)):
    SemIs P (binS .eql t x y (.agg xs) (.agg ys)) h (.bool (L.all fun q=>q.2.2.1==q.2.2.2)):=by
  refine zys fun w=> ?_
  have hf:P.fieldsOf t=(L.map (·.1)).toArray:=by unfold Program.fieldsOf;rw [hu]
  have ht:P.underlying t=some (.struct (P.fieldsOf t)):=by rw [hf];exact hu
  have h1:=run_equalIn_struct (P:=P) w 9999 t xs ys ht hp
  rw [hf] at h1
  have h2:=eqF (P:=P) 9998 xs ys L w hL
  unfold binS
  simp only [Sem.run_bind,run_eqGuard_agg w .eql t x y xs ys hg,Result.andThen_ok,run_eql_struct]
  rw [show (10000:Nat)=9999+1 from rfl,h1]
  simp only [h2,Result.andThen_ok]
def Wh (h:Hp) (p:Addr) (es:List S_wheel_entry) (F:List Nat):Prop:=
 ∃(b m:Nat) (sl:Sl) (G:List Nat) (kvs:List (Int×S_wheel_entry)),p=⟨b,0,none⟩/\F=b::m::G/\Blk h b [sl.v,.map (some m)]/\OwnF h 2 eE sl es G/\MapKv h m .i64 sh_wheel_entry.enc kvs/\b∉G/\b≠m/\m∉G/\
  (kvs.map (·.1)).Nodup/\(∀id e,kget id kvs=some e↔e∈es/\e.id_=id)/\es.Pairwise ltE
theorem MapKv.same {V:Type} {h h':Hp} {m:Nat} {k:IntKind} {ev:V->Value} {kvs:List (Int×V)} (hm:MapKv h m k ev kvs) (e:h' m=h m):MapKv h' m k ev kvs:=by
 obtain ⟨mes,ck,e1,e2⟩:=hm
 exact ⟨mes,ck,by rw [e];exact e1,e2⟩
theorem MapKv.known {V:Type} {h:Hp} {m:Nat} {k:IntKind} {ev:V->Value} {kvs:List (Int×V)} (hm:MapKv h m k ev kvs):h m≠none:=by
 obtain ⟨mes,ck,e1,e2⟩:=hm
 rw [e1];simp
theorem MapKv.mv {V:Type} {h h':Hp} {m:Nat} {k:IntKind} {ev:V->Value} {kvs:List (Int×V)} {F F':List Nat} (hm:MapKv h m k ev kvs) (a:Mv F h F' h') (hn:m∉F):MapKv h' m k ev kvs:=by
 obtain ⟨mes,ck,e1,e2⟩:=hm
 exact ⟨mes,ck,a.keep m _ e1 hn,e2⟩
theorem Blk.same {h h':Hp} {b:Nat} {cs:List Value} (k:Blk h b cs) (e:h' b=h b):Blk h' b cs:=by
 obtain ⟨t,e1⟩:=k
 exact ⟨t,by rw [e];exact e1⟩
theorem Wh.same {h h':Hp} {p:Addr} {es:List S_wheel_entry} {F:List Nat} (w:Wh h p es F) (hs:∀b∈F,h' b=h b):Wh h' p es F:=by
 obtain ⟨b,m,sl,G,kvs,h1,h2,h3,h4,h5,h6⟩:=w
 subst h2
 exact ⟨b,m,sl,G,kvs,h1,rfl,h3.same (hs b (by simp)),h4.same (fun c hc=>hs c (by simp [hc])),h5.same (hs m (by simp)),h6⟩
theorem Wh.known {h:Hp} {p:Addr} {es:List S_wheel_entry} {F:List Nat} (w:Wh h p es F):∀b∈F,h b≠none:=by
 obtain ⟨b,m,sl,G,kvs,h1,h2,h3,h4,h5,h6⟩:=w
 subst h2
 intro c hc
 simp only [List.mem_cons] at hc
 rcases hc with rfl | rfl | hc
 ·exact h3.known
 ·exact h5.known
 ·exact h4.known c hc
theorem Wh.sorted {h:Hp} {p:Addr} {es:List S_wheel_entry} {F:List Nat} (w:Wh h p es F):es.Pairwise ltE:=by
 obtain ⟨b,m,sl,G,kvs,h1,h2,h3,h4,h5,h6,h7,h8,h9,h10,h11⟩:=w
 exact h11
theorem Wh.ids {h:Hp} {p:Addr} {es:List S_wheel_entry} {F:List Nat} (w:Wh h p es F) {x y:S_wheel_entry} (hx:x∈es) (hy:y∈es) (e:x.id_=y.id_):x=y:=by
 obtain ⟨b,m,sl,G,kvs,h1,h2,h3,h4,h5,h6,h7,h8,h9,h10,h11⟩:=w
 have e1:=(h10 x.id_ x).2 ⟨hx,rfl⟩
 have e2:=(h10 x.id_ y).2 ⟨hy,e.symm⟩
 grind
theorem zxf {h:Hp} {b:Nat} {cs:List Value} (k:Blk h b cs) {sh:Shape} (x:sh.T) {j:Nat} (hj:(cs.drop j).take (zac (sh.enc x)).length=zac (sh.enc x)) {K:sh.T->Prop} (hk:K x):LdW none sh h ((⟨b,0,none⟩:Addr).add j) K:=by
 refine ⟨x,?_,hk⟩
 show LdIs h ((⟨b,0,none⟩:Addr).add j) _
 rw [zbh,Nat.zero_add]
 exact k.ldIs hj
theorem zqr2 {h:Hp} {b:Nat} {cs:List Value} (k:Blk h b cs) {sh:Shape} (x:sh.T) {j:Nat} {c:Bool} (hj:(cs.drop j).take (zac (sh.enc x)).length=zac (sh.enc x)) {K:sh.T->Prop} (hk:K x):LdW (some c) sh h ((⟨b,0,none⟩:Addr).add j) K:=by
 obtain ⟨y,h1,h2⟩:=zxf k (sh:=sh) x hj (K:=fun y=>y=x) rfl
 exact ⟨y,fun _=>h1,h2▸hk⟩
theorem znh2 {Q:Option Addr->Hp->Prop} {h:Hp} (hq:∀p F h',h<=h'->(∀b∈F,h b=none)->Wh h' p [] F->Q (some p) h'):zvb Tryz.prog Q h:=by
 unfold zvb
 intro m hm
 have l1:=zcu (o:=.map #[] 0) hm
 intro b t hb
 have l2:=zcu (o:=.cells (([.slice none 0 0,.map (some m)]:List Value).toArray) t (0,0)) hb
 have hbm:b≠m:=fun e=>by rw [e,zbw] at hb;cases hb
 refine hq ⟨b,0,none⟩ [b,m] _ (Hp.le_trans l1 l2) (fun c hc=> ?_) ⟨b,m,⟨none,0,0⟩,[],[],rfl,rfl,⟨t,zbw⟩,⟨rfl,Nat.le_refl _,.inl ⟨rfl,rfl,rfl⟩⟩,⟨[],0,l2 _ _ zbw,rfl⟩,by simp,hbm,by simp,by simp,fun id e=>by simp [kget],List.Pairwise.nil⟩
 simp only [List.mem_cons,List.not_mem_nil,or_false] at hc
 rcases hc with rfl | rfl
 ·exact zbz l1 hb
 ·exact hm
theorem zni2 {p:Addr} {es:List S_wheel_entry} {F:List Nat} {id:Int} {Q:Int->Bool->Hp->Prop} {h:Hp} (w:Wh h p es F) (h0:(∀e∈es,e.id_≠id)->Q 0 false h) (h1:∀e∈es,e.id_=id->Q e.due true h):
  zir Tryz.prog (some p) id Q h:=by
 obtain ⟨b,m,sl,G,kvs,rfl,rfl,h3,h4,h5,h6,h7,h8,h9,h10,h11⟩:=w
 unfold zir
 refine zab (zxf h3 (sh:=shMap) (some m) rfl ?_)
 refine zar1 (sh:=sh_wheel_entry) (z:=⟨0,0⟩) h5 rfl (fun hn=>h0 fun e he hid=> ?_) fun e he=> ?_
 ·have:=(h10 id e).2 ⟨he,hid⟩
  rw [hn] at this;cases this
 grind
theorem znj2 {es es':List S_wheel_entry} (hs:es.Pairwise ltE) (h:es'.Sublist es):es'.Pairwise ltE:=hs.sublist h
theorem zzv {es:List S_wheel_entry} (hs:es.Pairwise ltE):es.Nodup:=hs.imp fun h e=>by subst e;exact zqp2 _ h
set_option maxHeartbeats 1000000 in
theorem zjg1 {p:Addr} {es:List S_wheel_entry} {F:List Nat} {id:Int} {Q:Bool->Hp->Prop} {h:Hp} (w:Wh h p es F) (hl:es.length<=4398046511104) (h0:(∀e∈es,e.id_≠id)->Q false h)
  (h1:∀(i:Nat) e h',es[i]? =some e->e.id_=id->Mv F h F h'->Wh h' p (es.take i++es.drop (i+1)) F->Q true h'):zgd Tryz.prog (some p) id Q h:=by
 obtain ⟨b,m,sl,G,kvs,rfl,rfl,h3,h4,h5,h6,h7,h8,h9,h10,h11⟩:=w
 unfold zgd
 refine zab (zxf h3 (sh:=shMap) (some m) rfl ?_)
 refine zar1 (sh:=sh_wheel_entry) (z:=⟨0,0⟩) h5 rfl (fun hn=> ?_) fun e he=> ?_
 ·rw [if_pos (by rfl)]
  refine h0 fun e he hid=> ?_
  have:=(h10 id e).2 ⟨he,hid⟩
  grind
 rw [if_neg (by simp)]
 obtain ⟨hmem,hid⟩:=(h10 id e).1 he
 refine zab (zxf h3 (sh:=shSl) sl rfl ?_)
 have hlen:=h4.1
 have rs:Rw h 2 eE sl es:=h4.rw fun _=>rfl
 refine LoopW1.intro (fun i k=>k=h/\0<=i/\i<=(es.length:Int)/\e∉es.take i.toNat) (fun i _=>(es.length-i).toNat) ⟨rfl,by omega,by omega,by simp⟩ ?_
 rintro i k ⟨rfl,hi0,hi1,hni⟩
 split
 ·rename_i ei
  have ei:i<(sl.len:Int):=by simpa using ei
  refine Rs.get (sh:=sh_wheel_entry) rs (fun _=>rfl) (by omega) hi0 (by omega) fun (x:S_wheel_entry) hx=> ?_
  refine ⟨_,zxh1 [(⟨ "due",2,0,false, "", "firebreak/wheel",0⟩,.i64,x.due,e.due),(⟨ "id",3,1,false, "", "firebreak/wheel",8⟩,.i64,x.id_,e.id_)] (tb_ok.und 203 ty203 rfl) (by kernel_rfl) (by kernel_rfl) (fun q hq=> ?_),?_⟩
  ·simp only [List.mem_cons,List.not_mem_nil,or_false] at hq
   rcases hq with rfl | rfl
   ·exact ⟨by simp,tb_ok.und 2 ty2 rfl,rfl,rfl⟩
   ·exact ⟨by simp,tb_ok.und 3 ty3 rfl,rfl,rfl⟩
  ·dsimp only
   by_cases hxe:x=e
   ·subst hxe
    rw [if_pos (by simp)]
    refine zab (zxf h3 (sh:=shSl) sl rfl ?_)
    have hil:i.toNat<es.length:=(List.getElem?_eq_some_iff.1 hx).1
    have hin:((i.toNat:Nat):Int)=i:=by omega
    have hin1:((i.toNat+1:Nat):Int)=i+1:=by omega
    rw [wrap64 (by omega) (by omega)]
    have hdel:∀(Q':Sl->Hp->Prop),(∀l' h',OwnF h' 2 eE l' (es.take i.toNat++es.drop (i.toNat+1)) G->Mv G k G h'->Q' l' h')->zde Tryz.prog sl i (i+1) Q' k:=by
     intro Q' hQ
     have:=zsg2 (P:=Tryz.prog) (h:=k) (sz:=2) (enc:=eE) (bytes:=16) (tS:=205) (tE:=203) (z:=.agg #[.int .i64 0,.int .i64 0]) (i:=i.toNat) (j:=i.toNat+1) (Q:=Q') (tb_ok.und 205 ty205 rfl)
      (fun hk=>zmm1 tb_ok (t:=203) (e:=ty203) rfl hk)
      (fun _=>rfl) (fun _=>rfl) rfl (fun n=>by
       induction n with
       | zero=>rfl
       | succ n ih=>exact ih) h4 (by omega) (by omega) (by omega) hQ
     rw [hin,hin1] at this
     exact this
    refine zgs (hdel _ fun l' h' o' m'=> ?_)
    have k3:Blk h' b [sl.v,.map (some m)]:=h3.mv m' h6
    refine zab ?_
    refine zmt (b:=b) (off:=0) k3 (by simp) fun h2 m2 k2=> ?_
    have o2:OwnF h2 2 eE l' (es.take i.toNat++es.drop (i.toNat+1)) G:=o'.mv m2 (fun c hc=>by grind)
    have k2':Blk h2 b [l'.v,.map (some m)]:=by simpa using k2
    refine zab (zxf k2' (sh:=shMap) (some m) rfl ?_)
    have mp2:MapKv h2 m .i64 sh_wheel_entry.enc kvs:=(h5.mv m' h8).mv m2 (by grind)
    refine ziw2 mp2 fun o ho mp3=> ?_
    have hset:Mv [m] h2 [m] (h2.set m o):=Mv.set
    refine h1 i.toNat x _ hx hid ?_ ⟨b,m,l',G,kdel id kvs,rfl,rfl,k2'.mv hset (by simp;exact h7),o2.mv hset (fun c hc=>by grind),mp3,h6,h7,h8,zfr2 id h9,?_,?_⟩
    ·have q1:Mv (b::m::G) k (b::m::G) h':=m'.sub (fun c hc=>by simp [hc]) fun c hc=>.inr (.inl hc)
     have q2:Mv (b::m::G) h' (b::m::G) h2:=m2.sub (fun c hc=>by grind) fun c hc=>.inr (.inl hc)
     have q3:Mv (b::m::G) h2 (b::m::G) (h2.set m o):=hset.sub (fun c hc=>by grind) fun c hc=>.inr (.inl hc)
     exact q1.trans (q2.trans q3)
    ·intro id' e'
     rw [zcu2 id' id kvs h9]
     have hnd:=zzv h11
     have hsplit:es=es.take i.toNat++x::es.drop (i.toNat+1):=by
      have hd:es.drop i.toNat=x::es.drop (i.toNat+1):=by
       obtain ⟨q1,q2⟩:=List.getElem?_eq_some_iff.1 hx
       rw [List.drop_eq_getElem_cons q1,q2]
      rw [<-hd,List.take_append_drop]
     grind
    ·refine znj2 h11 ?_
     have:(es.take i.toNat++es.drop (i.toNat+1)).Sublist (es.take i.toNat++es.drop i.toNat):=by
      grind
     rw [List.take_append_drop] at this
     exact this
   ·rw [if_neg (by
     simp
     intro h1 h2
     exact hxe (by cases x;cases e;simp at h1 h2;simp [h1,h2])),wrap64 (by omega) (by omega)]
    refine ⟨⟨rfl,by omega,by omega,?_⟩,by omega⟩
    have:(i+1).toNat=i.toNat+1:=by omega
    rw [this,List.take_add_one,hx]
    grind
 ·rename_i ei
  have ei:¬i<(sl.len:Int):=by simpa using ei
  have:i.toNat=es.length:=by omega
  grind
theorem zgb2 {l:List S_wheel_entry} {e:S_wheel_entry} {i:Nat} (hs:l.Pairwise ltE) (h1:∀x∈l.take i,ltE x e) (h2:∀x∈l.drop i,ltE e x):(l.take i++e::l.drop i).Pairwise ltE:=by
 have hs':=hs
 rw [<-List.take_append_drop i l] at hs'
 obtain ⟨a1,a2,a3⟩:=List.pairwise_append.1 hs'
 refine List.pairwise_append.2 ⟨a1,List.pairwise_cons.2 ⟨h2,a2⟩,fun x hx y hy=> ?_⟩
 grind
set_option maxHeartbeats 1000000 in
theorem znk2 {p:Addr} {es:List S_wheel_entry} {F:List Nat} {id due:Int} {Q:Int->Hp->Prop} {h:Hp} (w:Wh h p es F) (hl:es.length<=4398046511104) (h0:id<0\/due<0->Q 1 h)
  (h1:0<=id->0<=due->∀es' F' h',Mv F h F' h'->Wh h' p es' F'->(∀x,x∈es'↔x=⟨due,id⟩\/(x∈es/\x.id_≠id))->es'.length<=es.length+1->Q 0 h'):zis Tryz.prog (some p) id due Q h:=by
 unfold zis
 refine letW ?_
 by_cases hneg:id<0\/due<0
 ·grind
 rw [if_neg (by simp;omega)]
 have hid:0<=id:=by omega
 have hdue:0<=due:=by omega
 have core:∀(es1:List S_wheel_entry) (k:Hp),Mv F h F k->Wh k p es1 F->(∀x,x∈es1↔(x∈es/\x.id_≠id))->es1.length<=es.length->
   NilW none (some p) fun p0=>LdW none shSl k (Addr.add p0 0) fun x=>
   Call2 Tryz.prog zah [x.v,(.agg #[(.int .i64 due),(.int .i64 id)]),(.func (.func 145) #[] #[])] (shInt .i64) zae (fun r1 r2 h2=>
    NilW none (some p) fun p1=>LdW none shSl h2 (Addr.add p1 0) fun x1=>
    NewW [(.int .i64 due),(.int .i64 id)] (fun a h3=>
    (((LdIs h3 (Addr.add p1 0) [x1.v])/\True)/\CallT Tryz.prog zbm [x1.v,(.int .i64 r1),(.slice (some a) 1 1)] shSl (fun r3 h4=>
    NilW none (some p) fun p2=>StW h4 (Addr.add p2 0) [r3.v] (fun h5=>
    NilW none (some p) fun p3=>LdW none shMap h5 (Addr.add p3 1) fun x2=>
    zrq (.int .i64) x2 (.int .i64 id) (.agg #[(.int .i64 due),(.int .i64 id)]) (fun h6=>Q 0 h6) h5)) h3)) h2) k:=by
  intro es1 k mk wk hes hel
  obtain ⟨b,m,sl,G,kvs,rfl,rfl,k3,k4,k5,k6,k7,k8,k9,k10,k11⟩:=wk
  refine zab (zxf k3 (sh:=shSl) sl rfl ?_)
  have hE:(⟨due,id⟩:S_wheel_entry)∉es1:=fun hm=>((hes _).1 hm).2 rfl
  refine zch (x:=sl) (target:=⟨due,id⟩) (cmp:=⟨zln, #[], #[]⟩) (zjq2 (k4.rw fun _=>rfl) (by omega) k11 fun i _ h2 l2 hi hlo hhi=> ?_)
  refine zab (zxf (k3.le l2) (sh:=shSl) sl rfl ?_)
  refine newF (xs:=[(⟨due,id⟩:S_wheel_entry)]) (enc:=eE) (sz:=2) rfl (fun _=>rfl) fun bv h3 hbv l3 m3 o3=> ?_
  have l23:=Hp.le_trans l2 l3
  refine ⟨⟨?_,trivial⟩,?_⟩
  ·obtain ⟨y,hy,hy'⟩:=zxf (k3.le l23) (sh:=shSl) sl (j:=0) rfl (K:=fun y=>y=sl) rfl
   subst hy'
   exact hy
  have hG:∀c∈G,c≠bv:=fun c hc e=>by
   have:=k4.known c hc
   rw [e] at this
   exact this (zbz l2 hbv)
  have o4:OwnF h3 2 eE sl es1 G:=by
   refine k4.mv (Mv.of_le [] l23) fun c _=>by simp
  have kv:∃csv,Blk h3 bv csv:=by
   obtain ⟨_,_,o3'⟩:=o3
   grind
  obtain ⟨csv,kv⟩:=kv
  have hins:∀(Q':Sl->Hp->Prop),(∀l' h' F',OwnF h' 2 eE l' (es1.take i++⟨due,id⟩::es1.drop i) F'->Mv G h3 F' h'->Q' l' h')->zdd Tryz.prog sl (i:Int) ⟨some ⟨bv,0,none⟩,1,1⟩ Q' h3:=by
   intro Q' hQ
   obtain ⟨ti,e1,_⟩:=tb_ok.info 203 ty203 rfl
   exact zsf2 (P:=Tryz.prog) (h:=h3) (sz:=2) (enc:=eE) (bytes:=16) (tS:=205) (tR:=4) (tE:=203) (zero:=[.int .i64 0,.int .i64 0]) (R:=fun y K h=>Call0 Tryz.prog zes [y.v,.int .i64 1] K h) (i:=i) (Q:=Q')
    (tb_ok.und 205 ty205 rfl) e1 (fun _=>rfl) (by omega) (fun _=>rfl) rfl (fun n=>by
     induction n with
     | zero=>rfl
     | succ n ih=>exact ih) o4 (o3.rw fun _=>rfl) rfl kv (fun hc=>hG bv hc rfl) hi (by omega) hQ
  refine zgr (s:=sl) (i:=(i:Int)) (v:=⟨some ⟨bv,0,none⟩,1,1⟩) (hins _ fun l' h4 G' o5 m5=> ?_)
  have kb4:Blk h4 b [sl.v,.map (some m)]:=(k3.le l23).mv m5 k6
  have hbG:b∉G':=fun hc=>by
   rcases m5.from_ b hc with q | q
   ·exact k6 q
   ·exact (k3.le l23).known q
  have km3:MapKv h3 m .i64 sh_wheel_entry.enc kvs:=k5.mv (Mv.of_le [] l23) (by simp)
  have hmG:m∉G':=fun hc=>by
   rcases m5.from_ m hc with q | q
   ·exact k8 q
   ·exact km3.known q
  refine zab ?_
  refine zmt (b:=b) (off:=0) kb4 (by simp) fun h5 m6 k6'=> ?_
  have kb5:Blk h5 b [l'.v,.map (some m)]:=by simpa using k6'
  refine zab (zxf kb5 (sh:=shMap) (some m) rfl ?_)
  have mp5:MapKv h5 m .i64 sh_wheel_entry.enc kvs:=(km3.mv m5 k8).mv m6 (by grind)
  have o6:OwnF h5 2 eE l' (es1.take i++⟨due,id⟩::es1.drop i) G':=o5.mv m6 (fun c hc=>by grind)
  refine zzr (v:=(⟨due,id⟩:S_wheel_entry)) mp5 fun o ho mp6=> ?_
  have hset:Mv [m] h5 [m] (h5.set m o):=Mv.set
  have hmemI:∀x,x∈es1.take i++(⟨due,id⟩:S_wheel_entry)::es1.drop i↔x=⟨due,id⟩\/x∈es1:=by
   intro x
   constructor
   ·grind
   ·rintro (rfl | hx)
    ·simp
    ·rw [<-List.take_append_drop i es1] at hx
     grind
  refine h1 hid hdue _ (b::m::G') _ ?_ ⟨b,m,l',G',kset id ⟨due,id⟩ kvs,rfl,rfl,kb5.mv hset (by simp;exact k7),o6.mv hset (fun c hc=>by grind),mp6,hbG,k7,hmG,zrf1 id _ k9,?_,?_⟩ ?_ ?_
  ·have q1:Mv (b::m::G) h (b::m::G) h3:=mk.trans (Mv.of_le _ l23)
   have q2:Mv (b::m::G) h3 (b::m::G') h4:=m5.sub (fun c hc=>by simp [hc]) fun c hc=>by
    grind
   have q3:Mv (b::m::G') h4 (b::m::G') h5:=m6.sub (fun c hc=>by grind) fun c hc=>.inr (.inl hc)
   have q4:Mv (b::m::G') h5 (b::m::G') (h5.set m o):=hset.sub (fun c hc=>by grind) fun c hc=>.inr (.inl hc)
   exact q1.trans (q2.trans (q3.trans q4))
  ·intro id' e'
   rw [zlf1]
   grind
  ·refine zgb2 k11 hlo fun x hx=>zqq2 (hhi x hx) fun e=> ?_
   grind
  ·grind
  ·simp;omega
 refine zct (zjg1 w hl (fun hn=> ?_) fun i e h' hi hei m' w'=> ?_)
 ·exact core es h (Mv.refl _ _) w (fun x=>⟨fun hx=>⟨hx,hn x hx⟩,fun hx=>hx.1⟩) (Nat.le_refl _)
 ·have hil:=(List.getElem?_eq_some_iff.1 hi).1
  refine core _ h' m' w' (fun x=> ?_) (by simp;omega)
  have hd:es.drop i=e::es.drop (i+1):=by
   obtain ⟨q1,q2⟩:=List.getElem?_eq_some_iff.1 hi
   rw [List.drop_eq_getElem_cons q1,q2]
  have hsplit:es=es.take i++e::es.drop (i+1):=by rw [<-hd,List.take_append_drop]
  have hnd:=zzv w.sorted
  rw [hsplit] at hnd
  have hnd':=List.nodup_append.1 hnd
  constructor
  ·intro hx
   have hxe:x∈es:=by
    rcases List.mem_append.1 hx with hx | hx
    ·exact List.mem_of_mem_take hx
    ·exact List.mem_of_mem_drop hx
   refine ⟨hxe,fun e'=> ?_⟩
   have:x=e:=w.ids hxe (List.mem_of_getElem? hi) (e'.trans hei.symm)
   subst this
   rcases List.mem_append.1 hx with hx | hx
   ·exact hnd'.2.2 x hx x (List.mem_cons_self ..) rfl
   ·exact (List.nodup_cons.1 hnd'.2.1).1 hx
  grind
abbrev eIw :Int->List Value:=fun x=>zac ((shInt .i64).enc x)
set_option maxHeartbeats 1000000 in
theorem znl2 {p:Addr} {es:List S_wheel_entry} {F:List Nat} {now:Int} {Q:Sl->Hp->Prop} {h:Hp} (w:Wh h p es F) (hl:es.length<=4398046511104)
  (hq:∀out h' done rest G F',es=done++rest->(∀x∈done,x.due<=now)->(∀x r,rest=x::r->now<x.due)->OwnF h' 1 eIw out (done.map (·.id_)) G->Wh h' p rest F'->(∀c∈G,c∉F')->Mv F h (F'++G) h'->Q out h'):
  zit Tryz.prog (some p) now Q h:=by
 unfold zit
 refine LoopW1.intro (fun out k=>∃done rest G F',es=done++rest/\(∀x∈done,x.due<=now)/\OwnF k 1 eIw out (done.map (·.id_)) G/\Wh k p rest F'/\(∀c∈G,c∉F')/\Mv F h (F'++G) k) (fun out _=>es.length-out.len)
  ⟨[],es,[],F,rfl,by simp,⟨rfl,Nat.le_refl _,.inl ⟨rfl,rfl,rfl⟩⟩,w,by simp,by simpa using Mv.refl F h⟩ ?_
 rintro out k ⟨done,rest,G,F',hsp,hdn,ho,wk,hdis,hm⟩
 have hol:=ho.1
 have wk0:=wk
 obtain ⟨b,m,sl,G1,kvs,rfl,rfl,h3,h4,h5,h6⟩:=wk
 have hlen:=h4.1
 refine zab (zxf h3 (sh:=shSl) sl rfl ?_)
 have rs:Rw k 2 eE sl rest:=h4.rw fun _=>rfl
 refine ⟨_,fun _=>rfl,?_⟩
 refine zqr2 h3 (sh:=shSl) sl rfl ?_
 refine rs.fldC (fun _=>rfl) (by omega) (sh:=shInt .i64) (fun x=>x.due) (j:=0) (fun _=>rfl) (0:Int) (fun hc=>by simp at hc;omega) fun (y:Int) hy=> ?_
 refine letW ?_
 cases rest with
 | nil=>
  have e0:sl.len=0:=by simpa using hlen
  rw [if_neg (by simp [e0])]
  exact hq out k done [] G _ hsp hdn (fun x r e=>by cases e) ho wk0 hdis hm
 | cons e r=>
  simp at hlen
  have hpos:decide ((sl.len:Int)>0)=true:=by simp;omega
  obtain ⟨x,hx,hyx⟩:=hy hpos
  have hex:e=x:=by simpa using hx
  subst hex
  subst hyx
  rw [hpos,Bool.true_and]
  by_cases hd:e.due<=now
  ·rw [if_pos (by simpa using hd)]
   refine zab (zxf h3 (sh:=shSl) sl rfl ?_)
   refine rs.fld (fun _=>rfl) (by omega) (sh:=shInt .i64) (fun x=>x.id_) (j:=1) (fun _=>rfl) (by omega) (by simp<;>omega) fun x' hx'=> ?_
   have:e=x':=by simpa using hx'
   subst this
   have hle:done.length+(r.length+1)=es.length:=by rw [hsp];simp
   refine newF (xs:=[e.id_]) (enc:=eIw) (sz:=1) rfl (fun _=>rfl) fun bv h1 hbv l1 m1 o1=> ?_
   have hGv:∀c∈G,c≠bv:=fun c hc e'=>ho.known c hc (by rw [e'];exact hbv)
   have ho1:OwnF h1 1 eIw out (done.map (·.id_)) G:=ho.mv (Mv.of_le [] l1) (by simp)
   have wk1:Wh h1 ⟨b,0,none⟩ (e::r) (b::m::G1):=by
    refine wk0.same fun c hc=> ?_
    cases hk:k c with
    | none=>exact absurd hk (wk0.known c hc)
    | some o=>exact l1 c o hk
   refine appF ho1 (o1.rw fun _=>rfl) (fun _=>rfl) (fun _=>rfl) rfl (by simp;omega) fun l' h2 G' o2 m2=> ?_
   have wk2:Wh h2 ⟨b,0,none⟩ (e::r) (b::m::G1):=by
    refine wk1.same fun c hc=> ?_
    cases hk:h1 c with
    | none=>exact absurd hk (wk1.known c hc)
    | some o=>exact m2.keep c o hk fun hcG=>hdis c hcG hc
   have hdis2:∀c∈G',c∉b::m::G1:=fun c hc hcF=>by
    rcases m2.from_ c hc with q | q
    ·exact hdis c q hcF
    ·exact wk1.known c hcF q
   refine zct (zjg1 wk2 (by simp;omega) (fun hn=>absurd rfl (hn e (List.mem_cons_self ..))) fun i e2 h3' hi hei m3 w3=> ?_)
   have he2:e2=e:=wk2.ids (List.mem_of_getElem? hi) (List.mem_cons_self ..) hei
   subst he2
   have hi0:i=0:=by
    have hnd:=zzv wk2.sorted
    obtain ⟨hil,hie⟩:=List.getElem?_eq_some_iff.1 hi
    have:=(List.getElem_inj (i:=i) (j:=0) (h₀:=hil) (h₁:=by simp) hnd).1 (by rw [hie];rfl)
    exact this
   subst hi0
   have w3':Wh h3' ⟨b,0,none⟩ r (b::m::G1):=by simpa using w3
   have o3:OwnF h3' 1 eIw l' (done.map (·.id_)++ [e2.id_]) G':=o2.mv m3 hdis2
   refine ⟨⟨done++ [e2],r,G',b::m::G1,by rw [hsp];simp,fun x hx=> ?_,by simpa using o3,w3',hdis2,?_⟩,?_⟩
   ·rcases List.mem_append.1 hx with hx | hx
    ·exact hdn x hx
    ·rw [List.mem_singleton.1 hx];exact hd
   ·have q1:Mv (b::m::G1++G) k (b::m::G1++G) h1:=Mv.of_le _ l1
    have q2:Mv (b::m::G1++G) h1 (b::m::G1++G') h2:=m2.sub (fun c hc=>List.mem_append_right _ hc) fun c hc=>by
     rcases List.mem_append.1 hc with hc | hc
     ·exact .inr (.inl (List.mem_append_left _ hc))
     ·exact .inl hc
    have q3:Mv (b::m::G1++G') h2 (b::m::G1++G') h3':=m3.wide G'
    exact hm.trans (q1.trans (q2.trans q3))
   ·have:=o2.1
    simp at this hol
    omega
  ·rw [if_neg (by simpa using hd)]
   refine hq out k done (e::r) G _ hsp hdn (fun x r' e'=> ?_) ho wk0 hdis hm
   cases e'
   omega
def WhA (p:Addr) (es:List S_wheel_entry):Asn where
 R k F:=∃B,Wh k p es B/\∀b,F b↔b∈B
 same:=fun ⟨B,h,e⟩ hs=>⟨B,h.same fun c hc=>hs c ((e c).2 hc),e⟩
 known:=fun ⟨B,h,e⟩ c hc=>h.known c ((e c).1 hc)
structure WT (es:List S_wheel_entry) (tm:Nat->Int) (n:Nat):Prop where
 low:∀i,0<=tm i
 in_:∀x∈es,0<=x.id_/\x.id_<n/\0<x.due/\tm x.id_.toNat=x.due
 has:∀i:Nat,0<tm i->(⟨tm i,(i:Int)⟩:S_wheel_entry)∈es
def zqr (p:Addr) (tm:Nat->Int) (n:Nat):Asn:=.some_ fun es:List S_wheel_entry=>(WhA p es).star (.fact (WT es tm n))
section
variable {h0 k:Hp} {p:Addr} {es:List S_wheel_entry} {tm:Nat->Int} {n:Nat}
theorem Has.both {A B:Asn} {F1 F2:Nat->Prop} (hl:h0<=k) (a:A.R k F1) (b:B.R k F2) (d:∀c,F1 c->¬F2 c) (f1:∀c,F1 c->h0 c=none) (f2:∀c,F2 c->h0 c=none):Has h0 (A.star B) k:=
 ⟨hl,fun c=>F1 c\/F2 c,⟨F1,F2,fun _=>Iff.rfl,d,a,b⟩,fun c hc=>hc.elim (f1 c) (f2 c)⟩
theorem slR {α:Type} {sz:Nat} {enc:α->List Value} {l:Sl} {xs:List α} {F:List Nat} (o:OwnF k sz enc l xs F):(SlA sz enc l xs).R k fun b=>b∈F:=by
 obtain ⟨h1,h2,h3⟩:=o
 rcases h3 with ⟨e,ec,rfl⟩ | ⟨b,cs,e,rfl,hb,hc,ht⟩
 ·exact ⟨h1,h2,.inl ⟨e,ec,fun _ h=>by cases h⟩⟩
 ·exact ⟨h1,h2,.inr ⟨b,0,cs,e,fun c=>List.mem_singleton,hb,by omega,by simpa using ht⟩⟩
theorem Has.whB (o:Has h0 (WhA p es) k):∃B,Wh k p es B/\∀b∈B,h0 b=none:=by
 obtain ⟨l,F,⟨B,w,e⟩,f⟩:=o
 grind
theorem Has.ofWh {B B':List Nat} {k':Hp} {es':List S_wheel_entry} (hl:h0<=k) (hf:∀b∈B,h0 b=none) (m:Mv B k B' k') (w:Wh k' p es' B'):Has h0 (WhA p es') k':=by
 refine ⟨fun b o e=>m.keep b o (hl b o e) fun hb=> ?_,fun b=>b∈B',⟨B',w,fun b=>Iff.rfl⟩,fun b hb=> ?_⟩
 ·grind
 ·rcases m.from_ b hb with h1 | h1
  ·exact hf b h1
  ·cases e:h0 b with
   | none=>rfl
   | some o=>rw [hl b o e] at h1;cases h1
theorem Has.wheelX (o:Has h0 (zqr p tm n) k):∃es,WT es tm n/\Has h0 (WhA p es) k:=by
 obtain ⟨es,o⟩:=Has.ex.1 o
 obtain ⟨o1,o2⟩:=o.noFact
 grind
theorem Has.ofWheel {k:Hp} (t:WT es tm n) (o:Has h0 (WhA p es) k):Has h0 (zqr p tm n) k:=Has.ex.2 ⟨es,o.withFact t⟩
theorem zjr2 {B:List Nat} (t:WT es tm n) (w:Wh k p es B):es.length<=n:=by
 have h1:(es.map fun x=>x.id_.toNat).Nodup:=by
  have hs:=w.sorted
  have hid:=fun x hx y hy=> @Wh.ids _ _ _ _ w x y hx hy
  clear w
  have hp:=t.in_
  have hnd:es.Pairwise fun a b=>a.id_≠b.id_:=by
   refine hs.imp_of_mem fun {a b} ha hb hlt e=> ?_
   have:=hid a ha b hb e
   subst this
   unfold ltE at hlt
   omega
  refine List.pairwise_map.2 (hnd.imp_of_mem fun {a b} ha hb hne e=>hne ?_)
  have:=hp a ha
  have:=hp b hb
  omega
 have:=zuj n (es.map fun x=>x.id_.toNat) h1 fun x hx=>by
  obtain ⟨y,hy,rfl⟩:=List.mem_map.1 hx
  have:=t.in_ y hy
  omega
 grind
theorem znm2 {n:Nat} {Q:Option Addr->Hp->Prop} (hq:∀p k',k<=k'->Has k (zqr p (fun _=>0) n) k'->Q (some p) k'):zvb Tryz.prog Q k:=by
 refine znh2 fun p F k' l hf w=>hq p k' l (Has.ofWheel (es:=[]) ⟨fun _=>Int.le_refl _,by simp,fun i h=>absurd h (by decide)⟩ ⟨l,fun b=>b∈F,⟨F,w,fun b=>Iff.rfl⟩,hf⟩)
theorem zdg2 {i:Nat} {Q:Int->Bool->Hp->Prop} (o:Has h0 (zqr p tm n) k) (hq:∀b,Q (tm i) b k):zir Tryz.prog (some p) (i:Int) Q k:=by
 obtain ⟨es,t,o⟩:=o.wheelX
 obtain ⟨B,w,hf⟩:=o.whB
 refine zni2 w (fun hn=> ?_) fun e he hid=> ?_
 ·have:tm i=0:=by
   have:=t.low i
   by_cases h:0<tm i
   ·exact absurd rfl (hn _ (t.has i h))
   ·omega
  grind
 ·have:=(t.in_ e he).2.2.2
  grind
theorem zjh1 {i:Nat} {Q:Bool->Hp->Prop} (o:Has h0 (zqr p tm n) k) (hn:n<=1000000) (hq:∀b k',Has h0 (zqr p (fset tm i 0) n) k'->Q b k'):zgd Tryz.prog (some p) (i:Int) Q k:=by
 obtain ⟨es,t,o⟩:=o.wheelX
 obtain ⟨B,w,hf⟩:=o.whB
 have hlen:=zjr2 t w
 refine zjg1 w (by omega) (fun hnone=> ?_) fun j e k' hj hid m w'=> ?_
 ·refine hq false k (Has.ofWheel ?_ o)
  have e0:tm i=0:=by
   have:=t.low i
   by_cases h:0<tm i
   ·exact absurd rfl (hnone _ (t.has i h))
   ·omega
  have:fset tm i 0=tm:=by rw [<-e0];exact zlg
  rw [this];exact t
 ·refine hq true k' (Has.ofWheel ⟨fun a=> ?_,fun x hx=> ?_,fun a ha=> ?_⟩ (Has.ofWh o.le hf m w'))
  ·by_cases h:a=i
   ·subst h;rw [zbx];omega
   ·rw [zbq h];exact t.low a
  ·have hx':x∈es:=by
    grind
   obtain ⟨a1,a2,a3,a4⟩:=t.in_ x hx'
   refine ⟨a1,a2,a3,?_⟩
   have hs:=w.sorted
   have hjl:=(List.getElem?_eq_some_iff.1 hj)
   obtain ⟨hjl,hje⟩:=hjl
   have hne:x.id_≠(i:Int):=by
    intro ex
    have hxe:x=e:=w.ids hx' (List.mem_of_getElem? hj) (by rw [ex,hid])
    subst hxe
    have hsplit:es=es.take j++x::es.drop (j+1):=by
     rw [<-hje,List.getElem_cons_drop,List.take_append_drop]
    rw [hsplit,List.pairwise_append] at hs
    rcases List.mem_append.1 hx with h | h
    ·have:=hs.2.2 x h x (List.mem_cons_self ..)
     unfold ltE at this;omega
    ·have:=(List.pairwise_cons.1 hs.2.1).1 x h
     unfold ltE at this;omega
   rw [zbq (by omega)]
   exact a4
  ·by_cases h:a=i
   ·subst h;rw [zbx] at ha;omega
   ·rw [zbq h] at ha ⊢
    have:=t.has a ha
    obtain ⟨hjl,hje⟩:=List.getElem?_eq_some_iff.1 hj
    have hsplit:es=es.take j++e::es.drop (j+1):=by
     rw [<-hje,List.getElem_cons_drop,List.take_append_drop]
    grind
theorem zun1 {i:Nat} {due:Int} {Q:Int->Hp->Prop} (o:Has h0 (zqr p tm n) k) (hn:n<=1000000) (hi:i<n) (hd:0<due) (hq:∀k',Has h0 (zqr p (fset tm i due) n) k'->Q 0 k'):zis Tryz.prog (some p) (i:Int) due Q k:=by
 obtain ⟨es,t,o⟩:=o.wheelX
 obtain ⟨B,w,hf⟩:=o.whB
 have hlen:=zjr2 t w
 refine znk2 w (by omega) (fun h=>by omega) fun _ _ es' F' k' m w' hx _=> ?_
 refine hq k' (Has.ofWheel ⟨fun a=> ?_,fun x hxm=> ?_,fun a ha=> ?_⟩ (Has.ofWh o.le hf m w'))
 ·by_cases h:a=i
  ·subst h;rw [zbx];omega
  ·rw [zbq h];exact t.low a
 ·rcases (hx x).1 hxm with rfl | ⟨h1,h2⟩
  ·refine ⟨by omega,by grind,hd,?_⟩
   show fset tm i due ((i:Int)).toNat=due
   rw [show ((i:Int)).toNat=i by omega]
   exact zbx
  ·obtain ⟨a1,a2,a3,a4⟩:=t.in_ x h1
   refine ⟨a1,a2,a3,?_⟩
   rw [zbq (by omega)]
   exact a4
 ·refine (hx _).2 ?_
  by_cases h:a=i
  ·subst h;left;rw [zbx]
  ·right;rw [zbq h] at ha ⊢
   exact ⟨t.has a ha,by grind⟩
def popT (tm:Nat->Int) (now:Int):Nat->Int:=fun i=>if 0<tm i/\tm i<=now then 0 else tm i
theorem znn2 {now:Int} {Q:Sl->Hp->Prop} (o:Has h0 (zqr p tm n) k) (hn:n<=1000000)
  (hq:∀s k' (ids:List Int),(∀x∈ids,0<=x/\x<n)->ids.Nodup->(∀i:Nat,(i:Int)∈ids↔0<tm i/\tm i<=now)->Has h0 ((zqr p (popT tm now) n).star (SlA 1 eNum s ids)) k'->Q s k'):zit Tryz.prog (some p) now Q k:=by
 obtain ⟨es,t,o⟩:=o.wheelX
 obtain ⟨B,w,hf⟩:=o.whB
 have hlen:=zjr2 t w
 refine znl2 w (by omega) fun out k' done rest G F' hsp hd hr ho w' hdis m=> ?_
 have hs:=w.sorted
 have hids:=fun x hx y hy=> @Wh.ids _ _ _ _ w x y hx hy
 have hnd:es.Pairwise fun a b=>a.id_≠b.id_:=by
  refine hs.imp_of_mem fun {a b} ha hb hlt e=> ?_
  have:=hids a ha b hb e
  subst this
  unfold ltE at hlt
  omega
 have hrest:∀x∈rest,now<x.due:=by
  cases rest with
  | nil=>simp
  | cons y r=>
   have h1:=hr y r rfl
   intro x hx
   rcases List.mem_cons.1 hx with rfl | hx
   ·exact h1
   ·rw [hsp,List.pairwise_append] at hs
    have:=(List.pairwise_cons.1 hs.2.1).1 x hx
    unfold ltE at this
    omega
 have hdone:∀x∈es,(x∈done↔x.due<=now):=by
  grind
 have hsub:∀x∈done,x∈es:=fun x hx=>by grind
 have hsubr:∀x∈rest,x∈es:=fun x hx=>by grind
 refine hq out k' (done.map (·.id_)) (fun x hx=> ?_) ?_ (fun i=>⟨fun hi=> ?_,fun hi=> ?_⟩) ?_
 ·obtain ⟨y,hy,rfl⟩:=List.mem_map.1 hx
  have:=t.in_ y (hsub y hy)
  omega
 ·grind
 ·obtain ⟨y,hy,e⟩:=List.mem_map.1 hi
  obtain ⟨_,_,a3,a4⟩:=t.in_ y (hsub y hy)
  grind
 ·exact List.mem_map.2 ⟨_,(hdone _ (t.has i hi.1)).2 hi.2,rfl⟩
 ·have hw:Has h0 (WhA p rest) k':=by
   refine Has.ofWh o.le hf ⟨fun b ob e hb=>m.keep b ob e hb,fun b hb=>m.from_ b (List.mem_append_left _ hb)⟩ w'
  have hwt:WT rest (popT tm now) n:=by
   refine ⟨fun a=> ?_,fun x hx=> ?_,fun a ha=> ?_⟩
   ·unfold popT;split
    ·omega
    ·exact t.low a
   ·obtain ⟨a1,a2,a3,a4⟩:=t.in_ x (hsubr x hx)
    refine ⟨a1,a2,a3,?_⟩
    unfold popT
    grind
   ·unfold popT at ha ⊢
    by_cases h:0<tm a/\tm a<=now
    ·omega
    ·rw [if_neg h] at ha ⊢
     have h1:=t.has a ha
     grind
  have hnew:∀b∈F'++G,h0 b=none:=fun b hb=>by
   rcases m.from_ b hb with h1 | h1
   ·exact hf b h1
   ·cases e:h0 b with
    | none=>rfl
    | some x=>rw [o.le b x e] at h1;cases h1
  refine Has.both hw.le (F1:=fun b=>b∈F') (F2:=fun b=>b∈G) ⟨rest,fun b=>b∈F',fun _=>False,fun b=>by simp,fun b _ h=>h,⟨F',w',fun b=>Iff.rfl⟩,hwt,fun _ h=>h⟩ (slR ho) (fun b h1 h2=>hdis b h2 h1) (fun b hb=>hnew b (List.mem_append_left _ hb)) fun b hb=>hnew b (List.mem_append_right _ hb)
end
abbrev f64 :FloatKind:=.f64
def quotP (b c:Int):Int:=if c=0 then 0 else if c= -1 then IntKind.wrap .i64 ((0:Int)-b) else IntKind.wrap .i64 (Int.tdiv b c)
def oneP (b:Bool):Int:=if b then 1 else 0
def aluP (op b c:Int):Int:=
 if op=3 then IntKind.wrap .i64 (b+c)
 else if op=4 then IntKind.wrap .i64 (b-c)
 else if op=5 then IntKind.wrap .i64 (b*c)
 else if op=6 then quotP b c
 else if op=7 then IntKind.wrap .i64 (b-IntKind.wrap .i64 (quotP b c*c))
 else if op=8 then bitsI .and .i64 b c
 else if op=9 then bitsI .or .i64 b c
 else if op=10 then bitsI .xor .i64 b c
 else if op=11 then (if c<0 then b else shlI .i64 b (IntKind.wrap .u64 c))
 else if op=12 then (if c<0 then b else shrI .i64 b (IntKind.wrap .u64 c))
 else if op=13 then oneP (decide (b<c))
 else if op=14 then oneP (decide (b=c))
 else 0
def nanP :Int:=9221120237041090560
def isNaN (f:Nat):Bool:=f64.format.order f f !=some .eq
def bitsP (f:Nat):Int:=if isNaN f then nanP else IntKind.wrap .i64 (f:Int)
def resP :Option Nat->Int
 | some r=>bitsP r
 | none=>nanP
def zox (b:Int):Nat:=(IntKind.wrap .u64 b).toNat
def zjs2 (f:Nat):Int:=
 if isNaN f then 0
 else if f64.format.order f 4890909195324358656=some .gt\/f64.format.order f 4890909195324358656=some .eq then 9223372036854775807
 else if f64.format.order f 14114281232179134464=some .lt then -9223372036854775808
 else ((f64.decode f).toInt .zero).getD 0
def fltP (op b c:Int):Int:=
 if op=15 then resP (f64.format.add (zox b) (zox c))
 else if op=16 then resP (f64.format.sub (zox b) (zox c))
 else if op=17 then resP (f64.format.mul (zox b) (zox c))
 else if op=18 then resP (f64.format.div (zox b) (zox c))
 else if op=19 then oneP (f64.format.order (zox b) (zox c)==some .lt)
 else if op=20 then bitsP (f64.nearest b)
 else if op=21 then zjs2 (zox b)
 else 0
def cpuD (op b c:Int):Int:=if 3<=op/\op<=14 then aluP op b c else fltP op b c
section
variable {P:Program} {h:Hp}
theorem zoe1 {b c:Int} {Q:Int->Hp->Prop} (hq:Q (quotP b c) h):zrx Tryz.prog b c Q h:=by
 unfold zrx
 unfold quotP at hq
 by_cases h0:c=0
 ·rw [if_pos (by simp [h0])];rw [if_pos h0] at hq;exact hq
 ·rw [if_neg (by simp [h0])]
  rw [if_neg h0] at hq
  by_cases h1:c= -1
  ·rw [if_pos (by simp [h1])];rw [if_pos h1] at hq;exact hq
  ·rw [if_neg (by simp [h1])];rw [if_neg h1] at hq;exact ⟨h0,hq⟩
theorem zjy1 (c:Int):(0:Int)<=IntKind.wrap .u64 c:=by
 unfold IntKind.wrap
 simp only [IntKind.signed,IntKind.bits]
 simp
 omega
theorem zpm2 {b:Bool} {Q:Int->Hp->Prop} (hq:Q (oneP b) h):zmu1 Tryz.prog b Q h:=by
 unfold zmu1
 unfold oneP at hq
 cases b<;>simpa using hq
theorem zno2 {op b c:Int} {Q:Int->Int->Hp->Prop} (h1:3<=op/\op<=14->Q (aluP op b c) 0 h) (h2:¬(3<=op/\op<=14)->Q 0 9 h):zsu1 Tryz.prog op b c Q h:=by
 have case:∀n:Int,(op==n)=decide (op=n):=fun n=>by by_cases e:op=n<;>simp [e]
 unfold zsu1
 unfold aluP at h1
 simp only [case]
 by_cases h3:op=3
 ·subst h3;simpa using h1
 by_cases h4:op=4
 ·subst h4;simpa using h1
 by_cases h5:op=5
 ·subst h5;simpa using h1
 by_cases h6:op=6
 ·subst h6;simp only [decide_true,if_true];simp at h1 ⊢;exact ztz (zoe1 h1)
 by_cases h7:op=7
 ·subst h7;simp at h1 ⊢;exact ztz (zoe1 h1)
 by_cases h8:op=8
 ·subst h8;simpa using h1
 by_cases h9:op=9
 ·subst h9;simpa using h1
 by_cases h10:op=10
 ·subst h10;simpa using h1
 by_cases h11:op=11
 ·subst h11
  simp at h1 ⊢
  refine zuc1 ?_
  unfold zre1
  by_cases hc:c<0
  ·rw [if_pos (by simpa using hc)];rw [if_pos hc] at h1;exact h1
  ·rw [if_neg (by simpa using hc)];rw [if_neg hc] at h1;exact ⟨zjy1 c,h1⟩
 by_cases h12:op=12
 ·subst h12
  simp at h1 ⊢
  refine zqd1 ?_
  unfold zmt1
  by_cases hc:c<0
  ·rw [if_pos (by simpa using hc)];rw [if_pos hc] at h1;exact h1
  ·rw [if_neg (by simpa using hc)];rw [if_neg hc] at h1;exact ⟨zjy1 c,h1⟩
 by_cases h13:op=13
 ·subst h13;simp at h1 ⊢;exact zju1 (zpm2 h1)
 by_cases h14:op=14
 ·subst h14
  have e:(b==c)=decide (b=c):=by by_cases e:b=c<;>simp [e]
  simp at h1 ⊢
  rw [e]
  exact zju1 (zpm2 h1)
 simp only [h3,h4,h5,h6,h7,h8,h9,h10,h11,h12,h13,h14,decide_false,if_false,Bool.false_eq_true]
 exact h2 (by omega)
theorem zqs2 (x y t:Nat):isNaN ((Question.nanBits .f64 x y).cut t)=true:=by
 have key:∀s z:Nat,s<2->z<2^52-1->isNaN (s*2^63+0x7ff0000000000000+1+z)=true:=by
  intro s z hs hz
  have e1:(s*2^63+0x7ff0000000000000+1+z)%Ieee.double.signWeight=0x7ff0000000000000+1+z:=by
   show (s*2^63+0x7ff0000000000000+1+z)%9223372036854775808=_
   omega
  have e2:Ieee.double.read (s*2^63+0x7ff0000000000000+1+z)=.nan ((s*2^63+0x7ff0000000000000+1+z) / Ieee.double.signWeight%2==1) (1+z):=by
   unfold Ieee.Format.read
   rw [e1]
   have b1:Ieee.double.binade=4503599627370496:=rfl
   have b2:Ieee.double.infRung=9218868437227405312:=rfl
   dsimp only
   rw [b1,b2,if_neg (by omega),if_neg (by omega),if_neg (by omega),show 0x7ff0000000000000+1+z-9218868437227405312=1+z by omega]
  unfold isNaN
  show ((Ieee.double.read _).order (Ieee.double.read _) !=some .eq)=true
  rw [e2]
  rfl
 have:=key (t%2) ((t / 2)%(2^52-1)) (by omega) (Nat.mod_lt _ (by decide))
 exact this
end
section
variable {P:Program} {h:Hp}
theorem zqt2 {P:Program} {s:Sem Value} {sh:Shape} {K:sh.T->Hp->Prop} {h:Hp} (hs:semW P s (fun v h'=>∃x,v=sh.enc x/\K x h') h):SemE P s sh K h:=hs
theorem zat1 {op : BinOp} {t : Nat} {x y : Operand} {a b : Nat} {r : Option Nat} {K : Nat -> Hp -> Prop} (he : binS op t x y (.float .f64 a) (.float .f64 b) = (match r with
      | some r=>Sem.pure (Value.float .f64 r)
      | none=>Sem.bind (choose (.nanBits .f64 a b)) fun n=>Sem.pure (Value.float .f64 n)))
  (hk:∀f,(∀v,r=some v->f=v)->(r=none->isNaN f=true)->K f h):SemE P (binS op t x y (.float .f64 a) (.float .f64 b)) (shFlt .f64) K h:=by
 refine zqt2 ?_
 rw [he]
 cases r with
 | some r=>exact ⟨r,rfl,hk r (fun v e=>(Option.some.inj e)) fun e=>by cases e⟩
 | none=>
  intro n
  exact ⟨_,rfl,hk _ (fun v e=>by cases e) fun _=>zqs2 a b n⟩
theorem zqu2 {t : Nat} {x y : Operand} {a b : Nat} : binS .add t x y (.float .f64 a) (.float .f64 b) = (match f64.format.add a b with
      | some r=>Sem.pure (Value.float .f64 r)
      | none=>Sem.bind (choose (.nanBits .f64 a b)) fun n=>Sem.pure (Value.float .f64 n)):=by
 cases e:f64.format.add a b<;>(show Op.floatArith .add .f64 a b=_;unfold Op.floatArith;simp only [pure,bind,Sem.bind,e])
theorem zqv2 {t : Nat} {x y : Operand} {a b : Nat} : binS .sub t x y (.float .f64 a) (.float .f64 b) = (match f64.format.sub a b with
      | some r=>Sem.pure (Value.float .f64 r)
      | none=>Sem.bind (choose (.nanBits .f64 a b)) fun n=>Sem.pure (Value.float .f64 n)):=by
 cases e:f64.format.sub a b<;>(show Op.floatArith .sub .f64 a b=_;unfold Op.floatArith;simp only [pure,bind,Sem.bind,e])
theorem zqw2 {t : Nat} {x y : Operand} {a b : Nat} : binS .mul t x y (.float .f64 a) (.float .f64 b) = (match f64.format.mul a b with
      | some r=>Sem.pure (Value.float .f64 r)
      | none=>Sem.bind (choose (.nanBits .f64 a b)) fun n=>Sem.pure (Value.float .f64 n)):=by
 cases e:f64.format.mul a b<;>(show Op.floatArith .mul .f64 a b=_;unfold Op.floatArith;simp only [pure,bind,Sem.bind,e])
theorem zqx2 {t : Nat} {x y : Operand} {a b : Nat} : binS .quo t x y (.float .f64 a) (.float .f64 b) = (match f64.format.div a b with
      | some r=>Sem.pure (Value.float .f64 r)
      | none=>Sem.bind (choose (.nanBits .f64 a b)) fun n=>Sem.pure (Value.float .f64 n)):=by
 cases e:f64.format.div a b<;>(show Op.floatArith .quo .f64 a b=_;unfold Op.floatArith;simp only [pure,bind,Sem.bind,e])
theorem zzw {s:Sem Value} {sh:Shape} {v:sh.T} {K:sh.T->Prop} (he:s=Sem.pure (sh.enc v)) (hk:K v):SemV none P s sh h K:=by
 refine ⟨v,zfa1 ?_,hk⟩
 rw [he]
 exact ⟨rfl,rfl⟩
theorem zdh2 {b:Int} {Q:Nat->Hp->Prop} (hq:Q (zox b) h):zdh1 Tryz.prog b Q h:=by
 unfold zdh1
 exact ⟨_,rfl,hq⟩
theorem zof1 {f:Nat} {Q:Int->Hp->Prop} (hq:Q (bitsP f) h):zhr1 Tryz.prog f Q h:=by
 unfold zhr1
 refine zzw (sh:=zae) (v:=isNaN f) rfl ?_
 unfold bitsP at hq
 by_cases e:isNaN f=true
 ·rw [if_pos e];rw [if_pos e] at hq;exact hq
 ·rw [if_neg e];rw [if_neg e] at hq
  exact ⟨(f:Int),rfl,hq⟩
theorem znp2 {s:Bool} {n d:Nat}:Ieee.Toward.zero.cut s n d*2^d<=n:=by
 unfold Ieee.Toward.cut
 simp only [Bool.toNat_false,Nat.add_zero,Nat.shiftLeft_eq,Nat.one_mul]
 by_cases hd:d<=n.log2+2
 ·rw [Nat.min_eq_left hd]
  exact Nat.div_mul_le_self n (2^d)
 ·rw [Nat.min_eq_right (by omega)]
  have:n<2^(n.log2+2):=by
   by_cases h0:n=0
   ·grind
   ·have:=Nat.lt_log2_self (n:=n)
    grind
  rw [Nat.div_eq_of_lt this,Nat.zero_mul]
  omega
theorem zog1 (m i:Nat):m<<<i=m*2^i:=Nat.shiftLeft_eq m i
theorem znq2 {s:Bool} {m:Nat} {i:Int} (h1:Ieee.Datum.order (.number s m i) (.number false 4503599627370496 11)=some .lt) (h2:Ieee.Datum.order (.number s m i) (.number true 4503599627370496 11)≠some .lt):
  ∃n,(Ieee.Datum.number s m i).toInt .zero=some n/\ -9223372036854775808<=n/\n<=9223372036854775807:=by
 refine ⟨_,rfl,?_⟩
 have h1:compare (Ieee.signed s m (i-min i 11).toNat) (Ieee.signed false 4503599627370496 (11-min i 11).toNat)=.lt:=Option.some.inj h1
 have h2:compare (Ieee.signed s m (i-min i 11).toNat) (Ieee.signed true 4503599627370496 (11-min i 11).toNat)≠ .lt:=fun e=>h2 (congrArg some e)
 rw [Int.compare_eq_lt] at h1
 rw [ne_eq,Int.compare_eq_lt] at h2
 have hc:=znp2 (s:=s) (n:=m<<<i.toNat) (d:=(-i).toNat)
 generalize hw:Ieee.Toward.zero.cut s (m<<<i.toNat) (-i).toNat=w at hc
 have e0:Ieee.signed s w 0=if s then -(w:Int) else (w:Int):=by unfold Ieee.signed;simp
 show -9223372036854775808<=Ieee.signed s w 0/\Ieee.signed s w 0<=9223372036854775807
 rw [e0]
 have key:∃C B:Nat,0<C/\0<B/\w*B<=(m<<<(i-min i 11).toNat)*C/\(4503599627370496<<<(11-min i 11).toNat)*C=9223372036854775808*B:=by
  by_cases hi:i<=11
  ·have e1:min i 11=i:=by omega
   rw [e1,Int.sub_self]
   by_cases h0:0<=i
   ·refine ⟨2^i.toNat,1,Nat.two_pow_pos _,by decide,?_,?_⟩
    ·have e2:(-i).toNat=0:=by omega
     rw [e2,Nat.pow_zero,zog1] at hc
     grind
    ·rw [zog1,Nat.mul_assoc,<-Nat.pow_add,show (11-i).toNat+i.toNat=11 by omega]
   ·refine ⟨1,2^(-i).toNat,by decide,Nat.two_pow_pos _,?_,?_⟩
    ·grind
    ·rw [zog1,Nat.mul_one,show (11-i).toNat=11+(-i).toNat by omega,Nat.pow_add,<-Nat.mul_assoc]
  ·have e1:min i 11=11:=by omega
   rw [e1]
   refine ⟨2^11,1,by decide,by decide,?_,by decide⟩
   have e2:(-i).toNat=0:=by omega
   rw [e2,Nat.pow_zero,zog1] at hc
   rw [zog1,Nat.mul_assoc,<-Nat.pow_add,show (i-11).toNat+11=i.toNat by omega]
   exact hc
 obtain ⟨C,B,hC,hB,hwB,hM⟩:=key
 generalize hm':m<<<(i-min i 11).toNat=m' at*
 generalize hn':4503599627370496<<<(11-min i 11).toNat=n' at*
 have s1:Ieee.signed s m (i-min i 11).toNat=if s then -(m':Int) else (m':Int):=by unfold Ieee.signed;rw [hm']
 have s2:Ieee.signed false 4503599627370496 (11-min i 11).toNat=(n':Int):=by unfold Ieee.signed;rw [hn'];rfl
 have s3:Ieee.signed true 4503599627370496 (11-min i 11).toNat= -(n':Int):=by unfold Ieee.signed;rw [hn'];rfl
 rw [s1,s2] at h1
 rw [s1,s3] at h2
 cases s with
 | false=>
  simp only [Bool.false_eq_true,if_false] at h1 ⊢
  have h1:m'<n':=by omega
  have:m'*C<n'*C:=Nat.mul_lt_mul_of_pos_right h1 hC
  have:w*B<9223372036854775808*B:=by omega
  have:=Nat.lt_of_mul_lt_mul_right this
  omega
 | true=>
  simp only [if_true] at h2 ⊢
  have h2:m'<=n':=by omega
  have:m'*C<=n'*C:=Nat.mul_le_mul_right C h2
  have:w*B<=9223372036854775808*B:=by omega
  have:=Nat.le_of_mul_le_mul_right this hB
  omega
theorem zqy2 {b:Nat} {n:Int} (h0:(f64.decode b).toInt .zero=some n) (h1:IntKind.min .i64<=n/\n<=IntKind.max .i64):SemIs Tryz.prog (convert 314 2 (.float .f64 b)) h (.int .i64 n):=by
 refine zys fun w=> ?_
 have u1:=run_underlying' (e:=ty314) tb_ok (t:=314) rfl w
 have u2:=run_underlying' (e:=ty2) tb_ok (t:=2) rfl w
 simp only [convert,Sem.run_bind,u1,u2,Result.andThen_ok]
 show (Conv.floatToInt .f64 b .i64).run Tryz.prog w=_
 unfold Conv.floatToInt
 rw [h0]
 dsimp only
 rw [if_pos h1]
 rfl
theorem zqz2 {b:Int}:SemIs Tryz.prog (convert 2 314 (.int .i64 b)) h (.float .f64 (f64.nearest b)):=by
 refine zys fun w=> ?_
 have u1:=run_underlying' (e:=ty314) tb_ok (t:=314) rfl w
 have u2:=run_underlying' (e:=ty2) tb_ok (t:=2) rfl w
 simp only [convert,Sem.run_bind,u1,u2,Result.andThen_ok]
 rfl
theorem zra2 :f64.format.read 4890909195324358656=.number false 4503599627370496 11:=by decide
theorem zrb2 :f64.format.read 14114281232179134464=.number true 4503599627370496 11:=by decide
theorem zgc2 {f:Nat} (hn:isNaN f=false) (h1:¬(f64.format.order f 4890909195324358656=some .gt\/f64.format.order f 4890909195324358656=some .eq)) (h2:f64.format.order f 14114281232179134464≠some .lt):
  ∃n,(f64.decode f).toInt .zero=some n/\IntKind.min .i64<=n/\n<=IntKind.max .i64:=by
 have o1:f64.format.order f 4890909195324358656=(f64.format.read f).order (.number false 4503599627370496 11):=by
  show (f64.format.read f).order (f64.format.read _)=_
  rw [zra2]
 have o2:f64.format.order f 14114281232179134464=(f64.format.read f).order (.number true 4503599627370496 11):=by
  show (f64.format.read f).order (f64.format.read _)=_
  rw [zrb2]
 rw [o1] at h1
 rw [o2] at h2
 unfold isNaN at hn
 have hn:(((f64.format.read f).order (f64.format.read f)) !=some .eq)=false:=hn
 show ∃n,(f64.format.read f).toInt .zero=some n/\_
 generalize f64.format.read f=d at*
 cases d with
 | nan a b=>simp [Ieee.Datum.order] at hn
 | infinity a=>cases a<;>simp [Ieee.Datum.order] at h1 h2
 | number a m i=>
  refine znq2 ?_ h2
  have h1:¬(some (compare _ _)=_\/some (compare _ _)=_):=h1
  show some (compare _ _)=some .lt
  generalize compare (Ieee.signed a m (i-min i 11).toNat) (Ieee.signed false 4503599627370496 (11-min i 11).toNat)=c at*
  cases c<;>simp at h1 ⊢
theorem zjt2 {f:Nat} {Q:Int->Hp->Prop} (hq:Q (zjs2 f) h):zdi1 Tryz.prog f Q h:=by
 unfold zdi1
 refine zzw (sh:=zae) (v:=isNaN f) rfl ?_
 unfold zjs2 at hq
 by_cases e:isNaN f=true
 ·rw [if_pos e];rw [if_pos e] at hq;exact hq
 rw [if_neg e];rw [if_neg e] at hq
 refine zzw (sh:=zae) (v:=f64.format.order f 4890909195324358656==some .gt || f64.format.order f 4890909195324358656==some .eq) rfl ?_
 by_cases e1:f64.format.order f 4890909195324358656=some .gt\/f64.format.order f 4890909195324358656=some .eq
 ·grind
 rw [if_neg (by simpa using e1)];rw [if_neg e1] at hq
 refine zzw (sh:=zae) (v:=f64.format.order f 14114281232179134464==some .lt) rfl ?_
 by_cases e2:f64.format.order f 14114281232179134464=some .lt
 ·grind
 rw [if_neg (by simpa using e2)];rw [if_neg e2] at hq
 obtain ⟨n,e3,e4⟩:=zgc2 (by simpa using e) e1 e2
 rw [e3] at hq
 exact ⟨n,zqy2 e3 e4,hq⟩
theorem zdi2 {o:Option Nat} {f:Nat} (h1:∀v,o=some v->f=v) (h2:o=none->isNaN f=true):bitsP f=resP o:=by
 cases o with
 | some v=>rw [h1 v rfl];rfl
 | none=>unfold bitsP;rw [if_pos (h2 rfl)];rfl
theorem znr2 {op b c:Int} {Q:Int->Int->Hp->Prop} (h1:15<=op/\op<=21->Q (fltP op b c) 0 h) (h2:¬(15<=op/\op<=21)->Q 0 9 h):zsv1 Tryz.prog op b c Q h:=by
 have case:∀n:Int,(op==n)=decide (op=n):=fun n=>by by_cases e:op=n<;>simp [e]
 unfold zsv1
 refine zcl1 (zdh2 ?_)
 refine zcl1 (zdh2 ?_)
 unfold fltP at h1
 simp only [case]
 by_cases h3:op=15
 ·subst h3
  refine zat1 zqu2 fun f e1 e2=>zmd (zof1 ?_)
  rw [zdi2 e1 e2];simpa using h1
 by_cases h4:op=16
 ·subst h4
  refine zat1 zqv2 fun f e1 e2=>zmd (zof1 ?_)
  rw [zdi2 e1 e2];simpa using h1
 by_cases h5:op=17
 ·subst h5
  refine zat1 zqw2 fun f e1 e2=>zmd (zof1 ?_)
  rw [zdi2 e1 e2];simpa using h1
 by_cases h6:op=18
 ·subst h6
  refine zat1 zqx2 fun f e1 e2=>zmd (zof1 ?_)
  rw [zdi2 e1 e2];simpa using h1
 by_cases h7:op=19
 ·subst h7
  refine zzw (sh:=zae) (v:=f64.format.order (zox b) (zox c)==some .lt) rfl ?_
  simp [oneP] at h1 ⊢
  by_cases e:f64.format.order (zox b) (zox c)=some .lt
  ·rw [if_pos e];rw [if_pos e] at h1;exact h1
  ·rw [if_neg e];rw [if_neg e] at h1;exact h1
 by_cases h8:op=20
 ·subst h8
  refine ⟨f64.nearest b,zqz2,zmd (zof1 ?_)⟩
  simpa using h1
 by_cases h9:op=21
 ·subst h9
  refine zqe1 (zjt2 ?_)
  simpa using h1
 grind
end
section
variable (c:PCfg) (fl:Nat->Nat->Bool)
def insX (p:Nat) (x:PProcess):Option PIns:=insL (zcj c p) x.pc
def LogM (T:Int) (i:Nat) (l:List zfc1):Prop:=
 l.Pairwise (fun a b=>a.tick<=b.tick)/\∀e∈l,0<=e.tick/\e.tick<T/\0<=e.proc/\e.proc.toNat<nQ c/\pOf c e.proc.toNat=i
structure PartM (T:Int) (i:Nat) (x:PPart):Prop where
 cur:0<=x.cursor/\(0<x.cursor->x.cursor<(ofI c i).length)
 logl:(x.log.length:Int)<=c.log
 log:LogM c T i x.log
 lost:Cnt x.lost
 forb:Cnt x.forbidden
 full:0<x.lost->c.log<=x.log.length
 ownl:(x.owners.length:Int)=c.locks
 quel:(x.queues.length:Int)=c.locks
structure ProcM (t:Int) (p:Nat) (z:Prop) (x:PProcess):Prop where
 st:0<=x.state/\x.state<=6
 pc:0<=x.pc/\x.pc<=(zcj c p).length
 lnl:x.lanes.length=nP c+1
 cur:0<=x.cursor/\x.cursor<x.lanes.length
 tim:0<=x.timer/\x.timer<=t+1099511627776
 wak:0<=x.wake/\x.wake<=t+1099511627776
 slp:z\/(0<x.wake↔x.state=4)
 dead:x.state=5\/x.state=6->(z\/x.timer=0)/\x.fired=false
 lan:∀(i:Nat) l,x.lanes[i]? =some l->(l.values.length:Int)<=c.lane/\Cnt l.taken/\Cnt l.dropped/\(Used l->i<nP c->fl i (pOf c p)=true)
 recv:x.state=1->(∃n,insX c p x=some n/\n.op=25)/\(∀l∈x.lanes,l.values=[])/\x.fired=false
 snd:x.state=2->∃n,insX c p x=some n/\n.op=24
 lck:x.state=3->∃n,insX c p x=some n/\n.op=29
 slpi:x.state=4->∃n,insX c p x=some n/\n.op=28
 regs:x.regs.length=8
variable (s:MS) (X Z:Nat->Prop)
def QueM (i k:Nat) (z:Int):Prop:=
 0<=z/\z.toNat<nQ c/\pOf c z.toNat=i/\¬X z.toNat/\(Z z.toNat\/((s.proc z.toNat).state=3/\∃n,insX c z.toNat (s.proc z.toNat)=some n/\n.op=29/\n.imm=(k:Int)))
def LanM (i r:Nat) (w:zdi):Prop:=
 0<=w.proc/\w.proc.toNat<nQ c/\pOf c w.proc.toNat=i/\¬X w.proc.toNat/\
  (Z w.proc.toNat\/((s.proc w.proc.toNat).state=2/\∃n,insX c w.proc.toNat (s.proc w.proc.toNat)=some n/\n.op=24/\regR (s.proc w.proc.toNat).regs n.b=(r:Int)/\regR (s.proc w.proc.toNat).regs n.c=w.value))
structure Good (T:Int):Prop where
 tick:0<=s.tick
 part:∀i,i<nP c->PartM c T i (s.part i)
 proc:∀p,p<nQ c->ProcM c fl s.tick p (Z p) (s.proc p)
 own:∀i,i<nP c->∀(k:Nat) o,(s.part i).owners[k]? =some o->o= -1\/(0<=o/\o.toNat<nQ c/\pOf c o.toNat=i/\(zcv (s.proc o.toNat)=true\/Z o.toNat))
 que:∀i,i<nP c->∀(k:Nat) q,(s.part i).queues[k]? =some q->q.Nodup/\(∀z∈q,QueM c s X Z i k z)/\(q≠ []->∃o,(s.part i).owners[k]? =some o/\o≠ -1/\o∉q)
 lan:∀r,r<nQ c->∀(i:Nat) l,(s.proc r).lanes[i]? =some l->(l.waiters.map (·.proc)).Nodup/\(l.waiters≠ []->i=pOf c r/\(zcv (s.proc r)=true\/Z r)/\(l.values.length:Int)=c.lane)/\∀w∈l.waiters,LanM c s X Z i r w
 in3:∀p,p<nQ c->¬X p->(s.proc p).state=3->∃(k:Nat) (q:List Int),(s.part (pOf c p)).queues[k]? =some q/\(p:Int)∈q
 in2:∀p,p<nQ c->¬X p->(s.proc p).state=2->∃r,r<nQ c/\∃l,(s.proc r).lanes[pOf c p]? =some l/\∃w∈l.waiters,w.proc=(p:Int)
end
structure CfgM (c:PCfg):Prop where
 parts:1<=nP c/\nP c<=8
 table:c.table≠ []/\c.table.length<=64/\∀i∈c.table,0<=i/\i<(nP c:Int)
 fuel:1<=c.fuel/\c.fuel<=256
 lane:1<=c.lane/\c.lane<=64
 locks:0<=c.locks/\c.locks<=8
 log:0<=c.log/\c.log<=4096
 procs:1<=nQ c/\nQ c<=32
 part:∀y∈c.procs,0<=y.part/\y.part<(nP c:Int)
 code:∀y∈c.procs,y.code.length<=256/\∀x∈y.code,(zcg x y.code.length c.locks).1=0
section
variable {c:PCfg} {fl:Nat->Nat->Bool} {s:MS} {X Z:Nat->Prop} {T:Int}
theorem CfgM.pOf_lt (m:CfgM c) {p:Nat}:pOf c p<nP c:=by
 unfold pOf
 cases h:c.procs[p]? with
 | none=>simp;have:=m.parts;omega
 | some y=>
  have:=m.part y (List.mem_of_getElem? h)
  simp
  omega
theorem CfgM.code_len (m:CfgM c) {p:Nat}:(zcj c p).length<=256:=by
 unfold zcj
 cases h:c.procs[p]? with
 | none=>simp
 | some y=>exact (m.code y (List.mem_of_getElem? h)).1
theorem CfgM.ins (m:CfgM c) {p:Nat} {x:PProcess} {n:PIns} (h:insX c p x=some n):(zcg n (zcj c p).length c.locks).1=0/\0<=x.pc/\x.pc<(zcj c p).length:=by
 unfold insX insL at h
 split at h
 ·rename_i h0
  have h1:=List.mem_of_getElem? h
  have h2:=(List.getElem?_eq_some_iff.1 h).1
  refine ⟨?_,h0,by omega⟩
  unfold zcj at h1 ⊢
  cases e:c.procs[p]? with
  | none=>grind
  | some y=>
   rw [e] at h1
   exact (m.code y (List.mem_of_getElem? e)).2 n h1
 ·cases h
theorem livesB_iff {x:PProcess}:zcv x=true↔x.state≠5/\x.state≠6:=by unfold zcv;simp
theorem zrc2 {p:Prop} [Decidable p] {e:Int} {i:Int} {r:Int×Int} (he:e≠0) (h:(if p then (e,i) else r).1=0):¬p/\r.1=0:=by
 grind
theorem zrd2 {has:Bool} {v:Int} {i:Int} {r:Int×Int} (h:(if regP has v≠0 then (regP has v,i) else r).1=0):regP has v=0/\r.1=0:=by
 grind
theorem zan2 {v:Int} (h:regP true v=0):0<=v/\v<8:=by
 unfold regP at h
 omega
theorem zgh1 {n:PIns} {k l:Int} (h:(zcg n k l).1=0):(0<=n.op/\n.op<34)/\regP (zat n.op).1 n.a=0/\regP (zat n.op).2.1 n.b=0/\regP (zat n.op).2.2.1 n.c=0/\
  ((n.op=22\/n.op=23)->0<=n.imm/\n.imm<=k)/\((n.op=29\/n.op=30)->0<=n.imm/\n.imm<l):=by
 unfold zcg at h
 obtain ⟨h1,h⟩:=zrc2 (by decide) h
 obtain ⟨h2,h⟩:=zrd2 h
 grind
theorem zau1 {n:PIns} {k l:Int} (h:(zcg n k l).1=0) (ho:n.op=29\/n.op=30):0<=n.imm/\n.imm<l:=(zgh1 h).2.2.2.2.2 ho
theorem zgd2 {n:PIns} {k l:Int} (h:(zcg n k l).1=0) (ho:n.op=24):(0<=n.a/\n.a<8)/\(0<=n.b/\n.b<8)/\(0<=n.c/\n.c<8):=by
 obtain ⟨_,h1,h2,h3,_⟩:=zgh1 h
 rw [ho] at h1 h2 h3
 exact ⟨zan2 h1,zan2 h2,zan2 h3⟩
end
def regsC (c:S_cpu_Core):List Int:=[c.Regs_0,c.Regs_1,c.Regs_2,c.Regs_3,c.Regs_4,c.Regs_5,c.Regs_6,c.Regs_7]
def zaz (c:S_cpu_Core):Core:=⟨c.PC,regsC c⟩
def zoh1 (w:S_cpu_Want):Want:=⟨w.Kind,w.To,w.Value_⟩
def rowOf (c:S_cpu_Core):S_n8_int64:=⟨c.Regs_0,c.Regs_1,c.Regs_2,c.Regs_3,c.Regs_4,c.Regs_5,c.Regs_6,c.Regs_7⟩
def setR (c:S_cpu_Core):Nat->Int->S_cpu_Core
 | 0,v=>{c with Regs_0:=v}
 | 1,v=>{c with Regs_1:=v}
 | 2,v=>{c with Regs_2:=v}
 | 3,v=>{c with Regs_3:=v}
 | 4,v=>{c with Regs_4:=v}
 | 5,v=>{c with Regs_5:=v}
 | 6,v=>{c with Regs_6:=v}
 | 7,v=>{c with Regs_7:=v}
 | _,_=>c
section
variable {h0 k:Hp} {p:Addr} {c:S_cpu_Core}
theorem zju2 {n:Nat} {v:Int} (hn:n<8):zaz (setR c n v)=⟨c.PC,(regsC c).set n v⟩:=by
 match n,hn with
 | 0,_=>rfl
 | 1,_=>rfl
 | 2,_=>rfl
 | 3,_=>rfl
 | 4,_=>rfl
 | 5,_=>rfl
 | 6,_=>rfl
 | 7,_=>rfl
theorem zzx {i:Int} {K:Int->Prop} (h:0<=i/\i<8) (hk:K (regR (regsC c) i)):
  ((0:Int)<=i/\i<(8:Int))/\∃x:Int,((List.get?Internal [(.int .i64 (rowOf c).a0),(.int .i64 (rowOf c).a1),(.int .i64 (rowOf c).a2),(.int .i64 (rowOf c).a3),(.int .i64 (rowOf c).a4),(.int .i64 (rowOf c).a5),(.int .i64 (rowOf c).a6),(.int .i64 (rowOf c).a7)] (0+((Int.toNat i)*1)))=(some (Value.int .i64 x))/\K x):=by
 refine ⟨h,_,?_,hk⟩
 unfold regR
 have:i.toNat<8:=by omega
 generalize i.toNat=n at*
 match n,this with
 | 0,_=>rfl
 | 1,_=>rfl
 | 2,_=>rfl
 | 3,_=>rfl
 | 4,_=>rfl
 | 5,_=>rfl
 | 6,_=>rfl
 | 7,_=>rfl
theorem zzy {reg v:Int} {Q:Hp->Prop} (o:Has h0 (RecA zad p c) k) (hq:∀c' k',Has h0 (RecA zad p c') k'->zaz c'=⟨c.PC,putR (regsC c) reg v⟩->Q k'):zrw Tryz.prog (some p) reg v Q k:=by
 unfold zrw
 refine letW ?_
 by_cases h:0<=reg/\reg<8
 ·rw [if_pos (by simp [h.1,h.2])]
  refine zab ⟨h,?_⟩
  rw [zmr,Nat.mul_one]
  have hn:reg.toNat<8:=by omega
  refine o.st (setR c reg.toNat v) (by show 1+reg.toNat+1<=9;omega) ?_ fun k' o'=>hq _ k' o' ?_
  ·generalize reg.toNat=n at hn
   match n,hn with
   | 0,_=>rfl
   | 1,_=>rfl
   | 2,_=>rfl
   | 3,_=>rfl
   | 4,_=>rfl
   | 5,_=>rfl
   | 6,_=>rfl
   | 7,_=>rfl
  ·rw [zju2 hn];unfold putR;rw [if_pos h]
 ·rw [if_neg (by simp;omega)]
  refine hq c k o ?_
  unfold putR;rw [if_neg h];rfl
theorem zao2 {K:Addr->Hp->Prop} (hk:∀p k',k<=k'->Has k (RecA zad p c) k'->K p k'):NewW [(.int .i64 c.PC),(.int .i64 c.Regs_0),(.int .i64 c.Regs_1),(.int .i64 c.Regs_2),(.int .i64 c.Regs_3),(.int .i64 c.Regs_4),(.int .i64 c.Regs_5),(.int .i64 c.Regs_6),(.int .i64 c.Regs_7)] K k:=zjr1 (sh:=zad) c rfl hk
theorem zwu {Q:S_cpu_Core->Hp->Prop} (hp:0<=c.PC/\c.PC<4611686018427387904) (hq:∀c',zaz c'=nextC (zaz c)->Q c' k):zhm1 Tryz.prog c Q k:=by
 unfold zhm1
 refine hq _ ?_
 unfold zaz nextC regsC
 dsimp only
 rw [wrap64 (by omega) (by omega)]
variable {l:Sl} {xs:List S_api_Ins}
theorem zjv2 {Q:S_api_Ins->Bool->Hp->Prop} (r:InsS k l xs) (h1:∀x:S_api_Ins,insL (xs.map insOf) c.PC=some (insOf x)->0<=c.PC->c.PC<(xs.length:Int)->Q x true k) (h2:insL (xs.map insOf) c.PC=none->Q ⟨0,0,0,0,0⟩ false k):zst1 Tryz.prog c l Q k:=by
 unfold zst1
 refine letW ?_
 have hlen:=r.1
 unfold insL at h1 h2
 by_cases h:c.PC<0\/(xs.length:Int)<=c.PC
 ·grind
 ·rw [if_neg (by simp;omega)]
  refine Rs.get r (fun _=>rfl) (by omega) (by omega) (by omega) fun x hx=>h1 x ?_ (by omega) (by omega)
  grind
theorem zre2 {x:PIns} {n m:Int} (h:(zcg x n m).1=0):(0<=x.a/\x.a<8)/\(0<=x.b/\x.b<8)/\(0<=x.c/\x.c<8):=by
 have key:∀ {b:Bool} {v:Int},regP b v=0->0<=v/\v<8:=by
  intro b v h
  unfold regP at h
  by_cases h1:b=false/\v≠0
  ·rw [if_pos h1] at h;cases h
  ·rw [if_neg h1] at h
   by_cases hp:v<0\/8<=v
   ·rw [if_pos hp] at h;cases h
   ·omega
 obtain ⟨_,a,b,c,_⟩:=zgh1 h
 grind
theorem zjw2 {x:S_api_Ins} {Q:S_cpu_Want->Bool->Bool->Hp->Prop} (ha:0<=x.A/\x.A<8) (hb:0<=x.B/\x.B<8) (hc:0<=x.C/\x.C<8) (h1:wantP (insOf x) (regsC c)=none->Q ⟨0,0,0⟩ false false k)
  (h2:∀w st,wantP (insOf x) (regsC c)=some (zoh1 w,st)->Q w st true k):zdg1 Tryz.prog x (rowOf c) Q k:=by
 have case:∀n:Int,(x.Op==n)=decide (x.Op=n):=fun n=>by by_cases e:x.Op=n<;>simp [e]
 unfold zdg1
 unfold wantP at h1 h2
 simp only [case,decide_eq_true_eq]
 have e0:(insOf x).op=x.Op:=rfl
 rw [e0] at h1 h2
 by_cases o0:x.Op=0
 ·rw [if_pos o0];rw [if_pos o0] at h2;exact h2 ⟨1,0,0⟩ true rfl
 rw [if_neg o0];rw [if_neg o0] at h1 h2
 by_cases o1:x.Op=24
 ·rw [if_pos o1];rw [if_pos o1] at h2;exact zzx hb (zzx hc (h2 ⟨2,_,_⟩ true rfl))
 rw [if_neg o1];rw [if_neg o1] at h1 h2
 by_cases o2:x.Op=25
 ·rw [if_pos o2];rw [if_pos o2] at h2;exact h2 ⟨3,0,0⟩ true rfl
 rw [if_neg o2];rw [if_neg o2] at h1 h2
 by_cases o3:x.Op=26
 ·rw [if_pos o3];rw [if_pos o3] at h2;exact h2 ⟨4,0,0⟩ true rfl
 rw [if_neg o3];rw [if_neg o3] at h1 h2
 by_cases o4:x.Op=27
 ·rw [if_pos o4];rw [if_pos o4] at h2;exact zzx ha (h2 ⟨5,0,_⟩ false rfl)
 rw [if_neg o4];rw [if_neg o4] at h1 h2
 by_cases o5:x.Op=28
 ·rw [if_pos o5];rw [if_pos o5] at h2;exact zzx ha (h2 ⟨6,0,_⟩ true rfl)
 rw [if_neg o5];rw [if_neg o5] at h1 h2
 by_cases o6:x.Op=29
 ·rw [if_pos o6];rw [if_pos o6] at h2;exact h2 ⟨7,x.Imm,0⟩ true rfl
 rw [if_neg o6];rw [if_neg o6] at h1 h2
 by_cases o7:x.Op=30
 ·rw [if_pos o7];rw [if_pos o7] at h2;exact h2 ⟨8,x.Imm,0⟩ false rfl
 rw [if_neg o7];rw [if_neg o7] at h1 h2
 by_cases o8:x.Op=31
 ·rw [if_pos o8];rw [if_pos o8] at h2;exact zzx ha (h2 ⟨9,0,_⟩ false rfl)
 grind
theorem zns2 {v:Int} {Q:S_cpu_Core->Hp->Prop} (r:InsS k l xs) (hp:0<=c.PC/\c.PC<4611686018427387904) (hq:∀c' k',k<=k'->zaz c'=toldC (xs.map insOf) (zaz c) v->Q c' k'):zhp1 Tryz.prog c l v Q k:=by
 unfold zhp1
 refine zao2 fun p k1 l1 o=> ?_
 unfold toldC at hq
 refine JoinW0.intro (fun k'=>∃c',Has k (RecA zad p c') k'/\nextC (zaz c')=(match insL (xs.map insOf) (zaz c).pc with
  | some n=>⟨(zaz c).pc+1,putR (zaz c).regs n.a v⟩
  | none=>nextC (zaz c))) ?_ ?_
 ·refine o.ld0 (shf:=zad) c rfl ?_
  refine zek1 (zjv2 (r.mono l1) (fun x hx _ _=> ?_) fun hx=> ?_)
  ·rw [if_pos rfl]
   refine zcc (zzy o fun c' k2 o2 e=>⟨c',o2,?_⟩)
   have hx:insL (xs.map insOf) (zaz c).pc=some (insOf x):=hx
   rw [hx,e]
   rfl
  ·rw [if_neg (by decide)]
   have hx:insL (xs.map insOf) (zaz c).pc=none:=hx
   refine ⟨c,o,?_⟩
   rw [hx]
 ·rintro k2 ⟨c',o2,e⟩
  refine o2.ld0 (shf:=zad) c' rfl ?_
  have hpc:c'.PC=c.PC:=by
   have h1:(nextC (zaz c')).pc=c'.PC+1:=rfl
   rw [e] at h1
   cases hi:insL (xs.map insOf) (zaz c).pc with
   | none=>rw [hi] at h1;have h1:c.PC+1=c'.PC+1:=h1;omega
   | some n=>rw [hi] at h1;have h1:c.PC+1=c'.PC+1:=h1;omega
  exact zgj (zwu (by rw [hpc];exact hp) fun c2 e2=>hq c2 k2 o2.le (e2.trans e))
theorem zuo1 {v from_:Int} {Q:S_cpu_Core->Hp->Prop} (r:InsS k l xs) (hp:0<=c.PC/\c.PC<4611686018427387904) (hq:∀c' k',k<=k'->zaz c'=tookC (xs.map insOf) (zaz c) v from_->Q c' k'):zhq1 Tryz.prog c l v from_ Q k:=by
 unfold zhq1
 refine zao2 fun p k1 l1 o=> ?_
 unfold tookC at hq
 refine JoinW0.intro (fun k'=>∃c',Has k (RecA zad p c') k'/\nextC (zaz c')=(match insL (xs.map insOf) (zaz c).pc with
  | some n=>⟨(zaz c).pc+1,putR (putR (zaz c).regs n.a v) n.b from_⟩
  | none=>nextC (zaz c))) ?_ ?_
 ·refine o.ld0 (shf:=zad) c rfl ?_
  refine zek1 (zjv2 (r.mono l1) (fun x hx _ _=> ?_) fun hx=> ?_)
  ·rw [if_pos rfl]
   refine zcc (zzy o fun c' k2 o2 e=> ?_)
   refine zcc (zzy o2 fun c3 k3 o3 e3=>⟨c3,o3,?_⟩)
   have hx:insL (xs.map insOf) (zaz c).pc=some (insOf x):=hx
   have ep:c'.PC=c.PC:=congrArg Core.pc e
   have er:regsC c'=putR (regsC c) x.A v:=congrArg Core.regs e
   rw [hx,e3,ep,er]
   rfl
  ·rw [if_neg (by decide)]
   have hx:insL (xs.map insOf) (zaz c).pc=none:=hx
   refine ⟨c,o,?_⟩
   rw [hx]
 ·rintro k2 ⟨c',o2,e⟩
  refine o2.ld0 (shf:=zad) c' rfl ?_
  have hpc:c'.PC=c.PC:=by
   have h1:(nextC (zaz c')).pc=c'.PC+1:=rfl
   rw [e] at h1
   cases hi:insL (xs.map insOf) (zaz c).pc with
   | none=>rw [hi] at h1;have h1:c.PC+1=c'.PC+1:=h1;omega
   | some n=>rw [hi] at h1;have h1:c.PC+1=c'.PC+1:=h1;omega
  exact zgj (zwu (by rw [hpc];exact hp) fun c2 e2=>hq c2 k2 o2.le (e2.trans e))
end
section
variable {h0 k:Hp} {p:Addr} {c:S_cpu_Core} {l:Sl} {xs:List S_api_Ins}
theorem zgi1 {c':S_cpu_Core} {r:List Int} (e:zaz c'=⟨c.PC,r⟩):nextC (zaz c')=⟨c.PC+1,r⟩:=by rw [e];rfl
theorem znt2 {tick self:Int} {Q:S_cpu_Core->S_cpu_Want->Hp->Prop} (r:InsS k l xs) (hx:xs.length<1073741824)
  (hq:∀c' w k',k<=k'->zaz c'=(stepP cpuD (xs.map insOf) (zaz c) tick self).1->zoh1 w=(stepP cpuD (xs.map insOf) (zaz c) tick self).2->Q c' w k'):zhn1 Tryz.prog c l tick self Q k:=by
 unfold zhn1
 refine zao2 fun p k1 l1 o=> ?_
 refine o.ld0 (shf:=zad) c rfl ?_
 have hlen:=r.1
 unfold stepP at hq
 refine zek1 (zjv2 (r.mono l1) (fun x hi i0 i1=> ?_) fun hi=> ?_)
 case _=>
  refine ⟨fun _=> ?_,fun e=>(by cases e)⟩
  refine zqm (zuh1 fun k2 l2=> ?_)
  have hi:insL (xs.map insOf) (zaz c).pc=some (insOf x):=hi
  rw [hi] at hq
  dsimp only at hq
  have en:((xs.map insOf).length:Int)=(l.len:Int):=by grind
  rw [en] at hq
  refine letW ?_
  have o2:=o.grow l2
  by_cases hw:(zcg (insOf x) (l.len:Int) 8).1≠0
  ·rw [if_pos hw] at hq
   rw [if_pos (by simp [hw])]
   refine o2.ld0 (shf:=zad) c rfl ?_
   exact hq c ⟨1,0,0⟩ _ (Hp.le_trans l1 l2) rfl rfl
  ·rw [if_neg hw] at hq
   rw [if_neg (by simpa using hw)]
   have hw:(zcg (insOf x) (l.len:Int) 8).1=0:=by simpa using hw
   obtain ⟨ha,hb,hc⟩:=zre2 hw
   have ha:0<=x.A/\x.A<8:=ha
   have hb:0<=x.B/\x.B<8:=hb
   have hc:0<=x.C/\x.C<8:=hc
   have hpc:0<=c.PC/\c.PC<4611686018427387904:=by omega
   refine o2.ld (shf:=zej) (rowOf c) (off:=1) rfl ?_
   refine zqc1 (zjw2 ha hb hc (fun hn=> ?_) fun w st hs=> ?_)
   ·rw [if_neg (by decide)]
    refine o2.ld (shf:=zej) (rowOf c) (off:=1) rfl ?_
    have hn:wantP (insOf x) (zaz c).regs=none:=hn
    rw [hn] at hq
    dsimp only at hq
    unfold zcx1 at hq
    have e0:(insOf x).op=x.Op:=rfl
    rw [e0] at hq
    have case:∀n:Int,(x.Op==n)=decide (x.Op=n):=fun n=>by grind
    simp only [case,decide_eq_true_eq]
    refine JoinW2.intro (fun _ _ k'=>∃c',Has k (RecA zad p c') k'/\c'.PC=c.PC/\∀c2,zaz c2=nextC (zaz c')->Q c2 ⟨0,0,0⟩ k') ?_ ?_
    ·by_cases o1:x.Op=1
     ·rw [if_pos o1];rw [if_pos o1] at hq
      refine zcc (zzy o2 fun c' k3 o3 e=>⟨c',o3,congrArg Core.pc e,fun c2 e2=>hq c2 _ _ o3.le (e2.trans (zgi1 e)) rfl⟩)
     rw [if_neg o1];rw [if_neg o1] at hq
     by_cases o4:x.Op=2
     ·rw [if_pos o4];rw [if_pos o4] at hq
      refine zzx hb ?_
      refine zcc (zzy o2 fun c' k3 o3 e=>⟨c',o3,congrArg Core.pc e,fun c2 e2=>hq c2 _ _ o3.le (e2.trans (zgi1 e)) rfl⟩)
     rw [if_neg o4];rw [if_neg o4] at hq
     by_cases o5:x.Op=32
     ·rw [if_pos o5];rw [if_pos o5] at hq
      refine zcc (zzy o2 fun c' k3 o3 e=>⟨c',o3,congrArg Core.pc e,fun c2 e2=>hq c2 _ _ o3.le (e2.trans (zgi1 e)) rfl⟩)
     rw [if_neg o5];rw [if_neg o5] at hq
     by_cases o6:x.Op=33
     ·rw [if_pos o6];rw [if_pos o6] at hq
      refine zcc (zzy o2 fun c' k3 o3 e=>⟨c',o3,congrArg Core.pc e,fun c2 e2=>hq c2 _ _ o3.le (e2.trans (zgi1 e)) rfl⟩)
     rw [if_neg o6];rw [if_neg o6] at hq
     by_cases o7:x.Op=22
     ·rw [if_pos o7];rw [if_pos o7] at hq
      refine o2.st {c with PC:=x.Imm} (by show 0+1<=9;omega) rfl fun k3 o3=> ?_
      refine o3.ld0 (shf:=zad) {c with PC:=x.Imm} rfl ?_
      exact hq _ _ _ o3.le rfl rfl
     rw [if_neg o7];rw [if_neg o7] at hq
     by_cases o8:x.Op=23
     ·rw [if_pos o8];rw [if_pos o8] at hq
      refine zzx ha ?_
      by_cases hz:regR (regsC c) x.A=0
      ·rw [if_pos (by simp [hz])]
       have hz:regR (zaz c).regs (insOf x).a=0:=hz
       rw [if_pos hz] at hq
       exact ⟨c,o2,rfl,fun c2 e2=>hq c2 _ _ o2.le e2 rfl⟩
      ·rw [if_neg (by simp [hz])]
       have hz:¬regR (zaz c).regs (insOf x).a=0:=hz
       rw [if_neg hz] at hq
       refine o2.st {c with PC:=x.Imm} (by show 0+1<=9;omega) rfl fun k3 o3=> ?_
       refine o3.ld0 (shf:=zad) {c with PC:=x.Imm} rfl ?_
       exact hq _ _ _ o3.le rfl rfl
     rw [if_neg o8];rw [if_neg o8] at hq
     refine zzx hb (zzx hc ?_)
     have hD:cpuD x.Op (regR (regsC c) x.B) (regR (regsC c) x.C)=if 3<=x.Op/\x.Op<=14 then aluP x.Op (regR (regsC c) x.B) (regR (regsC c) x.C) else fltP x.Op (regR (regsC c) x.B) (regR (regsC c) x.C):=rfl
     have fin:∀v,v=cpuD x.Op (regR (regsC c) x.B) (regR (regsC c) x.C)->Call0 Tryz.prog zbu [(.pointer (some p)),(.int .i64 x.A),(.int .i64 v)] (fun h7=>∃c',Has k (RecA zad p c') h7/\c'.PC=c.PC/\∀c2,zaz c2=nextC (zaz c')->Q c2 ⟨0,0,0⟩ h7) k2:=by
      intro v hv
      subst hv
      exact zcc (zzy o2 fun c' k3 o3 e=>⟨c',o3,congrArg Core.pc e,fun c2 e2=>hq c2 _ _ o3.le (e2.trans (zgi1 e)) rfl⟩)
     refine zac2 (zno2 (fun h3=> ?_) fun h3=> ?_)
     ·refine JoinW1.direct ?_
      grind
     ·refine JoinW1.direct ?_
      rw [if_pos (by decide)]
      refine zzx hb (zzx hc ?_)
      rw [if_neg h3] at hD
      refine zad2 (znr2 (fun h4=>fin _ hD.symm) fun h4=>fin _ ?_)
      rw [hD]
      unfold fltP
      omega
    ·rintro _ _ k3 ⟨c',o3,ep,hfin⟩
     refine o3.ld0 (shf:=zad) c' rfl ?_
     exact zgj (zwu (by rw [ep];exact hpc) fun c2 e2=>hfin c2 e2)
   ·rw [if_pos rfl]
    have hs:wantP (insOf x) (zaz c).regs=some (zoh1 w,st):=hs
    rw [hs] at hq
    dsimp only at hq
    cases st with
    | true=>
     rw [if_pos rfl]
     refine o2.ld0 (shf:=zad) c rfl ?_
     exact ⟨⟨trivial,trivial⟩,hq c w _ o2.le rfl rfl⟩
    | false=>
     rw [if_neg (by decide)]
     refine o2.ld0 (shf:=zad) c rfl ?_
     exact zgj (zwu hpc fun c2 e2=>⟨⟨trivial,trivial⟩,⟨trivial,trivial⟩,hq c2 w _ o2.le e2 rfl⟩)
 case _=>
  refine ⟨fun e=>(by cases e),fun _=>⟨0,?_⟩⟩
  refine letW ?_
  rw [if_pos (by decide)]
  have hi:insL (xs.map insOf) (zaz c).pc=none:=hi
  rw [hi] at hq
  refine o.ld0 (shf:=zad) c rfl ?_
  exact hq c ⟨1,0,0⟩ _ l1 rfl rfl
end
structure MK where
 c:PCfg
 x:S_machine_Machine
 t:Addr
 sl:Addr
 pt:List Addr
 pr:List Addr
 own:Nat->Sl
 code:Nat->Sl
 ins:Nat->List S_api_Ins
def cfgX (x:S_machine_Machine):S_api_Config:=⟨x.c_Labels,x.c_Table,x.c_Fuel,x.c_Lane,x.c_Locks,x.c_Log,x.c_Procs⟩
structure MkOk (h:Hp) (K:MK):Prop where
 good:(cfgE K.c).1=0
 labU:∀l∈K.c.labels,InU l
 cfg:CfgAt h (cfgX K.x) K.c
 t1:K.x.table=some K.t
 t2:Tab h K.t K.c.labels
 s1:K.x.slots=some K.sl
 s2:∃(s:Sl) (n:Int),LdIs h K.sl [s.v,.int .i64 n]/\Is h s K.c.table
 ptL:K.pt.length=nP K.c
 pt:Rs h shPtr 1 K.x.parts (K.pt.map some)
 prL:K.pr.length=nQ K.c
 pr:Rs h shPtr 1 K.x.procs (K.pr.map some)
 own:∀i,i<nP K.c->Is h (K.own i) ((ofI K.c i).map fun (q:Nat)=>(q:Int))
 code:∀p,p<nQ K.c->InsS h (K.code p) (K.ins p)/\(K.ins p).map insOf=zcj K.c p
 owned:∀p,p<nQ K.c->pOf K.c p<nP K.c
abbrev eEn :zfc1->List Value:=fun e=> [.int .i64 e.tick,.int .i64 e.proc,.int .i64 e.value]
def PartZ (K:MK) (i:Nat) (x:S_machine_part) (lp wp:Addr) (y:PPart):Prop:=x.procs=K.own i/\x.cursor=y.cursor/\x.lost=y.lost/\x.forbidden=y.forbidden/\x.locks=some lp/\x.wheel=some wp
def PartB (K:MK) (i:Nat) (x:S_machine_part) (lp wp:Addr) (y:PPart) (tm:Nat->Int):Asn:=
 (RecA zbr (K.pt.getD i a0) x).star ((SlA 3 eEn x.log y.log).star ((zfj lp y.owners y.queues).star (zqr wp tm (2*nQ K.c))))
def PartA (K:MK) (i:Nat) (y:PPart) (tm:Nat->Int):Asn:=.some_ fun x:S_machine_part=>.some_ fun lp:Addr=>.some_ fun wp:Addr=>(PartB K i x lp wp y tm).star (.fact (PartZ K i x lp wp y))
def coreX (z:S_machine_proc):S_cpu_Core:=⟨z.core_PC,z.core_Regs_0,z.core_Regs_1,z.core_Regs_2,z.core_Regs_3,z.core_Regs_4,z.core_Regs_5,z.core_Regs_6,z.core_Regs_7⟩
def ProcZ (K:MK) (p:Nat) (z:S_machine_proc) (q:Addr) (y:PProcess):Prop:=z.id_=(p:Int)/\z.part=(pOf K.c p:Int)/\z.code=K.code p/\z.state=y.state/\zaz (coreX z)=y.core/\z.fired=y.fired/\z.post=some q
def ProcB (K:MK) (p:Nat) (z:S_machine_proc) (q:Addr) (y:PProcess):Asn:=(RecA sh_machine_proc (K.pr.getD p a0) z).star (PostA q K.c.lane y.lanes y.cursor)
def ProcA (K:MK) (p:Nat) (y:PProcess):Asn:=.some_ fun z:S_machine_proc=>.some_ fun q:Addr=>(ProcB K p z q y).star (.fact (ProcZ K p z q y))
def tickX (x:S_machine_Machine) (t:Int):S_machine_Machine:=⟨x.c_Labels,x.c_Table,x.c_Fuel,x.c_Lane,x.c_Locks,x.c_Log,x.c_Procs,x.table,x.slots,t,x.parts,x.procs⟩
def MachA (K:MK) (pm:Addr) (s:MS) (tm:Nat->Nat->Int):Asn:=
 (RecA zed pm (tickX K.x s.tick)).star ((Asn.first (fun i=>PartA K i (s.part i) (tm i)) (nP K.c)).star (Asn.first (fun p=>ProcA K p (s.proc p)) (nQ K.c)))
section
variable {h0 h1 k:Hp} {K:MK} {pm:Addr} {s:MS} {tm:Nat->Nat->Int}
theorem MkOk.mono (m:MkOk h0 K) (hl:h0<=h1):MkOk h1 K where
 good:=m.good
 labU:=m.labU
 cfg:=m.cfg.mono hl
 t1:=m.t1
 t2:=m.t2.mono hl
 s1:=m.s1
 s2:=by
  obtain ⟨s,n,a,b⟩:=m.s2
  exact ⟨s,n,zbl hl a,b.mono hl⟩
 ptL:=m.ptL
 pt:=m.pt.mono hl
 prL:=m.prL
 pr:=m.pr.mono hl
 own:=fun i hi=>(m.own i hi).mono hl
 code:=fun p hp=>⟨(m.code p hp).1.mono hl,(m.code p hp).2⟩
 owned:=m.owned
theorem Has.procX {p:Nat} (o:Has h0 (MachA K pm s tm) k) (hp:p<nQ K.c):∃h1 z q,h0<=h1/\ProcZ K p z q (s.proc p)/\Has h1 (ProcB K p z q (s.proc p)) k/\
  ∀z' y' k',ProcZ K p z' q y'->Has h1 (ProcB K p z' q y') k'->Has h0 (MachA K pm (s.setP p y') tm) k':=by
 obtain ⟨h1,a1,o1,put⟩:=o.f3
 obtain ⟨h2,a2,o2,_,put2⟩:=o1.one hp
 obtain ⟨z,o2⟩:=Has.ex.1 o2
 obtain ⟨q,o2⟩:=Has.ex.1 o2
 obtain ⟨o3,hz⟩:=o2.noFact
 refine ⟨h2,z,q,Hp.le_trans a1 a2,hz,o3,fun z' y' k' hz' o'=>put _ _ ?_⟩
 have:=put2 _ _ (Has.ex.2 ⟨z',Has.ex.2 ⟨q,o'.withFact hz'⟩⟩:Has h2 (ProcA K p y') k')
 refine cast (congrArg (fun A=>Has h1 A k') (zci fun j hj=> ?_)) this
 by_cases e:j=p
 ·subst e;rw [zbx];show _=ProcA K j (fset s.proc j y' j);rw [zbx];rfl
 ·rw [zbq e];show _=ProcA K j (fset s.proc p y' j);rw [zbq e]
theorem Has.partX {i:Nat} (o:Has h0 (MachA K pm s tm) k) (hi:i<nP K.c):∃h1 x lp wp,h0<=h1/\PartZ K i x lp wp (s.part i)/\Has h1 (PartB K i x lp wp (s.part i) (tm i)) k/\
  ∀x' y' t' k',PartZ K i x' lp wp y'->Has h1 (PartB K i x' lp wp y' t') k'->Has h0 (MachA K pm (s.setI i y') (fset tm i t')) k':=by
 obtain ⟨h1,a1,o1,put⟩:=o.f2
 obtain ⟨h2,a2,o2,_,put2⟩:=o1.one hi
 obtain ⟨x,o2⟩:=Has.ex.1 o2
 obtain ⟨lp,o2⟩:=Has.ex.1 o2
 obtain ⟨wp,o2⟩:=Has.ex.1 o2
 obtain ⟨o3,hz⟩:=o2.noFact
 refine ⟨h2,x,lp,wp,Hp.le_trans a1 a2,hz,o3,fun x' y' t' k' hz' o'=>put _ _ ?_⟩
 have:=put2 _ _ (Has.ex.2 ⟨x',Has.ex.2 ⟨lp,Has.ex.2 ⟨wp,o'.withFact hz'⟩⟩⟩:Has h2 (PartA K i y' t') k')
 refine cast (congrArg (fun A=>Has h1 A k') (zci fun j hj=> ?_)) this
 by_cases e:j=i
 ·subst e;rw [zbx];show _=PartA K j (fset s.part j y' j) (fset tm j t' j);rw [zbx,zbx];rfl
 ·rw [zbq e];show _=PartA K j (fset s.part i y' j) (fset tm i t' j);rw [zbq e,zbq e]
theorem Has.rec1 (o:Has h0 (MachA K pm s tm) k):Has h0 (RecA zed pm (tickX K.x s.tick)) k:=Has.left o
theorem MkOk.procAt (m:MkOk h0 K) (hl:h0<=k) {p:Nat} (hp:p<nQ K.c) {Q:Option Addr->Prop} (hq:Q (some (K.pr.getD p a0))):InB K.x.procs.base K.x.procs.len (p:Int)/\LdW none shPtr k (sat K.x.procs.base 1 (p:Int)) Q:=by
 have e:=m.prL
 refine Rs.get (m.pr.mono hl) (fun _=>rfl) (by omega) (by omega) (by rw [List.length_map];omega) fun (y:Option Addr) hy=> ?_
 grind
theorem MkOk.partAt (m:MkOk h0 K) (hl:h0<=k) {p:Nat} (hp:p<nP K.c) {Q:Option Addr->Prop} (hq:Q (some (K.pt.getD p a0))):InB K.x.parts.base K.x.parts.len (p:Int)/\LdW none shPtr k (sat K.x.parts.base 1 (p:Int)) Q:=by
 have e:=m.ptL
 refine Rs.get (m.pt.mono hl) (fun _=>rfl) (by omega) (by omega) (by rw [List.length_map];omega) fun (y:Option Addr) hy=> ?_
 grind
theorem MkOk.procsLen (m:MkOk h0 K):K.x.procs.len=nQ K.c:=by
 have:=m.pr.1
 rw [List.length_map,m.prL] at this
 exact this
theorem MkOk.partsLen (m:MkOk h0 K):K.x.parts.len=nP K.c:=by
 have:=m.pt.1
 rw [List.length_map,m.ptL] at this
 exact this
end
abbrev MK.p (K:MK) (p:Nat):Addr:=K.pr.getD p a0
abbrev MK.q (K:MK) (i:Nat):Addr:=K.pt.getD i a0
section
variable {h0 h1 k:Hp} {K:MK} {pm:Addr} {s:MS} {tm:Nat->Nat->Int}
theorem Has.procR {p:Nat} (o:Has h0 (MachA K pm s tm) k) (hp:p<nQ K.c):∃h1 z q,h0<=h1/\ProcZ K p z q (s.proc p)/\Has h1 (RecA sh_machine_proc (K.p p) z) k/\
  ∀z' y' k',ProcZ K p z' q y'->y'.lanes=(s.proc p).lanes->y'.cursor=(s.proc p).cursor->Has h1 (RecA sh_machine_proc (K.p p) z') k'->Has h0 (MachA K pm (s.setP p y') tm) k':=by
 obtain ⟨h1,z,q,l1,hz,o1,put⟩:=o.procX hp
 obtain ⟨h2,l2,o2,_,put2⟩:=o1.fst
 refine ⟨h2,z,q,Hp.le_trans l1 l2,hz,o2,fun z' y' k' hz' e1 e2 o'=>put z' y' k' hz' ?_⟩
 have:=put2 _ _ o'
 unfold ProcB
 grind
theorem Has.procQ {p:Nat} (o:Has h0 (MachA K pm s tm) k) (hp:p<nQ K.c):∃h1 z q,h0<=h1/\ProcZ K p z q (s.proc p)/\Has h0 (RecA sh_machine_proc (K.p p) z) k/\Has h1 (PostA q K.c.lane (s.proc p).lanes (s.proc p).cursor) k/\
  ∀ls cu k',Has h1 (PostA q K.c.lane ls cu) k'->Has h0 (MachA K pm (s.setP p {s.proc p with lanes:=ls,cursor:=cu}) tm) k':=by
 obtain ⟨h1,z,q,l1,hz,o1,put⟩:=o.procX hp
 obtain ⟨h2,l2,o2,_,put2⟩:=o1.snd
 exact ⟨h2,z,q,Hp.le_trans l1 l2,hz,(Has.left o1).mono l1,o2,fun ls cu k' o'=>put z _ k' hz (put2 _ _ o')⟩
def coreZ (z:S_machine_proc) (c:S_cpu_Core):S_machine_proc:=⟨z.id_,z.part,z.code,z.state,c.PC,c.Regs_0,c.Regs_1,c.Regs_2,c.Regs_3,c.Regs_4,c.Regs_5,c.Regs_6,c.Regs_7,z.fired,z.post⟩
def zzz (z:S_machine_proc) (n:Int):S_machine_proc:=⟨z.id_,z.part,z.code,n,z.core_PC,z.core_Regs_0,z.core_Regs_1,z.core_Regs_2,z.core_Regs_3,z.core_Regs_4,z.core_Regs_5,z.core_Regs_6,z.core_Regs_7,z.fired,z.post⟩
def zrn1 (z:S_machine_proc) (b:Bool):S_machine_proc:=⟨z.id_,z.part,z.code,z.state,z.core_PC,z.core_Regs_0,z.core_Regs_1,z.core_Regs_2,z.core_Regs_3,z.core_Regs_4,z.core_Regs_5,z.core_Regs_6,z.core_Regs_7,b,z.post⟩
theorem ProcZ.core {p:Nat} {z:S_machine_proc} {q:Addr} {y:PProcess} (hz:ProcZ K p z q y) (c:S_cpu_Core):ProcZ K p (coreZ z c) q (y.put (zaz c)):=⟨hz.1,hz.2.1,hz.2.2.1,hz.2.2.2.1,rfl,hz.2.2.2.2.2⟩
theorem ProcZ.state {p:Nat} {z:S_machine_proc} {q:Addr} {y:PProcess} (hz:ProcZ K p z q y) (n:Int):ProcZ K p (zzz z n) q {y with state:=n}:=⟨hz.1,hz.2.1,hz.2.2.1,rfl,hz.2.2.2.2⟩
theorem ProcZ.fired {p:Nat} {z:S_machine_proc} {q:Addr} {y:PProcess} (hz:ProcZ K p z q y) (b:Bool):ProcZ K p (zrn1 z b) q {y with fired:=b}:=⟨hz.1,hz.2.1,hz.2.2.1,hz.2.2.2.1,hz.2.2.2.2.1,rfl,hz.2.2.2.2.2.2⟩
theorem zoi1 {n:Int} {Q:Bool->Hp->Prop} (hq:Q (decide (n≠5)&&decide (n≠6)) k):zqb Tryz.prog n Q k:=by
 unfold zqb
 refine letW ?_
 grind
theorem zdj2 {n:Int} {Q:Int->Hp->Prop} (hn:Cnt n) (hq:Q (more n) k):zrv Tryz.prog n Q k:=by
 unfold zrv
 unfold Cnt at hn
 rw [wrap64 (by omega) (by omega)]
 have:min2I (n+1) 65535=more n:=by
  unfold min2I more
  split<;>split<;>omega
 grind
theorem zup1 {p:Nat} {c:S_cpu_Core} {m:Option Addr} {Q:Hp->Prop} (o:Has h0 (MachA K pm s tm) k) (hp:p<nQ K.c) (hq:∀k',Has h0 (MachA K pm (s.setP p (goX (s.proc p) (zaz c))) tm) k'->Q k'):zhj Tryz.prog m (some (K.p p)) c Q k:=by
 unfold zhj
 obtain ⟨h1,z,q,l1,hz,o1,put⟩:=o.procR hp
 refine zab (o1.st (zzz z 0) (by show 3+1<=15;omega) rfl fun k1 o2=> ?_)
 refine ⟨⟨trivial,trivial⟩,zab (o2.st (coreZ (zzz z 0) c) (by show 4+9<=15;omega) rfl fun k2 o3=> ?_)⟩
 exact hq _ (put _ _ _ ((hz.state 0).core c) rfl rfl o3)
theorem MkOk.insAt (m:MkOk h0 K) (hl:h0<=k) {p:Nat} (hp:p<nQ K.c) {z:S_machine_proc} {q:Addr} {y:PProcess} (hz:ProcZ K p z q y):InsS k z.code (K.ins p):=by
 rw [hz.2.2.1]
 exact ((m.code p hp).1).mono hl
theorem zks {p:Nat} {v:Int} {mm:Option Addr} {Q:Hp->Prop} (m:MkOk h0 K) (o:Has h0 (MachA K pm s tm) k) (hp:p<nQ K.c) (hpc:0<=(s.proc p).pc/\(s.proc p).pc<4611686018427387904) (hq:∀k',Has h0 (MachA K pm (toldS K.c s p v) tm) k'->Q k'):
  zen Tryz.prog mm (some (K.p p)) v Q k:=by
 unfold zen
 obtain ⟨h1,z,q,l1,hz,o1,put⟩:=o.procR hp
 refine zab (o1.ld (shf:=zad) (coreX z) rfl ?_)
 refine zab (o1.ld (shf:=shSl) z.code rfl ?_)
 have e:zaz (coreX z)=(s.proc p).core:=hz.2.2.2.2.1
 have epc:(coreX z).PC=(s.proc p).pc:=congrArg Core.pc e
 refine zub1 (zns2 (m.insAt o.le hp hz) (by omega) fun c' k1 l2 e2=> ?_)
 refine zeq (zup1 (o.grow l2) hp fun k2 o2=>hq k2 ?_)
 rw [e2,e,(m.code p hp).2] at o2
 exact o2
theorem zuq1 {p:Nat} {mm:Option Addr} {Q:Hp->Prop} (o:Has h0 (MachA K pm s tm) k) (hp:p<nQ K.c) (hq:∀k',Has h0 (MachA K pm (s.setP p (wakeX (s.proc p))) tm) k'->Q k'):zhg Tryz.prog mm (some (K.p p)) Q k:=by
 unfold zhg
 obtain ⟨h1,z,q,l1,hz,o1,put⟩:=o.procR hp
 refine zab (o1.ld (shf:=shInt .i64) z.state rfl ?_)
 have e:z.state=(s.proc p).state:=hz.2.2.2.1
 unfold wakeX at hq
 by_cases h:(s.proc p).state=1
 ·rw [if_pos (show (z.state==1)=true by rw [e,h];rfl)]
  rw [if_pos h] at hq
  exact zab (o1.st (zzz z 0) (by show 3+1<=15;omega) rfl fun k1 o2=>hq _ (put _ _ _ (hz.state 0) rfl rfl o2))
 ·rw [if_neg (show ¬(z.state==1)=true by grind)]
  rw [if_neg h] at hq
  exact hq _ (put z (s.proc p) k hz rfl rfl o1)
theorem zoj1 {who:Int} {Q:Hp->Prop} (m:MkOk h0 K) (o:Has h0 (MachA K pm s tm) k) (hw:0<=who->who<(nQ K.c:Int)/\0<=(s.proc who.toNat).pc/\(s.proc who.toNat).pc<4611686018427387904) (hq:∀k',Has h0 (MachA K pm (zck s who) tm) k'->Q k'):
  zgf Tryz.prog (some pm) who Q k:=by
 unfold zgf
 unfold zck at hq
 by_cases h:0<=who
 ·rw [if_pos (by simpa using h)]
  rw [if_pos h] at hq
  obtain ⟨w1,w2⟩:=hw h
  have hp:who.toNat<nQ K.c:=by omega
  have ew:((who.toNat:Nat):Int)=who:=by omega
  have at_:=m.procAt o.le hp (Q:=fun y=>y=some (K.p who.toNat)) rfl
  rw [ew] at at_
  obtain ⟨g1,y,hy,rfl⟩:=at_
  refine zab (o.rec1.ld (shf:=shSl) K.x.procs rfl ⟨g1,_,hy,zab (o.rec1.ld (shf:=shSl) K.x.procs rfl ⟨g1,_,hy,?_⟩)⟩)
  obtain ⟨h1,z,q,l1,hz,o1,put⟩:=o.procR hp
  have e:zaz (coreX z)=(s.proc who.toNat).core:=hz.2.2.2.2.1
  have epc:(coreX z).PC=(s.proc who.toNat).pc:=congrArg Core.pc e
  refine zab (o1.ld (shf:=zad) (coreX z) rfl ?_)
  refine zgj (zwu (by rw [epc];exact w2) fun c' e2=> ?_)
  refine ⟨⟨o.rec1.ldis (n:=1) rfl,hy,trivial⟩,?_⟩
  refine zeq (zup1 o hp fun k2 o2=>hq k2 ?_)
  rw [e2,e] at o2
  exact o2
 grind
end
section
variable {c:PCfg} {fl:Nat->Nat->Bool} {s:MS} {X Z:Nat->Prop} {T:Int} {p:Nat} {x':PProcess}
theorem zaj {s:MS} {p:Nat} {x:PProcess}:(s.setP p x).proc p=x:=zbx
theorem zau {s:MS} {p q:Nat} {x:PProcess} (h:q≠p):(s.setP p x).proc q=s.proc q:=zbq h
theorem zkv {s:MS} {p:Nat} {x y:PProcess}:(s.setP p x).setP p y=s.setP p y:=by unfold MS.setP;rw [ztd]
theorem zme {s:MS} {i:Nat} {x:PPart}:(s.setI i x).part i=x:=zbx
theorem znm {s:MS} {i j:Nat} {x:PPart} (h:j≠i):(s.setI i x).part j=s.part j:=zbq h
def Out (s:MS) (X Z:Nat->Prop) (p:Nat):Prop:=¬Z p/\(X p\/((s.proc p).state≠2/\(s.proc p).state≠3))
theorem QueM.out {i k:Nat} {z:Int} (h:QueM c s X Z i k z) (o:Out s X Z p):z.toNat≠p:=fun e=>by
 subst e
 obtain ⟨_,_,_,h1,h2⟩:=h
 rcases o.2 with o2 | o2
 ·exact h1 o2
 ·rcases h2 with h2 | h2
  ·exact o.1 h2
  ·exact o2.2 h2.1
theorem LanM.out {i r:Nat} {w:zdi} (h:LanM c s X Z i r w) (o:Out s X Z p):w.proc.toNat≠p:=fun e=>by
 subst e
 obtain ⟨_,_,_,h1,h2⟩:=h
 rcases o.2 with o2 | o2
 ·exact h1 o2
 ·rcases h2 with h2 | h2
  ·exact o.1 h2
  ·exact o2.1 h2.1
theorem QueM.keep {s':MS} {X':Nat->Prop} {i k:Nat} {z:Int} (h:QueM c s X Z i k z) (hx:X' z.toNat->X z.toNat) (e:s'.proc z.toNat=s.proc z.toNat):QueM c s' X' Z i k z:=by
 obtain ⟨h1,h2,h3,h4,h5⟩:=h
 exact ⟨h1,h2,h3,fun h=>h4 (hx h),by rw [e];exact h5⟩
theorem LanM.keep {s':MS} {X':Nat->Prop} {i r:Nat} {w:zdi} (h:LanM c s X Z i r w) (hx:X' w.proc.toNat->X w.proc.toNat) (e:s'.proc w.proc.toNat=s.proc w.proc.toNat):LanM c s' X' Z i r w:=by
 obtain ⟨h1,h2,h3,h4,h5⟩:=h
 exact ⟨h1,h2,h3,fun h=>h4 (hx h),by rw [e];exact h5⟩
theorem Good.run (g:Good c fl s X Z T) (o:Out s X Z p) (pm:ProcM c fl s.tick p (Z p) x') (hs:x'.state≠2/\x'.state≠3) (hl:x'.lanes=(s.proc p).lanes) (hv:zcv (s.proc p)=true->zcv x'=true):
  Good c fl (s.setP p x') (fun q=>X q/\q≠p) Z T where
 tick:=g.tick
 part:=g.part
 proc q hq:=by
  by_cases e:q=p
  ·subst e;rw [zaj];exact pm
  ·rw [zau e];exact g.proc q hq
 own i hi k ow h:=by
  rcases g.own i hi k ow h with h | ⟨h1,h2,h3,h4⟩
  ·exact .inl h
  ·refine .inr ⟨h1,h2,h3,h4.imp (fun h4=> ?_) id⟩
   by_cases e:ow.toNat=p
   ·rw [e,zaj];grind
   ·rw [zau e];exact h4
 que i hi k q h:=by
  obtain ⟨h1,h2,h3⟩:=g.que i hi k q h
  exact ⟨h1,fun z hz=>(h2 z hz).keep (fun h=>h.1) (zau ((h2 z hz).out o)),h3⟩
 lan r hr i l h:=by
  have e:((s.setP p x').proc r).lanes=(s.proc r).lanes:=by
   by_cases e:r=p
   ·subst e;rw [zaj];exact hl
   ·rw [zau e]
  rw [e] at h
  obtain ⟨h1,h2,h3⟩:=g.lan r hr i l h
  refine ⟨h1,fun hw=> ?_,fun w hw=>(h3 w hw).keep (fun h=>h.1) (zau ((h3 w hw).out o))⟩
  obtain ⟨a,b,d⟩:=h2 hw
  refine ⟨a,b.imp (fun b=> ?_) id,d⟩
  by_cases e:r=p
  ·subst e;rw [zaj];exact hv b
  ·rw [zau e];exact b
 in3 q hq hx h3:=by
  by_cases e:q=p
  ·subst e;rw [zaj] at h3;omega
  ·rw [zau e] at h3
   exact g.in3 q hq (fun h=>hx ⟨h,e⟩) h3
 in2 q hq hx h2:=by
  by_cases e:q=p
  ·subst e;rw [zaj] at h2;omega
  ·rw [zau e] at h2
   obtain ⟨r,hr,l,hl',hw⟩:=g.in2 q hq (fun h=>hx ⟨h,e⟩) h2
   refine ⟨r,hr,l,?_,hw⟩
   by_cases e:r=p
   ·subst e;rw [zaj,hl];exact hl'
   ·rw [zau e];exact hl'
theorem Good.lanes {X':Nat->Prop} (g:Good c fl s X Z T) (pm:ProcM c fl s.tick p (Z p) x') (hst:x'.state=(s.proc p).state\/((s.proc p).state=1/\x'.state=0)) (hpc:x'.pc=(s.proc p).pc) (hr:x'.regs=(s.proc p).regs)
  (hl:x'.lanes.length=(s.proc p).lanes.length) (hw:∀(i:Nat) l l',(s.proc p).lanes[i]? =some l->x'.lanes[i]? =some l'->l'.waiters.Sublist l.waiters/\(l'.waiters≠ []->(l'.values.length:Int)=c.lane)/\∀w∈l.waiters,w∈l'.waiters\/X' w.proc.toNat)
  (hp:p<nQ c) (hx:∀q,X q->X' q) (hx':∀q,X' q->X q\/(¬Z q/\∃(i:Nat) (l l':PLane) (w:zdi),(s.proc p).lanes[i]? =some l/\x'.lanes[i]? =some l'/\w∈l.waiters/\w.proc∉l'.waiters.map (·.proc)/\w.proc=(q:Int))):
  Good c fl (s.setP p x') X' Z T:=by
 have hproc:∀q,((s.setP p x').proc q).pc=(s.proc q).pc/\((s.setP p x').proc q).regs=(s.proc q).regs/\(((s.setP p x').proc q).state=(s.proc q).state\/((s.proc q).state=1/\((s.setP p x').proc q).state=0)):=fun q=>by
  by_cases e:q=p
  ·subst e;rw [zaj];grind
  ·rw [zau e];simp
 have hliv:∀q,zcv (s.proc q)=true->zcv ((s.setP p x').proc q)=true:=fun q h=>by
  rw [livesB_iff] at h ⊢
  grind
 have hst2:∀q n,n=2\/n=3->(s.proc q).state=n->((s.setP p x').proc q).state=n:=fun q n hn h=>by
  grind
 have hins:∀q,insX c q ((s.setP p x').proc q)=insX c q (s.proc q):=fun q=>by unfold insX;rw [(hproc q).1]
 have hque:∀ {i k z},QueM c s X Z i k z->¬X' z.toNat:=fun {i k z} h hx2=>by
  obtain ⟨h1,h2,h3,h4,h5⟩:=h
  rcases hx' _ hx2 with h6 | ⟨hz,j,l,l',w,e1,e2,e3,e4,e5⟩
  ·exact h4 h6
  ·obtain ⟨_,_,lw⟩:=g.lan p hp j l e1
   obtain ⟨_,_,_,_,lw5⟩:=lw w e3
   grind
 have hlan:∀ {i r w},r≠p->LanM c s X Z i r w->¬X' w.proc.toNat:=fun {i r w} hrp h hx2=>by
  obtain ⟨h1,h2,h3,h4,h5⟩:=h
  rcases hx' _ hx2 with h6 | ⟨hz,j,l,l',w',e1,e2,e3,e4,e5⟩
  ·exact h4 h6
  ·obtain ⟨_,_,lw⟩:=g.lan p hp j l e1
   obtain ⟨_,_,_,_,lw5⟩:=lw w' e3
   grind
 have hkeepL:∀ {i r w},LanM c s X Z i r w->¬X' w.proc.toNat->LanM c (s.setP p x') X' Z i r w:=fun {i r w} h hx2=>by
  obtain ⟨h1,h2,h3,h4,h5⟩:=h
  refine ⟨h1,h2,h3,hx2,h5.imp id fun h5=> ?_⟩
  grind
 refine ⟨g.tick,g.part,fun q hq=> ?_,fun i hi k ow h=> ?_,fun i hi k q h=> ?_,fun r hrr i l h=> ?_,fun q hq hx2 h3=> ?_,fun q hq hx2 h2=> ?_⟩
 ·by_cases e:q=p
  ·subst e;rw [zaj];exact pm
  ·rw [zau e];exact g.proc q hq
 ·rcases g.own i hi k ow h with h | ⟨h1,h2,h3,h4⟩
  ·exact .inl h
  grind
 ·obtain ⟨h1,h2,h3⟩:=g.que i hi k q h
  refine ⟨h1,fun z hz=> ?_,h3⟩
  have hq:=hque (h2 z hz)
  obtain ⟨a1,a2,a3,a4,a5⟩:=h2 z hz
  refine ⟨a1,a2,a3,hq,a5.imp id fun a5=> ?_⟩
  grind
 ·by_cases e:r=p
  ·subst e
   rw [zaj] at h ⊢
   have hi:i<(s.proc r).lanes.length:=by grind
   have e0:(s.proc r).lanes[i]? =some ((s.proc r).lanes[i]):=List.getElem?_eq_getElem hi
   generalize (s.proc r).lanes[i]=l0 at e0
   obtain ⟨h1,h2,h3⟩:=g.lan r hrr i l0 e0
   obtain ⟨w1,w2,w3⟩:=hw i l0 l e0 h
   refine ⟨h1.sublist (w1.map _),fun hne=> ?_,fun w hwm=> ?_⟩
   ·obtain ⟨a,b,_⟩:=h2 fun e=>by grind
    refine ⟨a,b.imp (fun b=> ?_) id,w2 hne⟩
    have:=hliv r b
    rw [zaj] at this
    exact this
   ·have hm:=w1.subset hwm
    refine hkeepL (h3 w hm) fun hx2=> ?_
    rcases hx' _ hx2 with h6 | ⟨hz,j,l1,l',w',e1,e2,e3,e4,e5⟩
    ·exact (h3 w hm).2.2.2.1 h6
    · -- the same lane
     obtain ⟨b1,b2,b3⟩:=g.lan r hrr j l1 e1
     have hj:j=pOf c r:=(b2 fun e=>by rw [e] at e3;cases e3).1
     have hi2:i=pOf c r:=(h2 fun e=>by rw [e] at hm;cases hm).1
     have e7:w'.proc=w.proc:=by have:=(h3 w hm).1;omega
     grind
  ·rw [zau e] at h ⊢
   obtain ⟨h1,h2,h3⟩:=g.lan r hrr i l h
   grind
 ·have:=(hproc q).2.2
  exact g.in3 q hq (fun h=>hx2 (hx q h)) (by omega)
 ·have:=(hproc q).2.2
  obtain ⟨r,hrr,l,hl',w,hwm,hwe⟩:=g.in2 q hq (fun h=>hx2 (hx q h)) (by omega)
  by_cases e:r=p
  ·subst e
   have hi:pOf c q<x'.lanes.length:=by rw [hl];exact (List.getElem?_eq_some_iff.1 hl').1
   obtain ⟨_,_,w3⟩:=hw _ l _ hl' (List.getElem?_eq_getElem hi)
   refine ⟨r,hrr,x'.lanes[pOf c q],by rw [zaj];exact List.getElem?_eq_getElem hi,w,?_,hwe⟩
   grind
  ·exact ⟨r,hrr,l,by rw [zau e];exact hl',w,hwm,hwe⟩
theorem Good.parts {i:Nat} {y:PPart} (g:Good c fl s X Z T) (pm:PartM c T i y) (ho:y.owners=(s.part i).owners) (hq:y.queues=(s.part i).queues):Good c fl (s.setI i y) X Z T:=by
 have ho':∀j,((s.setI i y).part j).owners=(s.part j).owners:=fun j=>by
  by_cases e:j=i
  ·subst e;rw [zme,ho]
  ·rw [znm e]
 have hq':∀j,((s.setI i y).part j).queues=(s.part j).queues:=fun j=>by
  by_cases e:j=i
  ·subst e;rw [zme,hq]
  ·rw [znm e]
 refine ⟨g.tick,fun j hj=> ?_,g.proc,fun j hj k o h=>g.own j hj k o (by grind),fun j hj k q h=> ?_,g.lan,fun q hq2 hx h3=> ?_,g.in2⟩
 ·by_cases e:j=i
  ·subst e;rw [zme];exact pm
  ·rw [znm e];exact g.part j hj
 ·rw [ho']
  exact g.que j hj k q (by grind)
 ·rw [hq'];exact g.in3 q hq2 hx h3
end
section
variable {c:PCfg} {fl:Nat->Nat->Bool} {s:MS} {X Z:Nat->Prop} {T:Int} {p:Nat} {x:PProcess} {t:Int} {z:Prop}
theorem Good.congr {X':Nat->Prop} (g:Good c fl s X Z T) (h:∀q,X q↔X' q):Good c fl s X' Z T:=by
 have:X=X':=funext fun q=>propext (h q)
 grind
theorem putR_len {r:List Int} {i v:Int}:(putR r i v).length=r.length:=by
 unfold putR
 split<;>simp
theorem zgj1 {n:Int} (h:Cnt n):Cnt (more n):=by
 unfold Cnt more at*
 split<;>omega
theorem znu2 {l:List PIns} {k:Core} {v:Int} (h:∃n,insL l k.pc=some n):(toldC l k v).pc=k.pc+1/\(toldC l k v).regs.length=k.regs.length:=by
 obtain ⟨n,hn⟩:=h
 unfold toldC
 rw [hn]
 exact ⟨rfl,putR_len⟩
theorem znv2 {l:List PIns} {k:Core} {v w:Int} (h:∃n,insL l k.pc=some n):(tookC l k v w).pc=k.pc+1/\(tookC l k v w).regs.length=k.regs.length:=by
 obtain ⟨n,hn⟩:=h
 unfold tookC
 rw [hn]
 exact ⟨rfl,by simp [putR_len]⟩
theorem ProcM.go (pm:ProcM c fl t p z x) (h4:x.state≠4) {k:Core} (hk:0<=k.pc/\k.pc<=(zcj c p).length) (hr:k.regs.length=8):ProcM c fl t p z (goX x k) where
 st:=by show (0:Int)<=0/\(0:Int)<=6;omega
 pc:=hk
 lnl:=pm.lnl
 cur:=pm.cur
 tim:=pm.tim
 wak:=pm.wak
 slp:=pm.slp.imp id fun h=>⟨fun h'=>absurd (h.1 h') h4,fun h'=>by have:(0:Int)=4:=h';omega⟩
 dead:=fun h=>by have:(0:Int)=5\/(0:Int)=6:=h;omega
 lan:=pm.lan
 recv:=fun h=>by have:(0:Int)=1:=h;omega
 snd:=fun h=>by have:(0:Int)=2:=h;omega
 lck:=fun h=>by have:(0:Int)=3:=h;omega
 slpi:=fun h=>by have:(0:Int)=4:=h;omega
 regs:=hr
theorem ProcM.put (pm:ProcM c fl t p z x) (h0:x.state=0) {k:Core} (hk:0<=k.pc/\k.pc<=(zcj c p).length) (hr:k.regs.length=8):ProcM c fl t p z (x.put k):=by
 have:=pm.go (by omega) hk hr
 have e:x.put k=goX x k:=by unfold PProcess.put goX;rw [<-h0]
 rw [e];exact this
theorem zaa1 {n:PIns} (h:insX c p x=some n):0<=x.pc/\x.pc<(zcj c p).length:=by
 unfold insX insL at h
 grind
theorem Good.told (g:Good c fl s X Z T) (hp:p<nQ c) (o:Out s X Z p) (h4:(s.proc p).state≠4) (hi:∃n,insX c p (s.proc p)=some n) (v:Int):Good c fl (toldS c s p v) (fun q=>X q/\q≠p) Z T:=by
 have pm:=g.proc p hp
 have ht:=znu2 (l:=zcj c p) (k:=(s.proc p).core) (v:=v) hi
 have hlt:0<=(s.proc p).pc/\(s.proc p).pc<(zcj c p).length:=hi.elim fun n hn=>zaa1 hn
 have hpc:(toldC (zcj c p) (s.proc p).core v).pc=(s.proc p).pc+1:=ht.1
 refine g.run o (pm.go h4 ⟨by rw [hpc];omega,by rw [hpc];omega⟩ (ht.2.trans pm.regs)) ⟨by show (0:Int)≠2;omega,by show (0:Int)≠3;omega⟩ rfl fun _=>rfl
theorem Good.goes (g:Good c fl s X Z T) (hp:p<nQ c) (o:Out s X Z p) (h4:(s.proc p).state≠4) (hi:∃n,insX c p (s.proc p)=some n):Good c fl (goesS s p) (fun q=>X q/\q≠p) Z T:=by
 have pm:=g.proc p hp
 have hlt:0<=(s.proc p).pc/\(s.proc p).pc<(zcj c p).length:=hi.elim fun n hn=>zaa1 hn
 refine g.run o (pm.go h4 ⟨by show 0<=(s.proc p).pc+1;omega,by show (s.proc p).pc+1<=_;omega⟩ pm.regs) ⟨by show (0:Int)≠2;omega,by show (0:Int)≠3;omega⟩ rfl fun _=>rfl
theorem ProcM.lane (pm:ProcM c fl t p z x) {i:Nat} {f:PLane->PLane} (hf:∀l,x.lanes[i]? =some l->((f l).values.length:Int)<=c.lane/\Cnt (f l).taken/\Cnt (f l).dropped/\(Used (f l)->i<nP c->fl i (pOf c p)=true)) (h1:x.state=1->∀l,l.values=[]->(f l).values=[]):
  ProcM c fl t p z (laneX x i f) where
 st:=pm.st
 pc:=pm.pc
 lnl:=by show (x.lanes.modify i f).length=_;rw [List.length_modify];exact pm.lnl
 cur:=by show 0<=x.cursor/\x.cursor<((x.lanes.modify i f).length:Int);rw [List.length_modify];exact pm.cur
 tim:=pm.tim
 wak:=pm.wak
 slp:=pm.slp
 dead:=pm.dead
 lan:=fun j l h=>by
  have h:(x.lanes.modify i f)[j]? =some l:=h
  rw [List.getElem?_modify] at h
  cases e:x.lanes[j]? with
  | none=>grind
  | some l0=>
   rw [e] at h
   by_cases hij:i=j
   ·grind
   ·simp [hij] at h
    subst h
    exact pm.lan j l0 e
 recv:=fun h=>by
  obtain ⟨a,b,d⟩:=pm.recv h
  refine ⟨a,fun l hl=> ?_,d⟩
  obtain ⟨j,hj⟩:=List.getElem?_of_mem (show l∈x.lanes.modify i f from hl)
  rw [List.getElem?_modify] at hj
  cases e:x.lanes[j]? with
  | none=>grind
  | some l0=>
   rw [e] at hj
   have h0:=b l0 (List.mem_of_getElem? e)
   by_cases hij:i=j
   ·simp [hij] at hj
    rw [<-hj];exact h1 h l0 h0
   grind
 snd:=pm.snd
 lck:=pm.lck
 slpi:=pm.slpi
 regs:=pm.regs
theorem ProcM.wake (pm:ProcM c fl t p z x):ProcM c fl t p z (wakeX x):=by
 by_cases h:x.state=1
 ·have:wakeX x=goX x x.core:=by unfold wakeX goX PProcess.core;rw [if_pos h]
  rw [this]
  exact pm.go (by omega) pm.pc pm.regs
 ·have:wakeX x=x:=by unfold wakeX;rw [if_neg h]
  grind
theorem Good.lane (g:Good c fl s X Z T) (hp:p<nQ c) {i:Nat} {f:PLane->PLane} (hf:∀l,(s.proc p).lanes[i]? =some l->((f l).values.length:Int)<=c.lane/\Cnt (f l).taken/\Cnt (f l).dropped/\(Used (f l)->i<nP c->fl i (pOf c p)=true))
  (hw:∀l,(s.proc p).lanes[i]? =some l->(f l).waiters=l.waiters/\(l.waiters≠ []->(f l).values.length=l.values.length)) (wk:Bool) (h1:wk=false->∀l,l.values=[]->(f l).values=[]):
  Good c fl (s.setP p (if wk then wakeX (laneX (s.proc p) i f) else laneX (s.proc p) i f)) X Z T:=by
 have pm:=g.proc p hp
 have pm':ProcM c fl s.tick p (Z p) (if wk then wakeX (laneX (s.proc p) i f) else laneX (s.proc p) i f):=by
  cases wk with
  | false=>exact pm.lane hf fun _=>h1 rfl
  | true=>
   by_cases h:(s.proc p).state=1
   ·have pm0:ProcM c fl s.tick p (Z p) (goX (s.proc p) (s.proc p).core):=pm.go (by omega) pm.pc pm.regs
    have:=pm0.lane (i:=i) (f:=f) hf fun h=>by have:(0:Int)=1:=h;omega
    have e:wakeX (laneX (s.proc p) i f)=laneX (goX (s.proc p) (s.proc p).core) i f:=by unfold wakeX laneX goX PProcess.core;simp [h]
    grind
   ·exact (pm.lane hf fun h'=>absurd h' h).wake
 have hls:(if wk then wakeX (laneX (s.proc p) i f) else laneX (s.proc p) i f).lanes=(s.proc p).lanes.modify i f:=by cases wk<;>rfl
 refine g.lanes pm' ?_ (by cases wk<;>rfl) (by cases wk<;>rfl) (by grind) (fun j l l' e1 e2=> ?_) hp (fun _ h=>h) fun q h=>.inl h
 ·cases wk with
  | false=>exact .inl rfl
  | true=>
   by_cases h:(s.proc p).state=1
   ·refine .inr ⟨h,?_⟩
    show (if (s.proc p).state=1 then (0:Int) else (s.proc p).state)=0
    rw [if_pos h]
   ·refine .inl ?_
    show (if (s.proc p).state=1 then (0:Int) else (s.proc p).state)=_
    rw [if_neg h]
 ·rw [hls,List.getElem?_modify,e1] at e2
  obtain ⟨_,b2,_⟩:=g.lan p hp j l e1
  grind
theorem zur1 {D:Int->Int->Int->Int} {l:List PIns} {k:Core} {tk self:Int}:((stepP D l k tk self).2.kind=1/\(stepP D l k tk self).1=k)\/(∃n,insL l k.pc=some n/\(zcg n l.length 8).1=0/\
  ((wantP n k.regs=none/\stepP D l k tk self=(zcx1 D n k tk self,⟨0,0,0⟩))\/∃w stays,wantP n k.regs=some (w,stays)/\stepP D l k tk self=(if stays then k else nextC k,w))):=by
 unfold stepP
 grind
theorem zxi1 {n:PIns} {r:List Int} {w:Want} {st:Bool} (h:wantP n r=some (w,st)):
  (w.kind=1/\st=true)\/(n.op=24/\w=⟨2,regR r n.b,regR r n.c⟩/\st=true)\/(n.op=25/\w.kind=3/\st=true)\/(n.op=26/\w.kind=4/\st=true)\/(w.kind=5/\st=false)\/(n.op=28/\w.kind=6/\st=true)\/
   (n.op=29/\w.kind=7/\w.to=n.imm/\st=true)\/(n.op=30/\w.kind=8/\w.to=n.imm/\st=false)\/(w.kind=9/\st=false):=by
 unfold wantP at h
 split at h
 ·cases h;exact .inl ⟨rfl,rfl⟩
 split at h
 ·rename_i e;cases h;exact .inr (.inl ⟨e,rfl,rfl⟩)
 split at h
 ·rename_i e;cases h;exact .inr (.inr (.inl ⟨e,rfl,rfl⟩))
 split at h
 ·rename_i e;cases h;exact .inr (.inr (.inr (.inl ⟨e,rfl,rfl⟩)))
 split at h
 ·rename_i e;cases h;exact .inr (.inr (.inr (.inr (.inl ⟨rfl,rfl⟩))))
 split at h
 ·rename_i e;cases h;exact .inr (.inr (.inr (.inr (.inr (.inl ⟨e,rfl,rfl⟩)))))
 grind
theorem zxj1 {D:Int->Int->Int->Int} {l:List PIns} {k:Core} {tk self:Int} {n:PIns} (hn:insL l k.pc=some n) (hw:(zcg n l.length 8).1=0) (hr:k.regs.length=8):
  (0<=(zcx1 D n k tk self).pc/\(zcx1 D n k tk self).pc<=l.length)/\(zcx1 D n k tk self).regs.length=8:=by
 have hlt:0<=k.pc/\k.pc<l.length:=zaa1 (c:=⟨[],[],0,0,0,0,[⟨0,l⟩]⟩) (p:=0) (x:=⟨0,k.pc,[],0,0,false,0,[]⟩) hn
 have himm:=(zgh1 hw).2.2.2.2.1
 unfold zcx1
 split
 ·exact ⟨⟨by grind,by show k.pc+1<=_;omega⟩,putR_len.trans hr⟩
 split
 ·exact ⟨⟨by show 0<=k.pc+1;omega,by show k.pc+1<=_;omega⟩,putR_len.trans hr⟩
 split
 ·exact ⟨⟨by show 0<=k.pc+1;omega,by show k.pc+1<=_;omega⟩,putR_len.trans hr⟩
 split
 ·exact ⟨⟨by show 0<=k.pc+1;omega,by show k.pc+1<=_;omega⟩,putR_len.trans hr⟩
 split
 ·grind
 split
 ·rename_i e
  split
  ·exact ⟨⟨by show 0<=k.pc+1;omega,by show k.pc+1<=_;omega⟩,hr⟩
  grind
 ·exact ⟨⟨by grind,by show k.pc+1<=_;omega⟩,putR_len.trans hr⟩
end
def zff (p:Int) (s:MS) (l:List Nat):MS:=⟨s.tick,s.part,fun q=>if q∈l then zoq p (s.proc q) else s.proc q⟩
def No :Nat->Prop:=fun _=>False
section
variable {c:PCfg} {fl:Nat->Nat->Bool} {s:MS} {T:Int} {p:Nat} {x:PProcess} {t:Int} {z:Prop}
theorem zkb (h:(s.proc p).state≠2/\(s.proc p).state≠3) {X:Nat->Prop}:Out s X No p:=⟨fun h=>h,.inr h⟩
theorem znr (g:Good c fl s (fun q=>No q/\q≠p) No T):Good c fl s No No T:=g.congr fun _=>⟨fun h=>h.1,fun h=>h.elim⟩
theorem Good.lane_at {X Z:Nat->Prop} (g:Good c fl s X Z T) {q i:Nat} (hq:q<nQ c) (hi:i<=nP c):∃l,(s.proc q).lanes[i]? =some l:=by
 have:=(g.proc q hq).lnl
 exact ⟨_,List.getElem?_eq_getElem (by omega)⟩
theorem ProcM.wait (pm:ProcM c fl t p z x) (h0:x.state=0) {m:Int} (hm:m=2\/m=3) {n:PIns} (hn:insX c p x=some n) (ho:(m=2->n.op=24)/\(m=3->n.op=29)):ProcM c fl t p z {x with state:=m} where
 st:=by grind
 pc:=pm.pc
 lnl:=pm.lnl
 cur:=pm.cur
 tim:=pm.tim
 wak:=pm.wak
 slp:=pm.slp.imp id fun h=>⟨fun h'=>by grind,fun h'=>by grind⟩
 dead:=fun h=>by grind
 lan:=pm.lan
 recv:=fun h=>by grind
 snd:=fun h=>⟨n,hn,ho.1 h⟩
 lck:=fun h=>⟨n,hn,ho.2 h⟩
 slpi:=fun h=>by grind
 regs:=pm.regs
theorem zok1 {α:Type} {l:List α} {i j:Nat} {f:α->α} {a:α} (h:(l.modify i f)[j]? =some a):∃b,l[j]? =some b/\((i=j/\a=f b)\/(i≠j/\a=b)):=by
 grind
theorem zgk1 {α:Type} {l:List α} {i:Nat} {f:α->α} {b:α} (h:l[i]? =some b):(l.modify i f)[i]? =some (f b):=by grind
theorem zus1 {α:Type} {l:List α} {i j:Nat} {f:α->α} (h:i≠j):(l.modify i f)[j]? =l[j]?:=by
 grind
def waitS (c:PCfg) (s:MS) (p q:Nat) (v:Int):MS:=(s.setP q (laneX (s.proc q) (pOf c p) (waitL p v))).setP p {(s.setP q (laneX (s.proc q) (pOf c p) (waitL p v))).proc p with state:=2}
theorem zge2 {q:Nat} {v:Int} (r:Nat):(waitS c s p q v).proc r={(if r=q then laneX (s.proc q) (pOf c p) (waitL p v) else s.proc r) with state:=if r=p then 2 else (s.proc r).state}:=by
 unfold waitS
 by_cases e1:r=p
 ·subst e1
  rw [zaj,if_pos rfl]
  by_cases e2:r=q
  ·subst e2;rw [zaj,if_pos rfl]
  ·rw [zau e2,if_neg e2]
 ·rw [zau e1,if_neg e1]
  by_cases e2:r=q
  ·subst e2;rw [zaj,if_pos rfl];rfl
  ·rw [zau e2,if_neg e2]
theorem Good.wait (m:CfgM c) (g:Good c fl s No No T) {q:Nat} {v:Int} {n:PIns} (hp:p<nQ c) (hq:q<nQ c) (h0:(s.proc p).state=0) (hn:insX c p (s.proc p)=some n) (ho:n.op=24) (hb:regR (s.proc p).regs n.b=(q:Int)) (hc:regR (s.proc p).regs n.c=v)
  (hpq:pOf c p=pOf c q) (hv:zcv (s.proc q)=true) (hf:∀l,(s.proc q).lanes[pOf c p]? =some l->(l.values.length:Int)=c.lane):Good c fl (waitS c s p q v) No No T:=by
 have oo:Out s No No p:=zkb ⟨by omega,by omega⟩
 have hx:=zge2 (c:=c) (s:=s) (p:=p) (q:=q) (v:=v)
 have hpc:∀r,((waitS c s p q v).proc r).pc=(s.proc r).pc/\((waitS c s p q v).proc r).regs=(s.proc r).regs:=fun r=>by
  rw [hx]
  by_cases e:r=q
  ·subst e;rw [if_pos rfl];exact ⟨rfl,rfl⟩
  grind
 have hst:∀r,r≠p->((waitS c s p q v).proc r).state=(s.proc r).state:=fun r e=>by grind
 have hsp:((waitS c s p q v).proc p).state=2:=by grind
 have hln:∀r,r≠q->((waitS c s p q v).proc r).lanes=(s.proc r).lanes:=fun r e=>by rw [hx,if_neg e]
 have hlq:((waitS c s p q v).proc q).lanes=(s.proc q).lanes.modify (pOf c p) (waitL p v):=by rw [hx,if_pos rfl];rfl
 have hins:∀r,insX c r ((waitS c s p q v).proc r)=insX c r (s.proc r):=fun r=>by unfold insX;rw [(hpc r).1]
 have hliv:∀r,zcv (s.proc r)=true->zcv ((waitS c s p q v).proc r)=true:=fun r h=>by
  rw [livesB_iff] at h ⊢
  grind
 have hL:∀ {i r w},LanM c s No No i r w->LanM c (waitS c s p q v) No No i r w:=fun {i r w} h=>by
  have hne:=h.out oo
  obtain ⟨a1,a2,a3,a4,a5⟩:=h
  refine ⟨a1,a2,a3,a4,?_⟩
  grind
 have hself:LanM c (waitS c s p q v) No No (pOf c p) q ⟨(p:Int),v⟩:=by
  refine ⟨by show (0:Int)<=(p:Int);omega,hp,rfl,fun h=>h,.inr ?_⟩
  grind
 refine ⟨g.tick,g.part,fun r hr=> ?_,fun i hi k ow h=> ?_,fun i hi k l h=> ?_,fun r hr i l h=> ?_,fun r hr _ h3=> ?_,fun r hr _ h2=> ?_⟩
 ·have pm:=g.proc r hr
  have pm1:ProcM c fl s.tick r (No r) (if r=q then laneX (s.proc q) (pOf c p) (waitL p v) else s.proc r):=by
   by_cases e:r=q
   ·subst e;rw [if_pos rfl]
    exact pm.lane (fun l hl=>pm.lan _ l hl) fun _ l hl=>hl
   grind
  have e0:(if r=q then laneX (s.proc q) (pOf c p) (waitL p v) else s.proc r).state=(s.proc r).state:=by
   by_cases e:r=q
   ·subst e;rw [if_pos rfl];rfl
   ·rw [if_neg e]
  rw [hx]
  by_cases e:r=p
  ·rw [if_pos e]
   refine pm1.wait (n:=n) (by grind) (.inl rfl) ?_ ⟨fun _=>ho,fun h=>by omega⟩
   have:=hins r
   rw [hx] at this
   rw [e] at this ⊢
   rw [<-hn]
   exact this
  ·rw [if_neg e,<-e0]
   exact pm1
 ·rcases g.own i hi k ow h with h | ⟨h1,h2,h3,h4⟩
  ·exact .inl h
  grind
 ·obtain ⟨h1,h2,h3⟩:=g.que i hi k l h
  refine ⟨h1,fun y hy=> ?_,h3⟩
  have hne:=(h2 y hy).out oo
  obtain ⟨a1,a2,a3,a4,a5⟩:=h2 y hy
  refine ⟨a1,a2,a3,a4,?_⟩
  grind
 ·by_cases e:r=q
  ·subst e
   rw [hlq] at h
   obtain ⟨l0,e0,hc2⟩:=zok1 h
   obtain ⟨b1,b2,b3⟩:=g.lan r hr i l0 e0
   rcases hc2 with ⟨e1,e2⟩ | ⟨e1,e2⟩
   ·subst e1;subst e2
    refine ⟨?_,fun _=>⟨hpq,.inl (hliv r hv),hf l0 e0⟩,fun w hw=> ?_⟩
    ·show ((l0.waiters++ [(⟨(p:Int),v⟩:zdi)]).map (·.proc)).Nodup
     rw [List.map_append,List.nodup_append]
     refine ⟨b1,by simp,fun a ha b hb=> ?_⟩
     obtain ⟨w,hw,rfl⟩:=List.mem_map.1 ha
     have hne:=(b3 w hw).out oo
     have:b=(p:Int):=by simpa using hb
     rw [this]
     intro e
     rw [e] at hne
     exact hne rfl
    ·rcases List.mem_append.1 (show w∈l0.waiters++ [⟨(p:Int),v⟩] from hw) with hw | hw
     ·exact hL (b3 w hw)
     ·rw [List.mem_singleton.1 hw];exact hself
   grind
  ·rw [hln r e] at h
   obtain ⟨b1,b2,b3⟩:=g.lan r hr i l h
   grind
 ·have e:r≠p:=fun e=>by grind
  rw [hst r e] at h3
  exact g.in3 r hr (fun h=>h) h3
 ·by_cases e:r=p
  ·subst e
   obtain ⟨l,hl⟩:=g.lane_at (c:=c) (i:=pOf c r) hq (Nat.le_of_lt m.pOf_lt)
   exact ⟨q,hq,waitL r v l,by grind,⟨(r:Int),v⟩,by show _∈l.waiters++ [(⟨(r:Int),v⟩:zdi)];simp,rfl⟩
  ·rw [hst r e] at h2
   obtain ⟨r',hr',l,hl,w,hw,hwe⟩:=g.in2 r hr (fun h=>h) h2
   by_cases e':r'=q
   ·subst e'
    by_cases e2:pOf c p=pOf c r
    ·exact ⟨r',hr',waitL p v l,by rw [hlq,e2];exact zgk1 hl,w,by show w∈l.waiters++ [_];exact List.mem_append_left _ hw,hwe⟩
    ·exact ⟨r',hr',l,by rw [hlq,zus1 e2];exact hl,w,hw,hwe⟩
   grind
end
theorem ofI_mem {c:PCfg} {i q:Nat}:q∈ofI c i↔q<nQ c/\pOf c q=i:=by unfold ofI;simp
theorem zxk1 {c:PCfg} {i:Nat}:(ofI c i).Nodup:=(List.Pairwise.filter _ List.nodup_range)
def endLX (l:PLane):PLane:={l with waiters:=[]}
def end1 (s:MS) (p:Nat) (st:Int):MS:=s.setP p {s.proc p with state:=st,fired:=false}
def end2 (c:PCfg) (s:MS) (p:Nat) (st:Int):MS:=zff p (end1 s p st) (ofI c (pOf c p))
def end3 (c:PCfg) (s:MS) (p:Nat):MS:=s.setI (pOf c p) (zlh p (s.part (pOf c p))).1
def end4 (c:PCfg) (s:MS) (p:Nat):MS:=(zlh p (s.part (pOf c p))).2.foldl zck (end3 c s p)
def end5 (s:MS) (p:Nat):MS:=s.setP p {s.proc p with timer:=0,wake:=0}
def end6 (s:MS) (p:Nat):MS:=s.setP p {s.proc p with lanes:=(s.proc p).lanes.map endLX}
def end7 (c:PCfg) (s:MS) (p:Nat):MS:=((s.proc p).lanes.flatMap (·.waiters)).foldl (fun s w=>toldS c s w.proc.toNat 2) (end6 s p)
theorem zut1 {c:PCfg} {s:MS} {p:Nat} {st:Int}:endS c s p st=end7 c (end5 (end4 c (end2 c s p st) p) p) p:=by
 have e:(⟨(end1 s p st).tick,(end1 s p st).part,fun q=>if q<nQ c/\pOf c q=pOf c p then zoq p ((end1 s p st).proc q) else (end1 s p st).proc q⟩:MS)=end2 c s p st:=by
  unfold end2 zff
  congr 1
  funext q
  by_cases h:q<nQ c/\pOf c q=pOf c p
  ·rw [if_pos h,if_pos (ofI_mem.2 h)]
  ·rw [if_neg h,if_neg fun h2=>h (ofI_mem.1 h2)]
 have e2:endS c s p st=(let s2:MS:=⟨(end1 s p st).tick,(end1 s p st).part,fun q=>if q<nQ c/\pOf c q=pOf c p then zoq p ((end1 s p st).proc q) else (end1 s p st).proc q⟩;end7 c (end5 (end4 c s2 p) p) p):=rfl
 rw [e2,e]
def flC (c:PCfg) (i j:Nat):Bool:=fl c.labels (i:Int) (j:Int)
structure SaneL (n:Nat) (l:PLane):Prop where
 values:l.values.length<=64
 waiters:l.waiters.length<=100
 taken:Cnt l.taken
 dropped:Cnt l.dropped
 nd:(l.waiters.map (·.proc)).Nodup
 who:∀w∈l.waiters,0<=w.proc/\w.proc<(n:Int)
structure SaneP (c:PCfg) (x:PProcess):Prop where
 pc:0<=x.pc/\x.pc<=1000
 len:x.lanes.length=nP c+1
 cur:0<=x.cursor/\x.cursor<x.lanes.length
 lan:∀l∈x.lanes,SaneL (nQ c) l
structure SaneI (c:PCfg) (x:PPart):Prop where
 cur:0<=x.cursor/\x.cursor<4611686018427387904
 logl:x.log.length<=4096
 lost:Cnt x.lost
 forb:Cnt x.forbidden
 ownl:x.owners.length=x.queues.length
 quel:(x.queues.length:Int)=c.locks
 few:x.queues.length<=8/\∀q∈x.queues,q.length<=100
 nd:∀q∈x.queues,q.Nodup/\∀z∈q,0<=z/\z<(nQ c:Int)
structure Sane (c:PCfg) (s:MS):Prop where
 proc:∀p,p<nQ c->SaneP c (s.proc p)
 part:∀i,i<nP c->SaneI c (s.part i)
theorem zgl1 {x:PProcess} {i:Nat} {l:PLane} {f:PLane->PLane} (h:x.lanes[i]? =some l):laneX x i f={x with lanes:=x.lanes.set i (f l)}:=by
 unfold laneX
 congr 1
 refine List.ext_getElem? fun j=> ?_
 by_cases e:i=j
 ·subst e
  rw [zgk1 h,List.getElem?_set_self (List.getElem?_eq_some_iff.1 h).1]
 ·rw [zus1 e,List.getElem?_set_ne e]
section
variable {h0 h1 k:Hp} {K:MK} {pm:Addr} {s:MS} {tm:Nat->Nat->Int}
theorem Has.partR {i:Nat} (o:Has h0 (MachA K pm s tm) k) (hi:i<nP K.c):∃h1 x lp wp,h0<=h1/\PartZ K i x lp wp (s.part i)/\Has h1 (RecA zbr (K.q i) x) k/\
  ∀x' y' k',PartZ K i x' lp wp y'->x'.log=x.log->y'.log=(s.part i).log->y'.owners=(s.part i).owners->y'.queues=(s.part i).queues->Has h1 (RecA zbr (K.q i) x') k'->Has h0 (MachA K pm (s.setI i y') tm) k':=by
 obtain ⟨h1,x,lp,wp,l1,hz,o1,put⟩:=o.partX hi
 obtain ⟨h2,l2,o2,_,put2⟩:=o1.fst
 refine ⟨h2,x,lp,wp,Hp.le_trans l1 l2,hz,o2,fun x' y' k' hz' e0 e1 e2 e3 o'=> ?_⟩
 have h3:=put2 _ _ o'
 have h4:Has h1 (PartB K i x' lp wp y' (tm i)) k':=by
  unfold PartB
  rw [e0,e1,e2,e3]
  exact h3
 have h5:=put x' y' (tm i) k' hz' h4
 rwa [zlg] at h5
theorem Sane.told (sa:Sane K.c s) {p:Nat} (hp:p<nQ K.c):0<=(s.proc p).pc/\(s.proc p).pc<4611686018427387904:=by have:=(sa.proc p hp).pc;omega
theorem MkOk.ptr (m:MkOk h0 K) (o:Has h0 (MachA K pm s tm) k) {p:Nat} (hp:p<nQ K.c):InB K.x.procs.base K.x.procs.len (p:Int)/\LdIs k (sat K.x.procs.base 1 (p:Int)) [.pointer (some (K.p p))]:=by
 obtain ⟨g1,y,hy,rfl⟩:=m.procAt o.le hp (Q:=fun y=>y=some (K.p p)) rfl
 exact ⟨g1,hy⟩
theorem MkOk.ptrI (m:MkOk h0 K) (o:Has h0 (MachA K pm s tm) k) {p:Nat} (hp:p<nP K.c):InB K.x.parts.base K.x.parts.len (p:Int)/\LdIs k (sat K.x.parts.base 1 (p:Int)) [.pointer (some (K.q p))]:=by
 obtain ⟨g1,y,hy,rfl⟩:=m.partAt o.le hp (Q:=fun y=>y=some (K.q p)) rfl
 exact ⟨g1,hy⟩
theorem zap2 {q i:Nat} {v:Int} {z:S_machine_proc} {a:Addr} {Q:Int->Hp->Prop} (o:Has h0 (MachA K pm s tm) k) (hq:q<nQ K.c) (sa:SaneP K.c (s.proc q)) (hl:K.c.lane<=64) (hi:i<=nP K.c) (hz:ProcZ K q z a (s.proc q)) (hz2:Has h1 (RecA sh_machine_proc (K.p q) z) k)
  (hf:fullX K.c (s.proc q) i=true->Q 19 k) (hn:∀k',fullX K.c (s.proc q) i=false->Has h0 (MachA K pm (s.setP q (laneX (s.proc q) i (inL v))) tm) k'->Q 0 k'):zlw Tryz.prog (some a) (i:Int) v Q k:=by
 obtain ⟨h2,z',a',l2,hz',o3,o2,put⟩:=o.procQ hq
 have ea:a'=a:=by
  obtain ⟨b,eb,hb,_⟩:=hz2.rec_
  obtain ⟨b',eb',hb',_⟩:=o3.rec_
  rw [eb] at eb'
  have e1:b=b':=congrArg Addr.block eb'
  subst e1
  obtain ⟨t,e3⟩:=hb
  obtain ⟨t',e4⟩:=hb'
  rw [e3] at e4
  have e5:(zac (sh_machine_proc.enc z)).toArray=(zac (sh_machine_proc.enc z')).toArray:=by injection e4 with e4;injection e4
  have e6:zac (sh_machine_proc.enc z)=zac (sh_machine_proc.enc z'):=by simpa using e5
  have e7:(zac (sh_machine_proc.enc z))[14]? =(zac (sh_machine_proc.enc z'))[14]?:=by rw [e6]
  have e8:some (Value.pointer z.post)=some (Value.pointer z'.post):=e7
  have e9:z.post=z'.post:=by injection e8 with e8;injection e8
  rw [hz.2.2.2.2.2.2,hz'.2.2.2.2.2.2] at e9
  exact (Option.some.inj e9).symm
 subst ea
 have hlen:=sa.len
 have hg:=List.getElem?_eq_getElem (show i<(s.proc q).lanes.length by omega)
 generalize (s.proc q).lanes[i]=l at hg
 have efull:fullX K.c (s.proc q) i=decide (K.c.lane<=(l.values.length:Int)):=by unfold fullX;rw [hg]
 rw [efull] at hf hn
 refine zql2 o2 hg hl (fun h=>hf (decide_eq_true h)) fun k' h o'=>hn k' (decide_eq_false h) ?_
 rw [zgl1 hg]
 exact put _ _ k' o'
end
section
variable {h0 h1 k:Hp} {K:MK} {pm:Addr} {s:MS} {tm:Nat->Nat->Int}
theorem zxl1 {p:Nat}:s.setP p (s.proc p)=s:=by unfold MS.setP;rw [zlg]
theorem zdk2 {x:PProcess}:(wakeX x).pc=x.pc:=rfl
theorem zuu1 {x:PProcess} {i:Nat} {f:PLane->PLane}:(laneX x i f).pc=x.pc:=rfl
theorem pc_of {p q:Nat} {y:PProcess} (e:y.pc=(s.proc q).pc):((s.setP q y).proc p).pc=(s.proc p).pc:=by
 by_cases h:p=q
 ·subst h;rw [zaj,e]
 ·rw [zau h]
theorem zdl2 {q i:Nat} {Q:Hp->Prop} (o:Has h0 (MachA K pm s tm) k) (hq:q<nQ K.c) (sa:SaneP K.c (s.proc q)) (hi:i<=nP K.c) {C:Prop} (hk:∀k',Has h0 (MachA K pm (s.setP q (laneX (s.proc q) i missL)) tm) k'->Q k'):
  ∃z a,ProcZ K q z a (s.proc q)/\(∀ {K':Option Addr->Prop},K' (some a)->LdW none shPtr k ((K.p q).add 14) K')/\zkd Tryz.prog (some a) (i:Int) Q k:=by
 obtain ⟨h2,z,a,l2,hz,o3,o2,put⟩:=o.procQ hq
 refine ⟨z,a,hz,fun hK=>o3.ld (shf:=shPtr) z.post rfl (by rw [hz.2.2.2.2.2.2];exact hK),?_⟩
 have hlen:=sa.len
 have hg:=List.getElem?_eq_getElem (show i<(s.proc q).lanes.length by omega)
 generalize (s.proc q).lanes[i]=l at hg
 refine znb2 o2 hg (sa.lan l (List.mem_of_getElem? hg)).dropped fun k' o'=>hk k' ?_
 rw [zgl1 hg]
 exact put _ _ k' o'
def zaq2 (c:PCfg) (s:MS) (p q:Nat) (v:Int):MS:=
 if zcv (s.proc q)=false then toldS c s p 2
 else if fullX c (s.proc q) (pOf c p) then
  let s1:=s.setP q (laneX (s.proc q) (pOf c p) (waitL p v))
  s1.setP p {s1.proc p with state:=2}
 else toldS c (s.setP q (wakeX (laneX (s.proc q) (pOf c p) (inL v)))) p 0
theorem zgf2 {p q:Nat} {v:Int} {Q:Hp->Prop} (m:MkOk h0 K) (mc:CfgM K.c) (o:Has h0 (MachA K pm s tm) k) (sa:Sane K.c s) (hp:p<nQ K.c) (hq:q<nQ K.c) (hn:∀l∈(s.proc q).lanes,∀z∈l.waiters,z.proc≠(p:Int))
  (hk:∀k',Has h0 (MachA K pm (zaq2 K.c s p q v) tm) k'->Q k'):zfc Tryz.prog (some pm) (some (K.p p)) (some (K.p q)) v Q k:=by
 unfold zfc
 obtain ⟨h1,zp,ap,l1,hzp,op,_⟩:=o.procR hp
 obtain ⟨h2,zq,aq,l2,hzq,oq,_⟩:=o.procR hq
 unfold zaq2 at hk
 have hpart:pOf K.c p<=nP K.c:=Nat.le_of_lt mc.pOf_lt
 refine zab (oq.ld (shf:=shInt .i64) zq.state rfl ?_)
 refine zmb (zoi1 ?_)
 have es:zq.state=(s.proc q).state:=hzq.2.2.2.1
 have el:(decide (zq.state≠5)&&decide (zq.state≠6))=zcv (s.proc q):=by rw [es];rfl
 rw [el]
 by_cases hl:zcv (s.proc q)=false
 ·rw [if_pos (by rw [hl];rfl)]
  rw [if_pos hl] at hk
  exact zar (zks m o hp (sa.told hp) hk)
 ·rw [if_neg (by cases e:zcv (s.proc q)<;>simp [e] at hl ⊢)]
  rw [if_neg hl] at hk
  refine zab (oq.ld (shf:=shPtr) zq.post rfl ?_)
  refine zab (op.ld (shf:=shInt .i64) zp.part rfl ?_)
  have ep:zp.part=(pOf K.c p:Int):=hzp.2.1
  have eq:zq.post=some aq:=hzq.2.2.2.2.2.2
  rw [ep,eq]
  refine zlz (zap2 o hq (sa.proc q hq) mc.lane.2 hpart hzq oq (fun hf=> ?_) fun k' hf o'=> ?_)
  ·rw [if_pos (by decide)]
   rw [if_pos hf] at hk
   refine zab (oq.ld (shf:=shPtr) zq.post rfl ?_)
   refine zab (op.ld (shf:=shInt .i64) zp.part rfl ?_)
   refine zab (op.ld (shf:=shInt .i64) zp.id_ rfl ?_)
   have ei:zp.id_=(p:Int):=hzp.1
   rw [ep,eq,ei]
   obtain ⟨h3,z',a',l3,hz',o3,o2,put⟩:=o.procQ hq
   have ea:a'=aq:=by
    have e1:=o3.ld (shf:=shPtr) (off:=14) z'.post rfl (K:=fun y=>y=z'.post) rfl
    have e2:=oq.ld (shf:=shPtr) (off:=14) zq.post rfl (K:=fun y=>y=zq.post) rfl
    obtain ⟨y1,g1,rfl⟩:=e1
    obtain ⟨y2,g2,rfl⟩:=e2
    have g1:=g1 0 (.pointer z'.post) rfl
    have g2:=g2 0 (.pointer zq.post) rfl
    rw [g1] at g2
    have e9:z'.post=zq.post:=by injection g2 with g2;injection g2
    rw [hzq.2.2.2.2.2.2,hz'.2.2.2.2.2.2] at e9
    exact Option.some.inj e9
   subst ea
   have hlen:=(sa.proc q hq).len
   have hg:=List.getElem?_eq_getElem (show pOf K.c p<(s.proc q).lanes.length by omega)
   generalize (s.proc q).lanes[pOf K.c p]=l at hg
   have efull:fullX K.c (s.proc q) (pOf K.c p)=decide (K.c.lane<=(l.values.length:Int)):=by unfold fullX;rw [hg]
   have hsl:=fun l hl=>(sa.proc q hq).lan l hl
   have hparts:=mc.parts
   refine zel1 (znd2 o2 ⟨by omega,fun l hl=>⟨(hsl l hl).waiters,by have:=(hsl l hl).values;omega⟩⟩ hn hg (by rw [efull] at hf;exact of_decide_eq_true hf) fun k1 o4=> ?_)
   have o5:=put _ _ _ o4
   have e5:({s.proc q with lanes:=(s.proc q).lanes.set (pOf K.c p) (waitL p v l),cursor:=(s.proc q).cursor}:PProcess)=laneX (s.proc q) (pOf K.c p) (waitL p v):=(zgl1 hg).symm
   rw [e5] at o5
   obtain ⟨h4,z4,a4,l4,hz4,o6,put6⟩:=o5.procR hp
   refine zab (o6.st (zzz z4 2) (by show 3+1<=15;omega) rfl fun k2 o7=> ?_)
   exact hk k2 (put6 _ _ _ (hz4.state 2) rfl rfl o7)
  ·rw [if_neg (by decide)]
   rw [if_neg (by rw [hf];decide)] at hk
   refine zep (zuq1 o' hq fun k1 o1=> ?_)
   rw [zaj,zkv] at o1
   refine zar (zks m o1 hp ?_ hk)
   rw [pc_of (by rw [zdk2,zuu1])]
   exact sa.told hp
end
section
variable {h0 h1 k:Hp} {K:MK} {pm:Addr} {s:MS} {tm:Nat->Nat->Int}
theorem Has.agree {a:Addr} {z z':S_machine_proc} (o3:Has h0 (RecA sh_machine_proc a z') k) (oq:Has h1 (RecA sh_machine_proc a z) k):z'.post=z.post:=by
 obtain ⟨y1,g1,rfl⟩:=o3.ld (shf:=shPtr) (off:=14) z'.post rfl (K:=fun y=>y=z'.post) rfl
 obtain ⟨y2,g2,rfl⟩:=oq.ld (shf:=shPtr) (off:=14) z.post rfl (K:=fun y=>y=z.post) rfl
 have g1:=g1 0 (.pointer z'.post) rfl
 have g2:=g2 0 (.pointer z.post) rfl
 grind
theorem ProcZ.same {p:Nat} {z z':S_machine_proc} {a a':Addr} {y y':PProcess} (hz:ProcZ K p z a y) (hz':ProcZ K p z' a' y') (e:z'.post=z.post):a'=a:=by
 rw [hz.2.2.2.2.2.2,hz'.2.2.2.2.2.2] at e
 grind
theorem znw2 {c:PCfg} {p:Nat} {to v:Int}:sendS c (flC c) s p to v=if to<0\/(nQ c:Int)<=to then toldS c s p 1
 else if flC c (pOf c p) (pOf c to.toNat)=false then toldS c (s.setI (pOf c p) {s.part (pOf c p) with forbidden:=more (s.part (pOf c p)).forbidden}) p 0
 else if pOf c p=pOf c to.toNat then zaq2 c s p to.toNat v
 else if zcv (s.proc to.toNat)=false\/fullX c (s.proc to.toNat) (pOf c p) then toldS c (s.setP to.toNat (laneX (s.proc to.toNat) (pOf c p) missL)) p 0
 else toldS c (s.setP to.toNat (wakeX (laneX (s.proc to.toNat) (pOf c p) (inL v)))) p 0:=rfl
theorem zjx2 {p:Nat} {to v:Int} {Q:Hp->Prop} (m:MkOk h0 K) (mc:CfgM K.c) (o:Has h0 (MachA K pm s tm) k) (sa:Sane K.c s) (hp:p<nQ K.c) (hn:∀q,q<nQ K.c->∀l∈(s.proc q).lanes,∀z∈l.waiters,z.proc≠(p:Int))
  (hk:∀k',Has h0 (MachA K pm (sendS K.c (flC K.c) s p to v) tm) k'->Q k'):zgg Tryz.prog (some pm) (some (K.p p)) to v Q k:=by
 unfold zgg
 rw [znw2] at hk
 have hpl:=m.procsLen
 have e0:(tickX K.x s.tick).procs=K.x.procs:=rfl
 refine zab (o.rec1.ldC (shf:=shSl) K.x.procs rfl ?_)
 refine letW ?_
 rw [hpl]
 by_cases h:to<0\/(nQ K.c:Int)<=to
 ·rw [if_pos (by simp;omega)]
  rw [if_pos h] at hk
  exact zar (zks m o hp (sa.told hp) hk)
 rw [if_neg (by simp;omega)]
 rw [if_neg h] at hk
 have hq:to.toNat<nQ K.c:=by omega
 have et:((to.toNat:Nat):Int)=to:=by omega
 obtain ⟨g1,g2⟩:=m.ptr o hq
 rw [et] at g1 g2
 obtain ⟨h1,zp,ap,l1,hzp,op,putp⟩:=o.procR hp
 obtain ⟨h2,zq,aq,l2,hzq,oq,_⟩:=o.procR hq
 have hi:pOf K.c p<nP K.c:=mc.pOf_lt
 have ep:zp.part=(pOf K.c p:Int):=hzp.2.1
 have eq:zq.part=(pOf K.c to.toNat:Int):=hzq.2.1
 have eqp:zq.post=some aq:=hzq.2.2.2.2.2.2
 refine zab (o.rec1.ld (shf:=shSl) K.x.procs rfl ⟨g1,some (K.p to.toNat),g2,?_⟩)
 refine zab (o.rec1.ld (shf:=shPtr) K.x.table rfl ?_)
 refine zab (op.ld (shf:=shInt .i64) zp.part rfl ?_)
 refine zab (oq.ld (shf:=shInt .i64) zq.part rfl ?_)
 rw [m.t1,ep,eq]
 refine zyo (zai2 (m.t2.mono o.le) m.labU ?_)
 have ef:fl K.c.labels (pOf K.c p:Int) (pOf K.c to.toNat:Int)=flC K.c (pOf K.c p) (pOf K.c to.toNat):=rfl
 rw [ef]
 by_cases hf:flC K.c (pOf K.c p) (pOf K.c to.toNat)=false
 ·rw [if_pos (by rw [hf];rfl)]
  rw [if_pos hf] at hk
  obtain ⟨g3,g4⟩:=m.ptrI o hi
  obtain ⟨h3,x,lp,wp,l3,hx,ox,putx⟩:=o.partR hi
  refine zab (o.rec1.ld (shf:=shSl) K.x.parts rfl ?_)
  refine zab (op.ld (shf:=shInt .i64) zp.part rfl ?_)
  rw [ep]
  refine ⟨g3,_,g4,?_⟩
  refine zab (o.rec1.ld (shf:=shSl) K.x.parts rfl ?_)
  refine zab (op.ld (shf:=shInt .i64) zp.part rfl ?_)
  rw [ep]
  refine ⟨g3,_,g4,?_⟩
  refine zab (ox.ld (shf:=shInt .i64) x.forbidden rfl ?_)
  have ex:x.forbidden=(s.part (pOf K.c p)).forbidden:=hx.2.2.2.1
  rw [ex]
  refine zty (zdj2 (sa.part _ hi).forb ?_)
  refine ⟨⟨o.rec1.ldis (n:=1) rfl,by rw [<-ep];exact op.ldis (n:=1) rfl,g4,trivial⟩,?_⟩
  refine zab (ox.st (⟨x.procs,x.cursor,x.log,x.lost,more (s.part (pOf K.c p)).forbidden,x.locks,x.wheel⟩:S_machine_part) (by show 4+1<=7;omega) rfl fun k1 o1=> ?_)
  have o2:=putx (⟨x.procs,x.cursor,x.log,x.lost,more (s.part (pOf K.c p)).forbidden,x.locks,x.wheel⟩:S_machine_part) {s.part (pOf K.c p) with forbidden:=more (s.part (pOf K.c p)).forbidden} _ ⟨hx.1,hx.2.1,hx.2.2.1,rfl,hx.2.2.2.2⟩ rfl rfl rfl rfl o1
  exact zar (zks m o2 hp (sa.told hp) hk)
 rw [if_neg (by grind)]
 rw [if_neg hf] at hk
 refine zab (op.ld (shf:=shInt .i64) zp.part rfl ?_)
 refine zab (oq.ld (shf:=shInt .i64) zq.part rfl ?_)
 rw [ep,eq]
 by_cases hw:pOf K.c p=pOf K.c to.toNat
 ·rw [if_pos (by rw [hw];simp)]
  rw [if_pos hw] at hk
  exact zqo (zgf2 m mc o sa hp hq (hn _ hq) hk)
 rw [if_neg (by simp;omega)]
 rw [if_neg hw] at hk
 have sq:=sa.proc _ hq
 refine JoinW0.intro (fun k'=>∃y:PProcess,y.pc=(s.proc to.toNat).pc/\Has h0 (MachA K pm (s.setP to.toNat y) tm) k'/\∀k2,Has h0 (MachA K pm (toldS K.c (s.setP to.toNat y) p 0) tm) k2->Q k2) ?_ ?_
 ·have drop:∀(hc:zcv (s.proc to.toNat)=false\/fullX K.c (s.proc to.toNat) (pOf K.c p)=true),
   NilW none (some (K.p to.toNat)) fun p11=>
   LdW none shPtr k (Addr.add p11 14) fun x11=>
   NilW none (some (K.p p)) fun p12=>
   LdW none (shInt .i64) k (Addr.add p12 1) fun x12=>
   Call0 Tryz.prog zgn [(.pointer x11),(.int .i64 x12)] (fun h4=>∃y:PProcess,y.pc=(s.proc to.toNat).pc/\Has h0 (MachA K pm (s.setP to.toNat y) tm) h4/\∀k2,Has h0 (MachA K pm (toldS K.c (s.setP to.toNat y) p 0) tm) k2->Q k2) k:=by
   intro hc
   rw [if_pos hc] at hk
   obtain ⟨z4,a4,hz4,ld4,dr⟩:=zdl2 (C:=True) (Q:=fun h4=>∃y:PProcess,y.pc=(s.proc to.toNat).pc/\Has h0 (MachA K pm (s.setP to.toNat y) tm) h4/\∀k2,Has h0 (MachA K pm (toldS K.c (s.setP to.toNat y) p 0) tm) k2->Q k2) o hq sq (Nat.le_of_lt hi) fun k' o'=>⟨_,zuu1,o',hk⟩
   refine zab (ld4 (zab (op.ld (shf:=shInt .i64) zp.part rfl ?_)))
   rw [ep]
   exact zql dr
  refine zab (oq.ld (shf:=shInt .i64) zq.state rfl ?_)
  refine zmb (zoi1 ?_)
  have es:zq.state=(s.proc to.toNat).state:=hzq.2.2.2.1
  have el:(decide (zq.state≠5)&&decide (zq.state≠6))=zcv (s.proc to.toNat):=by rw [es];rfl
  rw [el]
  refine zab (oq.ldC (shf:=shPtr) zq.post rfl ?_)
  refine zab (op.ldC (shf:=shInt .i64) zp.part rfl ?_)
  rw [ep,eqp]
  by_cases hl:zcv (s.proc to.toNat)=false
  ·rw [hl]
   refine ⟨fun e=>(by cases e),fun _=>⟨0,letW ?_⟩⟩
   grind
  ·have hl':zcv (s.proc to.toNat)=true:=by grind
   rw [hl']
   refine ⟨fun _=> ?_,fun e=>(by cases e)⟩
   refine zlz (zap2 o hq sq mc.lane.2 (Nat.le_of_lt hi) hzq oq (fun hf2=>letW ?_) fun k' hf2 o'=>letW ?_)
   ·grind
   ·rw [if_neg (by decide)]
    rw [if_neg (by grind)] at hk
    refine zep (zuq1 o' hq fun k1 o1=> ?_)
    rw [zaj,zkv] at o1
    exact ⟨_,by rw [zdk2,zuu1],o1,hk⟩
 ·rintro k2 ⟨y,ey,o2,hk2⟩
  refine zar (zks m o2 hp ?_ hk2)
  rw [pc_of ey]
  exact sa.told hp
theorem zxm1 {p:Int} {Q:Int->Hp->Prop} (m:MkOk h0 K) (o:Has h0 (MachA K pm s tm) k) (hk:Q (ztg K.c s p) k):zga Tryz.prog (some pm) p Q k:=by
 unfold zga
 unfold ztg at hk
 have hpl:=m.procsLen
 refine zab (o.rec1.ldC (shf:=shSl) K.x.procs rfl ?_)
 refine letW ?_
 rw [hpl]
 by_cases h:p<0\/(nQ K.c:Int)<=p
 ·rw [if_pos (by simp;omega)]
  rw [if_pos h] at hk
  exact hk
 rw [if_neg (by simp;omega)]
 rw [if_neg h] at hk
 have hq:p.toNat<nQ K.c:=by omega
 have et:((p.toNat:Nat):Int)=p:=by omega
 obtain ⟨g1,g2⟩:=m.ptr o hq
 rw [et] at g1 g2
 obtain ⟨h2,zq,aq,l2,hzq,oq,_⟩:=o.procR hq
 refine zab (o.rec1.ld (shf:=shSl) K.x.procs rfl ⟨g1,some (K.p p.toNat),g2,?_⟩)
 refine zab (oq.ld (shf:=shInt .i64) zq.state rfl ?_)
 refine zmb (zoi1 ?_)
 have es:zq.state=(s.proc p.toNat).state:=hzq.2.2.2.1
 have el:(decide (zq.state≠5)&&decide (zq.state≠6))=zcv (s.proc p.toNat):=by rw [es];rfl
 grind
theorem zgg2 {p v:Int} {Q:Int->Hp->Prop} (m:MkOk h0 K) (mc:CfgM K.c) (o:Has h0 (MachA K pm s tm) k) (sa:Sane K.c s) (hk:∀k',Has h0 (MachA K pm (zoa K.c s p v).1 tm) k'->Q (zoa K.c s p v).2 k'):zdh Tryz.prog (some pm) p v Q k:=by
 unfold zdh
 refine zja (zxm1 m o ?_)
 unfold zoa at hk
 by_cases h:ztg K.c s p≠0
 ·grind
 rw [if_neg (by simpa using h)]
 rw [if_neg h] at hk
 have hr:0<=p/\p<(nQ K.c:Int):=by
  refine Classical.byContradiction fun hn=>h ?_
  unfold ztg
  omega
 have hq:p.toNat<nQ K.c:=by omega
 have et:((p.toNat:Nat):Int)=p:=by omega
 obtain ⟨g1,g2⟩:=m.ptr o hq
 rw [et] at g1 g2
 obtain ⟨h2,zq,aq,l2,hzq,oq,_⟩:=o.procR hq
 have eqp:zq.post=some aq:=hzq.2.2.2.2.2.2
 have sq:=sa.proc _ hq
 refine zab (o.rec1.ld (shf:=shSl) K.x.procs rfl ⟨g1,some (K.p p.toNat),g2,?_⟩)
 refine zab (o.rec1.ld (shf:=shSl) K.x.parts rfl ?_)
 refine zab (oq.ld (shf:=shPtr) zq.post rfl ?_)
 rw [eqp,m.partsLen]
 refine zlz (zap2 o hq sq mc.lane.2 (Nat.le_refl _) hzq oq (fun hf=> ?_) fun k' hf o'=> ?_)
 ·rw [if_pos (by decide)]
  rw [if_pos hf] at hk
  obtain ⟨z4,a4,hz4,ld4,dr⟩:=zdl2 (C:=True) (Q:=fun k'=>Q 19 k') o hq sq (Nat.le_refl _) hk
  exact zab (ld4 (zql dr))
 ·rw [if_neg (by decide)]
  rw [if_neg (by rw [hf];decide)] at hk
  refine zep (zuq1 o' hq fun k1 o1=> ?_)
  rw [zaj,zkv] at o1
  exact hk k1 o1
end
def zlj1 :Prop:=∀ {h0 k:Hp} {p:Addr} {room cursor:Int} {ls:List PLane} {Q:Int->Int->S_api_Waiter->Bool->Int->Hp->Prop},Has h0 (PostA p room ls cursor) k->(ls.length<=1000/\∀l∈ls,Cnt l.taken/\l.values.length<=64)->(0<=cursor/\cursor<ls.length)->
 (zcg1 cursor ls=none->∀k',Has h0 (PostA p room ls cursor) k'->Q 0 0 ⟨0,0⟩ false 21 k')->
 (∀(i:Nat) l v vs,zcg1 cursor ls=some i->ls[i]? =some l->l.values=v::vs->∀k',Has h0 (PostA p room (ls.set i (tookL l)) (((i+1:Nat):Int)%(ls.length:Int))) k'->
  Q v (i:Int) (match l.waiters with | []=>⟨0,0⟩ | w::_=>toW w) (!l.waiters.isEmpty) 0 k')->
 Call5 Tryz.prog zod [.pointer (some p)] (shInt .i64) (shInt .i64) sh_api_Waiter zae (shInt .i64) Q k
section
variable {h0 h1 k:Hp} {K:MK} {pm:Addr} {s:MS} {tm:Nat->Nat->Int}
theorem znx2 {l:List PIns} {k:Core} {v f:Int}:(tookC l k v f).pc=k.pc+1:=by
 unfold tookC
 cases insL l k.pc<;>rfl
theorem zgm1 {p:Nat} {c:S_cpu_Core} {Q:Hp->Prop} (o:Has h0 (MachA K pm s tm) k) (hp:p<nQ K.c) (hq:∀k',Has h0 (MachA K pm (s.setP p ((s.proc p).put (zaz c))) tm) k'->Q k'):
  StW k ((K.p p).add 4) [(.int .i64 c.PC),(.int .i64 c.Regs_0),(.int .i64 c.Regs_1),(.int .i64 c.Regs_2),(.int .i64 c.Regs_3),(.int .i64 c.Regs_4),(.int .i64 c.Regs_5),(.int .i64 c.Regs_6),(.int .i64 c.Regs_7)] Q:=by
 obtain ⟨h1,z,q,l1,hz,o1,put⟩:=o.procR hp
 exact o1.st (coreZ z c) (by show 4+9<=15;omega) rfl fun k2 o3=>hq _ (put _ _ _ (hz.core c) rfl rfl o3)
theorem zxn1 {p:Nat} {try_:Bool} {Q:Hp->Prop} (tk:zlj1) (m:MkOk h0 K) (mc:CfgM K.c) (o:Has h0 (MachA K pm s tm) k) (sa:Sane K.c s) (hp:p<nQ K.c)
  (hk:∀k',Has h0 (MachA K pm (takeS K.c s p try_) tm) k'->Q k'):zgh Tryz.prog (some pm) (some (K.p p)) try_ Q k:=by
 unfold zgh
 obtain ⟨h1,z,q,l1,hz,oz,o1,put⟩:=o.procQ hp
 have sp:=sa.proc p hp
 have eq:z.post=some q:=hz.2.2.2.2.2.2
 refine zab (oz.ld (shf:=shPtr) z.post rfl ?_)
 rw [eq]
 have hparts:=mc.parts
 have hlen:=sp.len
 unfold takeS at hk
 dsimp only at hk
 refine tk o1 ⟨by omega,fun l hl=>⟨(sp.lan l hl).taken,(sp.lan l hl).values⟩⟩ sp.cur (fun hn k1 o2=> ?_) fun i l v vs hs hl hv k1 o2=> ?_
 ·rw [if_neg (by decide)]
  rw [hn] at hk
  dsimp only at hk
  have o3:=put _ _ _ o2
  have e3:s.setP p {s.proc p with lanes:=(s.proc p).lanes,cursor:=(s.proc p).cursor}=s:=zxl1
  rw [e3] at o3
  obtain ⟨h2,z2,q2,l2,hz2,oz2,put2⟩:=o3.procR hp
  have ef:z2.fired=(s.proc p).fired:=hz2.2.2.2.2.2.1
  refine zab (oz2.ld (shf:=zae) z2.fired rfl ?_)
  rw [ef]
  by_cases hf:(s.proc p).fired=true
  ·rw [if_pos hf]
   rw [if_pos hf] at hk
   refine zab (oz2.st (zrn1 z2 false) (by show 13+1<=15;omega) rfl fun k2 o4=> ?_)
   have o5:=put2 _ _ _ (hz2.fired false) rfl rfl o4
   have e:zaz (coreX z2)=(s.proc p).core:=hz2.2.2.2.2.1
   have epc:(coreX z2).PC=(s.proc p).pc:=congrArg Core.pc e
   refine zab (o4.ld (shf:=zad) (coreX z2) rfl ?_)
   refine zab (o4.ld (shf:=shSl) z2.code rfl ?_)
   refine zws (zuo1 (m.insAt o5.le hp hz2) (by rw [epc];exact sa.told hp) fun c' k3 l3 e3=> ?_)
   refine zab (zgm1 (o5.grow l3) hp fun k4 o6=>hk k4 ?_)
   rw [zaj,zkv,e3,e,(m.code p hp).2] at o6
   exact o6
  ·rw [if_neg hf]
   rw [if_neg hf] at hk
   cases try_ with
   | true=>
    rw [if_pos rfl]
    rw [if_pos rfl] at hk
    have e:zaz (coreX z2)=(s.proc p).core:=hz2.2.2.2.2.1
    have epc:(coreX z2).PC=(s.proc p).pc:=congrArg Core.pc e
    refine zab (oz2.ld (shf:=zad) (coreX z2) rfl ?_)
    refine zab (oz2.ld (shf:=shSl) z2.code rfl ?_)
    refine zws (zuo1 (m.insAt o3.le hp hz2) (by rw [epc];exact sa.told hp) fun c' k3 l3 e3=> ?_)
    refine zab (zgm1 (o3.grow l3) hp fun k4 o6=>hk k4 ?_)
    rw [e3,e,(m.code p hp).2] at o6
    exact o6
   | false=>
    rw [if_neg (by decide)]
    rw [if_neg (by decide)] at hk
    exact zab (oz2.st (zzz z2 1) (by show 3+1<=15;omega) rfl fun k2 o4=>hk k2 (put2 _ _ _ (hz2.state 1) rfl rfl o4))
 ·rw [if_pos (by decide)]
  rw [hs] at hk
  dsimp only at hk
  have o3:=put _ _ _ o2
  have e0:(s.proc p).lanes.getD i ⟨[],[],0,0⟩=l:=zhm hl
  rw [e0] at hk
  have e4:({s.proc p with lanes:=(s.proc p).lanes.set i (tookL l),cursor:=((i+1:Nat):Int)%((s.proc p).lanes.length:Int)}:PProcess)={laneX (s.proc p) i tookL with cursor:=((i+1:Nat):Int)%((s.proc p).lanes.length:Int)}:=by rw [zgl1 hl]
  rw [e4] at o3
  obtain ⟨h2,z2,q2,l2,hz2,oz2,put2⟩:=o3.procR hp
  rw [zaj] at hz2
  have e:zaz (coreX z2)=(s.proc p).core:=hz2.2.2.2.2.1
  have epc:(coreX z2).PC=(s.proc p).pc:=congrArg Core.pc e
  refine zab (oz2.ld (shf:=zad) (coreX z2) rfl ?_)
  refine zab (oz2.ld (shf:=shSl) z2.code rfl ?_)
  refine zws (zuo1 (m.insAt o3.le hp hz2) (by rw [epc];exact sa.told hp) fun c' k3 l3 e3=> ?_)
  refine zab (zgm1 (o3.grow l3) hp fun k4 o6=> ?_)
  rw [zaj,zkv,e3,e,(m.code p hp).2] at o6
  have hv0:l.values.headD 0=v:=by rw [hv];rfl
  rw [hv0] at hk
  cases hw:l.waiters with
  | nil=>
   grind
  | cons w ws=>
   rw [if_pos (by simp)]
   rw [hw] at hk
   dsimp only at hk
   have hwr:=(sp.lan l (List.mem_of_getElem? hl)).who w (by grind)
   have hwq:w.proc.toNat<nQ K.c:=by omega
   have ew:((w.proc.toNat:Nat):Int)=w.proc:=by omega
   obtain ⟨g1,g2⟩:=m.ptr o6 hwq
   rw [ew] at g1 g2
   have et:(toW w).Proc=w.proc:=rfl
   rw [et]
   refine zab (o6.rec1.ld (shf:=shSl) K.x.procs rfl ⟨g1,some (K.p w.proc.toNat),g2,?_⟩)
   refine zar (zks m o6 hwq ?_ hk)
   by_cases hwp:w.proc.toNat=p
   ·rw [hwp,zaj]
    show 0<=(tookC _ _ _ _).pc/\(tookC _ _ _ _).pc<_
    rw [znx2]
    have:=(sa.proc p hp).pc
    show 0<=(s.proc p).pc+1/\(s.proc p).pc+1<_
    omega
   ·rw [zau hwp]
    exact sa.told hwq
end
section
variable {h0 h1 k:Hp} {K:MK} {pm:Addr} {s:MS} {tm:Nat->Nat->Int}
theorem Has.aside {A:Asn} {α:Type} {sz:Nat} {enc:α->List Value} {l:Sl} {xs:List α} (o:Has h0 (A.star (SlA sz enc l xs)) k) (henc:∀x,(enc x).length=sz):∃h1,h0<=h1/\Has h1 A k/\Rw h1 sz enc l xs:=by
 obtain ⟨h1,a,b,⟨F2,c,d⟩,_⟩:=o.fst
 exact ⟨h1,a,b,Has.srw (h0:=h0) ⟨a,F2,c,d⟩ henc⟩
theorem zol1 {i:Nat}:s.setI i (s.part i)=s:=by unfold MS.setI;rw [zlg]
theorem Has.partL {i:Nat} (o:Has h0 (MachA K pm s tm) k) (hi:i<nP K.c):∃h1 x lp wp,h0<=h1/\PartZ K i x lp wp (s.part i)/\Has h0 (RecA zbr (K.q i) x) k/\Has h1 (zfj lp (s.part i).owners (s.part i).queues) k/\
  ∀os qs k',Has h1 (zfj lp os qs) k'->Has h0 (MachA K pm (s.setI i {s.part i with owners:=os,queues:=qs}) tm) k':=by
 obtain ⟨h1,x,lp,wp,l1,hz,o1,put⟩:=o.partX hi
 obtain ⟨h2,l2,o2,put2⟩:=o1.f3
 obtain ⟨h3,l3,o3,_,put3⟩:=o2.fst
 refine ⟨h3,x,lp,wp,Hp.le_trans l1 (Hp.le_trans l2 l3),hz,(Has.left o1).mono l1,o3,fun os qs k' o'=> ?_⟩
 have h4:=put x {s.part i with owners:=os,queues:=qs} (tm i) k' hz (put2 _ _ (put3 _ _ o'))
 rwa [zlg] at h4
theorem Has.partW {i:Nat} (o:Has h0 (MachA K pm s tm) k) (hi:i<nP K.c):∃h1 x lp wp,h0<=h1/\PartZ K i x lp wp (s.part i)/\Has h0 (RecA zbr (K.q i) x) k/\Has h1 (zqr wp (tm i) (2*nQ K.c)) k/\
  ∀t' k',Has h1 (zqr wp t' (2*nQ K.c)) k'->Has h0 (MachA K pm s (fset tm i t')) k':=by
 obtain ⟨h1,x,lp,wp,l1,hz,o1,put⟩:=o.partX hi
 obtain ⟨h2,l2,o2,put2⟩:=o1.f3
 obtain ⟨h3,l3,o3,_,put3⟩:=o2.snd
 refine ⟨h3,x,lp,wp,Hp.le_trans l1 (Hp.le_trans l2 l3),hz,(Has.left o1).mono l1,o3,fun t' k' o'=> ?_⟩
 have h4:=put x (s.part i) t' k' hz (put2 _ _ (put3 _ _ o'))
 rwa [zol1] at h4
theorem Has.partG {i:Nat} (o:Has h0 (MachA K pm s tm) k) (hi:i<nP K.c):∃h1 x lp wp,h0<=h1/\PartZ K i x lp wp (s.part i)/\Has h0 (RecA zbr (K.q i) x) k/\Has h1 (SlA 3 eEn x.log (s.part i).log) k/\Has h0 (PartB K i x lp wp (s.part i) (tm i)) k/\
  True:=by
 obtain ⟨h1,x,lp,wp,l1,hz,o1,put⟩:=o.partX hi
 obtain ⟨h2,l2,o2,put2⟩:=o1.f2
 exact ⟨h2,x,lp,wp,Hp.le_trans l1 l2,hz,(Has.left o1).mono l1,o2,o1.mono l1,trivial⟩
theorem zom1 :∀(l:List Int) (s:MS) (q:Nat),(s.proc q).pc<=((l.foldl zck s).proc q).pc/\((l.foldl zck s).proc q).pc<=(s.proc q).pc+l.length
 | [],s,q=>⟨Int.le_refl _,by simp⟩
 | a::l,s,q=>by
  have h:=zom1 l (zck s a) q
  have h2:(s.proc q).pc<=((zck s a).proc q).pc/\((zck s a).proc q).pc<=(s.proc q).pc+1:=by
   unfold zck
   split
   ·unfold goesS
    by_cases e:q=a.toNat
    ·subst e;rw [zaj];show _<=(s.proc _).pc+1/\(s.proc _).pc+1<=_;omega
    ·rw [zau e];omega
   ·omega
  grind
theorem zny2 {l:List PIns} {k:Core} {v:Int}:(toldC l k v).pc=k.pc+1:=by
 unfold toldC
 cases insL l k.pc<;>rfl
theorem zdm2 {c:PCfg} {v:Int}:∀(l:List zdi) (s:MS) (q:Nat),(s.proc q).pc<=((l.foldl (fun s w=>toldS c s w.proc.toNat v) s).proc q).pc/\((l.foldl (fun s w=>toldS c s w.proc.toNat v) s).proc q).pc<=(s.proc q).pc+l.length
 | [],s,q=>⟨Int.le_refl _,by simp⟩
 | a::l,s,q=>by
  have h:=zdm2 (c:=c) (v:=v) l (toldS c s a.proc.toNat v) q
  have h2:(s.proc q).pc<=((toldS c s a.proc.toNat v).proc q).pc/\((toldS c s a.proc.toNat v).proc q).pc<=(s.proc q).pc+1:=by
   unfold toldS
   by_cases e:q=a.proc.toNat
   ·subst e;rw [zaj]
    show _<=(toldC _ _ _).pc/\(toldC _ _ _).pc<=_
    rw [zny2]
    show _<=(s.proc _).pc+1/\(s.proc _).pc+1<=_
    omega
   ·rw [zau e];omega
  grind
theorem zdn2 {p:Int}:∀ {os:List Int} {qs:List (List Int)},(∀a∈(zca p os qs).2.2,a= -1\/∃q∈qs,a∈q)/\(zca p os qs).2.2.length<=qs.length
 | [],qs=>by cases qs<;>simp [zca]
 | o::os,[]=>by simp [zca]
 | o::os,q::qs=>by
  obtain ⟨h1,h2⟩:=zdn2 (p:=p) (os:=os) (qs:=qs)
  have h1':∀a∈(zca p os qs).2.2,a= -1\/∃q'∈q::qs,a∈q':=fun a ha=>(h1 a ha).imp id fun ⟨q',h3,h4⟩=>⟨q',List.mem_cons_of_mem _ h3,h4⟩
  unfold zca
  dsimp only
  split
  ·cases q with
   | nil=>
    refine ⟨fun a ha=> ?_,by simp;omega⟩
    rcases List.mem_cons.1 ha with rfl | ha
    ·exact .inl rfl
    ·exact h1' a ha
   | cons b r=>
    refine ⟨fun a ha=> ?_,by simp;omega⟩
    rcases List.mem_cons.1 ha with rfl | ha
    ·exact .inr ⟨a::r,List.mem_cons_self ..,List.mem_cons_self ..⟩
    ·exact h1' a ha
  grind
theorem zwv {α:Type} {f:α->Bool}:∀ {l:List α} {a:α},a∈zaf f l->a∈l
 | [],_,h=>by cases h
 | b::l,a,h=>by
  unfold zaf at h
  split at h
  ·grind
  ·rcases List.mem_cons.1 h with rfl | h
   ·simp
   ·exact List.mem_cons_of_mem _ (zwv h)
theorem zar2 {p:Int} {l:List Nat} {q:Nat} (h:q∉l):(zff p s l).setP q (zoq p ((zff p s l).proc q))=zff p s (l++ [q]):=by
 unfold zff MS.setP
 congr 1
 funext r
 unfold fset
 grind
end
section
variable {h0 h1 k:Hp} {K:MK} {pm:Addr} {s:MS} {tm:Nat->Nat->Int}
theorem zlk1 {p:Nat} {Q:Int->Hp->Prop} (hp:p<=1000) (hq:Q ((2*p:Nat):Int) k):zlt Tryz.prog (p:Int) Q k:=by
 unfold zlt
 rw [wrap64 (by omega) (by omega),show (2:Int)*(p:Int)=((2*p:Nat):Int) by omega]
 exact hq
theorem zll1 {p:Nat} {Q:Int->Hp->Prop} (hp:p<=1000) (hq:Q ((2*p+1:Nat):Int) k):zlu Tryz.prog (p:Int) Q k:=by
 unfold zlu
 rw [wrap64 (show -9223372036854775808<=(2:Int)*p by omega) (by omega),wrap64 (by omega) (by omega),show (2:Int)*(p:Int)+1=((2*p+1:Nat):Int) by omega]
 exact hq
theorem zjy2 {gs:List S_locks_Given} {sl:Sl} {Q:Hp->Prop} {rest:Hp->Prop} (m:MkOk h0 K) (o:Has h0 (MachA K pm s tm) k) (r:Rw h0 2 eG sl gs) (hl:gs.length<=1000) (hg:∀g∈gs,0<=g.Proc->g.Proc<(nQ K.c:Int))
  (hpc:∀q,q<nQ K.c->0<=(s.proc q).pc/\(s.proc q).pc<=2000) (hk:∀k',Has h0 (MachA K pm ((gs.map (·.Proc)).foldl zck s) tm) k'->rest k'):
  LoopW1 (α1:=Int) (fun again1 t65 h5=>
 (if (decide (t65<((sl.len:Nat):Int)))=true then
 ((InB sl.base sl.len t65)/\LdW none znp h5 (sat sl.base 2 t65) fun x6=>
 Call0 Tryz.prog zbf [(.pointer (some pm)),(.int .i64 x6.Proc)] (fun h6=>
 again1 (IntKind.wrap .i64 (t65+(1:Int))) h6) h5)
 else rest h5)) (0:Int) k:=by
 have hlen:=r.1
 refine LoopW1.intro (fun (t:Int) k'=>0<=t/\t<=(gs.length:Int)/\Has h0 (MachA K pm (((gs.map (·.Proc)).take t.toNat).foldl zck s) tm) k') (fun t _=>(gs.length-t).toNat) ⟨by omega,by omega,by simpa using o⟩ ?_
 rintro t k' ⟨t0,t1,o'⟩
 by_cases h:t<(gs.length:Int)
 ·rw [if_pos (decide_eq_true (by omega))]
  refine Rs.get (sh:=znp) (Rw.mono o'.le r) (fun _=>rfl) (by omega) t0 h fun (g:S_locks_Given) hg1=> ?_
  have hm:=List.mem_of_getElem? hg1
  have hb:=zom1 ((gs.map (·.Proc)).take t.toNat) s g.Proc.toNat
  have hle:((gs.map (·.Proc)).take t.toNat).length<=1000:=by rw [List.length_take,List.length_map];omega
  refine zeb (zoj1 m o' (fun h0=> ?_) fun k2 o2=> ?_)
  ·have:=hg g hm h0
   have:=hpc g.Proc.toNat (by omega)
   omega
  ·rw [wrap64 (by omega) (by omega)]
   refine ⟨⟨by omega,by omega,?_⟩,by omega⟩
   have e:(t+1).toNat=t.toNat+1:=by omega
   have e3:(gs.map (·.Proc))[t.toNat]? =some g.Proc:=by rw [List.getElem?_map,hg1];rfl
   rw [e,List.take_add_one,e3]
   simpa using o2
 ·rw [if_neg (fun e=>h (by have:=of_decide_eq_true e;omega))]
  refine hk k' ?_
  have e:t.toNat=gs.length:=by omega
  rw [e,List.take_of_length_le (by simp)] at o'
  exact o'
theorem znz2 {ws:List zdi} {sl:Sl} {rest:Hp->Prop} (m:MkOk h0 K) (o:Has h0 (MachA K pm s tm) k) (r:Rw h0 2 eW sl ws) (hl:ws.length<=10000) (hg:∀w∈ws,0<=w.proc/\w.proc<(nQ K.c:Int))
  (hpc:∀q,q<nQ K.c->0<=(s.proc q).pc/\(s.proc q).pc<=4000) (hk:∀k',Has h0 (MachA K pm (ws.foldl (fun s w=>toldS K.c s w.proc.toNat 2) s) tm) k'->rest k'):
  LoopW1 (α1:=Int) (fun again2 t100 h11=>
 (if (decide (t100<((sl.len:Nat):Int)))=true then
 ((InB sl.base sl.len t100)/\LdW none sh_api_Waiter h11 (sat sl.base 2 t100) fun x11=>
 NilW none (some pm) fun p13=>
 LdW none shSl h11 (Addr.add p13 11) fun x12=>
 ((InB x12.base x12.len x11.Proc)/\LdW none shPtr h11 (sat x12.base 1 x11.Proc) fun x13=>
 Call0 Tryz.prog zal [(.pointer (some pm)),(.pointer x13),(.int .i64 (2:Int))] (fun h12=>
 again2 (IntKind.wrap .i64 (t100+(1:Int))) h12) h11))
 else rest h11)) (0:Int) k:=by
 have r':Rs h0 sh_api_Waiter 2 sl (ws.map toW):=r.map (f:=toW) (enc:=fun x=>zac (sh_api_Waiter.enc x))
 have hlen:=r.1
 refine LoopW1.intro (fun (t:Int) k'=>0<=t/\t<=(ws.length:Int)/\Has h0 (MachA K pm ((ws.take t.toNat).foldl (fun s w=>toldS K.c s w.proc.toNat 2) s) tm) k') (fun t _=>(ws.length-t).toNat) ⟨by omega,by omega,by simpa using o⟩ ?_
 rintro t k' ⟨t0,t1,o'⟩
 by_cases h:t<(ws.length:Int)
 ·rw [if_pos (decide_eq_true (by omega))]
  refine Rs.get (sh:=sh_api_Waiter) (r'.mono o'.le) (fun _=>rfl) (by omega) t0 (by rw [List.length_map];exact h) fun (g:S_api_Waiter) hg1=> ?_
  obtain ⟨w,hw1,rfl⟩:∃w,ws[t.toNat]? =some w/\toW w=g:=by
   rw [List.getElem?_map] at hg1
   cases e:ws[t.toNat]? with
   | none=>rw [e] at hg1;cases hg1
   | some w=>rw [e] at hg1;exact ⟨w,rfl,Option.some.inj hg1⟩
  have hm:=hg w (List.mem_of_getElem? hw1)
  have hb:=zdm2 (c:=K.c) (v:=2) (ws.take t.toNat) s w.proc.toNat
  have hle:(ws.take t.toNat).length<=10000:=by rw [List.length_take];omega
  have hwq:w.proc.toNat<nQ K.c:=by omega
  have ew:((w.proc.toNat:Nat):Int)=w.proc:=by omega
  obtain ⟨g1,g2⟩:=m.ptr o' hwq
  rw [ew] at g1 g2
  have et:(toW w).Proc=w.proc:=rfl
  rw [et]
  refine zab (o'.rec1.ld (shf:=shSl) K.x.procs rfl ⟨g1,some (K.p w.proc.toNat),g2,?_⟩)
  refine zar (zks m o' hwq ?_ fun k2 o2=> ?_)
  ·have:=hpc w.proc.toNat hwq
   omega
  ·rw [wrap64 (by omega) (by omega)]
   refine ⟨⟨by omega,by omega,?_⟩,by omega⟩
   have e:(t+1).toNat=t.toNat+1:=by omega
   rw [e,List.take_add_one,hw1]
   simpa using o2
 ·rw [if_neg (fun e=>h (by have:=of_decide_eq_true e;omega))]
  refine hk k' ?_
  have e:t.toNat=ws.length:=by omega
  rw [e,List.take_of_length_le (by simp)] at o'
  exact o'
end
section
variable {h0 h1 k:Hp} {K:MK} {pm:Addr} {s:MS} {tm:Nat->Nat->Int}
theorem zjz2 {p i:Nat} {rest:Hp->Prop} (m:MkOk h0 K) (mc:CfgM K.c) (o:Has h0 (MachA K pm s tm) k) (sa:∀q,q<nQ K.c->SaneP K.c (s.proc q)) (hp:p<nQ K.c) (hi:i<nP K.c)
  (hk:∀k',Has h0 (MachA K pm (zff p s (ofI K.c i)) tm) k'->rest k'):
  LoopW1 (α1:=Int) (fun again t35 h3=>
 (if (decide (t35<(((K.own i).len:Nat):Int)))=true then
 ((InB (K.own i).base (K.own i).len t35)/\LdW none (shInt .i64) h3 (sat (K.own i).base 1 t35) fun x4=>
 NilW none (some pm) fun p6=>
 LdW none shSl h3 (Addr.add p6 11) fun x5=>
 ((InB x5.base x5.len x4)/\LdW none shPtr h3 (sat x5.base 1 x4) fun x6=>
 NilW none x6 fun p7=>
 LdW none shPtr h3 (Addr.add p7 14) fun x7=>
 NilW none (some (K.p p)) fun p8=>
 LdW none (shInt .i64) h3 (Addr.add p8 0) fun x8=>
 CallT Tryz.prog zmv [(.pointer x7),(.int .i64 x8)] zae (fun r h4=>
 again (IntKind.wrap .i64 (t35+(1:Int))) h4) h3))
 else rest h3)) (0:Int) k:=by
 have r:=m.own i hi
 have hlen:=r.1
 rw [List.length_map] at hlen
 have hfew:(ofI K.c i).length<=1000:=by
  have h1:(ofI K.c i).length<=(List.range (nQ K.c)).length:=List.length_filter_le ..
  rw [List.length_range] at h1
  have:=mc.procs
  omega
 refine LoopW1.intro (fun (t:Int) k'=>0<=t/\t<=((ofI K.c i).length:Int)/\Has h0 (MachA K pm (zff p s ((ofI K.c i).take t.toNat)) tm) k') (fun t _=>((ofI K.c i).length-t).toNat) ⟨by omega,by omega,by
  have e:zff p s ((ofI K.c i).take (0:Int).toNat)=s:=by unfold zff;simp
  rw [e];exact o⟩ ?_
 rintro t k' ⟨t0,t1,o'⟩
 by_cases h:t<((ofI K.c i).length:Int)
 ·rw [if_pos (decide_eq_true (by omega))]
  refine Rs.get (sh:=shInt .i64) (r.mono o'.le) (fun _=>rfl) (by omega) t0 (by grind) fun (g:Int) hg1=> ?_
  obtain ⟨q,hq1,rfl⟩:∃q:Nat,(ofI K.c i)[t.toNat]? =some q/\(q:Int)=g:=by
   grind
  have hqm:=List.mem_of_getElem? hq1
  have hq:=(ofI_mem.1 hqm).1
  have hnot:q∉(ofI K.c i).take t.toNat:=by
   intro hin
   have hnd:=zxk1 (c:=K.c) (i:=i)
   obtain ⟨hlt,he⟩:=List.getElem?_eq_some_iff.1 hq1
   have hsplit:(ofI K.c i)=(ofI K.c i).take t.toNat++q::(ofI K.c i).drop (t.toNat+1):=by
    rw [<-he,List.getElem_cons_drop,List.take_append_drop]
   grind
  obtain ⟨g1,g2⟩:=m.ptr o' hq
  refine zab (o'.rec1.ld (shf:=shSl) K.x.procs rfl ⟨g1,some (K.p q),g2,?_⟩)
  obtain ⟨h2,z,a,l2,hz,oz,oq,put⟩:=o'.procQ hq
  have eq:z.post=some a:=hz.2.2.2.2.2.2
  refine zab (oz.ld (shf:=shPtr) z.post rfl ?_)
  obtain ⟨h3,zp,ap,l3,hzp,op,_⟩:=o'.procR hp
  refine zab (op.ld (shf:=shInt .i64) zp.id_ rfl ?_)
  have ei:zp.id_=(p:Int):=hzp.1
  rw [eq,ei]
  have eproc:(zff p s ((ofI K.c i).take t.toNat)).proc q=s.proc q:=if_neg hnot
  rw [eproc] at oq put
  have sq:=sa q hq
  have hparts:=mc.parts
  have hlen2:=sq.len
  refine zbs1 (zjk2 oq ⟨by omega,fun l hl=>(sq.lan l hl).waiters⟩ fun b k2 o2=> ?_)
  have o3:=put _ _ _ o2
  rw [wrap64 (by omega) (by omega)]
  refine ⟨⟨by omega,by omega,?_⟩,by omega⟩
  have e:(t+1).toNat=t.toNat+1:=by omega
  have e4:=zar2 (p:=p) (s:=s) hnot
  rw [eproc] at e4
  rw [e,List.take_add_one,hq1]
  show Has h0 (MachA K pm (zff p s ((ofI K.c i).take t.toNat++ [q])) tm) k2
  rw [<-e4]
  exact o3
 ·rw [if_neg (fun e=>h (by have:=of_decide_eq_true e;omega))]
  refine hk k' ?_
  have e:t.toNat=(ofI K.c i).length:=by omega
  grind
theorem zjz1 {q:Nat}:∀ {l:List Int} {s:MS},((l.foldl zck s).proc q).lanes=(s.proc q).lanes
 | [],s=>rfl
 | a::l,s=>by
  rw [List.foldl_cons,zjz1]
  unfold zck
  split
  ·unfold goesS
   by_cases e:q=a.toNat
   ·subst e;rw [zaj];rfl
   ·rw [zau e]
  ·rfl
theorem zgn1 {α:Type} {f:α->Bool}:∀ {l:List α},(zaf f l).length<=l.length
 | []=>Nat.le_refl _
 | b::l=>by
  have:=zgn1 (f:=f) (l:=l)
  unfold zaf
  grind
def zka1 (y:PProcess):PProcess:={y with timer:=0,wake:=0}
def znn (s:MS):MS:=⟨s.tick,s.part,fun q=>zka1 (s.proc q)⟩
theorem zkw :MachA K pm s tm=MachA K pm (znn s) tm:=rfl
theorem zno {p:Nat} {y:PProcess}:znn (s.setP p y)=(znn s).setP p (zka1 y):=by
 unfold znn MS.setP
 dsimp only
 rw [zmi2]
theorem zas2 {c:PCfg} {p:Nat} {v:Int}:znn (toldS c s p v)=toldS c (znn s) p v:=by
 unfold toldS
 rw [zno]
 rfl
theorem zab1 {c:PCfg} {v:Int}:∀ {l:List zdi} {s:MS},znn (l.foldl (fun s w=>toldS c s w.proc.toNat v) s)=l.foldl (fun s w=>toldS c s w.proc.toNat v) (znn s)
 | [],s=>rfl
 | a::l,s=>by rw [List.foldl_cons,zab1,zas2,List.foldl_cons]
theorem zka2 {p:Nat} (o:Has h0 (MachA K pm (((s.proc p).lanes.flatMap (·.waiters)).foldl (fun s w=>toldS K.c s w.proc.toNat 2) (end6 s p)) tm) k):Has h0 (MachA K pm (end7 K.c (end5 s p) p) tm) k:=by
 have e1:((end5 s p).proc p).lanes=(s.proc p).lanes:=by unfold end5;rw [zaj]
 have e2:znn (end6 (end5 s p) p)=znn (end6 s p):=by
  unfold end6 end5
  rw [zaj,zkv,zno,zno]
  rfl
 unfold end7
 rw [e1,zkw,zab1,e2,<-zab1,<-zkw]
 exact o
def endTm (tm:Nat->Nat->Int) (i p:Nat):Nat->Nat->Int:=fset tm i (fset (fset (tm i) (2*p) 0) (2*p+1) 0)
theorem zdo2 {p:Nat} {st:Int} {Q:Hp->Prop} (m:MkOk h0 K) (mc:CfgM K.c) (o:Has h0 (MachA K pm s tm) k) (sa:Sane K.c s) (hp:p<nQ K.c)
  (hk:∀k',Has h0 (MachA K pm (endS K.c s p st) (endTm tm (pOf K.c p) p)) k'->Q k'):zhh Tryz.prog (some pm) (some (K.p p)) st Q k:=by
 unfold zhh
 rw [zut1] at hk
 have hi:pOf K.c p<nP K.c:=mc.pOf_lt
 have hprocs:=mc.procs
 have hparts:=mc.parts
 obtain ⟨h1,z,a,l1,hz,oz,put⟩:=o.procR hp
 refine zab (o.rec1.ld (shf:=shSl) K.x.parts rfl ?_)
 refine zab (oz.ld (shf:=shInt .i64) z.part rfl ?_)
 have ep:z.part=(pOf K.c p:Int):=hz.2.1
 rw [ep]
 obtain ⟨g1,g2⟩:=m.ptrI o hi
 refine ⟨g1,some (K.q (pOf K.c p)),g2,?_⟩
 refine zab (oz.st (zzz z st) (by show 3+1<=15;omega) rfl fun k1 o1=> ?_)
 refine zab (o1.st (zrn1 (zzz z st) false) (by show 13+1<=15;omega) rfl fun k2 o2=> ?_)
 have o3:=put _ _ _ ((hz.state st).fired false) rfl rfl o2
 have o3:Has h0 (MachA K pm (end1 s p st) tm) k2:=o3
 obtain ⟨h2,x,lp,wp,l2,hx,ox,_⟩:=o3.partR hi
 refine zab (ox.ld (shf:=shSl) x.procs rfl ?_)
 have ex:x.procs=K.own (pOf K.c p):=hx.1
 rw [ex]
 have sa1:∀q,q<nQ K.c->SaneP K.c ((end1 s p st).proc q):=fun q hq=>by
  unfold end1
  by_cases e:q=p
  ·subst e;rw [zaj]
   have:=sa.proc q hq
   exact ⟨this.pc,this.len,this.cur,this.lan⟩
  ·rw [zau e];exact sa.proc q hq
 have hpc2:∀q,((end2 K.c s p st).proc q).pc=(s.proc q).pc:=fun q=>by
  have h1:((end1 s p st).proc q).pc=(s.proc q).pc:=by
   unfold end1
   by_cases e:q=p
   ·subst e;rw [zaj]
   ·rw [zau e]
  show (if q∈ofI K.c (pOf K.c p) then zoq p ((end1 s p st).proc q) else (end1 s p st).proc q).pc=_
  split<;>exact h1
 refine zjz2 m mc o3 sa1 hp hi fun k3 o4=> ?_
 have o4:Has h0 (MachA K pm (end2 K.c s p st) tm) k3:=o4
 obtain ⟨h3,x4,lp4,wp4,l4,hx4,ox4,ol,putl⟩:=o4.partL hi
 have el:x4.locks=some lp4:=hx4.2.2.2.2.1
 obtain ⟨h5,z5,a5,l5,hz5,oz5,_⟩:=o4.procR hp
 refine zab (ox4.ld (shf:=shPtr) x4.locks rfl ?_)
 refine zab (oz5.ld (shf:=shInt .i64) z5.id_ rfl ?_)
 have ei:z5.id_=(p:Int):=hz5.1
 rw [el,ei]
 have si:=sa.part _ hi
 have epart:(end2 K.c s p st).part=s.part:=rfl
 rw [epart] at ol putl
 refine zbt1 (zne2 ol ⟨by have:=si.few.1;omega,si.few.2⟩ si.ownl (by omega) fun sl k4 gs hgs o5=> ?_)
 have o6:Has h0 ((MachA K pm (end3 K.c (end2 K.c s p st) p) tm).star (SlA 2 eG sl gs)) k4:=o5.carry fun k' o'=>putl _ _ k' o'
 obtain ⟨h6,l6,o7,hr⟩:=o6.aside (fun _=>rfl)
 have m6:=m.mono l6
 have hgin:=zdn2 (p:=(p:Int)) (os:=(s.part (pOf K.c p)).owners) (qs:=(s.part (pOf K.c p)).queues.map (dropI p))
 have hgslen:gs.length<=8:=by
  have:=hgin.2
  rw [<-hgs,List.length_map,List.length_map] at this
  have:=si.few.1
  omega
 have hrange:∀g∈gs,0<=g.Proc->g.Proc<(nQ K.c:Int):=by
  intro g hg h0
  have:g.Proc∈(zca (p:Int) (s.part (pOf K.c p)).owners ((s.part (pOf K.c p)).queues.map (dropI p))).2.2:=by
   grind
  rcases hgin.1 _ this with h | ⟨q,hq,hm⟩
  ·omega
  ·obtain ⟨q',hq',rfl⟩:=List.mem_map.1 hq
   exact ((si.nd q' hq').2 _ (zwv hm)).2
 have hpc3:∀q,((end3 K.c (end2 K.c s p st) p).proc q).pc=(s.proc q).pc:=hpc2
 refine zjy2 (Q:=Q) m6 o7 hr (by omega) hrange (fun q hq=> ?_) fun k5 o8=> ?_
 ·rw [hpc3]
  have:=(sa.proc q hq).pc
  omega
 have e8:(gs.map (·.Proc)).foldl zck (end3 K.c (end2 K.c s p st) p)=end4 K.c (end2 K.c s p st) p:=by
  show _=(zca (p:Int) ((end2 K.c s p st).part (pOf K.c p)).owners (((end2 K.c s p st).part (pOf K.c p)).queues.map (dropI p))).2.2.foldl zck _
  grind
 rw [e8] at o8
 have hpc4:∀q,q<nQ K.c->0<=((end4 K.c (end2 K.c s p st) p).proc q).pc/\((end4 K.c (end2 K.c s p st) p).proc q).pc<=2000:=fun q hq=>by
  have:=zom1 (gs.map (·.Proc)) (end3 K.c (end2 K.c s p st) p) q
  rw [e8,hpc3,List.length_map] at this
  have:=(sa.proc q hq).pc
  omega
 have hlan4:∀q,((end4 K.c (end2 K.c s p st) p).proc q).lanes=((end2 K.c s p st).proc q).lanes:=fun q=>by
  unfold end4
  rw [zjz1]
  rfl
 generalize hs4:end4 K.c (end2 K.c s p st) p=s4 at*
 obtain ⟨h7,x7,lp7,wp7,l7,hx7,ox7,ow,putw⟩:=o8.partW hi
 have ewh:x7.wheel=some wp7:=hx7.2.2.2.2.2
 obtain ⟨h8,z8,a8,l8,hz8,oz8,_⟩:=o8.procR hp
 refine zab (ox7.ld (shf:=shPtr) x7.wheel rfl ?_)
 refine zab (oz8.ld (shf:=shInt .i64) z8.id_ rfl ?_)
 have ei8:z8.id_=(p:Int):=hz8.1
 rw [ei8]
 refine zeg (zlk1 (by omega) ?_)
 refine ⟨⟨ox7.ldis (n:=1) rfl,trivial⟩,?_⟩
 rw [ewh]
 refine zct (zjh1 ow (by omega) fun b1 k6 o9=> ?_)
 have o10:=putw _ _ o9
 obtain ⟨h9,x9,lp9,wp9,l9,hx9,ox9,ow9,putw9⟩:=o10.partW hi
 have ewh9:x9.wheel=some wp9:=hx9.2.2.2.2.2
 obtain ⟨h10,z10,a10,l10,hz10,oz10,_⟩:=o10.procR hp
 refine zab (ox9.ld (shf:=shPtr) x9.wheel rfl ?_)
 refine zab (oz10.ld (shf:=shInt .i64) z10.id_ rfl ?_)
 have ei10:z10.id_=(p:Int):=hz10.1
 rw [ei10]
 refine zeh (zll1 (by omega) ?_)
 refine ⟨⟨ox9.ldis (n:=1) rfl,trivial⟩,?_⟩
 rw [ewh9]
 refine zct (zjh1 ow9 (by omega) fun b2 k7 o11=> ?_)
 have o12:=putw9 _ _ o11
 rw [zbx,ztd] at o12
 have o12:Has h6 (MachA K pm s4 (endTm tm (pOf K.c p) p)) k7:=o12
 obtain ⟨h11,z11,a11,l11,hz11,oz11,oq11,put11⟩:=o12.procQ hp
 have ep11:z11.post=some a11:=hz11.2.2.2.2.2.2
 refine zab (oz11.ld (shf:=shPtr) z11.post rfl ?_)
 rw [ep11]
 have sp1:=sa1 p hp
 have hl2:∀l∈(s4.proc p).lanes,∃l'∈(s.proc p).lanes,l.waiters.length<=l'.waiters.length/\∀w∈l.waiters,w∈l'.waiters:=by
  intro l hl
  rw [hlan4] at hl
  have e1:((end1 s p st).proc p).lanes=(s.proc p).lanes:=by unfold end1;rw [zaj]
  have hl':l∈(if p∈ofI K.c (pOf K.c p) then zoq p ((end1 s p st).proc p) else (end1 s p st).proc p).lanes:=hl
  rw [if_pos (ofI_mem.2 ⟨hp,rfl⟩)] at hl'
  obtain ⟨l0,hl0,rfl⟩:=List.mem_map.1 hl'
  rw [e1] at hl0
  exact ⟨l0,hl0,zgn1,fun w hw=>zwv hw⟩
 have hlen4:(s4.proc p).lanes.length=nP K.c+1:=by
  rw [hlan4]
  have e1:((end1 s p st).proc p).lanes=(s.proc p).lanes:=by unfold end1;rw [zaj]
  show (if p∈ofI K.c (pOf K.c p) then zoq p ((end1 s p st).proc p) else (end1 s p st).proc p).lanes.length=_
  rw [if_pos (ofI_mem.2 ⟨hp,rfl⟩)]
  show (List.map _ _).length=_
  rw [List.length_map,e1]
  exact (sa.proc p hp).len
 have hw4:∀l∈(s4.proc p).lanes,l.waiters.length<=100:=fun l hl=>by
  obtain ⟨l',h1,h2,_⟩:=hl2 l hl
  have:=((sa.proc p hp).lan l' h1).waiters
  omega
 refine zfx1 (zqm2 oq11 ⟨by omega,hw4⟩ fun sw k8 o13=> ?_)
 have o14:Has h6 ((MachA K pm (end6 s4 p) (endTm tm (pOf K.c p) p)).star (SlA 2 eW sw ((s4.proc p).lanes.flatMap (·.waiters)))) k8:=o13.carry fun k' o'=>put11 _ _ k' o'
 obtain ⟨h12,l12,o15,hr2⟩:=o14.aside (fun _=>rfl)
 have hcnt:((s4.proc p).lanes.flatMap (·.waiters)).length<=900:=by
  have key:∀(m:List PLane),(∀l∈m,l.waiters.length<=100)->(m.flatMap (·.waiters)).length<=m.length*100:=fun m=>by
   induction m with
   | nil=>intro _;simp
   | cons a m ih=>
    intro h
    have:=ih fun l hl=>h l (List.mem_cons_of_mem _ hl)
    have:=h a (List.mem_cons_self ..)
    simp only [List.flatMap_cons,List.length_append,List.length_cons]
    omega
  grind
 refine znz2 (m6.mono l12) o15 hr2 (by omega) (fun w hw=> ?_) (fun q hq=> ?_) fun k9 o16=>hk k9 ?_
 ·obtain ⟨l,hl,hwl⟩:=List.mem_flatMap.1 hw
  obtain ⟨l',h1,_,h3⟩:=hl2 l hl
  exact ((sa.proc p hp).lan l' h1).who w (h3 w hwl)
 ·have e6:((end6 s4 p).proc q).pc=(s4.proc q).pc:=by
   unfold end6
   by_cases e:q=p
   ·subst e;rw [zaj]
   ·rw [zau e]
  grind
 · -- timers are in the wheel alone
  have o17:Has h0 (MachA K pm (((s4.proc p).lanes.flatMap (·.waiters)).foldl (fun s w=>toldS K.c s w.proc.toNat 2) (end6 s4 p)) (endTm tm (pOf K.c p) p)) k9:=o16.mono (Hp.le_trans l6 l12)
  exact zka2 o17
end
end Lf
