/-
  Part 4 of the texts that the claim leans on.
-/
import Derived.Shelf.SlIterI.Collect
import Derived.Sort.LotA
import Derived.Sort.LotB
import Derived.Sort.LotC
import Derived.Sort.LotD3
import Derived.Sort.LotD1
import Derived.Laws.StructEq
import Derived.DeepKeys
import Derived.Shelf.Strings.Search1
import Derived.Shelf.Strings.Search2
import Derived.Shelf.Strings.Search3
import Derived.Shelf.LaysM
import Derived.Test.YtdcokeoodcfphaaGreatProg
import Derived.ChangeKeysEq
import Derived.Test.YtdcokeoodcfphaaGreatMgGhEdges2
set_option maxRecDepth 100000
namespace Lf
open Go Go.Proofs Tryz
theorem V7 {l Q h} (hv:B7 prog l Q h):aa prog J2 [(af).enc l] (aW) Q h:=
 bP [5] (.s (.s (.sq (.s (.bk (.lp [⟨false,9,3⟩] [5] .tt))) .tt))) func181 hv
theorem V9 {eh Q h} (hv:B8 prog eh Q h):aa prog J3 [(af).enc eh] yH Q h:=
 bP [] (.s (.s (.sq (.s (.bk (.lp [⟨false,8,3⟩] [] .tt))) .tt))) func182 hv
theorem zzq {x y Q h} (hv:XI prog x y Q h):aa prog ztj [yH.enc x,yH.enc y] yH Q h:=
 bP [] .tt func183 hv
theorem Rr {x y Q h} (hv:ZA prog x y Q h):aa prog zwp [yH.enc x,yH.enc y] yH Q h:=
 bP [] .tt func184 hv
theorem Rv {x y Q h} (hv:ZB prog x y Q h):bu prog Zo [(ab .u64).enc x,(ab .u64).enc y] (ab .u64) (ab .u64) Q h:=
 show aa prog Zo [(ab .u64).enc x,(ab .u64).enc y] (bC tb [149,149]) (λr=>Q r.1 r.2) h from bP [] .tt func188 hv
theorem zxb {b c Q h} (hv:zvj prog b c Q h):aa prog zvc [yH.enc b,yH.enc c] yH Q h:=
 bP [] .tt func189 hv
theorem YW {b c Q h} (hv:LA prog b c Q h):aa prog Lz [yH.enc b,yH.enc c] yH Q h:=
 bP [] .tt func190 hv
theorem W5 {b c Q h} (hv:KB prog b c Q h):aa prog Kt [yH.enc b,yH.enc c] yH Q h:=
 bP [] .tt func191 hv
theorem J4 {is Q h} (hv:DU prog is Q h):aa prog DT [(aW).enc is] yH Q h:=
 bP [] .tt func192 hv
theorem I2 {bits Q h} (hv:CE prog bits Q h):aa prog Cz [yH.enc bits] (jD .f64) Q h:=
 bP [] .tt func193 hv
theorem LP {f Q h} (hv:Dd prog f Q h):aa prog FK [(jD .f64).enc f] yH Q h:=
 bP [] .tt func194 hv
theorem W7 {f Q h} (hv:CF prog f Q h):aa prog Kw [(jD .f64).enc f] yH Q h:=
 bP [] .tt func195 hv
theorem Se {p lane proc v Q h} (hv:ZT prog p lane proc v Q h):aa prog zzf [(an).enc p,yH.enc lane,yH.enc proc,yH.enc v] yH Q h:=
 bP [] .tt func196 hv
theorem Ry {p Q h} (hv:zws prog p Q h):aa prog zwq [(an).enc p] (jV) Q h:=
 bP [4] (.s (.sp 4 (.rg (cg 0 9++ [(10,[]),(9,[3,7]),(11,[7]),(12,[])])) .tt)) func197 hv
theorem SU {l Q h} (hv:ztu prog l Q h):aa prog V2 [(an).enc l] yH Q h:=
 bP [] .tt func198 hv
theorem Sf {l Q h} (hv:ZU prog l Q h):pI prog ZO [(an).enc l] yH (aF) (aW) yH Q h:=
 show aa prog ZO [(an).enc l] (bC tb [2,97,4,42]) (λr=>Q r.1 r.2.1 r.2.2.1 r.2.2.2) h from bP [3] (.s (.s (.s (.sq (.rg (cg 0 11)) (.s (.s (.sq (.s (.sq (.s (.sq (.rg (cg 0 19)) (.rg (cg 0 7++ [(7,[4])]++cg 8 4)))) .tt)) (.sq (.rg (cg 0 7)) .tt)))))))) func199 hv
theorem zso {l p Q h} (hv:ZC prog l p Q h):aa prog Zq [(an).enc l,yH.enc p] yH Q h:=
 bP [] .tt func200 hv
theorem zkb {s i j Q h} (hv:Rf prog s i j Q h):aa prog zez [(af).enc s,yH.enc i,yH.enc j] (af) Q h:=
 bP [] (.s (.s (.s (.s (.sq (.rg (cg 0 8)) .tt))))) func201 hv
theorem Ue {op Q h} (hv:zyk prog op Q h):pI prog zya [yH.enc op] (aW) (aW) (aW) (aW) Q h:=
 show aa prog zya [yH.enc op] (bC tb [4,4,4,4]) (λr=>Q r.1 r.2.1 r.2.2.1 r.2.2.2) h from bP [] .tt func202 hv
theorem YH {has n Q h} (hv:ztv prog has n Q h):aa prog Pa [(aW).enc has,yH.enc n] yH Q h:=
 bP [] .tt func203 hv
theorem Uh {x has n ak Q h} (hv:zyl prog x has n ak Q h):aa prog JF [(aU).enc x,(aW).enc has,yH.enc n,yH.enc ak] yH Q h:=
 bP [4] .tt func204 hv
theorem zhg {data lo hi first Q h} (hv:SZ prog data lo hi first Q h):bA prog OA [(af).enc data,yH.enc lo,yH.enc hi,yH.enc first] (Q) h:=
 show aa prog OA [(af).enc data,yH.enc lo,yH.enc hi,yH.enc first] (bC tb []) (λ_=>Q) h from bP [] (.s (.bk (.lp [⟨false,8,3⟩] [] (.bk (.s (.s (.jn [⟨false,9,3⟩] [] (.sq (.rg (cg 0 20)) .tt) (.sq (.sq (.rg (cg 0 14)) .tt) (.sq (.rg (cg 0 24)) .tt))))))))) func205 hv
theorem zum {length Q h} (hv:UR prog length Q h):aa prog zoh [yH.enc length] (ab .u64) Q h:=
 bP [] .tt func206 hv
theorem zvv {r Q h} (hv:VK prog r Q h):aa prog zpp [(an).enc r] (ab .u64) Q h:=
 bP [] (.s (.sq (.rg (cg 0 10)) (.sq (.rg (cg 0 10)) (.sq (.rg (cg 0 10)) .tt)))) func207 hv
theorem Rg {data a swaps Q h} (hv:RJ prog data a swaps Q h):aa prog Ox [(af).enc data,yH.enc a,(an).enc swaps] yH Q h:=
 bP [] .tt func208 hv
theorem zja {data a b c swaps Q h} (hv:Tn prog data a b c swaps Q h):aa prog Ti [(af).enc data,yH.enc a,yH.enc b,yH.enc c,(an).enc swaps] yH Q h:=
 bP [] .tt func209 hv
theorem YJ {x Q h} (hv:Pf prog x Q h):aa prog KA [yH.enc x] (aW) Q h:=
 bP [] .tt func210 hv
theorem zsp {x Q h} (hv:ZD prog x Q h):aa prog Zr [yH.enc x] (aW) Q h:=
 bP [] .tt func211 hv
theorem RA {p proc Q h} (hv:ZE prog p proc Q h):aa prog zwr [(an).enc p,yH.enc proc] yH Q h:=
 bP [8] (.s (.sq (.s (.bk (.lp [⟨false,14,3⟩] [8] (.s (.s (.sq (.bk (.s (.s (.bk (.lp [⟨false,23,3⟩] [8] .tt))))) .tt)))))) .tt)) func215 hv
theorem Sh {l p v Q h} (hv:ZV prog l p v Q h):aa prog zzg [(an).enc l,yH.enc p,yH.enc v] yH Q h:=
 bP [] .tt func216 hv
theorem zim {s f Q h} (hv:Rb prog s f Q h):aa prog zec [(af).enc s,(jV).enc f] yH Q h:=
 bP [] (.s (.sq (.s (.bk (.lp [⟨false,8,3⟩] [] .tt))) .tt)) func218 hv
theorem zzr {w a1 Q h} (hv:ztw prog w a1 Q h):aa prog OY [(aF).enc w,.pointer (some a1)] (aW) Q h:=
 bP [2] .tt func219 hv
theorem Uk {op Q h} (hv:zym prog op Q h):aa prog JG [yH.enc op] (pX) Q h:=
 bP [] .tt func220 hv
theorem SX {field a1 Q h} (hv:Iy prog field a1 Q h):aa prog Iw [(pX).enc field,.pointer (some a1)] (aW) Q h:=
 bP [] .tt func221 hv
theorem SK {data a b swaps Q h} (hv:Tp prog data a b swaps Q h):bu prog ID [(af).enc data,yH.enc a,yH.enc b,(an).enc swaps] yH yH Q h:=
 show aa prog ID [(af).enc data,yH.enc a,yH.enc b,(an).enc swaps] (bC tb [3,3]) (λr=>Q r.1 r.2) h from bP [] (.s (.sq (.sq (.rg (cg 0 9)) .tt) .tt)) func223 hv
abbrev PW :bx->List Value:=λx=>ba (fk.enc x)
abbrev Es (h:Hp) (l:Sl) (a:List bx):Prop:=Rw h 2 PW l a
abbrev vI :Int->Value:=(ab .i64).enc
def iK (a:List (Int×Int)) (x:bx):List (Int×Int):=match cN x.a0 a with
 | some q=>if x.a1<q then gC x.a0 x.a1 a else a
 | none=>gC x.a0 x.a1 a
def eN (a:List bx):List (Int×Int):=a.foldl iK []
theorem Sn (c:List (Int×Int)) (x:bx) (a:Int):cN a (iK c x)=if a=x.a0 then (match cN a c with
  | some q=>some (if x.a1<q then x.a1 else q)
  | none=>some x.a1) else cN a c:=by
 unfold iK;cases h:cN x.a0 c with
 | none=>simp only;rw [xh];grind
 | some q=>
  simp only;by_cases e:a=x.a0
  ·subst e;rw [if_pos rfl,h];by_cases b:x.a1<q
   ·rw [if_pos b,xh,if_pos rfl];simp [b]
   grind
  ·rw [if_neg e];by_cases b:x.a1<q
   ·rw [if_pos b,xh,if_neg e]
   ·rw [if_neg b]
def Bj (b:List bx) (a:Int):Option Int->Prop
 | none=>∀x∈b,x.a0≠a
 | some q=>(∃x∈b,x.a0=a/\x.a1=q)/\∀x∈b,x.a0=a->q<=x.a1
theorem So (f:List bx) (a:Int):Bj f a (cN a (eN f)):=by
 have key:∀(l pre:List bx) (b:List (Int×Int)),Bj pre a (cN a b)->Bj (pre++l) a (cN a (l.foldl iK b)):=by
  intro l
  induction l with
  | nil=>simp
  | cons x r o=>
   intro pre b h;have:=o (pre++ [x]) (iK b x) ?_
   ·grind
   ·rw [Sn];by_cases e:a=x.a0
    ·rw [if_pos e];cases c:cN a b with
     | none=>
      rw [c] at h;refine ⟨⟨x,by simp,e.symm,rfl⟩,λy hy d=> ?_⟩;rcases List.mem_append.1 hy with hy | hy
      ·exact absurd d (h y hy)
      grind
     | some q=>
      rw [c] at h;obtain ⟨⟨z,g,i,j⟩,m⟩:=h;simp only;by_cases k:x.a1<q
      ·rw [if_pos k];refine ⟨⟨x,by simp,e.symm,rfl⟩,λy hy d=> ?_⟩;grind
      ·rw [if_neg k];refine ⟨⟨z,by simp [g],i,j⟩,λy hy d=> ?_⟩;grind
    ·rw [if_neg e];cases c:cN a b with
     | none=>
      rw [c] at h;intro y hy;rcases List.mem_append.1 hy with hy | hy
      ·exact h y hy
      grind
     | some q=>rw [c] at h;obtain ⟨⟨z,g,i,j⟩,m⟩:=h;refine ⟨⟨z,by simp [g],i,j⟩,λy hy d=> ?_⟩;grind
 have:=key f [] [] (λx n=>by cases n);simpa [eN] using this
theorem LB (a:List bx) (x:bx):eN (a++ [x])=iK (eN a) x:=by simp [eN]
theorem Ew (b:Int) (v:Int):∀l:List (Int×Int),(gC b v l).length<=l.length+1
 | []=>by simp [gC]
 | (k,u)::r=>by
  simp only [gC];split
  ·simp
  ·have:=Ew b v r;simp;omega
theorem Sq (b:List bx):(eN b).length<=b.length:=by
 have key:∀(l:List bx) (a:List (Int×Int)),(l.foldl iK a).length<=a.length+l.length:=by
  intro l
  induction l with
  | nil=>intro a;simp
  | cons x r c=>
   intro a;have d:=c (iK a x);have e:(iK a x).length<=a.length+1:=by
    unfold iK;split
    ·split
     ·exact Ew _ _ _
     ·omega
    ·exact Ew _ _ _
   grind
 have:=key b [];simpa [eN] using this
theorem yX {a:Type} {l:List a} {i:Nat} {x:a} (h:l[i]? =some x):l.take (i+1)=l.take i++ [x]:=by rw [List.take_add_one,h];rfl
abbrev lW (x:Int):Prop:=0<=x/\x<18446744073709551616
def bit (x:Int) (n:Nat):Bool:=x.toNat.testBit n
theorem tU {x:Int} (h:lW x):IntKind.wrap .u64 x=x:=by
 (try unfold yw);unfold IntKind.wrap
 simp only [IntKind.signed,IntKind.bits];have:=h.1;have:=h.2;simp;omega
theorem Mo {x:Int} (h:lW x):BitVec.ofInt 64 x=BitVec.ofNat 64 x.toNat:=by obtain ⟨n,rfl⟩:=Int.eq_ofNat_of_zero_le h.1;rfl
theorem WS {x n:Int} (h:lW x) (c:0<=n) (f:n<=63):(df .and .u64 (fA .u64 x n) 1==1)=bit x n.toNat:=by
 obtain ⟨X,rfl⟩:=Int.eq_ofNat_of_zero_le h.1;obtain ⟨N,rfl⟩:=Int.eq_ofNat_of_zero_le c;have d:X<18446744073709551616:=by have:=h.2;omega
 have g:N<=63:=by omega
 have a:fA .u64 (X:Int) (N:Int)=((X / 2^N:Nat):Int):=by
  unfold fA;have:min (N:Int).toNat (IntKind.bits .u64)=N:=by simp [IntKind.bits];omega
  rw [this,Int.fdiv_eq_ediv_of_nonneg _ (by exact Int.pow_nonneg (by decide))]
  norm_cast
 rw [a];have e:X / 2^N<18446744073709551616:=Nat.lt_of_le_of_lt (Nat.div_le_self _ _) d;have b:((BitVec.ofInt (IntKind.bits .u64) ((X / 2^N:Nat):Int)&&&BitVec.ofInt (IntKind.bits .u64) 1).toNat)=(X / 2^N)%2:=by show ((BitVec.ofNat 64 (X / 2^N))&&&(BitVec.ofNat 64 1)).toNat=_;rw [BitVec.toNat_and,BitVec.toNat_ofNat,BitVec.toNat_ofNat,Nat.mod_eq_of_lt e];exact Nat.and_one_is_mod _
 simp only [df,b];rw [tU ⟨by omega,by omega⟩];simp only [bit,Int.toNat_natCast,Nat.testBit_eq_decide_div_mod_eq];by_cases hb:(X / 2^N)%2=1
 ·simp [hb]
 ·have:(X / 2^N)%2=0:=by omega
  simp [this]
theorem WW {a b:Int} (j:lW a) (hb:lW b):(df .andNot .u64 a b==0)=true↔∀n,n<64->bit a n=true->bit b n=true:=by
 have e:df .andNot .u64 a b=(((BitVec.ofNat 64 a.toNat)&&& ~~~ (BitVec.ofNat 64 b.toNat)).toNat:Int):=by show IntKind.wrap .u64 ((BitVec.ofInt 64 a&&& ~~~ BitVec.ofInt 64 b).toNat:Int)=_;rw [Mo j,Mo hb,tU ⟨by omega,by have:=((BitVec.ofNat 64 a.toNat)&&& ~~~ (BitVec.ofNat 64 b.toNat)).isLt;omega⟩]
 rw [e];have i:((((BitVec.ofNat 64 a.toNat)&&& ~~~ (BitVec.ofNat 64 b.toNat)).toNat:Int)==0)=true↔(BitVec.ofNat 64 a.toNat)&&& ~~~ (BitVec.ofNat 64 b.toNat)=0#64:=by rw [BitVec.toNat_eq];simp
 rw [i];have f:∀n,n<64->(BitVec.ofNat 64 a.toNat).getLsbD n=bit a n:=λn c=>by rw [BitVec.getLsbD_ofNat];simp [bit,c]
 have g:∀n,n<64->(BitVec.ofNat 64 b.toNat).getLsbD n=bit b n:=λn c=>by rw [BitVec.getLsbD_ofNat];simp [bit,c]
 constructor
 ·intro h n c d;have:=congrArg (λv=>v.getLsbD n) h;simp only [BitVec.getLsbD_and,BitVec.getLsbD_not,f n c,g n c,d,c,decide_true,Bool.true_and,BitVec.getLsbD_zero] at this;simpa using this
 ·intro h;apply BitVec.eq_of_getLsbD_eq;intro n c;simp only [BitVec.getLsbD_and,BitVec.getLsbD_not,f n c,g n c,c,decide_true,Bool.true_and,BitVec.getLsbD_zero];cases d:bit a n with
  | false=>rfl
  | true=>simp [h n c d]
abbrev Us (h:Hp) (l:Sl) (a:List Int):Prop:=Rs h (ab .u64) 1 l a
abbrev Is (h:Hp) (l:Sl) (a:List Int):Prop:=Rs h (ab .i64) 1 l a
theorem YG {P:Program} {l:Sl} {a:List Int} {Q:Int->Int->Hp->Prop} {h:Hp} (r:Us h l a) (C:a.length<=8) (j:a.Pairwise (· < ·)) (n:a=[]->Q 1 0 h) (z:a≠ []->Q 0 0 h):MU P l Q h:=by
 unfold MU;have D:=r.1;split
 ·rename_i e;have e:(l.len:Int)=0:=by simpa using e
  exact n (List.length_eq_zero_iff.1 (by omega))
 ·rename_i e;have e:¬(l.len:Int)=0:=by simpa using e
  split
  ·grind
  ·refine au.intro (λi k=>k=h/\1<=i/\i<=(a.length:Int)) (λi _=>(a.length-i).toNat) ⟨rfl,by omega,by omega⟩ ?_;rintro i k ⟨rfl,A,B⟩;split
   ·rename_i b;have b:i<(l.len:Int):=by simpa using b
    have o:yw (i-1)=i-1:=aI;rw [o];refine r.get (λ_=>rfl) (by omega) (by omega) (by omega) λ(x:Int) c=> ?_;refine r.get (λ_=>rfl) (by omega) (by omega) (by omega) λ(y:Int) f=> ?_;have E:y<x:=by
     have m:(i-1).toNat<i.toNat:=by omega
     have t:=(List.getElem?_eq_some_iff.1 c);have w:=(List.getElem?_eq_some_iff.1 f);obtain ⟨q,s⟩:=t;obtain ⟨u,v⟩:=w;rw [<-s,<-v];exact List.pairwise_iff_getElem.1 j _ _ u q m
    rw [if_neg (show ¬((x==y)=true) by simp;omega)];refine r.get (λ_=>rfl) (by omega) (by omega) (by omega) λ(F:Int) d=> ?_;rw [c] at d;cases d;refine r.get (λ_=>rfl) (by omega) (by omega) (by omega) λ(G:Int) g=> ?_;rw [f] at g;cases g;rw [if_neg (show ¬(decide (x<y)=true) by simp;omega)];have p:yw (i+1)=i+1:=aI;rw [p];exact ⟨⟨rfl,by omega,by omega⟩,by omega⟩
   grind
abbrev PO (a h:Hp) (l:Sl) (xs:List Int):Prop:=Own a h 1 (λx=>ba ((ab .u64).enc x)) l xs
abbrev Bm (a h:Hp) (l:Sl) (xs:List Int):Prop:=Own a h 1 (λx=>ba ((ab .i64).enc x)) l xs
def mi (a b:Int):Bool:=(List.range 64).all λn=> !bit a n || bit b n
theorem mL {a b:Int}:mi a b=true↔∀n,n<64->bit a n=true->bit b n=true:=by unfold mi;grind
theorem YZ {a b:Int} {Q:Bool->Hp->Prop} {h:Hp} (c:lW a) (hb:lW b) (d:Q (mi a b) h):zyj prog a b Q h:=by
 unfold zyj;have:(df .andNot .u64 a b==0)=mi a b:=by rw [Bool.eq_iff_iff,WW c hb,mL]
 grind
def fl (a:List Int) (i j:Int):Bool:=if 0<=i/\i<(a.length:Int)/\0<=j/\j<(a.length:Int) then mi (a.getD i.toNat 0) (a.getD j.toNat 0) else false
theorem AK {xs:List Int} {i j:Int} {x y:Int} (h:0<=i/\0<=j) (a:xs[i.toNat]? =some x) (b:xs[j.toNat]? =some y):fl xs i j=mi x y:=by have c:=(List.getElem?_eq_some_iff.1 a).1;have d:=(List.getElem?_eq_some_iff.1 b).1;unfold fl;grind
theorem KF {xs:List Int} {i j:Int} (h:¬(0<=i/\i<(xs.length:Int)/\0<=j/\j<(xs.length:Int))):fl xs i j=false:=by unfold fl;rw [if_neg h]
def oZ :List Int->Nat->List MapEntry
 | [],_=> []
 | x::r,j=>{key:=.int .u64 x,val:=.int .i64 (j:Int),born:=j}::oZ r (j+1)
def place (a:Int):List Int->Nat->Option Nat
 | [],_=>none
 | x::r,j=>if a=x then some j else place a r (j+1)
theorem Mp (a:Int):∀(b:List Int) (j:Nat),Instr.findNow (.int .u64) (.int .u64 a) (oZ b j) j=some ((place a b j).map λ(k:Nat)=>(k,Value.int .i64 (k:Int)))
 | [],j=>rfl
 | x::r,j=>by
  simp only [oZ,Instr.findNow,Instr.sameNow,if_true,place];by_cases h:a=x
  ·simp [h]
  ·have:(a==x)=false:=by simpa using h
   rw [this];simp only [if_neg h];exact Mp a r (j+1)
theorem Mq :∀(a:List Int) (x:Int) (j:Nat),oZ (a++ [x]) j=oZ a j++ [{key:=.int .u64 x,val:=.int .i64 ((j+a.length:Nat):Int),born:=j+a.length}]
 | [],x,j=>by simp [oZ]
 | y::r,x,j=>by simp only [List.cons_append,oZ,Mq r x (j+1),List.length_cons];grind
theorem LC {a:Int}:∀ {b:List Int} {j:Nat},a∉b->place a b j=none
 | [],_,_=>rfl
 | x::r,j,h=>by simp only [place];rw [if_neg λe=>h (by grind)];exact LC λe=>h (List.mem_cons_of_mem _ e)
structure rW (h:Hp) (p:Addr) (ls:List Int):Prop where
 ex:∃(sl:Sl) (m:Nat),aR h p [sl.v,.map (some m)]/\Us h sl ls/\h m=some (.map (oZ ls 0).toArray ls.length)
theorem rW.mono {h b:Hp} {p:Addr} {c:List Int} (a:h<=b) (t:rW h p c):rW b p c:=by obtain ⟨sl,m,d,e,f⟩:=t.ex;exact ⟨sl,m,nr a d,e.mono a,a _ _ f⟩
theorem rW.sl {h:Hp} {p:Addr} {a:List Int} (t:rW h p a) {K:Sl->Prop} (d:∀sl,Us h sl a->K sl):aD none af h (p.add 0) K:=by
 obtain ⟨sl,m,b,c,e⟩:=t.ex;refine ⟨sl,λi v hv=> ?_,d sl c⟩;cases i with
 | zero=>have:=b 0 v (by simpa [ba,Sl.v] using hv);rw [rY];exact this
 | succ i=>simp [ba] at hv
theorem rW.GJ {h:Hp} {p:Addr} {a:List Int} (t:rW h p a) {c:Bool} {K:Sl->Prop} (e:∀sl,Us h sl a->K sl):aD (some c) af h (p.add 0) K:=by obtain ⟨sl,b,d⟩:=t.sl e;exact ⟨sl,λ_=>b,d⟩
theorem rW.map {h:Hp} {p:Addr} {a:List Int} (t:rW h p a) {K:Option Nat->Prop} (d:∀m,h m=some (.map (oZ a 0).toArray a.length)->K (some m)):aD none gE h (p.add 1) K:=by
 obtain ⟨sl,m,b,e,c⟩:=t.ex;refine ⟨some m,λi v hv=> ?_,d m c⟩;cases i with
 | zero=>have:=b 1 v (by simpa [ba] using hv);rw [rY];exact this
 | succ i=>simp [ba] at hv
theorem NO {p:Addr} {a:List Int} {i:Int} {Q:Bool->Hp->Prop} {h:Hp} (t:rW h p a) (b:Q (decide (0<=i)&&decide (i<(a.length:Int))) h):ZS prog (some p) i Q h:=by unfold ZS;refine aP (t.GJ λsl c=>aE ?_);rw [c.1];exact b
theorem KH {p:Addr} {a:List Int} {i j:Int} {Q:Bool->Hp->Prop} {h:Hp} (t:rW h p a) (l:∀x∈a,lW x) (d:Q (fl a i j) h):XA prog (some p) i j Q h:=by
 unfold XA;refine zub (NO t ?_);generalize c:(decide (0<=i)&&decide (i<(a.length:Int)))=ci;refine ⟨λe=>zub (NO t ?_),λe=>⟨false,?_⟩⟩
 ·generalize b:(decide (0<=j)&&decide (j<(a.length:Int)))=q;refine aE ?_;subst e;rw [Bool.true_and];simp at c;refine aP (t.GJ λsl f=> ?_);refine Rs.mj f (0:Int) (λ_=>rfl) (by omega) (λ_=>c) λ(x:Int) m=> ?_;refine aP (t.GJ λo g=> ?_);refine Rs.mj g (0:Int) (λ_=>rfl) (by omega) (λe=>by grind) λ(y:Int) n=> ?_;refine ⟨λe=> ?_,λe=>⟨false,?_⟩⟩
  ·have ex:=m e;have k:=n e;rw [e] at b;simp at b;refine Uc (YZ (l x (List.mem_of_getElem? ex)) (l y (List.mem_of_getElem? k)) (aE ?_));rw [e,Bool.true_and,<-AK ⟨c.1,b.1⟩ ex k];exact d
  ·refine aE ?_;rw [e] at b ⊢;rw [Bool.false_and,<-KF (xs:=a) (i:=i) (j:=j) (by simp at b;omega)];exact d
 ·subst e;simp at c;refine aE ?_;rw [Bool.false_and];refine aP (t.GJ λsl f=> ?_);refine Rs.mj f (0:Int) (λ_=>rfl) (by omega) (λe=>by cases e) λ(x:Int) m=> ?_;refine aP (t.GJ λo g=> ?_);refine Rs.mj g (0:Int) (λ_=>rfl) (by omega) (λe=>by cases e) λ(y:Int) n=> ?_;refine ⟨λe=>(by cases e),λe=>⟨false,aE ?_⟩⟩;rw [Bool.false_and,<-KF (xs:=a) (i:=i) (j:=j) (by omega)];exact d
theorem UD {s:Sl} {xs:List Int} {Q:Sl->Hp->Prop} {h:Hp} (r:Us h s xs) (j:xs.length<=1000000) (f:∀out b,h<=b->PO h b out xs->Q out b):OB prog s Q h:=by
 unfold OB;refine ⟨s.base.isNone,MP (bW.cm 22 yu rfl) s,?_⟩;cases hb:s.base with
 | none=>
  rw [if_pos (show (none:Option Addr).isNone=true from rfl)];have:xs=[]:=by
   rcases r.2.2 with e | ⟨a,i,_⟩
   ·grind
   grind
  subst this;exact f _ h (Hp.le_refl h) ⟨rfl,Nat.le_refl _,.inl ⟨rfl,rfl⟩⟩
 | some a=>
  rw [iT];refine uJ (xs:=([]:List Int)) (enc:=λx=>ba ((ab .u64).enc x)) (sz:=1) (Hp.le_refl h) rfl (λ_=>rfl) λa g c d=> ?_;refine E0 c d (Rw.mono c r) (λ_=>rfl) (λ_=>rfl) rfl ?_ λm b k l _=> ?_
  ·simp;omega
  grind
theorem Qx {a:List Int} (f:a.Pairwise (· < ·)) {t:Nat} {x:Int} (g:a[t]? =some x):x∉a.take t:=by
 intro e;obtain ⟨i,hi⟩:=List.mem_iff_getElem?.1 e;rw [List.getElem?_take] at hi;split at hi
 ·rename_i d;obtain ⟨b,h⟩:=List.getElem?_eq_some_iff.1 hi;obtain ⟨c,j⟩:=List.getElem?_eq_some_iff.1 g;have:=List.pairwise_iff_getElem.1 f i t b c d;omega
 ·cases hi
theorem YI {l:Sl} {a:List Int} {Q:Option Addr->Int->Int->Hp->Prop} {h:Hp} (r:Us h l a) (G:a.length<=8) (s:a.Pairwise (· < ·)) (L:a=[]->Q none 1 0 h)
  (E:a≠ []->∀p g,h<=g->rW g p a->Q (some p) 0 0 g):MT prog l Q h:=by
 unfold MT;refine zvr (YG r G s (λe=> ?_) (λe=> ?_))
 ·grind
 rw [iT];refine zhf (UD r (by omega) λout q y J=> ?_);intro m A;have z:q<=q.set m (.map #[] 0):=lx A;intro b t hb;have n:=lx (o:=.cells (([out.v,.map (some m)]:List Value).toArray) t (0,0)) hb;have I:h m=none:=tY y A;have M:b≠m:=λe=>by rw [e,kK] at hb;cases hb
 have K:Us q out a:=J.rw λ_=>rfl;refine ⟨_,rfl,out,?_,?_⟩
 ·intro i v hv;cases i with
  | zero=>rw [rY];exact Ab 0 v (by simpa [ba,Sl.v] using hv)
  | succ i=>simp [ba] at hv
 refine au.intro (λi k=>h<=k/\0<=i/\i<=(a.length:Int)/\Us k out a/\aR k ⟨b,0,none⟩ [out.v,.map (some m)]/\k m=some (.map (oZ (a.take i.toNat) 0).toArray i.toNat)) (λi _=>(a.length-i).toNat)
  ⟨Hp.le_trans y (Hp.le_trans z n),by omega,by omega,Rw.mono (Hp.le_trans z n) K,Ab,n _ _ kK⟩ ?_
 rintro i k ⟨w,F,N,f,hp,d⟩;have O:=f.1;split
 ·rename_i e;have e:i<(out.len:Int):=by simpa using e
  refine Rs.get f (λ_=>rfl) (by omega) F (by omega) λ(x:Int) B=> ?_;refine ⟨_,rfl,some m,?_,?_⟩
  ·intro j v hv;cases j with
   | zero=>have:=hp 1 v (by simpa [ba] using hv);rw [rY];exact this
   | succ j=>simp [ba] at hv
  have H:(a.take i.toNat).length=i.toNat:=by grind
  refine ⟨m,_,_,rfl,d,.inl ⟨?_,?_⟩⟩
  ·have:=Mp x (a.take i.toNat) 0;rw [LC (Qx s B)] at this;exact this
  ·have u:∀o,pG k (k.set m o):=λo=>Yy d rfl;rw [aI];refine ⟨⟨Nz w I,by omega,by omega,Rw.ck (u _) f,Ja (u _) hp,?_⟩,by omega⟩;rw [kK];have C:(i+1).toNat=i.toNat+1:=by omega
   have c:a.take (i.toNat+1)=a.take i.toNat++ [x]:=by rw [List.take_add_one,B];rfl
   rw [C,c,Mq,H];grind
 ·rename_i c;have c:¬i<(out.len:Int):=by simpa using c
  have D:i.toNat=a.length:=by omega
  rw [D,List.take_length] at d;exact E e _ _ w ⟨out,m,hp,f,d⟩
def qu :Int->List Int->Int->Int×Int
 | _,[],_=>(0,0)
 | p,x::r,i=>if x=p then (8,i) else if x<p then (7,i) else qu x r (i+1)
def jf :List Int->Int×Int
 | []=>(1,0)
 | x::r=>if 8<r.length+1 then (3,8) else qu x r 1
theorem Mr :∀ {r:List Int} {p i:Int},(qu p r i).1=0↔(p::r).Pairwise (· < ·)
 | [],p,i=>by simp [qu]
 | x::r,p,i=>by
  simp only [qu];by_cases b:x=p
  ·rw [if_pos b,List.pairwise_cons];refine ⟨λe=>(by cases e),λh=> ?_⟩;have:=h.1 x (List.mem_cons_self ..);omega
  ·rw [if_neg b];by_cases c:x<p
   ·rw [if_pos c,List.pairwise_cons];refine ⟨λe=>(by cases e),λh=> ?_⟩;have:=h.1 x (List.mem_cons_self ..);omega
   ·rw [if_neg c,Mr,List.pairwise_cons (a:=p)];refine ⟨λh=>⟨λy hy=> ?_,h⟩,λh=>h.2⟩;rcases List.mem_cons.1 hy with rfl | hy
    ·omega
    ·have:=(List.pairwise_cons.1 h).1 y hy;omega
theorem iG {a:List Int}:(jf a).1=0↔a≠ []/\a.length<=8/\a.Pairwise (· < ·):=by
 cases a with
 | nil=>simp [jf]
 | cons x r=>
  simp only [jf,List.length_cons];by_cases h:8<r.length+1
  ·grind
  ·rw [if_neg h,Mr];grind
theorem E8 {P:Program} {l:Sl} {f:List Int} {Q:Int->Int->Hp->Prop} {h:Hp} (r:Us h l f) (e:Q (jf f).1 (jf f).2 h):MU P l Q h:=by
 unfold MU;have o:=r.1;cases u:f with
 | nil=>subst u;rw [if_pos (by simp [o])];exact e
 | cons b a=>
  subst u;simp only [List.length_cons] at o;rw [if_neg (show ¬(((l.len:Int)==0)=true) by simp;omega)];by_cases m:(l.len:Int)>8
  ·rw [if_pos (decide_eq_true m)];have:jf (b::a)=(3,8):=by simp only [jf];grind
   grind
  rw [if_neg λg=>m (of_decide_eq_true g)];have E:jf (b::a)=qu b a 1:=by simp only [jf];grind
  rw [E] at e;refine au.intro (λi k=>k=h/\1<=i/\i<=((a.length:Int)+1)/\∃p,(b::a)[(i-1).toNat]? =some p/\qu p ((b::a).drop i.toNat) i=qu b a 1) (λi _=>(a.length+1-i).toNat)
   ⟨rfl,by omega,by omega,b,rfl,rfl⟩ ?_
  rintro i k ⟨rfl,F,G,p,hp,c⟩;split
  ·rename_i d;have d:i<(l.len:Int):=by simpa using d
   have H:((b::a).length:Int)=(a.length:Int)+1:=by simp
   rw [wrap64 (n:=i-1) (by omega) (by omega)];refine r.get (λ_=>rfl) (by omega) (by omega) (by omega) λ(x:Int) j=> ?_;refine r.get (λ_=>rfl) (by omega) (by omega) (by omega) λ(y:Int) v=> ?_;rw [hp] at v;cases v;have D:(b::a).drop i.toNat=x::(b::a).drop (i.toNat+1):=by obtain ⟨B,C⟩:=List.getElem?_eq_some_iff.1 j;rw [List.drop_eq_getElem_cons B,C]
   rw [D] at c;simp only [qu] at c;by_cases t:x=p
   ·grind
   rw [if_neg (by simpa using t)];rw [if_neg t] at c;refine r.get (λ_=>rfl) (by omega) (by omega) (by omega) λ(I:Int) s=> ?_;rw [j] at s;cases s;refine r.get (λ_=>rfl) (by omega) (by omega) (by omega) λ(J:Int) w=> ?_;rw [hp] at w;cases w;by_cases q:x<p
   ·grind
   rw [if_neg λg=>q (of_decide_eq_true g)];rw [if_neg q] at c;rw [aI];have z:(i+1).toNat=i.toNat+1:=by omega
   have A:(i+1-1).toNat=i.toNat:=by omega
   exact ⟨⟨rfl,by omega,by omega,x,by rw [A];exact j,by rw [z];exact c⟩,by omega⟩
  ·rename_i d;have d:¬i<(l.len:Int):=by simpa using d
   rw [List.drop_eq_nil_of_le (by simp;omega)] at c;rw [<-c] at e;exact e
theorem Jq {l:Sl} {a:List Int} {Q:Option Addr->Int->Int->Hp->Prop} {h:Hp} (r:Us h l a) (j:(jf a).1≠0->Q none (jf a).1 (jf a).2 h)
  (d:(jf a).1=0->∀p b,h<=b->rW b p a->Q (some p) 0 0 b):MT prog l Q h:=by
 by_cases c:(jf a).1=0
 ·obtain ⟨i,g,f⟩:=iG.1 c;exact YI r g f (λe=>absurd e i) λ_=>d c
 ·unfold MT;refine zvr (E8 r ?_);grind
end Lf
namespace Lf
open Go Go.Proofs Go.RowKit Go.Maps Go.Shelf
def Jr :Ren where
 f:=λx=>match x with
  | 8=>62
  | 11=>118
  | 10=>64
  | n=>n
 t:=λx=>match x with
  | 26=>3
  | 3=>3
  | 28=>75
  | 24=>23
  | 0=>0
  | 33=>82
  | 4=>4
  | 23=>69
  | n=>n
 g:=λx=>x
theorem Qz :SlLaysZI.n8 Tryz.prog Jr where
 mixed:=rfl
 f8:=⟨ "slices.Collect[int]",of_decide_eq_true rfl,Tryz.func62.trans (congrArg some rfl)⟩
 f11:=⟨ "slices.AppendSeq[[]int,int]",of_decide_eq_true rfl,Tryz.func118.trans (congrArg some rfl)⟩
 t0:=Tryz.underlying0
 a0:=Tryz.isAgg0
 z0:=Tryz.sizeOf0
 v0:=Tryz.zeroValue0
 t24:=Tryz.underlying23
 a24:=Tryz.isAgg23
 z24:=Tryz.sizeOf23
 v24:=Tryz.zeroValue23
 t26:=Tryz.underlying3
 a26:=Tryz.isAgg3
 z26:=Tryz.sizeOf3
 v26:=Tryz.zeroValue3
 t28:=Tryz.underlying75
 a28:=Tryz.isAgg75
 z28:=Tryz.sizeOf75
 v28:=Tryz.zeroValue75
 i26:=by kernel_rfl
theorem WZ :SlLaysZI.n10 Tryz.prog Jr where
 mixed:=rfl
 f10:=⟨ "maps.Keys[map[int]int,int,int]$1",of_decide_eq_true rfl,Tryz.func64.trans (congrArg some rfl)⟩
 t0:=Tryz.underlying0
 a0:=Tryz.isAgg0
 z0:=Tryz.sizeOf0
 v0:=Tryz.zeroValue0
 t4:=Tryz.underlying4
 a4:=Tryz.isAgg4
 z4:=Tryz.sizeOf4
 v4:=Tryz.zeroValue4
 t23:=Tryz.underlying69
 a23:=Tryz.isAgg69
 z23:=Tryz.sizeOf69
 v23:=Tryz.zeroValue69
 t26:=Tryz.underlying3
 a26:=Tryz.isAgg3
 z26:=Tryz.sizeOf3
 v26:=Tryz.zeroValue3
 t33:=Tryz.underlying82
 a33:=Tryz.isAgg82
 z33:=Tryz.sizeOf82
 v33:=Tryz.zeroValue82
def oK :Value->Option (DataW Unit×List MemPlace):=λ_=>some (.nil,[])
theorem KJ (x:Lit×DataW Unit):∀l:List (Lit×DataW Unit),(DataW.insert x l).Perm (x::l)
 | []=>.refl _
 | y::r=>by
  simp only [DataW.insert];split
  ·exact .refl _
  ·exact ((KJ x r).cons y).trans (.swap x y r)
theorem LD :∀l:List (Lit×DataW Unit),(l.foldr DataW.insert []).Perm l
 | []=>.refl _
 | x::r=>(KJ x _).trans ((LD r).cons x)
section
variable {V:Type} {h:Hp} {m:Nat} {ev:V->Value} {d:List (Int×V)}
theorem QA {b:Nat} {K:Sl->Hp->Prop} (s:dC h m .i64 ev d) (hi:∀p∈d,(Lit.int .i64 p.1).wf=true) (hb:aR h ⟨b,0,none⟩ [.map (some m)]) (hl:d.length<=4194304)
  (J:∀out M B F,db B 1 (λx=>ba ((ab .i64).enc x)) out M F->Mv [] h F B->M.Perm (d.map (·.1))->K out B):
  aa Tryz.prog zsf [.func (.func 64) #[] #[.pointer (some ⟨b,0,none⟩)]] af K h:=by
 obtain ⟨j,ck,N,A,P,Q,R⟩:=s;intro w n;have G:=Jm A;have dh:w.cell? ⟨b,0,none⟩=some (.map (some m)):=vb n (hb 0 _ rfl);have W:b<w.heap.size:=by obtain ⟨c,t,fr,U,_⟩:=D6 (hb 0 _ rfl);exact n.lt U
 have b2:∀x∈j,∃a,x.key=.int .i64 a/\(Lit.int .i64 a).wf=true:=λx z=>by
  have:(x.key,x.val)∈d.map (λp=>(Value.int .i64 p.1,ev p.2)):=by rw [<-A];exact List.mem_map_of_mem (f:=λe=>(e.key,e.val)) z
  grind
 have b5:∀x∈j,∀a,x.key=.int .i64 a->(Lit.int .i64 a).wf=true->WideElems.rd Tryz.prog 3 oK x=some (.int .i64 a,.nil):=λx _ a u D=>by unfold WideElems.rd;rw [u,keyOf_int_mk Tryz.underlying3 D];rfl
 have H:j.length=d.length:=by have:=congrArg List.length A;simpa using this
 have b4:w.ownsMap Tryz.prog 3 oK m j.length (.map ((j.map (WideElems.rg Tryz.prog 3 oK)).foldr DataW.insert [])):=by
  refine ⟨j.toArray,ck,n _ _ N,⟨?_,⟨?_,?_,?_⟩,?_⟩,by simp,by simp⟩
  ·simp only [List.size_toArray,H,maxLen];omega
  ·simpa using P
  ·simpa using Q
  ·have:=Lw (k:=.i64) R;rw [<-G] at this;simpa using this
  grind
 have I:=LD (j.map (WideElems.rg Tryz.prog 3 oK));have b3:(intKeys (DataW.map ((j.map (WideElems.rg Tryz.prog 3 oK)).foldr DataW.insert []))).Perm (d.map (·.1)):=by
  refine (I.map _).trans ?_;have:(j.map (WideElems.rg Tryz.prog 3 oK)).map (λp:Lit×DataW Unit=>Go.intOf p.1)=d.map (·.1):=by
   rw [List.map_map];have S:j.map ((λp:Lit×DataW Unit=>Go.intOf p.1) ∘ WideElems.rg Tryz.prog 3 oK)=j.map (λx=>match x.key with | .int _ a=>a | _=>0):=by refine List.map_congr_left λx z=> ?_;obtain ⟨a,u,D⟩:=b2 x z;simp only [Function.comp,WideElems.rg,b5 x z a u D,u];rfl
   rw [S];have O:=congrArg (List.map λv:Value=>match v with | .int _ a=>a | _=>0) G;simpa [List.map_map,Function.comp_def] using O
  rw [this]
 have L:Maps.size (DataW.map ((j.map (WideElems.rg Tryz.prog 3 oK)).foldr DataW.insert []))=d.length:=by rw [Maps.size_eq,I.length_eq,List.length_map,H]
 have b7:SeqGives Fence.wide 3 Tryz.prog 64 #[.pointer (some ⟨b,0,none⟩)] encZ (λq=>q.Perm (intKeys (DataW.map ((j.map (WideElems.rg Tryz.prog 3 oK)).foldr DataW.insert [])))) (Maps.size (DataW.map ((j.map (WideElems.rg Tryz.prog 3 oK)).foldr DataW.insert []))) w:=
  AnyZI.keys_gives WZ Fence.wide 3 trivial rfl (by omega) b m j.length _ w W dh b4
 have X:=AnyZI.collect_in Qz Fence.wide 5 trivial trivial rfl (by omega) 64 #[.pointer (some ⟨b,0,none⟩)] trivial (enters_of Tryz.func64 (by kernel_rfl) rfl) _ _ (by rw [L];simp only [maxLen];omega) (by rw [L];omega) w b7;refine (callsIn_wide.1 X).mono ?_;rintro e w' ⟨v,q,rfl,r,⟨c1,b6⟩,c0,l⟩;have r:=r.trans b3;rcases b6 with ⟨rfl,T⟩ | ⟨g,cap,cur,rfl,hg,Z,a9,b9,b0,b1⟩
 ·have b8:q=[]:=List.length_eq_zero_iff.1 T;subst b8;refine ⟨_,h,rfl,⟨⟨none,0,0⟩,rfl,J _ [] h [] ⟨rfl,Nat.le_refl _,.inl ⟨rfl,rfl,rfl⟩⟩ (Mv.refl _ _) r⟩,?_⟩;exact ⟨λi o e=>by rw [l.block i (n.lt e)];exact n i o e,l.size,λi hi C=>⟨l.block i hi,C⟩,l.os,l.tape,l.output⟩
 ·have a8:h g=none:=by
   cases e:h g with
   | none=>rfl
   | some o=>have:=n.lt e;omega
  have Y:Obj.cells cur 3 (0,0)=.cells cur.toList.toArray 3 (0,0):=by simp
  refine ⟨_,h.set g (.cells cur.toList.toArray 3 (0,0)),rfl,⟨⟨some ⟨g,0,none⟩,q.length,cap⟩,rfl,J _ q _ [g] ⟨rfl,a9,.inr ⟨g,cur.toList,rfl,rfl,⟨3,kK⟩,?_,?_⟩⟩ (Mv.new a8) r⟩,?_⟩
  ·simpa using b0
  ·rw [b1];show q.map encZ=q.flatMap λx=> [encZ x];rw [List.map_eq_flatMap]
  ·refine ⟨λi o e=> ?_,l.size,λi hi C=>⟨l.block i hi,?_⟩,l.os,l.tape,l.output⟩
   ·by_cases y:i=g
    ·subst y;rw [kK] at e;cases e;rw [Z,<-Y];rfl
    ·have E:h i=some o:=by simpa [Hp.set,y] using e
     rw [l.block i (n.lt E)];exact n i o E
   ·have y:i≠g:=by omega
    simp [Hp.set,y,C]
end
end Lf
namespace Lf.Soint
open Go Go.Proofs Go.Sort
abbrev eK :Int->List Value:=λx=>ba ((ab .i64).enc x)
abbrev DA (k:Hp) (data:Sl) (d:Array Int) (F:List Nat):Prop:=db k 1 eK data d.toList F
theorem Js {d:Array Int} {i:Nat} {x:Int} (h:d.toList[i]? =some x):d[i]! =x:=by
 have a:d[i]? =some x:=by simpa using h
 rw [getElem!_def,a]
theorem pz {k:Hp} {data:Sl} {d:Array Int} {F:List Nat} (o:DA k data d F) {i:Int} (a:0<=i) (b:i<(d.size:Int)) {K:Int->Prop} (c:K d[i.toNat]!):aG data.base data.len i/\aD none (ab .i64) k (sat data.base 1 i) K:=
 Rs.get (sh:=ab .i64) (o.rw λ_=>rfl) (λ_=>rfl) (by omega) a (by simpa using b) λx e=>by rw [<-Js e];exact c
theorem rZ {k:Hp} {data:Sl} {d:Array Int} {F:List Nat} (o:DA k data d F) {c:Bool} {i:Int} (b:c=true->0<=i/\i<(d.size:Int)) {K:Int->Prop} (e:∀x,(c=true->x=d[i.toNat]!)->K x):
  (c=true->aG data.base data.len i)/\aD (some c) (ab .i64) k (sat data.base 1 i) K:=
 Rs.mj (sh:=ab .i64) (o.rw λ_=>rfl) (0:Int) (λ_=>rfl) (by omega) (λa=>⟨(b a).1,by simpa using (b a).2⟩) λx f=>e x λa=>(Js (f a)).symm
theorem UF (d:Array Int) {i j:Nat} (hi:i<d.size) (a:j<d.size):(swp d i j).toList=(d.toList.set i d[j]!).set j d[i]!:=by simp [swp]
theorem ud {k:Hp} {data:Sl} {d:Array Int} {F:List Nat} (o:DA k data d F) {A B:Int} (c:0<=A) (b:A<(d.size:Int)) (f:0<=B) (e:B<(d.size:Int)) {K:Hp->Prop}
  (j:∀a,DA a data (swp d A.toNat B.toNat) F->Mv F k F a->K a):
  aG data.base data.len B/\aD none (ab .i64) k (sat data.base 1 B) λx=>(aG data.base data.len A/\aD none (ab .i64) k (sat data.base 1 A) λq=>
   (aG data.base data.len A/\cl k (sat data.base 1 A) [(.int .i64 x)] λh=>(aG data.base data.len B/\cl h (sat data.base 1 B) [(.int .i64 q)] λi=>K i))):=by
 refine pz o f e (pz o c b ?_);refine o.store (λ_=>rfl) c (by simpa using b) (d[B.toNat]!) λr n l=> ?_;refine n.store (λ_=>rfl) f (by simpa using e) (d[A.toNat]!) λg p m=> ?_;refine j g ?_ (l.trans m);show db g 1 eK data (swp d A.toNat B.toNat).toList F;rw [UF d (by omega) (by omega)];exact p
theorem vg {x y:Int} {Q:Bool->Hp->Prop} {h:Hp} (a:Q (ltInt x y) h):zvi Tryz.prog x y Q h:=by
 unfold zvi;refine YJ ?_;unfold Pf;have e:(x !=x)=false:=by simp
 rw [e];refine ⟨λe=>(by cases e),λ_=>⟨false,aE (aE ?_)⟩⟩;exact a
theorem aaA {k:Hp} {data:Sl} {d:Array Int} {F:List Nat} {a i:Nat} {Q:Hp->Prop} (o:DA k data d F) (O:a<=i) (hi:i<d.size) (T:d.size<=140737488355328)
  (w:∀g b,DA g data b F->Mv F k F g->b=insInner ltInt a i d->b.size=d.size->Q g):
  au (α1:=Int) (λE j m=>
 (((decide (j>(a:Int)))=true->(aG data.base data.len j))/\aD (some (decide (j>(a:Int)))) (ab .i64) m (sat data.base 1 j) λx=>
 (((decide (j>(a:Int)))=true->(aG data.base data.len (yw (j-(1:Int)))))/\aD (some (decide (j>(a:Int)))) (ab .i64) m (sat data.base 1 (yw (j-(1:Int)))) λD=>
 bX (some (decide (j>(a:Int)))) (aa Tryz.prog ot [(.int .i64 x),(.int .i64 D)] aW) (λr l=>
 aA ((decide (j>(a:Int)))&&r) λy=>
 (if y=true then
 ((aG data.base data.len (yw (j-(1:Int))))/\aD none (ab .i64) l (sat data.base 1 (yw (j-(1:Int)))) λM=>
 ((aG data.base data.len j)/\aD none (ab .i64) l (sat data.base 1 j) λN=>
 ((aG data.base data.len j)/\cl l (sat data.base 1 j) [(.int .i64 M)] (λG=>
 ((aG data.base data.len (yw (j-(1:Int))))/\cl G (sat data.base 1 (yw (j-(1:Int)))) [(.int .i64 N)] (λH=>
 E (yw (j-(1:Int))) H))))))
 else
 Q l)) m))) (i:Int) k:=by
 refine au.intro (λj g=>∃b,DA g data b F/\Mv F k F g/\(a:Int)<=j/\j<=(i:Int)/\b.size=d.size/\insInner ltInt a j.toNat b=insInner ltInt a i d) (λj _=>j.toNat) ⟨d,o,Mv.refl _ _,by omega,by omega,rfl,by simp⟩ ?_;rintro j g ⟨b,h,s,P,R,p,f⟩;rw [aI];refine rZ h (λc=> ?_) λx J=> ?_
 ·have:j>(a:Int):=by simpa using c
  omega
 refine rZ h (λc=> ?_) λD K=> ?_
 ·have:j>(a:Int):=by simpa using c
  omega
 by_cases u:j>(a:Int)
 ·have c:decide (j>(a:Int))=true:=by simpa using u
  have ex:=J c;have t:=K c;obtain ⟨q,z⟩:∃q:Nat,j.toNat=q+1:=⟨j.toNat-1,by omega⟩;have n:(j-1).toNat=q:=by omega
  rw [n] at t;rw [z] at ex f;have S:(q+1>a):=by omega
  refine ⟨λ_=>u9 (vg ?_),λe=>(by rw [c] at e;cases e)⟩;refine aE ?_;rw [c,Bool.true_and,ex,t];rw [insInner] at f;cases v:ltInt b[q+1]! b[q]! with
  | true=>rw [if_pos rfl];rw [v,if_pos (by simp;omega)] at f;refine ud h (A:=j) (B:=j-1) (by omega) (by omega) (by omega) (by omega) λU C L=> ?_;rw [z,n] at C;exact ⟨⟨_,C,s.trans L,by omega,by omega,by rw [size_swp];exact p,by rw [n];exact f⟩,by omega⟩
  | false=>rw [iT];rw [v,if_neg (by simp)] at f;exact w g b h s f p
 ·have c:decide (j>(a:Int))=false:=by simpa using u
  refine ⟨λe=>(by rw [c] at e;cases e),λ_=>⟨false,aE ?_⟩⟩;rw [c,Bool.false_and,if_neg (by simp)];have:j.toNat=a:=by omega
  rw [this] at f;have I:insInner ltInt a a b=b:=by
   cases a with
   | zero=>rfl
   | succ a=>rw [insInner,if_neg (by simp)]
  rw [I] at f;exact w g b h s f p
theorem zzk {k:Hp} {data:Sl} {d:Array Int} {F:List Nat} {a b:Nat} {Q:Hp->Prop} (o:DA k data d F) (r:a<=b) (hb:b<=d.size) (y:d.size<=140737488355328)
  (u:∀f c,DA f data c F->Mv F k F f->PermIn a b d c->SortedIn ltInt a b c->Q f):RY Tryz.prog data (a:Int) (b:Int) Q k:=by
 unfold RY;rw [aI];refine au.intro (λi f=>∃c,DA f data c F/\Mv F k F f/\(a:Int)+1<=i/\(i<=(b:Int)\/i=(a:Int)+1)/\c.size=d.size/\insOuter ltInt a b i.toNat c=insertionSort ltInt d a b) (λi _=>(b-i).toNat)
  ⟨d,o,Mv.refl _ _,by omega,.inr rfl,rfl,by
   have:((a:Int)+1).toNat=a+1:=by omega
   rw [this];rfl⟩ ?_
 rintro i f ⟨c,p,n,x,m,A,g⟩;rw [insOuter] at g;split
 ·rename_i e;have e:i<(b:Int):=by simpa using e
  rw [if_pos (by omega)] at g;have t:((i.toNat:Nat):Int)=i:=by omega
  have key:=aaA (k:=f) (data:=data) (d:=c) (F:=F) (a:=a) (i:=i.toNat) (Q:=λl=>(∃c,DA l data c F/\Mv F k F l/\(a:Int)+1<=yw (i+1)/\(yw (i+1)<=(b:Int)\/yw (i+1)=(a:Int)+1)/\c.size=d.size/\insOuter ltInt a b (yw (i+1)).toNat c=insertionSort ltInt d a b)/\(b-yw (i+1)).toNat<(b-i).toNat)
   p (by omega) (by omega) (by omega) λB q w v s z=>by
    rw [aI];have m:(i+1).toNat=i.toNat+1:=by omega
    exact ⟨⟨q,w,n.trans v,by omega,by omega,by omega,by rw [m,s];exact g⟩,by omega⟩
  rw [t] at key;exact key
 ·rename_i e;have e:¬i<(b:Int):=by simpa using e
  rw [om] at g;obtain ⟨h,j⟩:=insertionSort_holds (lt:=ltInt) swo_ltInt d a b r hb;rw [<-g] at h j;exact u f c p n h j
end Lf.Soint
namespace Lf.Soint
open Go Go.Proofs Go.Sort
set_option maxHeartbeats 1000000 in
theorem KL {k:Hp} {data:Sl} {d:Array Int} {F:List Nat} {lo hi first:Nat} {Q:Hp->Prop} (o:DA k data d F) (M:lo<=hi) (hb:first+hi<=d.size) (O:d.size<=140737488355328)
  (N:∀c a,DA c data a F->Mv F k F c->a=siftDown ltInt hi first lo d->a.size=d.size->Q c):SZ Tryz.prog data (lo:Int) (hi:Int) (first:Int) Q k:=by
 unfold SZ;refine au.intro (λroot c=>∃a,DA c data a F/\Mv F k F c/\0<=root/\root<=(hi:Int)/\a.size=d.size/\siftDown ltInt hi first root.toNat a=siftDown ltInt hi first lo d) (λroot _=>(hi-root).toNat) ⟨d,o,Mv.refl _ _,by omega,by omega,rfl,rfl⟩ ?_;rintro root c ⟨a,g,E,I,J,z,i⟩;rw [wrap64 (n:=2*root) (by omega) (by omega),wrap64 (n:=2*root+1) (by omega) (by omega),wrap64 (n:=2*root+1+1) (by omega) (by omega)];rw [siftDown] at i;have P:(2*root+1).toNat=2*root.toNat+1:=by omega
 by_cases w:2*root+1>=(hi:Int)
 ·grind
 rw [if_neg (by simpa using w)];rw [dif_neg (by omega)] at i;refine bH.intro (λb s=>s=c/\((2*root+1+1<(hi:Int)/\ltInt a[first+(2*root.toNat+1)]! a[first+(2*root.toNat+1)+1]! =true/\b=2*root+1+1)\/
   ((decide (2*root.toNat+1+1<hi)&&ltInt a[first+(2*root.toNat+1)]! a[first+(2*root.toNat+1)+1]!)=false/\b=2*root+1))) ?_ ?_
 ·rw [wrap64 (n:=(first:Int)+(2*root+1)) (by omega) (by omega),wrap64 (n:=(first:Int)+(2*root+1)+1) (by omega) (by omega)];have C:((first:Int)+(2*root+1)).toNat=first+(2*root.toNat+1):=by omega
  have D:((first:Int)+(2*root+1)+1).toNat=first+(2*root.toNat+1)+1:=by omega
  refine rZ g (λh=> ?_) λx m=> ?_
  ·omega
  refine rZ g (λh=> ?_) λS p=> ?_
  ·grind
  rw [C] at m;rw [D] at p;by_cases h:2*root+1+1<(hi:Int)
  ·have f:decide (2*root+1+1<(hi:Int))=true:=by simpa using h
   have ex:=m f;have H:=p f;refine ⟨λ_=>u9 (vg ?_),λe=>(by rw [f] at e;cases e)⟩;refine aE ?_;grind
  ·have f:decide (2*root+1+1<(hi:Int))=false:=by simpa using h
   refine ⟨λe=>(by rw [f] at e;cases e),λ_=>⟨false,aE ?_⟩⟩;grind
 ·rintro b s ⟨rfl,v⟩;have L:2*root+1<=b/\b<(hi:Int):=by omega
  rw [wrap64 (n:=(first:Int)+root) (by omega) (by omega),wrap64 (n:=(first:Int)+b) (by omega) (by omega)];have q:((first:Int)+root).toNat=first+root.toNat:=by omega
  have r:((first:Int)+b).toNat=first+b.toNat:=by omega
  refine pz g (by omega) (by omega) (pz g (by omega) (by omega) ?_);rw [q,r];refine u9 (vg ?_);have l:siftDown ltInt hi first lo d=if !ltInt a[first+root.toNat]! a[first+b.toNat]! then a else siftDown ltInt hi first b.toNat (swp a (first+root.toNat) (first+b.toNat)):=by
   rw [<-i];rcases v with ⟨K,j,rfl⟩ | ⟨j,rfl⟩
   ·have u:(2*root+1+1).toNat=2*root.toNat+2:=by omega
    rw [j,if_pos (by simp;omega),u,dif_pos (show 2*root.toNat+2<hi by omega)]
   grind
  cases y:ltInt a[first+root.toNat]! a[first+b.toNat]! with
  | false=>grind
  | true=>rw [iT];rw [y,if_neg (by simp)] at l;refine ud g (A:=(first:Int)+root) (B:=(first:Int)+b) (by omega) (by omega) (by omega) (by omega) λR t G=> ?_;rw [q,r] at t;exact ⟨⟨_,t,E.trans G,by omega,by omega,by rw [size_swp];exact z,l.symm⟩,by omega⟩
set_option maxHeartbeats 1000000 in
theorem aaB {k:Hp} {data:Sl} {d:Array Int} {F:List Nat} {a b:Nat} {Q:Hp->Prop} (o:DA k data d F) (C:a<=b) (hb:b<=d.size) (S:d.size<=140737488355328)
  (R:∀h e,DA h data e F->Mv F k F h->PermIn a b d e->SortedIn ltInt a b e->Q h):SY Tryz.prog data (a:Int) (b:Int) Q k:=by
 unfold SY;have D:(b:Int)-(a:Int)=((b-a:Nat):Int):=by omega
 rw [wrap64 (n:=(b:Int)-(a:Int)) (by omega) (by omega),wrap64 (n:=(b:Int)-(a:Int)-1) (by omega) (by omega)];have H:((b:Int)-(a:Int)-1).tdiv 2=(((b-a-1) / 2:Nat):Int):=by grind
 rw [H,aI];refine ⟨by decide,?_⟩;obtain ⟨hp,U⟩:=heapSort_holds (lt:=ltInt) swo_ltInt d a b C hb;refine au.intro (λi h=>∃e,DA h data e F/\Mv F k F h/\ -1<=i/\i<=(((b-a-1) / 2:Nat):Int)/\e.size=d.size/\heapPop ltInt a (b-a) (heapBuild ltInt (b-a) a (i+1).toNat e)=heapSort ltInt d a b) (λi _=>(i+1).toNat)
  ⟨d,o,Mv.refl _ _,by omega,by omega,rfl,by
   have:((((b-a-1) / 2:Nat):Int)+1).toNat=(b-a-1) / 2+1:=by omega
   rw [this];rfl⟩ ?_
 rintro i h ⟨e,t,r,v,w,q,j⟩;by_cases hi:i>=0
 ·rw [if_pos (by simpa using hi)];have p:((i.toNat:Nat):Int)=i:=by omega
  have g:(i+1).toNat=i.toNat+1:=by omega
  rw [g,heapBuild] at j;have key:=KL (k:=h) (data:=data) (d:=e) (F:=F) (lo:=i.toNat) (hi:=b-a) (first:=a) (Q:=λl=>(∃e,DA l data e F/\Mv F k F l/\ -1<=yw (i-1)/\yw (i-1)<=(((b-a-1) / 2:Nat):Int)/\e.size=d.size/\heapPop ltInt a (b-a) (heapBuild ltInt (b-a) a (yw (i-1)+1).toNat e)=heapSort ltInt d a b)/\(yw (i-1)+1).toNat<(i+1).toNat)
   t (by omega) (by omega) (by omega) λm f u s O T=>by
    rw [aI];have z:(i-1+1).toNat=i.toNat:=by omega
    exact ⟨⟨f,u,r.trans s,by omega,by omega,by omega,by grind⟩,by omega⟩
  rw [p,<-D] at key;exact zhg key
 ·rw [if_neg (by simpa using hi)];have g:(i+1).toNat=0:=by omega
  rw [g,heapBuild] at j;have G:(b:Int)-(a:Int)-1=((b-a:Nat):Int)-1:=by omega
  rw [G];refine au.intro (λi m=>∃f,DA m data f F/\Mv F k F m/\ -1<=i/\i<=((b-a:Nat):Int)-1/\f.size=d.size/\heapPop ltInt a (i+1).toNat f=heapSort ltInt d a b) (λi _=>(i+1).toNat)
   ⟨e,t,r,by omega,by omega,q,by
    grind⟩ ?_
  clear j t r q v w hi g;rintro c m ⟨f,u,s,v,w,q,j⟩;by_cases hi:c>=0
  ·rw [if_pos (by simpa using hi),wrap64 (n:=(a:Int)+c) (by omega) (by omega)];have g:(c+1).toNat=c.toNat+1:=by omega
   rw [g,heapPop] at j;refine ud u (A:=(a:Int)) (B:=(a:Int)+c) (by omega) (by omega) (by omega) (by omega) λK x L=> ?_;have I:((a:Int)+c).toNat=a+c.toNat:=by omega
   have J:((a:Nat):Int).toNat=a:=by omega
   rw [I,J] at x;have p:((c.toNat:Nat):Int)=c:=by omega
   have key:=KL (k:=K) (data:=data) (d:=swp f a (a+c.toNat)) (F:=F) (lo:=0) (hi:=c.toNat) (first:=a) (Q:=λl=>(∃f,DA l data f F/\Mv F k F l/\ -1<=yw (c-1)/\yw (c-1)<=((b-a:Nat):Int)-1/\f.size=d.size/\heapPop ltInt a (yw (c-1)+1).toNat f=heapSort ltInt d a b)/\(yw (c-1)+1).toNat<(c+1).toNat)
    x (by omega) (by rw [size_swp];omega) (by rw [size_swp];omega) λV y N M P E=>by
     rw [aI];have z:(c-1+1).toNat=c.toNat:=by omega
     rw [size_swp] at E;exact ⟨⟨y,N,s.trans (L.trans M),by omega,by omega,by omega,by grind⟩,by omega⟩
   rw [p] at key;exact zhg key
  ·rw [if_neg (by simpa using hi)];have g:(c+1).toNat=0:=by omega
   rw [g,heapPop] at j;grind
theorem QB {k:Hp} {data:Sl} {d:Array Int} {F:List Nat} {a b:Nat} {Q:Hp->Prop} (o:DA k data d F) (r:a<b) (hb:b<=d.size) (t:d.size<=140737488355328)
  (s:∀f c,DA f data c F->Mv F k F f->PermIn a b d c->Q f):R5 Tryz.prog data (a:Int) (b:Int) Q k:=by
 unfold R5;rw [aI];refine bq.intro (λi j f=>∃c,DA f data c F/\Mv F k F f/\(a:Int)<=i/\j<(b:Int)/\i<=j+1/\PermIn a b d c) (λi j _=>(j+1-i).toNat) ⟨d,o,Mv.refl _ _,by omega,by omega,by omega,permIn_refl d a b⟩ ?_;rintro i j f ⟨c,l,g,n,p,q,hp⟩;have u:=hp.1;split
 ·rename_i e;have e:i<j:=by simpa using e
  refine ud l (A:=i) (B:=j) (by omega) (by omega) (by omega) (by omega) λv m h=> ?_;rw [aI,aI];exact ⟨⟨_,m,g.trans h,by omega,by omega,by omega,permIn_trans _ _ _ _ _ hp (swp_permIn c a b i.toNat j.toNat (by omega) (by omega) (by omega) (by omega) (by omega))⟩,by omega⟩
 grind
end Lf.Soint
namespace Lf.Soint
open Go Go.Proofs Go.Sort
structure Pt (a b:Nat) (d d':Array Int) (i j:Int):Prop where
 p:PermIn a b d d'
 i0:(a:Int)<i
 ij:i<=j+1
 jb:j<(b:Int)
 lo:∀x:Nat,a<x->(x:Int)<i->ltInt d'[x]! d'[a]! =true
 hi:∀x:Nat,j<(x:Int)->x<b->ltInt d'[x]! d'[a]! =false
set_option maxHeartbeats 1000000 in
theorem Jt {k:Hp} {data:Sl} {d g:Array Int} {F:List Nat} {a b:Nat} {i0 f:Int} {K:Int->Int->Hp->Prop} (o:DA k data g F) (hb:b<=g.size) (hs:g.size<=140737488355328) (v:Pt a b d g i0 f)
  (J:∀i j,Pt a b d g i j->i0<=i->j<=f->(i<=j->ltInt g[i.toNat]! g[a]! =false/\ltInt g[j.toNat]! g[a]! =true)->K i j k):
  au (α1:=Int) (λO i u=>
 (((decide (i<=f))=true->(aG data.base data.len i))/\aD (some (decide (i<=f))) (ab .i64) u (sat data.base 1 i) λY=>
 (((decide (i<=f))=true->(aG data.base data.len (a:Int)))/\aD (some (decide (i<=f))) (ab .i64) u (sat data.base 1 (a:Int)) λZ=>
 bX (some (decide (i<=f))) (aa Tryz.prog ot [(.int .i64 Y),(.int .i64 Z)] aW) (λr E=>
 aA ((decide (i<=f))&&r) λy=>
 (if y=true then
 O (yw (i+(1:Int))) E
 else
 au (α1:=Int) (λt j h=>
 (((decide (i<=j))=true->(aG data.base data.len j))/\aD (some (decide (i<=j))) (ab .i64) h (sat data.base 1 j) λB=>
 (((decide (i<=j))=true->(aG data.base data.len (a:Int)))/\aD (some (decide (i<=j))) (ab .i64) h (sat data.base 1 (a:Int)) λC=>
 bX (some (decide (i<=j))) (aa Tryz.prog ot [(.int .i64 B),(.int .i64 C)] aW) (λz n=>
 aA ((decide (i<=j))&&(!z)) λD=>
 (if D=true then
 t (yw (j-(1:Int))) n
 else K i j n)) h))) f E)) u))) i0 k:=by
 have v0:=v;obtain ⟨_,w1,w2,w3,_,_⟩:=v0;refine au.intro (λi s=>s=k/\i0<=i/\Pt a b d g i f) (λi _=>(f+1-i).toNat) ⟨rfl,by omega,v⟩ ?_;rintro i s ⟨rfl,H,M⟩;obtain ⟨N,v1,v2,V,v4,W⟩:=id M;have G:((a:Nat):Int).toNat=a:=by omega
 have inner:(i<=f->ltInt g[i.toNat]! g[a]! =false)->au (α1:=Int) (λt j h=>
 (((decide (i<=j))=true->(aG data.base data.len j))/\aD (some (decide (i<=j))) (ab .i64) h (sat data.base 1 j) λB=>
 (((decide (i<=j))=true->(aG data.base data.len (a:Int)))/\aD (some (decide (i<=j))) (ab .i64) h (sat data.base 1 (a:Int)) λC=>
 bX (some (decide (i<=j))) (aa Tryz.prog ot [(.int .i64 B),(.int .i64 C)] aW) (λz n=>
 aA ((decide (i<=j))&&(!z)) λD=>
 (if D=true then
 t (yw (j-(1:Int))) n
 else K i j n)) h))) f s:=by
  intro P;refine au.intro (λj L=>L=s/\j<=f/\Pt a b d g i j) (λj _=>(j+1-i).toNat) ⟨rfl,by omega,M⟩ ?_;rintro j L ⟨rfl,I,A⟩;obtain ⟨_,S,u2,u3,T,U⟩:=id A;refine rZ o (λc=> ?_) λx m=> ?_
  ·have:i<=j:=by simpa using c
   omega
  refine rZ o (λc=> ?_) λX q=> ?_
  ·omega
  rw [G] at q;by_cases l:i<=j
  ·have c:decide (i<=j)=true:=by simpa using l
   refine ⟨λ_=>u9 (vg ?_),λe=>(by rw [c] at e;cases e)⟩;refine aE ?_;rw [c,Bool.true_and,m c,q c];cases p:ltInt g[j.toNat]! g[a]! with
   | false=>
    rw [if_pos (by rfl),aI];refine ⟨⟨rfl,by omega,⟨N,S,by omega,by omega,T,λx m Q=> ?_⟩⟩,by omega⟩;by_cases R:(x:Int)=j
    ·have:x=j.toNat:=by omega
     rw [this];exact p
    ·exact U x (by omega) Q
   | true=>rw [iT];exact J i j A H I λ_=>⟨P (by omega),p⟩
  ·have c:decide (i<=j)=false:=by simpa using l
   refine ⟨λe=>(by rw [c] at e;cases e),λ_=>⟨false,aE ?_⟩⟩;rw [c,Bool.false_and,if_neg (by simp)];exact J i j A H I λw=>absurd w l
 refine rZ o (λc=> ?_) λx m=> ?_
 ·have:i<=f:=by simpa using c
  omega
 refine rZ o (λc=> ?_) λX q=> ?_
 ·omega
 rw [G] at q;by_cases l:i<=f
 ·have c:decide (i<=f)=true:=by simpa using l
  refine ⟨λ_=>u9 (vg ?_),λe=>(by rw [c] at e;cases e)⟩;refine aE ?_;rw [c,Bool.true_and,m c,q c];cases p:ltInt g[i.toNat]! g[a]! with
  | true=>
   rw [if_pos rfl,aI];refine ⟨⟨rfl,by omega,⟨N,by omega,by omega,V,λx m a8=> ?_,W⟩⟩,by omega⟩;by_cases R:(x:Int)=i
   ·have:x=i.toNat:=by omega
    rw [this];exact p
   ·exact v4 x m (by omega)
  | false=>rw [iT];exact inner λ_=>p
 ·have c:decide (i<=f)=false:=by simpa using l
  refine ⟨λe=>(by rw [c] at e;cases e),λ_=>⟨false,aE ?_⟩⟩;rw [c,Bool.false_and,if_neg (by simp)];exact inner λw=>absurd w l
def At (a b:Nat) (d c:Array Int) (fi:Nat):Prop:=
 a<=fi/\fi<b/\PermIn a b d c/\(∀x:Nat,a<=x->x<fi->ltInt c[x]! c[fi]! =true)/\(∀x:Nat,fi<x->x<b->ltInt c[x]! c[fi]! =false)
theorem YL {a b:Nat} {d c:Array Int} {i j:Int} (hb:b<=c.size) (l:a<b) (v:Pt a b d c i j) (q:i>j):At a b d (swp c j.toNat a) j.toNat:=by
 obtain ⟨p,v1,t,u,v4,o⟩:=v;have r:j+1=i:=by omega
 have g:a<=j.toNat:=by omega
 have h:j.toNat<b:=by omega
 have f:(swp c j.toNat a)[j.toNat]! =c[a]!:=by
  by_cases e:j.toNat=a
  ·rw [e];exact swp_right c a a (by omega)
  ·exact swp_left c j.toNat a (by omega) e
 refine ⟨g,h,permIn_trans _ _ _ _ _ p (swp_permIn c a b j.toNat a g h (Nat.le_refl _) l hb),λx m s=> ?_,λx m n=> ?_⟩
 ·rw [f];by_cases k:x=a
  ·subst k;have:(swp c j.toNat x)[x]! =c[j.toNat]!:=swp_right c j.toNat x (by omega);rw [this];exact v4 j.toNat (by omega) (by omega)
  ·rw [swp_other c j.toNat a x (by omega) k];exact v4 x (by omega) (by omega)
 ·rw [f,swp_other c j.toNat a x (by omega) (by omega)];exact o x (by omega) n
theorem Jv {a b:Nat} {d c:Array Int} {i j:Int} (hb:b<=c.size) (v:Pt a b d c i j) (p:i<=j) (f:ltInt c[i.toNat]! c[a]! =false/\ltInt c[j.toNat]! c[a]! =true):Pt a b d (swp c i.toNat j.toNat) (i+1) (j-1):=by
 obtain ⟨o,v1,s,t,v4,n⟩:=v;have q:i≠j:=λe=>by rw [e] at f;rw [f.1] at f;exact absurd f.2 (by simp)
 have l:i.toNat≠j.toNat:=by omega
 have h:(swp c i.toNat j.toNat)[a]! =c[a]!:=swp_other c i.toNat j.toNat a (by omega) (by omega);refine ⟨permIn_trans _ _ _ _ _ o (swp_permIn c a b i.toNat j.toNat (by omega) (by omega) (by omega) (by omega) hb),by omega,by omega,by omega,λx k r=> ?_,λx k m=> ?_⟩
 ·rw [h];by_cases g:x=i.toNat
  ·subst g;rw [swp_left c _ _ (by omega) l];exact f.2
  ·rw [swp_other c _ _ x g (by omega)];exact v4 x k (by omega)
 ·rw [h];by_cases g:x=j.toNat
  ·subst g;rw [swp_right c _ _ (by omega)];exact f.1
  ·rw [swp_other c _ _ x (by omega) g];exact n x (by omega) m
set_option maxHeartbeats 2000000 in
theorem ZX {k:Hp} {data:Sl} {d:Array Int} {F:List Nat} {a b g:Nat} {Q:Int->Bool->Hp->Prop} (o:DA k data d F) (K:a<=g) (M:g<b) (hb:b<=d.size) (X:d.size<=140737488355328)
  (O:∀(fi:Nat) ap c e,DA c data e F->Mv F k F c->At a b d e fi->Q (fi:Int) ap c):SG Tryz.prog data (a:Int) (b:Int) (g:Int) Q k:=by
 unfold SG;have C:((a:Nat):Int).toNat=a:=by omega
 have N:((g:Nat):Int).toNat=g:=by omega
 refine ud o (A:=(a:Int)) (B:=(g:Int)) (by omega) (by omega) (by omega) (by omega) λk1 s G=> ?_;rw [C,N] at s;rw [wrap64 (n:=(a:Int)+1) (by omega) (by omega),wrap64 (n:=(b:Int)-1) (by omega) (by omega)];have D:(swp d a g).size=d.size:=size_swp d a g;have v1:Pt a b d (swp d a g) ((a:Int)+1) ((b:Int)-1):=⟨swp_permIn d a b a g (Nat.le_refl _) (by omega) K M hb,by omega,by omega,by omega,λx m p=>by omega,λx m p=>by omega⟩;have z:∀ {c:Hp} {e:Array Int} {i j:Int} (ap:Bool),DA c data e F->Mv F k F c->e.size=d.size->Pt a b d e i j->i>j->
   (aG data.base data.len (a:Int)/\aD none (ab .i64) c (sat data.base 1 (a:Int)) λT=>(aG data.base data.len j/\aD none (ab .i64) c (sat data.base 1 j) λU=>
    (aG data.base data.len j/\cl c (sat data.base 1 j) [(.int .i64 T)] λI=>(aG data.base data.len (a:Int)/\cl I (sat data.base 1 (a:Int)) [(.int .i64 U)] λJ=>Q j ap J)))):=by
  intro c e i j ap R P Y t f;have u:=t.i0;have W:=t.ij;have w:=t.jb;have L:((j.toNat:Nat):Int)=j:=by omega
  refine ud R (A:=j) (B:=(a:Int)) (by omega) (by omega) (by omega) (by omega) λr h l=> ?_;rw [C] at h;have:=O j.toNat ap r _ h (P.trans l) (YL (by omega) (by omega) t f);rw [L] at this;exact this
 refine Jt (d:=d) s (by omega) (by omega) v1 λi j v m p q=> ?_;by_cases f:i>j
 ·rw [if_pos (by simpa using f)];exact z true s G D v f
 ·rw [if_neg (by simpa using f)];have u:=v.i0;have w:=v.jb;refine ud s (A:=i) (B:=j) (by omega) (by omega) (by omega) (by omega) λr h l=> ?_;rw [wrap64 (n:=i+1) (by omega) (by omega),wrap64 (n:=j-1) (by omega) (by omega)];refine bq.intro (λi j c=>∃e,DA c data e F/\Mv F k F c/\e.size=d.size/\Pt a b d e i j) (λi j _=>(j+1-i).toNat) ⟨_,h,G.trans l,by rw [size_swp,D],Jv (by omega) v (by omega) (q (by omega))⟩ ?_;clear h l r q m p v u w f i j;rintro Z j1 k3 ⟨V,y,H,E,S⟩;refine Jt (d:=d) y (by omega) (by omega) S λi j v m p q=> ?_;by_cases f:i>j
  ·rw [if_pos (by simpa using f)];exact z false y H E v f
  ·rw [if_neg (by simpa using f)];have u:=v.i0;have w:=v.jb;refine ud y (A:=i) (B:=j) (by omega) (by omega) (by omega) (by omega) λr h l=> ?_;rw [wrap64 (n:=i+1) (by omega) (by omega),wrap64 (n:=j-1) (by omega) (by omega)];exact ⟨⟨_,h,H.trans l,by rw [size_swp,E],Jv (by omega) v (by omega) (q (by omega))⟩,by omega⟩
structure Pe (a b:Nat) (d d':Array Int) (i j:Int):Prop where
 p:PermIn a b d d'
 i0:(a:Int)<i
 ij:i<=j+1
 jb:j<(b:Int)
 lo:∀x:Nat,a<x->(x:Int)<i->ltInt d'[a]! d'[x]! =false
 hi:∀x:Nat,j<(x:Int)->x<b->ltInt d'[a]! d'[x]! =true
set_option maxHeartbeats 2000000 in
theorem TG {k:Hp} {data:Sl} {d:Array Int} {F:List Nat} {a b l:Nat} {Q:Int->Hp->Prop} (o:DA k data d F) (X:a<=l) (b0:l<b) (hb:b<=d.size) (hs:d.size<=140737488355328)
  (hq:∀(fi:Nat) p c,DA p data c F->Mv F k F p->a<fi->fi<=b->PermIn a b d c->(∀x:Nat,a<=x->x<fi->ltInt d[l]! c[x]! =false)->(∀x:Nat,fi<=x->x<b->ltInt d[l]! c[x]! =true)->Q (fi:Int) p):
  RI Tryz.prog data (a:Int) (b:Int) (l:Int) Q k:=by
 unfold RI;have E:((a:Nat):Int).toNat=a:=by omega
 have b1:((l:Nat):Int).toNat=l:=by omega
 refine ud o (A:=(a:Int)) (B:=(l:Int)) (by omega) (by omega) (by omega) (by omega) λk1 R m1=> ?_;rw [E,b1] at R;rw [wrap64 (n:=(a:Int)+1) (by omega) (by omega),wrap64 (n:=(b:Int)-1) (by omega) (by omega)];have b2:(swp d a l)[a]! =d[l]!:=by
  by_cases e:a=l
  ·subst e;exact swp_right d a a (by omega)
  ·exact swp_left d a l (by omega) e
 refine bq.intro (λi j p=>∃c,DA p data c F/\Mv F k F p/\c.size=d.size/\c[a]! =d[l]!/\Pe a b d c i j) (λi j _=>(j+1-i).toNat)
  ⟨_,R,m1,size_swp d a l,b2,⟨swp_permIn d a b a l (Nat.le_refl _) (by omega) X b0 hb,by omega,by omega,by omega,λx U V=>by omega,λx U V=>by omega⟩⟩ ?_
 rintro i0 g k3 ⟨c,q,P,b4,I,v⟩;obtain ⟨_,w1,w2,w3,_,_⟩:=id v;refine au.intro (λi p=>p=k3/\i0<=i/\Pe a b d c i g) (λi _=>(g+1-i).toNat) ⟨rfl,by omega,v⟩ ?_;rintro i p ⟨rfl,b7,S⟩;obtain ⟨z,v1,v2,v3,v4,v5⟩:=id S;refine rZ q (λf=> ?_) λx m=> ?_
 ·omega
 refine rZ q (λf=> ?_) λx1 K=> ?_
 ·have:i<=g:=by simpa using f
  omega
 rw [E] at m;have Y:∀(r:Bool),(decide (i<=g)=true->r=ltInt c[a]! c[i.toNat]!)->(decide (i<=g)&& !r)=(decide (i<=g)&& !ltInt c[a]! c[i.toNat]!):=λr J=>by
  cases f:decide (i<=g) with
  | false=>rfl
  | true=>rw [J f]
 have step:∀r:Bool,(decide (i<=g)=true->r=ltInt c[a]! c[i.toNat]!)->aA ((decide (i<=g))&&(!r)) λy=>
 (if y=true then
 ((p=p/\i0<=yw (i+(1:Int))/\Pe a b d c (yw (i+(1:Int))) g)/\(g+1-yw (i+(1:Int))).toNat<(g+1-i).toNat)
 else
 au (α1:=Int) (λT h C=>
 (((decide (i<=h))=true->(aG data.base data.len (a:Int)))/\aD (some (decide (i<=h))) (ab .i64) C (sat data.base 1 (a:Int)) λx4=>
 (((decide (i<=h))=true->(aG data.base data.len h))/\aD (some (decide (i<=h))) (ab .i64) C (sat data.base 1 h) λx5=>
 bX (some (decide (i<=h))) (aa Tryz.prog ot [(.int .i64 x4),(.int .i64 x5)] aW) (λr1 s=>
 aA ((decide (i<=h))&&r1) λy1=>
 (if y1=true then
 T (yw (h-(1:Int))) s
 else
 (if (decide (i>h))=true then
 Q i s
 else
 ((aG data.base data.len h)/\aD none (ab .i64) s (sat data.base 1 h) λx6=>
 ((aG data.base data.len i)/\aD none (ab .i64) s (sat data.base 1 i) λx7=>
 ((aG data.base data.len i)/\cl s (sat data.base 1 i) [(.int .i64 x6)] (λW=>
 ((aG data.base data.len h)/\cl W (sat data.base 1 h) [(.int .i64 x7)] (λN=>
 ((∃c,DA N data c F/\Mv F k F N/\c.size=d.size/\c[a]! =d[l]!/\Pe a b d c (yw (i+(1:Int))) (yw (h-(1:Int))))/\(yw (h-(1:Int))+1-yw (i+(1:Int))).toNat<(g+1-i0).toNat)))))))))) C))) g p):=by
  intro r J;refine aE ?_;rw [Y r J,wrap64 (n:=i+1) (by omega) (by omega)];cases f:(decide (i<=g)&& !ltInt c[a]! c[i.toNat]!) with
  | true=>
   rw [if_pos rfl];simp at f;refine ⟨⟨rfl,by omega,⟨z,by omega,by omega,v3,λx m O=> ?_,v5⟩⟩,by omega⟩;by_cases b6:(x:Int)=i
   ·have:x=i.toNat:=by omega
    rw [this];exact f.2
   ·exact v4 x m (by omega)
  | false=>
   rw [iT];have b3:i<=g->ltInt c[a]! c[i.toNat]! =true:=λZ=>by simp at f;exact f Z
   refine au.intro (λj L=>L=p/\j<=g/\Pe a b d c i j) (λj _=>(j+1-i).toNat) ⟨rfl,by omega,S⟩ ?_;rintro j L ⟨rfl,b8,vj⟩;obtain ⟨_,u1,u2,u3,u4,M⟩:=id vj;refine rZ q (λf=> ?_) λx m=> ?_
   ·omega
   refine rZ q (λf=> ?_) λx1 K=> ?_
   ·have:i<=j:=by simpa using f
    omega
   rw [E] at m;rw [wrap64 (n:=j-1) (by omega) (by omega)];by_cases t:i<=j
   ·have f:decide (i<=j)=true:=by simpa using t
    refine ⟨λ_=>u9 (vg ?_),λe=>(by rw [f] at e;cases e)⟩;refine aE ?_;rw [f,Bool.true_and,m f,K f];cases G:ltInt c[a]! c[j.toNat]! with
    | true=>
     rw [if_pos rfl];refine ⟨⟨rfl,by omega,⟨z,u1,by omega,by omega,u4,λx m u=> ?_⟩⟩,by omega⟩;by_cases b6:(x:Int)=j
     ·have:x=j.toNat:=by omega
      rw [this];exact G
     ·exact M x (by omega) u
    | false=>
     rw [iT,if_neg (by simp;omega)];have H:=b3 (by omega);have b9:i≠j:=λe=>by rw [e,G] at H;cases H
     have a9:i.toNat≠j.toNat:=by omega
     refine ud q (A:=i) (B:=j) (by omega) (by omega) (by omega) (by omega) λk4 o4 m4=> ?_;have D:(swp c i.toNat j.toNat)[a]! =c[a]!:=swp_other c i.toNat j.toNat a (by omega) (by omega);refine ⟨⟨_,o4,P.trans m4,by rw [size_swp,b4],by rw [D];exact I,⟨permIn_trans _ _ _ _ _ z (swp_permIn c a b i.toNat j.toNat (by omega) (by omega) (by omega) (by omega) (by omega)),by omega,by omega,by omega,λx m O=> ?_,λx m u=> ?_⟩⟩,by omega⟩
     ·rw [D];by_cases w:x=i.toNat
      ·subst w;rw [swp_left c _ _ (by omega) a9];exact G
      ·rw [swp_other c _ _ x w (by omega)];exact v4 x m (by omega)
     ·rw [D];by_cases w:x=j.toNat
      ·subst w;rw [swp_right c _ _ (by omega)];exact H
      ·rw [swp_other c _ _ x (by omega) w];exact M x (by omega) u
   ·have f:decide (i<=j)=false:=by simpa using t
    refine ⟨λe=>(by rw [f] at e;cases e),λ_=>⟨false,aE ?_⟩⟩;rw [f,Bool.false_and,if_neg (by simp),if_pos (by simp;omega)];have a8:((i.toNat:Nat):Int)=i:=by omega
    have:=hq i.toNat L c q P (by omega) (by omega) z (λx m O=> ?_) λx m u=> ?_
    ·rw [a8] at this;exact this
    ·rw [<-I];by_cases b5:x=a
     ·subst b5;exact swo_ltInt.irrefl _
     ·exact v4 x (by omega) (by omega)
    ·rw [<-I];exact M x (by omega) u
 by_cases t:i<=g
 ·have f:decide (i<=g)=true:=by simpa using t
  refine ⟨λ_=>u9 (vg ?_),λe=>(by rw [f] at e;cases e)⟩;refine step _ λ_=> ?_;rw [m f,K f]
 ·have f:decide (i<=g)=false:=by simpa using t
  exact ⟨λe=>(by rw [f] at e;cases e),λ_=>⟨false,step false λe=>by rw [f] at e;cases e⟩⟩
end Lf.Soint
namespace Lf.Soint
open Go Go.Proofs Go.Sort
set_option maxHeartbeats 2000000 in
theorem QC {k:Hp} {data:Sl} {d:Array Int} {F:List Nat} {a b:Nat} {Q:Bool->Hp->Prop} (o:DA k data d F) (b4:a<b) (hb:b<=d.size) (hs:d.size<=140737488355328) (hB:Below ltInt a b d)
  (hq:∀r t m,DA t data m F->Mv F k F t->PermIn a b d m->(r=true->SortedIn ltInt a b m)->Q r t):Q9 Tryz.prog data (a:Int) (b:Int) Q k:=by
 unfold Q9;obtain ⟨c6,c7⟩:=partialInsertionSort_holds (lt:=ltInt) swo_ltInt d a b b4 hb hB;rw [wrap64 (n:=(a:Int)+1) (by omega) (by omega),wrap64 (n:=(b:Int)-(a:Int)) (by omega) (by omega)];have done:∀ {t:Hp} {m:Array Int} (r:Bool),DA t data m F->Mv F k F t->(m,r)=partialInsertionSort ltInt d a b->Q r t:=λ{t} {m} r R S v=>by grind
 refine bq.intro (λi j t=>∃m,DA t data m F/\Mv F k F t/\(a:Int)+1<=i/\i<=(b:Int)/\0<=j/\j<=5/\m.size=d.size/\partialIns ltInt a b (5-j).toNat i.toNat m=partialInsertionSort ltInt d a b) (λ_ j _=>(5-j).toNat)
  ⟨d,o,Mv.refl _ _,by omega,by omega,by omega,by omega,rfl,by
   have:((a:Int)+1).toNat=a+1:=by omega
   rw [this];rfl⟩ ?_
 rintro i j t ⟨m,R,S,c1,c2,c5,K,b9,v⟩;by_cases b0:5<=j
 ·rw [if_neg (by simpa using b0)];have:(5-j).toNat=0:=by omega
  rw [this] at v;exact done false R S v
 rw [if_pos (by simpa using b0)];obtain ⟨s,b7⟩:∃s,(5-j).toNat=s+1:=⟨(5-j).toNat-1,by omega⟩;rw [b7] at v;refine bH.intro (λc p=>∃u,DA p data u F/\Mv F k F p/\(a:Int)+1<=c/\c<=(b:Int)/\u.size=d.size/\partialIns ltInt a b s c.toNat u=partialInsertionSort ltInt d a b) ?_ ?_
 rotate_left
 ·rintro c p ⟨u,o2,m2,h3,h4,V,g⟩;rw [aI];grind
 refine au.intro (λc p=>p=t/\i<=c/\c<=(b:Int)/\scanSorted ltInt m b c.toNat=scanSorted ltInt m b i.toNat) (λc _=>(b-c).toNat) ⟨rfl,by omega,by omega,rfl⟩ ?_;rintro c p ⟨rfl,c4,c3,Y⟩;rw [wrap64 (n:=c-1) (by omega) (by omega)];have X:(c-1).toNat=c.toNat-1:=by omega
 have a8:scanSorted ltInt m b c.toNat=c.toNat->(if (c==(b:Int))=true then Q true p else
 (if (decide (((b:Int)-(a:Int))<(50:Int)))=true then Q false p else
 ((aG data.base data.len (c-(1:Int)))/\aD none (ab .i64) p (sat data.base 1 (c-(1:Int))) λx2=>
 ((aG data.base data.len c)/\aD none (ab .i64) p (sat data.base 1 c) λx3=>
 ((aG data.base data.len c)/\cl p (sat data.base 1 c) [(.int .i64 x2)] (λh4=>
 ((aG data.base data.len (c-(1:Int)))/\cl h4 (sat data.base 1 (c-(1:Int))) [(.int .i64 x3)] (λV=>
 bM (λO=>
 (if (decide ((yw (c-(a:Int)))>=(2:Int)))=true then
 bM (λk2=>
 au (α1:=Int) (λU f g=>
 (if (decide (f>=(1:Int)))=true then
 ((aG data.base data.len f)/\aD none (ab .i64) g (sat data.base 1 f) λx4=>
 ((aG data.base data.len (yw (f-(1:Int))))/\aD none (ab .i64) g (sat data.base 1 (yw (f-(1:Int)))) λx5=>
 aa Tryz.prog ot [(.int .i64 x4),(.int .i64 x5)] aW (λr1 l=>
 (if (!r1)=true then
 k2 l
 else
 ((aG data.base data.len (yw (f-(1:Int))))/\aD none (ab .i64) l (sat data.base 1 (yw (f-(1:Int)))) λx6=>
 ((aG data.base data.len f)/\aD none (ab .i64) l (sat data.base 1 f) λx7=>
 ((aG data.base data.len f)/\cl l (sat data.base 1 f) [(.int .i64 x6)] (λJ=>
 ((aG data.base data.len (yw (f-(1:Int))))/\cl J (sat data.base 1 (yw (f-(1:Int)))) [(.int .i64 x7)] (λW=>
 U (yw (f-(1:Int))) W)))))))) g))
 else
 k2 g)) (c-(1:Int)) V)
 (λg=>
 O g)
 else
 O V))
 (λg=>
 (if (decide ((yw ((b:Int)-c))>=(2:Int)))=true then
 bM (λO=>
 au (α1:=Int) (λU f l=>
 (if (decide (f<(b:Int)))=true then
 ((aG data.base data.len f)/\aD none (ab .i64) l (sat data.base 1 f) λx4=>
 ((aG data.base data.len (yw (f-(1:Int))))/\aD none (ab .i64) l (sat data.base 1 (yw (f-(1:Int)))) λx5=>
 aa Tryz.prog ot [(.int .i64 x4),(.int .i64 x5)] aW (λr1 J=>
 (if (!r1)=true then
 O J
 else
 ((aG data.base data.len (yw (f-(1:Int))))/\aD none (ab .i64) J (sat data.base 1 (yw (f-(1:Int)))) λx6=>
 ((aG data.base data.len f)/\aD none (ab .i64) J (sat data.base 1 f) λx7=>
 ((aG data.base data.len f)/\cl J (sat data.base 1 f) [(.int .i64 x6)] (λW=>
 ((aG data.base data.len (yw (f-(1:Int))))/\cl W (sat data.base 1 (yw (f-(1:Int)))) [(.int .i64 x7)] (λb2=>
 U (yw (f+(1:Int))) b2)))))))) l))
 else
 O l)) (yw (c+(1:Int))) g)
 (λl=>(∃u,DA l data u F/\Mv F k F l/\(a:Int)+1<=c/\c<=(b:Int)/\u.size=d.size/\partialIns ltInt a b s c.toNat u=partialInsertionSort ltInt d a b))
 else (∃u,DA g data u F/\Mv F k F g/\(a:Int)+1<=c/\c<=(b:Int)/\u.size=d.size/\partialIns ltInt a b s c.toNat u=partialInsertionSort ltInt d a b))))))))))):=by
  intro b8;rw [b8] at Y;rw [partialIns_succ,<-Y] at v;unfold fixUp fixDown at v;by_cases b5:c=(b:Int)
  ·grind
  rw [if_neg (by simpa using b5)];rw [om] at v;by_cases b3:(b:Int)-(a:Int)<50
  ·grind
  rw [if_neg (by simpa using b3)];rw [om] at v;refine ud R (A:=c) (B:=c-1) (by omega) (by omega) (by omega) (by omega) λk5 T m5=> ?_;rw [X] at T;rw [wrap64 (n:=c-(a:Int)) (by omega) (by omega),wrap64 (n:=(b:Int)-c) (by omega) (by omega),wrap64 (n:=c+1) (by omega) (by omega)];have Z:(swp m c.toNat (c.toNat-1)).size=d.size:=by rw [size_swp,b9]
  generalize swp m c.toNat (c.toNat-1)=I at T v Z;refine bM.intro (λg=>∃h,DA g data h F/\Mv F k F g/\h.size=d.size/\h=if c.toNat-a>=2 then shiftDown ltInt (c.toNat-1) I else I) ?_ ?_
  ·by_cases p:c-(a:Int)>=2
   ·rw [if_pos (by simpa using p)];refine bM.intro (λg=>∃h,DA g data h F/\Mv F k F g/\h.size=d.size/\h=shiftDown ltInt (c.toNat-1) I) ?_ ?_
    ·refine au.intro (λf g=>∃h,DA g data h F/\Mv F k F g/\h.size=d.size/\0<=f/\f<(d.size:Int)/\shiftDown ltInt f.toNat h=shiftDown ltInt (c.toNat-1) I) (λf _=>f.toNat)
      ⟨I,T,S.trans m5,Z,by omega,by omega,by rw [X]⟩ ?_
     rintro f g ⟨h,H,P,M,q0,q1,C⟩;by_cases K:f>=1
     ·rw [if_pos (by simpa using K),wrap64 (n:=f-1) (by omega) (by omega)];refine pz H (by omega) (by omega) (pz H (by omega) (by omega) ?_);obtain ⟨z,hz⟩:∃z,f.toNat=z+1:=⟨f.toNat-1,by omega⟩;have L:(f-1).toNat=z:=by omega
      rw [hz,L];rw [hz,shiftDown] at C;refine u9 (vg ?_);cases D:ltInt h[z+1]! h[z]! with
      | false=>rw [if_pos (by rfl)];rw [D,if_pos (by rfl)] at C;exact ⟨h,H,P,M,C⟩
      | true=>rw [iT];rw [D,if_neg (by simp)] at C;refine ud H (A:=f) (B:=f-1) (by omega) (by omega) (by omega) (by omega) λk7 y G=> ?_;rw [hz,L] at y;exact ⟨⟨_,y,P.trans G,by rw [size_swp,M],by omega,by omega,by rw [L];exact C⟩,by omega⟩
     ·rw [if_neg (by simpa using K)];have:f.toNat=0:=by omega
      rw [this,shiftDown] at C;exact ⟨h,H,P,M,C⟩
    grind
   ·rw [if_neg (by simpa using p)];exact ⟨I,T,S.trans m5,Z,by grind⟩
  ·rintro g ⟨h,H,P,M,C⟩;rw [<-C] at v;by_cases p:(b:Int)-c>=2
   ·rw [if_pos (by simpa using p)];rw [if_pos (by omega)] at v;refine bM.intro (λl=>∃q,DA l data q F/\Mv F k F l/\q.size=d.size/\q=shiftUp ltInt b (c.toNat+1) h) ?_ ?_
    ·refine au.intro (λf l=>∃q,DA l data q F/\Mv F k F l/\q.size=d.size/\c+1<=f/\f<=(b:Int)/\shiftUp ltInt b f.toNat q=shiftUp ltInt b (c.toNat+1) h) (λf _=>(b-f).toNat)
      ⟨h,H,P,M,by omega,by omega,by
       have:(c+1).toNat=c.toNat+1:=by omega
       rw [this]⟩ ?_
     rintro f l ⟨q,y,G,N,q0,q1,w⟩;rw [shiftUp] at w;by_cases K:f<(b:Int)
     ·rw [if_pos (by simpa using K),wrap64 (n:=f-1) (by omega) (by omega)];rw [if_pos (by omega)] at w;refine pz y (by omega) (by omega) (pz y (by omega) (by omega) ?_);have L:(f-1).toNat=f.toNat-1:=by omega
      rw [L];refine u9 (vg ?_);cases D:ltInt q[f.toNat]! q[f.toNat-1]! with
      | false=>rw [if_pos (by rfl)];rw [D,if_pos (by rfl)] at w;exact ⟨q,y,G,N,w⟩
      | true=>
       rw [iT];rw [D,if_neg (by simp)] at w;refine ud y (A:=f) (B:=f-1) (by omega) (by omega) (by omega) (by omega) λk8 o8 m8=> ?_;rw [L] at o8;rw [aI];have c0:(f+1).toNat=f.toNat+1:=by omega
       exact ⟨⟨_,o8,G.trans m8,by rw [size_swp,N],by omega,by omega,by rw [c0];exact w⟩,by omega⟩
     ·rw [if_neg (by simpa using K)];rw [om] at w;exact ⟨q,y,G,N,w⟩
    ·rintro l ⟨q,y,G,N,w⟩;exact ⟨q,y,G,by omega,by omega,N,by rw [w];exact v⟩
   grind
 refine rZ R (λE=> ?_) λx hx=> ?_
 ·grind
 refine rZ R (λE=> ?_) λx1 b1=> ?_
 ·omega
 rw [X] at b1;by_cases a9:c<(b:Int)
 ·have E:decide (c<(b:Int))=true:=by simpa using a9
  refine ⟨λ_=>u9 (vg ?_),λe=>(by grind)⟩;refine aE ?_;rw [E,Bool.true_and,hx E,b1 E];cases D:ltInt m[c.toNat]! m[c.toNat-1]! with
  | false=>rw [if_pos (by rfl),aI];have b6:=Y;rw [scanSorted,D,if_pos (by simp;omega)] at b6;grind
  | true=>rw [iT];exact a8 (by rw [scanSorted,D,if_neg (by simp)])
 ·have E:decide (c<(b:Int))=false:=by simpa using a9
  refine ⟨λe=>(by grind),λ_=>⟨false,aE ?_⟩⟩;rw [E,Bool.false_and,if_neg (by simp)];exact a8 (by rw [scanSorted,if_neg (by simp;omega)])
end Lf.Soint
namespace Lf
open Go Go.Proofs Go.Sort
def BE :List UInt8:=[⟨⟨⟨0,by decide⟩⟩⟩,⟨⟨⟨1,by decide⟩⟩⟩,⟨⟨⟨2,by decide⟩⟩⟩,⟨⟨⟨2,by decide⟩⟩⟩,⟨⟨⟨3,by decide⟩⟩⟩,⟨⟨⟨3,by decide⟩⟩⟩,⟨⟨⟨3,by decide⟩⟩⟩,⟨⟨⟨3,by decide⟩⟩⟩,⟨⟨⟨4,by decide⟩⟩⟩,⟨⟨⟨4,by decide⟩⟩⟩,⟨⟨⟨4,by decide⟩⟩⟩,⟨⟨⟨4,by decide⟩⟩⟩,⟨⟨⟨4,by decide⟩⟩⟩,⟨⟨⟨4,by decide⟩⟩⟩,⟨⟨⟨4,by decide⟩⟩⟩,⟨⟨⟨4,by decide⟩⟩⟩,⟨⟨⟨5,by decide⟩⟩⟩,⟨⟨⟨5,by decide⟩⟩⟩,⟨⟨⟨5,by decide⟩⟩⟩,⟨⟨⟨5,by decide⟩⟩⟩,⟨⟨⟨5,by decide⟩⟩⟩,⟨⟨⟨5,by decide⟩⟩⟩,⟨⟨⟨5,by decide⟩⟩⟩,⟨⟨⟨5,by decide⟩⟩⟩,⟨⟨⟨5,by decide⟩⟩⟩,⟨⟨⟨5,by decide⟩⟩⟩,⟨⟨⟨5,by decide⟩⟩⟩,⟨⟨⟨5,by decide⟩⟩⟩,⟨⟨⟨5,by decide⟩⟩⟩,⟨⟨⟨5,by decide⟩⟩⟩,⟨⟨⟨5,by decide⟩⟩⟩,⟨⟨⟨5,by decide⟩⟩⟩,⟨⟨⟨6,by decide⟩⟩⟩,⟨⟨⟨6,by decide⟩⟩⟩,⟨⟨⟨6,by decide⟩⟩⟩,⟨⟨⟨6,by decide⟩⟩⟩,⟨⟨⟨6,by decide⟩⟩⟩,⟨⟨⟨6,by decide⟩⟩⟩,⟨⟨⟨6,by decide⟩⟩⟩,⟨⟨⟨6,by decide⟩⟩⟩,⟨⟨⟨6,by decide⟩⟩⟩,⟨⟨⟨6,by decide⟩⟩⟩,⟨⟨⟨6,by decide⟩⟩⟩,⟨⟨⟨6,by decide⟩⟩⟩,⟨⟨⟨6,by decide⟩⟩⟩,⟨⟨⟨6,by decide⟩⟩⟩,⟨⟨⟨6,by decide⟩⟩⟩,⟨⟨⟨6,by decide⟩⟩⟩,⟨⟨⟨6,by decide⟩⟩⟩,⟨⟨⟨6,by decide⟩⟩⟩,⟨⟨⟨6,by decide⟩⟩⟩,⟨⟨⟨6,by decide⟩⟩⟩,⟨⟨⟨6,by decide⟩⟩⟩,⟨⟨⟨6,by decide⟩⟩⟩,⟨⟨⟨6,by decide⟩⟩⟩,⟨⟨⟨6,by decide⟩⟩⟩,⟨⟨⟨6,by decide⟩⟩⟩,⟨⟨⟨6,by decide⟩⟩⟩,⟨⟨⟨6,by decide⟩⟩⟩,⟨⟨⟨6,by decide⟩⟩⟩,⟨⟨⟨6,by decide⟩⟩⟩,⟨⟨⟨6,by decide⟩⟩⟩,⟨⟨⟨6,by decide⟩⟩⟩,⟨⟨⟨6,by decide⟩⟩⟩,⟨⟨⟨7,by decide⟩⟩⟩,⟨⟨⟨7,by decide⟩⟩⟩,⟨⟨⟨7,by decide⟩⟩⟩,⟨⟨⟨7,by decide⟩⟩⟩,⟨⟨⟨7,by decide⟩⟩⟩,⟨⟨⟨7,by decide⟩⟩⟩,⟨⟨⟨7,by decide⟩⟩⟩,⟨⟨⟨7,by decide⟩⟩⟩,⟨⟨⟨7,by decide⟩⟩⟩,⟨⟨⟨7,by decide⟩⟩⟩,⟨⟨⟨7,by decide⟩⟩⟩,⟨⟨⟨7,by decide⟩⟩⟩,⟨⟨⟨7,by decide⟩⟩⟩,⟨⟨⟨7,by decide⟩⟩⟩,⟨⟨⟨7,by decide⟩⟩⟩,⟨⟨⟨7,by decide⟩⟩⟩,⟨⟨⟨7,by decide⟩⟩⟩,⟨⟨⟨7,by decide⟩⟩⟩,⟨⟨⟨7,by decide⟩⟩⟩,⟨⟨⟨7,by decide⟩⟩⟩,⟨⟨⟨7,by decide⟩⟩⟩,⟨⟨⟨7,by decide⟩⟩⟩,⟨⟨⟨7,by decide⟩⟩⟩,⟨⟨⟨7,by decide⟩⟩⟩,⟨⟨⟨7,by decide⟩⟩⟩,⟨⟨⟨7,by decide⟩⟩⟩,⟨⟨⟨7,by decide⟩⟩⟩,⟨⟨⟨7,by decide⟩⟩⟩,⟨⟨⟨7,by decide⟩⟩⟩,⟨⟨⟨7,by decide⟩⟩⟩,⟨⟨⟨7,by decide⟩⟩⟩,⟨⟨⟨7,by decide⟩⟩⟩,⟨⟨⟨7,by decide⟩⟩⟩,⟨⟨⟨7,by decide⟩⟩⟩,⟨⟨⟨7,by decide⟩⟩⟩,⟨⟨⟨7,by decide⟩⟩⟩,⟨⟨⟨7,by decide⟩⟩⟩,⟨⟨⟨7,by decide⟩⟩⟩,⟨⟨⟨7,by decide⟩⟩⟩,⟨⟨⟨7,by decide⟩⟩⟩,⟨⟨⟨7,by decide⟩⟩⟩,⟨⟨⟨7,by decide⟩⟩⟩,⟨⟨⟨7,by decide⟩⟩⟩,⟨⟨⟨7,by decide⟩⟩⟩,⟨⟨⟨7,by decide⟩⟩⟩,⟨⟨⟨7,by decide⟩⟩⟩,⟨⟨⟨7,by decide⟩⟩⟩,⟨⟨⟨7,by decide⟩⟩⟩,⟨⟨⟨7,by decide⟩⟩⟩,⟨⟨⟨7,by decide⟩⟩⟩,⟨⟨⟨7,by decide⟩⟩⟩,⟨⟨⟨7,by decide⟩⟩⟩,⟨⟨⟨7,by decide⟩⟩⟩,⟨⟨⟨7,by decide⟩⟩⟩,⟨⟨⟨7,by decide⟩⟩⟩,⟨⟨⟨7,by decide⟩⟩⟩,⟨⟨⟨7,by decide⟩⟩⟩,⟨⟨⟨7,by decide⟩⟩⟩,⟨⟨⟨7,by decide⟩⟩⟩,⟨⟨⟨7,by decide⟩⟩⟩,⟨⟨⟨7,by decide⟩⟩⟩,⟨⟨⟨7,by decide⟩⟩⟩,⟨⟨⟨7,by decide⟩⟩⟩,⟨⟨⟨7,by decide⟩⟩⟩,⟨⟨⟨8,by decide⟩⟩⟩,⟨⟨⟨8,by decide⟩⟩⟩,⟨⟨⟨8,by decide⟩⟩⟩,⟨⟨⟨8,by decide⟩⟩⟩,⟨⟨⟨8,by decide⟩⟩⟩,⟨⟨⟨8,by decide⟩⟩⟩,⟨⟨⟨8,by decide⟩⟩⟩,⟨⟨⟨8,by decide⟩⟩⟩,⟨⟨⟨8,by decide⟩⟩⟩,⟨⟨⟨8,by decide⟩⟩⟩,⟨⟨⟨8,by decide⟩⟩⟩,⟨⟨⟨8,by decide⟩⟩⟩,⟨⟨⟨8,by decide⟩⟩⟩,⟨⟨⟨8,by decide⟩⟩⟩,⟨⟨⟨8,by decide⟩⟩⟩,⟨⟨⟨8,by decide⟩⟩⟩,⟨⟨⟨8,by decide⟩⟩⟩,⟨⟨⟨8,by decide⟩⟩⟩,⟨⟨⟨8,by decide⟩⟩⟩,⟨⟨⟨8,by decide⟩⟩⟩,⟨⟨⟨8,by decide⟩⟩⟩,⟨⟨⟨8,by decide⟩⟩⟩,⟨⟨⟨8,by decide⟩⟩⟩,⟨⟨⟨8,by decide⟩⟩⟩,⟨⟨⟨8,by decide⟩⟩⟩,⟨⟨⟨8,by decide⟩⟩⟩,⟨⟨⟨8,by decide⟩⟩⟩,⟨⟨⟨8,by decide⟩⟩⟩,⟨⟨⟨8,by decide⟩⟩⟩,⟨⟨⟨8,by decide⟩⟩⟩,⟨⟨⟨8,by decide⟩⟩⟩,⟨⟨⟨8,by decide⟩⟩⟩,⟨⟨⟨8,by decide⟩⟩⟩,⟨⟨⟨8,by decide⟩⟩⟩,⟨⟨⟨8,by decide⟩⟩⟩,⟨⟨⟨8,by decide⟩⟩⟩,⟨⟨⟨8,by decide⟩⟩⟩,⟨⟨⟨8,by decide⟩⟩⟩,⟨⟨⟨8,by decide⟩⟩⟩,⟨⟨⟨8,by decide⟩⟩⟩,⟨⟨⟨8,by decide⟩⟩⟩,⟨⟨⟨8,by decide⟩⟩⟩,⟨⟨⟨8,by decide⟩⟩⟩,⟨⟨⟨8,by decide⟩⟩⟩,⟨⟨⟨8,by decide⟩⟩⟩,⟨⟨⟨8,by decide⟩⟩⟩,⟨⟨⟨8,by decide⟩⟩⟩,⟨⟨⟨8,by decide⟩⟩⟩,⟨⟨⟨8,by decide⟩⟩⟩,⟨⟨⟨8,by decide⟩⟩⟩,⟨⟨⟨8,by decide⟩⟩⟩,⟨⟨⟨8,by decide⟩⟩⟩,⟨⟨⟨8,by decide⟩⟩⟩,⟨⟨⟨8,by decide⟩⟩⟩,⟨⟨⟨8,by decide⟩⟩⟩,⟨⟨⟨8,by decide⟩⟩⟩,⟨⟨⟨8,by decide⟩⟩⟩,⟨⟨⟨8,by decide⟩⟩⟩,⟨⟨⟨8,by decide⟩⟩⟩,⟨⟨⟨8,by decide⟩⟩⟩,⟨⟨⟨8,by decide⟩⟩⟩,⟨⟨⟨8,by decide⟩⟩⟩,⟨⟨⟨8,by decide⟩⟩⟩,⟨⟨⟨8,by decide⟩⟩⟩,⟨⟨⟨8,by decide⟩⟩⟩,⟨⟨⟨8,by decide⟩⟩⟩,⟨⟨⟨8,by decide⟩⟩⟩,⟨⟨⟨8,by decide⟩⟩⟩,⟨⟨⟨8,by decide⟩⟩⟩,⟨⟨⟨8,by decide⟩⟩⟩,⟨⟨⟨8,by decide⟩⟩⟩,⟨⟨⟨8,by decide⟩⟩⟩,⟨⟨⟨8,by decide⟩⟩⟩,⟨⟨⟨8,by decide⟩⟩⟩,⟨⟨⟨8,by decide⟩⟩⟩,⟨⟨⟨8,by decide⟩⟩⟩,⟨⟨⟨8,by decide⟩⟩⟩,⟨⟨⟨8,by decide⟩⟩⟩,⟨⟨⟨8,by decide⟩⟩⟩,⟨⟨⟨8,by decide⟩⟩⟩,⟨⟨⟨8,by decide⟩⟩⟩,⟨⟨⟨8,by decide⟩⟩⟩,⟨⟨⟨8,by decide⟩⟩⟩,⟨⟨⟨8,by decide⟩⟩⟩,⟨⟨⟨8,by decide⟩⟩⟩,⟨⟨⟨8,by decide⟩⟩⟩,⟨⟨⟨8,by decide⟩⟩⟩,⟨⟨⟨8,by decide⟩⟩⟩,⟨⟨⟨8,by decide⟩⟩⟩,⟨⟨⟨8,by decide⟩⟩⟩,⟨⟨⟨8,by decide⟩⟩⟩,⟨⟨⟨8,by decide⟩⟩⟩,⟨⟨⟨8,by decide⟩⟩⟩,⟨⟨⟨8,by decide⟩⟩⟩,⟨⟨⟨8,by decide⟩⟩⟩,⟨⟨⟨8,by decide⟩⟩⟩,⟨⟨⟨8,by decide⟩⟩⟩,⟨⟨⟨8,by decide⟩⟩⟩,⟨⟨⟨8,by decide⟩⟩⟩,⟨⟨⟨8,by decide⟩⟩⟩,⟨⟨⟨8,by decide⟩⟩⟩,⟨⟨⟨8,by decide⟩⟩⟩,⟨⟨⟨8,by decide⟩⟩⟩,⟨⟨⟨8,by decide⟩⟩⟩,⟨⟨⟨8,by decide⟩⟩⟩,⟨⟨⟨8,by decide⟩⟩⟩,⟨⟨⟨8,by decide⟩⟩⟩,⟨⟨⟨8,by decide⟩⟩⟩,⟨⟨⟨8,by decide⟩⟩⟩,⟨⟨⟨8,by decide⟩⟩⟩,⟨⟨⟨8,by decide⟩⟩⟩,⟨⟨⟨8,by decide⟩⟩⟩,⟨⟨⟨8,by decide⟩⟩⟩,⟨⟨⟨8,by decide⟩⟩⟩,⟨⟨⟨8,by decide⟩⟩⟩,⟨⟨⟨8,by decide⟩⟩⟩,⟨⟨⟨8,by decide⟩⟩⟩,⟨⟨⟨8,by decide⟩⟩⟩,⟨⟨⟨8,by decide⟩⟩⟩,⟨⟨⟨8,by decide⟩⟩⟩,⟨⟨⟨8,by decide⟩⟩⟩,⟨⟨⟨8,by decide⟩⟩⟩,⟨⟨⟨8,by decide⟩⟩⟩,⟨⟨⟨8,by decide⟩⟩⟩,⟨⟨⟨8,by decide⟩⟩⟩,⟨⟨⟨8,by decide⟩⟩⟩,⟨⟨⟨8,by decide⟩⟩⟩,⟨⟨⟨8,by decide⟩⟩⟩]
theorem NP :∀n,n<256->(BE.getD n ⟨⟨⟨0,by decide⟩⟩⟩).toNat=bitsLen n:=by decide+kernel
theorem zyw {n k:Nat} (h:2^k<=n):bitsLen n=k+bitsLen (n / 2^k):=by
 have hp:0<2^k:=Nat.pow_pos (by decide);have h1:k<bitsLen n:=by
  rcases Nat.lt_or_ge k (bitsLen n) with h1 | h1
  ·exact h1
  ·have:=(bitsLen_le_iff n k).1 h1;omega
 apply Nat.le_antisymm
 ·refine (bitsLen_le_iff n _).2 ?_;have:=lt_two_pow_bitsLen (n / 2^k);rw [Nat.div_lt_iff_lt_mul hp] at this;grind
 ·have a:bitsLen (n / 2^k)<=bitsLen n-k:=by refine (bitsLen_le_iff _ _).2 ?_;rw [Nat.div_lt_iff_lt_mul hp,<-Nat.pow_add];have:=lt_two_pow_bitsLen n;grind
  omega
theorem E9 {n k:Nat} (a:k<=64):fA .u64 (n:Int) (k:Int)=((n / 2^k:Nat):Int):=by
 unfold fA;have:min (k:Int).toNat (IntKind.bits .u64)=k:=by simp [IntKind.bits];omega
 grind
theorem KG {n:Int} (a:0<=n) (b:n<256):IntKind.wrap .u8 n=n:=by
 (try unfold yw);unfold IntKind.wrap
 simp only [IntKind.signed,IntKind.bits];grind
theorem UH {n:Nat} {Q:Int->Hp->Prop} {h:Hp} (w:n<18446744073709551616) (x:Q (bitsLen n:Int) h):Zz Tryz.prog (n:Int) Q h:=by
 have p:∀m,m<256->bitsLen m<=8:=λm b=>(bitsLen_le_iff m 8).2 (by simpa using b);unfold Zz;refine fQ.intro (λq l k=>k=h/\∃(m c:Nat),q=(m:Int)/\l=(c:Int)/\m<4294967296/\c<=32/\bitsLen n=c+bitsLen m) ?_ ?_
 ·by_cases hb:(n:Int)>=4294967296
  ·rw [if_pos (decide_eq_true hb)];refine ⟨by decide,rfl,n / 2^32,32,E9 (k:=32) (by decide),rfl,?_,by decide,zyw (by omega)⟩;rw [Nat.div_lt_iff_lt_mul (by decide)];omega
  grind
 ·rintro q l k ⟨rfl,m,c,rfl,rfl,b,j,f⟩;refine fQ.intro (λr o d=>d=k/\∃(m c:Nat),r=(m:Int)/\o=(c:Int)/\m<65536/\c<=48/\bitsLen n=c+bitsLen m) ?_ ?_
  ·by_cases hb:(m:Int)>=65536
   ·rw [if_pos (decide_eq_true hb),aI];refine ⟨by decide,rfl,m / 2^16,c+16,E9 (k:=16) (by decide),by omega,?_,by omega,?_⟩
    ·rw [Nat.div_lt_iff_lt_mul (by decide)];omega
    ·rw [f,zyw (n:=m) (k:=16) (by omega)];omega
   grind
  ·clear f j b m c;rintro r o d ⟨rfl,m,c,rfl,rfl,b,j,f⟩;by_cases hb:(m:Int)>=256
   ·rw [if_pos (decide_eq_true hb)];have s:fA .u64 (m:Int) 8=((m / 2^8:Nat):Int):=E9 (k:=8) (by decide);have a:m / 2^8<256:=by omega
    rw [s,KG (n:=((m / 2^8:Nat):Int)) (by omega) (by omega)];have e:(((m / 2^8:Nat):Int)).toNat=m / 2^8:=by omega
    rw [e];refine ⟨by decide,by omega,?_⟩;have g:=NP (m / 2^8) a;have u:=p (m / 2^8) a;have v:=zyw (n:=m) (k:=8) (by omega);have i:Q (yw ((yw ((c:Int)+(8:Int)))+(yw ((((BE.getD (m / 2^8) ⟨⟨⟨0,by decide⟩⟩⟩).toNat:Nat)):Int)))) d:=by rw [g,wrap64 (n:=(c:Int)+8) (by omega) (by omega),wrap64 (n:=((bitsLen (m / 2^8):Nat):Int)) (by omega) (by omega),aI];grind
    exact i
   ·rw [if_neg λt=>hb (of_decide_eq_true t)];have a:m<256:=by omega
    rw [KG (n:=(m:Int)) (by omega) (by omega)];have e:((m:Nat):Int).toNat=m:=by omega
    rw [e];refine ⟨by omega,?_⟩;have g:=NP m a;have u:=p m a;have i:Q (yw ((c:Int)+(yw ((((BE.getD m ⟨⟨⟨0,by decide⟩⟩⟩).toNat:Nat)):Int)))) d:=by rw [g,wrap64 (n:=((bitsLen m:Nat):Int)) (by omega) (by omega),aI];grind
    exact i
theorem Jw {n:Nat} {Q:Int->Hp->Prop} {h:Hp} (a:n<18446744073709551616) (b:Q (bitsLen n:Int) h):ztr Tryz.prog (n:Int) Q h:=by unfold ztr;exact Rp (UH a b)
theorem xd {n:Int} (a:0<=n) (b:n<18446744073709551616):IntKind.wrap .u64 n=n:=tU ⟨a,b⟩
theorem QD {n:Nat} {Q:Int->Hp->Prop} {h:Hp} (d:n<=140737488355328) (c:Q ((2^bitsLen n:Nat):Int) h):UR Tryz.prog (n:Int) Q h:=by
 unfold UR;rw [xd (by omega) (by omega)];refine zuz (Jw (by omega) ⟨Int.natCast_nonneg _,?_⟩);have hb:bitsLen n<=48:=(bitsLen_le_iff n 48).2 (by omega);have e:mQ .u64 1 (bitsLen n:Int)=((2^bitsLen n:Nat):Int):=by
  unfold mQ;have:min (bitsLen n:Int).toNat (IntKind.bits .u64)=bitsLen n:=by simp [IntKind.bits];omega
  rw [this];have b:2^bitsLen n<=2^48:=Nat.pow_le_pow_right (by decide) hb;have a:(1:Int)*2^bitsLen n=((2^bitsLen n:Nat):Int):=by norm_cast;simp
  generalize 2^bitsLen n=z at b a ⊢;rw [a,xd (by omega) (by omega)]
 rw [e];exact c
end Lf
namespace Lf.Soint
open Go Go.Proofs Go.Sort
theorem qB {h:Hp} {b:Nat} {sh:Shape} {x:sh.T} {K:sh.T->Prop} (k:fb h b (ba (sh.enc x))) (a:K x):aD none sh h ⟨b,0,none⟩ K:=
 ⟨x,k.fw (by rw [List.drop_zero,List.take_length]),a⟩
theorem DV {k:Hp} {data:Sl} {d:Array Int} {F:List Nat} {eV:Nat} {s a b:Int} {Q:Int->Int->Hp->Prop} (o:DA k data d F) (q:eV∉F) (f:fb k eV [.int .i64 s]) (l:0<=a) (j:a<(d.size:Int)) (m:0<=b) (hb:b<(d.size:Int))
  (h:∀r g p e,((r=a/\g=b)\/(r=b/\g=a))->DA e data d F->fb e eV [.int .i64 p]->Mv [eV] k [eV] e->Q r g e):Tp Tryz.prog data a b (some ⟨eV,0,none⟩) Q k:=by
 unfold Tp;refine pz o m hb (pz o l j ?_);refine u9 (vg ?_);cases u:ltInt d[b.toNat]! d[a.toNat]! with
 | true=>rw [if_pos rfl];refine aP (qB (sh:=ab .i64) (x:=s) f (aP ?_));refine uS (b:=eV) (off:=0) f (by simp) λe i n=> ?_;exact h b a _ e (.inr ⟨rfl,rfl⟩) (o.mv i λc t=>by grind) (by simpa using n) i
 | false=>rw [iT];exact h a b s k (.inl ⟨rfl,rfl⟩) o f (Mv.refl _ _)
theorem Ms {k:Hp} {data:Sl} {d:Array Int} {F:List Nat} {eV:Nat} {s a b c:Int} {Q:Int->Hp->Prop} (o:DA k data d F) (f:eV∉F) (p:fb k eV [.int .i64 s]) (h:0<=a) (g:a<(d.size:Int)) (i:0<=b) (hb:b<(d.size:Int)) (l:0<=c) (j:c<(d.size:Int))
  (m:∀r C e,(r=a\/r=b\/r=c)->DA e data d F->fb e eV [.int .i64 C]->Mv [eV] k [eV] e->Q r e):Tn Tryz.prog data a b c (some ⟨eV,0,none⟩) Q k:=by
 unfold Tn;refine SK (DV o f p h g i hb λr K s1 I E y q v=> ?_);refine SK (DV y f q (by omega) (by omega) l j λr2 L s2 J G z t w=> ?_);refine SK (DV z f t (by omega) (by omega) (by omega) (by omega) λM B D n H A u x=> ?_);exact m B D n (by omega) A u (v.trans (w.trans x))
theorem B9 {k:Hp} {data:Sl} {d:Array Int} {F:List Nat} {eV:Nat} {s a:Int} {Q:Int->Hp->Prop} (o:DA k data d F) (e:eV∉F) (g:fb k eV [.int .i64 s]) (p:1<=a) (m:a+1<(d.size:Int)) (q:d.size<=140737488355328)
  (f:∀r c b,a-1<=r->r<=a+1->DA b data d F->fb b eV [.int .i64 c]->Mv [eV] k [eV] b->Q r b):RJ Tryz.prog data a (some ⟨eV,0,none⟩) Q k:=by
 unfold RJ;rw [wrap64 (n:=a-1) (by omega) (by omega),wrap64 (n:=a+1) (by omega) (by omega)];exact zja (Ms o e g (by omega) (by omega) (by omega) (by omega) (by omega) (by omega) λr c b l j h i=>f r c b (by omega) (by omega) j h i)
set_option maxHeartbeats 1000000 in
theorem W9 {k:Hp} {data:Sl} {d:Array Int} {F:List Nat} {a b:Nat} {Q:Int->Int->Hp->Prop} (o:DA k data d F) (a8:a<b) (hb:b<=d.size) (u:d.size<=140737488355328)
  (hq:∀(r:Nat) hint e,a<=r->r<b->DA e data d F->Mv F k F e->Q (r:Int) hint e):Sm Tryz.prog data (a:Int) (b:Int) Q k:=by
 unfold Sm;have L:(b:Int)-(a:Int)=((b-a:Nat):Int):=by omega
 have N:((b-a:Nat):Int).tdiv 4=(((b-a) / 4:Nat):Int):=rfl;rw [wrap64 (n:=(b:Int)-(a:Int)) (by omega) (by omega),L,N];rw [wrap64 (n:=(((b-a) / 4:Nat):Int)) (by omega) (by omega),wrap64 (n:=(((b-a) / 4:Nat):Int)*1) (by omega) (by omega),wrap64 (n:=(((b-a) / 4:Nat):Int)*2) (by omega) (by omega),wrap64 (n:=(((b-a) / 4:Nat):Int)*3) (by omega) (by omega),
  wrap64 (n:=(a:Int)+(((b-a) / 4:Nat):Int)*1) (by omega) (by omega),wrap64 (n:=(a:Int)+(((b-a) / 4:Nat):Int)*2) (by omega) (by omega),wrap64 (n:=(a:Int)+(((b-a) / 4:Nat):Int)*3) (by omega) (by omega)]
 have a9:4*((b-a) / 4)<=b-a:=Nat.mul_div_le _ _;intro eV t p;have G:=lx (o:=.cells (([.int .i64 0]:List Value).toArray) t (0,0)) p;have l:fb (k.set eV (.cells (([.int .i64 0]:List Value).toArray) t (0,0))) eV [.int .i64 0]:=⟨t,kK⟩;have h:eV∉F:=λf=>o.known eV f p;have I:Mv [] k [eV] (k.set eV (.cells (([.int .i64 0]:List Value).toArray) t (0,0))):=Mv.new p;generalize k.set eV (.cells (([.int .i64 0]:List Value).toArray) t (0,0))=g at G l I;have z:DA g data d F:=o.mv (Mv.of_le [] G) (by simp);have out:∀ {e:Hp},Mv [eV] g [eV] e->Mv F k F e:=λm=>(I.trans m).sub (λc f=>by cases f) λc f=>.inr (.inl f);have B:∀(r:Int) (s:Int) (e:Hp),(a:Int)<=r->r<(b:Int)->DA e data d F->fb e eV [.int .i64 s]->Mv [eV] g [eV] e->
   aD none (ab .i64) e ⟨eV,0,none⟩ λx=>(if (x==(0:Int))=true then Q r (1:Int) e else (if (x==(12:Int))=true then Q r (2:Int) e else Q r (0:Int) e)):=by
  intro r s e Z K J v H;have M:((r.toNat:Nat):Int)=r:=by omega
  refine qB (sh:=ab .i64) (x:=s) v ?_;grind
 refine ⟨by decide,by decide,by decide,?_⟩;by_cases D:((b-a:Nat):Int)>=8
 ·rw [if_pos (by simpa using D)];refine lH.intro (λi j q e=>∃s,(a:Int)<=i/\i<(b:Int)/\(a:Int)<=j/\j<(b:Int)/\(a:Int)<=q/\q<(b:Int)/\DA e data d F/\fb e eV [.int .i64 s]/\Mv [eV] g [eV] e) ?_ ?_
  ·by_cases C:((b-a:Nat):Int)>=50
   ·rw [if_pos (by simpa using C)];refine Rg (B9 z h l (by omega) (by omega) u λr2 s2 E a2 W A w y=> ?_);refine Rg (B9 A h w (by omega) (by omega) u λr3 s3 k3 a3 X T O R=> ?_);refine Rg (B9 T h O (by omega) (by omega) u λr4 V k4 a4 Y U P S=> ?_);exact ⟨V,by omega,by omega,by omega,by omega,by omega,by omega,U,P,y.trans (R.trans S)⟩
   ·rw [if_neg (by simpa using C)];exact ⟨0,by omega,by omega,by omega,by omega,by omega,by omega,z,l,Mv.refl _ _⟩
  ·rintro i j q e ⟨s,K,h2,h3,h4,h5,h6,J,v,H⟩;refine zja (Ms J h v (by omega) (by omega) (by omega) (by omega) (by omega) (by omega) λr s2 E M A w y=> ?_);exact B r s2 E (by omega) (by omega) A w (H.trans y)
 ·rw [if_neg (by simpa using D)];exact B _ 0 g (by omega) (by omega) z l (Mv.refl _ _)
theorem tJ {k:Hp} {eV:Nat} {v:Int} {Q:Int->Hp->Prop} (f:fb k eV [.int .u64 v]) (j:∀r e,fb e eV [.int .u64 r]->Mv [eV] k [eV] e->Q r e):VK Tryz.prog (some ⟨eV,0,none⟩) Q k:=by
 unfold VK;refine aP (qB (sh:=ab .u64) (x:=v) f (aP (qB (sh:=ab .u64) (x:=v) f ⟨by decide,aP ?_⟩)));refine uS (b:=eV) (off:=0) f (by simp) λl q n=> ?_;have c:fb l eV [.int .u64 (df .xor .u64 v (mQ .u64 v 13))]:=by simpa using n
 generalize df .xor .u64 v (mQ .u64 v 13)=v1 at c;refine aP (qB (sh:=ab .u64) (x:=v1) c (aP (qB (sh:=ab .u64) (x:=v1) c ⟨by decide,aP ?_⟩)));refine uS (b:=eV) (off:=0) c (by simp) λm s o=> ?_;have d:fb m eV [.int .u64 (df .xor .u64 v1 (fA .u64 v1 7))]:=by simpa using o
 generalize df .xor .u64 v1 (fA .u64 v1 7)=a at d;refine aP (qB (sh:=ab .u64) (x:=a) d (aP (qB (sh:=ab .u64) (x:=a) d ⟨by decide,aP ?_⟩)));refine uS (b:=eV) (off:=0) d (by simp) λh t p=> ?_;have g:fb h eV [.int .u64 (df .xor .u64 a (mQ .u64 a 17))]:=by simpa using p
 generalize df .xor .u64 a (mQ .u64 a 17)=i at g;exact aP (qB (sh:=ab .u64) (x:=i) g (j i h g (q.trans (s.trans t))))
theorem W4 {x:Int} {L:Nat} (a:L<=48):0<=df .and .u64 x (IntKind.wrap .u64 (((2^L:Nat):Int)-1))/\df .and .u64 x (IntKind.wrap .u64 (((2^L:Nat):Int)-1))<((2^L:Nat):Int):=by
 have b:2^L<=2^48:=Nat.pow_le_pow_right (by decide) a;have c:0<2^L:=Nat.pow_pos (by decide);have d:(2:Nat)^48=281474976710656:=by decide
 generalize 2^L=z at b c ⊢;have e:((z:Int)-1)=((z-1:Nat):Int):=by omega
 rw [e,xd (by omega) (by omega)];have hb:(BitVec.ofInt 64 x&&&BitVec.ofInt 64 ((z-1:Nat):Int)).toNat<=z-1:=by rw [BitVec.toNat_and];refine Nat.le_trans Nat.and_le_right ?_;grind
 show 0<=IntKind.wrap .u64 (((BitVec.ofInt 64 x&&&BitVec.ofInt 64 ((z-1:Nat):Int)).toNat:Nat):Int)/\IntKind.wrap .u64 (((BitVec.ofInt 64 x&&&BitVec.ofInt 64 ((z-1:Nat):Int)).toNat:Nat):Int)<(z:Int);rw [xd (by omega) (by omega)];omega
set_option maxHeartbeats 1000000 in
theorem Un {k:Hp} {data:Sl} {d:Array Int} {F:List Nat} {a b:Nat} {Q:Hp->Prop} (o:DA k data d F) (a9:a<=b) (hb:b<=d.size) (hs:d.size<=140737488355328)
  (R:∀f g,DA f data g F->Mv F k F f->PermIn a b d g->Q f):R0 Tryz.prog data (a:Int) (b:Int) Q k:=by
 unfold R0;have L:(b:Int)-(a:Int)=((b-a:Nat):Int):=by omega
 have S:((b-a:Nat):Int).tdiv 4=(((b-a) / 4:Nat):Int):=rfl;have b1:4*((b-a) / 4)<=b-a:=Nat.mul_div_le _ _;rw [wrap64 (n:=(b:Int)-(a:Int)) (by omega) (by omega),L,S];rw [wrap64 (n:=(((b-a) / 4:Nat):Int)) (by omega) (by omega),wrap64 (n:=(((b-a) / 4:Nat):Int)*2) (by omega) (by omega),wrap64 (n:=(a:Int)+(((b-a) / 4:Nat):Int)*2) (by omega) (by omega),
  wrap64 (n:=(a:Int)+(((b-a) / 4:Nat):Int)*2+1) (by omega) (by omega),wrap64 (n:=(a:Int)+(((b-a) / 4:Nat):Int)*2-1) (by omega) (by omega)]
 by_cases r:((b-a:Nat):Int)>=8
 ·rw [if_pos (by simpa using r)];intro eV t i;have C:=lx (o:=.cells (([.int .u64 0]:List Value).toArray) t (0,0)) i;have z:fb (k.set eV (.cells (([.int .u64 0]:List Value).toArray) t (0,0))) eV [.int .u64 0]:=⟨t,kK⟩;have p:eV∉F:=λhc=>o.known eV hc i;have D:Mv [] k [eV] (k.set eV (.cells (([.int .u64 0]:List Value).toArray) t (0,0))):=Mv.new i;generalize k.set eV (.cells (([.int .u64 0]:List Value).toArray) t (0,0))=T at C z D;have o1:DA T data d F:=o.mv (Mv.of_le [] C) (by simp);refine uS (b:=eV) (off:=0) z (by simp) λu E V=> ?_;have o2:DA u data d F:=o1.mv E λc hc=>by simp;exact λe=>p (e▸hc)
  refine zum (QD (by omega) ?_);have K:bitsLen (b-a)<=48:=(bitsLen_le_iff _ 48).2 (by omega);have P:=two_pow_bitsLen_le (n:=b-a) (by omega);refine ⟨by decide,?_⟩;have mF:Mv (F++ [eV]) k (F++ [eV]) u:=(D.trans E).sub (λc hc=>by cases hc) λc hc=>by
   rcases List.mem_append.1 hc with hc | hc
   ·exact .inr (.inl (List.mem_append_left _ hc))
   ·exact .inl hc
  have a8:∀ {f},Mv (F++ [eV]) k (F++ [eV]) f->Mv F k F f:=λm=>⟨λc ob e O=>m.cT c ob e (λhc=>by
   rcases List.mem_append.1 hc with hc | hc
   ·exact O hc
   ·rw [List.mem_singleton.1 hc,i] at e;cases e),λc hc=>.inl hc⟩
  refine au.intro (λh f=>∃g v,DA f data g F/\fb f eV [.int .u64 v]/\Mv (F++ [eV]) k (F++ [eV]) f/\PermIn a b d g/\(a:Int)<=h) (λh _=>((b:Int)+8-h).toNat) ⟨d,_,o2,by simpa using V,mF,permIn_refl d a b,by omega⟩ ?_;rintro h f ⟨g,v,o',U,Y,hp,b0⟩;have b2:=hp.1;refine ⟨by decide,?_⟩;by_cases N:h<=(a:Int)+(((b-a) / 4:Nat):Int)*2+1
  ·rw [if_pos (decide_eq_true N)];refine zvv (tJ U λl y W G=> ?_);have o5:DA y data g F:=o'.mv G λc hc=>by simp;exact λe=>p (e▸hc)
   obtain ⟨I,J⟩:=W4 (x:=l) K;generalize df .and .u64 l (IntKind.wrap .u64 (((2^bitsLen (b-a):Nat):Int)-1))=w at I J;have hw:w<2*((b-a:Nat):Int):=by
    have:((2^bitsLen (b-a):Nat):Int)<=((2*(b-a):Nat):Int):=by exact_mod_cast P
    omega
   rw [wrap64 (n:=w) (by omega) (by omega)];refine bH.intro (λother j=>j=y/\0<=other/\other<((b-a:Nat):Int)) ?_ ?_
   ·by_cases s:w>=((b-a:Nat):Int)
    ·rw [if_pos (decide_eq_true s),aI];exact ⟨rfl,by omega,by omega⟩
    ·rw [if_neg λM=>s (of_decide_eq_true M)];exact ⟨rfl,by omega,by omega⟩
   ·rintro other j ⟨rfl,q0,q1⟩;rw [wrap64 (n:=(a:Int)+other) (by omega) (by omega)];refine ud o5 (A:=h) (B:=(a:Int)+other) (by omega) (by omega) (by omega) (by omega) λq o7 H=> ?_;rw [wrap64 (n:=h+1) (by omega) (by omega)];have X:fb q eV [.int .u64 l]:=W.mv H p;have Z:Mv (F++ [eV]) f (F++ [eV]) q:=by have a1:Mv (F++ [eV]) f (F++ [eV]) j:=G.sub (λc hc=>List.mem_append_right _ hc) λc hc=>.inr (.inl hc);have a2:Mv (F++ [eV]) j (F++ [eV]) q:=H.sub (λc hc=>List.mem_append_left _ hc) λc hc=>.inr (.inl hc);exact a1.trans a2
    exact ⟨⟨_,l,o7,X,Y.trans Z,permIn_trans _ _ _ _ _ hp (swp_permIn g a b h.toNat ((a:Int)+other).toNat (by omega) (by omega) (by omega) (by omega) (by omega)),by omega⟩,by omega⟩
  grind
 ·rw [if_neg (by simpa using r)];exact R k d o (Mv.refl _ _) (permIn_refl d a b)
end Lf.Soint
namespace Lf.Soint
open Go Go.Proofs Go.Sort
def Rest (a b:Nat) (d:Array Int) (a1 c:Nat) (e:Array Int):Prop:=∀R,PermIn a1 c e R->SortedIn ltInt a1 c R->PermIn a b d R/\SortedIn ltInt a b R
theorem Su {a b:Nat} {d:Array Int} {a1 c:Nat} {e f:Array Int} (r:Rest a b d a1 c e) (hp:PermIn a1 c e f):Rest a b d a1 c f:=λR g h=>r R (permIn_trans _ _ _ _ _ hp g) h
theorem W6 {a b:Nat} {d:Array Int} {a1 c g fi:Nat} {e f:Array Int} (r:Rest a b d a1 c e) (y:0<a1) (B:g<c) (A:a1<=g) (hb:c<=e.size) (hB:Below ltInt a1 c e) (s:ltInt e[a1-1]! e[g]! =false)
  (v:a1<fi) (w:fi<=c) (l:PermIn a1 c e f) (q:∀x:Nat,a1<=x->x<fi->ltInt e[g]! f[x]! =false) (n:∀x:Nat,fi<=x->x<c->ltInt e[g]! f[x]! =true):
  Rest a b d fi c f/\Below ltInt fi c f:=by
 have h:=swo_ltInt;have m:c<=f.size:=by rw [l.1];exact hb
 have p:∀x:Nat,a1<=x->x<c->ltInt e[x]! e[g]! =false:=λx j i=>by
  rcases hB with u | hB
  ·omega
  ·exact h.ntrans _ _ _ (hB x j i) s
 have z:=permIn_all e f a1 c (λx=>ltInt x e[g]! =false) hb l p;refine ⟨λR k t=> ?_,Or.inr λx j i=> ?_⟩
 ·refine r R (permIn_trans _ _ _ a1 c l (permIn_mono _ _ fi c a1 c (by omega) (Nat.le_refl _) m k)) ?_;refine sorted_glue_eq h e[g]! t (λx j i=> ?_) (λx j i=> ?_) (permIn_all f R fi c (λx=>ltInt e[g]! x=true) m k n)
  ·rw [k.2.1 x (Or.inl i)];exact q x j i
  ·rw [k.2.1 x (Or.inl i)];grind
 ·cases o:ltInt f[x]! f[fi-1]! with
  | false=>rfl
  | true=>have:=h.trans _ _ _ (n x j i) o;grind
theorem Sv {a b:Nat} {d:Array Int} {a1 c fi:Nat} {j e L:Array Int} (r:Rest a b d a1 c j) (hb:c<=j.size) (hp:At a1 c j e fi) (h:PermIn a1 fi e L) (p:SortedIn ltInt a1 fi L):
  Rest a b d (fi+1) c L/\Below ltInt (fi+1) c L:=by
 obtain ⟨t,u,n,o,v⟩:=hp;have l:c<=e.size:=by rw [n.1];exact hb
 have m:c<=L.size:=by rw [h.1];exact l
 have eL:∀i,fi<=i->L[i]! =e[i]!:=λi hi=>h.2.1 i (Or.inr hi);refine ⟨λR k s=> ?_,Or.inr λi hi f=>by grind⟩;have g:∀i,i<=fi->R[i]! =L[i]!:=λi hi=>k.2.1 i (Or.inl (by omega));refine r R (permIn_trans _ _ _ _ _ n (permIn_trans _ _ _ _ _ (permIn_mono _ _ a1 fi a1 c (Nat.le_refl _) (by omega) l h) (permIn_mono _ _ (fi+1) c a1 c (by omega) (Nat.le_refl _) m k))) ?_;refine sorted_glue swo_ltInt (p.congr λi _ f=>g i (by omega)) s (λi hi f=> ?_) (λi hi f=> ?_)
 ·rw [g i (by omega),g fi (Nat.le_refl _),eL fi (Nat.le_refl _)];exact permIn_all e L a1 fi (λx=>ltInt x e[fi]! =true) (by omega) h o i hi f
 ·rw [g fi (Nat.le_refl _),eL fi (Nat.le_refl _)];exact permIn_all L R (fi+1) c (λx=>ltInt x e[fi]! =false) m k (λq w y=>by grind) i (by omega) f
theorem QE {a b:Nat} {d:Array Int} {a1 c fi:Nat} {f e L:Array Int} (r:Rest a b d a1 c f) (hb:c<=f.size) (p:Below ltInt a1 c f) (hp:At a1 c f e fi) (h:PermIn (fi+1) c e L) (v:SortedIn ltInt (fi+1) c L):
  Rest a b d a1 fi L/\Below ltInt a1 fi L:=by
 obtain ⟨y,z,m,A,t⟩:=hp;have l:c<=e.size:=by rw [m.1];exact hb
 have s:c<=L.size:=by rw [h.1];exact l
 have eL:∀i,i<=fi->L[i]! =e[i]!:=λi hi=>h.2.1 i (Or.inl (by omega));have hBa:Below ltInt a1 fi e:=(p.perm hb m).mono (by omega);refine ⟨λR k w=> ?_,?_⟩
 ·have g:∀i,fi<=i->R[i]! =L[i]!:=λi hi=>k.2.1 i (Or.inr hi);refine r R (permIn_trans _ _ _ _ _ m (permIn_trans _ _ _ _ _ (permIn_mono _ _ (fi+1) c a1 c (by omega) (Nat.le_refl _) l h) (permIn_mono _ _ a1 fi a1 c (Nat.le_refl _) (by omega) s k))) ?_;refine sorted_glue swo_ltInt w (v.congr λi hi _=>g i (by omega)) (λi hi j=> ?_) (λi hi j=> ?_)
  ·rw [g fi (Nat.le_refl _),eL fi (Nat.le_refl _)];exact permIn_all L R a1 fi (λx=>ltInt x e[fi]! =true) (by omega) k (λq u n=>by grind) i hi j
  ·rw [g i (by omega),g fi (Nat.le_refl _),eL fi (Nat.le_refl _)];exact permIn_all e L (fi+1) c (λx=>ltInt x e[fi]! =false) l h (λq u n=>t q (by omega) n) i (by omega) j
 ·rcases hBa with o | hBa
  ·exact Or.inl o
  ·exact Or.inr λi hi j=>by grind
set_option maxHeartbeats 4000000 in
theorem YN :∀(n:Nat) {k:Hp} {data:Sl} {d:Array Int} {F:List Nat} {a b:Nat} {c1:Int} {Q:Hp->Prop} (_:b-a<=n) (_:DA k data d F) (_:a<=b) (_:b<=d.size) (_:d.size<=140737488355328) (_:Below ltInt a b d)
  (_:∀s m,DA s data m F->Mv F k F s->PermIn a b d m->SortedIn ltInt a b m->Q s),OE Tryz.prog data (a:Int) (b:Int) c1 Q k:=by
 intro n
 induction n with
 | zero=>intro k data d F a b c1 Q hn o b3 hb hs hB hq;unfold OE;refine nw.intro (λa1 E _ _ _ C=>a1=(a:Int)/\E=(b:Int)/\C=k) (λ_ _ _ _ _ _=>0) ⟨rfl,rfl,rfl⟩ ?_;rintro a1 E l wb wp C ⟨rfl,rfl,rfl⟩;refine kq.intro (λ_ _ _ _ _ _=>False) ?_ (λ_ _ _ _ _ _ h=>h.elim);rw [wrap64 (n:=(b:Int)-(a:Int)) (by omega) (by omega),if_pos (by simp;omega)];exact zfh (zzk o b3 hb hs hq)
 | succ n ih=>
  intro k data d F a b c1 Q hn o b3 hb hs hB hq;unfold OE;refine nw.intro (λa1 E _ _ _ C=>∃(A B:Nat) (z:Array Int),a1=(A:Int)/\E=(B:Int)/\DA C data z F/\Mv F k F C/\z.size=d.size/\a<=A/\A<=B/\B<=b/\Below ltInt A B z/\Rest a b d A B z) (λa1 E _ _ _ _=>(E-a1).toNat)
   ⟨a,b,d,rfl,rfl,o,Mv.refl _ _,rfl,Nat.le_refl _,b3,Nat.le_refl _,hB,λR j q=>⟨j,q⟩⟩ ?_
  rintro a1 E l wb wp C ⟨A,B,z,rfl,rfl,V,T,c0,hA,a9,c4,c3,hr⟩;refine kq.intro (λa2 b2 _ _ _ G=>(∃(f g:Nat) (c:Array Int),a2=(f:Int)/\b2=(g:Int)/\DA G data c F/\Mv F k F G/\c.size=d.size/\a<=f/\f<=g/\g<=b/\Below ltInt f g c/\Rest a b d f g c)/\(b2-a2).toNat<((B:Int)-(A:Int)).toNat) ?_ (λ_ _ _ _ _ _ h=>h);rw [wrap64 (n:=(B:Int)-(A:Int)) (by omega) (by omega)];have whole:∀ {s:Hp} {m:Array Int},DA s data m F->Mv F C F s->PermIn A B z m->SortedIn ltInt A B m->Q s:=λu t j q=>by obtain ⟨h3,h4⟩:=hr _ j q;exact hq _ _ u (T.trans t) h3 h4
  by_cases c2:(B:Int)-(A:Int)<=12
  ·rw [if_pos (decide_eq_true c2)];exact zfh (zzk V a9 (by omega) (by omega) λs m u t j q=>whole u t j q)
  rw [if_neg λhh=>c2 (of_decide_eq_true hh)];by_cases hl:l=0
  ·rw [if_pos (by simpa using hl)];exact zqp (aaB V a9 (by omega) (by omega) λs m u t j q=>whole u t j q)
  rw [if_neg (by simpa using hl)];refine bH.intro (λ_ G=>∃c,DA G data c F/\Mv F C F G/\PermIn A B z c) ?_ ?_
  ·split
   ·exact zmj (Un V a9 (by omega) (by omega) λs m u t j=>⟨m,u,t,j⟩)
   ·exact ⟨z,V,Mv.refl _ _,permIn_refl _ _ _⟩
  ·rintro l2 G ⟨c,o2,m2,b6⟩;have e9:c.size=d.size:=b6.1.trans c0;refine znn (W9 o2 (by omega) (by omega) (by omega) λr hint k3 e4 e5 o3 m3=> ?_);refine fQ.intro (λd8 _ k4=>∃(p:Nat) (H:Array Int),d8=(p:Int)/\A<=p/\p<B/\DA k4 data H F/\Mv F C F k4/\PermIn A B z H) ?_ ?_
   ·split
    ·refine zne (QB o3 (by omega) (by omega) (by omega) λs m u t j=> ?_);rw [wrap64 (n:=(B:Int)-1) (by omega) (by omega),wrap64 (n:=(r:Int)-(A:Int)) (by omega) (by omega),aI];exact ⟨B-1-(r-A),m,by omega,by omega,by omega,u,m2.trans (m3.trans t),permIn_trans _ _ _ _ _ b6 j⟩
    ·exact ⟨r,c,rfl,e4,e5,o3,m2.trans m3,b6⟩
   ·rintro d8 e8 k4 ⟨p,H,rfl,b4,b5,o4,m4,P⟩;have f0:H.size=d.size:=P.1.trans c0;have d9:Below ltInt A B H:=c3.perm (by omega) P;refine bM.intro (λO=>∃D,DA O data D F/\Mv F C F O/\PermIn A B z D) ?_ ?_
    ·refine aE (aE ?_);split
     ·refine zil (QC o4 (by omega) (by omega) (by omega) d9 λr2 s m u t j q=> ?_);cases r2 with
      | true=>rw [if_pos rfl];exact whole u (m4.trans t) (permIn_trans _ _ _ _ _ P j) (q rfl)
      | false=>rw [iT];exact ⟨m,u,m4.trans t,permIn_trans _ _ _ _ _ P j⟩
     grind
    ·rintro O ⟨D,W,m5,b7⟩;have c9:D.size=d.size:=b7.1.trans c0;have b0:Below ltInt A B D:=c3.perm (by omega) b7;have b8:Rest a b d A B D:=Su hr b7;rw [wrap64 (n:=(A:Int)-1) (by omega) (by omega)];have e1:((A:Int)-1).toNat=A-1:=by omega
     have e2:((p:Nat):Int).toNat=p:=by omega
     refine rZ W (λN=> ?_) λx hx=> ?_
     ·grind
     refine rZ W (λN=>by omega) λx1 d3=> ?_;rw [e1] at hx;rw [e2] at d3;have cont:∀(r2:Bool),(decide ((A:Int)>0)=true->r2=ltInt D[A-1]! D[p]!)->aA ((decide ((A:Int)>(0:Int)))&&(!r2)) λy=>
 (if y=true then
 aa Tryz.prog RG [data.v,(.int .i64 (A:Int)),(.int .i64 (B:Int)),(.int .i64 (p:Int))] (ab .i64) (λw K=>
 (∃(f g:Nat) (c:Array Int),w=(f:Int)/\(B:Int)=(g:Int)/\DA K data c F/\Mv F k F K/\c.size=d.size/\a<=f/\f<=g/\g<=b/\Below ltInt f g c/\Rest a b d f g c)/\((B:Int)-w).toNat<((B:Int)-(A:Int)).toNat) O
 else
 bu Tryz.prog Oz [data.v,(.int .i64 (A:Int)),(.int .i64 (B:Int)),(.int .i64 (p:Int))] (ab .i64) aW (λw r4 K=>
 ((8:Int)≠(0:Int)/\(if (decide ((yw (w-(A:Int)))<(yw ((B:Int)-w))))=true then
 bA Tryz.prog Cc [data.v,(.int .i64 (A:Int)),(.int .i64 w),(.int .i64 l2)] (λL=>
 (∃(f g:Nat) (c:Array Int),yw (w+(1:Int))=(f:Int)/\(B:Int)=(g:Int)/\DA L data c F/\Mv F k F L/\c.size=d.size/\a<=f/\f<=g/\g<=b/\Below ltInt f g c/\Rest a b d f g c)/\((B:Int)-yw (w+(1:Int))).toNat<((B:Int)-(A:Int)).toNat) K
 else
 bA Tryz.prog Cc [data.v,(.int .i64 (yw (w+(1:Int)))),(.int .i64 (B:Int)),(.int .i64 l2)] (λL=>
 (∃ (f g : Nat) (c : Array Int), (A : Int) = (f : Int) /\ w = (g : Int) /\ DA L data c F /\ Mv F k F L /\ c.size = d.size /\ a <= f /\ f <= g /\ g <= b /\ Below ltInt f g c /\ Rest a b d f g c) /\ (w - (A : Int)).toNat < ((B : Int) - (A : Int)).toNat) K))) O) := by
      intro r2 e6;refine aE ?_;cases S:(decide ((A:Int)>(0:Int))&& !r2) with
      | true=>rw [if_pos rfl];simp only [Bool.and_eq_true,Bool.not_eq_true'] at S;have a8:(A:Int)>0:=of_decide_eq_true S.1;have c5:=e6 S.1;rw [S.2] at c5;refine zmb (TG W b4 b5 (by omega) (by omega) λfi k6 I X U Z g2 J g4 g5=> ?_);obtain ⟨j,q⟩:=W6 b8 (by omega) b5 b4 (by omega) b0 c5.symm Z g2 J g4 g5;exact ⟨⟨fi,B,I,rfl,rfl,X,T.trans (m5.trans U),J.1.trans c9,by omega,g2,c4,q,j⟩,by omega⟩
      | false=>
       rw [iT];refine zpi (ZX W b4 b5 (by omega) (by omega) λfi ap k6 I X U c6=> ?_);refine ⟨by decide,?_⟩;have c7:=c6;obtain ⟨Z,g2,J,g4,g5⟩:=c6;have d0:I.size=d.size:=J.1.trans c9;rw [wrap64 (n:=(fi:Int)-(A:Int)) (by omega) (by omega),wrap64 (n:=(B:Int)-(fi:Int)) (by omega) (by omega),wrap64 (n:=(fi:Int)+1) (by omega) (by omega)];have em:(fi:Int)+1=((fi+1:Nat):Int):=by omega
       rw [em];have e0:Below ltInt A B I:=b0.perm (by omega) J;by_cases c8:(fi:Int)-(A:Int)<(B:Int)-(fi:Int)
       ·rw [if_pos (decide_eq_true c8)];refine Sz (ih (by omega) X Z (by omega) (by omega) (e0.mono (by omega)) λk7 Y o7 m7 M b9=> ?_);obtain ⟨j,q⟩:=Sv b8 (by omega) c7 M b9;exact ⟨⟨fi+1,B,Y,rfl,rfl,o7,T.trans (m5.trans (U.trans m7)),M.1.trans d0,by omega,by omega,c4,q,j⟩,by omega⟩
       ·rw [if_neg λhh=>c8 (of_decide_eq_true hh)];have e3:Below ltInt (fi+1) B I:=Or.inr λi hi e7=>by grind
        refine Sz (ih (by omega) X (by omega) (by omega) (by omega) e3 λk7 Y o7 m7 M b9=> ?_);obtain ⟨j,q⟩:=QE b8 (by omega) b0 c7 M b9;exact ⟨⟨A,fi,Y,rfl,rfl,o7,T.trans (m5.trans (U.trans m7)),M.1.trans d0,by omega,by omega,by omega,q,j⟩,by omega⟩
     by_cases a8:(A:Int)>0
     ·have N:decide ((A:Int)>0)=true:=decide_eq_true a8;refine ⟨λ_=>u9 (vg (cont _ λ_=> ?_)),λe=>(by grind)⟩;rw [hx N,d3 N]
     ·have N:decide ((A:Int)>0)=false:=decide_eq_false a8;exact ⟨λe=>(by grind),λ_=>⟨false,cont false λe=>by grind⟩⟩
theorem ym {k:Hp} {data:Sl} {c:List Int} {F:List Nat} {Q:Hp->Prop} (o:db k 1 eK data c F) (r:c.length<=140737488355328)
  (q:∀d f,db d 1 eK data f F->Mv F k F d->f.Perm c->f.Pairwise (· <= ·)->Q d):V8 Tryz.prog data Q k:=by
 unfold V8;have p:=o.1;have e:(data.len:Int)=(c.toArray.size:Int):=by simp [p]
 rw [xd (n:=(data.len:Int)) (by omega) (by omega)];refine zuz (Jw (by omega) ?_);rw [e];have u:DA k data c.toArray F:=o;refine Sz (a:=((0:Nat):Int)) (YN c.toArray.size (by omega) u (by omega) (by omega) (by simpa using r) (Or.inl rfl) λd b v t hp s=> ?_);refine q d b.toList v t ?_ ?_
 ·have x:=hp.2.2;have w:b.extract 0 c.toArray.size=b:=by rw [<-hp.1];simp
  grind
 ·refine List.pairwise_iff_getElem.2 λi j hi m l=> ?_;have h:i<b.size:=by simpa using hi
  have g:j<b.size:=by simpa using m
  have:=s i j (by omega) l (by rw [<-hp.1];exact g);rw [getElem!_pos b j g,getElem!_pos b i h] at this;have y:¬b[j]<b[i]:=by simpa [ltInt] using this
  grind
end Lf.Soint
namespace Lf
open Go Go.Proofs Tryz
abbrev oI :Int->List Value:=λx=>ba ((ab .i64).enc x)
theorem Sw {s:Sl} {xs:List Int} {Q:Sl->Hp->Prop} {h:Hp} (r:Is h s xs) (t:xs.length<=100000000) (d:∀out c F,db c 1 oI out xs F->Mv [] h F c->Q out c):A6 prog s Q h:=by
 unfold A6;refine ⟨s.base.isNone,MP (bW.cm 23 rH rfl) s,?_⟩;cases hb:s.base with
 | none=>
  rw [if_pos (show (none:Option Addr).isNone=true from rfl)];have:xs=[]:=by
   rcases r.2.2 with e | ⟨a,p,_⟩
   ·exact List.length_eq_zero_iff.1 (by omega)
   grind
  subst this;exact d _ h [] ⟨rfl,Nat.le_refl _,.inl ⟨rfl,rfl,rfl⟩⟩ (Mv.refl _ _)
 | some a=>rw [iT];refine sD (xs:=([]:List Int)) (enc:=oI) (sz:=1) rfl (λ_=>rfl) λb o q g k n=> ?_;refine sm (F:=[b]) (l:=⟨some ⟨b,0,none⟩,0,0⟩) n (Rw.mono g r) (λ_=>rfl) (λ_=>rfl) rfl (by simp;omega) λi c f m j=> ?_;exact d i c f m (k.trans j)
theorem NQ {s:Sl} {a:List Int} {v:Int} {Q:Int->Hp->Prop} {h:Hp} (r:Is h s a) (u:a.length<=100000000) (hv:v∈a) (o:∀i:Nat,a[i]? =some v->Q (i:Int) h):Jl prog s v Q h:=by
 unfold Jl;have w:=r.1;refine au.intro (λi k=>k=h/\0<=i/\i<=(a.length:Int)/\v∈a.drop i.toNat) (λi _=>(a.length-i).toNat) ⟨rfl,by omega,by omega,hv⟩ ?_;rintro i k ⟨q,n,t,c⟩;subst k;by_cases e:i<(s.len:Int)
 ·rw [if_pos (decide_eq_true e)];refine Rs.get r (λ_=>rfl) (by omega) n (by omega) λ(x:Int) p=> ?_;have d:a[i.toNat]? =some x:=p;by_cases b:v=x
  ·rw [if_pos (by simpa using b)];have:=o i.toNat (by rw [d,b]);have g:((i.toNat:Nat):Int)=i:=by omega
   rw [g] at this;exact this
  ·rw [if_neg (by simpa using b),aI];have m:a.drop i.toNat=x::a.drop (i.toNat+1):=by obtain ⟨j,l⟩:=List.getElem?_eq_some_iff.1 d;rw [List.drop_eq_getElem_cons j,l]
   rw [m] at c;have f:(i+1).toNat=i.toNat+1:=by omega
   exact ⟨⟨rfl,by omega,by omega,by rw [f];exact (List.mem_cons.1 c).resolve_left b⟩,by omega⟩
 grind
theorem YP {s:Sl} {a:List Int} {Q:Int->Hp->Prop} {h:Hp} (r:Is h s a) (A:a.length<=100000000) (l:a≠ []) (n:∀m,m∈a->(∀y∈a,m<=y)->Q m h):WC prog s Q h:=by
 unfold WC;have B:=r.1;have C:0<a.length:=List.length_pos_iff.2 l;refine bM.intro (λk=>k=h) ?_ ?_
 ·grind
 ·intro k f;subst k;refine kV r λ(x:Int) o=> ?_;have p:a[0]? =some x:=o;refine bq.intro (λm i k=>k=h/\1<=i/\i<=(a.length:Int)/\m∈a/\∀y∈a.take i.toNat,m<=y) (λ_ i _=>(a.length-i).toNat) ⟨rfl,by omega,by omega,List.mem_of_getElem? p,λy b=> ?_⟩ ?_
  ·cases a with
   | nil=>cases b
   | cons z t=>grind
  ·rintro m i k ⟨f,v,w,j,c⟩;subst k;by_cases e:i<(s.len:Int)
   ·rw [if_pos (decide_eq_true e)];refine kV r λ(y:Int) b=> ?_;have q:a[i.toNat]? =some y:=b;rw [aI];have d:(i+1).toNat=i.toNat+1:=by omega
    refine ⟨⟨rfl,by omega,by omega,?_,λz u=> ?_⟩,by omega⟩
    ·unfold fK;grind
    ·rw [d,yX q] at u;have:= @Wo m y;grind
   ·rw [if_neg λg=>e (of_decide_eq_true g)];rw [List.take_of_length_le (by omega)] at c;exact n m j c
theorem Sy {N:Int->Option Int} {s:Sl} {c:List Int} {Q:Sl->Hp->Prop} {h:Hp} (r:Is h s c) (B:s.len<=s.cap) (G:c.length<=50000000) (g:te N c)
  (p:∀out d f F,db f 1 oI out d F->Mv [] h F f->Ring N d->(∀x,x∈d↔x∈c)->Q out f):zve prog s Q h:=by
 unfold zve;have H:=r.1;have o:c≠ []:=λe=>by have:=g.ne;rw [e] at this;simp at this
 refine zyr (YP r (by omega) o λm l I=> ?_);refine OJ (NQ r (by omega) l λi hi=> ?_);have E:i<c.length:=(List.getElem?_eq_some_iff.1 hi).1;have it:(i:Int).toNat=i:=by omega
 rw [it];have D:c.length<=s.cap:=by omega
 have q:(0:Int)<=(i:Int)/\(i:Int)<=(s.len:Int):=⟨by omega,by omega⟩;have t:(0:Int)<=(i:Int)/\(i:Int)<=(s.cap:Int):=⟨by omega,by omega⟩;refine ⟨q,aE ⟨t,aE ?_⟩⟩;have A:Is h ⟨aV s.base 1 i s.cap,s.len-i,s.cap-i⟩ (c.drop i):=by have:=Rw.cut (a:=i) (b:=c.length) (c:=s.cap) (n:=s.len-i) (m:=s.cap-i) r (λ_=>rfl) (by omega) (Nat.le_refl _) (by omega) (by omega);rw [List.take_of_length_le (by rw [List.length_drop];omega)] at this;exact this
 have r2:Is h ⟨aV s.base 1 0 s.cap,i-0,s.cap-0⟩ (c.take i):=Rw.head r (λ_=>rfl) (by omega) (by omega) (by omega);refine IF (Sw A (by rw [List.length_drop];omega) λout C F z j=> ?_);have v:=(j.le (Hp.le_refl h) λb hb=>by cases hb).1;refine sm z (r2.mono v) (λ_=>rfl) (λ_=>rfl) rfl (by rw [List.length_drop,List.length_take];omega) λu f k y w=> ?_;have hp:=Eo c i;refine p u _ f k y (j.trans w) ⟨g.rot (by omega),λx J=> ?_⟩ λx=>hp.mem_iff;grind
theorem JI {h:Hp} {m b:Nat} {c:List (Int×Int)} {K:Sl->Hp->Prop} (s:dC h m .i64 vI c) (hi:∀p∈c,(Lit.int .i64 p.1).wf=true) (hb:aR h ⟨b,0,none⟩ [.map (some m)]) (q:c.length<=4194304)
  (t:∀out a d F,db d 1 oI out a F->Mv [] h F d->a.Pairwise (· < ·)->(∀x,x∈a↔x∈c.map (·.1))->K out d):
  aa prog OT [.func (.func 64) #[] #[.pointer (some ⟨b,0,none⟩)]] af K h:=by
 refine zzm (seq:=⟨64, #[], #[.pointer (some ⟨b,0,none⟩)]⟩) ?_;unfold ztk;refine QA s hi hb q λout a o n y v hp=> ?_;have A:a.length=c.length:=by rw [hp.length_eq,List.length_map]
 refine zww (Soint.ym y (by omega) λe l z w k u=> ?_);have r:l.Nodup:=(k.trans hp).nodup_iff.2 s.nodup;refine t out l e n z (v.trans w) ?_ λx=>(k.trans hp).mem_iff;refine List.pairwise_iff_getElem.2 λi j hi g f=> ?_;have o:=List.pairwise_iff_getElem.1 u i j hi g f;have e:=List.pairwise_iff_getElem.1 r i j hi g f;omega
end Lf
namespace Lf
section
variable {N:Int->Option Int}
structure Pass (N:Int->Option Int) (s:Int) (path:List Int) (p:Int):Prop where
 nd:path.Nodup
 nx:∀j,j+1<path.length->N (path.getD j 0)=some (path.getD (j+1) 0)
 now:(path=[]/\p=s)\/(0<path.length/\path.getD 0 0=s/\N (path.getD (path.length-1) 0)=some p)
theorem Pass.start (s:Int):Pass N s [] s:=⟨List.nodup_nil,λj h=>by simp at h,.inl ⟨rfl,rfl⟩⟩
theorem De {l m:List Int} {i:Nat} (h:i<l.length):(l++m).getD i 0=l.getD i 0:=by grind
theorem QG {l:List Int} {p:Int}:(l++ [p]).getD l.length 0=p:=by simp
theorem Pass.snoc {s p:Int} {b:List Int} (a:Pass N s b p) (hp:p∉b):(b++ [p]).Nodup/\(∀j,j+1<(b++ [p]).length->N ((b++ [p]).getD j 0)=some ((b++ [p]).getD (j+1) 0))/\(b++ [p]).getD 0 0=s:=by
 refine ⟨List.nodup_append.2 ⟨a.nd,by simp,λx l y m e=>hp ?_⟩,λj f=> ?_,?_⟩
 ·grind
 ·rw [List.length_append,List.length_singleton] at f;by_cases h:j+1<b.length
  ·rw [De (by omega),De h];exact a.nx j h
  ·have e:j+1=b.length:=by omega
   rw [e,QG,De (by omega)];rcases a.now with ⟨c,_⟩ | ⟨_,_,k⟩
   ·rw [c] at e;simp at e
   grind
 ·rcases a.now with ⟨c,d⟩ | ⟨g,i,_⟩
  ·rw [c,d];rfl
  grind
theorem Pass.step {s p q:Int} {b:List Int} (a:Pass N s b p) (hp:p∉b) (f:N p=some q):Pass N s (b++ [p]) q:=by obtain ⟨c,d,e⟩:=a.snoc hp;refine ⟨c,d,.inr ⟨by simp,e,?_⟩⟩;grind
theorem Pass.it {s p:Int} {b:List Int} (a:Pass N s b p):∀j,j<b.length->mn N j s=some (b.getD j 0)
 | 0,h=>by
  rcases a.now with ⟨d,_⟩ | ⟨_,c,_⟩
  ·grind
  ·rw [c];rfl
 | j+1,h=>by rw [NJ,a.it j (by omega),Option.bind_some];exact a.nx j h
theorem Pass.last {s p:Int} {b:List Int} (a:Pass N s b p):mn N b.length s=some p:=by
 rcases a.now with ⟨c,d⟩ | ⟨g,_,e⟩
 ·rw [c,d];rfl
 ·have f:=a.it (b.length-1) (by omega);have:b.length=(b.length-1)+1:=by omega
  rw [this,NJ,f,Option.bind_some];exact e
theorem Pass.from_ {s p:Int} {b:List Int} (a:Pass N s b p) {j:Nat} (e:j<b.length):mn N (b.length-j) (b.getD j 0)=some p:=by have d:=a.last;have c:=xc (N:=N) j (b.length-j) s;rw [show j+(b.length-j)=b.length by omega,d,a.it j e,Option.bind_some] at c;exact c.symm
theorem Pass.dead {s p:Int} {b:List Int} (a:Pass N s b p) (hp:¬qC N p):¬qC N s/\∀x∈b,¬qC N x:=by refine ⟨λh=>hp ((DS a.last).1 h),λx d h=> ?_⟩;obtain ⟨j,c,rfl⟩:=wQ d;exact hp ((DS (a.from_ c)).1 h)
theorem Pass.cyc {s p:Int} {b:List Int} (a:Pass N s b p) {j:Nat} (f:b[j]? =some p):te N (b.drop j)/\p∈b.drop j/\(b.drop j).getD 0 0=p:=by
 have g:j<b.length:=(List.getElem?_eq_some_iff.1 f).1;have k:(b.drop j).length=b.length-j:=List.length_drop;have c:∀i,i<b.length-j->(b.drop j).getD i 0=b.getD (j+i) 0:=λi hi=>by rw [List.getD_eq_getElem?_getD,List.getD_eq_getElem?_getD,List.getElem?_drop]
 have d:(b.drop j).getD 0 0=p:=by rw [c 0 (by omega),Nat.add_zero,List.getD_eq_getElem?_getD,f];rfl
 refine ⟨⟨by rw [k];omega,a.nd.sublist (List.drop_sublist _ _),λi hi=> ?_⟩,?_,d⟩
 ·rw [k] at hi ⊢;rw [c i hi];by_cases h:i+1<b.length-j
  ·rw [Nat.mod_eq_of_lt h,c _ h,a.nx (j+i) (by omega)];rfl
  ·have e:i+1=b.length-j:=by omega
   rw [e,Nat.mod_self,d];rcases a.now with ⟨l,_⟩ | ⟨_,_,m⟩
   ·rw [l] at g;simp at g
   ·rw [<-m];congr 2;omega
 grind
structure Marks (N:Int->Option Int) (D:List (Int×Int)) (v0 cur:Int) (path:List Int):Prop where
 lg:∀x v,cN x D=some v->(v=cur/\x∈path)\/(v0<=v/\v<cur/\¬qC N x)
 new:∀x∈path,cN x D=some cur
theorem Marks.nil {v0 cur:Int}:Marks N [] v0 cur []:=⟨λx v h=>(by cases h),λx h=>by cases h⟩
theorem Marks.add {D:List (Int×Int)} {v0 cur p:Int} {b:List Int} (a:Marks N D v0 cur b):Marks N (gC p cur D) v0 cur (b++ [p]):=by
 refine ⟨λx v h=> ?_,λx c=> ?_⟩
 ·rw [xh] at h;by_cases e:x=p
  ·grind
  ·rw [if_neg e] at h;rcases a.lg x v h with ⟨h1,d⟩ | h1
   ·grind
   ·exact .inr h1
 ·rw [xh];by_cases e:x=p
  ·rw [if_pos e]
  ·rw [if_neg e];exact a.new x ((List.mem_append.1 c).resolve_right λh=>e (List.mem_singleton.1 h))
theorem Marks.close {D:List (Int×Int)} {v0 cur:Int} {c:List Int} (a:Marks N D v0 cur c) (hv:v0<=cur) (d:∀x∈c,¬qC N x):Marks N D v0 (cur+1) []:=by
 refine ⟨λx v h=>.inr ?_,λx h=>by cases h⟩;rcases a.lg x v h with ⟨rfl,b⟩ | ⟨e,b,f⟩
 ·exact ⟨hv,by omega,d x b⟩
 grind
def left (U:List Int) (D:List (Int×Int)):Nat:=(U.filter λx=>(cN x D).isNone).length
theorem W8 {U:List Int} {D:List (Int×Int)} {p c:Int} (hp:p∈U) (a:cN p D=none):left U (gC p c D)<left U D:=by
 unfold left;have b:(U.filter λx=>(cN x (gC p c D)).isNone)=((U.filter λx=>(cN x D).isNone).filter λx=> !(x==p)):=by
  rw [List.filter_filter];refine List.filter_congr λx _=> ?_;rw [xh];by_cases e:x=p
  ·simp [e]
  ·simp [e]
 rw [b];have f:p∈U.filter λx=>(cN x D).isNone:=List.mem_filter.2 ⟨hp,by rw [a];rfl⟩;have d:=List.length_filter_lt_length_iff_exists (l:=U.filter λx=>(cN x D).isNone) (p:=λx=> !(x==p));grind
def names (a:List (Int×Int)):List Int:=a.map (·.1)++a.map (·.2)
theorem SA {a:List (Int×Int)} {x:Int} (h:x∈a.map (·.1)):x∈names a:=List.mem_append_left _ h
theorem SB {a:List (Int×Int)} {x q:Int} (h:cN x a=some q):q∈names a:=List.mem_append_right _ (List.mem_map_of_mem (f:=(·.2)) (Eh h))
end
end Lf
namespace Lf
open Go Go.Proofs Tryz
theorem zU {h:Hp} {m:Nat} {b:List (Int×Int)} {a:Int} {K:Int->Bool->Prop} (s:dC h m .i64 vI b) (c:cN a b=none->K 0 false) (d:∀v,cN a b=some v->K v true):
  jZ none (.int .i64) (ab .i64) (.int .i64 (0:Int)) (some m) (.int .i64 a) h K:=wN (sh:=ab .i64) s.kv (z:=(0:Int)) rfl c d
end Lf
namespace Lf
open Go Go.Proofs
theorem QH {a:List Int} (b:a.Pairwise (· < ·)) {i:Nat} {s q:Int} (e:a[i]? =some s) (d:q∈a) (g:q<s):q∈a.take i:=by
 obtain ⟨j,c,rfl⟩:=List.mem_iff_getElem.1 d;obtain ⟨hi,rfl⟩:=List.getElem?_eq_some_iff.1 e;have f:j<i:=by
  rcases Nat.lt_trichotomy j i with h | h | h
  ·exact h
  ·subst h;omega
  ·have:=List.pairwise_iff_getElem.1 b i j hi c h;omega
 rw [List.mem_take_iff_getElem];exact ⟨j,by omega,rfl⟩
theorem UJ {h:Hp} {m:Nat} {a b:List (Int×Int)} (x:dC h m .i64 vI a) (y:dC h m .i64 vI b):a=b:=by
 obtain ⟨k,ck,c,d,_⟩:=x;obtain ⟨l,j,f1,f2,_⟩:=y;rw [c] at f1;cases f1;rw [d] at f2;have inj:∀(a b:List (Int×Int)),a.map (λp=>(Value.int .i64 p.1,vI p.2))=b.map (λp=>(Value.int .i64 p.1,vI p.2))->a=b:=by
  intro a
  induction a with
  | nil=>intro b h;cases b with
   | nil=>rfl
   | cons y t=>cases h
  | cons x t i=>
   intro b h;cases b with
   | nil=>cases h
   | cons y u=>simp only [List.map_cons,List.cons.injEq,Prod.mk.injEq] at h;obtain ⟨⟨e,f⟩,g⟩:=h;rw [i u g];cases x;cases y;cases e;cases f;rfl
 exact inj a b f2
open Classical in
noncomputable def nG (U:List Int) (h:Hp) (m:Nat):Nat:=if e:∃W,dC h m .i64 vI W then left U (Classical.choose e) else 0
theorem zh {U:List Int} {h:Hp} {m:Nat} {W:List (Int×Int)} (s:dC h m .i64 vI W):nG U h m=left U W:=by unfold nG;have e:∃W,dC h m .i64 vI W:=⟨W,s⟩;rw [dif_pos e,UJ (Classical.choose_spec e) s]
end Lf
namespace Lf
open Go Go.Proofs Tryz
theorem UK {a:List bx} (e:∀x∈a,(Lit.int .i64 x.a0).wf=true) (d:((eN a).map (·.1)).Nodup):∀p∈eN a,(Lit.int .i64 p.1).wf=true:=λp hp=>by have c:=PD d (show (p.1,p.2)∈eN a from hp);have b:=So a p.1;rw [c] at b;obtain ⟨⟨x,f,g,_⟩,_⟩:=b;grind
set_option maxHeartbeats 1000000 in
theorem Jy {e:Sl} {l:List bx} {Q:Sl->Hp->Prop} {h:Hp} (r:Es h e l) (hl:l.length<=2000000) (hw:∀x∈l,(Lit.int .i64 x.a0).wf=true)
  (H:∀out d ks I F,h<=I->db I 1 oI out d F->(∀b∈F,h b=none)->ks.Pairwise (· < ·)->(∀x,x∈ks↔x∈(eN l).map (·.1))->Told (λa=>cN a (eN l)) ks d->d.length<=4000000->Q out I):B4 prog e Q h:=by
 unfold B4;have e4:=Sq l;have h0:=r.1;intro C e5;refine au.intro (λi k=>Mv [] h [C] k/\0<=i/\i<=(l.length:Int)/\dC k C .i64 vI (eN (l.take i.toNat))) (λi _=>(l.length-i).toNat) ⟨Mv.new e5,by omega,by omega,dC.new⟩ ?_;rintro i k ⟨mv,O,c1,z⟩;by_cases X:i<(e.len:Int)
 ·rw [if_pos (decide_eq_true X)];have rk:Es k e l:=r.mvk mv λa _ _ hb=>by cases hb
  have e1:(i+1).toNat=i.toNat+1:=by omega
  refine bM.intro (λw=>Mv [] h [C] w/\dC w C .i64 vI (eN (l.take (i.toNat+1)))) ?_ ?_
  ·refine Rs.get (sh:=fk) rk (λ_=>rfl) (by omega) O (by omega) λ(x:bx) hx=> ?_;have d0:l[i.toNat]? =some x:=hx;have c7:∀ {K:Hp->Prop},(iK (eN (l.take i.toNat)) x=gC x.a0 x.a1 (eN (l.take i.toNat)))->(∀w,Mv [] h [C] w/\dC w C .i64 vI (eN (l.take (i.toNat+1)))->K w)->tZ (.int .i64) (some C) (.int .i64 x.a0) (.int .i64 x.a1) K k:=λhs t=>by refine Em (ev:=vI) (v:=x.a1) z λo _ E=>t _ ⟨mv.trans Mv.set,?_⟩;rw [yX d0,LB,hs];exact E
   refine ⟨by omega,zU z (λY=> ?_) λq Y=> ?_⟩
   ·refine ⟨λe=>(by cases e),aE ?_⟩;rw [if_pos (by simp)];exact ⟨by omega,by omega,c7 (by unfold iK;rw [Y]) λw t=>t⟩
   ·refine ⟨λ_=>by omega,aE ?_⟩;by_cases a9:x.a1<q
    ·rw [if_pos (by simp [a9])];exact ⟨by omega,by omega,c7 (by unfold iK;grind) λw t=>t⟩
    ·rw [if_neg (by simp [a9])];refine ⟨mv,?_⟩;rw [yX d0,LB];have:iK (eN (l.take i.toNat)) x=eN (l.take i.toNat):=by unfold iK;rw [Y];simp [a9]
     grind
  ·rintro w ⟨i3,E⟩;rw [aI];grind
 rw [if_neg λZ=>X (of_decide_eq_true Z)];rw [List.take_of_length_le (by omega)] at z;have c9:=UK hw z.nodup;generalize eN l=g at z e4 c9 H;clear O c1 X i;have lk:h<=k:=(mv.le (Hp.le_refl h) λb hb=>by cases hb).1;intro f P;have l2:=lx (o:=.map #[] 0) P;have d1:=z.mono l2;have e6:C≠f:=λe=>by rw [<-e] at P;exact z.known P
 refine zfr ?_;unfold Sk;intro b3 t3 d9;have M:=lx (o:=.cells (([.map (some C)]:List Value).toArray) t3 (0,0)) d9;refine JI (d1.mono M) c9 Ab (by omega) λr3 B D F3 o3 d2 S R=> ?_;have l6:=(d2.le (Hp.le_refl _) λb hb=>by cases hb).1;have e7:D f=some (.map #[] 0):=l6 _ _ (M _ _ kK);have d5:f∉F3:=λL=>by
  rcases d2.from_ f L with h | h
  ·cases h
  ·rw [M _ _ kK] at h;cases h
 have i1:B.length<=2000000:=by have:=FN B _ (L9 S) λx hx=>(R x).1 hx;grind
 have c0:me D [f]<=D:=YD;have N:h<=me D [f]:=YE (Hp.le_trans lk (Hp.le_trans l2 (Hp.le_trans M l6))) λb hb=>by rw [List.mem_singleton.1 hb];exact tY lk P
 have e2:me D [f] f=none:=UB (by simp);have b6:dC (me D [f]) C .i64 vI g:=(d1.mono (Hp.le_trans M l6)).same (CH (by simp [e6]));have rd:Is (me D [f]) r3 B:=(o3.cut λb hb d8=>d5 (by grind)).rw λ_=>rfl;have g2:dC D f .i64 vI []:=⟨[],0,e7,rfl,λ_ h=>(by cases h),List.nodup_nil,List.nodup_nil⟩;generalize me D [f]=d at c0 N e2 b6 rd;have h4:=rd.1;refine au.intro (λi k=>d<=k/\0<=i/\i<=(B.length:Int)/\∃W,dC k f .i64 vI W/\Marks (λa=>cN a g) W 0 i []/\∀q∈B.take i.toNat,¬qC (λa=>cN a g) q) (λi _=>(B.length-i).toNat)
  ⟨c0,by omega,by omega,[],g2,Marks.nil,λq H=>by simp at H⟩ ?_
 rintro i k ⟨t,O,c1,W,g3,mk,V⟩;by_cases ei:i<(r3.len:Int)
 ·rw [if_pos (decide_eq_true ei)];refine bM.intro (λw=>d<=w/\∃W,dC w f .i64 vI W/\Marks (λa=>cN a g) W 0 (i+1) []/\∀q∈B.take (i.toNat+1),¬qC (λa=>cN a g) q) ?_ ?_
  ·refine Rs.get (rd.mono t) (λ_=>rfl) (by omega) O (by omega) λ(s:Int) g0=> ?_;have b2:B[i.toNat]? =some s:=g0;have c8:s∈B:=List.mem_of_getElem? b2;have b8:¬qC (λa=>cN a g) s->∀q∈B.take (i.toNat+1),¬qC (λa=>cN a g) q:=λJ q H=>by rw [yX b2] at H;grind
   refine bq.intro (λp A k=>d<=k/\∃W u F,dC k f .i64 vI W/\db k 1 oI A u F/\(∀b∈F,d b=none)/\f∉F/\Marks (λa=>cN a g) W 0 i u/\p∈names g/\Pass (λa=>cN a g) s u p/\(∀x∈u,x∈names g))
    (λ_ _ k=>nG (names g) k f) ⟨t,W,[],[],g3,⟨rfl,Nat.le_refl _,.inl ⟨rfl,rfl,rfl⟩⟩,λb hb=>(by cases hb),(by simp),mk,SA ((R s).1 c8),Pass.start s,λx hx=>(by cases hx)⟩ ?_
   rintro p A k ⟨t,W,u,F,z,U,hF,b0,mk,f5,G,f6⟩;have i2:dC k C .i64 vI g:=b6.mono t;have h3:u.length<=(names g).length:=FN u _ G.nd f6;have h2:(names g).length=g.length+g.length:=by unfold names;simp
   have h9:=U.1;have h8:=U.2.1;refine zU z (λb1=> ?_) λx1 g1=> ?_
   · -- it is marked now
    rw [iT];have f7:p∉u:=λL=>by rw [mk.new p L] at b1;cases b1
    refine Em (ev:=vI) (v:=i) z λo _ E=> ?_;have d4:Mv [f] k [f] (k.set f o):=Mv.set;have e3:=(d4.le t λb hb=>by grind).1;have mk':=mk.add (p:=p);have g4:db (k.set f o) 1 oI A u F:=U.mv d4 λb hb d8=>b0 (by grind);have c2:nG (names g) (k.set f o) f<nG (names g) k f:=by rw [zh E,zh z];exact W8 f5 b1
    refine sD (xs:=[p]) (enc:=oI) (sz:=1) rfl (λ_=>rfl) λb5 h5 g5 T m5 o5=> ?_;refine sm (g4.grow T) (o5.rw λ_=>rfl) (λ_=>rfl) (λ_=>rfl) rfl (by simp;omega) λi4 h7 F7 o7 b7=> ?_;obtain ⟨a8,d6⟩:=b7.le (Hp.le_trans e3 T) hF;have b4:=(E.mono T).mv b7 b0;have e8:f∉F7:=λL=>by
     rcases b7.from_ f L with h | h
     ·exact b0 h
     ·exact E.known (tY T h)
    have e9:nG (names g) h7 f<nG (names g) k f:=by rw [zh b4];rw [zh E] at c2;exact c2
    refine zU (b6.mono a8) (λhn=> ?_) λq c5=> ?_
    ·rw [if_pos (by simp)];have J:=G.dead (Jo hn);refine ⟨a8,_,b4,mk'.close (by omega) λx hx=> ?_,b8 J.1⟩;rcases List.mem_append.1 hx with hx | hx
     ·exact J.2 x hx
     ·rw [List.mem_singleton.1 hx];exact Jo hn
    ·rw [iT];refine ⟨⟨a8,_,u++ [p],F7,b4,o7,d6,e8,mk',SB c5,G.step f7 c5,λx hx=> ?_⟩,e9⟩;grind
   ·rw [if_pos rfl];rcases mk.lg p x1 g1 with ⟨h1,f4⟩ | ⟨_,h1,f0⟩
    ·rw [if_neg (by simp [h1])];have qx:Is k A u:=U.rw λ_=>rfl;refine OJ (NQ qx (by omega) f4 λj hj=> ?_);obtain ⟨b9,c4,g6⟩:=G.cyc hj;have g8:j<u.length:=(List.getElem?_eq_some_iff.1 hj).1;have hz:(0:Int)<=(j:Int)/\(j:Int)<=(A.len:Int):=⟨by omega,by omega⟩;have jt:(j:Int).toNat=j:=by omega
     rw [jt];refine ⟨hz,aE ?_⟩;have rj:Is k ⟨aV A.base 1 j A.cap,A.len-j,A.cap-j⟩ (u.drop j):=by have:=Rw.cut (a:=j) (b:=u.length) (c:=A.cap) (n:=A.len-j) (m:=A.cap-j) qx (λ_=>rfl) (by omega) (Nat.le_refl _) (by omega) (by omega);grind
     refine TB (Sy rj (by grind) (by grind) b9 λout c I F' oo d3 c6 c3=> ?_);have lo:k<=I:=(d3.le (Hp.le_refl k) λb hb=>by cases hb).1;have d7:∀b∈F',h b=none:=λb hb=>tY (Hp.le_trans N t) ((d3.from_ b hb).resolve_left λh=>by cases h);have e0:c.length<=(u.drop j).length:=FN c _ c6.nd λy hy=>(c3 y).1 hy;rw [List.length_drop] at e0;refine H out c B I F' (Hp.le_trans N (Hp.le_trans t lo)) oo d7 S R (.inr ⟨c6,s,c8,(DS G.last).2 (b9.inf c4),λq f8 f9=>V q (QH S b2 f8 f9),_,p,G.last,(c3 p).2 c4⟩) (by omega)
    ·rw [if_pos (by simp;omega)];have J:=G.dead f0;exact ⟨t,_,z,mk.close (by omega) J.2,b8 J.1⟩
  ·rintro w ⟨g9,W',E,mk',g7⟩;rw [aI];grind
 ·rw [if_neg λZ=>ei (of_decide_eq_true Z)];rw [List.take_of_length_le (by omega)] at V;exact H _ [] B k [] (Hp.le_trans N t) ⟨rfl,Nat.le_refl _,.inl ⟨rfl,rfl,rfl⟩⟩ (λb hb=>(by cases hb)) S R (.inl ⟨rfl,V⟩) (by simp)
def PR (x:bx):Prop:=(Lit.int .i64 x.a0).wf=true/\(Lit.int .i64 x.a1).wf=true
theorem UM {h:Hp} {x y:Operand} {e:bx} (c:PR e):kA prog (dt .neq 48 x y e.v e.v) h (.bool false):=by
 refine Pw λw=> ?_;have b:prog.keyLits 3 48 [.int .i64 e.a0,.int .i64 e.a1]=some [.int .i64 e.a0,.int .i64 e.a1]:=by
  have f:prog.cellsOf 48=2:=by kernel_rfl
  have g:prog.cellsOf 3=1:=by kernel_rfl
  simp [Program.keyLits,underlying48,underlying3,f,g,show List.range 2=[0,1] from rfl,c.1,c.2]
 obtain ⟨r,a,d⟩:=run_equalIn_deep (P:=prog) 9997 3 48 (by kernel_rfl) w 3 3 e.v e.v _ _ (by kernel_rfl) (by kernel_rfl) b b;have j:r=true:=d.2 rfl;subst j;have i:prog.eqGuardType prog.depth 48=false:=by kernel_rfl
 unfold dt;unfold bx.v at a ⊢;simp only [Sem.run_bind,run_eqGuard_agg (P:=prog) w .neq 48 x y _ _ i,Result.andThen_ok,run_neq_struct];rw [show (10000:Nat)=9997+3 from rfl,a];rfl
theorem UO {a b:Sl} {c:List bx} {Q:Bool->Hp->Prop} {h:Hp} (j:Es h a c) (l:Es h b c) (t:c.length<=100000000) (o:∀x∈c,PR x) (n:Q true h):Vo prog a b Q h:=by
 unfold Vo;have q:=j.1;have r:=l.1;rw [if_neg (show ¬(((a.len:Int) !=(b.len:Int))=true) by simp;omega)];refine au.intro (λi k=>k=h/\0<=i/\i<=(c.length:Int)) (λi _=>(c.length-i).toNat) ⟨rfl,by omega,by omega⟩ ?_;rintro i k ⟨p,d,s⟩;subst k;by_cases e:i<(a.len:Int)
 ·rw [if_pos (decide_eq_true e)];refine Rs.get (sh:=fk) j (λ_=>rfl) (by omega) d (by omega) λ(x:bx) f=> ?_;refine Rs.get (sh:=fk) l (λ_=>rfl) (by omega) d (by omega) λ(y:bx) g=> ?_;rw [f] at g;cases g;refine ⟨false,UM (o x (List.mem_of_getElem? f)),?_⟩;dsimp only;rw [iT,aI];exact ⟨⟨rfl,by omega,by omega⟩,by omega⟩
 ·rw [if_neg λm=>e (of_decide_eq_true m)];exact n
theorem tN :Ring (λa=>cN a (eN [⟨3,1⟩,⟨1,2⟩,⟨2,3⟩])) [1,2,3]:=by
 refine ⟨⟨by decide,by decide,λi hi=> ?_⟩,by decide⟩;have:i=0\/i=1\/i=2:=by simp at hi;omega
 rcases this with rfl | rfl | rfl<;>decide
theorem Xa {c:List Int} (b:∀x,x∈c↔x∈(eN [⟨3,1⟩,⟨1,2⟩,⟨2,3⟩]).map (·.1)):Told (λa=>cN a (eN [⟨3,1⟩,⟨1,2⟩,⟨2,3⟩])) c [1,2,3]:=by
 refine .inr ⟨tN,1,(b 1).2 (by decide),tN.inf (by decide),λq d f=> ?_,0,1,rfl,by decide⟩;have:=(b q).1 d;have e:(eN [⟨3,1⟩,⟨1,2⟩,⟨2,3⟩]).map (·.1)=[3,1,2]:=by decide
 grind
theorem UQ {b:List Int} (c:∀x,x∈b↔x∈(eN [⟨1,2⟩,⟨2,3⟩]).map (·.1)):Told (λa=>cN a (eN [⟨1,2⟩,⟨2,3⟩])) b []:=by
 refine .inl ⟨rfl,λq d hi=> ?_⟩;have:=(c q).1 d;have e:(eN [⟨1,2⟩,⟨2,3⟩]).map (·.1)=[1,2]:=by decide
 rw [e] at this;simp at this;rcases this with rfl | rfl
 ·exact hi 3 (by decide)
 ·exact hi 2 (by decide)
theorem US {Q:Bool->Hp->Prop} {h:Hp} (q:∀a,h<=a->Q true a):Vm prog Q h:=by
 unfold Vm;have t:∀x∈([⟨3,1⟩,⟨1,2⟩,⟨2,3⟩]:List bx),(Lit.int .i64 x.a0).wf=true:=by decide
 have u:∀x∈([⟨1,2⟩,⟨2,3⟩]:List bx),(Lit.int .i64 x.a0).wf=true:=by decide
 refine sD (xs:=([⟨3,1⟩,⟨1,2⟩,⟨2,3⟩]:List bx)) (enc:=PW) (sz:=2) rfl (λ_=>rfl) λb N hb C V H=> ?_;refine Iz (e:=⟨some ⟨b,0,none⟩,3,3⟩) (Jy (H.rw λ_=>rfl) (by decide) t λout d T j F D I _ _ o r _=> ?_);have k:d=[1,2,3]:=NN r (Xa o);subst k;have r2:Is j out [1,2,3]:=I.rw λ_=>rfl;have m:=r2.1;have n:(out.len:Int)=3:=by simp at m;omega
 have g:((out.len:Int)==3)=true:=by simp [n]
 rw [g];refine Rs.mj r2 (0:Int) (λ_=>rfl) (by omega) (λ_=>by simp) λ(x:Int) v=>aE ?_;have w:=v rfl;cases w;refine Rs.mj r2 (0:Int) (λ_=>rfl) (by omega) (λ_=>by simp) λ(X:Int) y=>aE ?_;have z:=y rfl;cases z;refine Rs.mj r2 (0:Int) (λ_=>rfl) (by omega) (λ_=>by simp) λ(Y:Int) A=>aE ?_;have B:=A rfl;cases B;refine Gi (by rfl) ?_;refine sD (xs:=([⟨1,2⟩,⟨2,3⟩]:List bx)) (enc:=PW) (sz:=2) rfl (λ_=>rfl) λc O R E W J=> ?_;refine Gi (by rfl) (Iz (e:=⟨some ⟨c,0,none⟩,2,2⟩) (Jy (J.rw λ_=>rfl) (by decide) u λL f U P M G K _ _ p s _=> ?_));have l:f=[]:=NN s (UQ p);subst l;have S:=K.1;refine aE ?_;have i:((L.len:Int)==0)=true:=by grind
 rw [i];exact q _ (Hp.le_trans C (Hp.le_trans D (Hp.le_trans E G)))
end Lf
namespace Go.Proofs
open Go.Shelf
def Tryz.rh :Go.Shelf.Ren:=⟨λ| 144=>222 | 143=>225 | 219=>226 | 217=>227 | 225=>228 | 224=>229 | 267=>230 | 266=>231 | 314=>232 | n=>n,λ| 9=>9 | 4=>4 | 3=>3 | 5=>5 | 46=>205 | 146=>276 | 51=>263 | n=>n,λ| 1=>1 | n=>n⟩
theorem Tryz.yf :Go.Proofs.Lays.n144 Tryz.prog Tryz.rh:={
 mixed:=by kernel_rfl
 f143:=Tryz.func225.trans (congrArg some (by kernel_rfl))
 f144:=Tryz.func222.trans (congrArg some (by kernel_rfl))
 f217:=Tryz.func227.trans (congrArg some (by kernel_rfl))
 f219:=Tryz.func226.trans (congrArg some (by kernel_rfl))
 f224:=Tryz.func229.trans (congrArg some (by kernel_rfl))
 f225:=Tryz.func228.trans (congrArg some (by kernel_rfl))
 f266:=Tryz.func231.trans (congrArg some (by kernel_rfl))
 f267:=Tryz.func230.trans (congrArg some (by kernel_rfl))
 f314:=Tryz.func232.trans (congrArg some (by kernel_rfl))
 t3:=Tryz.underlying3
 a3:=Tryz.isAgg3
 z3:=Tryz.sizeOf3
 v3:=Tryz.zeroValue3
 t4:=Tryz.underlying4
 a4:=Tryz.isAgg4
 z4:=Tryz.sizeOf4
 v4:=Tryz.zeroValue4
 t5:=Tryz.underlying5
 a5:=Tryz.isAgg5
 z5:=Tryz.sizeOf5
 v5:=Tryz.zeroValue5
 t9:=Tryz.underlying9
 a9:=Tryz.isAgg9
 z9:=Tryz.sizeOf9
 v9:=Tryz.zeroValue9
 t46:=Tryz.underlying205
 a46:=Tryz.isAgg205
 z46:=Tryz.sizeOf205
 v46:=Tryz.zeroValue205
 t51:=Tryz.underlying263
 a51:=Tryz.isAgg263
 z51:=Tryz.sizeOf263
 v51:=Tryz.zeroValue263
 t146:=Tryz.underlying276
 a146:=Tryz.isAgg276
 z146:=Tryz.sizeOf276
 v146:=Tryz.zeroValue276
 g1:=by kernel_rfl}
open Go.RowKit Go.Lib in
theorem Tryz.strings_Contains_one (s:ByteArray) (c:UInt8) (w:World):
  Calls Tryz.prog 222 #[.string s,.string ⟨#[c]⟩] w λe a=>e=.returned (.bool (decide (0<=Lib.indexByte s.data.toList c)))/\a=w:=Any.strings_Contains_one Tryz.yf s c w
end Go.Proofs
namespace Lf
section
variable {c:bd} {s:fe}
theorem JA {i:Nat}:∀ {l:List uh} {last:Int},qc c s i last l->∀(k:Nat) e,l[k]? =some e->last<=e.tick/\e.tick<s.tick/\jR c e.proc i/\∀d,0<k->l[k-1]? =some d->d.tick<=e.tick
 | [],_,_,k,e,a=>by simp at a
 | x::r,last,h,0,e,a=>by obtain ⟨b,f,g,_⟩:=h;grind
 | x::r,last,h,k+1,e,a=>by obtain ⟨b,f,g,j⟩:=h;obtain ⟨m,n,o,p⟩:=JA j k e (by simpa using a);grind
theorem JC {i:Nat}:∀ {l:List uh} {last:Int},(∀e,l[0]? =some e->last<=e.tick)->(∀(k:Nat) e,l[k]? =some e->e.tick<s.tick/\jR c e.proc i/\∀d,0<k->l[k-1]? =some d->d.tick<=e.tick)->qc c s i last l
 | [],_,_,_=>trivial
 | x::r,last,b,h=>by
  obtain ⟨f,g,_⟩:=h 0 x rfl;refine ⟨b x rfl,f,g,JC (λe a=> ?_) λk e a=> ?_⟩
  ·exact (h 1 e a).2.2 x (by omega) rfl
  ·obtain ⟨j,m,n⟩:=h (k+1) e a;grind
theorem NR {p i:Nat} {y:eu} (h:jR c (p:Int) i) (a:c.procs[p]? =some y):y.part=(i:Int):=by obtain ⟨_,z,b,hp⟩:=h;grind
theorem Mt {p:Int} {x:cR} (h:∀(k:Nat) q,x.ah[k]? =some q->p∉q):gJ p x=0:=by refine NC _ _ λq a=> ?_;obtain ⟨k,b⟩:=List.getElem?_of_mem a;grind
theorem UT {p:Int} {x:cR} (h:0<gJ p x):∃(k:Nat) (q:List Int),x.ah[k]? =some q/\p∈q:=by obtain ⟨q,a,hp⟩:=E1 _ _ h;obtain ⟨k,b⟩:=List.getElem?_of_mem a;obtain ⟨z,d,e⟩:=List.countP_pos_iff.1 hp;grind
theorem Mu {p:Int} {l:br} (h:∀w∈l.waiters,w.proc≠p):jo p l=0:=by unfold jo;grind
theorem UU {p:Int} {l:br} (h:0<jo p l):∃w∈l.waiters,w.proc=p:=by obtain ⟨w,a,e⟩:=List.countP_pos_iff.1 h;grind
theorem GN {p i:Nat} {y:eu} (e:c.procs[p]? =some y) (hi:y.part=(i:Int))
  (b:∀(j:Nat) x,s.parts[j]? =some x->∀(k:Nat) q,x.ah[k]? =some q->∀z∈q,jR c z j):(s.parts.map (gJ (p:Int))).sum=((s.parts[i]?).map (gJ (p:Int))).getD 0:=by
 refine Fl _ _ _ λj x d f=>Mt λk q a hp=> ?_;have:=NR (b j x d k q a _ hp) e;omega
theorem GM {p i:Nat} {y:eu} (g:c.procs[p]? =some y) (hi:y.part=(i:Int))
  (d:∀(r:Nat) x,s.procs[r]? =some x->∀(j:Nat) l,x.ae[j]? =some l->∀w∈l.waiters,jR c w.proc j):
  (s.procs.map (j9 (p:Int))).sum=(s.procs.map λz=>((z.ae[i]?).map (jo (p:Int))).getD 0).sum:=by
 congr 1;refine List.map_congr_left λz k=> ?_;obtain ⟨r,b⟩:=List.getElem?_of_mem k;refine Fl _ _ _ λj l a m=>Mu λw f e=> ?_;have h:=d r z b j l a w f;rw [e] at h;have:=NR h g;omega
end
section
variable {c:bd} {s:fe} {fl:Nat->Int->Prop}
theorem zV {d:Type} {l:List d} {i:Nat} {a b:d} (e:l[i]? =some a) (f:l[i]? =some b):a=b:=Option.some.inj (e.symm.trans f)
theorem sY {d e:Type} {l:List d} {m:List e} {i:Nat} {a:d} (h:l[i]? =some a) (f:l.length=m.length):∃b,m[i]? =some b:=by have:=(List.getElem?_eq_some_iff.1 h).1;exact ⟨m[i]'(by omega),by simp⟩
theorem Xb (c4:∀y∈c.procs,0<=y.part/\y.part<c.labels.length) (h:qJ c s fl):ui c s fl:=by
 obtain ⟨G,hP,N,O,w2,w3⟩:=h;have hq:∀(j:Nat) x,s.parts[j]? =some x->∀(k:Nat) q,x.ah[k]? =some q->∀z∈q,jR c z j:=λj x a k q f z d=>(O j x a k q f z d).1;have hw:∀(r:Nat) x,s.procs[r]? =some x->∀(j:Nat) l,x.ae[j]? =some l->∀w∈l.waiters,jR c w.proc j:=λr x a j l m w A=>by obtain ⟨y,g⟩:=sY a G.2.2;grind
 have c0:∀(p:Int) (q:ai->dF->Prop),(xX c s p λz n=>z.state=3/\q z n)->qE s p λz=>z.state=3:=λp q ⟨x,y,n,X,L,M,Y,h5⟩=>⟨x,X,Y⟩;have b9:∀(p v:Int) (r:Nat),rP c s p v r->qE s p λz=>z.state=2:=λp v r ⟨x,y,n,X,L,M,Y,h5⟩=>⟨x,X,Y⟩;refine ⟨⟨G,λx a=> ?_,λx a=> ?_⟩,λi x a=> ?_,λp x y a g=> ?_,λp i x y a g hi=> ?_⟩
 ·obtain ⟨i,hi⟩:=List.getElem?_of_mem a;obtain ⟨⟨_,_,C⟩,_,_,_,_,F,g3,_⟩:=hP i x hi;omega
 ·obtain ⟨p,hp⟩:=List.getElem?_of_mem a;obtain ⟨y,g⟩:=sY hp G.2.2;obtain ⟨_,_,C,_,_,_,_,_,F,_⟩:=N p x y hp g;refine ⟨C,λl m=> ?_⟩;obtain ⟨i,hi⟩:=List.getElem?_of_mem m;grind
 ·obtain ⟨⟨C,F,g3⟩,T,U,V,W,g8,g9,S⟩:=hP i x a;refine ⟨⟨C,F⟩,U,V,W,λk e he=> ?_,λk o ho=>⟨?_,λq f=>⟨λe=> ?_,λp hp=> ?_⟩⟩⟩
  ·obtain ⟨a1,a2,a3,a4⟩:=JA T k e he;grind
  ·by_cases e:o= -1
   ·exact .inl e
   ·obtain ⟨a1,z,a2,a3⟩:=S o (List.mem_of_getElem? ho) e;refine .inr ⟨a1,z,a2,?_⟩;obtain ⟨y,g⟩:=sY a2 G.2.2;have:=(N _ z y a2 g).1;omega
  ·cases q with
   | nil=>rfl
   | cons p q=>obtain ⟨_,_,o',B,u,_⟩:=O i x a k _ f p (List.mem_cons_self ..);grind
  ·obtain ⟨b0,B,o',u,Q,E⟩:=O i x a k q f p hp;obtain ⟨z,D,K⟩:=c0 p _ B;have:=zV ho u;subst this;exact ⟨⟨b0,z,D,by omega⟩,⟨z,D,K⟩,E⟩
 ·obtain ⟨C,F,g3,T,U,V,W,g8,g9,_⟩:=N p x y a g;refine ⟨C,F,T,U,V,W,λe=>g8 (by omega),λk l m=> ?_⟩;obtain ⟨a1,a2,a3,a4⟩:=g9 k l m;refine ⟨a2,a3,λf hu=>a4 hu f,λH=> ?_,λw A=> ?_⟩
  ·obtain ⟨w,A⟩:=List.exists_mem_of_ne_nil _ H;grind
  ·obtain ⟨B,u,Q,E,R⟩:=w2 p x y a g k l m w A;obtain ⟨z,D,K⟩:=b9 _ _ _ R;refine ⟨λi hi=> ?_,z,D,K⟩;have:k=i:=by omega
   subst this;exact ⟨u,z,D,by omega⟩
 ·obtain ⟨C,_,_,_,_,_,_,_,_,S,c3,a8,a9⟩:=N p x y a g;have e3:∀z,s.parts[i]? =some z->∀(k:Nat) q,z.ah[k]? =some q->(p:Int)∈q->x.state=3/\∃n,ff y x.pc=some n/\n.op=29/\n.kf=(k:Int):=λz d k q f I=>by obtain ⟨_,⟨x',y',n,B,u,Q,E,R⟩,_⟩:=O i z d k q f p I;rw [Int.toNat_natCast] at B u;obtain rfl:=zV a B;obtain rfl:=zV g u;obtain ⟨n',D,K⟩:=a8 E;grind
  have Z:∀(r:Nat) z,s.procs[r]? =some z->∀l,z.ae[i]? =some l->∀w∈l.waiters,w.proc=(p:Int)->x.state=2/\∃n,ff y x.pc=some n/\n.op=24/\x.aO[n.b.toNat]? =some (r:Int)/\x.aO[n.c.toNat]? =some w.value:=λr z d l m w A J=>by obtain ⟨y',b8⟩:=sY d G.2.2;obtain ⟨_,_,_,_,x',c5,n,B,u,Q,E,R,b6,b7⟩:=w2 r z y' d b8 i l m w A;rw [J,Int.toNat_natCast] at B u;grind
  have t:=w3 p x a;rw [GN g hi hq,GM g hi hw] at t;have z2:x.state≠2->(s.procs.map λz=>((z.ae[i]?).map (jo (p:Int))).getD 0).sum=0:=λH=>by
   refine NC _ _ λz d=> ?_;obtain ⟨r,hr⟩:=List.getElem?_of_mem d;cases m:z.ae[i]? with
   | none=>rfl
   | some l=>exact Mu λw A J=>H (Z r z hr l m w A J).1
  have P:x.state≠3->((s.parts[i]?).map (gJ (p:Int))).getD 0=0:=λH=>by
   cases d:s.parts[i]? with
   | none=>rfl
   | some z=>exact Mt λk q f I=>H (e3 z d k q f I).1
  refine ⟨λz d k q f I=>(e3 z d k q f I).2,λr z d l m w A J=>(Z r z d l m w A J).2,λz d=> ?_,?_,S,a9⟩
  ·rw [d] at t P;have t:gJ (p:Int) z+_=_:=t;have P:x.state≠3->gJ (p:Int) z=0:=P;by_cases M:x.state=3
   ·rw [z2 (by omega),if_pos (.inl M)] at t;rw [if_pos M];omega
   grind
  ·by_cases L:x.state=2
   ·rw [P (by omega),if_pos (.inr L)] at t;rw [if_pos L];omega
   grind
theorem Xc (a9:∀y∈c.procs,0<=y.part/\y.part<c.labels.length) (h:ui c s fl):qJ c s fl:=by
 obtain ⟨⟨I,s1,s2⟩,P,Q,J⟩:=h;have Z:∀(p:Nat) y,c.procs[p]? =some y->∃i:Nat,y.part=(i:Int)/\∃z,s.parts[i]? =some z:=λp y b=>by obtain ⟨a1,a2⟩:=a9 y (List.mem_of_getElem? b);refine ⟨y.part.toNat,by omega,s.parts[y.part.toNat]'(by have:=I.2.1;omega),by simp⟩
 have own:∀(i:Nat) x,s.parts[i]? =some x->∀(k:Nat) q,x.ah[k]? =some q->∃o,x.av[k]? =some o:=λi x a k q d=>by obtain ⟨a1,a2,_⟩:=s1 x (List.mem_of_getElem? a);exact sY d (by omega)
 have hq:∀(j:Nat) x,s.parts[j]? =some x->∀(k:Nat) q,x.ah[k]? =some q->∀z∈q,jR c z j:=λj x a k q d z F=>by obtain ⟨o,K⟩:=own j x a k q d;exact ((((P j x a).2.2.2.2.2 k o K).2 q d).2 z F).1.1
 have hw:∀(r:Nat) x,s.procs[r]? =some x->∀(j:Nat) l,x.ae[j]? =some l->∀w∈l.waiters,jR c w.proc j:=λr x a j l f w g=>by obtain ⟨y,b⟩:=sY a I.2.2;obtain ⟨_,_,_,m,t⟩:=(Q r x y a b).2.2.2.2.2.2.2 j l f;exact ((t w g).1 j (m (List.ne_nil_of_mem g)).1).1
 refine ⟨I,λi x a=> ?_,λp x y a b=> ?_,λi x a k q d p hp=> ?_,λr x y a b i l f w g=> ?_,λp x a=> ?_⟩
 ·obtain ⟨a1,a2,a3⟩:=s1 x (List.mem_of_getElem? a);obtain ⟨v,C,D,E,N,O⟩:=P i x a;refine ⟨⟨v.1,v.2,a3⟩,JC (λe X=>(N 0 e X).1.1) (λk e X=> ?_),C,D,E,a1,a2,λp hp a8=> ?_⟩
  ·grind
  ·obtain ⟨k,d⟩:=List.getElem?_of_mem hp;obtain ⟨m,z,t,b3⟩:=(O k p d).1.resolve_left a8;exact ⟨m,z,t,by omega,by omega⟩
 ·obtain ⟨a1,a2⟩:=s2 x (List.mem_of_getElem? a);obtain ⟨v,C,D,E,N,O,g7,g8⟩:=Q p x y a b;obtain ⟨i,hi,z,F⟩:=Z p y b;obtain ⟨T,L,U,G,c5,c6⟩:=J p i x y a b hi;refine ⟨v,C,a1,D,E,N,O,λe=>g7 (by omega),λk l f=> ?_,c5,λh2=> ?_,λh3=> ?_,c6⟩
  ·grind
  ·rw [if_pos h2] at G;obtain ⟨A,b5,Y⟩:=E1 _ _ (show 0<_ by rw [G];omega);obtain ⟨r,hr⟩:=List.getElem?_of_mem b5;cases f:A.ae[i]? with
   | none=>grind
   | some l=>rw [f] at Y;obtain ⟨w,g,b0⟩:=UU Y;obtain ⟨n,V,H,_⟩:=L r A hr l f w g b0;grind
  ·have:=U z F;rw [if_pos h3] at this;obtain ⟨k,q,d,b6⟩:=UT (show 0<gJ (p:Int) z by omega);grind
 ·obtain ⟨o,K⟩:=own i x a k q d;obtain ⟨m,t⟩:=(P i x a).2.2.2.2.2 k o K;obtain ⟨b3,b4⟩:=t q d;obtain ⟨⟨V,z,H,d3⟩,⟨A,d4,d5⟩,d6⟩:=b4 p hp;obtain ⟨M,y,u,B⟩:=V;obtain rfl:=zV H d4;have R:((p.toNat:Nat):Int)=p:=by omega
  obtain ⟨T,_⟩:=J p.toNat i z y H u B;obtain ⟨n,f1,f2,f3⟩:=T x a k q d (by rw [R];exact hp);refine ⟨⟨M,y,u,B⟩,⟨z,y,n,H,u,f1,d5,f3⟩,o,K,?_,d6⟩;rcases m with e | e
  ·grind
  ·exact e.1.1
 ·obtain ⟨_,_,_,m,t⟩:=(Q r x y a b).2.2.2.2.2.2.2 i l f;obtain ⟨W,e2,e3⟩:=m (List.ne_nil_of_mem g);obtain ⟨f1,A,f2,f3⟩:=t w g;obtain ⟨⟨M,S,u,B⟩,_⟩:=f1 i W;have hv:=(s2 x (List.mem_of_getElem? a)).2 l (List.mem_of_getElem? f);have R:((w.proc.toNat:Nat):Int)=w.proc:=by omega
  obtain ⟨_,L,_⟩:=J w.proc.toNat i A S f2 u B;obtain ⟨n,v,C,D,E⟩:=L r x a l f w g R.symm;exact ⟨W,⟨M,S,u,B⟩,by omega,by omega,A,S,n,f2,u,v,f3,C,D,E⟩
 ·obtain ⟨y,b⟩:=sY a I.2.2;obtain ⟨i,hi,z,F⟩:=Z p y b;obtain ⟨_,_,U,G,_⟩:=J p i x y a b hi;rw [GN b hi hq,GM b hi hw,F,G];grind
theorem Xd (a:∀y∈c.procs,0<=y.part/\y.part<c.labels.length):qJ c s fl↔ui c s fl:=⟨Xb a,Xc a⟩
end
abbrev D (α:Type):Type:=List UInt8->Nat->Except (Int×Nat) (α×Nat)
namespace D
variable {α β:Type}
def ret (x:α):D α:=λ_ at_=>.ok (x,at_)
def bind (d:D α) (f:α->D β):D β:=λb at_=>match d b at_ with
 | .ok (x,a)=>f x b a
 | .error e=>.error e
def num (k:Nat):D Nat:=λb at_=>if b.length<at_+k then .error (5,b.length) else .ok (Iq ((b.drop at_).take k),at_+k)
def vW (d:D α) (a:α->Int):D α:=λb at_=>match d b at_ with
 | .ok (x,c)=>if a x=0 then .ok (x,c) else .error (a x,at_)
 | .error e=>.error e
def many (d:List α->D α):Nat->List α->D (List α)
 | 0,a=>ret a
 | n+1,a=>bind (d a) λx=>many d n (a++ [x])
def map (f:α->β) (d:D α):D β:=bind d λx=>ret (f x)
end D
end Lf
namespace Lf
namespace D
end D
open D
def i64 (n:Nat):Int:=if n<9223372036854775808 then n else (n:Int)-18446744073709551616
def iE (x:Int):Prop:= -9223372036854775808<=x/\x<9223372036854775808
def nU (a b:Int) (n:Int):Int:=if jG n a b then 0 else 2
def mb (lN:Int) (n:Int):Int:=if n=0 then 1 else if lN<n then 3 else 0
end Lf
namespace Lf
abbrev By (k:Nat) (x:Int):Prop:=0<=x/\x<((256^k:Nat):Int)
def less (n:Int):Int:=n-1
theorem dM {a b n:Int}:jG n a b=true↔a<=n/\n<=b:=by unfold jG;simp
theorem gG {a b n:Int}:jG n a b=false↔¬(a<=n/\n<=b):=by rw [<-Bool.not_eq_true,dM]
theorem LF {n ak:Int}:∀ {l:List dF} {i:Int},(j3 n ak l i).1=0↔∀x∈l,(j8 x n ak).1=0
 | [],i=>by simp [j3]
 | x::r,i=>by
  simp only [j3];by_cases h:(j8 x n ak).1=0
  ·rw [if_neg (λa=>a h),LF];simp [h]
  grind
theorem Df {l:List dF} {ak:Int} (a:0<=ak/\ak<=8):(jq l ak).1=0↔l.length<=256/\∀x∈l,(j8 x l.length ak).1=0:=by
 unfold jq;rw [om];by_cases h:256<l.length
 ·grind
 ·rw [if_neg h,LF];grind
theorem KR {parts ak:Int}:∀ {l:List eu} {i:Int},(ug parts ak l i).1=0↔∀p∈l,(0<=p.part/\p.part<=parts-1)/\(jq p.code ak).1=0
 | [],i=>by simp [ug]
 | p::r,i=>by
  simp only [ug];by_cases a:jG p.part 0 (parts-1)=false
  ·rw [if_pos a];have:=gG.1 a;grind
  ·rw [if_neg a];have c:=dM.1 (Bool.not_eq_false _▸a:jG p.part 0 (parts-1)=true);by_cases b:(jq p.code ak).1=0
   ·rw [if_neg (λd=>d b),KR];simp [b,c]
   grind
def Typed (c:bd):Prop:=(∀a∈c.labels,By 8 a)/\∀p∈c.procs,∀x∈p.code,iE x.kf
theorem jm {m:Int} {c:bd}:(uq m c).1=0↔m=0/\c.table≠ []/\c.table.length<=64/\(∀x∈c.table,0<=x/\x<=c.labels.length-1)/\(1<=c.fuel/\c.fuel<=256)/\(1<=c.lane/\c.lane<=64)/\(0<=c.ak/\c.ak<=8)/\
  (0<=c.log/\c.log<=4096)/\c.procs≠ []/\c.procs.length<=32/\∀p∈c.procs,(0<=p.part/\p.part<=c.labels.length-1)/\(jq p.code c.ak).1=0:=by
 unfold uq;by_cases i:m=0
 case neg=>grind
 rw [if_neg (λo=>o i)];by_cases j:c.table=[]
 ·grind
 rw [if_neg j];by_cases k:64<c.table.length
 ·grind
 rw [if_neg k];by_cases g:c.table.all (λp=>jG p 0 (c.labels.length-1))=false
 ·rw [if_pos g];refine ⟨λe=>(by cases e),λe=> ?_⟩;have:c.table.all (λp=>jG p 0 (c.labels.length-1))=true:=List.all_eq_true.2 λx h=>dM.2 (e.2.2.2.1 x h);grind
 rw [if_neg g];have q:∀x∈c.table,0<=x/\x<=c.labels.length-1:=λx h=>dM.1 (List.all_eq_true.1 (Bool.not_eq_false _▸g:c.table.all (λp=>jG p 0 (c.labels.length-1))=true) x h);by_cases a:jG c.fuel 1 256=false
 ·rw [if_pos a];exact ⟨λe=>(by cases e),λe=>absurd e.2.2.2.2.1 (gG.1 a)⟩
 rw [if_neg a];have r:=dM.1 (Bool.not_eq_false _▸a:jG c.fuel 1 256=true);by_cases b:jG c.lane 1 64=false
 ·rw [if_pos b];exact ⟨λe=>(by cases e),λe=>absurd e.2.2.2.2.2.1 (gG.1 b)⟩
 rw [if_neg b];have s:=dM.1 (Bool.not_eq_false _▸b:jG c.lane 1 64=true);by_cases d:jG c.ak 0 8=false
 ·rw [if_pos d];exact ⟨λe=>(by cases e),λe=>absurd e.2.2.2.2.2.2.1 (gG.1 d)⟩
 rw [if_neg d];have t:=dM.1 (Bool.not_eq_false _▸d:jG c.ak 0 8=true);by_cases f:jG c.log 0 4096=false
 ·rw [if_pos f];exact ⟨λe=>(by cases e),λe=>absurd e.2.2.2.2.2.2.2.1 (gG.1 f)⟩
 rw [if_neg f];have u:=dM.1 (Bool.not_eq_false _▸f:jG c.log 0 4096=true);by_cases l:c.procs=[]
 ·grind
 rw [if_neg l];by_cases n:32<c.procs.length
 ·grind
 rw [if_neg n,KR];grind
theorem wS :∀(n:Nat) (l:List Int),l.Nodup->(∀x∈l,0<=x/\x<n)->l.length<=n
 | 0,l,_,h=>by
  cases l with
  | nil=>simp
  | cons x r=>have:=h x (List.mem_cons_self ..);omega
 | n+1,l,b,h=>by
  by_cases f:(n:Int)∈l
  ·have:=wS n (l.erase (n:Int)) (b.erase _) λx a=>by
    have c:=h x (List.mem_of_mem_erase a);have d:x≠(n:Int):=λe=>by rw [e] at a;exact (b.not_mem_erase) a
    omega
   grind
  ·have:=wS n l b λx a=>by grind
   omega
def YR (s:fe):Prop:=
 iE s.tick/\(∀x∈s.parts,∀e∈x.log,iE e.tick/\iE e.value)/\
 ∀x∈s.procs,x.aO.length=8/\(∀v∈x.aO,iE v)/\iE x.timer/\iE x.cp/\∀l∈x.ae,(∀v∈l.values,iE v)/\∀w∈l.waiters,iE w.value
section
end
end Lf
namespace Lf
open Go Go.Proofs Go.RowKit
theorem QI {P:Program} {g:FuncId} {args:List Value} {sh:Shape} {K:sh.T->Hp->Prop} {h:Hp} {x:sh.T} (c:∀w,Sub h w->Calls P g args.toArray w λe b=>e=.returned (sh.enc x)/\b=w) (d:K x h):aa P g args sh K h:=by intro w a;refine (c w a).mono ?_;rintro e b ⟨rfl,rfl⟩;exact ⟨_,h,rfl,⟨x,rfl,d⟩,⟨a,Nat.le_refl _,λi hi f=>⟨rfl,f⟩,rfl,rfl,rfl⟩⟩
def qZ (s:ByteArray) (c:UInt8):Bool:=decide (0<=Lib.indexByte s.data.toList c)
theorem aaC {s:ByteArray} {c:UInt8} {K:Bool->Hp->Prop} {h:Hp} (a:K (qZ s c) h):aa Tryz.prog zuy [.string s,.string ⟨#[c]⟩] aW K h:=by refine QI (x:=qZ s c) (λw _=> ?_) a;exact Tryz.strings_Contains_one s c w
def bE (x:aZ):dF:=⟨x.Op,x.A,x.B,x.C,x.iZ⟩
def fJ :List (List UInt8):=[[],[97,105],[97,98],[97,98,99],[97,98,99],[97,98,99],[97,98,99],[97,98,99],[97,98,99],[97,98,99],[97,98,99],[97,98,99],[97,98,99],[97,98,99],[97,98,99],[97,98,99],[97,98,99],[97,98,99],[97,98,99],[97,98,99],[97,98],[97,98],[105],[97,105],[97,98,99],[97,98],[97,98],[97],[97],[105],[105],[97],[97],[97]]
def uN (op:Int):ByteArray:=if 0<=op/\op<34 then ⟨(fJ.getD op.toNat []).toArray⟩ else ⟨#[]⟩
theorem aaD :∀n,n<34->(decide (0<=Lib.indexByte (fJ.getD n []) 97),decide (0<=Lib.indexByte (fJ.getD n []) 98),decide (0<=Lib.indexByte (fJ.getD n []) 99),decide (0<=Lib.indexByte (fJ.getD n []) 105))=jh (n:Int):=by decide
theorem QK (op:Int):(qZ (uN op) 97,qZ (uN op) 98,qZ (uN op) 99,qZ (uN op) 105)=jh op:=by
 by_cases h:0<=op/\op<34
 ·have e:=aaD op.toNat (by omega);rw [Int.toNat_of_nonneg h.1] at e;rw [<-e];simp [qZ,uN,h]
 ·have a:uN op=⟨#[]⟩:=if_neg h;rw [a];have b:jh op=(false,false,false,false):=by unfold jh;grind
  rw [b];decide
theorem Xe :∀n,n<34->fJ[n]? =some (fJ.getD n []):=by decide
theorem ZY {a:Type} (l:List a) (i:Nat):List.get?Internal l i=l[i]?:=by simp
theorem Y3 {op:Int} {Q:ByteArray->Hp->Prop} {h:Hp} (c:Q (uN op) h):zym Tryz.prog op Q h:=by
 unfold zym;refine aE ?_;by_cases a:0<=op/\op<34
 ·rw [if_neg (by simp;omega)];refine ⟨a,uN op,?_,c⟩;have e:uN op=⟨(fJ.getD op.toNat []).toArray⟩:=if_pos a;rw [ZY,e];have d:=Xe op.toNat (by omega);rw [Nat.mul_one];have b:(fJ.map λl=>Value.string ⟨l.toArray⟩)[op.toNat]? =some (Value.string ⟨(fJ.getD op.toNat []).toArray⟩):=by grind
  exact b
 ·rw [if_pos (by simp;omega)];have e:uN op=⟨#[]⟩:=if_neg a;grind
theorem wT {P:Program} {g:FuncId} {first captured:Array Value} {args:List Value} {sh:Shape} {K:sh.T->Hp->Prop} {h:Hp} (b:tb.call g=true) (a:aa P g (first.toList++args++captured.toList) sh K h):ig P tb (.func (.func g) first captured) args sh K h:=
 ⟨g,first,captured,rfl,b,a⟩
theorem Y5 {op:Int} {Q:Bool->Bool->Bool->Bool->Hp->Prop} {h:Hp} (l:∀d,h<=d->Q (jh op).1 (jh op).2.1 (jh op).2.2.1 (jh op).2.2.2 d):zyk Tryz.prog op Q h:=by
 unfold zyk;refine Uk (Y3 ?_);intro b t j;refine uS (b:=b) (off:=0) (cs:=[.string ⟨#[]⟩]) ⟨t,kK⟩ (by simp) λa i hb=> ?_;have k:h<=a:=(((Mv.new j).trans i).le (Hp.le_refl h) (by simp)).1;have g:aR a ⟨b,0,none⟩ [.string (uN op)]:=hb.fw (n:=1) (by rfl);have one:∀(c:UInt8) (K:Bool->Hp->Prop),K (qZ (uN op) c) a->ig Tryz.prog tb (.func (.func Iw) #[] #[.pointer (some ⟨b,0,none⟩)]) [.string ⟨#[c]⟩] aW K a:=λc K f=>by refine wT rfl (SX ?_);unfold Iy;refine eB (sh:=pX) (uN op) g ?_;exact aaC f
 have e:=QK op;grind
theorem CI {P:Program} {has:Bool} {n:Int} {Q:Int->Hp->Prop} {h:Hp} (b:Q (fg has n) h):ztv P has n Q h:=by
 unfold ztv;refine aE ?_;unfold fg at b;by_cases a:has=false/\n≠0
 ·grind
 ·rw [if_neg a] at b;rw [if_neg (by cases has<;>simp at a ⊢;exact a)];refine aE ?_;grind
theorem SC {P:Program} {x:aZ} {has:Bool} {n ak:Int} {Q:Int->Hp->Prop} {h:Hp}
  (c:Q (if has=false/\x.iZ≠0 then 11 else if (x.Op=22\/x.Op=23)/\(x.iZ<0\/n<x.iZ) then 12 else if (x.Op=29\/x.Op=30)/\(x.iZ<0\/ak<=x.iZ) then 13 else 0) h):zyl P x has n ak Q h:=by
 unfold zyl;refine aE ?_;by_cases a:has=false/\x.iZ≠0
 ·grind
 ·rw [if_neg a] at c;rw [if_neg (by cases has<;>simp at a ⊢;exact a)];refine aE ?_;by_cases b:x.Op=22\/x.Op=23
  ·rw [if_pos (by simp;exact b)];refine aE ?_;grind
  ·rw [if_neg (λe=>b e.1)] at c;rw [if_neg (by simp;omega)];refine aE ?_;by_cases d:x.Op=29\/x.Op=30
   ·rw [if_pos (by simp;exact d)];refine aE ?_;grind
   grind
theorem UW {x:aZ} {n ak:Int} {Q:Int->Int->Hp->Prop} {h:Hp} (a:∀b at_,h<=b->((j8 (bE x) n ak).1≠0->at_=(j8 (bE x) n ak).2)->Q (j8 (bE x) n ak).1 at_ b):B6 Tryz.prog x n ak Q h:=by
 unfold B6;refine aE ?_;have le:=Hp.le_refl h;rw [show j8 (bE x) n ak=(if x.Op<0\/34<=x.Op then (9,0)
  else if fg (jh x.Op).1 x.A≠0 then (fg (jh x.Op).1 x.A,1)
  else if fg (jh x.Op).2.1 x.B≠0 then (fg (jh x.Op).2.1 x.B,2)
  else if fg (jh x.Op).2.2.1 x.C≠0 then (fg (jh x.Op).2.2.1 x.C,3)
  else if (jh x.Op).2.2.2=false/\x.iZ≠0 then (11,4)
  else if (x.Op=22\/x.Op=23)/\(x.iZ<0\/n<x.iZ) then (12,4)
  else if (x.Op=29\/x.Op=30)/\(x.iZ<0\/ak<=x.iZ) then (13,4)
  else (0,0)) from rfl] at a
 by_cases c:x.Op<0\/34<=x.Op
 ·grind
 ·rw [if_neg c] at a;rw [if_neg (by simp;omega)];refine Ue (Y5 λc g=> ?_);dsimp only;refine YH (CI ?_);by_cases d:fg (jh x.Op).1 x.A≠0
  ·grind
  ·rw [if_neg d] at a;rw [if_neg (by simpa using d)];refine YH (CI ?_);by_cases e:fg (jh x.Op).2.1 x.B≠0
   ·grind
   ·rw [if_neg e] at a;rw [if_neg (by simpa using e)];refine YH (CI ?_);by_cases f:fg (jh x.Op).2.2.1 x.C≠0
    ·grind
    ·rw [if_neg f] at a;rw [if_neg (by simpa using f)];refine Uh (SC ?_);grind
theorem NS {x:aZ} {n ak:Int} {Q:Int->Hp->Prop} {h:Hp} (b:∀a,h<=a->Q (j8 (bE x) n ak).1 a):B5 Tryz.prog x n ak Q h:=by unfold B5;exact V5 (UW λa _ l _=>b a l)
abbrev nv (h:Hp) (l:Sl) (a:List aZ):Prop:=Rs h aU 5 l a
theorem QL {l:Sl} {a:List aZ} {ak:Int} {Q:Int->Int->Hp->Prop} {h:Hp} (r:nv h l a) (b:∀g,h<=g->Q (jq (a.map bE) ak).1 (jq (a.map bE) ak).2 g):C4 Tryz.prog l ak Q h:=by
 unfold C4;have q:=r.1;refine aE ?_;unfold jq at b;by_cases j:ak<0\/8<ak
 ·rw [if_pos j] at b;rw [if_pos (by simp;omega)];exact b h (Hp.le_refl h)
 ·rw [if_neg j,List.length_map] at b;rw [if_neg (by simp;omega)];by_cases m:256<a.length
  ·rw [if_pos m] at b;rw [if_pos (by simp;omega)];exact b h (Hp.le_refl h)
  ·rw [if_neg m] at b;rw [if_neg (by simp;omega)];refine au.intro (λi k=>h<=k/\0<=i/\i<=(a.length:Int)/\j3 a.length ak ((a.drop i.toNat).map bE) i=j3 a.length ak (a.map bE) 0) (λi _=>(a.length-i).toNat) ⟨Hp.le_refl h,by omega,by omega,rfl⟩ ?_;rintro i k ⟨e,o,hi,c⟩;by_cases p:i<(a.length:Int)
   ·rw [if_pos (fT)];refine Rs.get (sh:=aU) (Rw.mono e r) (λ_=>rfl) (by omega) o p λx t=> ?_;refine IA (NS λv n=> ?_);have f:a.drop i.toNat=x::a.drop (i.toNat+1):=by obtain ⟨w,u⟩:=List.getElem?_eq_some_iff.1 t;rw [<-u];simp
    rw [f,List.map_cons,j3] at c;rw [q];by_cases d:(j8 (bE x) a.length ak).1≠0
    ·rw [if_pos d] at c;rw [if_pos (by simpa using d)];rw [<-c] at b;exact b v (Hp.le_trans e n)
    ·rw [if_neg d] at c;rw [if_neg (by simpa using d)];have s:yw (i+1)=i+1:=aI;rw [s];refine ⟨⟨Hp.le_trans e n,by omega,by omega,?_⟩,by omega⟩;grind
   ·rw [if_neg (by simp;omega)];have f:a.drop i.toNat=[]:=List.drop_eq_nil_of_le (by omega);rw [f] at c;rw [<-c] at b;exact b k e
end Lf
namespace Lf
open Go
theorem Xf {p:Type} {h0 h:Hp} {sz n bytes:Nat} {enc:p->List Value} {zero j:List Value} {l:Sl} {xs ys:List p} {K:Sl->Hp->Prop} (m:h0<=h) (o:Own h0 h sz enc l xs) (q:j=ys.flatMap enc) (u:n=ys.length)
  (g:∀x,(enc x).length=sz) (z:∀x,iX (enc x)=true) (A:zero.length=sz) (hb:xs.length+ys.length<=140737488355328/\(xs.length+ys.length)*bytes<=140737488355328)
  (r:∀f c,h0<=c->Own h0 c sz enc f (xs++ys)->(∀b d,h b=some d->(∀a,l.base=some a->a.block≠b)->c b=some d)->K f c):bG j (λa k=>gv sz bytes zero l ⟨some a,n,n⟩ K k) h:=by
 subst u;refine uJ (h0:=h0) m q g λa k i y=> ?_;refine E0 (Hp.le_trans m i) (o.mono i) (y.rw g) g z A hb λf c t w s=>r f c t w λb d e v=>s b d (i b d e) v
end Lf
namespace Lf
open Go Go.Proofs Tryz
def dB {c d:Type} (R:c->d->Prop):List c->List d->Prop
 | [],[]=>True
 | a::l,b::m=>R a b/\dB R l m
 | _,_=>False
section
variable {α β:Type} {R S:α->β->Prop}
theorem dB.len :∀ {l:List α} {m:List β},dB R l m->l.length=m.length
 | [],[],_=>rfl
 | _::l,_::m,h=>by simp [dB.len h.2]
 | [],_::_,h=>h.elim
 | _::_,[],h=>h.elim
theorem dB.imp (hi:∀a b,R a b->S a b):∀ {l:List α} {m:List β},dB R l m->dB S l m
 | [],[],_=>trivial
 | _::_,_::_,h=>⟨hi _ _ h.1,dB.imp hi h.2⟩
 | [],_::_,h=>h.elim
 | _::_,[],h=>h.elim
theorem dB.get :∀ {l:List α} {m:List β} {i:Nat} {a:α},dB R l m->l[i]? =some a->∃b,m[i]? =some b/\R a b
 | [],_,_,_,_,e=>by simp at e
 | _::_,[],_,_,h,_=>h.elim
 | _::_,b::_,0,_,h,e=>by simp at e;subst e;exact ⟨b,rfl,h.1⟩
 | _::_,_::_,i+1,_,h,e=>by rw [List.getElem?_cons_succ] at e;obtain ⟨b,c,d⟩:=dB.get h.2 e;grind
theorem dB.get' :∀ {l:List α} {m:List β} {i:Nat} {b:β},dB R l m->m[i]? =some b->∃a,l[i]? =some a/\R a b
 | _,[],_,_,_,e=>by simp at e
 | [],_::_,_,_,h,_=>h.elim
 | a::_,_::_,0,_,h,e=>by simp at e;subst e;exact ⟨a,rfl,h.1⟩
 | _::_,_::_,i+1,_,h,e=>by rw [List.getElem?_cons_succ] at e;obtain ⟨b,c,d⟩:=dB.get' h.2 e;grind
theorem dB.app :∀ {l a:List α} {m b:List β},dB R l m->dB R a b->dB R (l++a) (m++b)
 | [],_,[],_,_,h=>h
 | _::_,_,_::_,_,h,c=>⟨h.1,dB.app h.2 c⟩
 | [],_,_::_,_,h,_=>h.elim
 | _::_,_,[],_,h,_=>h.elim
theorem dB.drop :∀ {l:List α} {m:List β} (n:Nat),dB R l m->dB R (l.drop n) (m.drop n)
 | _,_,0,h=>h
 | [],[],_+1,h=>h
 | _::_,_::_,n+1,h=>dB.drop n h.2
 | [],_::_,_+1,h=>h.elim
 | _::_,[],_+1,h=>h.elim
theorem dB.take :∀ {l:List α} {m:List β} (n:Nat),dB R l m->dB R (l.take n) (m.take n)
 | _,_,0,_=>trivial
 | [],[],_+1,h=>h
 | _::_,_::_,n+1,h=>⟨h.1,dB.take n h.2⟩
 | [],_::_,_+1,h=>h.elim
 | _::_,[],_+1,h=>h.elim
end
def kz (h:Hp) (q:bO) (p:eu):Prop:=q.Part=p.part/\∃a,nv h q.Code a/\a.map bE=p.code
abbrev FZ (h:Hp) (l:Sl) (a:List bO):Prop:=Rs h bV 2 l a
structure eo (h:Hp) (c:aw) (p:bd):Prop where
 labels:Us h c.bg p.labels
 table:Is h c.Table p.table
 fuel:c.Fuel=p.fuel
 lane:c.gy=p.lane
 ak:c.bR=p.ak
 log:c.Log=p.log
 procs:∃ps,FZ h c.aC ps/\dB (kz h) ps p.procs
section
variable {h h':Hp}
theorem kz.mono (e:h<=h') {q:bO} {p:eu} (a:kz h q p):kz h' q p:=by obtain ⟨b,f,c,d⟩:=a;exact ⟨b,f,Rw.mono e c,d⟩
theorem eo.mono (b:h<=h') {c:aw} {p:bd} (a:eo h c p):eo h' c p:=by obtain ⟨g,d,f⟩:=a.procs;exact ⟨Rw.mono b a.labels,Rw.mono b a.table,a.fuel,a.lane,a.ak,a.log,g,Rw.mono b d,f.imp λ_ _ e=>e.mono b⟩
end
section
variable {P:Program} {h:Hp}
theorem wI {n a b:Int} {Q:Bool->Hp->Prop} (c:Q (jG n a b) h):zyf P n a b Q h:=by unfold zyf;exact aE c
theorem JE {n lN:Int} {Q:Int->Hp->Prop} (a:Q (mb lN n) h):CA P n lN Q h:=by unfold CA;unfold mb at a;grind
def xy (part n:Int):Int:=if part=2 then nU 1 256 n else if part=3 then nU 1 64 n else if part=4 then nU 0 8 n else if part=5 then nU 0 4096 n else 0
theorem SD {part n:Int} {Q:Int->Hp->Prop} (c:Q (xy part n) h):zye prog part n Q h:=by
 unfold zye;unfold xy at c;have one:∀a b,Q (nU a b n) h->(if (!(jG n a b))=true then Q 2 h else Q 0 h):=λa b c=>by unfold nU at c;grind
 by_cases d:part=2
 ·rw [if_pos d] at c;rw [if_pos (by simpa using d)];exact Ka (wI (one 1 256 c))
 ·rw [if_neg d] at c;rw [if_neg (by simpa using d)];by_cases e:part=3
  ·rw [if_pos e] at c;rw [if_pos (by simpa using e)];exact Ka (wI (one 1 64 c))
  ·rw [if_neg e] at c;rw [if_neg (by simpa using e)];by_cases f:part=4
   ·rw [if_pos f] at c;rw [if_pos (by simpa using f)];exact Ka (wI (one 0 8 c))
   ·rw [if_neg f] at c;rw [if_neg (by simpa using f)];by_cases g:part=5
    ·rw [if_pos g] at c;rw [if_pos (by simpa using g)];exact Ka (wI (one 0 4096 c))
    grind
end
theorem Ca {h:Hp} {s:Sl} {a:List Int} {p:Int->Bool} {f:xB} {Q:Int->Hp->Prop} (r:Is h s a) (v:a.length<=1000000)
  (n:∀x∈a,∀(k:Hp) (K:Bool->Hp->Prop),h<=k->(∀d,h<=d->K (p x) d)->ig prog tb (.func (.func f.g) f.first f.captured) [.int .i64 x] aW K k)
  (q:∀i j,h<=j->(0<=i↔a.any p=true)->Q i j):Tj prog s f Q h:=by
 unfold Tj;have w:=r.1;refine au.intro (λi k=>h<=k/\0<=i/\i<=(a.length:Int)/\∀x∈a.take i.toNat,p x=false) (λi _=>(a.length-i).toNat) ⟨Hp.le_refl h,by omega,by omega,λx b=>by simp at b⟩ ?_;rintro i k ⟨c,m,hi,u⟩;by_cases l:i<(a.length:Int)
 ·rw [if_pos (fT)];refine Rs.get (sh:=ab .i64) (Rw.mono c r) (λ_=>rfl) (by omega) m l λx b=> ?_;refine n x (List.mem_of_getElem? b) k _ c λd o=> ?_;cases hp:p x with
  | true=>grind
  | false=>
   rw [iT,aI];refine ⟨⟨o,by omega,by omega,λy t=> ?_⟩,by omega⟩;have:(i+1).toNat=i.toNat+1:=by omega
   rw [this,List.take_add_one,b] at t;grind
 ·rw [if_neg (λe=>l (by grind))];refine q (-1) k c ⟨λe=>by omega,λe=> ?_⟩;obtain ⟨x,b,hp⟩:=List.any_eq_true.1 e;have:a.take i.toNat=a:=List.take_of_length_le (by omega);grind
theorem SF {s:Sl} {xs:List Int} {Q:Sl->Hp->Prop} {h:Hp} (r:Is h s xs) (j:xs.length<=1000000) (f:∀out b,h<=b->Bm h b out xs->Q out b):A6 prog s Q h:=by
 unfold A6;refine ⟨s.base.isNone,MP (bW.cm 23 rH rfl) s,?_⟩;cases hb:s.base with
 | none=>
  rw [if_pos (show (none:Option Addr).isNone=true from rfl)];have:xs=[]:=by
   rcases r.2.2 with e | ⟨a,i,_⟩
   ·grind
   grind
  subst this;exact f _ h (Hp.le_refl h) ⟨rfl,Nat.le_refl _,.inl ⟨rfl,rfl⟩⟩
 | some a=>
  rw [iT];refine uJ (xs:=([]:List Int)) (enc:=λx=>ba ((ab .i64).enc x)) (sz:=1) (Hp.le_refl h) rfl (λ_=>rfl) λa g c d=> ?_;refine E0 c d (Rw.mono c r) (λ_=>rfl) (λ_=>rfl) rfl ?_ λm b k l _=> ?_
  ·simp;omega
  grind
theorem aaF {h:Hp} {t:Sl} {xs:List Int} {n:Int} {Q:Option Addr->Int->Int->Hp->Prop} (r:Is h t xs) (C:1<=n) (E:n<=8) (A:xs≠ []) (F:xs.length<=64)
  (l:∀p i d,h<=d->Q p (if (xs.all λx=>jG x 0 (n-1))=false then 2 else 0) i d):MW prog t n Q h:=by
 unfold MW;have G:=r.1;have I:0<xs.length:=List.length_pos_iff.2 A;intro b ty y;have j:=lx (o:=.cells (#[Value.int .i64 n]) ty (0,0)) y;have a:aR (h.set b (.cells (#[Value.int .i64 n]) ty (0,0))) ⟨b,0,none⟩ [.int .i64 n]:=Ab (cs:=[Value.int .i64 n]);refine eB (sh:=ab .i64) n a ?_;refine ⟨n,λ_=>a,?_⟩;refine aE (aE ?_);rw [if_neg (by simp;omega),if_neg (by simp;omega)];have w:(xs.any λx=>decide (x<0) || decide (x>=n))= !(xs.all λx=>jG x 0 (n-1)):=by
  rw [Bool.eq_iff_iff];simp only [List.any_eq_true,Bool.not_eq_true',List.all_eq_false,Bool.or_eq_true,decide_eq_true_eq];constructor
  ·rintro ⟨x,m,hb⟩;exact ⟨x,m,by rw [dM];omega⟩
  ·rintro ⟨x,m,hb⟩;exact ⟨x,m,by rw [dM] at hb;omega⟩
 refine SI (f:=⟨LN, #[], #[.pointer (some ⟨b,0,none⟩)]⟩) (Ca (p:=λx=>decide (x<0) || decide (x>=n)) (Rw.mono j r) (by omega) (λx _ k K s v=> ?_) λi d c hi=> ?_)
 ·refine wT (g:=LN) rfl (zzi ?_);unfold zyh;refine ⟨n,λ_=>nr s a,aE (v k s)⟩
 ·dsimp only;rw [w] at hi;cases q:(xs.all λx=>jG x 0 (n-1)) with
  | false=>rw [q] at hi l;rw [if_pos (decide_eq_true (hi.2 rfl))];exact l none i d (Hp.le_trans j c)
  | true=>rw [q] at hi l;rw [if_neg (λe=>by grind)];refine eB (sh:=ab .i64) n (nr c a) ?_;refine IF (SF (Rw.mono (Hp.le_trans j c) r) (by omega) λout D u H=> ?_);refine ⟨⟨nr (Hp.le_trans c u) a,trivial⟩,?_⟩;intro B t2 z;exact l _ 0 _ (Hp.le_trans (Hp.le_trans j c) (Hp.le_trans u (lx z)))
def nJ :List Int->Int->Int×Int->Int×Int
 | [],_,z=>z
 | n::r,i,z=>if xy i n≠0 then (xy i n,i) else nJ r (i+1) z
def rB (c:bd):Int×Int:=if c.procs=[] then (1,6) else if 32<c.procs.length then (3,6) else ug c.labels.length c.ak c.procs 0
theorem SH (m:Int) (c:bd):uq m c=if m≠0 then (m,0) else if c.table=[] then (1,1) else if 64<c.table.length then (3,1)
  else if (c.table.all λp=>jG p 0 (c.labels.length-1))=false then (2,1) else nJ [0,0,c.fuel,c.lane,c.ak,c.log] 0 (rB c):=by
 unfold uq;have a:xy 0 0=0:=rfl;have b:xy (0+1) 0=0:=rfl;have d:xy (0+1+1) c.fuel=nU 1 256 c.fuel:=rfl;have e:xy (0+1+1+1) c.lane=nU 1 64 c.lane:=rfl;have f:xy (0+1+1+1+1) c.ak=nU 0 8 c.ak:=rfl;have g:xy (0+1+1+1+1+1) c.log=nU 0 4096 c.log:=rfl;simp only [nJ,a,b,d,e,f,g,ne_eq,not_true_eq_false,if_false];unfold nU rB;grind
def fq (c:bd):Int×Int:=uq (jf c.labels).1 c
theorem LG {h:Hp} {c:aw} {p:bd} {Q:Int->Int->Hp->Prop} (a:eo h c p) (b:∀z,h<=z->Q (fq p).1 (fq p).2 z):C3 prog c Q h:=by
 unfold C3;have le:=Hp.le_refl h;unfold fq at b;rw [SH] at b;refine zvr (E8 a.labels ?_);dsimp only;by_cases m:(jf p.labels).1≠0
 ·grind
 rw [if_neg m] at b;rw [if_neg (by simpa using m)];obtain ⟨N,b0,_⟩:=iG.1 (Classical.not_not.1 m);have P:=a.labels.1;have T:=a.table.1;have b1:0<p.labels.length:=List.length_pos_iff.2 N;refine IX (JE ?_);by_cases g:p.table=[]
 ·rw [if_pos g] at b;have e:mb 64 (c.Table.len:Int)=1:=by unfold mb;rw [if_pos (by rw [T,g];rfl)]
  grind
 rw [if_neg g] at b;have b3:0<p.table.length:=List.length_pos_iff.2 g;by_cases A:64<p.table.length
 ·rw [if_pos A] at b;have e:mb 64 (c.Table.len:Int)=3:=by unfold mb;rw [om,if_pos (by omega)]
  grind
 rw [if_neg A] at b;have e:mb 64 (c.Table.len:Int)=0:=by unfold mb;omega
 rw [e,if_neg (by simp)];rw [P];refine IZ (aaF a.table (by omega) (by omega) g (by omega) λsp si B Z=> ?_);dsimp only;by_cases L:(p.table.all λx=>jG x 0 (p.labels.length-1))=false
 ·grind
 rw [if_neg L] at b;rw [if_neg (by grind)];refine uJ (h0:=B) (xs:=([0,0,p.fuel,p.lane,p.ak,p.log]:List Int)) (enc:=λx=>ba ((ab .i64).enc x)) (sz:=1) (Hp.le_refl B) (by rw [a.fuel,a.lane,a.ak,a.log];rfl) (λ_=>rfl) λy C a8 o4=> ?_;have r4:Is C ⟨some y,6,6⟩ [0,0,p.fuel,p.lane,p.ak,p.log]:=o4.rw λ_=>rfl;have a9:=Hp.le_trans Z a8;obtain ⟨w,H,F⟩:=a.procs;have R:=H.1;have S:=F.len;refine au.intro (λi k=>C<=k/\0<=i/\i<=6/\nJ (([0,0,p.fuel,p.lane,p.ak,p.log]:List Int).drop i.toNat) i (rB p)=nJ [0,0,p.fuel,p.lane,p.ak,p.log] 0 (rB p)) (λi _=>(6-i).toNat) ⟨Hp.le_refl _,by omega,by omega,rfl⟩ ?_;rintro i k ⟨t,h0,hi,d⟩;have O:=Hp.le_trans a9 t;by_cases o:i<6
 ·rw [if_pos (decide_eq_true o)];refine Rs.get (sh:=ab .i64) (l:=⟨some y,6,6⟩) (Rw.mono t r4) (λ_=>rfl) (by omega) h0 (by simpa using o) λx I=> ?_;refine Ua (SD ?_);have s:([0,0,p.fuel,p.lane,p.ak,p.log]:List Int).drop i.toNat=x::([0,0,p.fuel,p.lane,p.ak,p.log]:List Int).drop (i.toNat+1):=by grind
  rw [s,nJ] at d;by_cases f:xy i x≠0
  ·grind
  ·rw [if_neg f] at d;rw [if_neg (by simpa using f),aI];refine ⟨⟨t,by omega,by omega,?_⟩,by omega⟩;have:(i+1).toNat=i.toNat+1:=by omega
   grind
 ·rw [if_neg (λe=>o (of_decide_eq_true e))];have:i=6:=by omega
  subst this;rw [show ([0,0,p.fuel,p.lane,p.ak,p.log]:List Int).drop (6:Int).toNat=[] from rfl,nJ] at d;rw [<-d] at b;unfold rB at b;refine IX (JE ?_);by_cases f:p.procs=[]
  ·rw [if_pos f] at b;have e:mb 32 (c.aC.len:Int)=1:=by unfold mb;rw [if_pos (by rw [R,S,f];rfl)]
   grind
  rw [if_neg f] at b;have b2:0<p.procs.length:=List.length_pos_iff.2 f;by_cases D:32<p.procs.length
  ·rw [if_pos D] at b;have e:mb 32 (c.aC.len:Int)=3:=by unfold mb;rw [om,if_pos (by omega)]
   grind
  rw [if_neg D] at b;have e:mb 32 (c.aC.len:Int)=0:=by unfold mb;omega
  rw [e,if_neg (by simp)];refine au.intro (λi J=>k<=J/\0<=i/\i<=(w.length:Int)/\ug p.labels.length p.ak (p.procs.drop i.toNat) i=ug p.labels.length p.ak p.procs 0) (λi _=>(w.length-i).toNat) ⟨Hp.le_refl _,by omega,by omega,rfl⟩ ?_;rintro i J ⟨G,h0,hi,d⟩;have u:=Hp.le_trans O G;by_cases E:i<(w.length:Int)
  ·rw [if_pos (fT)];refine Rs.get (sh:=bV) (Rw.mono u H) (λ_=>rfl) (by omega) h0 E λq I=> ?_;obtain ⟨v,V,W,is,M,U⟩:=F.get I;have s:p.procs.drop i.toNat=v::p.procs.drop (i.toNat+1):=by obtain ⟨b4,X⟩:=List.getElem?_eq_some_iff.1 V;rw [<-X];simp
   rw [s,ug] at d;rw [wrap64 (n:=(p.labels.length:Int)-1) (by omega) (by omega)];refine Ka (wI ?_);rw [W];by_cases r:jG v.part 0 ((p.labels.length:Int)-1)=false
   ·rw [if_pos r] at d;rw [if_pos (by rw [r];rfl),aI];grind
   rw [if_neg r] at d;rw [if_neg (by grind)];refine YK (QL (Rw.mono u M) λY K=> ?_);dsimp only;rw [U,a.ak];by_cases j:(jq v.code p.ak).1≠0
   ·rw [if_pos j] at d;rw [if_pos (by simpa using j),aI];rw [<-d] at b;exact b Y (Hp.le_trans u K)
   ·rw [if_neg j] at d;rw [if_neg (by simpa using j),aI];refine ⟨⟨Hp.le_trans G K,by omega,by omega,?_⟩,by omega⟩;grind
  ·rw [if_neg (λe=>E (by have:=of_decide_eq_true e;omega))];rw [List.drop_eq_nil_of_le (by omega),ug] at d;grind
theorem aaG {x:dF} {n a b:Int} (l:a<=b) (h:(j8 x n a).1=0):(j8 x n b).1=0:=by
 unfold j8 at h ⊢;by_cases g:x.op<0\/34<=x.op
 ·rw [if_pos g] at h;cases h
 rw [if_neg g] at h ⊢;by_cases d:fg (jh x.op).1 x.a≠0
 ·rw [if_pos d] at h;exact absurd h d
 rw [if_neg d] at h ⊢;by_cases e:fg (jh x.op).2.1 x.b≠0
 ·rw [if_pos e] at h;exact absurd h e
 rw [if_neg e] at h ⊢;by_cases f:fg (jh x.op).2.2.1 x.c≠0
 ·rw [if_pos f] at h;exact absurd h f
 rw [if_neg f] at h ⊢;by_cases i:(jh x.op).2.2.2=false/\x.kf≠0
 ·rw [if_pos i] at h;cases h
 rw [if_neg i] at h ⊢;by_cases j:(x.op=22\/x.op=23)/\(x.kf<0\/n<x.kf)
 ·rw [if_pos j] at h;cases h
 rw [if_neg j] at h ⊢;by_cases k:(x.op=29\/x.op=30)/\(x.kf<0\/a<=x.kf)
 ·rw [if_pos k] at h;cases h
 rw [om]
def pB (x:bp):ly:=⟨x.bT,x.cS⟩
def uU (x:dw):uh:=⟨x.di,x.bT,x.cS⟩
abbrev Ga (h:Hp) (l:Sl) (a:List bp):Prop:=Rs h aF 2 l a
abbrev FR (h:Hp) (l:Sl) (a:List dw):Prop:=Rs h du 3 l a
structure kr (h:Hp) (x:cd) (p:br):Prop where
 values:Is h x.dm p.values
 waiters:∃ws,Ga h x.bB ws/\ws.map pB=p.waiters
 taken:x.jk=p.taken
 dropped:x.fM=p.dropped
structure dV (h:Hp) (x:bh) (p:ai):Prop where
 state:x.State=p.state
 pc:x.PC=p.pc
 aO: [x.cD,x.cE,x.cF,x.cG,x.cH,x.cI,x.cJ,x.cK]=p.aO
 ag:x.Cursor=p.ag
 timer:x.Timer=p.timer
 bK:x.gx=p.bK
 cp:x.jl=p.cp
 ae:∃ls,Rs h bD 4 x.cC ls/\dB (kr h) ls p.ae
structure gR (h:Hp) (x:bS) (p:cR):Prop where
 ag:x.Cursor=p.ag
 log:∃es,FR h x.Log es/\es.map uU=p.log
 lost:x.lJ=p.lost
 forbidden:x.eD=p.forbidden
 av:Is h x.bN p.av
 ah:∃qs,Rs h af 1 x.bI qs/\dB (Is h) qs p.ah
structure cW (h:Hp) (x:aB) (p:fe):Prop where
 tick:x.di=p.tick
 parts:∃ps,Rs h bQ 6 x.bt ps/\dB (gR h) ps p.parts
 procs:∃ps,Rs h aN 15 x.aC ps/\dB (dV h) ps p.procs
section
variable {h h':Hp}
theorem kr.mono (b:h<=h') {x:cd} {p:br} (a:kr h x p):kr h' x p:=by obtain ⟨e,c,d⟩:=a.waiters;exact ⟨Rw.mono b a.values,⟨e,Rw.mono b c,d⟩,a.taken,a.dropped⟩
theorem dV.mono (b:h<=h') {x:bh} {p:ai} (a:dV h x p):dV h' x p:=by obtain ⟨f,c,d⟩:=a.ae;exact ⟨a.state,a.pc,a.aO,a.ag,a.timer,a.bK,a.cp,f,Rw.mono b c,d.imp λ_ _ e=>e.mono b⟩
theorem gR.mono (b:h<=h') {x:bS} {p:cR} (a:gR h x p):gR h' x p:=by obtain ⟨c,d,f⟩:=a.log;obtain ⟨qs,g,i⟩:=a.ah;exact ⟨a.ag,⟨c,Rw.mono b d,f⟩,a.lost,a.forbidden,Rw.mono b a.av,qs,Rw.mono b g,i.imp λ_ _ e=>Rw.mono b e⟩
theorem cW.mono (b:h<=h') {x:aB} {p:fe} (a:cW h x p):cW h' x p:=by obtain ⟨i,c,d⟩:=a.parts;obtain ⟨qs,f,g⟩:=a.procs;exact ⟨a.tick,⟨i,Rw.mono b c,d.imp λ_ _ e=>e.mono b⟩,qs,Rw.mono b f,g.imp λ_ _ e=>e.mono b⟩
end
structure ie (h:Hp) (a:aS) (c:bd) (s:fe):Prop where
 cfg:eo h ⟨a.dG,a.fO,a.ja,a.gV,a.fN,a.iI,a.bZ⟩ c
 st:cW h ⟨a.jg,a.fP,a.cM⟩ s
 tab:∃t,a.t=some t/\rW h t c.labels
 ok:(fq c).1=0
 gP:Ao c s
 Fw:∀x∈c.labels,lW x
theorem ie.mono {h d:Hp} (b:h<=d) {a:aS} {c:bd} {s:fe} (k:ie h a c s):ie d a c s:=by obtain ⟨t,e,f⟩:=k.tab;exact ⟨k.cfg.mono b,k.st.mono b,⟨t,e,f.mono b⟩,k.ok,k.gP,k.Fw⟩
section
variable {h:Hp} {a:aS} {c:bd} {s:fe}
theorem ie.bounds (k:ie h a c s):(1<=c.labels.length/\c.labels.length<=8)/\(0<=c.ak/\c.ak<=8)/\(0<=c.log/\c.log<=4096)/\(1<=c.lane/\c.lane<=64)/\(1<=c.procs.length/\c.procs.length<=32)/\
  ∀p∈c.procs,(0<=p.part/\p.part<=c.labels.length-1)/\p.code.length<=256/\∀x∈p.code,(j8 x p.code.length c.ak).1=0:=by
 obtain ⟨e,m,n,o,q,g,d,i,j,f,b⟩:=jm.1 k.ok;obtain ⟨l,r,t⟩:=iG.1 e;have:=List.length_pos_iff.2 l;have:=List.length_pos_iff.2 j;refine ⟨⟨by omega,by omega⟩,d,i,g,⟨by omega,f⟩,λp hp=>⟨(b p hp).1,(Df d).1 (b p hp).2⟩⟩
theorem PJ {P:Program} {n:Int} {Q:Bool->Hp->Prop} (d:∀b,(b=true↔fF n)->Q b h):zts P n Q h:=by unfold zts;exact aE (d _ (by simp [fF]))
theorem Ey {P:Program} {n:Int} {Q:Bool->Hp->Prop} (d:∀b,(b=true↔n≠5/\n≠6)->Q b h):KN P n Q h:=by unfold KN;exact aE (d _ (by simp))
theorem zi {P:Program} (k:ie h a c s) {p:Int} {i:Nat} {Q:Bool->Hp->Prop} (l:∀b,(b=true↔jR c p i)->Q b h):Yr P a p (i:Int) Q h:=by
 unfold Yr;obtain ⟨r,f,d⟩:=k.cfg.procs;have u:a.bZ.len=r.length:=f.1;refine aE ?_;refine Rw.pf f (λ_=>rfl) (by omega) (sh:=ab .i64) (λq=>q.Part) (λ_=>rfl) (0:Int) (λe=>by simp at e;omega) λx n=> ?_;refine aE (l _ ?_);unfold jR;constructor
 ·intro e;simp only [Bool.and_eq_true,decide_eq_true_eq,beq_iff_eq] at e;obtain ⟨q,g,m⟩:=n (by simp;omega);obtain ⟨y,j,o,_⟩:=d.get g;grind
 ·rintro ⟨t,y,j,o⟩;obtain ⟨q,g,m,_⟩:=d.get' j;grind
theorem QM {P:Program} (k:ie h a c s) {i:Nat} {Q:Int->Hp->Prop} (r:Q (jz c i:Int) h):WM P a (i:Int) Q h:=by
 unfold WM;obtain ⟨b,m,g⟩:=k.cfg.procs;have A:a.bZ.len=b.length:=m.1;have B:=g.len;obtain ⟨-, -, -, -,w, -⟩:=k.bounds;have p:∀j:Nat,((c.procs.take j).filter λy=>decide (y.part=(i:Int))).length<=j:=λj=>by grind
 refine bq.intro (λn j d=>d=h/\0<=j/\j<=(b.length:Int)/\n=(((c.procs.take j.toNat).filter λy=>decide (y.part=(i:Int))).length:Int)) (λ_ j _=>(b.length-j).toNat) ⟨rfl,by omega,by omega,rfl⟩ ?_;rintro n j d ⟨rfl,o,z,rfl⟩;by_cases l:j<(b.length:Int)
 ·rw [if_pos (fT)];refine bH.intro (λn f=>f=d/\n=(((c.procs.take (j.toNat+1)).filter λy=>decide (y.part=(i:Int))).length:Int)) ?_ ?_
  ·refine Rs.get (sh:=bV) m (λ_=>rfl) (by omega) o l λq t=> ?_;obtain ⟨y,u,v,_⟩:=g.get t;rw [List.take_add_one,u,List.filter_append];have x:=p j.toNat;by_cases hp:y.part=(i:Int)
   ·rw [if_pos (by rw [v];simpa using hp)];refine ⟨rfl,?_⟩;rw [aI];simp [hp]
   grind
  ·rintro n f ⟨rfl,rfl⟩;rw [aI];grind
 ·rw [if_neg (λe=>l (by grind))];rw [List.take_of_length_le (by omega)];exact r
theorem DW {P:Program} (k:ie h a c s) {p:Int} {x:ai} {y:eu} (b:0<=p) (u:s.procs[p.toNat]? =some x) (v:c.procs[p.toNat]? =some y) {Q:aZ->Hp->Prop}
  (f:∀n:aZ,(ff y x.pc=some (bE n)\/(ff y x.pc=none/\n=⟨-1,0,0,0,0⟩))->Q n h):XC P a p Q h:=by
 unfold XC;obtain ⟨A,e,r⟩:=k.cfg.procs;obtain ⟨B,j,t⟩:=k.st.procs;have E:a.bZ.len=A.length:=e.1;have F:a.cM.len=B.length:=j.1;obtain ⟨q,i,I,o,d,G⟩:=r.get' v;obtain ⟨z,m,w⟩:=t.get' u;have J:=(List.getElem?_eq_some_iff.1 i).1;have K:=(List.getElem?_eq_some_iff.1 m).1;refine Rw.mh e (λ_=>rfl) (by omega) (sh:=af) (λq=>q.Code) (λ_=>rfl) b (by omega) λL g=> ?_;rw [i] at g;cases g;refine Rw.mh j (λ_=>rfl) (by omega) (sh:=ab .i64) (λq=>q.PC) (λ_=>rfl) b (by omega) λM l=> ?_;rw [m] at l;cases l;dsimp only;rw [w.pc];have D:=d.1;have C:o.length=y.code.length:=by grind
 refine aE ?_;by_cases hb:x.pc<0\/(o.length:Int)<=x.pc
 ·rw [if_pos (by simp;omega)];refine f _ (.inr ⟨?_,rfl⟩);unfold ff;grind
 ·rw [if_neg (by simp;omega)];refine kV (sh:=aU) d λn H=> ?_;refine f n (.inl ?_);unfold ff;grind
theorem zj (k:ie h a c s) {p:Int} {x:ai} {y:eu} (f:0<=p) (i:s.procs[p.toNat]? =some x) (j:c.procs[p.toNat]? =some y) {Q:Int->Hp->Prop}
  (g:∀n:Int,(∀m,0<=m->(n=m↔∃z,ff y x.pc=some z/\z.op=m))->Q n h):Yt prog a p Q h:=by
 unfold Yt;refine VM (DW k f i j λn b=>g _ λm l=> ?_);rcases b with b | ⟨b,rfl⟩
 ·rw [b];constructor
  ·intro e;exact ⟨_,rfl,e⟩
  ·rintro ⟨z,e,d⟩;cases e;exact d
 grind
end
theorem ju {a:Type} {c:Bool} {A:(a->Hp->Prop)->Hp->Prop} {K:a->Hp->Prop} {h:Hp} (p:a->Prop) (f:a) (g:c=true->(∀x,p x->K x h)->A K h) (d:∀x,(c=true->p x)->K x h):bX (some c) A K h:=
 ⟨λb=>g b λx hp=>d x λ_=>hp,λb=>⟨f,d f λe=>by grind⟩⟩
theorem mE {sh:Shape} {c:Bool} {h:Hp} {a:Addr} {K:sh.T->Prop} (x:sh.T) (d:aR h a (ba (sh.enc x))) (b:K x):aD (some c) sh h a K:=⟨x,λ_=>d,b⟩
theorem BI {h:Hp} {cs:List Value} {K:Addr->Hp->Prop} (c:∀b a,h<=a->fb a b cs->K ⟨b,0,none⟩ a):bG cs K h:=λb t d=>c b _ (lx d) ⟨t,kK⟩
def CM (a:aS):List Value:=[a.dG.v,a.fO.v,(.int .i64 a.ja),(.int .i64 a.gV),(.int .i64 a.fN),(.int .i64 a.iI),a.bZ.v,(.int .i64 a.jg),a.fP.v,a.cM.v,(.pointer a.t)]
section
variable {h:Hp} {a:aS} {c:bd} {s:fe}
theorem aaI (k:ie h a c s) {i:Nat} {p:Int} {a1 a2:Addr} {Q:Bool->Hp->Prop} (w:aR h a1 (CM a)) (I:aR h a2 [.int .i64 (i:Int)])
  (B:∀b,(b=true↔¬(p≠ -1->jR c p i/\qE s p λz=>z.state≠5/\z.state≠6))->Q b h):VI prog p a1 a2 Q h:=by
 unfold VI;refine mE (sh:=bn) a w (mE (sh:=ab .i64) (i:Int) I ?_);refine ju (λb=>b=true↔jR c p i) false (λ_ m=>OP (zi k m)) λr d=> ?_;obtain ⟨J,C,o⟩:=k.st.procs;have M:s.procs.length=c.procs.length:=k.gP.2.2;have N:=o.len;have l:((p !=(-1:Int))&&(!(!r)))=true->0<=p/\p<(J.length:Int):=λe=>by simp at e;obtain ⟨L,y,O,_⟩:=(d (by simpa using e.1)).1 e.2;grind
 refine mE (sh:=af) a.cM (λj v hv=> ?_) ?_
 ·cases j with
  | zero=>exact w 9 v (by simpa [CM,ba,af,Sl.v] using hv)
  | succ j=>simp [ba,af,Sl.v] at hv
 refine Rw.pf C (λ_=>rfl) (by omega) (sh:=ab .i64) (λq=>q.State) (λ_=>rfl) (0:Int) l λx n=> ?_;refine ju (λb=>b=true↔x≠5/\x≠6) false (λ_ m=>Fz (Ey m)) λS f=> ?_;refine aE (aE (B _ ?_));by_cases hp:p= -1
 ·subst hp;simp
 ·have d:=d (by simpa using hp);have u:(p !=(-1:Int))=true:=by simpa using hp
  rw [u,Bool.true_and];rw [u] at l n f;cases D:r with
  | false=>grind
  | true=>
   rw [D] at d l n f;have f:=f rfl;obtain ⟨z,E,H⟩:=n rfl;obtain ⟨K,F,G⟩:=o.get E;have A:=d.1 rfl;simp only [Bool.not_true,Bool.false_or,Bool.not_eq_true'];rw [<-Bool.not_eq_true,f,H,G.state];constructor
   ·intro t g;obtain ⟨_,T,P,R⟩:=g hp;grind
   ·intro t g;exact t λ_=>⟨A,K,F,g⟩
open Classical in
theorem QN (k:ie h a c s) {i:Nat} {x:cR} (hx:s.parts[i]? =some x) {Q:Bool->Hp->Prop} (D:∀b l,h<=l->(b=true↔tg c s i x)->Q b l):WG prog a (i:Int) Q h:=by
 unfold WG;refine BI (cs:=CM a) λb O b5 a8=>BI (cs:=[Value.int .i64 (i:Int)]) λH u S a9=> ?_;have B:=a8.le S;have E:aR u ⟨H,0,none⟩ [Value.int .i64 (i:Int)]:=a9.fw (off:=0) (n:=1) rfl;have w:=Hp.le_trans b5 S;have G:=k.mono w;obtain ⟨ps,b8,b0⟩:=G.st.parts;obtain ⟨y,V,t⟩:=b0.get' hx;have d6:=(List.getElem?_eq_some_iff.1 V).1;obtain ⟨-,⟨c6,c7⟩,⟨c4,c5⟩, -,⟨c8,c9⟩, -⟩:=k.bounds;obtain ⟨A,R,d1⟩:=t.log;have d0:y.Log.len=A.length:=R.1;have d2:y.bN.len=x.av.length:=t.av.1;obtain ⟨qs,b9,b1⟩:=t.ah;have d3:y.bI.len=qs.length:=b9.1;have d4:=b1.len;have d5:x.log.length=A.length:=by grind
 have b3:a.iI=c.log:=k.cfg.log;have b2:a.fN=c.ak:=k.cfg.ak;have c1:a.jg=s.tick:=k.st.tick;have M:aR u ⟨b,0,none⟩ (ba (bn.enc a)):=B.fw (off:=0) (n:=11) rfl;have X:∀l:Hp,u<=l->aR l ((Addr.add (Addr.add ⟨b,0,none⟩ 0) 5)) (ba ((ab .i64).enc a.iI)):=λl J=>nr J (B.fw (off:=5) (n:=1) rfl);have W:∀l:Hp,u<=l->aR l ((Addr.add (Addr.add ⟨b,0,none⟩ 0) 4)) (ba ((ab .i64).enc a.fN)):=λl J=>nr J (B.fw (off:=4) (n:=1) rfl);have c2:aR u ((Addr.add (Addr.add ⟨b,0,none⟩ 7) 0)) (ba ((ab .i64).enc a.jg)):=B.fw (off:=7) (n:=1) rfl;refine eB (sh:=af) a.fP (B.fw (off:=8) (n:=1) rfl) ?_;refine eB (sh:=ab .i64) (i:Int) E ?_;refine kV (sh:=bQ) b8 λy' F=> ?_;have F:ps[i]? =some y':=F;rw [V] at F;cases F;refine mE (sh:=bn) a M (mE (sh:=ab .i64) (i:Int) E ?_);refine ju (λn=>n=(jz c i:Int)) 0 (λ_ o=>zyu (QM G (o _ rfl))) λ(r:Int) hr=> ?_;refine ⟨⟨trivial,trivial⟩,aE (aE (mE (sh:=ab .i64) a.iI (X _ (Hp.le_refl _)) (aE ?_)))⟩;rw [t.ag] at hr ⊢;have P:(((decide (x.ag<(0:Int))) || ((decide (x.ag>(0:Int)))&&(decide (x.ag>=r)))) || (decide (((y.Log.len:Nat):Int)>a.iI)))=true↔¬(0<=x.ag/\(0<x.ag->x.ag<jz c i)/\(x.log.length:Int)<=c.log):=by grind
 by_cases C:0<=x.ag/\(0<x.ag->x.ag<jz c i)/\(x.log.length:Int)<=c.log
 ·rw [if_neg (λe=>P.1 e C)];have c3:=C.2.2;refine bq.intro (λlast j l=>l=u/\0<=j/\j<=(A.length:Int)/\(qc c s i 0 x.log↔qc c s i last (x.log.drop j.toNat))) (λ_ j _=>(A.length-j).toNat) ⟨rfl,by omega,by omega,by simp⟩ ?_;rintro last j h4 ⟨rfl,Z,hj,v⟩;by_cases T:j<(A.length:Int)
  ·rw [if_pos (fT)];refine Rs.get (sh:=du) R (λ_=>rfl) (by omega) Z T λe he=> ?_;have I:x.log.drop j.toNat=uU e::x.log.drop (j.toNat+1):=by
    have O:j.toNat<x.log.length:=by omega
    rw [List.drop_eq_getElem_cons O];grind
   rw [I] at v;refine mE (sh:=ab .i64) a.jg c2 (aE (mE (sh:=bn) a M (mE (sh:=ab .i64) (i:Int) E ?_)));refine ju (λb=>b=true↔jR c e.bT i) false (λ_ o=>OP (zi G o)) λN q=>aE ?_;rw [c1] at q ⊢;by_cases L:last<=e.di/\e.di<s.tick
   ·have c0:((decide (e.di<last)) || (decide (e.di>=s.tick)))=false:=by simp;omega
    rw [c0] at q ⊢;have q:=q rfl;cases N with
    | true=>
     rw [iT,aI];refine ⟨⟨rfl,by omega,by omega,?_⟩,by omega⟩;have:(j+1).toNat=j.toNat+1:=by omega
     rw [this,v];exact ⟨λd=>d.2.2.2,λd=>⟨L.1,L.2,q.1 rfl,d⟩⟩
    | false=>rw [if_pos (by simp)];refine D _ _ w ⟨λe=>(by cases e),λd=> ?_⟩;exact absurd (q.2 (v.1 d.2.1).2.2.1) (by simp)
   ·rw [if_pos (by simp;omega)];refine D _ _ w ⟨λe=>(by cases e),λd=> ?_⟩;have:=v.1 d.2.1;exact absurd ⟨this.1,this.2.1⟩ L
  ·rw [if_neg (λe=>T (by grind))];have b7:x.log.drop j.toNat=[]:=List.drop_eq_nil_iff.2 (by omega);rw [b7] at v;have b6:qc c s i 0 x.log:=v.2 trivial;refine O1 (PJ λN q=> ?_);refine ju (λb=>b=true↔fF y.eD) false (λ_ o=>O1 (PJ o)) λr2 U=>aE ?_;refine mE (sh:=ab .i64) a.iI (X _ (Hp.le_refl _)) (aE (aE (mE (sh:=ab .i64) a.fN (W _ (Hp.le_refl _)) (aE (mE (sh:=ab .i64) a.fN (W _ (Hp.le_refl _)) (aE ?_))))));rw [t.lost] at q ⊢;rw [t.forbidden] at U;rw [b3,b2];by_cases m:fF x.lost/\fF x.forbidden/\(0<x.lost->c.log<=x.log.length)/\(x.av.length:Int)=c.ak/\(x.ah.length:Int)=c.ak
   ·have Y:N=true:=q.2 m.1;have e2:r2=true:=(U (by simp [Y])).2 m.2.1;have h3:=m.2.2;rw [if_neg (by grind)];refine zph (f:=⟨ON, #[], #[.pointer (some ⟨b,0,none⟩),.pointer (some ⟨H,0,none⟩)]⟩) ?_;unfold ziv;refine SI (f:=⟨ON, #[], #[.pointer (some ⟨b,0,none⟩),.pointer (some ⟨H,0,none⟩)]⟩) (Ca (p:=λp=>decide (¬(p≠ -1->jR c p i/\qE s p λz=>z.state≠5/\z.state≠6))) t.av (by omega) (λz _ kk K o hK=> ?_) λn l b4 hi=> ?_)
    ·refine wT (g:=ON) rfl (zvu ?_);refine aaI (G.mono o) (i:=i) (nr o M) (nr o E) λb hb=> ?_;grind
    ·refine D _ l (Hp.le_trans w b4) ?_;have hb:(!(decide (n>=0)))=true↔¬(0<=n):=by simp
     refine Iff.trans hb ?_;rw [hi,List.any_eq_true];constructor
     ·intro d;refine ⟨C,b6,m.1,m.2.1,m.2.2.1,m.2.2.2.1,m.2.2.2.2,λp hp=> ?_⟩;grind
     ·rintro d ⟨p,hp,I⟩;exact (of_decide_eq_true I) (d.2.2.2.2.2.2.2 p hp)
   ·rw [if_pos ?_]
    ·refine D _ _ w ⟨λe=>(by cases e),λd=> ?_⟩;exact absurd ⟨d.2.2.1,d.2.2.2.1,d.2.2.2.2.1,d.2.2.2.2.2.1,d.2.2.2.2.2.2.1⟩ m
    grind
 ·rw [if_pos (P.2 C)];exact D _ _ w ⟨λe=>(by cases e),λd=>absurd d.1 C⟩
end
def tf (c:bd) (part:Int) (i:Nat) (l:br):Prop:=(l.values.length:Int)<=c.lane/\fF l.taken/\fF l.dropped/\(lL l->i<c.labels.length->fl c.labels (i:Int) part=true)
section
variable {h:Hp} {a:aS} {c:bd} {s:fe}
theorem QO (k:ie h a c s) {p:Nat} {x:ai} {y:eu} (E:s.procs[p]? =some x) (F:c.procs[p]? =some y) {Q:Bool->Hp->Prop}
  (m:∀b,(b=true↔mT c s (λ(i:Nat) q=>fl c.labels (i:Int) q=true) x y)->Q b h):WJ prog a (p:Int) Q h:=by
 unfold WJ;obtain ⟨ps,d2,c1⟩:=k.cfg.procs;obtain ⟨qs,d5,c2⟩:=k.st.procs;obtain ⟨⟨f0,f4⟩, -, -,⟨e7,e8⟩,⟨f5,f6⟩, -⟩:=k.bounds;obtain ⟨⟨f7,f8⟩, -, -⟩:=k.gP;obtain ⟨q,d3,d4,is,c5,d1⟩:=c1.get' F;obtain ⟨z,c0,g⟩:=c2.get' E;have l1:=(List.getElem?_eq_some_iff.1 d3).1;have l2:=(List.getElem?_eq_some_iff.1 c0).1;obtain ⟨U,b6,b1⟩:=g.ae;have c9:z.cC.len=U.length:=b6.1;have d0:=b1.len;have b5:a.dG.len=c.labels.length:=k.cfg.labels.1;have c3:q.Code.len=y.code.length:=by rw [<-d1,List.length_map];exact c5.1
 have e5:a.jg=s.tick:=k.st.tick;have c7:a.gV=c.lane:=k.cfg.lane;obtain ⟨t,d9,e0⟩:=k.tab;refine kV (sh:=aN) d5 λz' T=> ?_;have T:qs[p]? =some z':=T;rw [c0] at T;cases T;have d6:=Rs.get (sh:=bV) d2 (λ_=>rfl) (by omega) (i:=(p:Int)) (by omega) (by omega) (K:=λv=>v=q) λq' g6=>by grind
 obtain ⟨c4,v,hv,rfl⟩:=d6;refine ⟨c4,v,hv,?_⟩;have e9:¬((0<=x.state/\x.state<=6)/\(0<=x.pc/\x.pc<=y.code.length)/\x.ae.length=c.labels.length+1/\(0<=x.ag/\x.ag<x.ae.length))->Q false h:=λf=>m _ ⟨λe=>(by cases e),λd=>absurd ⟨d.1,d.2.1,d.2.2.1,d.2.2.2.1⟩ f⟩;refine ⟨⟨trivial,hv,trivial⟩,?_⟩;refine bH.intro (λt A=>A=h/\(t=true↔¬((0<=x.state/\x.state<=6)/\(0<=x.pc/\x.pc<=y.code.length)/\x.ae.length=c.labels.length+1/\(0<=x.ag/\x.ag<x.ae.length)))) ?_ ?_
 ·refine aE ?_;rw [g.state];by_cases hb:0<=x.state/\x.state<=6
  ·rw [if_neg (by simp;omega)];refine aE ?_;rw [g.pc,c3];by_cases B:0<=x.pc/\x.pc<=y.code.length
   ·rw [if_neg (by simp;omega)];rw [b5,aI,c9,d0];by_cases b2:x.ae.length=c.labels.length+1
    ·rw [if_neg (by simp;omega)];refine aE ⟨rfl,?_⟩;rw [g.ag];simp only [Bool.or_eq_true,decide_eq_true_eq];constructor
     ·intro e d;omega
     ·intro f;refine Classical.byContradiction λf9=>f ⟨hb,B,b2,by omega⟩
    ·rw [if_pos (by simp;omega)];exact ⟨rfl,⟨λ_ d=>b2 d.2.2.1,λ_=>by simp;omega⟩⟩
   ·rw [if_pos (by simp;omega)];exact ⟨rfl,⟨λ_ d=>B d.2.1,λ_=>by simp;omega⟩⟩
  grind
 ·rintro t0 h1 ⟨rfl,d8⟩;by_cases b3:t0=true
  ·grind
  rw [if_neg b3];have N:=Classical.not_not.1 λf=>b3 (d8.2 f);refine bH.intro (λt A=>A=h1/\(t=true↔¬((0<=x.timer/\x.timer<=s.tick+1099511627776)/\(0<=x.cp/\x.cp<=s.tick+1099511627776)/\(0<x.cp↔x.state=4)))) ?_ ?_
  ·refine aE ?_;rw [g.timer,g.cp,g.state,e5,aI];by_cases hb:0<=x.timer/\x.timer<=s.tick+1099511627776
   ·rw [if_neg (by simp;omega)];refine aE ?_;by_cases B:0<=x.cp/\x.cp<=s.tick+1099511627776
    ·rw [if_neg (by simp;omega)];refine ⟨rfl,?_⟩;by_cases hw:0<x.cp<;>by_cases hs:x.state=4<;>simp [hw,hs,hb,B]
    ·rw [if_pos (by simp;omega)];exact ⟨rfl,⟨λ_ d=>B d.2.1,λ_=>by simp;omega⟩⟩
   grind
  ·rintro t2 M ⟨rfl,b8⟩;by_cases R:t2=true
   ·rw [if_pos R];exact m _ ⟨λe=>(by cases e),λd=>absurd ⟨d.2.2.2.2.1,d.2.2.2.2.2.1,d.2.2.2.2.2.2.1⟩ (b8.1 R)⟩
   rw [if_neg R];have Z:=Classical.not_not.1 λf=>R (b8.2 f);refine Fz (Ey λr hr=> ?_);refine aE (aE ?_);rw [g.state] at hr;rw [g.timer,g.bK];have b0:((!r)&&((x.timer !=(0:Int)) || x.bK))=true↔¬(x.state=5\/x.state=6->x.timer=0/\x.bK=false):=by grind
   by_cases O:x.state=5\/x.state=6->x.timer=0/\x.bK=false
   ·rw [if_neg (λe=>b0.1 e O)];refine bq.intro (λsome_ j A=>A=M/\0<=j/\j<=(U.length:Int)/\(∀(i:Nat) l,(i:Int)<j->x.ae[i]? =some l->tf c y.part i l)/\(some_=true↔∃(i:Nat) (l:br),(i:Int)<j/\x.ae[i]? =some l/\l.values≠ [])) (λ_ j _=>(U.length-j).toNat)
     ⟨rfl,by omega,by omega,λi l hi=>by omega,⟨λe=>(by cases e),λ⟨i,l,hi,_⟩=>by omega⟩⟩ ?_
    rintro some_ j h4 ⟨rfl,h0,hj,hI,hS⟩;by_cases b7:j<(U.length:Int)
    ·rw [if_pos (fT)];refine Rs.get (sh:=bD) b6 (λ_=>rfl) (by omega) h0 b7 λL hL=> ?_;obtain ⟨l,b4,a8⟩:=b1.get hL;have e6:L.dm.len=l.values.length:=a8.values.1;refine aE (aE ?_);rw [e6,a8.taken,a8.dropped,c7,b5];refine ju (λb=>b=true↔fF l.taken) false (λ_ C=>O1 (PJ C)) λr1 S=>aE ?_;refine ju (λb=>b=true↔fF l.dropped) false (λ_ C=>O1 (PJ C)) λr2 D=>aE (aE ?_);refine ju (λb=>b=fl c.labels j y.part) false (λ_ C=> ?_) λr3 w=>aE (aE ?_)
     ·rw [d9,d4];exact zps (KH e0 k.Fw (C _ rfl))
     have c6:((j.toNat:Nat):Int)=j:=by omega
     have hu:((decide (((l.values.length:Nat):Int)>0) || decide (l.taken>0)) || decide (l.dropped>0))=true↔lL l:=by unfold lL;simp only [Bool.or_eq_true,decide_eq_true_eq,ne_eq,<-List.length_eq_zero_iff];omega
     have b9:(((decide (((l.values.length:Nat):Int)>c.lane) || !r1) || !r2) || ((((decide (((l.values.length:Nat):Int)>0) || decide (l.taken>0)) || decide (l.dropped>0))&&decide (j<((c.labels.length:Nat):Int)))&& !r3))=true↔¬tf c y.part j.toNat l:=by
      generalize ((decide (((l.values.length:Nat):Int)>0) || decide (l.taken>0)) || decide (l.dropped>0))=u at hu w ⊢;by_cases Y:((l.values.length:Nat):Int)<=c.lane
      ·have V:decide (((l.values.length:Nat):Int)>c.lane)=false:=by simp;omega
       rw [V] at S D w ⊢;have S:=S rfl;by_cases H:fF l.taken
       ·have W:=S.2 H;rw [W] at D w ⊢;have D:=D rfl;by_cases I:fF l.dropped
        ·have X:=D.2 I;rw [X] at w ⊢;simp only [Bool.false_or,Bool.not_true,Bool.or_false,Bool.not_false,Bool.true_and] at w ⊢;by_cases J:u=true/\j<(c.labels.length:Int)
         ·have G:(u&&decide (j<((c.labels.length:Nat):Int)))=true:=by rw [J.1,Bool.true_and];exact decide_eq_true J.2
          rw [w G,G,Bool.true_and,Bool.not_eq_true',<-Bool.not_eq_true];refine not_congr ⟨λe=>⟨Y,H,I,λ_ _=>by rw [c6];exact e⟩,λd=> ?_⟩;have:=d.2.2.2 (hu.1 J.1) (by omega);grind
         ·have G:(u&&decide (j<((c.labels.length:Nat):Int)))=false:=by rw [<-Bool.not_eq_true];intro e;rw [Bool.and_eq_true,decide_eq_true_eq] at e;exact J e
          rw [G];refine ⟨λe=>(by cases e),λf=>absurd ⟨Y,H,I,λhU o=> ?_⟩ f⟩;grind
        ·have X:r2=false:=by grind
         rw [X];exact ⟨λ_ d=>I d.2.2.1,λ_=>by simp⟩
       ·have W:r1=false:=by grind
        rw [W];exact ⟨λ_ d=>H d.2.1,λ_=>by simp⟩
      ·have V:decide (((l.values.length:Nat):Int)>c.lane)=true:=fT;rw [V];exact ⟨λ_ d=>Y d.1,λ_=>by simp⟩
     by_cases hg:tf c y.part j.toNat l
     ·rw [if_neg (λe=>b9.1 e hg)];rw [aI];refine aE ⟨⟨rfl,by omega,by omega,λi l' hi g5=> ?_,?_⟩,by omega⟩
      ·grind
      ·rw [Bool.or_eq_true,hS,decide_eq_true_eq];constructor
       ·grind
       ·rintro ⟨i,l',h1,M,h3⟩;by_cases g0:(i:Int)<j
        ·grind
        ·have:i=j.toNat:=by omega
         subst this;rw [b4] at M;cases M;have:=List.length_pos_iff.2 h3;omega
     ·rw [if_pos (b9.2 hg)];refine m _ ⟨λe=>(by cases e),λd=>absurd ?_ hg⟩;exact d.2.2.2.2.2.2.2.2.1 j.toNat l b4
    ·rw [if_neg (λe=>b7 (by have:=of_decide_eq_true e;omega))];have c8:∀(i:Nat) l,x.ae[i]? =some l->tf c y.part i l:=λi l o=>hI i l (by have:=(List.getElem?_eq_some_iff.1 o).1;omega) o;have d7:some_=false↔∀l∈x.ae,l.values=[]:=by
      rw [<-Bool.not_eq_true,hS];constructor
      ·intro f l o;obtain ⟨i,hi⟩:=List.getElem?_of_mem o;exact Classical.byContradiction λa9=>f ⟨i,l,by have:=(List.getElem?_eq_some_iff.1 hi).1;omega,hi,a9⟩
      ·rintro d ⟨i,l,_,o,a9⟩;exact a9 (d l (List.mem_of_getElem? o))
     have P:mT c s (λ(i:Nat) q=>fl c.labels (i:Int) q=true) x y↔((x.state=1->(∃n,ff y x.pc=some n/\n.op=25)/\(∀l∈x.ae,l.values=[])/\x.bK=false)/\
       (x.state=2->∃n,ff y x.pc=some n/\n.op=24)/\(x.state=3->∃n,ff y x.pc=some n/\n.op=29)/\(x.state=4->∃n,ff y x.pc=some n/\n.op=28)):=
      ⟨λd=>⟨d.2.2.2.2.2.2.2.2.2.1,d.2.2.2.2.2.2.2.2.2.2⟩,λd=>⟨N.1,N.2.1,N.2.2.1,N.2.2.2,Z.1,Z.2.1,Z.2.2,O,c8,d.1,d.2⟩⟩
     rw [g.state];by_cases s1:x.state=1
     ·rw [if_pos (by simpa using s1)];refine OQ (zj k (p:=(p:Int)) (by omega) E F λn f=>aE (aE (m _ ?_)));rw [P,Bool.and_eq_true,Bool.and_eq_true,beq_iff_eq,f 25 (by omega),Bool.not_eq_true',d7,Bool.not_eq_true'];constructor
      ·intro d;exact ⟨λ_=>⟨d.1.1,d.1.2,d.2⟩,λe=>by omega,λe=>by omega,λe=>by omega⟩
      ·intro d;exact ⟨⟨(d.1 s1).1,(d.1 s1).2.1⟩,(d.1 s1).2.2⟩
     rw [if_neg (by simpa using s1)];by_cases s2:x.state=2
     ·rw [if_pos (by simpa using s2)];refine OQ (zj k (p:=(p:Int)) (by omega) E F λn f=>m _ ?_);rw [P,beq_iff_eq,f 24 (by omega)];exact ⟨λd=>⟨λe=>by omega,λ_=>d,λe=>by omega,λe=>by omega⟩,λd=>d.2.1 s2⟩
     rw [if_neg (by simpa using s2)];by_cases s3:x.state=3
     ·rw [if_pos (by simpa using s3)];refine OQ (zj k (p:=(p:Int)) (by omega) E F λn f=>m _ ?_);rw [P,beq_iff_eq,f 29 (by omega)];exact ⟨λd=>⟨λe=>by omega,λe=>by omega,λ_=>d,λe=>by omega⟩,λd=>d.2.2.1 s3⟩
     rw [if_neg (by simpa using s3)];by_cases s4:x.state=4
     ·rw [if_pos (by simpa using s4)];refine OQ (zj k (p:=(p:Int)) (by omega) E F λn f=>m _ ?_);rw [P,beq_iff_eq,f 28 (by omega)];exact ⟨λd=>⟨λe=>by omega,λe=>by omega,λe=>by omega,λ_=>d⟩,λd=>d.2.2.2 s4⟩
     grind
   ·rw [if_pos (b0.2 O)];exact m _ ⟨λe=>(by cases e),λd=>absurd d.2.2.2.2.2.2.2.1 O⟩
end
theorem jv {len:Int} {n:Nat} (k:len=(n:Int)) (hb:n<=4611686018427387904) (I:Nat->Hp->Prop) {B:(Int->Hp->Prop)->Int->Hp->Prop} {X:Int->Hp->Prop} {b:Hp} (d:I 0 b)
  (g:∀i:Nat,i<n->∀h,I i h->∀K:Int->Hp->Prop,(∀a,I (i+1) a->K (yw ((i:Int)+1)) a)->B K (i:Int) h) (l:∀h,I n h->X (n:Int) h):
  au (λc t h=>if decide (t<len)=true then B c t h else X t h) (0:Int) b:=by
 refine au.intro (λt h=>∃i:Nat,t=(i:Int)/\i<=n/\I i h) (λt _=>(len-t).toNat) ⟨0,rfl,by omega,d⟩ ?_;rintro t h ⟨i,rfl,hi,e⟩;by_cases f:i<n
 ·rw [if_pos (fT)];refine g i f h e _ λa j=> ?_;rw [aI];grind
 grind
theorem Mw {d:Type} {b h:Hp} {sz:Nat} {enc:d->List Value} {l:Sl} {c:List d} (s:b<=h) (o:Own b h sz enc l c) (k:∀x,(enc x).length=sz) {i:Int} (p:0<=i) (q:i<(c.length:Int)) (x:d) {K:Hp->Prop}
  (r:∀a,b<=a->Own b a sz enc l (c.set i.toNat x)->K a):aG l.base l.len i/\cl h (sat l.base sz i) (enc x) K:=by
 obtain ⟨F,g,n⟩:=o.wc;refine g.store k p q x λa j m=> ?_;obtain ⟨e,f⟩:=m.le s n;exact r a e (j.own f)
def xD (x:Int):List Value:=ba ((ab .i64).enc x)
def gA (n:Nat) (E:List Int):List Int:=(List.range n).map λ(p:Nat)=>((E.countP λz=>decide (z=(p:Int)):Nat):Int)
theorem Av (n:Nat) (E:List Int):(gA n E).length=n:=by simp [gA]
theorem xe {n:Nat} {E:List Int} {p:Nat} (hp:p<n):(gA n E)[p]? =some ((E.countP λz=>decide (z=(p:Int)):Nat):Int):=by unfold gA;grind
theorem NT {n:Nat} {E:List Int} {p:Int} (a:0<=p):(gA n E).set p.toNat (((E.countP λz=>decide (z=((p.toNat:Nat):Int)):Nat):Int)+1)=gA n (E++ [p]):=by
 refine List.ext_getElem? λi=> ?_;by_cases hi:i<n
 ·rw [xe hi];by_cases e:p.toNat=i
  ·subst e;rw [List.getElem?_set_self (by rw [Av];exact hi),List.countP_append];grind
  ·rw [List.getElem?_set_ne e,xe hi,List.countP_append];grind
 ·rw [List.getElem?_eq_none (by simp [Av];omega),List.getElem?_eq_none (by simp [Av];omega)]
theorem UX {h:Hp} {n:Nat} {m:Int} {K:Sl->Hp->Prop} (d:m=(n:Int)) (f:n<=1000000) (c:∀l a,h<=a->Own h a 1 xD l (gA n [])->K l a):dL 8 [.int .i64 (0:Int)] m m K h:=by
 subst d;refine ⟨⟨by omega,by omega,by omega,by omega⟩,λb t hb=> ?_⟩;have e:(gA n []).flatMap xD=fm [Value.int .i64 0] n:=by
  have:gA n []=List.replicate n 0:=by unfold gA;rw [List.eq_replicate_iff];simp
  rw [this];unfold fm;rw [List.flatMap_replicate];rfl
 refine c _ _ (lx hb) ⟨by simp [Av],Nat.le_refl _,.inr ⟨b,fm [.int .i64 0] n,t,rfl,kK,?_,?_,hb⟩⟩
 ·simp [fm]
 ·rw [e,List.take_of_length_le];simp [fm]
theorem zk (x:bh) {n:Nat} (a:n<8):List.get?Internal (α:=Value) [(.int .i64 x.State),(.int .i64 x.PC),(.int .i64 x.cD),(.int .i64 x.cE),(.int .i64 x.cF),(.int .i64 x.cG),(.int .i64 x.cH),(.int .i64 x.cI),(.int .i64 x.cJ),(.int .i64 x.cK),(.int .i64 x.Cursor),(.int .i64 x.Timer),(.bool x.gx),(.int .i64 x.jl),x.cC.v] (2+(n*1))=
  some (.int .i64 (([x.cD,x.cE,x.cF,x.cG,x.cH,x.cI,x.cJ,x.cK]:List Int).getD n 0)):=by
 match n,a with
 | 0,_=>rfl
 | 1,_=>rfl
 | 2,_=>rfl
 | 3,_=>rfl
 | 4,_=>rfl
 | 5,_=>rfl
 | 6,_=>rfl
 | 7,_=>rfl
section
variable {h:Hp} {a:aS} {c:bd} {s:fe}
theorem Ez (k:ie h a c s) {p:Int} {i:Nat} (f:jR c p i):0<=p/\p.toNat<c.procs.length/\∃x y,s.procs[p.toNat]? =some x/\c.procs[p.toNat]? =some y/\y.part=(i:Int):=by
 obtain ⟨e,y,d,hp⟩:=f;have b:=(List.getElem?_eq_some_iff.1 d).1;have:p.toNat<s.procs.length:=by rw [k.gP.2.2];exact b
 exact ⟨e,b,_,y,List.getElem?_eq_getElem this,d,hp⟩
theorem SM (k:ie h a c s) {p:Nat} {y:eu} (o:c.procs[p]? =some y) {pc:Int} {n:dF} (i:ff y pc=some n) (j:n.op=24):(0<=n.b/\n.b<8)/\(0<=n.c/\n.c<8):=by
 obtain ⟨-, -, -, -, -,d⟩:=k.bounds;have l:=(d y (List.mem_of_getElem? o)).2.2;have g:n∈y.code:=by unfold ff at i;grind
 have:=l n g;have f:jh n.op=(true,true,true,false):=by rw [j];decide
 unfold j8 at this;rw [f] at this;have q:∀m,fg true m=0->0<=m/\m<8:=λm e=>by unfold fg at e;omega
 grind
theorem aaK (k:ie h a c s) {w:bp} {i r:Nat} (R:jR c w.bT i) {Q:Bool->Hp->Prop} (I:∀b,(b=true↔rP c s w.bT w.cS r)->Q b h):Wd prog a w (r:Int) Q h:=by
 unfold Wd;obtain ⟨J,U,x,y,D,E, -⟩:=Ez k R;obtain ⟨Y,S,L⟩:=k.st.procs;obtain ⟨z,T,p⟩:=L.get' D;have W:=(List.getElem?_eq_some_iff.1 T).1;obtain ⟨P,v,hv,rfl⟩:=Rs.get (sh:=aN) S (λ_=>rfl) (by omega) (i:=w.bT) (by omega) (by omega) (K:=λv=>v=z) λX V=>by grind
 refine ⟨P,v,hv,VM (DW k J D E λn d=> ?_)⟩;refine ⟨⟨trivial,trivial,hv,trivial⟩,aE ?_⟩;rw [p.state];have l:=p.aO;have H:rP c s w.bT w.cS r↔∃m,ff y x.pc=some m/\x.state=2/\m.op=24/\x.aO[m.b.toNat]? =some (r:Int)/\x.aO[m.c.toNat]? =some w.cS:=by
  constructor
  ·rintro ⟨Z,y',m,f,g,j⟩;grind
  ·rintro ⟨m,j⟩;exact ⟨x,y,m,D,E,j⟩
 by_cases o:x.state=2/\n.Op=24
 ·rcases d with d | ⟨-,rfl⟩
  ·obtain ⟨⟨q,t⟩,u,A⟩:=SM k E d o.2;have q:0<=n.B:=q;have t:n.B<8:=t;have u:0<=n.C:=u;have A:n.C<8:=A;have N:x.aO[n.B.toNat]? =some (x.aO.getD n.B.toNat 0):=by
    have:n.B.toNat<x.aO.length:=by rw [<-l];simp;omega
    rw [List.getElem?_eq_getElem this,List.getD_eq_getElem?_getD,List.getElem?_eq_getElem this];rfl
   have O:x.aO[n.C.toNat]? =some (x.aO.getD n.C.toNat 0):=by
    have:n.C.toNat<x.aO.length:=by rw [<-l];simp;omega
    rw [List.getElem?_eq_getElem this,List.getD_eq_getElem?_getD,List.getElem?_eq_getElem this];rfl
   refine ⟨λ_=>⟨q,t⟩,x.aO.getD n.B.toNat 0,λ_=> ?_,aE ⟨λ_=>⟨u,A⟩,x.aO.getD n.C.toNat 0,λ_=> ?_,aE (I _ ?_)⟩⟩
   ·rw [<-l,<-p.state];exact zk v (by omega)
   ·rw [<-l,<-p.state];exact zk v (by omega)
   ·rw [H];simp only [Bool.and_eq_true,beq_iff_eq];constructor
    ·rintro ⟨⟨-,f⟩,g⟩;exact ⟨_,d,o.1,o.2,by show x.aO[n.B.toNat]? =_;rw [N,f],by show x.aO[n.C.toNat]? =_;rw [O,g]⟩
    ·rintro ⟨m,f,g,j,F,G⟩;rw [d] at f;cases f;have F:x.aO[n.B.toNat]? =some (r:Int):=F;have G:x.aO[n.C.toNat]? =some w.cS:=G;grind
  grind
 ·have M:((x.state==(2:Int))&&(n.Op==(24:Int)))=false:=by grind
  rw [M];refine ⟨λe=>(by cases e),0,λe=>(by cases e),aE ⟨λe=>(by cases e),0,λe=>(by cases e),aE (I _ ?_)⟩⟩;rw [H];refine ⟨λe=>(by cases e),?_⟩;rintro ⟨m,f,g,j, -⟩;refine absurd ⟨g,?_⟩ o;rcases d with d | ⟨d, -⟩
  ·rw [d] at f;cases f;exact j
  grind
end
def xC (x:cR):List Int:=x.ah.flatten
def uY (x:ai):List Int:=x.ae.flatMap λl=>l.waiters.map λw=>w.proc
def tD (s:fe):List Int:=s.parts.flatMap xC++s.procs.flatMap uY
theorem Xg (s:fe) (p:Int):(tD s).countP (λz=>decide (z=p))=(s.parts.map (gJ p)).sum+(s.procs.map (j9 p)).sum:=by
 unfold tD;rw [List.countP_append,List.countP_flatMap,List.countP_flatMap];congr 1
 ·congr 1;refine List.map_congr_left λx _=> ?_;show List.countP _ (xC x)=_;unfold xC gJ;simp
 ·congr 1;refine List.map_congr_left λx _=> ?_;show List.countP _ (uY x)=_;unfold uY j9 jo;rw [List.countP_flatMap];congr 1;refine List.map_congr_left λl _=> ?_;show List.countP _ (l.waiters.map _)=_;rw [List.countP_map];rfl
def GQ (c:bd) (s:fe) (i:Nat) (x:cR) (k:Nat) (p:Int):Prop:=jR c p i/\(xX c s p λz n=>z.state=3/\n.kf=(k:Int))/\∃o,x.av[k]? =some o/\0<=o/\o≠p
def GW (c:bd) (s:fe) (r:Nat) (x:ai) (y:eu) (i:Nat) (l:br) (w:ly):Prop:=(i:Int)=y.part/\jR c w.proc i/\(x.state≠5/\x.state≠6)/\(l.values.length:Int)=c.lane/\rP c s w.proc w.value r
theorem Bc {a:Type} {l:List a} {i:Nat} {x:a} (h:l[i]? =some x):l.drop i=x::l.drop (i+1):=by obtain ⟨b,rfl⟩:=List.getElem?_eq_some_iff.1 h;simp
section
variable {h:Hp} {a:aS} {c:bd} {s:fe}
theorem aaM (k:ie h a c s) (i6:∀(i:Nat) x,s.parts[i]? =some x->(x.av.length:Int)=c.ak/\(x.ah.length:Int)=c.ak) (e8:∀(p:Nat) x y,s.procs[p]? =some x->c.procs[p]? =some y->x.ae.length=c.labels.length+1/\(x.state=3->∃n,ff y x.pc=some n))
  (hE:(tD s).length<=1152921504606846976) {Q:Bool->Hp->Prop} (hq:∀b f,h<=f->(b=true↔sc c s)->Q b f):Wc prog a Q h:=by
 unfold Wc;obtain ⟨ps,g8,e9⟩:=k.cfg.procs;obtain ⟨qs,c7,c0⟩:=k.st.procs;obtain ⟨pa,has,f4⟩:=k.st.parts;obtain ⟨⟨l7,l8⟩,⟨l5,l6⟩, -,⟨l3,l4⟩,⟨l9,m0⟩, -⟩:=k.bounds;obtain ⟨-,n6,n7⟩:=k.gP;have e1:=e9.len;have e2:=c0.len;have e3:=f4.len;have m6:a.bZ.len=ps.length:=g8.1;have m7:a.cM.len=qs.length:=c7.1;have m3:a.fP.len=pa.length:=has.1;have k0:a.gV=c.lane:=k.cfg.lane;refine UX (n:=s.procs.length) (by omega) (by omega) λr v k1 k7=> ?_;refine jv (n:=pa.length) (by omega) (by omega) (λi f=>h<=f/\(∀(B:Nat) x',B<i->s.parts[B]? =some x'->∀(k:Nat) q,x'.ah[k]? =some q->∀p∈q,GQ c s B x' k p)/\
  ∃E,Own h f 1 xD r (gA s.procs.length E)/\E++((s.parts.drop i).flatMap xC++s.procs.flatMap uY)=tD s) ⟨k1,λB x' hi=>by omega,[],k7,rfl⟩ ?_ ?_
 ·rintro i hi W ⟨c4,f7,E,d7,d1⟩ K hK;refine kV (sh:=bQ) (Rw.mono c4 has) λy V=> ?_;have V:pa[i]? =some y:=V;obtain ⟨x,t,c9⟩:=f4.get V;obtain ⟨n1,n5⟩:=i6 i x t;obtain ⟨ys,i2,f5⟩:=c9.ah;have e4:=f5.len;have m9:y.bI.len=ys.length:=i2.1;rw [Bc t] at d1;refine jv (n:=ys.length) (by omega) (by omega) (λm f=>h<=f/\(∀(k:Nat) q,k<m->x.ah[k]? =some q->∀p∈q,GQ c s i x k p)/\
   ∃E,Own h f 1 xD r (gA s.procs.length E)/\E++((x.ah.drop m).flatten++((s.parts.drop (i+1)).flatMap xC++s.procs.flatMap uY))=tD s)
   ⟨c4,λk q H=>by omega,E,d7,by rw [<-d1];simp [xC]⟩ ?_ ?_
  ·rintro m hm C ⟨N,c2,E3,b8,Y⟩ K3 e7;refine kV (sh:=af) (Rw.mono N i2) λq' d8=> ?_;have d8:ys[m]? =some q':=d8;obtain ⟨q,e0,g9⟩:=f5.get d8;have m8:Sl.len q'=q.length:=g9.1;rw [Bc e0] at Y;have i7:q.length<=1152921504606846976:=by have:=congrArg List.length Y;simp at this;omega
   refine jv (n:=q.length) (by show ((Sl.len q':Nat):Int)=_;omega) (by omega) (λj f=>h<=f/\(∀p∈q.take j,GQ c s i x m p)/\
    ∃E,Own h f 1 xD r (gA s.procs.length E)/\E++(q.drop j++((x.ah.drop (m+1)).flatten++((s.parts.drop (i+1)).flatMap xC++s.procs.flatMap uY)))=tD s)
    ⟨N,λp hp=>by simp at hp,E3,b8,by rw [<-Y];simp⟩ ?_ ?_
   ·rintro j hj G ⟨A,S,F,b3,J⟩ K4 b6;have k4:=k.mono A;refine kV (sh:=ab .i64) (Rw.mono A g9) λ(p:Int) hp=> ?_;have hp:q[j]? =some p:=hp;rw [Bc hp] at J;have M:¬GQ c s i x m p->Q false G:=λO=>hq _ _ A ⟨λe=>(by cases e),λd=>absurd (d.1 i x t m q e0 p (List.mem_of_getElem? hp)) O⟩;refine OP (zi k4 λb1 f6=> ?_);cases b1 with
    | false=>
     have O:¬jR c p i:=λe=>by have:=f6.2 e;cases this
     refine ⟨λe=>(by cases e),(0:Int),λe=>(by cases e),aE ⟨λe=>(by cases e),λ_=>⟨⟨0,0,0,0,0⟩,aE ⟨λe=>(by cases e),(0:Int),λe=>(by cases e),aE ⟨λe=>(by cases e),(0:Int),λe=>(by cases e),aE ?_⟩⟩⟩⟩⟩;rw [if_pos (by rfl)];exact M λd=>O d.1
    | true=>
     have ho:=f6.1 rfl;obtain ⟨U,k8,z,w,u,D,o0⟩:=Ez k ho;refine Rw.pf (Rw.mono A c7) (λ_=>rfl) (by omega) (sh:=ab .i64) (λq=>q.State) (λ_=>rfl) (0:Int) (λ_=>by omega) λx3 b4=> ?_;obtain ⟨z',l1,b4⟩:=b4 rfl;obtain ⟨o1,i3,l2⟩:=c0.get l1;rw [u] at i3;cases i3;rw [l2.state] at b4;have b4:x3=z.state:=b4;subst b4;refine aE (ju (λn:aZ=>ff w z.pc=some (bE n)\/(ff w z.pc=none/\n=⟨-1,0,0,0,0⟩)) ⟨0,0,0,0,0⟩ (λ_ H=>VM (DW k4 U u D H)) λn O=>aE ?_);obtain ⟨-, -, -, -, -,m1⟩:=k.bounds;by_cases P:z.state=3
     ·have g6:=O (by simp [P]);have k3:m<x.av.length:=by omega
      have hl:=c9.av.1;refine Rs.mj (Rw.mono A c9.av) (0:Int) (λ_=>rfl) (by omega) (λ_=>by omega) λ(o:Int) a8=>aE ?_;refine Rs.mj (Rw.mono A c9.av) (0:Int) (λ_=>rfl) (by omega) (λ_=>by omega) λ(o':Int) a9=>aE ?_;have n0:x.av[m]? =some x.av[m]:=List.getElem?_eq_getElem k3;have hG:(((((!true) || (z.state !=(3:Int))) || (n.iZ !=(m:Int))) || (decide (o<(0:Int)))) || (o'==p))=true↔¬GQ c s i x m p:=by
       by_cases c3:n.iZ=(m:Int)
       ·have c1:(((!true) || (z.state !=(3:Int))) || (n.iZ !=(m:Int)))=false:=by simp [P,c3]
        rw [c1] at a8 a9 ⊢;have a8:x.av[m]? =some o:=a8 rfl;rw [Bool.false_or] at a9 ⊢;by_cases g7:o<0
        ·rw [decide_eq_true g7];refine ⟨λ_ d=> ?_,λ_=>by simp⟩;obtain ⟨_,_,o2,v,W,_⟩:=d;rw [a8] at v;cases v;omega
        ·rw [decide_eq_false g7] at a9 ⊢;have a9:x.av[m]? =some o':=a9 rfl;rw [a8] at a9;cases a9;rw [Bool.false_or,beq_iff_eq];constructor
         ·rintro rfl d;obtain ⟨_,_,o2,v,W,C⟩:=d;rw [a8] at v;cases v;exact C rfl
         ·intro d;refine Classical.byContradiction λd6=>d ⟨ho,?_,o,a8,by omega,d6⟩;rcases g6 with T | ⟨T,_⟩
          ·exact ⟨z,w,_,u,D,T,P,c3⟩
          ·obtain ⟨n2,k6⟩:=(e8 _ _ _ u D).2 P;rw [k6] at T;cases T
       ·have c1:(n.iZ !=(m:Int))=true:=by simpa using c3
        rw [c1];refine ⟨λ_ d=> ?_,λ_=>by simp⟩;obtain ⟨_,⟨z2,w2,n2,v,W,C,G,X⟩,_⟩:=d;rw [u] at v;cases v;rw [D] at W;cases W;rcases g6 with T | ⟨T,_⟩
        ·rw [T] at C;cases C;exact c3 X
        ·rw [T] at C;cases C
      by_cases b2:GQ c s i x m p
      ·rw [if_neg (λe=>hG.1 e b2)];refine Rs.get (sh:=ab .i64) (b3.rw (λ_=>rfl)) (λ_=>rfl) (by omega) U (by rw [Av];omega) λ(I:Int) g=> ?_;have g:(gA s.procs.length F)[p.toNat]? =some I:=g;rw [xe (by omega)] at g;have g:I=((F.countP λz=>decide (z=((p.toNat:Nat):Int)):Nat):Int):=(Option.some.inj g).symm;have k2:F.length<=1152921504606846976:=by have:=congrArg List.length J;simp at this;omega
       have i9:=List.countP_le_length (p:=λz=>decide (z=((p.toNat:Nat):Int))) (l:=F);rw [g,aI];refine Mw (enc:=xD) A b3 (λ_=>rfl) U (by rw [Av];omega) (((F.countP λz=>decide (z=((p.toNat:Nat):Int)):Nat):Int)+1) λh7 d5 b7=> ?_;rw [NT U] at b7;refine b6 h7 ⟨d5,λp' (hp':p'∈q.take (j+1))=> ?_,F++ [p],b7,by rw [<-J];simp⟩;rw [List.take_add_one,hp] at hp';rcases List.mem_append.1 hp' with hp' | hp'
       ·exact S p' hp'
       ·have e:p'=p:=by simpa using hp'
        rw [e];exact b2
      ·rw [if_pos (hG.2 b2)];exact M b2
     ·have d6:(z.state !=(3:Int))=true:=by simpa using P
      have b2:¬GQ c s i x m p:=by rintro ⟨_,⟨z2,w2,n2,v,W,C,G,X⟩,_⟩;rw [u] at v;cases v;exact P G
      simp only [d6,Bool.or_true,Bool.true_or];refine ⟨λe=>(by cases e),(0:Int),λe=>(by cases e),aE ⟨λe=>(by cases e),(0:Int),λe=>(by cases e),aE ?_⟩⟩;rw [if_pos (by rfl)];exact M b2
   ·rintro G ⟨A,S,F,b3,J⟩;refine e7 G ⟨A,λk q2 H d9 p hp=> ?_,F,b3,by rw [<-J];simp⟩;by_cases j2:k<m
    ·exact c2 k q2 j2 d9 p hp
    ·have:k=m:=by omega
     subst this;rw [e0] at d9;cases d9;exact S p (by rw [List.take_of_length_le (Nat.le_refl _)];exact hp)
  grind
 ·rintro W ⟨c4,f7,E,d7,d1⟩;have hA:∀(i:Nat) x,s.parts[i]? =some x->∀(k:Nat) q,x.ah[k]? =some q->∀p∈q,GQ c s i x k p:=λi x t=>f7 i x (by grind) t;refine jv (n:=qs.length) (by omega) (by omega) (λn f=>h<=f/\(∀(r':Nat) x y,r'<n->s.procs[r']? =some x->c.procs[r']? =some y->∀(i:Nat) l,x.ae[i]? =some l->∀w∈l.waiters,GW c s r' x y i l w)/\
   ∃E,Own h f 1 xD r (gA s.procs.length E)/\E++(s.procs.drop n).flatMap uY=tD s) ⟨c4,λr' x y hr=>by omega,E,d7,by grind⟩ ?_ ?_
  ·rintro n O C ⟨N,c2,E3,b8,Y⟩ K3 e7;refine kV (sh:=aN) (Rw.mono N c7) λz u=> ?_;have u:qs[n]? =some z:=u;obtain ⟨x,t,d0⟩:=c0.get u;have j0:n<c.procs.length:=by omega
   have V:=List.getElem?_eq_getElem j0;generalize c.procs[n]=y at V;obtain ⟨yq,i1,l0, -⟩:=e9.get' V;have n4:=(List.getElem?_eq_some_iff.1 i1).1;obtain ⟨m4, -⟩:=e8 n x y t V;obtain ⟨ls,g0,f0⟩:=d0.ae;have e5:=f0.len;have m5:z.cC.len=ls.length:=g0.1;rw [Bc t] at Y;refine jv (n:=ls.length) (by omega) (by omega) (λi f=>h<=f/\(∀(B:Nat) l,B<i->x.ae[B]? =some l->∀w∈l.waiters,GW c s n x y B l w)/\
    ∃E,Own h f 1 xD r (gA s.procs.length E)/\E++((x.ae.drop i).flatMap (λl=>l.waiters.map λw=>w.proc)++(s.procs.drop (n+1)).flatMap uY)=tD s)
    ⟨N,λk q H=>by omega,E3,b8,by rw [<-Y];simp [uY]⟩ ?_ ?_
   ·rintro i hi G ⟨A,S,F,b3,J⟩ K4 b6;refine kV (sh:=bD) (Rw.mono A g0) λL hL=> ?_;have hL:ls[i]? =some L:=hL;obtain ⟨l,d4,f9⟩:=f0.get hL;obtain ⟨ws,h8,h6⟩:=f9.waiters;have n8:L.bB.len=ws.length:=h8.1;have h0:l.waiters.length=ws.length:=by rw [<-h6,List.length_map]
    have k9:L.dm.len=l.values.length:=f9.values.1;rw [Bc d4] at J;have i7:ws.length<=1152921504606846976:=by have:=congrArg List.length J;simp at this;omega
    refine jv (n:=ws.length) (by omega) (by omega) (λj f=>h<=f/\(∀w∈l.waiters.take j,GW c s n x y i l w)/\
     ∃E,Own h f 1 xD r (gA s.procs.length E)/\E++((l.waiters.drop j).map (λw=>w.proc)++((x.ae.drop (i+1)).flatMap (λl=>l.waiters.map λw=>w.proc)++(s.procs.drop (n+1)).flatMap uY))=tD s)
     ⟨A,λp hp=>by simp at hp,F,b3,by rw [<-J];simp⟩ ?_ ?_
    ·rintro j hj X ⟨Z,d2,R,c5,b5⟩ K5 i5;have k5:=k.mono Z;refine kV (sh:=aF) (Rw.mono Z h8) λw D=> ?_;have D:ws[j]? =some w:=D;have e6:l.waiters[j]? =some (pB w):=by rw [<-h6,List.getElem?_map,D];rfl
     rw [Bc e6] at b5;have M:¬GW c s n x y i l (pB w)->Q false X:=λO=>hq _ _ Z ⟨λe=>(by cases e),λd=>absurd (d.2.1 n x y t V i l d4 _ (List.mem_of_getElem? e6)) O⟩;refine Rw.mh (Rw.mono Z g8) (λ_=>rfl) (by omega) (sh:=ab .i64) (λq=>q.Part) (λ_=>rfl) (by omega) (by omega) λq c6=> ?_;have c6:ps[n]? =some q:=c6;rw [i1] at c6;cases c6;rw [l0];refine ju (λb=>b=true↔jR c w.bT i) false (λ_ H=>OP (zi k5 H)) λr1 b9=>aE ?_;refine ju (λb=>b=true↔z.State≠5/\z.State≠6) false (λ_ H=>Fz (Ey H)) λr2 b0=>aE (aE ?_);rw [d0.state] at b0;rw [k9,k0];by_cases g1:(i:Int)=y.part
     ·have e1:((i:Int) !=y.part)=false:=by simpa using g1
      rw [e1] at b9 b0 ⊢;have b9:=b9 rfl;by_cases g2:jR c w.bT i
      ·have e2:=b9.2 g2;rw [e2] at b0 ⊢;have b0:=b0 rfl;by_cases g3:x.state≠5/\x.state≠6
       ·have e3:=b0.2 g3;rw [e3];by_cases g4:(l.values.length:Int)=c.lane
        ·have e4:(((l.values.length:Nat):Int) !=c.lane)=false:=by simpa using g4
         rw [e4];refine ju (λb=>b=true↔rP c s w.bT w.cS n) false (λ_ H=>zxa (aaK k5 g2 H)) λr3 c8=>aE ?_;have c8:=c8 rfl;by_cases g5:rP c s w.bT w.cS n
         ·rw [c8.2 g5,if_neg (by simp)];obtain ⟨U,k8, -⟩:=Ez k5 g2;refine Rs.get (sh:=ab .i64) (c5.rw (λ_=>rfl)) (λ_=>rfl) (by omega) U (by rw [Av];omega) λ(I:Int) g=> ?_;have g:(gA s.procs.length R)[w.bT.toNat]? =some I:=g;rw [xe (by omega)] at g;have g:I=((R.countP λz=>decide (z=((w.bT.toNat:Nat):Int)):Nat):Int):=(Option.some.inj g).symm;have k2:R.length<=1152921504606846976:=by have:=congrArg List.length b5;simp at this;omega
          have i9:=List.countP_le_length (p:=λz=>decide (z=((w.bT.toNat:Nat):Int))) (l:=R);rw [g,aI];refine Mw (enc:=xD) Z c5 (λ_=>rfl) U (by rw [Av];omega) (((R.countP λz=>decide (z=((w.bT.toNat:Nat):Int)):Nat):Int)+1) λh7 d5 b7=> ?_;rw [NT U] at b7;refine i5 h7 ⟨d5,λp' hp'=> ?_,R++ [w.bT],b7,by rw [<-b5];simp [pB]⟩;rw [List.take_add_one,e6] at hp';rcases List.mem_append.1 hp' with hp' | hp'
          ·exact d2 p' hp'
          ·have e:p'=pB w:=by simpa using hp'
           rw [e];exact ⟨g1,g2,g3,g4,g5⟩
         ·rw [show r3=false by rw [<-Bool.not_eq_true,c8];exact g5,if_pos (by simp)];exact M λd=>g5 d.2.2.2.2
        ·have e4:(((l.values.length:Nat):Int) !=c.lane)=true:=by simpa using g4
         rw [e4];refine ⟨λe=>(by cases e),λ_=>⟨false,aE ?_⟩⟩;rw [if_pos (by rfl)];exact M λd=>g4 d.2.2.2.1
       ·rw [show r2=false by rw [<-Bool.not_eq_true,b0];exact g3];refine ⟨λe=>(by cases e),λ_=>⟨false,aE ?_⟩⟩;rw [if_pos (by rfl)];exact M λd=>g3 d.2.2.1
      ·rw [show r1=false by rw [<-Bool.not_eq_true,b9];exact g2];refine ⟨λe=>(by cases e),λ_=>⟨false,aE ?_⟩⟩;rw [if_pos (by rfl)];exact M λd=>g2 d.2.1
     ·have e1:((i:Int) !=y.part)=true:=by simpa using g1
      rw [e1];refine ⟨λe=>(by cases e),λ_=>⟨false,aE ?_⟩⟩;rw [if_pos (by rfl)];exact M λd=>g1 d.1
    ·rintro X ⟨Z,d2,R,c5,b5⟩;refine b6 X ⟨Z,λB l' m2 d3 w D=> ?_,R,c5,by rw [<-b5,List.drop_eq_nil_iff.2 (Nat.le_of_eq h0)];simp⟩;by_cases j1:B<i
     ·exact S B l' j1 d3 w D
     ·have:B=i:=by omega
      subst this;rw [d4] at d3;cases d3;exact d2 w (by rw [List.take_of_length_le (Nat.le_of_eq h0)];exact D)
   grind
  ·rintro C ⟨N,c2,E3,b8,Y⟩;have hB:∀(r:Nat) x y,s.procs[r]? =some x->c.procs[r]? =some y->∀(i:Nat) l,x.ae[i]? =some l->∀w∈l.waiters,GW c s r x y i l w:=λr x y t=>c2 r x y (by grind) t;have i4:E3=tD s:=by grind
   subst i4;refine jv (n:=qs.length) (by omega) (by omega) (λn f=>f=C/\∀(p:Nat) x,p<n->s.procs[p]? =some x->(s.parts.map (gJ (p:Int))).sum+(s.procs.map (j9 (p:Int))).sum=if x.state=3\/x.state=2 then 1 else 0) ⟨rfl,λp x hp=>by omega⟩ ?_ ?_
   ·rintro n O G ⟨rfl,S⟩ K4 b6;refine kV (sh:=aN) (Rw.mono N c7) λz u=> ?_;have u:qs[n]? =some z:=u;obtain ⟨x,t,d0⟩:=c0.get u;refine bH.intro (λvW f=>f=G/\vW=if x.state=3\/x.state=2 then 1 else 0) ?_ ?_
    ·refine aE ?_;rw [d0.state];by_cases P:x.state=3\/x.state=2
     ·rw [if_pos (by simpa using P)];exact ⟨rfl,by rw [if_pos P]⟩
     grind
    ·rintro vW X ⟨rfl,rfl⟩;refine Rs.get (sh:=ab .i64) (b8.rw (λ_=>rfl)) (λ_=>rfl) (by omega) (by omega) (by rw [Av];omega) λ(I:Int) g=> ?_;have g:(gA s.procs.length (tD s))[n]? =some I:=g;rw [xe (by omega),Xg] at g;have g:I=(((s.parts.map (gJ (n:Int))).sum+(s.procs.map (j9 (n:Int))).sum:Nat):Int):=(Option.some.inj g).symm;have f8:I=(if x.state=3\/x.state=2 then 1 else 0)↔(s.parts.map (gJ (n:Int))).sum+(s.procs.map (j9 (n:Int))).sum=if x.state=3\/x.state=2 then 1 else 0:=by rw [g];split<;>omega
     by_cases hg:I=(if x.state=3\/x.state=2 then 1 else 0)
     ·rw [if_neg (by simpa using hg)];refine b6 _ ⟨rfl,λp x' hp h9=> ?_⟩;by_cases n3:p<n
      ·grind
      ·have:p=n:=by omega
       subst this;rw [t] at h9;cases h9;exact f8.1 hg
     ·rw [if_pos (by simpa using hg)];exact hq _ _ N ⟨λe=>(by cases e),λd=>absurd (f8.2 (d.2.2 n x t)) hg⟩
   ·rintro G ⟨rfl,S⟩;refine hq _ _ N ⟨λ_=>⟨hA,hB,λp x t=>S p x (by grind) t⟩,λ_=>rfl⟩
end
def lZ (c:bd) (s:fe):Prop:=qJ c s λ(i:Nat) q=>fl c.labels (i:Int) q=true
theorem QP {h:Hp} {x:aw} {y:aB} {c:bd} {s:fe} {Q:Int->Hp->Prop} (a:eo h x c) (b:cW h y s) (hu:∀l∈c.labels,lW l) (L:s.parts.length<=8->(∀x∈s.parts,x.ah.length<=8)->s.procs.length<=32->(∀x∈s.procs,x.ae.length<=9)->(tD s).length<=1152921504606846976)
  (h0:(fq c).1≠0->∀f,h<=f->Q (fq c).1 f) (j:(fq c).1=0->∀n f,h<=f->(n=0/\lZ c s\/n=4/\¬lZ c s)->Q n f):Po prog x y Q h:=by
 unfold Po;refine JH (LG a λh2 S=> ?_);by_cases m:(fq c).1≠0
 ·grind
 rw [if_neg (by simpa using m)];have m:(fq c).1=0:=Classical.not_not.1 m;have j:=j m;have hm:(jf c.labels).1=0:=by unfold fq at m;exact (jm.1 m).1
 refine IV (Jq (Rw.mono S a.labels) (λe=>absurd hm e) λ_ t M b0 X=> ?_);have B:=Hp.le_trans S b0;have a3:=a.mono B;have H:=b.mono B;have c2:=a3.procs;obtain ⟨ps,b2,Y⟩:=a3.procs;obtain ⟨W,b4,a8⟩:=H.procs;obtain ⟨V,has,Z⟩:=H.parts;have e1:=Y.len;have e2:=a8.len;have e3:=Z.len;have c6:x.aC.len=ps.length:=b2.1;have c7:y.aC.len=W.length:=b4.1;have c4:y.bt.len=V.length:=has.1;have c5:x.bg.len=c.labels.length:=a.labels.1;refine aE (aE (aE ?_));have ht:=b.tick;by_cases F:Ao c s
 ·have b5:=F;obtain ⟨⟨t0,t1⟩,s1,s2⟩:=b5;rw [if_neg (by simp;omega)];have k:ie M ⟨x.bg,x.Table,x.Fuel,x.gy,x.bR,x.Log,x.aC,y.di,y.bt,y.aC,some t⟩ c s:=⟨a3,H,⟨t,rfl,X⟩,m,F,hu⟩;have E:(Value.agg #[x.bg.v,x.Table.v,(.int .i64 x.Fuel),(.int .i64 x.gy),(.int .i64 x.bR),(.int .i64 x.Log),x.aC.v,(.int .i64 y.di),y.bt.v,y.aC.v,(.pointer (some t))])=bn.enc ⟨x.bg,x.Table,x.Fuel,x.gy,x.bR,x.Log,x.aC,y.di,y.bt,y.aC,some t⟩:=rfl;rw [E];generalize (⟨x.bg,x.Table,x.Fuel,x.gy,x.bR,x.Log,x.aC,y.di,y.bt,y.aC,some t⟩:aS)=A at k;obtain ⟨⟨b8,b9⟩, -, -, -,⟨c0,c1⟩, -⟩:=k.bounds;refine jv (n:=V.length) (by omega) (by omega) (λi f=>M<=f/\∀(D:Nat) z,D<i->s.parts[D]? =some z->tg c s D z) ⟨Hp.le_refl _,λD z hi=>by omega⟩ ?_ ?_
  ·rintro i hi N ⟨g,P⟩ K O;have u:i<s.parts.length:=by omega
   have d:=List.getElem?_eq_getElem u;generalize s.parts[i]=z at d;refine zys (a:=A) (QN (k.mono g) d λr I T C=> ?_);cases r with
   | true=>rw [iT];refine O I ⟨Hp.le_trans g T,λD z' c3 c8=> ?_⟩;grind
   | false=>rw [if_pos (by simp)];refine j _ _ (Hp.le_trans B (Hp.le_trans g T)) (.inr ⟨rfl,λo=> ?_⟩);have:=C.2 (o.2.1 i z d);cases this
  ·rintro N ⟨g,P⟩;have E:∀(i:Nat) z,s.parts[i]? =some z->tg c s i z:=λi z d=>P i z (by grind) d;refine jv (n:=W.length) (by omega) (by omega) (λi f=>f=N/\∀(p:Nat) z w,p<i->s.procs[p]? =some z->c.procs[p]? =some w->mT c s (λ(i:Nat) q=>fl c.labels (i:Int) q=true) z w) ⟨rfl,λD z w hi=>by omega⟩ ?_ ?_
   ·rintro i hi I ⟨rfl,R⟩ K O;have u:i<s.procs.length:=by omega
    have d:=List.getElem?_eq_getElem u;generalize s.procs[i]=z at d;have u:i<c.procs.length:=by omega
    have G:=List.getElem?_eq_getElem u;generalize c.procs[i]=w at G;refine zyt (a:=A) (QO (k.mono g) d G λr C=> ?_);cases r with
    | true=>grind
    | false=>rw [if_pos (by simp)];refine j _ _ (Hp.le_trans B g) (.inr ⟨rfl,λo=> ?_⟩);have:=C.2 (o.2.2.1 i z w d G);cases this
   ·rintro I ⟨rfl,R⟩;obtain ⟨-,⟨b6,b7⟩, -, -, -, -⟩:=k.bounds;have J:∀(p:Nat) z w,s.procs[p]? =some z->c.procs[p]? =some w->mT c s (λ(i:Nat) q=>fl c.labels (i:Int) q=true) z w:=λp z w d=>R p z w (by grind) d;have L:=L (by omega) (λz d=>by
     obtain ⟨i,hi⟩:=List.getElem?_of_mem d;have:=(E i z hi).2.2.2.2.2.2.1;omega) (by omega) (λz d=>by
     obtain ⟨i,hi⟩:=List.getElem?_of_mem d;have u:=(List.getElem?_eq_some_iff.1 hi).1;have:=(J i z _ hi (List.getElem?_eq_getElem (show i<c.procs.length by omega))).2.2.1;omega)
    refine zwy (a:=A) (aaM (k.mono g) (λi z d=> ?_) (λp z w d G=> ?_) L λr h6 b1 C=> ?_)
    ·have:=E i z d;exact ⟨this.2.2.2.2.2.1,this.2.2.2.2.2.2.1⟩
    ·have:=J p z w d G;exact ⟨this.2.2.1,λe=>by obtain ⟨n,hn,_⟩:=this.2.2.2.2.2.2.2.2.2.2.2.1 e;exact ⟨n,hn⟩⟩
    ·have U:=Hp.le_trans B (Hp.le_trans g b1);cases r with
     | true=>rw [iT];exact j _ _ U (.inl ⟨rfl,F,E,J,C.1 rfl⟩)
     | false=>rw [if_pos (by simp)];refine j _ _ U (.inr ⟨rfl,λo=> ?_⟩);have:=C.2 o.2.2.2;cases this
 ·rw [if_pos ?_]
  ·exact j _ _ B (.inr ⟨rfl,λo=>F o.1⟩)
  ·refine Classical.byContradiction λa9=>F ?_;simp at a9;refine ⟨by omega,by omega,by omega⟩
section
variable {P:Program} {h:Hp}
theorem q8 {a:Type} {v:a} {A:(a->Hp->Prop)->Prop} {B:a->Hp->Prop} (c:∀k:a->Hp->Prop,k v h->A k) (d:B v h):bH A B:=bH.intro (λx b=>x=v/\b=h) (c _ ⟨rfl,rfl⟩) (by grind)
def CN (op:Int) (k:Bool->Hp->Prop) (h:Hp):List Int->Prop
 | []=>True
 | [a]=>k (op==a) h
 | a::b::r=>if (op==a)=true then k (op==a) h else CN op k h (b::r)
theorem uG {op:Int} {k:Bool->Hp->Prop}:∀l:List Int,l≠ []->k (decide (op∈l)) h->CN op k h l
 | [],d,_=>absurd rfl d
 | [a],_,c=>by
  have:(op==a)=decide (op∈ [a]):=by grind
  show k (op==a) h;grind
 | a::b::r,_,c=>by
  show if (op==a)=true then k (op==a) h else CN op k h (b::r)
  by_cases e:op=a
  ·grind
  ·rw [if_neg (by simpa using e)];refine uG (b::r) (by simp) ?_;grind
theorem ZZ {op:Int} {Q:Bool->Bool->Bool->Bool->Hp->Prop} (a:Q (jh op).1 (jh op).2.1 (jh op).2.2.1 (jh op).2.2.2 h):UP P op Q h:=by
 unfold UP;unfold jh at a;by_cases f:op=1
 ·grind
 rw [if_neg f] at a;rw [if_neg (by simpa using f)];refine q8 (h:=h) (v:=decide (op∈ [2,20,21,25,26])) (λk b=>uG [2,20,21,25,26] (by simp) b) ?_;by_cases g:op∈ [2,20,21,25,26]
 ·grind
 rw [if_neg (λe=>g (of_decide_eq_true e))];rw [if_neg (by simpa using g)] at a;refine q8 (h:=h) (v:=decide (op∈ [3,4,5,6,7,8,9,10,11,12,13,14])) (λk b=>uG [3,4,5,6,7,8,9,10,11,12,13,14] (by simp) b) ?_;by_cases c:op∈ [3,4,5,6,7,8,9,10,11,12,13,14]
 ·rw [if_pos (decide_eq_true c)];rw [if_pos (Or.inl (by simp at c;omega))] at a;exact a
 rw [if_neg (λe=>c (of_decide_eq_true e))];refine q8 (h:=h) (v:=decide (op∈ [15,16,17,18,19,24])) (λk b=>uG [15,16,17,18,19,24] (by simp) b) ?_;by_cases d:op∈ [15,16,17,18,19,24]
 ·rw [if_pos (decide_eq_true d)];rw [if_pos (Or.inr (by simp at d;omega))] at a;exact a
 rw [if_neg (λe=>d (of_decide_eq_true e))];rw [if_neg (by simp at c d;omega)] at a;refine q8 (h:=h) (v:=decide (op∈ [22,29,30])) (λk b=>uG [22,29,30] (by simp) b) ?_;by_cases i:op∈ [22,29,30]
 ·grind
 rw [if_neg (λe=>i (of_decide_eq_true e))];rw [if_neg (by simpa using i)] at a;by_cases j:op=23
 ·grind
 rw [if_neg j] at a;rw [if_neg (by simpa using j)];refine q8 (h:=h) (v:=decide (op∈ [27,28,31,32,33])) (λk b=>uG [27,28,31,32,33] (by simp) b) ?_;grind
theorem zvw {has:Bool} {n:Int} {Q:Int->Hp->Prop} (a:Q (fg has n) h):TH P n has Q h:=by
 unfold TH;unfold fg at a;refine aE ?_;by_cases b:has=false/\n≠0
 ·grind
 rw [if_neg b] at a;rw [if_neg (by grind)];refine aE (aE ?_);grind
theorem aaO {x:aZ} {n ak:Int} {Q:Int->Int->Hp->Prop} (a:Q (j8 (bE x) n ak).1 (j8 (bE x) n ak).2 h):VG prog x n ak Q h:=by
 obtain ⟨o,A,B,C,I⟩:=x;have a:Q (j8 ⟨o,A,B,C,I⟩ n ak).1 (j8 ⟨o,A,B,C,I⟩ n ak).2 h:=a;unfold VG;unfold j8 at a;refine aE ?_;by_cases e:o<0\/34<=o
 ·grind
 rw [if_neg e] at a;rw [if_neg (by simp;omega)];refine zul (ZZ ?_);dsimp only;refine S1 (zvw ?_);by_cases b:fg (jh o).1 A≠0
 ·grind
 rw [if_neg b] at a;rw [if_neg (by simpa using b)];refine S1 (zvw ?_);by_cases c:fg (jh o).2.1 B≠0
 ·grind
 rw [if_neg c] at a;rw [if_neg (by simpa using c)];refine S1 (zvw ?_);by_cases d:fg (jh o).2.2.1 C≠0
 ·grind
 rw [if_neg d] at a;rw [if_neg (by simpa using d)];refine aE ?_;by_cases f:(jh o).2.2.2=false/\I≠0
 ·grind
 rw [if_neg f] at a;rw [if_neg (by grind)];refine aE (aE (aE ?_));by_cases g:(o=22\/o=23)/\(I<0\/n<I)
 ·grind
 rw [if_neg g] at a;rw [if_neg (by grind)];refine aE (aE (aE ?_));grind
theorem KV {x:aZ} {n ak:Int} {Q:Int->Hp->Prop} (a:Q (j8 (bE x) n ak).1 h):VA prog x n ak Q h:=by unfold VA;exact zvt (aaO a)
theorem Y9 {l:Sl} {a:List aZ} {ak:Int} {Q:Int->Int->Hp->Prop} (r:nv h l a) (b:∀at_,Q (jq (a.map bE) ak).1 at_ h):Wz prog l ak Q h:=by
 unfold Wz;have o:l.len=a.length:=r.1;unfold jq at b;rw [List.length_map] at b;refine aE ?_;by_cases f:ak<0\/8<ak
 ·grind
 rw [if_neg f] at b;rw [if_neg (by simp;omega)];by_cases g:256<a.length
 ·grind
 rw [if_neg g] at b;rw [if_neg (by simp;omega)];refine jv (n:=a.length) (by omega) (by omega) (λi e=>e=h/\(j3 (a.length:Int) ak ((a.map bE).drop i) i).1=(j3 (a.length:Int) ak (a.map bE) 0).1) ⟨rfl,rfl⟩ ?_ ?_
 ·rintro i hi k ⟨rfl,c⟩ K m;refine kV (sh:=aU) r λx d=> ?_;have d:a[i]? =some x:=d;have j:(a.map bE).drop i=bE x::(a.map bE).drop (i+1):=Bc (by grind);rw [j,j3] at c;refine zmi (KV ?_);grind
 ·rintro k ⟨rfl,c⟩;rw [List.drop_of_length_le (by simp),j3] at c;grind
theorem FF {n a b:Int} {Q:Bool->Hp->Prop} (c:Q (jG n a b) h):Uy P n a b Q h:=by unfold Uy;exact aE c
end
section
variable {h:Hp}
theorem Z0 {l:Sl} {a:List Int} {n:Nat} {Q:Int->Hp->Prop} (r:Is h l a) (s:n<=8) (f:Q (if a=[] then 1 else if 64<a.length then 3 else if (a.all λp=>jG p 0 ((n:Int)-1))=false then 2 else 0) h):Uw prog l (n:Int) Q h:=by
 unfold Uw;have q:l.len=a.length:=r.1;by_cases c:a=[]
 ·grind
 rw [if_neg c] at f;have hp:=List.length_pos_iff.2 c;rw [if_neg (by grind)];by_cases d:64<a.length
 ·grind
 rw [if_neg d] at f;rw [if_neg (λe=>d (by grind))];rw [wrap64 (n:=(n:Int)-1) (by omega) (by omega)];refine jv (n:=a.length) (by omega) (by omega) (λi j=>j=h/\∀x∈a.take i,jG x 0 ((n:Int)-1)=true) ⟨rfl,λx b=>by simp at b⟩ ?_ ?_
 ·rintro i hi k ⟨rfl,o⟩ K m;refine kV (sh:=ab .i64) r λ(x:Int) b=> ?_;have b:a[i]? =some x:=b;refine Fx (FF ?_);by_cases g:jG x 0 ((n:Int)-1)=true
  ·rw [if_neg (by rw [g];simp)];refine m k ⟨rfl,λy hy=> ?_⟩;rw [List.take_add_one,b] at hy;rcases List.mem_append.1 hy with hy | hy
   ·exact o y hy
   ·have:y=x:=by simpa using hy
    rw [this];exact g
  grind
 grind
theorem SP {P:Program} {l:Sl} {a:List Int} {Q:Int->Int->Hp->Prop} (r:Us h l a) (b:Q (jf a).1 (jf a).2 h):zsl P l Q h:=E8 (P:=P) r b
theorem UY (a b c d:Bool) {i:Nat} (hi:i<4):List.get?Internal (α:=Value) [.bool a,.bool b,.bool c,.bool d] (0+(i*1))=some (.bool (([a,b,c,d]:List Bool).getD i false)):=by
 match i,hi with
 | 0,_=>rfl
 | 1,_=>rfl
 | 2,_=>rfl
 | 3,_=>rfl
theorem J5 {x:aw} {c:bd} {Q:Int->Int->Hp->Prop} (a:eo h x c) (b:∀at_,Q (fq c).1 at_ h):Wx prog x Q h:=by
 unfold Wx;have C:x.bg.len=c.labels.length:=a.labels.1;unfold fq uq at b;refine zyp (SP a.labels ?_);dsimp only;by_cases l:(jf c.labels).1≠0
 ·grind
 rw [if_neg l] at b;rw [if_neg (by simpa using l)];obtain ⟨P,B,_⟩:=iG.1 (Classical.not_not.1 l);rw [C];refine zuh (Z0 a.table B ?_);by_cases u:c.table=[]
 ·grind
 rw [if_neg u] at b ⊢;by_cases v:64<c.table.length
 ·grind
 rw [if_neg v] at b ⊢;by_cases w:(c.table.all λp=>jG p 0 (c.labels.length-1))=false
 ·grind
 rw [if_neg w] at b ⊢;rw [iT];refine Fx (FF ⟨⟨trivial,trivial,trivial,trivial⟩,Fx (FF ⟨⟨trivial,trivial,trivial⟩,Fx (FF ⟨⟨trivial,trivial⟩,Fx (FF ?_)⟩)⟩)⟩);rw [a.fuel,a.lane,a.ak,a.log];refine jv (n:=4) rfl (by omega) (λi t=>t=h/\(1<=i->jG c.fuel 1 256=true)/\(2<=i->jG c.lane 1 64=true)/\(3<=i->jG c.ak 0 8=true)/\(4<=i->jG c.log 0 4096=true)) ⟨rfl,λe=>by omega,λe=>by omega,λe=>by omega,λe=>by omega⟩ ?_ ?_
 ·rintro i hi k ⟨rfl,J,L,M,N⟩ K z;refine ⟨⟨by omega,by omega⟩,_,UY _ _ _ _ hi,?_⟩;grind
 ·rintro k ⟨rfl,J,L,M,N⟩;rw [if_neg (by grind),if_neg (by grind),if_neg (by grind),if_neg (by grind)] at b;obtain ⟨j,m,s⟩:=a.procs;have R:x.aC.len=j.length:=m.1;have S:=s.len;by_cases o:c.procs=[]
  ·grind
  rw [if_neg o] at b;have U:0<c.procs.length:=List.length_pos_iff.2 o;rw [if_neg (by grind)];by_cases r:32<c.procs.length
  ·grind
  rw [if_neg r] at b;rw [if_neg (λe=>r (by grind))];refine jv (n:=j.length) (by omega) (by omega) (λi F=>F=k/\(ug c.labels.length c.ak (c.procs.drop i) i).1=(ug c.labels.length c.ak c.procs 0).1) ⟨rfl,rfl⟩ ?_ ?_
  ·rintro i hi G ⟨rfl,d⟩ K z;refine Rw.mh m (λ_=>rfl) (by omega) (sh:=ab .i64) (λq=>q.Part) (λ_=>rfl) (by omega) (by omega) λq g=> ?_;have g:j[i]? =some q:=g;obtain ⟨H,D,E,V,A,T⟩:=s.get g;rw [Bc D,ug] at d;rw [wrap64 (n:=(c.labels.length:Int)-1) (by omega) (by omega)];refine Fx (FF ?_);rw [E];by_cases y:jG H.part 0 ((c.labels.length:Int)-1)=false
   ·grind
   rw [if_neg y] at d;rw [if_neg (by grind)];refine Rw.mh m (λ_=>rfl) (by omega) (sh:=af) (λq=>q.Code) (λ_=>rfl) (by omega) (by omega) λI f=> ?_;have f:j[i]? =some I:=f;rw [g] at f;cases f;refine zyq (Y9 A λO=> ?_);grind
  ·rintro G ⟨rfl,d⟩;rw [List.drop_of_length_le (by omega),ug] at d;grind
theorem Mx {a n:Int} {Q:Bool->Hp->Prop} (d:lW a) (b:0<=n) (c:n<=63) (f:Q (bit a n.toNat) h):WQ prog a n Q h:=by
 unfold WQ;refine aE ⟨λ_=>b,aE ?_⟩;have e:(decide (n>=0)&&decide (n<=63))=true:=by simp;omega
 rw [e,WS d b c,Bool.true_and];exact f
theorem aaQ {a b:Int} {Q:Bool->Hp->Prop} (i:lW a) (hb:lW b) (r:Q (mi a b) h):VE prog a b Q h:=by
 unfold VE;refine jv (n:=64) rfl (by omega) (λn k=>k=h/\∀m:Nat,m<n->bit a m=true->bit b m=true) ⟨rfl,λm c=>by omega⟩ ?_ ?_
 ·rintro n l k ⟨rfl,d⟩ K g;refine zoy (Mx i (by omega) (by omega) ?_);have o:(bit a n=true->bit b n=true)->K (yw ((n:Int)+1)) k:=λq=>g k ⟨rfl,λm c=>by
   grind⟩
  rw [show ((n:Int)).toNat=n from rfl];cases f:bit a n with
  | false=>refine ⟨λe=>(by cases e),λ_=>⟨false,aE ?_⟩⟩;grind
  | true=>
   refine ⟨λ_=>zoy (Mx hb (by omega) (by omega) (aE ?_)),λe=>(by cases e)⟩;rw [show ((n:Int)).toNat=n from rfl];cases p:bit b n with
   | false=>
    rw [if_pos (by simp)];have:mi a b=false:=by refine Bool.eq_false_iff.2 λj=> ?_;have:=mL.1 j n l f;grind
    grind
   | true=>grind
 ·rintro k ⟨rfl,d⟩;have:mi a b=true:=mL.2 λm c=>d m c;grind
end
theorem AQ {n:Nat} (hb:n<=4611686018427387904) (I:Nat->Hp->Prop) {B:(Int->Hp->Prop)->Int->Hp->Prop} {b:Hp} (c:I 0 b)
  (f:∀i:Nat,i<=n->∀h,I i h->∀K:Int->Hp->Prop,(i<n->∀a,I (i+1) a->K (yw ((i:Int)+1)) a)->B K (i:Int) h):au B (0:Int) b:=by
 refine au.intro (λt h=>∃i:Nat,t=(i:Int)/\i<=n/\I i h) (λt _=>((n:Int)-t).toNat) ⟨0,rfl,by omega,c⟩ ?_;rintro t h ⟨i,rfl,hi,d⟩;refine f i hi h d _ λg a e=> ?_;rw [aI];exact ⟨⟨i+1,by omega,by omega,e⟩,by omega⟩
theorem ri {a:Type} {n:Nat} (hb:n<=4611686018427387904) (I:Nat->a->Hp->Prop) {B:(a->Int->Hp->Prop)->a->Int->Hp->Prop} {e:a} {d:Hp} (f:I 0 e d)
  (k:∀i:Nat,i<=n->∀x h,I i x h->∀K:a->Int->Hp->Prop,(i<n->∀c b,I (i+1) c b->K c (yw ((i:Int)+1)) b)->B K x (i:Int) h):bq B e (0:Int) d:=by
 refine bq.intro (λx t h=>∃i:Nat,t=(i:Int)/\i<=n/\I i x h) (λ_ t _=>((n:Int)-t).toNat) ⟨0,rfl,by omega,f⟩ ?_;rintro x t h ⟨i,rfl,hi,g⟩;refine k i hi x h g _ λl c b j=> ?_;rw [aI];exact ⟨⟨i+1,by omega,by omega,j⟩,by omega⟩
theorem KI {y r:Bool} {A B:Prop} (b:y=true↔¬A) (a:(!y)=true->(r=true↔B)):(y || !r)=true↔¬(A/\B):=by grind
theorem sZ {y r:Bool} {A B:Prop} (b:y=true↔¬A) (a:A->(r=true↔¬B)):(y || r)=true↔¬(A/\B):=by grind
theorem EM {c:bd} (ok:(fq c).1=0):(1<=c.labels.length/\c.labels.length<=8)/\(0<=c.ak/\c.ak<=8)/\(0<=c.log/\c.log<=4096)/\(1<=c.lane/\c.lane<=64)/\(1<=c.procs.length/\c.procs.length<=32)/\
  ∀p∈c.procs,(0<=p.part/\p.part<=c.labels.length-1)/\p.code.length<=256/\∀x∈p.code,(j8 x p.code.length c.ak).1=0:=by
 obtain ⟨d,j,k,l,m,f,b,g,h,e,a⟩:=jm.1 ok;obtain ⟨i,n,o⟩:=iG.1 d;have:=List.length_pos_iff.2 i;have:=List.length_pos_iff.2 h;refine ⟨⟨by omega,by omega⟩,b,g,f,⟨by omega,e⟩,λp hp=>⟨(a p hp).1,(Df b).1 (a p hp).2⟩⟩
def Gb (x:aw) (y:aB):List Value:=[x.bg.v,x.Table.v,(.int .i64 x.Fuel),(.int .i64 x.gy),(.int .i64 x.bR),(.int .i64 x.Log),x.aC.v,(.int .i64 y.di),y.bt.v,y.aC.v]
structure RM (h:Hp) (b:Nat) (x:aw) (y:aB) (c:bd) (s:fe):Prop where
 box:fb h b (Gb x y)
 cfg:eo h x c
 st:cW h y s
 ok:(fq c).1=0
 Fw:∀l∈c.labels,lW l
 gP:xn c s
section
variable {h:Hp} {b:Nat} {x:aw} {y:aB} {c:bd} {s:fe}
theorem RM.mono {d:Hp} (a:h<=d) (k:RM h b x y c s):RM d b x y c s:=⟨k.box.le a,k.cfg.mono a,k.st.mono a,k.ok,k.Fw,k.gP⟩
theorem Pl {P:Program} {n a b:Int} {Q:Bool->Hp->Prop} (d:∀r,(r=true↔a<=n/\n<=b)->Q r h):UC P n a b Q h:=by unfold UC;exact aE (d _ (by simp))
theorem Pq {P:Program} {n:Int} {Q:Bool->Hp->Prop} (a:∀r,(r=true↔fF n)->Q r h):TU P n Q h:=by unfold TU;exact aE (a _ (by simp [fF]))
theorem aaS {P:Program} (k:RM h b x y c s) {p:Int} {z:ai} (h0:0<=p) (j:s.procs[p.toNat]? =some z) {Q:Bool->Hp->Prop} (f:Q (decide (z.state<5)) h):Ss P (some ⟨b,0,none⟩) p Q h:=by unfold Ss;obtain ⟨o,i,e⟩:=k.st.procs;obtain ⟨q,d,g⟩:=e.get' j;have l:=(List.getElem?_eq_some_iff.1 d).1;refine aP (eB (sh:=af) y.aC (k.box.fw (off:=9) (n:=1) rfl) ?_);refine Rw.mh i (λ_=>rfl) (by omega) (sh:=ab .i64) (λq=>q.State) (λ_=>rfl) h0 (by omega) λm a=> ?_;rw [d] at a;cases a;rw [g.state];exact f
theorem EA (k:RM h b x y c s) {p:Int} {i:Nat} {Q:Bool->Hp->Prop} (u:∀r,(r=true↔rn c s p i)->Q r h):OD prog (some ⟨b,0,none⟩) p (i:Int) Q h:=by
 unfold OD;obtain ⟨E,j,d⟩:=k.cfg.procs;have K:x.aC.len=E.length:=j.1;have I:=d.len;have J:=k.gP.1.2.2;have g:aR h (Addr.add (Addr.add ⟨b,0,none⟩ 0) 6) (ba (af.enc x.aC)):=k.box.fw (off:=6) (n:=1) rfl;refine aP (mE (sh:=af) x.aC g (aE (aP (mE (sh:=af) x.aC g ?_))));refine Rw.pf j (λ_=>rfl) (by omega) (sh:=ab .i64) (λq=>q.Part) (λ_=>rfl) (0:Int) (λe=>by simp at e;omega) λv C=>λF a=> ?_;have o:F=true↔jR c p i:=by
  rw [a];unfold jR;constructor
  ·intro e;simp only [Bool.and_eq_true,decide_eq_true_eq,beq_iff_eq] at e;obtain ⟨q,l,A⟩:=C (by simp;omega);obtain ⟨y,a,D,_⟩:=d.get l;grind
  ·rintro ⟨f,y,a,D⟩;obtain ⟨q,l,A,_⟩:=d.get' a;grind
 refine ju (λr=>r=true↔qE s p λz=>z.state<5) false (λe t=> ?_) λr L=>aE (u _ ?_)
 ·obtain ⟨f,w,B,_⟩:=o.1 e;have M:=(List.getElem?_eq_some_iff.1 B).1;have m:s.procs[p.toNat]? =some (s.procs[p.toNat]'(by omega)):=List.getElem?_eq_getElem (by omega);refine zow (aaS k f m (t _ ?_));rw [decide_eq_true_eq];exact ⟨λe=>⟨_,m,e⟩,λ⟨z,G,H⟩=>by grind⟩
 ·unfold rn;grind
theorem SR (k:RM h b x y c s) {i:Nat} {Q:Sl->Hp->Prop} (C:∀l d,h<=d->l.len=jz c i->Q l d):S8 prog (some ⟨b,0,none⟩) (i:Int) Q h:=by
 unfold S8;obtain ⟨-, -, -, -,J, -⟩:=EM k.ok;have A:∀j:Nat,((c.procs.take j).filter λy=>decide (y.part=(i:Int))).length<=j:=λj=>by grind
 refine uJ (h0:=h) (xs:=([]:List Int)) (enc:=λx=>ba ((ab .i64).enc x)) (sz:=1) (Hp.le_refl h) rfl (λ_=>rfl) λa L F H=> ?_;refine ri (n:=c.procs.length) (by omega) (λj l d=>h<=d/\∃xs:List Int,Bm h d l xs/\xs.length=((c.procs.take j).filter λy=>decide (y.part=(i:Int))).length) ⟨F,[],H,by simp⟩ ?_;rintro j O l w ⟨g,xs,o,f⟩ K M;have u:=k.mono g;obtain ⟨v,t,r⟩:=u.cfg.procs;have R:x.aC.len=v.length:=t.1;have P:=r.len;have p:aR w (Addr.add (Addr.add ⟨b,0,none⟩ 0) 6) (ba (af.enc x.aC)):=u.box.fw (off:=6) (n:=1) rfl;refine aP (eB (sh:=af) x.aC p ?_);by_cases B:j<c.procs.length
 ·rw [if_pos (fT)];refine bH.intro (λl d=>h<=d/\∃xs:List Int,Bm h d l xs/\xs.length=((c.procs.take (j+1)).filter λy=>decide (y.part=(i:Int))).length) ?_ ?_
  ·refine aP (eB (sh:=af) x.aC p ?_);refine Rw.mh t (λ_=>rfl) (by omega) (sh:=ab .i64) (λq=>q.Part) (λ_=>rfl) (by omega) (by omega) λq m=> ?_;have m:v[j]? =some q:=m;obtain ⟨z,D,E,_⟩:=r.get m;rw [List.take_add_one,D,List.filter_append];have N:=A j;rw [E];by_cases hp:z.part=(i:Int)
   ·rw [if_pos (by simpa using hp)];refine Xf (xs:=xs) (ys:=[(j:Int)]) g o rfl rfl (λ_=>rfl) (λ_=>rfl) rfl (by simp;omega) λS d G I _=> ?_;exact ⟨G,_,I,by simp [hp,f]⟩
   ·rw [if_neg (by simpa using hp)];exact ⟨g,xs,o,by simp [hp,f]⟩
  grind
 ·rw [if_neg (λe=>B (by grind))];refine C _ _ g ?_;rw [List.take_of_length_le (by omega)] at f;have:=(o.rw λ_=>rfl).1;show l.len=_;rw [this,f];rfl
theorem Zc (k:RM h b x y c s) {i j:Nat} (hi:i<c.labels.length) (f:j<c.labels.length) {Q:Bool->Hp->Prop} (d:Q (fl c.labels (i:Int) (j:Int)) h):Oy prog (some ⟨b,0,none⟩) (i:Int) (j:Int) Q h:=by unfold Oy;have a:aR h (Addr.add (Addr.add ⟨b,0,none⟩ 0) 0) (ba (af.enc x.bg)):=k.box.fw (off:=0) (n:=1) rfl;refine aP (eB (sh:=af) x.bg a ?_);refine kV (sh:=ab .u64) k.cfg.labels λ(u:Int) e=> ?_;refine aP (eB (sh:=af) x.bg a ?_);refine kV (sh:=ab .u64) k.cfg.labels λ(v:Int) hv=> ?_;rw [AK (by omega) e hv] at d;exact zvs (aaQ (k.Fw _ (List.mem_of_getElem? e)) (k.Fw _ (List.mem_of_getElem? hv)) d)
end
def oJ {e f:Type} (R:e->f->Hp->List Nat->Prop):List e->List f->Hp->List Nat->Prop
 | [],[],_,B=>B=[]
 | a::l,b::m,h,B=>∃c d,B=c++d/\R a b h c/\oJ R l m h d
 | _,_,_,_=>False
structure iA {α β:Type} (R:α->β->Hp->List Nat->Prop):Prop where
 same:∀ {a b h h' B},R a b h B->(∀c∈B,h' c=h c)->R a b h' B
 known:∀ {a b h B},R a b h B->∀c∈B,h c≠none
section
variable {α β:Type} {R:α->β->Hp->List Nat->Prop} {h h':Hp}
theorem oJ.same (ok:iA R):∀ {l:List α} {m:List β} {B:List Nat},oJ R l m h B->(∀c∈B,h' c=h c)->oJ R l m h' B
 | [],[],_,o,_=>o
 | _::_,_::_,_,⟨b,d,e,g,i⟩,a=>⟨b,d,e,ok.same g λc f=>a c (by grind),oJ.same ok i λc f=>a c (by grind)⟩
 | [],_::_,_,o,_=>o.elim
 | _::_,[],_,o,_=>o.elim
theorem oJ.known (ok:iA R):∀ {l:List α} {m:List β} {B:List Nat},oJ R l m h B->∀c∈B,h c≠none
 | [],[],_,o,c,hc=>by rw [show _=[] from o] at hc;cases hc
 | _::_,_::_,_,⟨d,f,e,a,b⟩,c,hc=>by
  rw [e] at hc;rcases List.mem_append.1 hc with hc | hc
  ·exact ok.known a c hc
  ·exact oJ.known ok b c hc
 | [],_::_,_,o,_,_=>o.elim
 | _::_,[],_,o,_,_=>o.elim
theorem oJ.snoc {a:α} {b:β} {B':List Nat} (e:R a b h B'):∀ {l:List α} {m:List β} {B:List Nat},oJ R l m h B->oJ R (l++ [a]) (m++ [b]) h (B++B')
 | [],[],_,o=>by rw [show _=[] from o];exact ⟨B',[],by simp,e,rfl⟩
 | _::_,_::_,_,⟨c,d,i,f,g⟩=>⟨c,d++B',by grind,f,oJ.snoc e g⟩
 | [],_::_,_,o=>o.elim
 | _::_,[],_,o=>o.elim
theorem oJ.Bq {S:α->β->Prop} (hi:∀a b B,R a b h B->S a b):∀ {l:List α} {m:List β} {B:List Nat},oJ R l m h B->dB S l m
 | [],[],_,_=>trivial
 | _::_,_::_,_,⟨c,_,_,d,e⟩=>⟨hi _ _ c d,oJ.Bq hi e⟩
 | [],_::_,_,o=>o.elim
 | _::_,[],_,o=>o.elim
theorem db.one {sz:Nat} {enc:α->List Value} {l:Sl} {a:List α} {F:List Nat} (o:db h sz enc l a F):F=[]\/∃b,F=[b]:=by obtain ⟨_,_,o⟩:=o;grind
theorem db.nodup {sz:Nat} {enc:α->List Value} {l:Sl} {a:List α} {F:List Nat} (o:db h sz enc l a F):F.Nodup:=by rcases o.one with e | ⟨b,e⟩<;>rw [e]<;>simp
end
def fD {c d:Type} (S:c->d->Prop) (a:c) (b:d) (_:Hp) (B:List Nat):Prop:=B=[]/\S a b
theorem fD.ok {α β:Type} (S:α->β->Prop):iA (fD S):=⟨λo _=>o,λo c a=>by rw [o.1] at a;cases a⟩
def cf {c:Type} (sh:Shape) (sz:Nat) (R:sh.T->c->Hp->List Nat->Prop) (l:Sl) (d:List c) (h:Hp) (B:List Nat):Prop:=
 ∃(xs:List sh.T) (a b:List Nat),B=a++b/\db h sz (λx=>ba (sh.enc x)) l xs a/\oJ R xs d h b
section
variable {β:Type} {sh:Shape} {sz:Nat} {R:sh.T->β->Hp->List Nat->Prop} {l:Sl} {ps:List β} {h h':Hp} {B:List Nat}
theorem cf.nil :cf sh sz R ⟨none,0,0⟩ [] h []:=⟨[],[],[],rfl,⟨rfl,Nat.le_refl _,.inl ⟨rfl,rfl,rfl⟩⟩,rfl⟩
theorem cf.ok (ok:iA R):iA (cf sh sz R) where
 same:=by rintro a b h h' B ⟨xs,g,i,e,d,f⟩ j;exact ⟨xs,g,i,e,d.same λc hc=>j c (by grind),f.same ok λc hc=>j c (by grind)⟩
 known:=by
  rintro a b h B ⟨xs,g,i,e,d,f⟩ c hc;rw [e] at hc;rcases List.mem_append.1 hc with hc | hc
  ·exact d.known c hc
  ·exact f.known ok c hc
theorem cf.len (o:cf sh sz R l ps h B):l.len=ps.length:=by obtain ⟨xs,c,d,e,a,b⟩:=o;have:=(b.Bq (S:=λ_ _=>True) λ_ _ _ _=>trivial).len;rw [<-this];exact a.1
theorem cf.rows {S:sh.T->β->Prop} (d:∀x,(ba (sh.enc x)).length=sz) (hi:∀a b B,R a b h B->S a b) (o:cf sh sz R l ps h B):∃c,Rs h sh sz l c/\dB S c ps:=by obtain ⟨c,i,j,e,f,g⟩:=o;exact ⟨c,f.rw d,g.Bq hi⟩
theorem UZ (ok:iA R) (o:cf sh sz R l ps h B) {v:sh.T} {p:β} {d:List Nat} (e:R v p h d) (nd:(B++d).Nodup) {x:Sl} (J:Rs h sh sz x [v]) (D:∀x,(ba (sh.enc x)).length=sz) (I:∀x,iX (ba (sh.enc x))=true)
  {zero:List Value} {bytes:Nat} (M:zero.length=sz) (hb:ps.length+1<=140737488355328/\(ps.length+1)*bytes<=140737488355328) {K:Sl->Hp->Prop}
  (F:∀i h' k,cf sh sz R i (ps++ [p]) h' k->k.Nodup->(∀b j,h b=some j->b∉B->h' b=some j)->(∀c∈k,c∈B++d\/h c=none)->K i h'):gv sz bytes zero l x K h:=by
 have G:=o.len;obtain ⟨w,y,f,g,s,u⟩:=o;have L:w.length=ps.length:=by rw [<-G];exact s.1.symm
 have N:=u.known ok;have O:=ok.known e;refine sm s J D I M (by rw [L];exact hb) λi h' n t m=> ?_;rw [g] at nd;have W:=nd;rw [List.append_assoc,List.nodup_append] at nd;obtain ⟨V,Q,S⟩:=nd;have q:∀c∈f++d,c∉y:=λc hc hb=>S c hb c hc rfl;have P:∀c∈f++d,h c≠none:=λc hc=>by
  rcases List.mem_append.1 hc with hc | hc
  ·exact N c hc
  ·exact O c hc
 have r:∀c∈f++d,h' c=h c:=WE m P q;have U:=(u.same ok λc hc=>r c (List.mem_append_left _ hc)).snoc (ok.same e λc hc=>r c (List.mem_append_right _ hc));have E:∀c∈n++(f++d),c∈B++d\/h c=none:=λc hc=>by
  rcases List.mem_append.1 hc with hc | hc
  ·rcases m.from_ c hc with hc | hc
   ·exact .inl (by rw [g];simp [hc])
   ·exact .inr hc
  ·refine .inl ?_;rw [g,List.append_assoc];exact List.mem_append_right _ hc
 refine F i h' (n++(f++d)) ⟨w++ [v],n,f++d,rfl,t,U⟩ ?_ (λb j hb H=>m.cT b j hb λC=>H (by rw [g];simp [C])) E;rw [List.nodup_append];refine ⟨t.nodup,Q,λa z b hb A=> ?_⟩;subst A;rcases m.from_ a z with hc | hc
 ·exact q a hb hc
 grind
end
abbrev Ay (l:Sl) (a:List Int) (h:Hp) (B:List Nat):Prop:=cf (ab .i64) 1 (fD Eq) l a h B
abbrev Ol (l:Sl) (a:List Int) (h:Hp) (B:List Nat):Prop:=cf (ab .u64) 1 (fD Eq) l a h B
abbrev FT (l:Sl) (a:List dF) (h:Hp) (B:List Nat):Prop:=cf aU 5 (fD λx p=>bE x=p) l a h B
def qN (q:bO) (p:eu) (h:Hp) (B:List Nat):Prop:=q.Part=p.part/\FT q.Code p.code h B
abbrev KK (l:Sl) (a:List eu) (h:Hp) (B:List Nat):Prop:=cf bV 2 qN l a h B
def qG (x:cd) (p:br) (h:Hp) (B:List Nat):Prop:=
 ∃a b,B=a++b/\Ay x.dm p.values h a/\cf aF 2 (fD λx p=>pB x=p) x.bB p.waiters h b/\x.jk=p.taken/\x.fM=p.dropped
def ma (x:bh) (p:ai) (h:Hp) (B:List Nat):Prop:=
 cf bD 4 qG x.cC p.ae h B/\x.State=p.state/\x.PC=p.pc/\ [x.cD,x.cE,x.cF,x.cG,x.cH,x.cI,x.cJ,x.cK]=p.aO/\x.Cursor=p.ag/\x.Timer=p.timer/\x.gx=p.bK/\x.jl=p.cp
def th (x:bS) (p:cR) (h:Hp) (B:List Nat):Prop:=
 ∃a b c,B=a++(b++c)/\cf du 3 (fD λx p=>uU x=p) x.Log p.log h a/\Ay x.bN p.av h b/\cf af 1 Ay x.bI p.ah h c/\x.Cursor=p.ag/\x.lJ=p.lost/\x.eD=p.forbidden
def sk (x:aB) (p:fe) (h:Hp) (B:List Nat):Prop:=
 ∃a b,B=a++b/\cf bQ 6 th x.bt p.parts h a/\cf aN 15 ma x.aC p.procs h b/\x.di=p.tick
def Bi (x:aw) (c:bd) (h:Hp) (B:List Nat):Prop:=
 ∃a b d,B=a++(b++d)/\Ol x.bg c.labels h a/\Ay x.Table c.table h b/\KK x.aC c.procs h d/\x.Fuel=c.fuel/\x.gy=c.lane/\x.bR=c.ak/\x.Log=c.log
theorem lO :iA Ay:=cf.ok (fD.ok _)
theorem v8 :iA Ol:=cf.ok (fD.ok _)
theorem v7 :iA FT:=cf.ok (fD.ok _)
theorem xq :iA qN:=⟨λo a=>⟨o.1,v7.same o.2 a⟩,λo=>v7.known o.2⟩
theorem nn :iA KK:=cf.ok xq
theorem pW {a b:List Nat} {c:Nat} (h:c∈a):c∈a++b:=List.mem_append_left _ h
theorem mW {b a:List Nat} {c:Nat} (h:c∈a):c∈b++a:=List.mem_append_right _ h
theorem s6 :iA qG where
 same:=by rintro a b h k B ⟨f,g,rfl,d,e,j⟩ i;exact ⟨f,g,rfl,lO.same d λc hc=>i c (pW hc),(cf.ok (fD.ok _)).same e λc hc=>i c (mW hc),j⟩
 known:=by
  rintro a b h B ⟨f,g,rfl,d,e,j⟩ c hc;rcases List.mem_append.1 hc with hc | hc
  ·exact lO.known d c hc
  ·exact (cf.ok (fD.ok _)).known e c hc
theorem wJ :iA ma:=⟨λo a=>⟨(cf.ok s6).same o.1 a,o.2⟩,λo=>(cf.ok s6).known o.1⟩
theorem xt :iA th where
 same:=by rintro a b h m B ⟨i,j,k,rfl,e,f,g,l⟩ d;exact ⟨i,j,k,rfl,(cf.ok (fD.ok _)).same e λc hc=>d c (pW hc),lO.same f λc hc=>d c (mW (pW hc)),(cf.ok lO).same g λc hc=>d c (mW (mW hc)),l⟩
 known:=by
  rintro a b h B ⟨i,j,k,rfl,e,f,g,l⟩ c hc;rcases List.mem_append.1 hc with hc | hc
  ·exact (cf.ok (fD.ok _)).known e c hc
  ·rcases List.mem_append.1 hc with hc | hc
   ·exact lO.known f c hc
   ·exact (cf.ok lO).known g c hc
theorem Xh :iA sk where
 same:=by rintro a b h k B ⟨f,g,rfl,d,e,j⟩ i;exact ⟨f,g,rfl,(cf.ok xt).same d λc hc=>i c (pW hc),(cf.ok wJ).same e λc hc=>i c (mW hc),j⟩
 known:=by
  rintro a b h B ⟨f,g,rfl,d,e,j⟩ c hc;rcases List.mem_append.1 hc with hc | hc
  ·exact (cf.ok xt).known d c hc
  ·exact (cf.ok wJ).known e c hc
theorem Gx :iA Bi where
 same:=by rintro a b h m B ⟨i,j,k,rfl,e,f,g,l⟩ d;exact ⟨i,j,k,rfl,v8.same e λc hc=>d c (pW hc),lO.same f λc hc=>d c (mW (pW hc)),nn.same g λc hc=>d c (mW (mW hc)),l⟩
 known:=by
  rintro a b h B ⟨i,j,k,rfl,e,f,g,l⟩ c hc;rcases List.mem_append.1 hc with hc | hc
  ·exact v8.known e c hc
  ·rcases List.mem_append.1 hc with hc | hc
   ·exact lO.known f c hc
   ·exact nn.known g c hc
theorem Fa {a:Type}:∀ {l m:List a},dB Eq l m->l=m
 | [],[],_=>rfl
 | _::_,_::_,h=>by rw [h.1,Fa h.2]
 | [],_::_,h=>h.elim
 | _::_,[],h=>h.elim
theorem zl {a b:Type} {f:a->b}:∀ {l:List a} {m:List b},dB (λx p=>f x=p) l m->l.map f=m
 | [],[],_=>rfl
 | _::_,_::_,h=>by rw [List.map_cons,h.1,zl h.2]
 | [],_::_,h=>h.elim
 | _::_,[],h=>h.elim
section
variable {h:Hp} {B:List Nat}
theorem Ay.rd {l:Sl} {c:List Int} (o:Ay l c h B):Is h l c:=by obtain ⟨f,d,e⟩:=cf.rows (S:=Eq) (λ_=>rfl) (λa b B o=>o.2) o;rw [<-Fa e];exact d
theorem Ol.rd {l:Sl} {c:List Int} (o:Ol l c h B):Us h l c:=by obtain ⟨f,d,e⟩:=cf.rows (S:=Eq) (λ_=>rfl) (λa b B o=>o.2) o;rw [<-Fa e];exact d
theorem qN.rd {q:bO} {p:eu} (o:qN q p h B):kz h q p:=by obtain ⟨e,o⟩:=o;obtain ⟨f,c,d⟩:=cf.rows (S:=λx p=>bE x=p) (λ_=>rfl) (λa b B o=>o.2) o;exact ⟨e,f,c,zl d⟩
theorem Bi.rd {x:aw} {c:bd} (o:Bi x c h B):eo h x c:=by obtain ⟨i,j,k,_,e,f,g,f1,f2,f3,d⟩:=o;exact ⟨e.rd,f.rd,f1,f2,f3,d,cf.rows (λ_=>rfl) (λa b B o=>o.rd) g⟩
theorem qG.rd {x:cd} {p:br} (o:qG x p h B):kr h x p:=by obtain ⟨i,j,_,e,f,f1,f2⟩:=o;obtain ⟨g,c,d⟩:=cf.rows (S:=λx p=>pB x=p) (λ_=>rfl) (λa b B o=>o.2) f;exact ⟨e.rd,⟨g,c,zl d⟩,f1,f2⟩
theorem ma.rd {x:bh} {p:ai} (o:ma x p h B):dV h x p:=by obtain ⟨g,f1,f2,f3,c,d,e,f⟩:=o;exact ⟨f1,f2,f3,c,d,e,f,cf.rows (λ_=>rfl) (λa b B o=>o.rd) g⟩
theorem th.rd {x:bS} {p:cR} (o:th x p h B):gR h x p:=by obtain ⟨j,k,l,_,e,f,g,f1,f2,f3⟩:=o;obtain ⟨i,c,d⟩:=cf.rows (S:=λx p=>uU x=p) (λ_=>rfl) (λa b B o=>o.2) e;exact ⟨f1,⟨i,c,zl d⟩,f2,f3,f.rd,cf.rows (λ_=>rfl) (λa b B o=>Ay.rd o) g⟩
theorem sk.rd {x:aB} {p:fe} (o:sk x p h B):cW h x p:=by obtain ⟨e,f,_,c,d,f1⟩:=o;exact ⟨f1,cf.rows (λ_=>rfl) (λa b B o=>o.rd) c,cf.rows (λ_=>rfl) (λa b B o=>o.rd) d⟩
end
def qL (c:bd) (s:fe) (e:Int):Prop:=((fq c).1≠0/\e=(fq c).1)\/((fq c).1=0/\(e=0/\lZ c s\/e=4/\¬lZ c s))
abbrev RS :Type:=Except (Int×Nat) Nat
section
end
section
variable {d h:Hp} {a:Nat} {c:Sl} {b:List UInt8} {r:RS}
def PU (x:aw):List Value:=ba (aK.enc x)
end
theorem fi {P M S a b:List Nat} {k:Hp} (nd:(P++(M++S)).Nodup) (d:a.Nodup) (e:∀c∈a,c∈M++b\/k c=none) (f:∀c∈P++S,k c≠none) (hb:∀c∈b,c∉P++S):(P++(a++S)).Nodup:=by grind
section
end
theorem forA {a:Type} {len:Int} {n:Nat} (q:len=(n:Int)) (hb:n<=4611686018427387904) (I:Nat->a->Hp->Prop) {B:(a->Int->Hp->Prop)->a->Int->Hp->Prop} {X:a->Int->Hp->Prop} {j:a} {d:Hp} (l:I 0 j d)
  (o:∀i:Nat,i<n->∀x h,I i x h->∀K:a->Int->Hp->Prop,(∀c b,I (i+1) c b->K c (yw ((i:Int)+1)) b)->B K x (i:Int) h) (p:∀x h,I n x h->X x (n:Int) h):
  bq (λk x t h=>if decide (t<len)=true then B k x t h else X x t h) j (0:Int) d:=by
 refine bq.intro (λx t h=>∃i:Nat,t=(i:Int)/\i<=n/\I i x h) (λ_ t _=>(len-t).toNat) ⟨0,rfl,by omega,l⟩ ?_;rintro x t h ⟨i,rfl,hi,f⟩;by_cases g:i<n
 ·rw [if_pos (fT)];refine o i g x h f _ λc b m=> ?_;rw [aI];exact ⟨⟨i+1,by omega,by omega,m⟩,by omega⟩
 ·rw [if_neg (λe=>g (by have:=of_decide_eq_true e;omega))];have:i=n:=by omega
  subst this;exact p x h f
section
end
section
end
theorem wU {b d:Type} {f:b->List d} {B:Nat}:∀(l:List b),(∀x∈l,(f x).length<=B)->(l.flatMap f).length<=l.length*B
 | [],_=>by simp
 | x::l,a=>by have e:=a x (List.mem_cons_self ..);have g:=wU l λy c=>a y (List.mem_cons_of_mem _ c);rw [List.flatMap_cons,List.length_append,List.length_cons,Nat.add_mul,Nat.one_mul];omega
def BS :aB:=⟨0,⟨none,0,0⟩,⟨none,0,0⟩⟩
theorem eqF {P:Program} (d:Nat) (a b:Array Value):∀(L:List (Field×IntKind×Int×Int)) (w:World),
  (∀q∈L,q.1.name≠ "_" ∧P.underlying q.1.type=some (.int q.2.1)∧a[q.1.offset]? =some (.int q.2.1 q.2.2.1)∧b[q.1.offset]? =some (.int q.2.1 q.2.2.2))→
  (Op.eqFields (d+1) a b (L.map (·.1))).run P w=.ok (L.all λq=>q.2.2.1==q.2.2.2) w
 | [],w,_=>by simp [Op.eqFields]
 | q::L,w,h=>by
  obtain ⟨e,c,f,g⟩:=h q (List.mem_cons_self ..);have k:=eqF d a b L w λl j=>h l (List.mem_cons_of_mem _ j);have i:(isAgg q.1.type).run P w=.ok false w:=by simp [isAgg,run_underlying c]
  simp only [List.map_cons,Op.eqFields,Sem.run_bind,if_pos e,part,i,Result.andThen_ok,Bool.false_eq_true,if_false,f,g,Sem.run_pure,run_equalIn_int w d q.1.type q.2.1 q.2.1 q.2.2.1 q.2.2.2 c];cases hb:(q.2.2.1==q.2.2.2) with
  | false=>simp [hb]
  | true=>simp [hb,k]
theorem SV {P:Program} {t:Nat} {x y:Operand} {h:Hp} {a b:Array Value} (L:List (Field×IntKind×Int×Int)) (e:P.underlying t=some (.struct (L.map (·.1)).toArray)) (i:P.eqGuardType P.depth t=false) (hp:P.stoodInHeld t=false)
  (g:∀q∈L,q.1.name≠ "_" ∧P.underlying q.1.type=some (.int q.2.1)∧a[q.1.offset]? =some (.int q.2.1 q.2.2.1)∧b[q.1.offset]? =some (.int q.2.1 q.2.2.2)):
  kA P (dt .eql t x y (.agg a) (.agg b)) h (.bool (L.all λq=>q.2.2.1==q.2.2.2)):=by
 refine Pw λw=> ?_;have d:P.fieldsOf t=(L.map (·.1)).toArray:=by unfold Program.fieldsOf;rw [e]
 have j:P.underlying t=some (.struct (P.fieldsOf t)):=by rw [d];exact e
 have c:=run_equalIn_struct (P:=P) w 9999 t a b j hp;rw [d] at c;have f:=eqF (P:=P) 9998 a b L w g;unfold dt;simp only [Sem.run_bind,run_eqGuard_agg w .eql t x y a b i,Result.andThen_ok,run_eql_struct];rw [show (10000:Nat)=9999+1 from rfl,c];simp only [f,Result.andThen_ok]
structure FQ (c:bd):Prop where
 labels:c.labels.length<=140737488355328
 table:c.table.length<=140737488355328
 procs:c.procs.length<=140737488355328
 code:∀p∈c.procs,p.code.length<=140737488355328
structure CO (l:br):Prop where
 values:l.values.length<=140737488355328
 waiters:l.waiters.length<=140737488355328
structure lK (s:fe):Prop where
 parts:s.parts.length<=140737488355328
 procs:s.procs.length<=140737488355328
 log:∀x∈s.parts,x.log.length<=140737488355328/\x.av.length<=140737488355328/\x.ah.length<=140737488355328/\∀q∈x.ah,q.length<=140737488355328
 ae:∀x∈s.procs,x.ae.length<=140737488355328/\∀l∈x.ae,CO l
section
end
def vt (c:bd) (s:fe) (i:Nat) (l:List uh) (k:Nat) (e:uh):Prop:=
 (0<=e.tick/\e.tick<=s.tick-1)/\(∀d,0<k->l[k-1]? =some d->d.tick<=e.tick)/\jR c e.proc i
def FY (c:bd) (s:fe) (i:Nat) (z:cR) (k:Nat) (o:Int):Prop:=
 (o= -1\/rn c s o i)/\∀q,z.ah[k]? =some q->(o= -1->q=[])/\∀p∈q,rn c s p i/\(qE s p λz=>z.state=3)/\o≠p
section
variable {h:Hp} {b:Nat} {x:aw} {y:aB} {c:bd} {s:fe}
theorem aaV (k:RM h b x y c s) {i:Nat} {l:List uh} {g:List dw} {L:Sl} (T:FR h L g) (M:g.map uU=l) {j:Nat} {e:dw} (S:g[j]? =some e) (hj:j<4611686018427387904) {K:Bool->Prop} (W:∀r,(r=true↔¬vt c s i l j (uU e))->K r):
  ∀a:Bool,(a=true↔0<=e.di/\e.di<=s.tick-1)->
  ((((!(!a))&&(decide ((j:Int)>(0:Int))))=true->(aG L.base L.len (yw ((j:Int)-(1:Int)))))/\aD (some ((!(!a))&&(decide ((j:Int)>(0:Int))))) (ab .i64) h (Addr.add (sat L.base 3 (yw ((j:Int)-(1:Int)))) 0) λw=>
   aA ((decide ((j:Int)>(0:Int)))&&(decide (e.di<w))) λy6=>
   aA ((!a) || y6) λA=>
   aA (A || (decide (e.bT<(0:Int)))) λB=>
   aj (some (!B)) (some ⟨b,0,none⟩) λp3=>
   aD (some (!B)) af h (Addr.add (Addr.add p3 0) 6) λx6=>
   aA (B || (decide (e.bT>=((x6.len:Nat):Int)))) λf=>
   aj (some (!f)) (some ⟨b,0,none⟩) λp4=>
   aD (some (!f)) af h (Addr.add (Addr.add p4 0) 6) λF=>
   (((!f)=true->(aG F.base F.len e.bT))/\aD (some (!f)) (ab .i64) h (Addr.add (sat F.base 2 e.bT) 0) λx8=>
   aA (f || (x8 !=(i:Int))) λb3=>K b3)):=by
 intro a P;have I:aR h (Addr.add (Addr.add ⟨b,0,none⟩ 0) 6) (ba (af.enc x.aC)):=k.box.fw (off:=6) (n:=1) rfl;obtain ⟨ps,N,J⟩:=k.cfg.procs;have b6:x.aC.len=ps.length:=N.1;have b5:=(List.getElem?_eq_some_iff.1 S).1;rw [aI];refine Rw.pf T (λ_=>rfl) (by omega) (sh:=ab .i64) (λq=>q.di) (λ_=>rfl) (0:Int) (λe=>by simp at e;omega) λ(w:Int) E=>λy6 a8=>λA a9=>λB b0=> ?_;have H:A=true↔¬((0<=e.di/\e.di<=s.tick-1)/\∀d,0<j->l[j-1]? =some d->d.tick<=e.di):=by
  subst a9;refine sZ (y:= !a) (by rw [<-P];simp) λD=> ?_;have Z:a=true:=P.2 D;subst a8;rw [Z] at E;simp only [Bool.and_eq_true,decide_eq_true_eq];constructor
  ·rintro ⟨V,X⟩ U;obtain ⟨d,t,o⟩:=E (by simp;omega);have o:w=d.di:=o;have m:g[j-1]? =some d:=by rw [<-t];congr 1;omega
   have:d.di<=e.di:=U (uU d) (by omega) (by rw [<-M,List.getElem?_map,m];rfl);omega
  ·intro p;refine Classical.byContradiction λb4=>p λd V t=> ?_;obtain ⟨C,m,o⟩:=E (by simp;omega);have o:w=C.di:=o;have m:g[j-1]? =some C:=by rw [<-m];congr 1;omega
   rw [<-M,List.getElem?_map,m] at t;cases t;show C.di<=e.di;omega
 refine aP (mE (sh:=af) x.aC I λf b1=>aP (mE (sh:=af) x.aC I ?_));refine Rw.pf N (λ_=>rfl) (by omega) (sh:=ab .i64) (λq=>q.Part) (λ_=>rfl) (0:Int) (λe=>by grind) λ(v:Int) hv=>aE (W _ ?_);unfold vt;rw [<-and_assoc];subst b1 b0;rw [Bool.or_assoc,Bool.or_assoc];refine sZ H λD=> ?_;have Q:A=false:=by rw [<-Bool.not_eq_true,H];exact λp=>p D
 rw [Q] at hv;unfold jR;simp only [uU,Bool.or_eq_true,decide_eq_true_eq,bne_iff_ne];constructor
 ·rintro hor ⟨G,z,hz,b2⟩;obtain ⟨q,u,Y,_⟩:=J.get' hz;have X:=(List.getElem?_eq_some_iff.1 u).1;obtain ⟨q',O,b7⟩:=hv (by simp;omega);rw [u] at O;cases O;rcases hor with hor | hor | hor
  ·omega
  ·omega
  grind
 ·intro p;by_cases G:e.bT<0
  ·exact .inl G
  by_cases R:e.bT>=((x.aC.len:Nat):Int)
  ·exact .inr (.inl R)
  refine .inr (.inr λb8=>p ?_);obtain ⟨q,u,Y⟩:=hv (by simp;omega);obtain ⟨z,b9,b2,_⟩:=J.get u;grind
theorem QQ (k:RM h b x y c s) (hS:lK s) {i:Nat} {z:cR} (hi:s.parts[i]? =some z) {Q:Bool->Hp->Prop} (hq:∀r f,h<=f->(r=true↔qM c s i z)->Q r f):SE prog (some ⟨b,0,none⟩) (i:Int) Q h:=by
 unfold SE;obtain ⟨f4,e2,b6⟩:=k.st.parts;obtain ⟨w,b3,_⟩:=b6.get' hi;have i4:=(List.getElem?_eq_some_iff.1 b3).1;refine aP (eB (sh:=af) y.bt (k.box.fw (off:=8) (n:=1) rfl) ?_);refine kV (sh:=bQ) e2 λw' O=> ?_;have O:f4[i]? =some w':=O;rw [b3] at O;cases O;refine zrf (SR k λl h1 H d9=> ?_);have D:=k.mono H;obtain ⟨z',d3,A⟩:=(b6.imp λ_ _ e=>gR.mono H e).get b3;rw [hi] at d3;cases d3;obtain ⟨k0,k2,j2⟩:=k.gP.2.1 z (List.mem_of_getElem? hi);obtain ⟨-,⟨f8,f9⟩,⟨f6,f7⟩, -,⟨g4,g5⟩, -⟩:=EM k.ok;obtain ⟨J,W,c5⟩:=A.log;have g6:w.Log.len=J.length:=W.1;have i5:z.log.length=J.length:=by grind
 have g9:w.bN.len=z.av.length:=A.av.1;obtain ⟨I,b1,b7⟩:=A.ah;have h8:w.bI.len=I.length:=b1.1;have h9:=b7.len;have e3:y.di=s.tick:=k.st.tick;have g8:x.Log=c.log:=k.cfg.log;rw [A.ag,A.lost,A.forbidden,d9];refine aE λy1 i6=> ?_;have a1:y1=true↔¬(0<=z.ag/\(0<z.ag->z.ag<jz c i)):=by grind
 refine ju (λr=>r=true↔fF z.lost) false (λ_ d=>OF (Pq d)) λr1 i2=>λy2 i7=> ?_;have a2:y2=true↔¬((0<=z.ag/\(0<z.ag->z.ag<jz c i))/\fF z.lost):=by grind
 refine ju (λr=>r=true↔fF z.forbidden) false (λ_ d=>OF (Pq d)) λr2 i3=>λy3 i9=> ?_;have a3:y3=true↔¬(((0<=z.ag/\(0<z.ag->z.ag<jz c i))/\fF z.lost)/\fF z.forbidden):=by grind
 refine aP (mE (sh:=ab .i64) x.Log (D.box.fw (off:=5) (n:=1) rfl) λy4 j0=>λy5 j1=> ?_);have a5:y5=true↔¬((((0<=z.ag/\(0<z.ag->z.ag<jz c i))/\fF z.lost)/\fF z.forbidden)/\(0<z.lost->c.log<=z.log.length)):=by grind
 dsimp only;by_cases R:y5=true
 ·rw [if_pos R];refine hq _ _ H ⟨λe=>(by cases e),λa=> ?_⟩;exact absurd ⟨⟨⟨a.1,a.2.1⟩,a.2.2.1⟩,a.2.2.2.1⟩ (a5.1 R)
 rw [if_neg R];obtain ⟨⟨⟨c1,c2⟩,c3⟩,c4⟩:=Classical.not_not.1 λg=>R (a5.2 g);have hP:qM c s i z↔(∀(k:Nat) e,z.log[k]? =some e->vt c s i z.log k e)/\∀(k:Nat) o,z.av[k]? =some o->FY c s i z k o:=
  ⟨λa=>a.2.2.2.2,λa=>⟨c1,c2,c3,c4,a⟩⟩
 refine jv (n:=J.length) (by omega) (by omega) (λj f=>f=h1/\∀(k:Nat) e,k<j->z.log[k]? =some e->vt c s i z.log k e) ⟨rfl,λ_ _ Y=>by omega⟩ ?_ ?_
 ·rintro j Y h2 ⟨rfl,hI⟩ K hK;refine kV (sh:=du) W λe C=> ?_;have C:J[j]? =some e:=C;have hE:z.log[j]? =some (uU e):=by rw [<-c5,List.getElem?_map,C];rfl
  refine aP (eB (sh:=ab .i64) y.di (D.box.fw (off:=7) (n:=1) rfl) ?_);have ht:=k.gP.1.1;rw [e3,aI];refine OG (Pl λr3 N=> ?_);refine aaV D W c5 C (by omega) (λk3 G=> ?_) r3 N;grind
 ·rintro h2 ⟨rfl,hI⟩;have g0:∀(k:Nat) e,z.log[k]? =some e->vt c s i z.log k e:=λk e C=>hI k e (by have:=(List.getElem?_eq_some_iff.1 C).1;omega) C;refine jv (n:=z.av.length) (by omega) (by omega) (λj f=>f=h2/\∀(k:Nat) o,k<j->z.av[k]? =some o->FY c s i z k o) ⟨rfl,λ_ _ Y=>by omega⟩ ?_ ?_
  ·rintro j Y h3 ⟨rfl,d5⟩ K hK;refine kV (sh:=ab .i64) A.av λ(o:Int) E=> ?_;have E:z.av[j]? =some o:=E;have X:∀ {dH:Bool} {B:Int->Prop},B o->((dH=true->(aG w.bN.base w.bN.len (j:Int)))/\aD (some dH) (ab .i64) h3 (sat w.bN.base 1 (j:Int)) B):=λ{dH} {B} d=>by
    obtain ⟨d7,v,hv,rfl⟩:=Rs.get (sh:=ab .i64) A.av (λ_=>rfl) (by omega) (i:=(j:Int)) (by omega) (by omega) (K:=λ(v:Int)=>v=o) λ(v:Int) hv=>by have hv:z.av[j]? =some v:=hv;rw [E] at hv;exact (Option.some.inj hv).symm
    exact ⟨λ_=>d7,v,λ_=>hv,d⟩
   have d8:j<I.length:=by omega
   have M:=List.getElem?_eq_getElem d8;generalize I[j]=ql at M;obtain ⟨q,L,c8⟩:=b7.get M;have i1:ql.len=q.length:=c8.1;refine X ?_;refine ju (λr=>r=true↔rn c s o i) false (λ_ d=>Sx (EA D d)) λr3 N=>λy6 e5=> ?_;have a6:y6=true↔(o= -1\/rn c s o i):=by
    subst e5;by_cases t:o= -1
    ·simp [t]
    ·have e:(o==(-1:Int))=false:=by simpa using t
     rw [e] at N ⊢;rw [Bool.false_or,N rfl];exact ⟨λe=>.inr e,λe=>e.resolve_left t⟩
   refine X ?_;refine Rs.mj (sh:=af) b1 ql (λ_=>rfl) (by omega) (λ_=>by omega) λf5 c9=>λy7 e7=>λy8 e8=> ?_;have a8:y8=true↔¬((o= -1\/rn c s o i)/\(o= -1->q=[])):=by
    subst e8;refine sZ (y:= !y6) (by rw [<-a6];simp) λV=> ?_;have e6:=a6.2 V;rw [e6] at c9;subst e7;by_cases t:o= -1
    ·have a:=c9 (by simp [t]);have a:I[j]? =some f5:=a;rw [M] at a;cases a;simp only [t,beq_self_eq_true,Bool.true_and,decide_eq_true_eq,forall_const,<-List.length_eq_zero_iff];omega
    ·have e:(o==(-1:Int))=false:=by simpa using t
     rw [e];exact ⟨λe=>(by cases e),λg=>absurd (λe=>absurd e t) g⟩
   dsimp only;by_cases P:y8=true
   ·rw [if_pos P];refine hq _ _ H ⟨λe=>(by cases e),λa=> ?_⟩;have:=(hP.1 a).2 j o E;exact absurd ⟨this.1,(this.2 q L).1⟩ (a8.1 P)
   rw [if_neg P];obtain ⟨d1,d2⟩:=Classical.not_not.1 λg=>P (a8.2 g);have g7:=((hS.log z (List.mem_of_getElem? hi)).2.2.2) q (List.mem_of_getElem? L);refine AQ (n:=q.length) (by omega) (λn f=>f=h3/\∀(m:Nat) p,m<n->q[m]? =some p->rn c s p i/\(qE s p λz=>z.state=3)/\o≠p) ⟨rfl,λ_ _ F=>by omega⟩ ?_;rintro n g h4 ⟨rfl,b5⟩ K2 d6;have b9:∀ {B:Sl->Prop},B ql->((aG w.bI.base w.bI.len (j:Int))/\aD none af h4 (sat w.bI.base 1 (j:Int)) B):=λ{B} d=>by refine kV (sh:=af) b1 λv hv=> ?_;have hv:I[j]? =some v:=hv;rw [M] at hv;cases hv;exact d
   refine b9 ?_;by_cases c0:n<q.length
   ·rw [if_pos (fT)];refine b9 ?_;refine kV (sh:=ab .i64) c8 λ(p:Int) hp=> ?_;have hp:q[n]? =some p:=hp;refine Sx (EA D λr4 b2=> ?_);refine aP (mE (sh:=af) y.aC (D.box.fw (off:=9) (n:=1) rfl) ?_);obtain ⟨pp,c6,b8⟩:=D.st.procs;have h7:y.aC.len=pp.length:=c6.1;have h5:=b8.len;have h6:=k.gP.1.2.2;refine Rw.pf c6 (λ_=>rfl) (by omega) (sh:=ab .i64) (λq=>q.State) (λ_=>rfl) (0:Int) (λe=> ?_) λ(v:Int) hv=>λy9 e9=> ?_
    ·obtain ⟨⟨h0,u,hu,_⟩,_⟩:=b2.1 (by simpa using e);have:=(List.getElem?_eq_some_iff.1 hu).1;omega
    have a9:y9=true↔¬(rn c s p i/\qE s p λz=>z.state=3):=by subst e9;refine sZ (y:= !r4) (by rw [<-b2];simp) λV=> ?_;have:=b2.2 V;rw [this] at hv;obtain ⟨u,hu,rfl⟩:=hv rfl;obtain ⟨u',d0,e4⟩:=b8.get hu;rw [bne_iff_ne,e4.state];refine not_congr ⟨λe=>⟨_,d0,e⟩,λ⟨z1,d4,f0⟩=> ?_⟩;rw [d0] at d4;cases d4;exact f0
    refine X (aE ?_);have b4:(y9 || (o==p))=true↔¬((rn c s p i/\qE s p λz=>z.state=3)/\o≠p):=sZ a9 λ_=>by simp
    by_cases G:(y9 || (o==p))=true
    ·rw [if_pos G];refine hq _ _ H ⟨λe=>(by cases e),λa=> ?_⟩;obtain ⟨S,T,U⟩:=(((hP.1 a).2 j o E).2 q L).2 p (List.mem_of_getElem? hp);exact absurd ⟨⟨S,T⟩,U⟩ (b4.1 G)
    ·rw [if_neg G];obtain ⟨⟨S,T⟩,U⟩:=Classical.not_not.1 λg=>G (b4.2 g);refine d6 c0 _ ⟨rfl,λm p' F b0=> ?_⟩;by_cases e1:m<n
     ·exact b5 m p' e1 b0
     ·have:m=n:=by omega
      subst this;rw [hp] at b0;cases b0;exact ⟨S,T,U⟩
   ·rw [if_neg (λe=>c0 (by have:=of_decide_eq_true e;omega))];refine hK _ ⟨rfl,λm o' F Z=> ?_⟩;by_cases e0:m<j
    ·exact d5 m o' e0 Z
    ·have:m=j:=by omega
     subst this;rw [E] at Z;cases Z;refine ⟨d1,λq' c7=> ?_⟩;rw [L] at c7;cases c7;refine ⟨d2,λp hp=> ?_⟩;obtain ⟨m,F⟩:=List.getElem?_of_mem hp;exact b5 m p (by have:=(List.getElem?_eq_some_iff.1 F).1;omega) F
  grind
end
end Lf
