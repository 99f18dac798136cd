/-
  Part 6 of the texts that the claim leans on.
-/
import Derived.Laws.StructEq
import Derived.ChangeKeysEq
import Derived.Test.YtgmfbapkfjemnaaGreatDoorMgAsmPrints4
namespace Lf
open Go Go.Proofs Go.RowKit
section
variable {P:Program} {h:Hp}
theorem joinA {α:Type} {v:α} {A:(α→Hp→Prop)→Prop} {B:α→Hp→Prop} (hA:∀k:α→Hp→Prop,k v h→A k) (hB:B v h):JoinW1 A B:=JoinW1.intro (fun x h'=>x=v∧h'=h) (hA _ ⟨rfl,rfl⟩) (by grind)
def zhn2 (op:Int) (k:Bool→Hp→Prop) (h:Hp):List Int→Prop
 | []=>True
 | [a]=>k (op==a) h
 | a::b::r=>if (op==a)=true then k (op==a) h else zhn2 op k h (b::r)
theorem zxa {op:Int} {k:Bool→Hp→Prop}:∀l:List Int,l≠ []→k (decide (op∈l)) h→zhn2 op k h l
 | [],hn,_=>absurd rfl hn
 | [a],_,hk=>by
  have:(op==a)=decide (op∈ [a]):=by rw [Bool.eq_iff_iff];simp
  show k (op==a) h
  grind
 | a::b::r,_,hk=>by
  show if (op==a)=true then k (op==a) h else zhn2 op k h (b::r)
  by_cases e:op=a
  ·grind
  ·rw [if_neg (by simpa using e)]
   refine zxa (b::r) (by simp) ?_
   grind
theorem znk1 {op:Int} {Q:Bool→Bool→Bool→Bool→Hp→Prop} (hq:Q (zai op).1 (zai op).2.1 (zai op).2.2.1 (zai op).2.2.2 h):ziu P op Q h:=by
 unfold ziu
 unfold zai at hq
 by_cases h1:op=1
 ·rw [if_pos h1] at hq;rw [if_pos (by simpa using h1)];exact hq
 rw [if_neg h1] at hq;rw [if_neg (by simpa using h1)]
 refine joinA (h:=h) (v:=decide (op∈ [2,20,21,25,26])) (fun k hk=>zxa [2,20,21,25,26] (by simp) hk) ?_
 by_cases h2:op∈ [2,20,21,25,26]
 ·rw [if_pos (decide_eq_true h2)]
  rw [if_pos (by simpa using h2)] at hq
  exact hq
 rw [if_neg (fun e=>h2 (of_decide_eq_true e))]
 rw [if_neg (by simpa using h2)] at hq
 refine joinA (h:=h) (v:=decide (op∈ [3,4,5,6,7,8,9,10,11,12,13,14])) (fun k hk=>zxa [3,4,5,6,7,8,9,10,11,12,13,14] (by simp) hk) ?_
 by_cases h3:op∈ [3,4,5,6,7,8,9,10,11,12,13,14]
 ·rw [if_pos (decide_eq_true h3)]
  rw [if_pos (Or.inl (by simp at h3;omega))] at hq
  exact hq
 rw [if_neg (fun e=>h3 (of_decide_eq_true e))]
 refine joinA (h:=h) (v:=decide (op∈ [15,16,17,18,19,24])) (fun k hk=>zxa [15,16,17,18,19,24] (by simp) hk) ?_
 by_cases h4:op∈ [15,16,17,18,19,24]
 ·rw [if_pos (decide_eq_true h4)]
  rw [if_pos (Or.inr (by simp at h4;omega))] at hq
  exact hq
 rw [if_neg (fun e=>h4 (of_decide_eq_true e))]
 rw [if_neg (by simp at h3 h4;omega)] at hq
 refine joinA (h:=h) (v:=decide (op∈ [22,29,30])) (fun k hk=>zxa [22,29,30] (by simp) hk) ?_
 by_cases h5:op∈ [22,29,30]
 ·rw [if_pos (decide_eq_true h5)]
  rw [if_pos (by simpa using h5)] at hq
  exact hq
 rw [if_neg (fun e=>h5 (of_decide_eq_true e))]
 rw [if_neg (by simpa using h5)] at hq
 by_cases h6:op=23
 ·rw [if_pos h6] at hq;rw [if_pos (by simpa using h6)];exact hq
 rw [if_neg h6] at hq;rw [if_neg (by simpa using h6)]
 refine joinA (h:=h) (v:=decide (op∈ [27,28,31,32,33])) (fun k hk=>zxa [27,28,31,32,33] (by simp) hk) ?_
 grind
theorem zbm1 {has:Bool} {n:Int} {Q:Int→Hp→Prop} (hq:Q (regP has n) h):zhc P n has Q h:=by
 unfold zhc
 unfold regP at hq
 refine letW ?_
 by_cases h1:has=false∧n≠0
 ·rw [if_pos h1] at hq;rw [if_pos (by simp [h1.1,h1.2])];exact hq
 rw [if_neg h1] at hq
 rw [if_neg (by intro e;simp at e;exact h1 e)]
 refine letW (letW ?_)
 grind
theorem zho2 {x:S_api_Ins} {n locks:Int} {Q:Int→Int→Hp→Prop} (hq:Q (zkb (insOf x) n locks).1 (zkb (insOf x) n locks).2 h):zjp Tryz.prog x n locks Q h:=by
 obtain ⟨o,A,B,C,I⟩:=x
 have hq:Q (zkb ⟨o,A,B,C,I⟩ n locks).1 (zkb ⟨o,A,B,C,I⟩ n locks).2 h:=hq
 unfold zjp
 unfold zkb at hq
 refine letW ?_
 by_cases h1:o<0∨34≤o
 ·rw [if_pos h1] at hq;rw [if_pos (by simp;omega)];exact hq
 rw [if_neg h1] at hq;rw [if_neg (by simp;omega)]
 refine zll (znk1 ?_)
 dsimp only
 refine zfr (zbm1 ?_)
 by_cases h2:regP (zai o).1 A≠0
 ·rw [if_pos h2] at hq;rw [if_pos (by simpa using h2)];exact hq
 rw [if_neg h2] at hq;rw [if_neg (by simpa using h2)]
 refine zfr (zbm1 ?_)
 by_cases h3:regP (zai o).2.1 B≠0
 ·rw [if_pos h3] at hq;rw [if_pos (by simpa using h3)];exact hq
 rw [if_neg h3] at hq;rw [if_neg (by simpa using h3)]
 refine zfr (zbm1 ?_)
 by_cases h4:regP (zai o).2.2.1 C≠0
 ·rw [if_pos h4] at hq;rw [if_pos (by simpa using h4)];exact hq
 rw [if_neg h4] at hq;rw [if_neg (by simpa using h4)]
 refine letW ?_
 by_cases h5:(zai o).2.2.2=false∧I≠0
 ·rw [if_pos h5] at hq;rw [if_pos (by simp [h5.1,h5.2])];exact hq
 rw [if_neg h5] at hq;rw [if_neg (by intro e;simp at e;exact h5 e)]
 refine letW (letW (letW ?_))
 by_cases h6:(o=22∨o=23)∧(I<0∨n<I)
 ·rw [if_pos h6] at hq;rw [if_pos (by simp;exact h6)];exact hq
 rw [if_neg h6] at hq;rw [if_neg (by intro e;simp at e;exact h6 e)]
 refine letW (letW (letW ?_))
 grind
theorem zhp2 {x:S_api_Ins} {n locks:Int} {Q:Int→Hp→Prop} (hq:Q (zkb (insOf x) n locks).1 h):zjm Tryz.prog x n locks Q h:=by
 unfold zjm
 exact zvs (zho2 hq)
theorem zoh2 {l:Sl} {xs:List S_api_Ins} {locks:Int} {Q:Int→Int→Hp→Prop} (r:InsS h l xs) (hq:Q (codeP (xs.map insOf) locks).1 (codeP (xs.map insOf) locks).2 h):zls Tryz.prog l locks Q h:=by
 unfold zls
 have hlen:=r.1
 refine letW ?_
 unfold codeP at hq
 by_cases h1:locks<0∨8<locks
 ·rw [if_pos h1] at hq
  rw [if_pos (by simp;omega)]
  exact hq
 rw [if_neg h1,List.length_map] at hq
 rw [if_neg (by simp;omega)]
 by_cases h2:256<xs.length
 ·rw [if_pos h2] at hq
  rw [if_pos (by simp;omega)]
  exact hq
 rw [if_neg h2] at hq
 rw [if_neg (by simp;omega)]
 refine LoopW1.intro (fun i k=>k=h∧0≤i∧i≤(xs.length:Int)∧codeR xs.length locks ((xs.drop i.toNat).map insOf) i=codeR xs.length locks (xs.map insOf) 0) (fun i _=>(xs.length-i).toNat) ⟨rfl,by omega,by omega,rfl⟩ ?_
 rintro i k ⟨rfl,h0,hi,he⟩
 by_cases h3:i<(xs.length:Int)
 ·rw [if_pos (decide_eq_true (by omega))]
  refine Rs.get (sh:=sh_api_Ins) r (fun _=>rfl) (by omega) h0 h3 fun x hx=> ?_
  refine zvp (zhp2 ?_)
  have hd:xs.drop i.toNat=x::xs.drop (i.toNat+1):=by
   obtain ⟨hx1,hx2⟩:=List.getElem?_eq_some_iff.1 hx
   rw [←hx2];simp
  rw [hd,List.map_cons,codeR] at he
  rw [hlen]
  by_cases h4:(zkb (insOf x) xs.length locks).1≠0
  ·rw [if_pos h4] at he
   rw [if_pos (by simpa using h4)]
   rw [←he] at hq
   exact hq
  ·rw [if_neg h4] at he
   rw [if_neg (by simpa using h4)]
   have hw:IntKind.wrap .i64 (i+1)=i+1:=zad (by omega) (by omega)
   rw [hw]
   refine ⟨⟨rfl,by omega,by omega,?_⟩,by omega⟩
   grind
 ·rw [if_neg (by simp;omega)]
  have hd:xs.drop i.toNat=[]:=List.drop_eq_nil_of_le (by omega)
  rw [hd] at he
  rw [←he] at hq
  exact hq
theorem zhq2 {x:S_api_Ins} {Q:ByteArray→Hp→Prop} (hn:InI x.Imm) (e:PEnv h) (hk:∀h',h≤h'→Q (txtB (numB x.Op x.Imm)) h'):zlt Tryz.prog x Q h:=by
 unfold zlt
 refine letW (letW ?_)
 have hs:((decide (x.Imm<(-4503599627370496:Int))) || (decide (x.Imm>(4503599627370496:Int))))= !zln x.Imm:=by
  unfold zln
  rw [Bool.eq_iff_iff]
  simp only [Bool.or_eq_true,decide_eq_true_eq,Bool.not_eq_true',Bool.and_eq_false_iff,decide_eq_false_iff_not]
  omega
 rw [hs]
 by_cases h1:x.Op=1∧zln x.Imm=false
 ·refine iteT (by rw [h1.2];simp [h1.1]) (zvk (zwb1 (zkm1 x.Imm) (zkl1 _) fun h' out hl hi=>⟨?_,?_⟩))
  ·rw [zan]
   have:=(zpx hi).1
   omega
  ·have:=hk h' hl
   unfold numB at this
   rw [if_pos h1,zwk1 hi] at this
   rw [zzr1,zih1]
   exact this
 ·refine iteF (fun hh=> ?_) (zjt (zkp1 hn e.env.small fun h' hl=> ?_))
  ·rw [Bool.and_eq_true] at hh
   exact h1 ⟨beq_iff_eq.1 hh.1,by simpa using hh.2⟩
  ·have:=hk h' hl
   unfold numB at this
   rw [if_neg h1] at this
   exact this
theorem zcb2 {x:S_api_Ins} {n:Int} {Q:ByteArray→Hp→Prop} (hw:(zkb (insOf x) n 8).1=0) (hi:InI x.Imm) (e:PEnv h) (hk:∀h',h≤h'→Q (txtB (lineB (insOf x))) h'):zkq Tryz.prog x Q h:=by
 obtain ⟨⟨p0,p1⟩,pa,pb,pc, -, -⟩:=wrong_right.1 hw
 obtain ⟨op,a,b,c,imm⟩:=x
 have p0:0≤op:=p0
 have p1:op<34:=p1
 have pa:regP (zai op).1 a=0:=pa
 have pb:regP (zai op).2.1 b=0:=pb
 have pc:regP (zai op).2.2.1 c=0:=pc
 have hi:InI imm:=hi
 obtain ⟨k,rfl⟩:∃k:Nat,op=k:=⟨op.toNat,by omega⟩
 unfold zkq
 refine zwv (zby2 (by omega) (zll (znk1 ?_)))
 dsimp only
 have hlen0:=zpw1 k (by omega)
 have more:∀ {has:Bool} {n:Int} {s:List UInt8} {k:Hp} {R:ByteArray→Hp→Prop},h≤k→s.length≤1000→(has=true→InI n)→
   (∀k',h≤k'→R (txtB (s++fldB has (regB n))) k')→
   (if has=true then CallT Tryz.prog zgz [(.int .i64 n)] shStr (fun r5 h3=>
    ((2+(ByteArray.size r5))≤9223372036854775807∧(((ByteArray.size (txtB s))+(ByteArray.size ⟨⟨(32::(114::r5.data.toList))⟩⟩))≤9223372036854775807∧R ⟨⟨(List.append (txtB s).data.toList (32::(114::r5.data.toList)))⟩⟩ h3))) k else R (txtB s) k):=by
  intro has n s k R hk hs hn hr
  cases has with
  | true=>
   have hd:=zbz1 (hn rfl)
   refine iteT rfl (zlf (zzs1 (hn rfl) (e.mono hk).env.small fun k' hl=> ?_))
   have e1:(⟨⟨(32::(114::(txtB (decB n)).data.toList))⟩⟩:ByteArray)=txtB (32::regB n):=by
    apply zko1
    rw [zaz]
    show 32::114::(txtB (decB n)).data.toList=_
    rw [zaz]
    rfl
   have e2:(⟨⟨(List.append (txtB s).data.toList (32::(114::(txtB (decB n)).data.toList)))⟩⟩:ByteArray)=txtB (s++fldB true (regB n)):=by
    rw [zaz (decB n),zqc1]
    rfl
   rw [e1,e2,zec,zec,zec]
   refine ⟨by omega,?_,hr k' (Hp.le_trans hk hl)⟩
   unfold regB
   simp only [List.length_cons]
   omega
  | false=>exact iteF (by decide) (by simpa [fldB] using hr k hk)
 have hreg:∀ {has:Bool} {n:Int},regP has n=0→(fldB has (regB n)).length≤23:=fun {has n} hr=>zqd1 fun ht=>by
  have:=zbz1 (inReg hr ht)
  unfold regB
  rw [List.length_cons]
  omega
 have h1:=hreg pa
 have h2:=hreg pb
 have h3:=hreg pc
 refine JoinW1.intro (fun s k'=>h≤k'∧s=txtB (wordL k++fldB (zai (k:Int)).1 (regB a))) (more (s:=wordL k) (R:=fun s k'=>h≤k'∧s=txtB (wordL k++fldB (zai (k:Int)).1 (regB a))) (Hp.le_refl h) (by omega) (inReg pa) fun k' hl=>⟨hl,rfl⟩) ?_
 rintro _ k1 ⟨m1,rfl⟩
 refine JoinW1.intro (fun s k'=>h≤k'∧s=txtB ((wordL k++fldB (zai (k:Int)).1 (regB a))++fldB (zai (k:Int)).2.1 (regB b))) (more (s:=wordL k++fldB (zai (k:Int)).1 (regB a)) (R:=fun s k'=>h≤k'∧s=txtB ((wordL k++fldB (zai (k:Int)).1 (regB a))++fldB (zai (k:Int)).2.1 (regB b))) m1 (by rw [List.length_append];omega) (inReg pb) fun k' hl=>⟨hl,rfl⟩) ?_
 rintro _ k2 ⟨m2,rfl⟩
 refine JoinW1.intro (fun s k'=>h≤k'∧s=txtB (((wordL k++fldB (zai (k:Int)).1 (regB a))++fldB (zai (k:Int)).2.1 (regB b))++fldB (zai (k:Int)).2.2.1 (regB c))) (more (s:=(wordL k++fldB (zai (k:Int)).1 (regB a))++fldB (zai (k:Int)).2.1 (regB b)) (R:=fun s k'=>h≤k'∧s=txtB (((wordL k++fldB (zai (k:Int)).1 (regB a))++fldB (zai (k:Int)).2.1 (regB b))++fldB (zai (k:Int)).2.2.1 (regB c))) m2 (by rw [List.length_append,List.length_append];omega) (inReg pc) fun k' hl=>⟨hl,rfl⟩) ?_
 rintro _ k3 ⟨m3,rfl⟩
 have fin:=hk
 unfold lineB at fin
 simp only [insOf,Int.toNat_natCast,←List.append_assoc] at fin
 generalize hS:((wordL k++fldB (zai (k:Int)).1 (regB a))++fldB (zai (k:Int)).2.1 (regB b))++fldB (zai (k:Int)).2.2.1 (regB c)=S at*
 have hSl:S.length≤100:=by
  rw [←hS]
  simp only [List.length_append]
  omega
 cases h4:(zai (k:Int)).2.2.2 with
 | true=>
  rw [h4] at fin
  have hn:(numB (k:Int) imm).length≤26:=by
   unfold numB
   split
   ·have:=zzo1 imm;rw [List.length_cons];omega
   ·have:=zbz1 (v:=imm) hi;omega
  refine iteT rfl (zyl (zhq2 (x:=⟨(k:Int),a,b,c,imm⟩) hi (e.mono m3) fun k4 l4=> ?_))
  rw [zih1,zec,zec,zec,zaz (numB _ _),zqc1]
  refine ⟨?_,?_,fin k4 (Hp.le_trans m3 l4)⟩
  ·show 1+(numB (k:Int) imm).length≤_;omega
  ·show S.length+(numB (k:Int) imm).length.succ≤_;omega
 | false=>
  rw [h4] at fin
  refine iteF (by decide) ?_
  have:=fin k3 m3
  rwa [show fldB false (numB (k:Int) imm)=[] from rfl,List.append_nil] at this
theorem ztp1 {l:Sl} {xs:List S_api_Ins} {Q:ByteArray→Int→Int→Hp→Prop} (r:InsS h l xs) (hi:∀x∈xs,InI x.Imm) (e:PEnv h)
  (hk:∀h',h≤h'→Q (txtB (zni1 (xs.map insOf))) (codeP (xs.map insOf) 8).1 (codeP (xs.map insOf) 8).2 h'):zjl Tryz.prog l Q h:=by
 unfold zjl
 unfold zni1 at hk
 have hlen:=r.1
 refine zyj (zoh2 r ?_)
 by_cases hc:(codeP (xs.map insOf) 8).1=0
 ·rw [if_pos hc,ztm1 hc,hc] at hk
  rw [hc]
  obtain ⟨c1,c2⟩:=codeP_ok.1 hc
  rw [List.length_map] at c1
  refine iteF (by decide) ?_
  refine LoopW2.intro (fun s t k=>h≤k∧∃j:Nat,t=(j:Int)∧j≤xs.length∧s=txtB (progB ((xs.take j).map insOf))) (fun _ t _=>(xs.length-t).toNat) ⟨Hp.le_refl h,0,rfl,by omega,rfl⟩ ?_
  rintro _ _ k ⟨hk1,j,rfl,hj,rfl⟩
  have hb0:(progB ((xs.take j).map insOf)).length≤30000:=by
   have h1:=zks1 _ (znj1 (j:=j) hc hi)
   rw [List.length_map,List.length_take] at h1
   have:min j xs.length*111≤256*111:=Nat.mul_le_mul_right _ (by omega)
   omega
  by_cases hlt:j<xs.length
  ·refine iteT (decide_eq_true (by omega)) ?_
   refine Rs.get (sh:=sh_api_Ins) (Rw.mono hk1 r) (fun _=>rfl) (by omega) (by omega) (by omega) fun x hx=> ?_
   rw [Int.toNat_natCast] at hx
   have hxm:=List.mem_of_getElem? hx
   have hw:=c2 (insOf x) (List.mem_map.2 ⟨x,hxm,rfl⟩)
   rw [List.length_map] at hw
   have hlx:=zfq1 hw (hi x hxm)
   refine zwu (zcb2 hw (hi x hxm) (e.mono hk1) fun k2 l2=> ?_)
   have hstep:progB ((xs.take (j+1)).map insOf)=progB ((xs.take j).map insOf)++(lineB (insOf x)++ [10]):=by
    rw [List.take_add_one,hx,List.map_append,ztn1]
    show _++progB [insOf x]=_
    rw [zto1]
   rw [zaz (lineB (insOf x)),zqc1,zec,zec,zec,List.length_append]
   refine ⟨by omega,by omega,?_⟩
   have e3:(⟨⟨List.append (List.append (txtB (progB ((xs.take j).map insOf))).data.toList (lineB (insOf x))) [10]⟩⟩:ByteArray)=txtB (progB ((xs.take (j+1)).map insOf)):=by
    rw [hstep]
    apply zko1
    conv=>rhs;rw [zaz]
    show ((txtB (progB ((xs.take j).map insOf))).data.toList++lineB (insOf x))++ [10]=_
    rw [zaz,List.append_assoc]
   rw [e3,zad (by omega) (by omega)]
   exact ⟨⟨Hp.le_trans hk1 l2,j+1,by omega,by omega,rfl⟩,by omega⟩
  ·have hje:j=xs.length:=by omega
   refine iteF (fun hh=>hlt (by have:=of_decide_eq_true hh;omega)) ?_
   rw [hje,List.take_of_length_le (Nat.le_refl _)]
   exact hk k hk1
 ·rw [if_neg hc] at hk
  exact iteT (bne_iff_ne.2 hc) (hk h (Hp.le_refl h))
end
end Lf



namespace Lf
open Go Go.Proofs Go.RowKit
def rdC (s:ByteArray) (st:RS):List Value:=[.string s,.int .i64 (st.pos:Int),.int .i64 st.e,.int .i64 (st.bad:Int)]
theorem zku1 (b i:Nat):(⟨b,0,none⟩:Addr).add i=⟨b,i,none⟩:=by rw [box_add,Nat.zero_add]
section
variable {h0 h:Hp} {b:Nat} {s:ByteArray} {st:RS}
theorem ztq1 {K:Int→Prop} (kb:Blk h b (rdC s st)) (hk:K (st.pos:Int)):NilW none (some ⟨b,0,none⟩) fun p=>LdW none (shInt .i64) h (Addr.add p 1) K:=
 zag (by rw [zku1];exact ld_at (sh:=shInt .i64) (st.pos:Int) (kb.ldIs (n:=1) rfl) hk)
theorem rd_e {K:Int→Prop} (kb:Blk h b (rdC s st)) (hk:K st.e):NilW none (some ⟨b,0,none⟩) fun p=>LdW none (shInt .i64) h (Addr.add p 2) K:=
 zag (by rw [zku1];exact ld_at (sh:=shInt .i64) st.e (kb.ldIs (n:=1) rfl) hk)
theorem zpk2 {K:Int→Prop} (kb:Blk h b (rdC s st)) (hk:K (st.bad:Int)):NilW none (some ⟨b,0,none⟩) fun p=>LdW none (shInt .i64) h (Addr.add p 3) K:=
 zag (by rw [zku1];exact ld_at (sh:=shInt .i64) (st.bad:Int) (kb.ldIs (n:=1) rfl) hk)
theorem rd_s {K:ByteArray→Prop} (kb:Blk h b (rdC s st)) (hk:K s):NilW none (some ⟨b,0,none⟩) fun p=>LdW none shStr h (Addr.add p 0) K:=
 zag (by rw [zku1];exact ld_at (sh:=shStr) s (kb.ldIs (n:=1) rfl) hk)
theorem zzv1 {i:Nat} {v:Value} {K:Hp→Prop} (hw:h0≤h) (hb:h0 b=none) (kb:Blk h b (rdC s st)) (hi:i<4) (hk:∀h',h0≤h'→Blk h' b ((rdC s st).set i v)→K h'):NilW none (some ⟨b,0,none⟩) fun p=>StW h (Addr.add p i) [v] K:=
 zag (by
  rw [zku1]
  exact put1 kb hi fun h' m kb'=>hk h' (m.le hw fun x hx=>by rw [List.mem_singleton.1 hx];exact hb).1 kb')
theorem zgv1 {e:Int} {n:Nat} {Q:Hp→Prop} (hw:h0≤h) (hb:h0 b=none) (kb:Blk h b (rdC s st)) (hk:∀h',h0≤h'→Blk h' b (rdC s (giveR st e n))→Q h'):zph Tryz.prog (some ⟨b,0,none⟩) e (n:Int) Q h:=by
 unfold zph
 refine rd_e kb ?_
 unfold giveR at hk
 by_cases h1:st.e=0
 ·rw [if_pos h1] at hk
  refine iteT (beq_iff_eq.2 h1) (zzv1 hw hb kb (by decide) fun h1 l1 k1=> ?_)
  have k1:Blk h1 b (rdC s ⟨st.pos,e,st.bad⟩):=k1
  exact zzv1 l1 hb k1 (by decide) fun h2 l2 k2=>hk h2 l2 k2
 ·rw [if_neg h1] at hk
  exact iteF (fun hh=>h1 (beq_iff_eq.1 hh)) (hk h hw kb)
theorem zzw1 {Q:ByteArray→Int→Bool→Hp→Prop} (hw:h0≤h) (hb:h0 b=none) (kb:Blk h b (rdC s st)) (hs:s.size<4611686018427387904) (hp:st.pos≤s.size)
  (hn:∀h',h0≤h'→Blk h' b (rdC s (zkc s.data.toList st).2)→(zkc s.data.toList st).1=none→Q ⟨#[]⟩ 0 false h')
  (hy:∀h' w f,h0≤h'→Blk h' b (rdC s (zkc s.data.toList st).2)→(zkc s.data.toList st).1=some (w,f)→Q (txtB w) (f:Int) true h'):znz Tryz.prog (some ⟨b,0,none⟩) Q h:=by
 unfold znz
 have hl:=zqc s
 unfold zkc at hn hy
 refine rd_e kb ?_
 by_cases h1:st.e=0
 ·rw [if_neg (fun hh=>hh h1)] at hn hy
  refine iteF (fun hh=>bne_iff_ne.1 hh h1) (ztq1 kb (rd_s kb ?_))
  by_cases h2:st.pos=s.data.toList.length
  ·rw [if_pos h2] at hn
   have h2':(st.pos:Int)=((s.size:Nat):Int):=by omega
   refine iteT (beq_iff_eq.2 h2') (ztq1 kb (zdi (zgv1 hw hb kb fun h' l' k'=> ?_)))
   unfold giveR at k'
   rw [if_pos h1] at k'
   exact hn h' l' k' rfl
  ·rw [if_neg h2] at hy
   refine iteF (fun hh=>h2 (by have h3:(st.pos:Int)=((s.size:Nat):Int):=beq_iff_eq.1 hh;omega)) (ztq1 kb (rd_s kb ?_))
   rw [zad (n:=(st.pos:Int)+1) (by omega) (by omega)]
   refine ⟨⟨by omega,by omega⟩,?_⟩
   have e1:((st.pos:Int)+1).toNat=st.pos+1:=by omega
   have e2:s.extract (st.pos+1) s.size=txtB (s.data.toList.drop (st.pos+1)):=by
    rw [zpy,←hl,List.take_of_length_le (Nat.le_refl _)]
   rw [e1,e2]
   refine zja (zwu1 (c:=32) (by rw [zec,List.length_drop];omega) ?_)
   rw [zaz]
   have e3:hd (s.data.toList.drop (st.pos+1)) 32=zlo s.data.toList (st.pos+1):=rfl
   have hwl:=zca1 s.data.toList (st.pos+1)
   rw [e3,zec,zad (n:=(st.pos:Int)+1+((zlo s.data.toList (st.pos+1)).length:Nat)) (by omega) (by omega)]
   refine zzv1 hw hb kb (by decide) fun h' l' k'=> ?_
   have ec:(st.pos:Int)+1+((zlo s.data.toList (st.pos+1)).length:Nat)=((st.pos+1+(zlo s.data.toList (st.pos+1)).length:Nat):Int):=by omega
   rw [ec] at k'
   have k':Blk h' b (rdC s ⟨st.pos+1+(zlo s.data.toList (st.pos+1)).length,st.e,st.bad⟩):=k'
   rw [h1] at k'
   have:=hy h' _ _ l' k' rfl
   rw [show ((st.pos+1:Nat):Int)=(st.pos:Int)+1 by omega] at this
   exact this
 ·rw [if_pos h1] at hn
  exact iteT (bne_iff_ne.2 h1) (hn h hw kb rfl)
theorem zcc2 {w:List UInt8} (h:∀k,k<8→regB ((k:Nat):Int)≠w):regOf w=none:=by
 unfold regOf
 rw [List.find?_eq_none]
 intro k hk e
 have hk:=List.mem_range.1 hk
 exact h k hk (by rw [zeg1 k hk];exact (eq_of_beq e).symm)
theorem ztr1 {l:List UInt8} {w:List UInt8} {f:Nat} (h:(zkc l st).1=some (w,f)):st.e=0∧(zkc l st).2.e=0:=by
 unfold zkc at h ⊢
 by_cases h1:st.e=0
 ·rw [if_neg (fun hh=>hh h1)] at h ⊢
  by_cases h2:st.pos=l.length
  ·rw [if_pos h2] at h;cases h
  ·rw [if_neg h2];exact ⟨h1,rfl⟩
 ·rw [if_pos h1] at h;cases h
theorem zhr2 {has:Bool} {Q:Int→Hp→Prop} (hw:h0≤h) (hb:h0 b=none) (e:VEnv h0) (kb:Blk h b (rdC s st)) (hs:s.size<4611686018427387904) (hp:st.pos≤s.size)
  (hk:∀h',h0≤h'→Blk h' b (rdC s (regR s.data.toList st has).2)→Q (regR s.data.toList st has).1 h'):zkt Tryz.prog (some ⟨b,0,none⟩) has Q h:=by
 unfold zkt
 unfold regR at hk
 cases has with
 | false=>
  rw [if_pos rfl] at hk
  exact iteT rfl (hk h hw kb)
 | true=>
  rw [if_neg (by simp)] at hk
  refine iteF (by decide) (zqq (zzw1 hw hb kb hs hp (fun h' l' k' en=> ?_) fun h' w f l' k' ey=> ?_))
  ·cases hq:zkc s.data.toList st with
   | mk o s'=>
    rw [hq] at hk k' en
    have en:o=none:=en
    subst en
    exact iteT rfl (hk h' l' k')
  ·have e0:=(ztr1 ey).2
   cases hq:zkc s.data.toList st with
   | mk o s'=>
    rw [hq] at hk k' ey e0
    have ey:o=some (w,f):=ey
    have e0:s'.e=0:=e0
    subst ey
    have hk:∀h',h0≤h'→Blk h' b (rdC s (match regOf w with | some n=>((n:Int),s') | none=>((0:Int),(⟨s'.pos,10,f⟩:RS))).2)→Q (match regOf w with | some n=>((n:Int),s') | none=>((0:Int),(⟨s'.pos,10,f⟩:RS))).1 h':=hk
    refine iteF (by decide) ?_
    refine LoopW1.intro (fun t k=>h0≤k∧Blk k b (rdC s s')∧∃j:Nat,t=(j:Int)∧j≤8∧∀i,i<j→regB ((i:Nat):Int)≠w) (fun t _=>(8-t).toNat) ⟨l',k',0,rfl,by omega,fun i hi=>by omega⟩ ?_
    rintro _ k ⟨lk,kk,j,rfl,hj,hn⟩
    by_cases hlt:j<8
    ·refine iteT (decide_eq_true (by omega)) (zlg (zfr1 (by unfold InI;omega) (e.mono lk).pe.env.small fun k2 l2=> ?_))
     refine iteB (fun he=> ?_) fun he=> ?_
     ·have e1:=txt_beq.1 he
      rw [zaz,zaz,zeg1 j hlt] at e1
      rw [e1,zte1 j hlt] at hk
      exact hk k2 (Hp.le_trans lk l2) (kk.le l2)
     ·have e1:regB ((j:Nat):Int)≠w:=fun e1=>he (txt_beq.2 (by rw [zaz,zaz,e1]))
      rw [zad (by omega) (by omega)]
      refine ⟨⟨Hp.le_trans lk l2,kk.le l2,j+1,by omega,by omega,fun i hi=> ?_⟩,by omega⟩
      by_cases hi2:i<j
      ·exact hn i hi2
      ·rw [show i=j by omega];exact e1
    ·refine iteF (fun hh=>hlt (by have:=of_decide_eq_true hh;omega)) (zdi (zgv1 lk hb kk fun k2 l2 kk2=> ?_))
     rw [zcc2 fun i hi=>hn i (by omega)] at hk
     unfold giveR at kk2
     rw [if_pos e0] at kk2
     exact hk k2 l2 kk2
theorem zma2 {g:Nat} {K:Int→Bool→Hp→Prop} {w:ByteArray} (hg:tb.call g=true) (hc:Call2 Tryz.prog g [.string w] (shInt .i64) zae K h):zle2 Tryz.prog tb (.func (.func (FnV.g ⟨g, #[], #[]⟩)) (FnV.first ⟨g, #[], #[]⟩) (FnV.captured ⟨g, #[], #[]⟩)) [(.string w)] (shInt .i64) zae K h:=
 zzq1 (sh:=zho (shInt .i64) zae) hg hc
theorem zpl2 {op n:Int} {Q:Int→Hp→Prop} (hw:h0≤h) (hb:h0 b=none) (e:VEnv h0) (kb:Blk h b (rdC s st)) (hs:s.size≤281474976710656) (hp:st.pos≤s.size)
  (hk:∀h' r,h0≤h'→Blk h' b (rdC s (immR s.data.toList n op st).2)→((immR s.data.toList n op st).2.e=0→r=(immR s.data.toList n op st).1)→Q r h'):zmm Tryz.prog (some ⟨b,0,none⟩) op n Q h:=by
 unfold zmm
 unfold immR at hk
 refine zqq (zzw1 hw hb kb (by omega) hp (fun h' l' k' en=> ?_) fun h' w f l' k' ey=> ?_)
 ·cases hq:zkc s.data.toList st with
  | mk o s'=>
   rw [hq] at hk k' en
   have en:o=none:=en
   subst en
   exact iteT rfl (hk h' 0 l' k' fun _=>rfl)
 ·have e0:=(ztr1 ey).2
  have hwl:w.length≤s.size:=by
   unfold zkc at ey
   split at ey
   ·cases ey
   ·split at ey
    ·cases ey
    ·cases ey
     have:=zca1 s.data.toList (st.pos+1)
     rw [zqc] at this
     omega
  cases hq:zkc s.data.toList st with
  | mk o s'=>
   rw [hq] at hk k' ey e0
   have ey:o=some (w,f):=ey
   have e0:s'.e=0:=e0
   subst ey
   refine iteF (by decide) ?_
   have fin:∀(v:Int) k2,h0≤k2→Blk k2 b (rdC s s')→(∀u,immOf op w=some u→v=u)→(if (!(immOf op w).isSome)=true then
     Call0 Tryz.prog zav [(.pointer (some ⟨b,0,none⟩)),(.int .i64 (4:Int)),(.int .i64 (f:Int))] (fun h4=>Q v h4) k2
     else
     LetW ((op==(22:Int)) || (op==(23:Int))) fun y=>
     LetW ((decide (v<(0:Int))) || (decide (v>n))) fun y1=>
     LetW (y&&y1) fun y2=>
     (if y2=true then
     Call0 Tryz.prog zav [(.pointer (some ⟨b,0,none⟩)),(.int .i64 (12:Int)),(.int .i64 (f:Int))] (fun h4=>Q v h4) k2
     else
     LetW ((op==(29:Int)) || (op==(30:Int))) fun y3=>
     LetW ((decide (v<(0:Int))) || (decide (v≥(8:Int)))) fun y4=>
     LetW (y3&&y4) fun y5=>
     (if y5=true then
     Call0 Tryz.prog zav [(.pointer (some ⟨b,0,none⟩)),(.int .i64 (13:Int)),(.int .i64 (f:Int))] (fun h4=>Q v h4) k2
     else Q v k2))):=by
    intro v k2 l2 kk2 hv
    have bad:∀(er:Int),er≠0→(∀h',h0≤h'→Blk h' b (rdC s ⟨s'.pos,er,f⟩)→Q v h')→Call0 Tryz.prog zav [(.pointer (some ⟨b,0,none⟩)),(.int .i64 er),(.int .i64 (f:Int))] (fun h4=>Q v h4) k2:=by
     intro er _ hq
     refine zdi (zgv1 l2 hb kk2 fun h' l' k'=>hq h' l' ?_)
     unfold giveR at k'
     rw [if_pos e0] at k'
     exact k'
    cases hm:immOf op w with
    | none=>
     simp only [hm] at hk
     exact iteT rfl (bad 4 (by decide) fun h' l' k'=>hk h' v l' k' fun hh=>absurd hh (by decide))
    | some u=>
     obtain rfl:=hv u hm
     simp only [hm] at hk
     refine iteF (by simp) (letW (letW (letW ?_)))
     unfold immE at hk
     by_cases h6:(op=22∨op=23)∧(v<0∨n<v)
     ·simp only [if_pos h6] at hk
      rw [if_neg (by decide)] at hk
      refine iteT ?_ (bad 12 (by decide) fun h' l' k'=>hk h' v l' k' fun hh=>absurd hh (show ¬(12:Int)=0 by decide))
      simp only [Bool.and_eq_true,Bool.or_eq_true,beq_iff_eq,decide_eq_true_eq]
      omega
     ·simp only [if_neg h6] at hk
      refine iteF ?_ (letW (letW (letW ?_)))
      ·simp only [Bool.and_eq_true,Bool.or_eq_true,beq_iff_eq,decide_eq_true_eq]
       omega
      by_cases h7:(op=29∨op=30)∧(v<0∨8≤v)
      ·simp only [if_pos h7] at hk
       rw [if_neg (by decide)] at hk
       refine iteT ?_ (bad 13 (by decide) fun h' l' k'=>hk h' v l' k' fun hh=>absurd hh (show ¬(13:Int)=0 by decide))
       simp only [Bool.and_eq_true,Bool.or_eq_true,beq_iff_eq,decide_eq_true_eq]
       omega
      ·simp only [if_neg h7] at hk
       rw [if_pos trivial] at hk
       refine iteF ?_ (hk k2 v l2 kk2 fun _=>rfl)
       simp only [Bool.and_eq_true,Bool.or_eq_true,beq_iff_eq,decide_eq_true_eq]
       omega
   have hts:(txtB w).size≤281474976710656:=by rw [zec];omega
   by_cases h1:op=1
   ·have hm:immOf op w=setOf w:=if_pos h1
    refine JoinW1.intro (fun r k=>k=h'∧r=⟨zjk1, #[], #[]⟩) (iteT (beq_iff_eq.2 h1) ⟨rfl,rfl⟩) ?_
    rintro _ k ⟨rfl,rfl⟩
    refine zma2 rfl (zrl1 (zhj2 (e.mono l') hts fun k2 v l2 hv=> ?_))
    rw [zaz] at hv ⊢
    rw [←hm] at hv ⊢
    exact fin v k2 (Hp.le_trans l' l2) (k'.le l2) hv
   ·have hm:immOf op w=intV w:=if_neg h1
    refine JoinW1.intro (fun r k=>k=h'∧r=⟨zxo, #[], #[]⟩) (iteF (fun hh=>h1 (beq_iff_eq.1 hh)) ⟨rfl,rfl⟩) ?_
    rintro _ k ⟨rfl,rfl⟩
    refine zma2 rfl (zcw1 (zkq1 (e.mono l') hts fun k2 v l2 hv=> ?_))
    rw [zaz] at hv ⊢
    rw [←hm] at hv ⊢
    exact fin v k2 (Hp.le_trans l' l2) (k'.le l2) hv
end
end Lf

namespace Lf
open Go Go.Proofs Go.RowKit
section
variable {h0 h:Hp} {b:Nat} {s:ByteArray}
theorem zoi2 {n:Int} {Q:S_api_Ins→Hp→Prop} (hw:h0≤h) (hb:h0 b=none) (e:VEnv h0) (kb:Blk h b (rdC s ⟨0,0,0⟩)) (hs:s.size≤281474976710656)
  (hk:∀h' x,h0≤h'→Blk h' b (rdC s (insR s.data.toList n).2)→((insR s.data.toList n).2.e=0→insOf x=(insR s.data.toList n).1)→Q x h'):zqy Tryz.prog (some ⟨b,0,none⟩) n Q h:=by
 unfold zqy
 have hl:=zqc s
 have hw0:hd s.data.toList 32=zlo s.data.toList 0:=by unfold hd zlo;rw [List.drop_zero]
 refine rd_s kb (zja (zwu1 (c:=32) (by omega) ?_))
 rw [hw0]
 have hwl:=zca1 s.data.toList 0
 unfold insR at hk
 refine zvm1 (zkv2 (fun k ho=> ?_) fun ho=> ?_)
 ·rw [zaz] at ho
  simp only [ho] at hk
  have hk34:=(zgx2 ho).1
  refine iteF (by decide) (zzv1 hw hb kb (by decide) fun h2 l2 k2=> ?_)
  rw [zec] at k2
  have k2:Blk h2 b (rdC s ⟨(zlo s.data.toList 0).length,0,0⟩):=k2
  have i0:InR s.data.toList ⟨(zlo s.data.toList 0).length,0,0⟩:=⟨by show (zlo s.data.toList 0).length≤_;omega,Nat.zero_le _⟩
  refine zrj (zyq fun h3 l3=> ?_)
  dsimp only
  have l3:=Hp.le_trans l2 l3
  have k3:=k2.le (by assumption)
  generalize hF:zai (k:Int)=F at*
  refine zic (zhr2 l3 hb e k3 (by omega) (by rw [←hl];exact i0.1) fun h4 l4 k4=> ?_)
  have i1:=zwq1 (has:=F.1) i0
  refine zic (zhr2 l4 hb e k4 (by omega) (by rw [←hl];exact i1.1) fun h5 l5 k5=> ?_)
  have i2:=zwq1 (has:=F.2.1) i1
  refine zic (zhr2 l5 hb e k5 (by omega) (by rw [←hl];exact i2.1) fun h6 l6 k6=> ?_)
  have i3:=zwq1 (has:=F.2.2.1) i2
  generalize regR s.data.toList ⟨(zlo s.data.toList 0).length,0,0⟩ F.1=p1 at*
  generalize regR s.data.toList p1.2 F.2.1=p2 at*
  generalize regR s.data.toList p2.2 F.2.2.1=p3 at*
  have i4:=zkr2 (n:=n) (op:=(k:Int)) (has:=F.2.2.2) i3
  refine JoinW1.intro (fun x k'=>h0≤k'∧Blk k' b (rdC s (restR s.data.toList n (k:Int) F.2.2.2 p3.2).2)∧((restR s.data.toList n (k:Int) F.2.2.2 p3.2).2.e=0→x=⟨(k:Int),p1.1,p2.1,p3.1,(restR s.data.toList n (k:Int) F.2.2.2 p3.2).1⟩)) ?_ ?_
  ·unfold restR
   cases hF4:F.2.2.2 with
   | true=>exact iteT rfl (zzv (zpl2 l6 hb e k6 hs (by rw [←hl];exact i3.1) fun h7 r l7 k7 hr=>⟨l7,k7,fun he=>by rw [hr he];rfl⟩))
   | false=>exact iteF (by decide) ⟨l6,k6,fun _=>rfl⟩
  rintro x h7 ⟨l7,k7,hx⟩
  generalize restR s.data.toList n (k:Int) F.2.2.2 p3.2=p4 at*
  refine ztq1 k7 (rd_s k7 ?_)
  unfold endR at hk
  by_cases h8:p4.2.pos<s.data.toList.length
  ·simp only [if_pos h8] at hk
   have h8':(p4.2.pos:Int)<((s.size:Nat):Int):=by omega
   refine iteT (decide_eq_true h8') (ztq1 k7 (zdi (zgv1 l7 hb k7 fun h9 l9 k9=>hk h9 x l9 k9 fun he=> ?_)))
   exact absurd he (zhd2 (by decide))
  ·simp only [if_neg h8] at hk
   refine iteF (fun hh=>h8 (by have h9:(p4.2.pos:Int)<((s.size:Nat):Int):=of_decide_eq_true hh;omega)) (hk h7 x l7 k7 fun he=> ?_)
   rw [hx he]
   rfl
 ·rw [zaz] at ho
  simp only [ho] at hk
  refine iteT rfl (zdi (zgv1 (n:=0) hw hb kb fun h2 l2 k2=>hk h2 _ l2 k2 fun he=> ?_))
  exact absurd he (show ¬(9:Int)=0 by decide)
def eIns (x:S_api_Ins):List Value:=zaj (sh_api_Ins.enc x)
theorem zkv1 {t:ByteArray} {Q:Sl→Int→Int→Int→Hp→Prop} (e:VEnv h) (hs:t.size≤281474976710656)
  (hk:∀h' l xs,h≤h'→Own h h' 5 eIns l xs→xs.map insOf=(zcy1 t.data.toList).1→Q l (zcy1 t.data.toList).2.1 (zcy1 t.data.toList).2.2.1 (zcy1 t.data.toList).2.2.2 h'):zdm1 Tryz.prog t Q h:=by
 unfold zdm1
 refine zhi2 ?_
 unfold zcy1 at hk
 generalize ((t.data.toList.count 10:Nat):Int)=n at*
 generalize hres:zyv n (t.data.toList.length+1) t.data.toList 1 []=res at*
 refine LoopW3.intro (fun l rest i k=>h≤k∧∃(kf:Nat) (xs:List S_api_Ins),rest.data.toList.length<kf∧rest.size≤t.size∧Own h k 5 eIns l xs∧(xs.length:Int)+1=i∧i≤257∧zyv n kf rest.data.toList i (xs.map insOf)=res) (fun _ rest _ _=>rest.size)
  ⟨Hp.le_refl h,_,[],Nat.lt_succ_self _,Nat.le_refl _,⟨rfl,Nat.le_refl _,.inl ⟨rfl,rfl⟩⟩,rfl,by decide,hres⟩ ?_
 rintro l rest i k ⟨lk,kf,xs,hkf,hrs,o,hi,hi2,hp⟩
 obtain ⟨kf,rfl⟩:∃m,kf=m+1:=⟨kf-1,by omega⟩
 have hl:=zqc rest
 unfold zyv at hp
 by_cases h1:rest.data.toList=[]
 ·rw [if_pos h1] at hp
  refine iteF (fun hh=> ?_) ?_
  ·rw [Bool.not_eq_true',Bool.eq_false_iff] at hh
   exact hh (txt_beq.2 (by rw [h1]))
  ·have:=hk k l xs lk o (by rw [←hp])
   rw [←hp] at this
   exact this
 rw [if_neg h1] at hp
 refine iteT (by rw [Bool.not_eq_true',Bool.eq_false_iff];exact fun hh=>h1 (txt_beq.1 hh)) (zja (zwu1 (c:=10) (by omega) ?_))
 by_cases h2:256<i
 ·rw [if_pos h2] at hp
  refine iteT (decide_eq_true h2) ?_
  have:=hk k ⟨none,0,0⟩ [] lk ⟨rfl,Nat.le_refl _,.inl ⟨rfl,rfl⟩⟩ (by rw [←hp];rfl)
  rw [←hp] at this
  exact this
 rw [if_neg h2] at hp
 refine iteF (fun hh=>h2 (of_decide_eq_true hh)) ?_
 have hle:=hd_le rest.data.toList 10
 simp only at hp
 have eh:rest.data.toList.takeWhile (· !=10)=hd rest.data.toList 10:=rfl
 rw [eh,hl] at hp
 generalize hd rest.data.toList 10=L at*
 intro b ty hb
 have hle2:=zki (o:=.cells [Value.string (txtB L),.int .i64 0,.int .i64 0,.int .i64 0].toArray ty (0,0)) hb
 have kb:Blk (k.set b (.cells [Value.string (txtB L),.int .i64 0,.int .i64 0,.int .i64 0].toArray ty (0,0))) b (rdC (txtB L) ⟨0,0,0⟩):=⟨ty,zen⟩
 generalize k.set b (.cells [Value.string (txtB L),.int .i64 0,.int .i64 0,.int .i64 0].toArray ty (0,0))=k1 at*
 refine zea1 (zoi2 (h0:=k) hle2 hb (e.mono lk) kb (by rw [zec];omega) fun k2 x l2 kb2 hx=> ?_)
 rw [zaz] at kb2 hx
 refine JoinW0.intro (fun k'=>k≤k'∧Blk k' b (rdC (txtB L) (if L.length=rest.size then giveR (insR L n).2 5 L.length else (insR L n).2))) ?_ ?_
 ·by_cases h3:L.length=rest.size
  ·rw [if_pos h3]
   refine iteT (by simp [h3]) ?_
   rw [zec]
   exact zdi (zgv1 l2 hb kb2 fun h' l' k'=>⟨l',k'⟩)
  ·rw [if_neg h3]
   exact iteF (by simp [h3]) ⟨l2,kb2⟩
 rintro k3 ⟨l3,kb3⟩
 have he3:(if L.length=rest.size then giveR (insR L n).2 5 L.length else (insR L n).2).e=0→(insR L n).2.e=0∧L.length≠rest.size:=by
  intro he
  by_cases h3:L.length=rest.size
  ·rw [if_pos h3] at he
   exact absurd he (zhd2 (by decide))
  ·rw [if_neg h3] at he
   exact ⟨he,h3⟩
 generalize (if L.length=rest.size then giveR (insR L n).2 5 L.length else (insR L n).2)=st at*
 refine rd_e kb3 ?_
 by_cases h4:st.e≠0
 ·rw [if_pos h4] at hp
  refine iteT (bne_iff_ne.2 h4) (rd_e kb3 (zpk2 kb3 ?_))
  have:=hk k3 ⟨none,0,0⟩ [] (Hp.le_trans lk l3) ⟨rfl,Nat.le_refl _,.inl ⟨rfl,rfl⟩⟩ (by rw [←hp];rfl)
  rw [←hp] at this
  exact this
 rw [if_neg h4] at hp
 refine iteF (fun hh=>h4 (bne_iff_ne.1 hh)) ?_
 obtain ⟨h5,h6⟩:=he3 (Classical.not_not.1 h4)
 have hx:=hx h5
 have lk3:=Hp.le_trans lk l3
 refine zgm1 (enc:=eIns) (ys:=[x]) lk3 (o.mono l3) (by rfl) rfl (fun _=>rfl) (fun _=>rfl) rfl (by simp only [List.length_singleton];omega) fun l' k4 l4 o4 _=> ?_
 rw [zad (by omega) (by omega)]
 refine ⟨⟨l4,kf,xs++ [x],?_,?_,o4,?_,by omega,?_⟩,?_⟩
 ·rw [zaz,List.length_drop]
  have:0<rest.data.toList.length:=List.length_pos_iff.2 h1
  omega
 ·rw [zec,List.length_drop];omega
 ·rw [List.length_append,List.length_singleton];omega
 ·rw [zaz,List.map_append,List.map_cons,List.map_nil,hx]
  exact hp
 ·rw [zec,List.length_drop]
  have:0<rest.data.toList.length:=List.length_pos_iff.2 h1
  omega
end
end Lf



namespace Lf
open Go
theorem eqF {P:Program} (d:Nat) (xs ys:Array Value):∀(L:List (Field×IntKind×Int×Int)) (w:World),
    (∀q∈L,q.1.name≠ "_" ∧P.underlying q.1.type=some (.int q.2.1)∧xs[q.1.offset]? =some (.int q.2.1 q.2.2.1)∧ys[q.1.offset]? =some (.int q.2.1 q.2.2.2))→
    (Op.eqFields (d+1) xs ys (L.map (·.1))).run P w=.ok (L.all fun q=>q.2.2.1==q.2.2.2) w
  | [],w,_=>by simp [Op.eqFields]
  | q::L,w,h=>by
    obtain ⟨h1,h2,h3,h4⟩:=h q (List.mem_cons_self ..)
    have ih:=eqF d xs ys L w fun q' hq=>h q' (List.mem_cons_of_mem _ hq)
    have hag:(isAgg q.1.type).run P w=.ok false w:=by simp [isAgg,run_underlying h2]
    simp only [List.map_cons,Op.eqFields,Sem.run_bind,if_pos h1,part,hag,Result.andThen_ok,Bool.false_eq_true,if_false,h3,h4,Sem.run_pure,run_equalIn_int w d q.1.type q.2.1 q.2.1 q.2.2.1 q.2.2.2 h2]
    cases hb:(q.2.2.1==q.2.2.2) with
    | false=>simp [hb]
    | true=>simp [hb,ih]
end Lf

namespace Lf
open Go Go.Proofs Go.RowKit
section
variable {h:Hp}
theorem zcd2 {P:Program} {t:Nat} {x y:Operand} {xs ys:Array Value} (L:List (Field×IntKind×Int×Int)) (hu:P.underlying t=some (.struct (L.map (·.1)).toArray)) (hg:P.eqGuardType P.depth t=false) (hp:P.stoodInHeld t=false)
  (hL:∀q∈L,q.1.name≠ "_" ∧P.underlying q.1.type=some (.int q.2.1)∧xs[q.1.offset]? =some (.int q.2.1 q.2.2.1)∧ys[q.1.offset]? =some (.int q.2.1 q.2.2.2)):
  SemIs P (binS .neq t x y (.agg xs) (.agg ys)) h (.bool (!(L.all fun q=>q.2.2.1==q.2.2.2))):=by
 refine zha1 fun w=> ?_
 have hf:P.fieldsOf t=(L.map (·.1)).toArray:=by unfold Program.fieldsOf;rw [hu]
 have ht:P.underlying t=some (.struct (P.fieldsOf t)):=by rw [hf];exact hu
 have h1:=run_equalIn_struct (P:=P) w 9999 t xs ys ht hp
 rw [hf] at h1
 have h2:=eqF (P:=P) 9998 xs ys L w hL
 unfold binS
 simp only [Sem.run_bind,run_eqGuard_agg w .neq t x y xs ys hg,Result.andThen_ok,run_neq_struct]
 rw [show (10000:Nat)=9999+1 from rfl,h1]
 simp only [h2,Result.andThen_ok]
def sameI (x y:S_api_Ins):Bool:=x.Op==y.Op&&(x.A==y.A&&(x.B==y.B&&(x.C==y.C&&x.Imm==y.Imm)))
theorem sameI_iff {x y:S_api_Ins}:sameI x y=true↔insOf x=insOf y:=by
 unfold sameI insOf
 simp
theorem zts1 {x y:S_api_Ins} {p q:Operand}:SemIs Tryz.prog (binS .neq 44 p q x.v y.v) h (.bool (!(sameI x y))):=by
 have:=zcd2 (h:=h) (P:=Tryz.prog) (t:=44) (x:=p) (y:=q) (xs:= #[.int .i64 x.Op,.int .i64 x.A,.int .i64 x.B,.int .i64 x.C,.int .i64 x.Imm]) (ys:= #[.int .i64 y.Op,.int .i64 y.A,.int .i64 y.B,.int .i64 y.C,.int .i64 y.Imm])
  [(⟨ "Op",3,0,false, "", "",0⟩,.i64,x.Op,y.Op),(⟨ "A",3,1,false, "", "",8⟩,.i64,x.A,y.A),(⟨ "B",3,2,false, "", "",16⟩,.i64,x.B,y.B),(⟨ "C",3,3,false, "", "",24⟩,.i64,x.C,y.C),(⟨ "Imm",2,4,false, "", "",32⟩,.i64,x.Imm,y.Imm)]
  (tb_ok.und 44 ty44 rfl) (by kernel_rfl) (by kernel_rfl) (fun q hq=>by
   simp only [List.mem_cons,List.not_mem_nil,or_false] at hq
   rcases hq with rfl | rfl | rfl | rfl | rfl
   ·exact ⟨by simp,tb_ok.und 3 ty3 rfl,rfl,rfl⟩
   ·exact ⟨by simp,tb_ok.und 3 ty3 rfl,rfl,rfl⟩
   ·exact ⟨by simp,tb_ok.und 3 ty3 rfl,rfl,rfl⟩
   ·exact ⟨by simp,tb_ok.und 3 ty3 rfl,rfl,rfl⟩
   ·exact ⟨by simp,tb_ok.und 2 ty2 rfl,rfl,rfl⟩)
 have e:sameI x y=[(⟨ "Op",3,0,false, "", "",0⟩,IntKind.i64,x.Op,y.Op),(⟨ "A",3,1,false, "", "",8⟩,.i64,x.A,y.A),(⟨ "B",3,2,false, "", "",16⟩,.i64,x.B,y.B),(⟨ "C",3,3,false, "", "",24⟩,.i64,x.C,y.C),((⟨ "Imm",2,4,false, "", "",32⟩:Field),.i64,x.Imm,y.Imm)].all (fun q=>q.2.2.1==q.2.2.2):=by
  unfold sameI
  simp only [List.all_cons,List.all_nil,Bool.and_true]
 rw [e]
 exact this
theorem zoj2 {a b:Sl} {is js:List S_api_Ins} {Q:Bool→Hp→Prop} (ra:InsS h a is) (rb:InsS h b js) (hn:is.length≤140737488355328) (h1:is.map insOf=js.map insOf→Q true h) (h0:is.map insOf≠js.map insOf→Q false h):zkp Tryz.prog a b Q h:=by
 unfold zkp
 have e1:a.len=is.length:=ra.1
 have e2:b.len=js.length:=rb.1
 by_cases hl:is.length=js.length
 ·refine iteF (fun hh=>bne_iff_ne.1 hh (by omega)) ?_
  refine LoopW1.intro (fun i k=>k=h∧∃j:Nat,i=(j:Int)∧j≤is.length∧(is.take j).map insOf=(js.take j).map insOf) (fun i _=>(is.length-i).toNat) ⟨rfl,0,rfl,by omega,rfl⟩ ?_
  rintro _ k ⟨rfl,j,rfl,hj,he⟩
  by_cases hlt:j<is.length
  ·refine iteT (decide_eq_true (by omega)) ?_
   refine Rs.get (sh:=sh_api_Ins) ra (fun _=>rfl) (by omega) (by omega) (by omega) fun x hx=>Rs.get (sh:=sh_api_Ins) rb (fun _=>rfl) (by omega) (by omega) (by omega) fun y hy=> ?_
   rw [Int.toNat_natCast] at hx hy
   refine ⟨_,zts1,?_⟩
   by_cases hxy:insOf x=insOf y
   ·rw [sameI_iff.2 hxy]
    refine iteF (by decide) ?_
    rw [zad (by omega) (by omega)]
    refine ⟨⟨rfl,j+1,by omega,by omega,?_⟩,by omega⟩
    rw [List.take_add_one,List.take_add_one,hx,hy,List.map_append,List.map_append,he]
    show _++ [insOf x]=_++ [insOf y]
    rw [hxy]
   ·rw [Bool.eq_false_iff.2 fun hh=>hxy (sameI_iff.1 hh)]
    refine iteT rfl (h0 fun e=>hxy ?_)
    have h1:=congrArg (fun l:List PIns=>l[j]?) e
    simp only [List.getElem?_map,hx,hy] at h1
    exact Option.some.inj h1
  ·refine iteF (fun hh=>hlt (by have:(j:Int)<((a.len:Nat):Int):=of_decide_eq_true hh;omega)) ?_
   rw [List.take_of_length_le (by omega),List.take_of_length_le (by omega)] at he
   exact h1 he
 ·refine iteT (bne_iff_ne.2 (by omega)) (h0 fun e=>hl ?_)
  have:=congrArg List.length e
  rwa [List.length_map,List.length_map] at this
end
end Lf

namespace Lf
open Go Go.Proofs Go.RowKit
def awL :List PIns:=[⟨1,0,0,0,5⟩,⟨23,0,0,0,0⟩,⟨24,1,2,3,0⟩,⟨0,0,0,0,0⟩]
def awX :List S_api_Ins:=[⟨1,0,0,0,5⟩,⟨23,0,0,0,0⟩,⟨24,1,2,3,0⟩,⟨0,0,0,0,0⟩]
def awB :List UInt8:=[115,101,116,32,114,48,32,53,10,105,102,32,114,48,32,48,10,115,101,110,100,32,114,49,32,114,50,32,114,51,10,101,120,105,116,10]
def awC :List UInt8:=[101,120,105,116,10,115,101,116,32,114,48,10]
theorem awX_map :awX.map insOf=awL:=rfl
theorem zwv1 :codeP awL 8=(0,0):=by decide+kernel
theorem aw_in :∀x∈awL,InI x.imm:=by
 intro x hx
 simp only [awL,List.mem_cons,List.not_mem_nil,or_false] at hx
 unfold InI
 rcases hx with rfl | rfl | rfl | rfl<;>exact ⟨by decide,by decide⟩
theorem zzx1 :∀n,n<10→decB ((n:Nat):Int)=[UInt8.ofNat (48+n)]:=by
 intro n hn
 unfold decB signL
 rw [if_neg (by omega),Int.natAbs_natCast,zbx1 hn]
 rfl
theorem zhs2 :progB awL=awB:=by
 have r0:regB 0=[114,48]:=zeg1 0 (by decide)
 have r1:regB 1=[114,49]:=zeg1 1 (by decide)
 have r2:regB 2=[114,50]:=zeg1 2 (by decide)
 have r3:regB 3=[114,51]:=zeg1 3 (by decide)
 have d0:decB 0=[48]:=zzx1 0 (by decide)
 have d5:decB 5=[53]:=zzx1 5 (by decide)
 have n5:numB 1 5=[53]:=by unfold numB;rw [if_neg (by decide),d5]
 have n0:numB 23 0=[48]:=by unfold numB;rw [if_neg (by decide),d0]
 have l1:lineB ⟨1,0,0,0,5⟩=[115,101,116,32,114,48,32,53]:=by
  unfold lineB
  simp only [r0,n5]
  rfl
 have l2:lineB ⟨23,0,0,0,0⟩=[105,102,32,114,48,32,48]:=by
  unfold lineB
  simp only [r0,n0]
  rfl
 have l3:lineB ⟨24,1,2,3,0⟩=[115,101,110,100,32,114,49,32,114,50,32,114,51]:=by
  unfold lineB
  simp only [r1,r2,r3]
  rfl
 have l4:lineB ⟨0,0,0,0,0⟩=[101,120,105,116]:=rfl
 unfold awL
 rw [zna,zna,zna,zna,l1,l2,l3,l4]
 rfl
theorem zky2 :zni1 awL=awB:=by
 unfold zni1
 rw [zwv1]
 exact (if_pos rfl).trans zhs2
theorem zkz2 :zcy1 awB=(awL,0,0,0):=by
 rw [←zhs2]
 exact zwp1 (by rw [zwv1]) aw_in
theorem ztt1 {n i:Int} {k:Nat} {r L:List UInt8} {acc:List PIns} {p:PIns×RS} (h0:r≠ []) (h1:¬256<i) (hL:r.takeWhile (· !=10)=L) (hn:L.length≠r.length) (hp:insR L n=p):
  zyv n (k+1) r i acc=if p.2.e≠0 then ([],p.2.e,i,(p.2.bad:Int)) else zyv n k (r.drop (L.length+1)) (i+1) (acc++ [p.1]):=by
 subst hL
 subst hp
 rw [zyv,if_neg h0,if_neg h1]
 simp only [if_neg hn]
theorem zht2 :zcy1 awC=([],5,2,6):=by
 have i1:insR [101,120,105,116] 2=(⟨0,0,0,0,0⟩,⟨4,0,0⟩):=ztf1 (x:=⟨0,0,0,0,0⟩) (n:=2) (by decide+kernel) (by unfold InI;decide)
 have i2:(insR [115,101,116,32,114,48] 2).2=⟨6,5,6⟩:=rfl
 unfold zcy1
 show zyv 2 (11+1+1) awC 1 []=_
 rw [ztt1 (L:=[101,120,105,116]) (by decide) (by decide) (by decide) (by decide) i1,if_neg (show ¬(0:Int)≠0 by decide),
  ztt1 (L:=[115,101,116,32,114,48]) (by decide) (by decide) (by decide) (by decide) rfl,i2]
 rfl
section
variable {h:Hp}
theorem zmb2 {a b:List UInt8} (e:a=b):((ByteArray.toList (txtB a))==(ByteArray.toList (txtB b)))=true:=by
 rw [e]
 exact txt_beq.2 rfl
theorem zhu2 {Q:Bool→Hp→Prop} (e:VEnv h) (hq:∀h',h≤h'→Q true h'):zjj Tryz.prog Q h:=by
 unfold zjj
 refine zfx1 (h0:=h) (sz:=5) (enc:=eIns) (xs:=awX) (Hp.le_refl h) rfl (fun _=>rfl) fun a h1 l1 o1=> ?_
 have r1:InsS h1 ⟨some a,4,4⟩ awX:=o1.rw fun _=>rfl
 refine zcu1 (zkt1 r1 (fun x hx=>aw_in (insOf x) (List.mem_map.2 ⟨x,hx,rfl⟩)) (e.mono l1).pe fun h2 l2=> ?_)
 rw [awX_map,zky2,zwv1]
 have l02:=Hp.le_trans l1 l2
 refine zcv1 (zkv1 (t:=txtB awB) (e.mono l02) (by decide) fun h3 s3 x3 l3 o3 m3=> ?_)
 rw [zaz,zkz2] at m3 ⊢
 have l03:=Hp.le_trans l02 l3
 refine zcv1 (zkv1 (t:=txtB awC) (e.mono l03) (by decide) fun h4 s4 x4 l4 o4 m4=> ?_)
 rw [zaz,zht2] at m4 ⊢
 have c1:((ByteArray.toList (txtB awB))==(ByteArray.toList ⟨#[115,101,116,32,114,48,32,53,10,105,102,32,114,48,32,48,10,115,101,110,100,32,114,49,32,114,50,32,114,51,10,101,120,105,116,10]⟩))=true:=zmb2 (b:=awB) rfl
 refine letW (letW (letW (letW (letW ?_))))
 rw [c1]
 have r3:InsS h4 s3 x3:=(o3.mono l4).rw fun _=>rfl
 have r4:InsS h4 ⟨some a,4,4⟩ awX:=Rw.mono (Hp.le_trans l2 (Hp.le_trans l3 l4)) r1
 have hx3:x3.length=4:=by have:=congrArg List.length m3;rwa [List.length_map] at this
 refine effB (by decide) (zwr (b:=⟨some a,4,4⟩) (zoj2 r3 r4 (by omega) (fun _=> ?_) fun hn=>absurd (m3.trans awX_map.symm) hn))
 exact letW (letW (letW (letW (hq h4 (Hp.le_trans l03 l4)))))
theorem zhv2 {l:Sl} {xs:List S_api_Ins} {Q:Sl→Hp→Prop} (r:InsS h l xs) (hl:l.len≤l.cap) (hq:∀o:Sl,InsS h o (xs.take 1048576)→Q o h):zjk Tryz.prog l Q h:=by
 unfold zjk
 have e:min2I ((l.len:Nat):Int) (1048576:Int)=((min l.len 1048576:Nat):Int):=by unfold min2I;split<;>omega
 have hlen:=r.1
 rw [e]
 refine ⟨⟨by omega,by omega,by omega⟩,letW ?_⟩
 rw [Int.toNat_natCast]
 have h1:=r.head (fun _=>rfl) (b:=min l.len 1048576) (c:=min l.len 1048576) (n:=min l.len 1048576-0) (m:=min l.len 1048576-0) (by omega) (Nat.le_refl _) (by omega)
 have e2:xs.take (min l.len 1048576)=xs.take 1048576:=by
  rw [hlen]
  by_cases hx:xs.length≤1048576
  ·rw [Nat.min_eq_left hx,List.take_of_length_le (Nat.le_refl _),List.take_of_length_le hx]
  ·rw [Nat.min_eq_right (by omega)]
 rw [e2] at h1
 exact hq _ h1
theorem zhw2 {xs:List S_api_Ins} (hi:∀x∈xs,InI x.Imm) (n:Nat):∀x∈xs.take n,InI x.Imm:=fun x hx=>hi x (List.mem_of_mem_take hx)
theorem asmPrints_ok {l:Sl} {xs:List S_api_Ins} {Q:Bool→Hp→Prop} (e:VEnv h) (r:InsS h l xs) (hl:l.len≤l.cap) (hi:∀x∈xs,InI x.Imm) (hq:∀h',h≤h'→Q true h'):zgo Tryz.prog l Q h:=by
 unfold zgo
 refine zvl (zhu2 e fun h1 l1=>iteF (by decide) ?_)
 refine zvm (zhv2 (Rw.mono l1 r) hl fun o ro=> ?_)
 refine zcu1 (zkt1 ro (zhw2 hi _) (e.mono l1).pe fun h2 l2=> ?_)
 have l02:=Hp.le_trans l1 l2
 refine zvn (ztp1 (Rw.mono l2 ro) (zhw2 hi _) (e.mono l02).pe fun h3 l3=>letW (letW ?_))
 rw [zmb2 rfl,beq_self_eq_true,beq_self_eq_true]
 exact hq h3 (Hp.le_trans l02 l3)
end
end Lf

namespace Lf
open Go Go.Proofs Go.ChangeShapes Go.WideShapes Go.ChangeAt Go.RowKit
section
variable {H:Type} {enc:TypeId×Value→H} {W:World}
theorem zhx2 {fuel:Nat} {cs:List Value} {y:DataW H×List MemPlace} (hl:cs.length=5) (h:DataW.trod enc Tryz.prog W 0 (fun _=>true) true fuel 44 cs=some y):∃x:S_api_Ins,cs=eIns x∧InI x.Imm:=by
  have hu:=tb_ok.und 44 ty44 rfl
  have ui:=tb_ok.und 3 ty3 rfl
  have uj:=tb_ok.und 2 ty2 rfl
  obtain ⟨a0,h0, -⟩:=znp hu h (i:=0) rfl ui (by kernel_rfl)
  obtain ⟨a1,h1, -⟩:=znp hu h (i:=1) rfl ui (by kernel_rfl)
  obtain ⟨a2,h2, -⟩:=znp hu h (i:=2) rfl ui (by kernel_rfl)
  obtain ⟨a3,h3, -⟩:=znp hu h (i:=3) rfl ui (by kernel_rfl)
  obtain ⟨a4,h4,w4⟩:=znp hu h (i:=4) rfl uj (by kernel_rfl)
  have h0:cs[0]? =some (.int .i64 a0):=h0
  have h1:cs[1]? =some (.int .i64 a1):=h1
  have h2:cs[2]? =some (.int .i64 a2):=h2
  have h3:cs[3]? =some (.int .i64 a3):=h3
  have h4:cs[4]? =some (.int .i64 a4):=h4
  refine ⟨⟨a0,a1,a2,a3,a4⟩,?_,?_⟩
  · match cs,hl with
    | [b0,b1,b2,b3,b4],_=>
      cases h0;cases h1;cases h2;cases h3;cases h4
      rfl
  · have:=zop2 w4
    exact ⟨this.1,by show a4<_;omega⟩
set_option maxRecDepth 20000 in
theorem ins_in {v:Value} {d:DataW H} {ps:List MemPlace} {base:Nat} (hv:Value.okWide Tryz.prog W .any base 31 v) (h:DataW.Trod enc Tryz.prog W 0 (fun _=>true) true 31 v d ps):
    ∃(l:Sl) (xs:List S_api_Ins),v=l.v∧InsS (whole W) l xs∧l.len≤l.cap∧(∀x∈xs,InI x.Imm)∧(l.len=0∨∃el sp,d=.slice el sp∧el.length=l.len):=by
  have hc:Tryz.prog.cellsOf 44=5:=by kernel_rfl
  obtain ⟨l,xs,h1,h2,h3, -,h5,h6⟩:=zis2 (α:=S_api_Ins) (tb_ok.und 31 ty31 rfl) eIns (fun x=>InI x.Imm) (fun fuel cs y hl hy=>zhx2 (hl.trans hc) hy) (fun x=>(show (eIns x).length=5 from rfl).trans hc.symm) hv h
  rw [hc] at h2
  exact ⟨l,xs,h1,h2,h3,h5,h6⟩
end
end Lf

