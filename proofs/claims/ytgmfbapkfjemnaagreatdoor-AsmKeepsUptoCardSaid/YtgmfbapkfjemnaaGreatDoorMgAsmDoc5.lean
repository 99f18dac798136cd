/-
  Part 6 of the texts that the claim leans on.
-/
import Derived.Laws.StructEq
import Derived.ChangeKeysEq
import Derived.Test.YtgmfbapkfjemnaaGreatDoorMgAsmDoc4
set_option maxRecDepth 100000
namespace Lf
open Go Go.Proofs Go.RowKit
def rdC (s:ByteArray) (st:RS):List Value:=[.string s,.int .i64 (st.pos:Int),.int .i64 st.e,.int .i64 (st.bad:Int)]
theorem zab1 (b i:Nat):(⟨b,0,none⟩:Addr).add i=⟨b,i,none⟩:=by rw [box_add,Nat.zero_add]
section
variable {h0 h:Hp} {b:Nat} {s:ByteArray} {st:RS}
theorem zvp1 {K:Int->Prop} (kb:Blk h b (rdC s st)) (hk:K (st.pos:Int)):NilW none (some ⟨b,0,none⟩) fun p=>LdW none (shInt .i64) h (Addr.add p 1) K:=
 zag (by rw [zab1];exact ld_at (sh:=shInt .i64) (st.pos:Int) (kb.ldIs (n:=1) rfl) hk)
theorem rd_e {K:Int->Prop} (kb:Blk h b (rdC s st)) (hk:K st.e):NilW none (some ⟨b,0,none⟩) fun p=>LdW none (shInt .i64) h (Addr.add p 2) K:=
 zag (by rw [zab1];exact ld_at (sh:=shInt .i64) st.e (kb.ldIs (n:=1) rfl) hk)
theorem zsi2 {K:Int->Prop} (kb:Blk h b (rdC s st)) (hk:K (st.bad:Int)):NilW none (some ⟨b,0,none⟩) fun p=>LdW none (shInt .i64) h (Addr.add p 3) K:=
 zag (by rw [zab1];exact ld_at (sh:=shInt .i64) (st.bad:Int) (kb.ldIs (n:=1) rfl) hk)
theorem rd_s {K:ByteArray->Prop} (kb:Blk h b (rdC s st)) (hk:K s):NilW none (some ⟨b,0,none⟩) fun p=>LdW none shStr h (Addr.add p 0) K:=
 zag (by rw [zab1];exact ld_at (sh:=shStr) s (kb.ldIs (n:=1) rfl) hk)
theorem zce2 {i:Nat} {v:Value} {K:Hp->Prop} (hw:h0<=h) (hb:h0 b=none) (kb:Blk h b (rdC s st)) (hi:i<4) (hk:∀h',h0<=h'->Blk h' b ((rdC s st).set i v)->K h'):NilW none (some ⟨b,0,none⟩) fun p=>StW h (Addr.add p i) [v] K:=
 zag (by
  rw [zab1]
  exact put1 kb hi fun h' m kb'=>hk h' (m.le hw fun x hx=>by grind).1 kb')
theorem zil1 {e:Int} {n:Nat} {Q:Hp->Prop} (hw:h0<=h) (hb:h0 b=none) (kb:Blk h b (rdC s st)) (hk:∀h',h0<=h'->Blk h' b (rdC s (giveR st e n))->Q h'):zqh Tryz.prog (some ⟨b,0,none⟩) e (n:Int) Q h:=by
 unfold zqh
 refine rd_e kb ?_
 unfold giveR at hk
 by_cases h1:st.e=0
 ·rw [if_pos h1] at hk
  refine iteT (beq_iff_eq.2 h1) (zce2 hw hb kb (by decide) fun h1 l1 k1=> ?_)
  have k1:Blk h1 b (rdC s ⟨st.pos,e,st.bad⟩):=k1
  exact zce2 l1 hb k1 (by decide) fun h2 l2 k2=>hk h2 l2 k2
 grind
theorem zcf2 {Q:ByteArray->Int->Bool->Hp->Prop} (hw:h0<=h) (hb:h0 b=none) (kb:Blk h b (rdC s st)) (hs:s.size<4611686018427387904) (hp:st.pos<=s.size)
  (hn:∀h',h0<=h'->Blk h' b (rdC s (zfk s.data.toList st).2)->(zfk s.data.toList st).1=none->Q ⟨#[]⟩ 0 false h')
  (hy:∀h' w f,h0<=h'->Blk h' b (rdC s (zfk s.data.toList st).2)->(zfk s.data.toList st).1=some (w,f)->Q (txtB w) (f:Int) true h'):zpa Tryz.prog (some ⟨b,0,none⟩) Q h:=by
 unfold zpa
 have hl:=zgc s
 unfold zfk at hn hy
 refine rd_e kb ?_
 by_cases h1:st.e=0
 ·rw [if_neg (fun hh=>hh h1)] at hn hy
  refine iteF (fun hh=>bne_iff_ne.1 hh h1) (zvp1 kb (rd_s kb ?_))
  by_cases h2:st.pos=s.data.toList.length
  ·rw [if_pos h2] at hn
   have h2':(st.pos:Int)=((s.size:Nat):Int):=by omega
   refine iteT (beq_iff_eq.2 h2') (zvp1 kb (zdn (zil1 hw hb kb fun h' l' k'=> ?_)))
   unfold giveR at k'
   rw [if_pos h1] at k'
   exact hn h' l' k' rfl
  ·rw [if_neg h2] at hy
   refine iteF (fun hh=>h2 (by have h3:(st.pos:Int)=((s.size:Nat):Int):=beq_iff_eq.1 hh;omega)) (zvp1 kb (rd_s kb ?_))
   rw [zab (n:=(st.pos:Int)+1) (by omega) (by omega)]
   refine ⟨⟨by omega,by omega⟩,?_⟩
   have e1:((st.pos:Int)+1).toNat=st.pos+1:=by omega
   have e2:s.extract (st.pos+1) s.size=txtB (s.data.toList.drop (st.pos+1)):=by
    rw [zgm,<-hl,List.take_of_length_le (Nat.le_refl _)]
   rw [e1,e2]
   refine zjz (zyv1 (c:=32) (by rw [zjv,List.length_drop];omega) ?_)
   rw [zay]
   have e3:hd (s.data.toList.drop (st.pos+1)) 32=zbv s.data.toList (st.pos+1):=rfl
   have hwl:=zob s.data.toList (st.pos+1)
   rw [e3,zjv,zab (n:=(st.pos:Int)+1+((zbv s.data.toList (st.pos+1)).length:Nat)) (by omega) (by omega)]
   refine zce2 hw hb kb (by decide) fun h' l' k'=> ?_
   have ec:(st.pos:Int)+1+((zbv s.data.toList (st.pos+1)).length:Nat)=((st.pos+1+(zbv s.data.toList (st.pos+1)).length:Nat):Int):=by omega
   rw [ec] at k'
   have k':Blk h' b (rdC s ⟨st.pos+1+(zbv s.data.toList (st.pos+1)).length,st.e,st.bad⟩):=k'
   rw [h1] at k'
   have:=hy h' _ _ l' k' rfl
   rw [show ((st.pos+1:Nat):Int)=(st.pos:Int)+1 by omega] at this
   exact this
 grind
theorem zey2 {w:List UInt8} (h:∀k,k<8->regB ((k:Nat):Int)≠w):regOf w=none:=by
 unfold regOf
 rw [List.find?_eq_none]
 intro k hk e
 have hk:=List.mem_range.1 hk
 exact h k hk (by rw [zzx k hk];grind)
theorem zvq1 {l:List UInt8} {w:List UInt8} {f:Nat} (h:(zfk l st).1=some (w,f)):st.e=0/\(zfk l st).2.e=0:=by
 unfold zfk at h ⊢
 grind
theorem zkj2 {has:Bool} {Q:Int->Hp->Prop} (hw:h0<=h) (hb:h0 b=none) (e:VEnv h0) (kb:Blk h b (rdC s st)) (hs:s.size<4611686018427387904) (hp:st.pos<=s.size)
  (hk:∀h',h0<=h'->Blk h' b (rdC s (regR s.data.toList st has).2)->Q (regR s.data.toList st has).1 h'):zlo Tryz.prog (some ⟨b,0,none⟩) has Q h:=by
 unfold zlo
 unfold regR at hk
 cases has with
 | false=>
  grind
 | true=>
  rw [if_neg (by simp)] at hk
  refine iteF (by decide) (zrn (zcf2 hw hb kb hs hp (fun h' l' k' en=> ?_) fun h' w f l' k' ey=> ?_))
  ·grind
  ·have e0:=(zvq1 ey).2
   cases hq:zfk s.data.toList st with
   | mk o s'=>
    rw [hq] at hk k' ey e0
    have ey:o=some (w,f):=ey
    have e0:s'.e=0:=e0
    subst ey
    have hk:∀h',h0<=h'->Blk h' b (rdC s (match regOf w with | some n=>((n:Int),s') | none=>((0:Int),(⟨s'.pos,10,f⟩:RS))).2)->Q (match regOf w with | some n=>((n:Int),s') | none=>((0:Int),(⟨s'.pos,10,f⟩:RS))).1 h':=hk
    refine iteF (by decide) ?_
    refine LoopW1.intro (fun t k=>h0<=k/\Blk k b (rdC s s')/\∃j:Nat,t=(j:Int)/\j<=8/\∀i,i<j->regB ((i:Nat):Int)≠w) (fun t _=>(8-t).toNat) ⟨l',k',0,rfl,by omega,fun i hi=>by omega⟩ ?_
    rintro _ k ⟨lk,kk,j,rfl,hj,hn⟩
    by_cases hlt:j<8
    ·refine iteT (decide_eq_true (by omega)) (zme (zhf1 (by unfold InI;omega) (e.mono lk).pe.env.small fun k2 l2=> ?_))
     refine iteB (fun he=> ?_) fun he=> ?_
     ·have e1:=txt_beq.1 he
      rw [zay,zay,zzx j hlt] at e1
      rw [e1,zmi1 j hlt] at hk
      exact hk k2 (Hp.le_trans lk l2) (kk.le l2)
     ·have e1:regB ((j:Nat):Int)≠w:=fun e1=>he (txt_beq.2 (by rw [zay,zay,e1]))
      rw [zab (by omega) (by omega)]
      refine ⟨⟨Hp.le_trans lk l2,kk.le l2,j+1,by omega,by omega,fun i hi=> ?_⟩,by omega⟩
      grind
    ·refine iteF (fun hh=>hlt (by have:=of_decide_eq_true hh;omega)) (zdn (zil1 lk hb kk fun k2 l2 kk2=> ?_))
     rw [zey2 fun i hi=>hn i (by omega)] at hk
     unfold giveR at kk2
     grind
theorem zox2 {g:Nat} {K:Int->Bool->Hp->Prop} {w:ByteArray} (hg:tb.call g=true) (hc:Call2 Tryz.prog g [.string w] (shInt .i64) zae K h):zny2 Tryz.prog tb (.func (.func (FnV.g ⟨g, #[], #[]⟩)) (FnV.first ⟨g, #[], #[]⟩) (FnV.captured ⟨g, #[], #[]⟩)) [(.string w)] (shInt .i64) zae K h:=
 zbx2 (sh:=zie (shInt .i64) zae) hg hc
theorem zsj2 {op n:Int} {Q:Int->Hp->Prop} (hw:h0<=h) (hb:h0 b=none) (e:VEnv h0) (kb:Blk h b (rdC s st)) (hs:s.size<=281474976710656) (hp:st.pos<=s.size)
  (hk:∀h' r,h0<=h'->Blk h' b (rdC s (immR s.data.toList n op st).2)->((immR s.data.toList n op st).2.e=0->r=(immR s.data.toList n op st).1)->Q r h'):znn Tryz.prog (some ⟨b,0,none⟩) op n Q h:=by
 unfold znn
 unfold immR at hk
 refine zrn (zcf2 hw hb kb (by omega) hp (fun h' l' k' en=> ?_) fun h' w f l' k' ey=> ?_)
 ·grind
 ·have e0:=(zvq1 ey).2
  have hwl:w.length<=s.size:=by
   unfold zfk at ey
   split at ey
   ·cases ey
   ·split at ey
    ·cases ey
    ·cases ey
     have:=zob s.data.toList (st.pos+1)
     rw [zgc] at this
     omega
  cases hq:zfk s.data.toList st with
  | mk o s'=>
   rw [hq] at hk k' ey e0
   have ey:o=some (w,f):=ey
   have e0:s'.e=0:=e0
   subst ey
   refine iteF (by decide) ?_
   have fin:∀(v:Int) k2,h0<=k2->Blk k2 b (rdC s s')->(∀u,immOf op w=some u->v=u)->(if (!(immOf op w).isSome)=true then
     Call0 Tryz.prog zav [(.pointer (some ⟨b,0,none⟩)),(.int .i64 (4:Int)),(.int .i64 (f:Int))] (fun h4=>Q v h4) k2
     else
     LetW ((op==(22:Int)) || (op==(23:Int))) fun y=>
     LetW ((decide (v<(0:Int))) || (decide (v>n))) fun y1=>
     LetW (y&&y1) fun y2=>
     (if y2=true then
     Call0 Tryz.prog zav [(.pointer (some ⟨b,0,none⟩)),(.int .i64 (12:Int)),(.int .i64 (f:Int))] (fun h4=>Q v h4) k2
     else
     LetW ((op==(29:Int)) || (op==(30:Int))) fun y3=>
     LetW ((decide (v<(0:Int))) || (decide (v>=(8:Int)))) fun y4=>
     LetW (y3&&y4) fun y5=>
     (if y5=true then
     Call0 Tryz.prog zav [(.pointer (some ⟨b,0,none⟩)),(.int .i64 (13:Int)),(.int .i64 (f:Int))] (fun h4=>Q v h4) k2
     else Q v k2))):=by
    intro v k2 l2 kk2 hv
    have bad:∀(er:Int),er≠0->(∀h',h0<=h'->Blk h' b (rdC s ⟨s'.pos,er,f⟩)->Q v h')->Call0 Tryz.prog zav [(.pointer (some ⟨b,0,none⟩)),(.int .i64 er),(.int .i64 (f:Int))] (fun h4=>Q v h4) k2:=by
     intro er _ hq
     refine zdn (zil1 l2 hb kk2 fun h' l' k'=>hq h' l' ?_)
     unfold giveR at k'
     grind
    cases hm:immOf op w with
    | none=>
     grind
    | some u=>
     obtain rfl:=hv u hm
     simp only [hm] at hk
     refine iteF (by simp) (letW (letW (letW ?_)))
     unfold immE at hk
     by_cases h6:(op=22\/op=23)/\(v<0\/n<v)
     ·grind
     ·simp only [if_neg h6] at hk
      refine iteF ?_ (letW (letW (letW ?_)))
      ·simp only [Bool.and_eq_true,Bool.or_eq_true,beq_iff_eq,decide_eq_true_eq]
       omega
      grind
   have hts:(txtB w).size<=281474976710656:=by rw [zjv];omega
   by_cases h1:op=1
   ·have hm:immOf op w=setOf w:=if_pos h1
    refine JoinW1.intro (fun r k=>k=h'/\r=⟨zle1, #[], #[]⟩) (iteT (beq_iff_eq.2 h1) ⟨rfl,rfl⟩) ?_
    rintro _ k ⟨rfl,rfl⟩
    refine zox2 rfl (ztj1 (zjz2 (e.mono l') hts fun k2 v l2 hv=> ?_))
    rw [zay] at hv ⊢
    rw [<-hm] at hv ⊢
    exact fin v k2 (Hp.le_trans l' l2) (k'.le l2) hv
   ·have hm:immOf op w=intV w:=if_neg h1
    refine JoinW1.intro (fun r k=>k=h'/\r=⟨zyv, #[], #[]⟩) (iteF (fun hh=>h1 (beq_iff_eq.1 hh)) ⟨rfl,rfl⟩) ?_
    rintro _ k ⟨rfl,rfl⟩
    refine zox2 rfl (zed1 (zmo1 (e.mono l') hts fun k2 v l2 hv=> ?_))
    rw [zay] at hv ⊢
    rw [<-hm] at hv ⊢
    exact fin v k2 (Hp.le_trans l' l2) (k'.le l2) hv
end
section
variable {h0 h:Hp} {b:Nat} {s:ByteArray}
theorem zrh2 {n:Int} {Q:S_api_Ins->Hp->Prop} (hw:h0<=h) (hb:h0 b=none) (e:VEnv h0) (kb:Blk h b (rdC s ⟨0,0,0⟩)) (hs:s.size<=281474976710656)
  (hk:∀h' x,h0<=h'->Blk h' b (rdC s (insR s.data.toList n).2)->((insR s.data.toList n).2.e=0->insOf x=(insR s.data.toList n).1)->Q x h'):zrx Tryz.prog (some ⟨b,0,none⟩) n Q h:=by
 unfold zrx
 have hl:=zgc s
 have hw0:hd s.data.toList 32=zbv s.data.toList 0:=by unfold hd zbv;simp
 refine rd_s kb (zjz (zyv1 (c:=32) (by omega) ?_))
 rw [hw0]
 have hwl:=zob s.data.toList 0
 unfold insR at hk
 refine zxl1 (zno2 (fun k ho=> ?_) fun ho=> ?_)
 ·rw [zay] at ho
  simp only [ho] at hk
  have hk34:=(zvd1 ho).1
  refine iteF (by decide) (zce2 hw hb kb (by decide) fun h2 l2 k2=> ?_)
  rw [zjv] at k2
  have k2:Blk h2 b (rdC s ⟨(zbv s.data.toList 0).length,0,0⟩):=k2
  have i0:InR s.data.toList ⟨(zbv s.data.toList 0).length,0,0⟩:=⟨by omega,Nat.zero_le _⟩
  refine zsi (zzz fun h3 l3=> ?_)
  dsimp only
  have l3:=Hp.le_trans l2 l3
  have k3:=k2.le (by assumption)
  generalize hF:zam (k:Int)=F at*
  refine zix (zkj2 l3 hb e k3 (by omega) (by grind) fun h4 l4 k4=> ?_)
  have i1:=zzy (has:=F.1) i0
  refine zix (zkj2 l4 hb e k4 (by omega) (by rw [<-hl];exact i1.1) fun h5 l5 k5=> ?_)
  have i2:=zzy (has:=F.2.1) i1
  refine zix (zkj2 l5 hb e k5 (by omega) (by rw [<-hl];exact i2.1) fun h6 l6 k6=> ?_)
  have i3:=zzy (has:=F.2.2.1) i2
  generalize regR s.data.toList ⟨(zbv s.data.toList 0).length,0,0⟩ F.1=p1 at*
  generalize regR s.data.toList p1.2 F.2.1=p2 at*
  generalize regR s.data.toList p2.2 F.2.2.1=p3 at*
  have i4:=zbv2 (n:=n) (op:=(k:Int)) (has:=F.2.2.2) i3
  refine JoinW1.intro (fun x k'=>h0<=k'/\Blk k' b (rdC s (restR s.data.toList n (k:Int) F.2.2.2 p3.2).2)/\((restR s.data.toList n (k:Int) F.2.2.2 p3.2).2.e=0->x=⟨(k:Int),p1.1,p2.1,p3.1,(restR s.data.toList n (k:Int) F.2.2.2 p3.2).1⟩)) ?_ ?_
  ·unfold restR
   cases hF4:F.2.2.2 with
   | true=>exact iteT rfl (zbi1 (zsj2 l6 hb e k6 hs (by rw [<-hl];exact i3.1) fun h7 r l7 k7 hr=>⟨l7,k7,fun he=>by rw [hr he];rfl⟩))
   | false=>grind
  rintro x h7 ⟨l7,k7,hx⟩
  generalize restR s.data.toList n (k:Int) F.2.2.2 p3.2=p4 at*
  refine zvp1 k7 (rd_s k7 ?_)
  unfold endR at hk
  by_cases h8:p4.2.pos<s.data.toList.length
  ·simp only [if_pos h8] at hk
   have h8':(p4.2.pos:Int)<((s.size:Nat):Int):=by omega
   refine iteT (decide_eq_true h8') (zvp1 k7 (zdn (zil1 l7 hb k7 fun h9 l9 k9=>hk h9 x l9 k9 fun he=> ?_)))
   exact absurd he (zml1 (by decide))
  ·simp only [if_neg h8] at hk
   refine iteF (fun hh=>h8 (by grind)) (hk h7 x l7 k7 fun he=> ?_)
   rw [hx he]
   rfl
 ·rw [zay] at ho
  simp only [ho] at hk
  refine iteT rfl (zdn (zil1 (n:=0) hw hb kb fun h2 l2 k2=>hk h2 _ l2 k2 fun he=> ?_))
  omega
def eIns (x:S_api_Ins):List Value:=zaj (sh_api_Ins.enc x)
theorem zur {t:ByteArray} {Q:Sl->Int->Int->Int->Hp->Prop} (e:VEnv h) (hs:t.size<=281474976710656)
  (hk:∀h' l xs,h<=h'->Own h h' 5 eIns l xs->xs.map insOf=(zia t.data.toList).1->Q l (zia t.data.toList).2.1 (zia t.data.toList).2.2.1 (zia t.data.toList).2.2.2 h'):zet1 Tryz.prog t Q h:=by
 unfold zet1
 refine zjy2 ?_
 unfold zia at hk
 generalize ((t.data.toList.count 10:Nat):Int)=n at*
 generalize hres:zjh n (t.data.toList.length+1) t.data.toList 1 []=res at*
 refine LoopW3.intro (fun l rest i k=>h<=k/\∃(kf:Nat) (xs:List S_api_Ins),rest.data.toList.length<kf/\rest.size<=t.size/\Own h k 5 eIns l xs/\(xs.length:Int)+1=i/\i<=257/\zjh n kf rest.data.toList i (xs.map insOf)=res) (fun _ rest _ _=>rest.size)
  ⟨Hp.le_refl h,_,[],Nat.lt_succ_self _,Nat.le_refl _,⟨rfl,Nat.le_refl _,.inl ⟨rfl,rfl⟩⟩,rfl,by decide,hres⟩ ?_
 rintro l rest i k ⟨lk,kf,xs,hkf,hrs,o,hi,hi2,hp⟩
 obtain ⟨kf,rfl⟩:∃m,kf=m+1:=⟨kf-1,by omega⟩
 have hl:=zgc rest
 unfold zjh at hp
 by_cases h1:rest.data.toList=[]
 ·rw [if_pos h1] at hp
  refine iteF (fun hh=> ?_) ?_
  ·rw [Bool.not_eq_true',Bool.eq_false_iff] at hh
   exact hh (txt_beq.2 (by rw [h1]))
  ·have:=hk k l xs lk o (by rw [<-hp])
   rw [<-hp] at this
   exact this
 rw [if_neg h1] at hp
 refine iteT (by rw [Bool.not_eq_true',Bool.eq_false_iff];exact fun hh=>h1 (txt_beq.1 hh)) (zjz (zyv1 (c:=10) (by omega) ?_))
 by_cases h2:256<i
 ·rw [if_pos h2] at hp
  refine iteT (decide_eq_true h2) ?_
  have:=hk k ⟨none,0,0⟩ [] lk ⟨rfl,Nat.le_refl _,.inl ⟨rfl,rfl⟩⟩ (by rw [<-hp];rfl)
  rw [<-hp] at this
  exact this
 rw [if_neg h2] at hp
 refine iteF (fun hh=>h2 (of_decide_eq_true hh)) ?_
 have hle:=hd_le rest.data.toList 10
 simp only at hp
 have eh:rest.data.toList.takeWhile (· !=10)=hd rest.data.toList 10:=rfl
 rw [eh,hl] at hp
 generalize hd rest.data.toList 10=L at*
 intro b ty hb
 have hle2:=zji (o:=.cells [Value.string (txtB L),.int .i64 0,.int .i64 0,.int .i64 0].toArray ty (0,0)) hb
 have kb:Blk (k.set b (.cells [Value.string (txtB L),.int .i64 0,.int .i64 0,.int .i64 0].toArray ty (0,0))) b (rdC (txtB L) ⟨0,0,0⟩):=⟨ty,zdu⟩
 generalize k.set b (.cells [Value.string (txtB L),.int .i64 0,.int .i64 0,.int .i64 0].toArray ty (0,0))=k1 at*
 refine zfh1 (zrh2 (h0:=k) hle2 hb (e.mono lk) kb (by rw [zjv];omega) fun k2 x l2 kb2 hx=> ?_)
 rw [zay] at kb2 hx
 refine JoinW0.intro (fun k'=>k<=k'/\Blk k' b (rdC (txtB L) (if L.length=rest.size then giveR (insR L n).2 5 L.length else (insR L n).2))) ?_ ?_
 ·by_cases h3:L.length=rest.size
  ·rw [if_pos h3]
   refine iteT (by simp [h3]) ?_
   rw [zjv]
   exact zdn (zil1 l2 hb kb2 fun h' l' k'=>⟨l',k'⟩)
  grind
 rintro k3 ⟨l3,kb3⟩
 have he3:(if L.length=rest.size then giveR (insR L n).2 5 L.length else (insR L n).2).e=0->(insR L n).2.e=0/\L.length≠rest.size:=by
  intro he
  by_cases h3:L.length=rest.size
  ·rw [if_pos h3] at he
   exact absurd he (zml1 (by decide))
  grind
 generalize (if L.length=rest.size then giveR (insR L n).2 5 L.length else (insR L n).2)=st at*
 refine rd_e kb3 ?_
 by_cases h4:st.e≠0
 ·rw [if_pos h4] at hp
  refine iteT (bne_iff_ne.2 h4) (rd_e kb3 (zsi2 kb3 ?_))
  have:=hk k3 ⟨none,0,0⟩ [] (Hp.le_trans lk l3) ⟨rfl,Nat.le_refl _,.inl ⟨rfl,rfl⟩⟩ (by rw [<-hp];rfl)
  rw [<-hp] at this
  exact this
 rw [if_neg h4] at hp
 refine iteF (fun hh=>h4 (bne_iff_ne.1 hh)) ?_
 obtain ⟨h5,h6⟩:=he3 (Classical.not_not.1 h4)
 have hx:=hx h5
 have lk3:=Hp.le_trans lk l3
 refine zzw (enc:=eIns) (ys:=[x]) lk3 (o.mono l3) (by rfl) rfl (fun _=>rfl) (fun _=>rfl) rfl (by grind) fun l' k4 l4 o4 _=> ?_
 rw [zab (by omega) (by omega)]
 refine ⟨⟨l4,kf,xs++ [x],?_,?_,o4,?_,by omega,?_⟩,?_⟩
 ·rw [zay,List.length_drop]
  omega
 ·rw [zjv,List.length_drop];omega
 ·grind
 ·rw [zay,List.map_append,List.map_cons,List.map_nil,hx]
  exact hp
 ·rw [zjv,List.length_drop]
  omega
end
noncomputable def immB (op n:Int) (w:List UInt8):Int:=match immOf op w with
 | none=>4
 | some v=>immE op n v
section
variable {h:Hp} {s:ByteArray}
theorem zez2 {op n:Int} {Q:Int->Int->Hp->Prop} (hs:s.size<4611686018427387904) (t:zlz h) (hk:∀h' r,h<=h'->(immB op n s.data.toList=0->immOf op s.data.toList=some r)->Q r (immB op n s.data.toList) h'):zip Tryz.prog op s n Q h:=by
 unfold zip
 have hl:=zgc s
 refine letW ⟨fun hh=> ?_,letW ?_⟩
 ·grind
 by_cases hf:op=1/\∃r,s.data.toList=102::r
 ·obtain ⟨h1,r,hr⟩:=hf
  rw [hr,List.length_cons] at hl
  refine iteT ?_ ⟨⟨by decide,by omega⟩,?_⟩
  ·rw [hr,h1,decide_eq_true (show ((s.size:Nat):Int)>0 by omega)]
   rfl
  ·have ee:s.extract 1 s.size=txtB r:=by
    rw [zgm,<-hl,hr,List.take_of_length_le (by simp)]
    rfl
   rw [ee]
   refine zwu (zyb1 fun h' x e l' sd=>letW (letW ?_))
   have sd:=zuy1 sd
   rw [zay] at sd
   have hm:immOf op s.data.toList=(fltV r).filter fun n=> !zky n:=by
    rw [hr]
    exact (if_pos h1).trans (show (if (102:UInt8)=102 then (fltV r).filter (fun n=> !zky n) else (intV (102::r)).filter zky)=_ from if_pos rfl)
   have hb:=hk h'
   unfold immB at hb
   rw [hm] at hb
   rw [show (decide (x>=(-4503599627370496:Int))&&decide (x<=(4503599627370496:Int)))=zky x from rfl]
   rcases sd with ⟨e1,rfl⟩ | ⟨e1,rfl⟩
   ·rw [e1,Option.filter_some] at hb
    cases hsm:zky x with
    | true=>
     rw [hsm] at hb
     exact iteT rfl (hb 0 l' fun hh=>absurd hh (show ¬(4:Int)=0 by decide))
    | false=>
     rw [hsm] at hb
     have e0:immE op n x=0:=by
      unfold immE
      rw [if_neg (by omega),if_neg (by omega)]
     have:=hb x l' fun _=>rfl
     rw [show (match (if (!false)=true then some x else none) with | none=>(4:Int) | some v=>immE op n v)=immE op n x from rfl,e0] at this
     exact iteF (by decide) this
   grind
 ·refine iteF (fun hh=>hf ?_) ?_
  ·rw [Bool.and_eq_true,Bool.and_eq_true] at hh
   refine ⟨beq_iff_eq.1 hh.1.1,?_⟩
   have hp:((s.size:Nat):Int)>0:=of_decide_eq_true hh.1.2
   cases hq:s.data.toList with
   | nil=>grind
   | cons c r=>
    rw [hq] at hh
    have:c=102:=(zvq (n:=102) (by decide)).1 (beq_iff_eq.1 hh.2)
    grind
  ·refine zvf (zki2 hs t fun h' v l' hv=>letW (letW (letW ?_)))
   have hm:immOf op s.data.toList=if op=1 then (intV s.data.toList).filter zky else intV s.data.toList:=by
    unfold immOf
    by_cases h1:op=1
    ·rw [if_pos h1,if_pos h1]
     cases hq:s.data.toList with
     | nil=>rfl
     | cons c r=>exact if_neg fun hc=>hf ⟨h1,r,by rw [hq,hc]⟩
    grind
   have hb:=hk h'
   unfold immB at hb
   rw [hm] at hb
   have hsm:((decide (v<(-4503599627370496:Int))) || (decide (v>(4503599627370496:Int))))= !zky v:=by
    unfold zky
    grind
   rw [hsm]
   cases hi:intV s.data.toList with
   | none=>
    grind
   | some u=>
    obtain rfl:=hv u hi
    rw [hi] at hb
    by_cases hbad:op=1/\zky v=false
    ·grind
    ·have hv2:(if op=1 then (some v).filter zky else some v)=some v:=by
      grind
     rw [hv2] at hb
     have hb:(∀r,h<=h'->(immE op n v=0->some v=some r)->Q r (immE op n v) h'):=hb
     refine iteF (fun hh=>hbad ?_) (letW (letW (letW ?_)))
     ·grind
     unfold immE at hb
     by_cases h6:(op=22\/op=23)/\(v<0\/n<v)
     ·grind
     ·simp only [if_neg h6] at hb
      refine iteF ?_ (letW (letW (letW ?_)))
      ·simp only [Bool.and_eq_true,Bool.or_eq_true,beq_iff_eq,decide_eq_true_eq]
       omega
      grind
theorem zcg2 {l:List UInt8} {s:RS} (h:s.e≠0):endR l s=s:=by
 unfold endR
 split
 ·exact if_neg h
 ·rfl
theorem zkk2 {l:List UInt8} {n:Int} (h:(insR l n).2.e=0):(insR l n).2.bad=0:=by
 obtain ⟨h1,h2,h3⟩:=zvf1 h
 have:=zmk1 h2 h3
 grind
theorem dStep {l:List UInt8} {st:RS} {b:Nat} {has:Bool} {j:Nat} {cs:List Value} {Z:Int->Int->Hp->Prop} {K:Int->Hp->Prop} (hl:l=s.data.toList) (hs:s.size<4611686018427387904) (h0:st.e=0) (hp:st.pos<=s.size) (hj:j<3) (hcs:cs.length=3) (hcj:cs.set j (.int .i64 0)=cs) (kb:Blk h b cs)
  (hbad:(regR l st has).2.e≠0->Z (regR l st has).2.e ((regR l st has).2.bad:Int) h)
  (hok:∀h',Mv [b] h [b] h'->(regR l st has).2.e=0->Blk h' b (cs.set j (.int .i64 (regR l st has).1))->K ((regR l st has).2.pos:Int) h'):
  (if (!has)=true then K (st.pos:Int) h
  else
   Call4 Tryz.prog zdw [(.string s),(.int .i64 (st.pos:Int))] shStr (shInt .i64) (shInt .i64) zae (fun r5 r6 r7 r8 h7=>
    (if (!r8)=true then Z (5:Int) (((ByteArray.size s):Nat):Int) h7
    else
     Call2 Tryz.prog zei [(.string r5)] (shInt .i64) zae (fun r9 r10 h8=>
      (if (!r10)=true then Z (10:Int) r6 h8
      else
       (((0:Int)<=((j:Nat):Int)/\((j:Nat):Int)<(3:Int))/\StW h8 (Addr.add ⟨b,0,none⟩ ((Int.toNat ((j:Nat):Int))*1)) [(.int .i64 r9)] (fun h9=>K r7 h9)))) h7)) h):=by
 subst hl
 have hl:=zgc s
 unfold regR at hbad hok
 cases has with
 | false=>
  rw [if_pos rfl] at hok
  refine iteT rfl (hok h (Mv.refl _ _) h0 ?_)
  grind
 | true=>
  rw [if_neg (by simp)] at hbad hok
  refine iteF (by decide) (znf (zvo1 hp hs (fun he=> ?_) fun hlt=> ?_))
  ·have ef:zfk s.data.toList st=(none,⟨st.pos,5,st.pos⟩):=by
    unfold zfk
    rw [if_neg (fun hh=>hh h0),if_pos (by omega)]
   grind
  ·have ef:zfk s.data.toList st=(some (zbv s.data.toList (st.pos+1),st.pos+1),⟨st.pos+1+(zbv s.data.toList (st.pos+1)).length,0,st.bad⟩):=by
    unfold zfk
    grind
   rw [ef] at hbad hok
   simp only at hbad hok
   refine iteF (by decide) (ztm (zrg2 (fun m hm=> ?_) fun hm=> ?_))
   ·rw [zay] at hm
    simp only [hm] at hok
    refine iteF (by decide) ⟨⟨by omega,by omega⟩,?_⟩
    rw [zab1,Int.toNat_natCast,Nat.mul_one]
    exact put1 kb (by omega) fun h' mv k'=>hok h' mv trivial k'
   ·rw [zay] at hm
    grind
theorem znr2 {n:Int} {Q:S_api_Ins->Int->Int->Hp->Prop} (hs:s.size<4611686018427387904) (t:zlz h)
  (hk:∀h' x,h<=h'->((insR s.data.toList n).2.e=0->insOf x=(insR s.data.toList n).1)->Q x (insR s.data.toList n).2.e ((insR s.data.toList n).2.bad:Int) h'):zll Tryz.prog s n Q h:=by
 unfold zll
 have hl:=zgc s
 have hz:=zkk2 (l:=s.data.toList) (n:=n)
 have hw0:=zob s.data.toList 0
 refine znz (zkg2 (a:=0) (by omega) hs ?_)
 rw [Nat.zero_add]
 have ew:s.extract 0 (Int.toNat ((zbv s.data.toList 0).length:Int))=txtB (zbv s.data.toList 0):=by
  rw [Int.toNat_natCast,zgm]
  have:=zmr1 s.data.toList 0
  grind
 have hwi:((zbv s.data.toList 0).length:Int)<=((s.size:Nat):Int):=by omega
 refine LoopW2.intro (fun op i k=>k=h/\∃j:Nat,i=(j:Int)/\j<=34/\((op= -1/\∀m,m<j->wordL m≠zbv s.data.toList 0)\/∃m,m<j/\op=(m:Int)/\wordL m=zbv s.data.toList 0)) (fun _ i _=>(34-i).toNat) ⟨rfl,0,rfl,by omega,.inl ⟨rfl,fun m hm=>by omega⟩⟩ ?_
 rintro op _ k ⟨rfl,j,rfl,hj,hop⟩
 by_cases hlt:j<34
 ·refine iteT (decide_eq_true (by omega)) ?_
  refine JoinW1.intro (fun op1 k'=>k'=k/\((op1= -1/\∀m,m<j+1->wordL m≠zbv s.data.toList 0)\/∃m,m<j+1/\op1=(m:Int)/\wordL m=zbv s.data.toList 0)) ⟨⟨Int.natCast_nonneg _,hwi⟩,zye (zer2 hlt ?_)⟩ ?_
  ·rw [ew]
   refine iteB (fun he=> ?_) fun he=> ?_
   ·have e1:=txt_beq.1 he
    rw [zay,zay] at e1
    exact ⟨rfl,.inr ⟨j,by omega,rfl,e1⟩⟩
   grind
  ·rintro op1 k' ⟨rfl,hop1⟩
   rw [zab (by omega) (by omega)]
   exact ⟨⟨rfl,j+1,by omega,by omega,hop1⟩,by omega⟩
 refine iteF (fun hh=>hlt (by grind)) ?_
 have hj34:j=34:=by omega
 subst hj34
 rcases hop with ⟨rfl,hno⟩ | ⟨m,hm,rfl,hwm⟩
 ·have ho:=zvj1 hno
  have ei:insR s.data.toList n=(⟨0,0,0,0,0⟩,⟨0,9,0⟩):=by
   unfold insR
   rw [ho]
  rw [ei] at hk
  exact iteT (by decide) (hk k _ (Hp.le_refl _) fun hh=>absurd hh (show ¬(9:Int)=0 by decide))
 have ho:opOf (zbv s.data.toList 0)=some m:=by rw [<-hwm];exact zmh1 hm
 refine iteF (fun hh=>by grind) (zve (zev2 ?_))
 dsimp only
 unfold insR at hk hz
 simp only [ho] at hk hz
 generalize hF:zam (m:Int)=F at*
 have i0:InR s.data.toList ⟨(zbv s.data.toList 0).length,0,0⟩:=⟨by omega,Nat.zero_le _⟩
 have i1:=zzy (has:=F.1) i0
 have i2:=zzy (has:=F.2.1) i1
 have i3:=zzy (has:=F.2.2.1) i2
 generalize hst:(⟨(zbv s.data.toList 0).length,0,0⟩:RS)=st at*
 have e0:st.e=0:=by rw [<-hst]
 have ep:((zbv s.data.toList 0).length:Int)=(st.pos:Int):=by rw [<-hst]
 rw [ep]
 generalize hp1:regR s.data.toList st F.1=p1 at*
 generalize hp2:regR s.data.toList p1.2 F.2.1=p2 at*
 generalize hp3:regR s.data.toList p2.2 F.2.2.1=p3 at*
 generalize hp4:restR s.data.toList n (m:Int) F.2.2.2 p3.2=p4 at*
 have s4:p4.2.e≠0->endR s.data.toList p4.2=p4.2:=zcg2
 have s3:p3.2.e≠0->endR s.data.toList p4.2=p3.2:=fun hh=>by rw [<-hp4,zve1 hh,zcg2 hh]
 have s2:p2.2.e≠0->endR s.data.toList p4.2=p2.2:=fun hh=>by
  have e2:p3.2=p2.2:=by rw [<-hp3];exact zkb1 hh
  grind
 have s1:p1.2.e≠0->endR s.data.toList p4.2=p1.2:=fun hh=>by
  have e2:p2.2=p1.2:=by rw [<-hp2];exact zkb1 hh
  grind
 have bad:∀ {q:RS} {k':Hp} {er:Int} {bd:Int},k<=k'->endR s.data.toList p4.2=q->q.e≠0->er=q.e->bd=(q.bad:Int)->Q ⟨(0:Int),(0:Int),(0:Int),(0:Int),(0:Int)⟩ er bd k':=by
  grind
 intro b ty hb
 have hle:=zji (o:=.cells [Value.int .i64 0,.int .i64 0,.int .i64 0].toArray ty (0,0)) hb
 have kb:Blk (k.set b (.cells [Value.int .i64 0,.int .i64 0,.int .i64 0].toArray ty (0,0))) b [.int .i64 0,.int .i64 0,.int .i64 0]:=⟨ty,zdu⟩
 generalize k.set b (.cells [Value.int .i64 0,.int .i64 0,.int .i64 0].toArray ty (0,0))=k1 at*
 have mvle:∀ {x y:Hp},k<=x->Mv [b] x [b] y->k<=y:=fun hx mv=>(mv.le hx fun z hz=>by grind).1
 refine zpz1 (b:=b) (off:=0) kb (by decide) fun k2 mv2 kb2=> ?_
 have kb2:Blk k2 b [.int .i64 0,.int .i64 0,.int .i64 0]:=kb2
 have l2:=mvle hle mv2
 have q1:p1.2.e=0->True:=fun _=>trivial
 refine LoopW3.intro (fun at_ i t4 k'=>k<=k'/\t4=⟨(0:Int),(0:Int),(0:Int),(0:Int),(0:Int)⟩/\
   ((i=0/\at_=(st.pos:Int)/\Blk k' b [.int .i64 0,.int .i64 0,.int .i64 0])\/
    (i=1/\p1.2.e=0/\at_=(p1.2.pos:Int)/\Blk k' b [.int .i64 p1.1,.int .i64 0,.int .i64 0])\/
    (i=2/\p2.2.e=0/\at_=(p2.2.pos:Int)/\Blk k' b [.int .i64 p1.1,.int .i64 p2.1,.int .i64 0])\/
    (i=3/\p3.2.e=0/\at_=(p3.2.pos:Int)/\Blk k' b [.int .i64 p1.1,.int .i64 p2.1,.int .i64 p3.1]))) (fun _ i _ _=>(3-i).toNat) ⟨l2,rfl,.inl ⟨rfl,rfl,kb2⟩⟩ ?_
 rintro at_ i _ k3 ⟨l3,rfl,⟨rfl,rfl,kb3⟩ | ⟨rfl,c1,rfl,kb3⟩ | ⟨rfl,c2,rfl,kb3⟩ | ⟨rfl,c3,rfl,kb3⟩⟩
 ·refine iteT (by decide) (JoinW2.intro (fun at_ t4 k'=>k<=k'/\t4=⟨(0:Int),(0:Int),(0:Int),(0:Int),(0:Int)⟩/\p1.2.e=0/\at_=(p1.2.pos:Int)/\Blk k' b [.int .i64 p1.1,.int .i64 0,.int .i64 0]) ⟨⟨by decide,by decide⟩,F.1,rfl,?_⟩ ?_)
  ·refine dStep (j:=0) (st:=st) (cs:=[.int .i64 0,.int .i64 0,.int .i64 0]) rfl hs e0 (by rw [<-hl];exact i0.1) (by decide) rfl rfl kb3 (fun hh=> ?_) fun h' mv he k'=> ?_
   ·rw [hp1] at hh ⊢
    exact bad l3 (s1 hh) hh rfl rfl
   grind
  ·rintro _ _ k4 ⟨l4,rfl,he,rfl,kb4⟩
   exact ⟨⟨l4,rfl,.inr (.inl ⟨rfl,he,rfl,kb4⟩)⟩,by decide⟩
 ·refine iteT (by decide) (JoinW2.intro (fun at_ t4 k'=>k<=k'/\t4=⟨(0:Int),(0:Int),(0:Int),(0:Int),(0:Int)⟩/\p2.2.e=0/\at_=(p2.2.pos:Int)/\Blk k' b [.int .i64 p1.1,.int .i64 p2.1,.int .i64 0]) ⟨⟨by decide,by decide⟩,F.2.1,rfl,?_⟩ ?_)
  ·refine dStep (j:=1) (st:=p1.2) (cs:=[.int .i64 p1.1,.int .i64 0,.int .i64 0]) rfl hs c1 (by rw [<-hl];exact i1.1) (by decide) rfl rfl kb3 (fun hh=> ?_) fun h' mv he k'=> ?_
   ·rw [hp2] at hh ⊢
    exact bad l3 (s2 hh) hh rfl rfl
   grind
  ·rintro _ _ k4 ⟨l4,rfl,he,rfl,kb4⟩
   exact ⟨⟨l4,rfl,.inr (.inr (.inl ⟨rfl,he,rfl,kb4⟩))⟩,by decide⟩
 ·refine iteT (by decide) (JoinW2.intro (fun at_ t4 k'=>k<=k'/\t4=⟨(0:Int),(0:Int),(0:Int),(0:Int),(0:Int)⟩/\p3.2.e=0/\at_=(p3.2.pos:Int)/\Blk k' b [.int .i64 p1.1,.int .i64 p2.1,.int .i64 p3.1]) ⟨⟨by decide,by decide⟩,F.2.2.1,rfl,?_⟩ ?_)
  ·refine dStep (j:=2) (st:=p2.2) (cs:=[.int .i64 p1.1,.int .i64 p2.1,.int .i64 0]) rfl hs c2 (by rw [<-hl];exact i2.1) (by decide) rfl rfl kb3 (fun hh=> ?_) fun h' mv he k'=> ?_
   ·rw [hp3] at hh ⊢
    exact bad l3 (s3 hh) hh rfl rfl
   grind
  ·rintro _ _ k4 ⟨l4,rfl,he,rfl,kb4⟩
   exact ⟨⟨l4,rfl,.inr (.inr (.inr ⟨rfl,he,rfl,kb4⟩))⟩,by decide⟩
 ·refine iteF (by decide) ⟨⟨by decide,by decide⟩,?_⟩
  have d0:LdIs k3 (Addr.add ⟨b,0,none⟩ 0) (zaj ((shInt .i64).enc p1.1)):=by rw [zab1];exact kb3.ldIs (n:=1) rfl
  have d1:LdIs k3 (Addr.add ⟨b,0,none⟩ 1) (zaj ((shInt .i64).enc p2.1)):=by rw [zab1];exact kb3.ldIs (n:=1) rfl
  have d2:LdIs k3 (Addr.add ⟨b,0,none⟩ 2) (zaj ((shInt .i64).enc p3.1)):=by rw [zab1];exact kb3.ldIs (n:=1) rfl
  refine ld_at (sh:=shInt .i64) p1.1 d0 ⟨⟨by decide,by decide⟩,ld_at (sh:=shInt .i64) p2.1 d1 ⟨⟨by decide,by decide⟩,ld_at (sh:=shInt .i64) p3.1 d2 ⟨⟨d1,d2,trivial⟩,⟨d2,trivial⟩,?_⟩⟩⟩
  have fin:∀(q:Nat) (v:Int) k4,k<=k4->p4=(v,⟨q,0,p4.2.bad⟩)->(if (decide ((q:Int)<(((ByteArray.size s):Nat):Int)))=true then
    Q ⟨(0:Int),(0:Int),(0:Int),(0:Int),(0:Int)⟩ (6:Int) (q:Int) k4
    else Q ⟨(m:Int),p1.1,p2.1,p3.1,v⟩ (0:Int) (0:Int) k4):=by
   intro q v k4 l4 e4
   have e5:p4.2=⟨q,0,p4.2.bad⟩:=by rw [e4]
   by_cases hq:q<s.data.toList.length
   ·have ee:endR s.data.toList p4.2=⟨q,6,q⟩:=by
     rw [e5]
     unfold endR
     rw [if_pos hq]
     rfl
    grind
   ·have ee:endR s.data.toList p4.2=p4.2:=by
     unfold endR
     rw [if_neg (by rw [e5];exact hq)]
    have e6:(endR s.data.toList p4.2).e=0:=by rw [ee,e5]
    refine iteF (fun hh=>hq (by have:=of_decide_eq_true hh;omega)) ?_
    have:=hk k4 ⟨(m:Int),p1.1,p2.1,p3.1,v⟩ l4 fun _=>by rw [show p4.1=v by rw [e4]];rfl
    grind
  have l3':=l3
  unfold restR at hp4
  cases hF4:F.2.2.2 with
  | false=>
   rw [hF4,if_neg (by simp)] at hp4
   refine iteF (by decide) (fin p3.2.pos 0 k3 l3 ?_)
   rw [<-hp4,<-c3]
  | true=>
   rw [hF4,if_pos rfl] at hp4
   unfold immR at hp4
   refine iteT rfl (znf (zvo1 (a:=p3.2.pos) (by rw [<-hl];exact i3.1) hs (fun he=> ?_) fun hlt=> ?_))
   ·have ef:zfk s.data.toList p3.2=(none,⟨p3.2.pos,5,p3.2.pos⟩):=by
     unfold zfk
     rw [if_neg (fun hh=>hh c3),if_pos (by omega)]
    grind
   ·have ef:zfk s.data.toList p3.2=(some (zbv s.data.toList (p3.2.pos+1),p3.2.pos+1),⟨p3.2.pos+1+(zbv s.data.toList (p3.2.pos+1)).length,0,p3.2.bad⟩):=by
     unfold zfk
     grind
    rw [ef] at hp4
    simp only at hp4
    have hwl:=zob s.data.toList (p3.2.pos+1)
    refine iteF (by decide) (zuk (zez2 (op:=(m:Int)) (n:=n) (by rw [zjv];omega) (zbc l3 t) fun k4 r l4 hr=> ?_))
    rw [zay] at hr ⊢
    have l34:=Hp.le_trans l3 l4
    generalize zbv s.data.toList (p3.2.pos+1)=w at*
    by_cases hb0:immB (m:Int) n w=0
    ·have hr:=hr hb0
     unfold immB at hb0
     rw [hr] at hb0
     have hb0:immE (m:Int) n r=0:=hb0
     simp only [hr,if_pos hb0] at hp4
     have hb1:immB (m:Int) n w=0:=by unfold immB;rw [hr];exact hb0
     grind
    ·have e4:p4.2=⟨p3.2.pos+1+w.length,immB (m:Int) n w,p3.2.pos+1⟩:=by
      unfold immB at hb0 ⊢
      rw [<-hp4]
      cases hq:immOf (m:Int) w with
      | none=>rfl
      | some u=>
       rw [hq] at hb0
       have hb0:¬immE (m:Int) n u=0:=hb0
       simp only [if_neg hb0]
     grind
end
end Lf
namespace Lf
open Go
theorem eqF {P:Program} (d:Nat) (xs ys:Array Value):∀(L:List (Field×IntKind×Int×Int)) (w:World),
    (∀q∈L,q.1.name≠ "_" ∧P.underlying q.1.type=some (.int q.2.1)∧xs[q.1.offset]? =some (.int q.2.1 q.2.2.1)∧ys[q.1.offset]? =some (.int q.2.1 q.2.2.2))→
    (Op.eqFields (d+1) xs ys (L.map (·.1))).run P w=.ok (L.all fun q=>q.2.2.1==q.2.2.2) w
  | [],w,_=>by simp [Op.eqFields]
  | q::L,w,h=>by
    obtain ⟨h1,h2,h3,h4⟩:=h q (List.mem_cons_self ..)
    have ih:=eqF d xs ys L w fun q' hq=>h q' (List.mem_cons_of_mem _ hq)
    have hag:(isAgg q.1.type).run P w=.ok false w:=by simp [isAgg,run_underlying h2]
    simp only [List.map_cons,Op.eqFields,Sem.run_bind,if_pos h1,part,hag,Result.andThen_ok,Bool.false_eq_true,if_false,h3,h4,Sem.run_pure,run_equalIn_int w d q.1.type q.2.1 q.2.1 q.2.2.1 q.2.2.2 h2]
    cases hb:(q.2.2.1==q.2.2.2) with
    | false=>simp [hb]
    | true=>simp [hb,ih]
end Lf
namespace Lf
open Go Go.Proofs Go.RowKit
theorem zri2 {l:List UInt8} {c d:UInt8} {j:Nat} (h:l[j]? =some d):hd (l.drop j) c=if d=c then [] else d::hd (l.drop (j+1)) c:=by
 obtain ⟨h1,h2⟩:=List.getElem?_eq_some_iff.1 h
 unfold hd
 rw [List.drop_eq_getElem_cons h1,h2,List.takeWhile_cons]
 simp
theorem zrj2 (l:List UInt8) (c:UInt8):l.take (hd l c).length=hd l c:=(List.prefix_iff_eq_take.1 (List.takeWhile_prefix (p:=(· !=c)) (l:=l))).symm
theorem zfa2 {l:List UInt8} {j:Nat} {d:UInt8} (h:l[j]? =some d):(l.take (j+1)).count 10=(l.take j).count 10+if d=10 then 1 else 0:=by
 rw [List.take_add_one,h,List.count_append]
 grind
section
variable {h:Hp}
theorem zvr1 {t:ByteArray} {Q:Sl->Int->Int->Int->Hp->Prop} (sm:zlz h) (hs:t.size<=281474976710656)
  (hk:∀h' l xs,h<=h'->Own h h' 5 eIns l xs->xs.map insOf=(zia t.data.toList).1->Q l (zia t.data.toList).2.1 (zia t.data.toList).2.2.1 (zia t.data.toList).2.2.2 h'):zkk Tryz.prog t Q h:=by
 unfold zkk
 have htl:=zgc t
 refine LoopW2.intro (fun n i k=>k=h/\∃j:Nat,i=(j:Int)/\j<=t.size/\n=(((t.data.toList.take j).count 10:Nat):Int)) (fun _ i _=>(t.size-i).toNat) ⟨rfl,0,rfl,by omega,rfl⟩ ?_
 rintro _ _ k ⟨rfl,j,rfl,hj,rfl⟩
 by_cases hlt:j<t.size
 ·obtain ⟨d,hd⟩:∃d,t.data.toList[j]? =some d:=⟨_,List.getElem?_eq_getElem (by omega)⟩
  have hst:=zfa2 hd
  have hcl:(t.data.toList.take j).count 10<=t.size:=Nat.le_trans List.count_le_length (by rw [List.length_take];omega)
  have hin:(0:Int)<=(j:Int)/\(j:Int)<((t.size:Nat):Int):=⟨by omega,by omega⟩
  refine iteT (decide_eq_true hin.2) ?_
  refine JoinW1.intro (fun n1 k'=>k'=k/\n1=(((t.data.toList.take (j+1)).count 10:Nat):Int)) ⟨hin,?_⟩ ?_
  ·rw [Int.toNat_natCast,zik1 hd]
   by_cases h10:d=10
   ·rw [if_pos h10] at hst
    refine iteT (beq_iff_eq.2 ((zvq (n:=10) (by decide)).2 h10)) ⟨rfl,?_⟩
    rw [zab (by omega) (by omega),hst]
    omega
   ·rw [if_neg h10] at hst
    refine iteF (fun hh=>h10 ((zvq (n:=10) (by decide)).1 (beq_iff_eq.1 hh))) ⟨rfl,?_⟩
    rw [hst]
    omega
  ·rintro _ k' ⟨rfl,rfl⟩
   rw [zab (by omega) (by omega)]
   exact ⟨⟨rfl,j+1,by omega,by omega,rfl⟩,by omega⟩
 refine iteF (fun hh=>hlt (by have:(j:Int)<((t.size:Nat):Int):=of_decide_eq_true hh;omega)) ?_
 rw [List.take_of_length_le (by omega:t.data.toList.length<=j)]
 unfold zia at hk
 generalize ((t.data.toList.count 10:Nat):Int)=n at*
 generalize hres:zjh n (t.data.toList.length+1) t.data.toList 1 []=res at*
 refine zeo1 (h0:=k) (sz:=5) (enc:=eIns) (xs:=([]:List S_api_Ins)) (Hp.le_refl _) rfl (fun _=>rfl) fun a h2 l2 o2=> ?_
 refine LoopW3.intro (fun rest l i k'=>k<=k'/\∃(kf:Nat) (xs:List S_api_Ins),rest.data.toList.length<kf/\rest.size<=t.size/\Own k k' 5 eIns l xs/\(xs.length:Int)+1=i/\i<=257/\zjh n kf rest.data.toList i (xs.map insOf)=res) (fun rest _ _ _=>rest.size)
  ⟨l2,_,[],Nat.lt_succ_self _,Nat.le_refl _,o2,rfl,by decide,hres⟩ ?_
 rintro rest l i k' ⟨lk,kf,xs,hkf,hrs,o,hi,hi2,hp⟩
 obtain ⟨kf,rfl⟩:∃m,kf=m+1:=⟨kf-1,by omega⟩
 have hl:=zgc rest
 unfold zjh at hp
 by_cases h1:rest.data.toList=[]
 ·rw [if_pos h1] at hp
  have h0:rest.size=0:=by rw [<-hl,h1];rfl
  refine iteF (fun hh=> ?_) ?_
  ·have:((rest.size:Nat):Int)>0:=of_decide_eq_true hh
   omega
  ·have:=hk k' l xs lk o (by rw [<-hp])
   rw [<-hp] at this
   exact this
 rw [if_neg h1] at hp
 have hpos:0<rest.size:=by rw [<-hl];exact List.length_pos_iff.2 h1
 refine iteT (decide_eq_true (by omega)) ?_
 have hle:=hd_le rest.data.toList 10
 simp only at hp
 have eh:rest.data.toList.takeWhile (· !=10)=hd rest.data.toList 10:=rfl
 rw [eh,hl] at hp
 refine LoopW1.intro (fun e k2=>k2=k'/\∃j:Nat,e=(j:Int)/\j<=rest.size/\j+(hd (rest.data.toList.drop j) 10).length=(hd rest.data.toList 10).length) (fun e _=>(rest.size-e).toNat) ⟨rfl,0,rfl,by omega,by rw [List.drop_zero,Nat.zero_add]⟩ ?_
 rintro _ k2 ⟨rfl,j,rfl,hj,he⟩
 refine ⟨fun hh=>⟨by omega,of_decide_eq_true hh⟩,letW ?_⟩
 have found:j=(hd rest.data.toList 10).length->(if (decide ((i:Int)>(256:Int)))=true then Q ⟨none,0,0⟩ (3:Int) i (0:Int) k2
   else
   (((0:Int)<=(j:Int)/\(j:Int)<=(((ByteArray.size rest):Nat):Int))/\Call3 Tryz.prog zhf [(.string (ByteArray.extract rest 0 (Int.toNat (j:Int)))),(.int .i64 n)] sh_api_Ins (shInt .i64) (shInt .i64) (fun r r1 r2 h5=>
   (if (r1 !=(0:Int))=true then Q ⟨none,0,0⟩ r1 i r2 h5
   else
   (if ((j:Int)==(((ByteArray.size rest):Nat):Int))=true then Q ⟨none,0,0⟩ (5:Int) i (j:Int) h5
   else
   NewW [(.int .i64 r.Op),(.int .i64 r.A),(.int .i64 r.B),(.int .i64 r.C),(.int .i64 r.Imm)] (fun a1 h6=>
   zbb 5 40 [(.int .i64 (0:Int)),(.int .i64 (0:Int)),(.int .i64 (0:Int)),(.int .i64 (0:Int)),(.int .i64 (0:Int))] ⟨l.base,l.len,l.cap⟩ ⟨(some a1),1,1⟩ (fun r3 h7=>
   (((0:Int)<=(IntKind.wrap .i64 ((j:Int)+(1:Int)))/\(IntKind.wrap .i64 ((j:Int)+(1:Int)))<=(((ByteArray.size rest):Nat):Int))/\
    ((k<=h7/\∃(kf:Nat) (xs:List S_api_Ins),(ByteArray.extract rest (Int.toNat (IntKind.wrap .i64 ((j:Int)+(1:Int)))) (ByteArray.size rest)).data.toList.length<kf/\(ByteArray.extract rest (Int.toNat (IntKind.wrap .i64 ((j:Int)+(1:Int)))) (ByteArray.size rest)).size<=t.size/\Own k h7 5 eIns r3 xs/\(xs.length:Int)+1=(IntKind.wrap .i64 (i+(1:Int)))/\(IntKind.wrap .i64 (i+(1:Int)))<=257/\zjh n kf (ByteArray.extract rest (Int.toNat (IntKind.wrap .i64 ((j:Int)+(1:Int)))) (ByteArray.size rest)).data.toList (IntKind.wrap .i64 (i+(1:Int))) (xs.map insOf)=res)/\
     (ByteArray.extract rest (Int.toNat (IntKind.wrap .i64 ((j:Int)+(1:Int)))) (ByteArray.size rest)).size<rest.size))) h6) h5))) k2)):=by
  intro hje
  by_cases h2:256<i
  ·rw [if_pos h2] at hp
   refine iteT (decide_eq_true h2) ?_
   have:=hk k2 ⟨none,0,0⟩ [] lk ⟨rfl,Nat.le_refl _,.inl ⟨rfl,rfl⟩⟩ (by rw [<-hp];rfl)
   rw [<-hp] at this
   exact this
  rw [if_neg h2] at hp
  refine iteF (fun hh=>h2 (of_decide_eq_true hh)) ⟨⟨by omega,by omega⟩,?_⟩
  have ex:rest.extract 0 (Int.toNat (j:Int))=txtB (hd rest.data.toList 10):=by
   rw [Int.toNat_natCast,zgm,hje,zrj2]
   rfl
  rw [ex]
  rw [<-hje] at hp hle
  have hLl:(hd rest.data.toList 10).length=j:=hje.symm
  generalize hd rest.data.toList 10=L at*
  refine zyd (znr2 (by rw [zjv];omega) (zbc lk sm) fun k3 x l3 hx=> ?_)
  rw [zay] at hx ⊢
  have lk3:=Hp.le_trans lk l3
  by_cases h4:(insR L n).2.e≠0
  ·have e4:(if j=rest.size then giveR (insR L n).2 5 j else (insR L n).2)=(insR L n).2:=by
    split
    ·exact if_neg h4
    ·rfl
   rw [e4,if_pos h4] at hp
   refine iteT (bne_iff_ne.2 h4) ?_
   have:=hk k3 ⟨none,0,0⟩ [] lk3 ⟨rfl,Nat.le_refl _,.inl ⟨rfl,rfl⟩⟩ (by rw [<-hp];rfl)
   rw [<-hp] at this
   exact this
  have h4':(insR L n).2.e=0:=Classical.not_not.1 h4
  refine iteF (fun hh=>h4 (bne_iff_ne.1 hh)) ?_
  by_cases h5:j=rest.size
  ·have e4:(if j=rest.size then giveR (insR L n).2 5 j else (insR L n).2)=⟨(insR L n).2.pos,5,j⟩:=by
    rw [if_pos h5]
    exact if_pos h4'
   rw [e4,if_pos (show ¬(5:Int)=0 by decide)] at hp
   refine iteT (beq_iff_eq.2 (by omega)) ?_
   have:=hk k3 ⟨none,0,0⟩ [] lk3 ⟨rfl,Nat.le_refl _,.inl ⟨rfl,rfl⟩⟩ (by rw [<-hp];rfl)
   rw [<-hp] at this
   exact this
  rw [if_neg h5,if_neg h4] at hp
  refine iteF (fun hh=>h5 (by have:=beq_iff_eq.1 hh;omega)) ?_
  have hx:=hx h4'
  refine zzw (enc:=eIns) (ys:=[x]) lk3 (o.mono l3) (by rfl) rfl (fun _=>rfl) (fun _=>rfl) rfl (by simp only [List.length_singleton];omega) fun l' k4 l4 o4 _=> ?_
  have ewj:IntKind.wrap .i64 ((j:Int)+1)=((j+1:Nat):Int):=by rw [zab (by omega) (by omega)];omega
  rw [ewj,zab (n:=i+1) (by omega) (by omega),Int.toNat_natCast]
  have ey:rest.extract (j+1) rest.size=txtB (rest.data.toList.drop (j+1)):=by
   rw [zgm,<-hl,List.take_of_length_le (Nat.le_refl _)]
  rw [ey,zay,zjv,List.length_drop]
  refine ⟨⟨by omega,by omega⟩,⟨l4,kf,xs++ [x],by omega,by omega,o4,by rw [List.length_append,List.length_singleton];omega,by omega,?_⟩,by omega⟩
  rw [List.map_append,List.map_cons,List.map_nil,hx]
  exact hp
 by_cases hlt2:j<rest.size
 ·obtain ⟨d,hd'⟩:∃d,rest.data.toList[j]? =some d:=⟨_,List.getElem?_eq_getElem (by omega)⟩
  rw [zri2 hd'] at he
  rw [Int.toNat_natCast,zik1 hd']
  by_cases h10:d=10
  ·rw [if_pos h10,List.length_nil,Nat.add_zero] at he
   refine iteF (fun hh=> ?_) (found he)
   rw [Bool.and_eq_true] at hh
   exact bne_iff_ne.1 hh.2 ((zvq (n:=10) (by decide)).2 h10)
  ·rw [if_neg h10,List.length_cons] at he
   refine iteT ?_ ?_
   ·rw [Bool.and_eq_true]
    exact ⟨decide_eq_true (by omega),bne_iff_ne.2 fun e=>h10 ((zvq (n:=10) (by decide)).1 e)⟩
   ·rw [zab (by omega) (by omega)]
    exact ⟨⟨rfl,j+1,by omega,by omega,by omega⟩,by omega⟩
 grind
theorem zfb2 {P:Program} {t:Nat} {x y:Operand} {xs ys:Array Value} (L:List (Field×IntKind×Int×Int)) (hu:P.underlying t=some (.struct (L.map (·.1)).toArray)) (hg:P.eqGuardType P.depth t=false) (hp:P.stoodInHeld t=false)
  (hL:∀q∈L,q.1.name≠ "_" ∧P.underlying q.1.type=some (.int q.2.1)∧xs[q.1.offset]? =some (.int q.2.1 q.2.2.1)∧ys[q.1.offset]? =some (.int q.2.1 q.2.2.2)):
  SemIs P (binS .neq t x y (.agg xs) (.agg ys)) h (.bool (!(L.all fun q=>q.2.2.1==q.2.2.2))):=by
 refine zir1 fun w=> ?_
 have hf:P.fieldsOf t=(L.map (·.1)).toArray:=by unfold Program.fieldsOf;rw [hu]
 have ht:P.underlying t=some (.struct (P.fieldsOf t)):=by rw [hf];exact hu
 have h1:=run_equalIn_struct (P:=P) w 9999 t xs ys ht hp
 rw [hf] at h1
 have h2:=eqF (P:=P) 9998 xs ys L w hL
 unfold binS
 simp only [Sem.run_bind,run_eqGuard_agg w .neq t x y xs ys hg,Result.andThen_ok,run_neq_struct]
 rw [show (10000:Nat)=9999+1 from rfl,h1]
 simp only [h2,Result.andThen_ok]
def sameI (x y:S_api_Ins):Bool:=x.Op==y.Op&&(x.A==y.A&&(x.B==y.B&&(x.C==y.C&&x.Imm==y.Imm)))
theorem sameI_iff {x y:S_api_Ins}:sameI x y=true↔insOf x=insOf y:=by
 unfold sameI insOf
 simp
theorem zda1 {x y:S_api_Ins} {p q:Operand}:SemIs Tryz.prog (binS .neq 44 p q x.v y.v) h (.bool (!(sameI x y))):=by
 have:=zfb2 (h:=h) (P:=Tryz.prog) (t:=44) (x:=p) (y:=q) (xs:= #[.int .i64 x.Op,.int .i64 x.A,.int .i64 x.B,.int .i64 x.C,.int .i64 x.Imm]) (ys:= #[.int .i64 y.Op,.int .i64 y.A,.int .i64 y.B,.int .i64 y.C,.int .i64 y.Imm])
  [(⟨ "Op",3,0,false, "", "",0⟩,.i64,x.Op,y.Op),(⟨ "A",3,1,false, "", "",8⟩,.i64,x.A,y.A),(⟨ "B",3,2,false, "", "",16⟩,.i64,x.B,y.B),(⟨ "C",3,3,false, "", "",24⟩,.i64,x.C,y.C),(⟨ "Imm",2,4,false, "", "",32⟩,.i64,x.Imm,y.Imm)]
  (tb_ok.und 44 ty44 rfl) (by kernel_rfl) (by kernel_rfl) (fun q hq=>by
   simp only [List.mem_cons,List.not_mem_nil,or_false] at hq
   rcases hq with rfl | rfl | rfl | rfl | rfl
   ·exact ⟨by simp,tb_ok.und 3 ty3 rfl,rfl,rfl⟩
   ·exact ⟨by simp,tb_ok.und 3 ty3 rfl,rfl,rfl⟩
   ·exact ⟨by simp,tb_ok.und 3 ty3 rfl,rfl,rfl⟩
   ·exact ⟨by simp,tb_ok.und 3 ty3 rfl,rfl,rfl⟩
   ·exact ⟨by simp,tb_ok.und 2 ty2 rfl,rfl,rfl⟩)
 have e:sameI x y=[(⟨ "Op",3,0,false, "", "",0⟩,IntKind.i64,x.Op,y.Op),(⟨ "A",3,1,false, "", "",8⟩,.i64,x.A,y.A),(⟨ "B",3,2,false, "", "",16⟩,.i64,x.B,y.B),(⟨ "C",3,3,false, "", "",24⟩,.i64,x.C,y.C),((⟨ "Imm",2,4,false, "", "",32⟩:Field),.i64,x.Imm,y.Imm)].all (fun q=>q.2.2.1==q.2.2.2):=by
  unfold sameI
  simp
 rw [e]
 exact this
theorem zim1 {a b:Sl} {is js:List S_api_Ins} {Q:Bool->Hp->Prop} (ra:InsS h a is) (rb:InsS h b js) (hn:is.length<=140737488355328) (h1:is.map insOf=js.map insOf->Q true h) (h0:is.map insOf≠js.map insOf->Q false h):zlk Tryz.prog a b Q h:=by
 unfold zlk
 have e1:a.len=is.length:=ra.1
 have e2:b.len=js.length:=rb.1
 by_cases hl:is.length=js.length
 ·refine iteF (fun hh=>bne_iff_ne.1 hh (by omega)) ?_
  refine LoopW1.intro (fun i k=>k=h/\∃j:Nat,i=(j:Int)/\j<=is.length/\(is.take j).map insOf=(js.take j).map insOf) (fun i _=>(is.length-i).toNat) ⟨rfl,0,rfl,by omega,rfl⟩ ?_
  rintro _ k ⟨rfl,j,rfl,hj,he⟩
  by_cases hlt:j<is.length
  ·refine iteT (decide_eq_true (by omega)) ?_
   refine Rs.get (sh:=sh_api_Ins) ra (fun _=>rfl) (by omega) (by omega) (by omega) fun x hx=>Rs.get (sh:=sh_api_Ins) rb (fun _=>rfl) (by omega) (by omega) (by omega) fun y hy=> ?_
   rw [Int.toNat_natCast] at hx hy
   refine ⟨_,zda1,?_⟩
   by_cases hxy:insOf x=insOf y
   ·rw [sameI_iff.2 hxy]
    refine iteF (by decide) ?_
    rw [zab (by omega) (by omega)]
    refine ⟨⟨rfl,j+1,by omega,by omega,?_⟩,by omega⟩
    rw [List.take_add_one,List.take_add_one,hx,hy,List.map_append,List.map_append,he]
    show _++ [insOf x]=_++ [insOf y]
    rw [hxy]
   ·rw [Bool.eq_false_iff.2 fun hh=>hxy (sameI_iff.1 hh)]
    refine iteT rfl (h0 fun e=>hxy ?_)
    have h1:=congrArg (fun l:List PIns=>l[j]?) e
    simp only [List.getElem?_map,hx,hy] at h1
    exact Option.some.inj h1
  grind
 ·refine iteT (bne_iff_ne.2 (by omega)) (h0 fun e=>hl ?_)
  have:=congrArg List.length e
  grind
end
def awL :List PIns:=[⟨1,0,0,0,5⟩,⟨23,0,0,0,0⟩,⟨24,1,2,3,0⟩,⟨0,0,0,0,0⟩]
def awX :List S_api_Ins:=[⟨1,0,0,0,5⟩,⟨23,0,0,0,0⟩,⟨24,1,2,3,0⟩,⟨0,0,0,0,0⟩]
def awB :List UInt8:=[115,101,116,32,114,48,32,53,10,105,102,32,114,48,32,48,10,115,101,110,100,32,114,49,32,114,50,32,114,51,10,101,120,105,116,10]
def awC :List UInt8:=[101,120,105,116,10,115,101,116,32,114,48,10]
theorem awX_map :awX.map insOf=awL:=rfl
theorem zyx1 :codeP awL 8=(0,0):=by decide+kernel
theorem aw_in :∀x∈awL,InI x.imm:=by
 intro x hx
 simp only [awL,List.mem_cons,List.not_mem_nil,or_false] at hx
 unfold InI
 grind
theorem zch2 :∀n,n<10->decB ((n:Nat):Int)=[UInt8.ofNat (48+n)]:=by
 intro n hn
 unfold decB signL
 rw [if_neg (by omega),Int.natAbs_natCast,zdm1 hn]
 rfl
theorem zkl2 :progB awL=awB:=by
 have r0:regB 0=[114,48]:=zzx 0 (by decide)
 have r1:regB 1=[114,49]:=zzx 1 (by decide)
 have r2:regB 2=[114,50]:=zzx 2 (by decide)
 have r3:regB 3=[114,51]:=zzx 3 (by decide)
 have d0:decB 0=[48]:=zch2 0 (by decide)
 have d5:decB 5=[53]:=zch2 5 (by decide)
 have n5:numB 1 5=[53]:=by unfold numB;rw [if_neg (by decide),d5]
 have n0:numB 23 0=[48]:=by unfold numB;grind
 have l1:lineB ⟨1,0,0,0,5⟩=[115,101,116,32,114,48,32,53]:=by
  unfold lineB
  simp only [r0,n5]
  rfl
 have l2:lineB ⟨23,0,0,0,0⟩=[105,102,32,114,48,32,48]:=by
  unfold lineB
  simp only [r0,n0]
  rfl
 have l3:lineB ⟨24,1,2,3,0⟩=[115,101,110,100,32,114,49,32,114,50,32,114,51]:=by
  unfold lineB
  simp only [r1,r2,r3]
  rfl
 have l4:lineB ⟨0,0,0,0,0⟩=[101,120,105,116]:=rfl
 unfold awL
 rw [zmi,zmi,zmi,zmi,l1,l2,l3,l4]
 rfl
theorem zns2 :zcc2 awL=awB:=by
 unfold zcc2
 rw [zyx1]
 exact (if_pos rfl).trans zkl2
theorem znt2 :zia awB=(awL,0,0,0):=by
 rw [<-zkl2]
 exact zyp1 (by rw [zyx1]) aw_in
theorem zvs1 {n i:Int} {k:Nat} {r L:List UInt8} {acc:List PIns} {p:PIns×RS} (h0:r≠ []) (h1:¬256<i) (hL:r.takeWhile (· !=10)=L) (hn:L.length≠r.length) (hp:insR L n=p):
  zjh n (k+1) r i acc=if p.2.e≠0 then ([],p.2.e,i,(p.2.bad:Int)) else zjh n k (r.drop (L.length+1)) (i+1) (acc++ [p.1]):=by
 subst hL
 subst hp
 rw [zjh,if_neg h0,if_neg h1]
 grind
theorem zkm2 :zia awC=([],5,2,6):=by
 have i1:insR [101,120,105,116] 2=(⟨0,0,0,0,0⟩,⟨4,0,0⟩):=zmk1 (x:=⟨0,0,0,0,0⟩) (n:=2) (by decide+kernel) (by unfold InI;decide)
 have i2:(insR [115,101,116,32,114,48] 2).2=⟨6,5,6⟩:=rfl
 unfold zia
 show zjh 2 (11+1+1) awC 1 []=_
 rw [zvs1 (L:=[101,120,105,116]) (by decide) (by decide) (by decide) (by decide) i1,if_neg (show ¬(0:Int)≠0 by decide),
  zvs1 (L:=[115,101,116,32,114,48]) (by decide) (by decide) (by decide) (by decide) rfl,i2]
 rfl
theorem zpf1 (t:List UInt8):(zia t).1.length<=256:=by
 by_cases h:(zia t).2.1=0
 ·exact (codeP_ok.1 (zyq1 h).2.2.1).1
 ·rw [(zeo2 h).1]
  simp
section
variable {h:Hp}
theorem zoy2 {a b:List UInt8} (e:a=b):((ByteArray.toList (txtB a))==(ByteArray.toList (txtB b)))=true:=by
 grind
theorem zvt1 {Q:Bool->Hp->Prop} (e:VEnv h) (hq:∀h',h<=h'->Q true h'):zki Tryz.prog Q h:=by
 unfold zki
 refine zeo1 (h0:=h) (sz:=5) (enc:=eIns) (xs:=awX) (Hp.le_refl h) rfl (fun _=>rfl) fun a h1 l1 o1=> ?_
 have r1:InsS h1 ⟨some a,4,4⟩ awX:=o1.rw fun _=>rfl
 refine zww (zfq1 r1 (fun x hx=>aw_in (insOf x) (List.mem_map.2 ⟨x,hx,rfl⟩)) (e.mono l1).pe fun h2 l2=> ?_)
 rw [awX_map,zns2,zyx1]
 have l02:=Hp.le_trans l1 l2
 refine znb (zur (t:=txtB awB) (e.mono l02) (by decide) fun h3 s3 x3 l3 o3 m3=> ?_)
 rw [zay,znt2] at m3 ⊢
 have l03:=Hp.le_trans l02 l3
 refine znb (zur (t:=txtB awC) (e.mono l03) (by decide) fun h4 s4 x4 l4 o4 m4=> ?_)
 rw [zay,zkm2] at m4 ⊢
 have c1:((ByteArray.toList (txtB awB))==(ByteArray.toList ⟨#[115,101,116,32,114,48,32,53,10,105,102,32,114,48,32,48,10,115,101,110,100,32,114,49,32,114,50,32,114,51,10,101,120,105,116,10]⟩))=true:=zoy2 (b:=awB) rfl
 refine letW (letW (letW (letW (letW ?_))))
 rw [c1]
 have r3:InsS h4 s3 x3:=(o3.mono l4).rw fun _=>rfl
 have r4:InsS h4 ⟨some a,4,4⟩ awX:=Rw.mono (Hp.le_trans l2 (Hp.le_trans l3 l4)) r1
 have hx3:x3.length=4:=by have:=congrArg List.length m3;rwa [List.length_map] at this
 refine effB (by decide) (zcd (b:=⟨some a,4,4⟩) (zim1 r3 r4 (by omega) (fun _=> ?_) fun hn=>absurd (m3.trans awX_map.symm) hn))
 exact letW (letW (letW (letW (hq h4 (Hp.le_trans l03 l4)))))
theorem zkn2 {l:Sl} {xs:List S_api_Ins} {Q:Sl->Hp->Prop} (r:InsS h l xs) (hl:l.len<=l.cap) (hq:∀o:Sl,InsS h o (xs.take 1048576)->Q o h):zkj Tryz.prog l Q h:=by
 unfold zkj
 have e:min2I ((l.len:Nat):Int) (1048576:Int)=((min l.len 1048576:Nat):Int):=by unfold min2I;split<;>omega
 have hlen:=r.1
 rw [e]
 refine ⟨⟨by omega,by omega,by omega⟩,letW ?_⟩
 rw [Int.toNat_natCast]
 have h1:=r.head (fun _=>rfl) (b:=min l.len 1048576) (c:=min l.len 1048576) (n:=min l.len 1048576-0) (m:=min l.len 1048576-0) (by omega) (Nat.le_refl _) (by omega)
 grind
theorem zrk2 {xs:List S_api_Ins} (hi:∀x∈xs,InI x.Imm) (n:Nat):∀x∈xs.take n,InI x.Imm:=fun x hx=>hi x (List.mem_of_mem_take hx)
theorem asmReads_ok {t:ByteArray} {Q:Bool->Hp->Prop} (e:VEnv h) (hs:t.size<=281474976710656) (hq:∀h',h<=h'->Q true h'):zhp Tryz.prog t Q h:=by
 unfold zhp
 refine zna (zvt1 e fun h1 l1=>iteF (by decide) ?_)
 refine znb (zur (e.mono l1) hs fun h2 s2 x2 l2 o2 m2=> ?_)
 have l02:=Hp.le_trans l1 l2
 refine znc (zvr1 (e.mono l02).pe.env.small hs fun h3 s3 x3 l3 o3 m3=>letW (letW ?_))
 rw [beq_self_eq_true,beq_self_eq_true,beq_self_eq_true]
 have hx2:x2.length<=140737488355328:=by
  have:=zpf1 t.data.toList
  grind
 refine effB rfl (zcd (zim1 ((o2.mono l3).rw fun _=>rfl) (o3.rw fun _=>rfl) hx2 (fun _=>letW (hq h3 (Hp.le_trans l02 l3))) fun hn=>absurd (m2.trans m3.symm) hn))
end
end Lf
namespace Lf
open Go Go.Proofs Go.ChangeShapes Go.WideShapes Go.ChangeAt Go.RowKit
section
variable {H:Type} {enc:TypeId×Value->H} {W:World}
theorem zko2 {fuel:Nat} {cs:List Value} {y:DataW H×List MemPlace} (hl:cs.length=5) (h:DataW.trod enc Tryz.prog W 0 (fun _=>true) true fuel 44 cs=some y):∃x:S_api_Ins,cs=eIns x/\InI x.Imm:=by
  have hu:=tb_ok.und 44 ty44 rfl
  have ui:=tb_ok.und 3 ty3 rfl
  have uj:=tb_ok.und 2 ty2 rfl
  obtain ⟨a0,h0, -⟩:=zoq hu h (i:=0) rfl ui (by kernel_rfl)
  obtain ⟨a1,h1, -⟩:=zoq hu h (i:=1) rfl ui (by kernel_rfl)
  obtain ⟨a2,h2, -⟩:=zoq hu h (i:=2) rfl ui (by kernel_rfl)
  obtain ⟨a3,h3, -⟩:=zoq hu h (i:=3) rfl ui (by kernel_rfl)
  obtain ⟨a4,h4,w4⟩:=zoq hu h (i:=4) rfl uj (by kernel_rfl)
  have h0:cs[0]? =some (.int .i64 a0):=h0
  have h1:cs[1]? =some (.int .i64 a1):=h1
  have h2:cs[2]? =some (.int .i64 a2):=h2
  have h3:cs[3]? =some (.int .i64 a3):=h3
  have h4:cs[4]? =some (.int .i64 a4):=h4
  refine ⟨⟨a0,a1,a2,a3,a4⟩,?_,?_⟩
  · match cs,hl with
    | [b0,b1,b2,b3,b4],_=>
      cases h0;cases h1;cases h2;cases h3;cases h4
      rfl
  · have:=zrq2 w4
    exact ⟨this.1,by show a4<_;omega⟩
theorem ins_in {v:Value} {d:DataW H} {ps:List MemPlace} {base:Nat} (hv:Value.okWide Tryz.prog W .any base 31 v) (h:DataW.Trod enc Tryz.prog W 0 (fun _=>true) true 31 v d ps):
    ∃(l:Sl) (xs:List S_api_Ins),v=l.v/\InsS (whole W) l xs/\l.len<=l.cap/\(∀x∈xs,InI x.Imm)/\(l.len=0\/∃el sp,d=.slice el sp/\el.length=l.len):=by
  have hc:Tryz.prog.cellsOf 44=5:=by kernel_rfl
  obtain ⟨l,xs,h1,h2,h3, -,h5,h6⟩:=zlk2 (α:=S_api_Ins) (tb_ok.und 31 ty31 rfl) eIns (fun x=>InI x.Imm) (fun fuel cs y hl hy=>zko2 (hl.trans hc) hy) (fun x=>(show (eIns x).length=5 from rfl).trans hc.symm) hv h
  rw [hc] at h2
  exact ⟨l,xs,h1,h2,h3,h5,h6⟩
end
end Lf
namespace Lf
open Go Go.Proofs Go.RowKit
theorem zkp2 {α:Type} {h0 h:Hp} {sz:Nat} {enc:α->List Value} {l:Sl} {xs:List α} (hle:h0<=h) (o:Own h0 h sz enc l xs) (henc:∀x,(enc x).length=sz) {i:Int} (hi0:0<=i) (hi1:i<(xs.length:Int)) (x:α) {K:Hp->Prop}
  (hk:∀h',h0<=h'->Own h0 h' sz enc l (xs.set i.toNat x)->K h'):InB l.base l.len i/\StW h (sat l.base sz i) (enc x) K:=by
 obtain ⟨F,hF,hf⟩:=o.ownF
 refine hF.store henc hi0 hi1 x fun h' hF' m=> ?_
 obtain ⟨h1,h2⟩:=m.le hle hf
 exact hk h' h1 (hF'.own h2)
section
variable {h:Hp}
end
theorem zoz2 {l:Option Addr} {sz c:Nat}:sbase l sz 0 c=l:=by
 unfold sbase
 split
 ·rfl
 ·cases l<;>simp [Addr.add]
section
variable {h:Hp}
theorem zvu1 {h1 h2:Hp} {l':Sl} {ys:List S_api_Ins} {F:List Nat} (hF:∀b∈F,h1 b≠none) (o:Own h1 h2 5 eIns l' ys):Rw (cutH h2 F) 5 eIns l' ys:=by
 refine (o.rw fun _=>rfl).cutR fun a ha _ hm=> ?_
 obtain ⟨-, -,o3⟩:=o
 rcases o3 with ⟨e, -⟩ | ⟨b,cs,t,e, -, -, -,hn⟩
 ·rw [e] at ha;cases ha
 ·rw [e] at ha
  cases ha
  exact hF b hm hn
theorem asmKeeps_ok {l:Sl} {xs:List S_api_Ins} {t:ByteArray} {Q:Bool->Hp->Prop} (e:VEnv h) (r:InsS h l xs) (hl:l.len<=l.cap) (hi:∀x∈xs,InI x.Imm) (hs:t.size<=281474976710656) (hq:∀h',h<=h'->Q true h'):zhq Tryz.prog l t Q h:=by
 unfold zhq
 refine zna (zvt1 e fun h1 l1=>iteF (by decide) ?_)
 refine zwv (zkn2 (Rw.mono l1 r) hl fun o ro=> ?_)
 have hi':=zrk2 hi 1048576
 have hyl:(xs.take 1048576).length<=1048576:=by rw [List.length_take];omega
 generalize xs.take 1048576=ys at*
 have hol:o.len=ys.length:=ro.1
 have ew:IntKind.wrap .i64 (((o.len:Nat):Int)+(2:Int))=((ys.length+2:Nat):Int):=by rw [hol,zab (by omega) (by omega)];omega
 have ew1:IntKind.wrap .i64 (((o.len:Nat):Int)+(1:Int))=((ys.length+1:Nat):Int):=by rw [hol,zab (by omega) (by omega)];omega
 rw [ew,ew1]
 refine ⟨⟨by decide,by omega,by omega,by rw [Int.toNat_natCast];omega⟩,fun b ty hb=> ?_⟩
 have et:Int.toNat ((ys.length+2:Nat):Int)=ys.length+2:=Int.toNat_natCast _
 rw [et]
 generalize hz:zbn [Value.int .i64 0,.int .i64 0,.int .i64 0,.int .i64 0,.int .i64 0] (ys.length+2)=zs
 have hzl:zs.length=(ys.length+2)*5:=by rw [<-hz,ztt];rfl
 have l2:=zji (o:=.cells zs.toArray ty (0,0)) hb
 have o2:Own h1 (h1.set b (.cells zs.toArray ty (0,0))) 5 eIns ⟨some ⟨b,0,none⟩,Int.toNat 0,ys.length+2⟩ ([]:List S_api_Ins):=⟨rfl,Nat.zero_le _,.inr ⟨b,zs,ty,rfl,zdu,hzl,by simp,hb⟩⟩
 generalize h1.set b (.cells zs.toArray ty (0,0))=h2 at*
 refine zpx1 (h0:=h1) (enc:=eIns) l2 o2 (Rw.mono l2 ro) (fun _=>rfl) (fun _=>rfl) rfl (by simp only [List.length_nil];omega) fun s3 h3 l3 o3 _=> ?_
 rw [List.nil_append] at o3
 refine zzw (h0:=h1) (enc:=eIns) (ys:=[(⟨77,0,0,0,0⟩:S_api_Ins),⟨78,0,0,0,0⟩]) l3 o3 rfl rfl (fun _=>rfl) (fun _=>rfl) rfl (by simp only [List.length_cons,List.length_nil];omega) fun s4 h4 l4 o4 _=> ?_
 have e4:=o4.1
 have e4c:=o4.2.1
 rw [List.length_append] at e4
 simp only [List.length_cons,List.length_nil] at e4
 refine ⟨⟨by omega,by omega⟩,letW ?_⟩
 rw [zoz2,Int.toNat_natCast,Nat.sub_zero,Nat.sub_zero]
 obtain ⟨F4,f4,hF4⟩:=o4.ownF
 have oy:Own h1 h4 5 eIns ⟨s4.base,o.len,s4.cap⟩ ys:=by
  have:=(f4.head (fun _=>rfl) (n:=o.len) (by rw [List.length_append];omega)).own hF4
  rwa [hol,List.take_left' rfl,<-hol] at this
 have ry1:InsS h4 ⟨s4.base,ys.length+2,s4.cap⟩ (ys++ [(⟨77,0,0,0,0⟩:S_api_Ins),⟨78,0,0,0,0⟩]):=by
  have:=o4.rw fun _=>rfl
  exact this.re rfl (by show ys.length+2=s4.len;omega)
 refine zww (zfq1 (oy.rw fun _=>rfl) hi' (e.mono (Hp.le_trans l1 l4)).pe fun h5 l5=> ?_)
 have l15:=Hp.le_trans l4 l5
 refine ⟨⟨Int.natCast_nonneg _,(show ((ys.length+2:Nat):Int)<=((s4.cap:Nat):Int) by omega)⟩,letW ?_⟩
 rw [zoz2,Nat.sub_zero,Nat.sub_zero]
 have ry5:InsS h5 ⟨s4.base,o.len,s4.cap⟩ ys:=(oy.mono l5).rw fun _=>rfl
 refine zcd (b:=o) (zim1 ry5 (Rw.mono l15 ro) (by omega) (fun _=> ?_) fun hn=>absurd rfl hn)
 have rr:InsS h5 ⟨s4.base,ys.length+2,s4.cap⟩ (ys++ [(⟨77,0,0,0,0⟩:S_api_Ins),⟨78,0,0,0,0⟩]):=Rw.mono l5 ry1
 have hll:(ys++ [(⟨77,0,0,0,0⟩:S_api_Ins),⟨78,0,0,0,0⟩]).length=ys.length+2:=by rw [List.length_append];rfl
 refine Rs.getC (sh:=sh_api_Ins) rr ⟨77,0,0,0,0⟩ (fun _=>rfl) (by omega) (fun _=>⟨by omega,by omega⟩) fun v hv=> ?_
 have hv:=hv rfl
 rw [hol,Int.toNat_natCast,List.getElem?_append_right (Nat.le_refl _),Nat.sub_self] at hv
 have hv:(⟨77,0,0,0,0⟩:S_api_Ins)=v:=Option.some.inj hv
 subst hv
 refine ⟨_,fun _=>zda1 (y:=⟨77,0,0,0,0⟩),letW ?_⟩
 have s77:(!(sameI ⟨77,0,0,0,0⟩ ⟨77,0,0,0,0⟩))=false:=rfl
 rw [s77]
 refine Rs.getC (sh:=sh_api_Ins) rr ⟨78,0,0,0,0⟩ (fun _=>rfl) (by omega) (fun _=>⟨by omega,by omega⟩) fun v hv=> ?_
 have hv:=hv rfl
 rw [Int.toNat_natCast,List.getElem?_append_right (by omega),show ys.length+1-ys.length=1 by omega] at hv
 have hv:(⟨78,0,0,0,0⟩:S_api_Ins)=v:=Option.some.inj hv
 subst hv
 refine ⟨_,fun _=>zda1 (y:=⟨78,0,0,0,0⟩),letW ?_⟩
 have s78:(!(sameI ⟨78,0,0,0,0⟩ ⟨78,0,0,0,0⟩))=false:=rfl
 rw [s78]
 refine iteF (by decide) ?_
 refine LoopW1.intro (fun i k=>h1<=k/\0<=i/\∃zs:List S_api_Ins,zs.length=ys.length/\Own h1 k 5 eIns ⟨s4.base,o.len,s4.cap⟩ zs) (fun i _=>(ys.length-i).toNat) ⟨l15,by decide,ys,rfl,oy.mono l5⟩ ?_
 rintro i k ⟨lk,i0,zs',hzs,oz⟩
 by_cases hlt:i<(ys.length:Int)
 ·refine iteT (decide_eq_true (by show i<((o.len:Nat):Int);omega)) ?_
  refine zkp2 (enc:=eIns) lk oz (fun _=>rfl) i0 (by omega) ⟨5,0,0,0,0⟩ fun k' lk' ok'=> ?_
  rw [zab (by omega) (by omega)]
  exact ⟨⟨lk',by omega,_,by rw [List.length_set];exact hzs,ok'⟩,by omega⟩
 refine iteF (fun hh=>hlt (by have:i<((o.len:Nat):Int):=of_decide_eq_true hh;omega)) ?_
 have lhk:=Hp.le_trans l1 lk
 refine zww (l:=o) (zfq1 (Rw.mono lk ro) hi' (e.mono lhk).pe fun k1 m1=> ?_)
 have n1:=Hp.le_trans lhk m1
 refine znb (zur (e.mono n1) hs fun k2 p xp m2 op ep=> ?_)
 have n2:=Hp.le_trans n1 m2
 refine znb (zur (e.mono n2) hs fun k3 q xq m3 oq eq=> ?_)
 have n3:=Hp.le_trans n2 m3
 refine znc (zvr1 (e.mono n3).pe.env.small hs fun k4 w xw m4 ow ew'=>letW ?_)
 rw [zoy2 rfl,show ((codeP (ys.map insOf) 8).1 !=(codeP (ys.map insOf) 8).1)=false by simp]
 have hxw:xw.length<=256:=by
  have:=zpf1 t.data.toList
  rwa [<-ew',List.length_map] at this
 have hxp:xp.length=xw.length:=by have:=congrArg List.length (ep.trans ew'.symm);rwa [List.length_map,List.length_map] at this
 have hxq:xq.length=xw.length:=by have:=congrArg List.length (eq.trans ew'.symm);rwa [List.length_map,List.length_map] at this
 have op4:=(op.mono m3).mono m4
 have oq4:=oq.mono m4
 refine effB rfl (zcd (zim1 (op4.rw fun _=>rfl) (ow.rw fun _=>rfl) (by omega) (fun _=>letW ?_) fun hn=>absurd (ep.trans ew'.symm) hn))
 refine effB rfl (zcd (zim1 (oq4.rw fun _=>rfl) (ow.rw fun _=>rfl) (by omega) (fun _=>letW ?_) fun hn=>absurd (eq.trans ew'.symm) hn))
 refine iteF (by decide) ?_
 obtain ⟨F,fp,hF⟩:=op4.ownF
 have known2:∀b∈F,k2 b≠none:=by
  intro c hc
  obtain ⟨F2,f2, -⟩:=op.ownF
  have:c∈F2:=by
   obtain ⟨-, -,a3⟩:=fp
   obtain ⟨-, -,b3⟩:=f2
   rcases a3 with ⟨_,_,rfl⟩ | ⟨b1,_,e1,rfl,_⟩
   ·cases hc
   ·rcases b3 with ⟨e2,_⟩ | ⟨b2,_,e2,rfl,_⟩
    ·rw [e1] at e2;cases e2
    ·rw [e1] at e2
     cases e2
     exact hc
  exact f2.known c this
 have known3:∀b∈F,k3 b≠none:=fun b hb hn=>known2 b hb (zqe m3 hn)
 have rq:Rw (cutH k4 F) 5 eIns q xq:=zvu1 known2 oq4
 have rw':Rw (cutH k4 F) 5 eIns w xw:=zvu1 known3 ow
 have hpB:Own (cutH k4 F) k4 5 eIns p xp:=fp.own fun b hb=>zal2 hb
 have lB:cutH k4 F<=k4:=znz2
 have lhB:h<=cutH k4 F:=zoa2 (Hp.le_trans n3 m4) fun b hb=>zqe n1 (hF b hb)
 generalize cutH k4 F=B at*
 have hpl:=op.1
 have hwl:=ow.1
 refine LoopW1.intro (fun i k=>B<=k/\0<=i/\∃zs:List S_api_Ins,zs.length=xw.length/\Own B k 5 eIns p zs) (fun i _=>(xw.length-i).toNat) ⟨lB,by decide,xp,hxp,hpB⟩ ?_
 rintro i k5 ⟨lk5,i0,zs5,hz5,o5⟩
 by_cases hlt5:i<(xw.length:Int)
 ·refine iteT (decide_eq_true (by omega)) ?_
  refine zkp2 (enc:=eIns) lk5 o5 (fun _=>rfl) i0 (by omega) ⟨99,0,0,0,0⟩ fun k' lk' ok'=> ?_
  rw [zab (by omega) (by omega)]
  exact ⟨⟨lk',by omega,_,by rw [List.length_set];exact hz5,ok'⟩,by omega⟩
 refine iteF (fun hh=>hlt5 (by have:i<((p.len:Nat):Int):=of_decide_eq_true hh;omega)) ?_
 refine LoopW2.intro (fun p' i k=>B<=k/\∃(j:Nat) (zs:List S_api_Ins),i=(j:Int)/\j<=40/\zs.length=xw.length+j/\Own B k 5 eIns p' zs) (fun _ i _=>(40-i).toNat) ⟨lk5,0,zs5,rfl,by decide,hz5,o5⟩ ?_
 rintro p' _ k6 ⟨lk6,j,zs6,rfl,hj,hz6,o6⟩
 by_cases hlt6:j<40
 ·refine iteT (decide_eq_true (by omega)) ?_
  refine zzw (enc:=eIns) (ys:=[(⟨98,0,0,0,0⟩:S_api_Ins)]) lk6 o6 rfl rfl (fun _=>rfl) (fun _=>rfl) rfl (by simp only [List.length_cons,List.length_nil];omega) fun l' k' lk' ok' _=> ?_
  rw [zab (by omega) (by omega)]
  exact ⟨⟨lk',j+1,_,by omega,by omega,by rw [List.length_append,List.length_singleton];omega,ok'⟩,by omega⟩
 refine iteF (fun hh=>hlt6 (by have:(j:Int)<40:=of_decide_eq_true hh;omega)) ?_
 refine zcd (zim1 (Rw.mono lk6 rq) (Rw.mono lk6 rw') (by omega) (fun _=>letW ?_) fun hn=>absurd (eq.trans ew'.symm) hn)
 have hp6:=o6.1
 have ef:(((p'.len:Nat):Int)==(IntKind.wrap .i64 (((w.len:Nat):Int)+(40:Int))))=true:=by
  rw [zab (by omega) (by omega),beq_iff_eq]
  omega
 rw [ef]
 exact hq k6 (Hp.le_trans lhB lk6)
end
end Lf
