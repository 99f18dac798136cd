/-
  Part 6 of the texts that the claim leans on.
-/
import Derived.Laws.StructEq
import Derived.ChangeKeysEq
import Derived.ProofKit
import Derived.SizedLaws
import Derived.OpenShut
import Derived.Laws.IdiomStrings
import Derived.Test.YtloapcmhhcbonaaGreatMgSnKeeps4
namespace Lf
open Go Go.Proofs
def zgy :PCfg:=⟨[],[],0,0,0,0,[]⟩
theorem zsq {h:Hp}:CfgO cfg0 zgy h []:=⟨[],[],[],rfl,RowsO.nil,RowsO.nil,RowsO.nil,rfl,rfl,rfl,rfl⟩
structure Few (c:PCfg):Prop where
 nl:c.labels.length≤8
 np:c.procs.length≤32
 lane:c.lane≤64
 locks:0≤c.locks∧c.locks≤8
 log:c.log≤4096
theorem zxb1 (m:Int) {c:PCfg} (hm:m=0↔LabOK c.labels) (h:CfgV c):Few c:=by
 obtain ⟨_,h2⟩:=(zxl hm).2 h
 obtain ⟨e1,_,_,_,_,e6,e7,e8,_,e10,_⟩:=cfgP_zero.1 h2
 exact ⟨(hm.1 e1).2.1,e10,e6.2,e7,e8.2⟩
theorem zoc (c:PCfg):(mayP c.labels).1=0↔LabOK c.labels:=mayP_zero
section
variable {d h:Hp} {rb:Nat} {bl:Sl} {bs:List UInt8} {r:RS}
set_option maxRecDepth 20000 in
theorem zyr1 {Q:Hp→Prop} (a:SAt d h rb bl bs r cfg0)
  (hq:∀r1 x c B h',SB d h rb bl bs x h' r1 B→CfgO x c h' B→Few c→((∃n,r1=.ok n)→CfgV c)→Cn bs r zcg r1 c→Q h'):zjz Tryz.prog (some ⟨rb,0,none⟩) Q h:=by
 unfold zjz
 have few0:Few zgy:=⟨by simp [zgy],by simp [zgy],by simp [zgy],by simp [zgy],by simp [zgy]⟩
 have hlen:bl.len=bs.length:=a.src.1
 have hsm:=a.small
 refine zab (zat (zgq (k:=4) a (by omega) (by omega) fun n r1 h1 hn m1 a1 hc1 _=> ?_))
 have s1:SB d h rb bl bs cfg0 h1 r1 []:=SB.step a.known m1 a1
 obtain ⟨p,e,pl,kb,hs⟩:=a1.blk
 refine zab (ld_at (sh:=shInt .i64) e (kb.ldIs (off:=2) (n:=1) rfl) ?_)
 have herr:∀e,r1=.error e→Cn bs r zcg r1 zgy:=fun e he=>by
  subst he
  have hdone:=hc1.done
  cases r with
  | error y=>
   have hdone:(Except.error y:Except (Int×Nat) (Int×Nat))=.error e:=hdone
   cases hdone
   exact Cn.stay
  | ok at_=>
   have hdone:zD 4 bs at_=.error e:=hdone
   refine Cn.err ?_
   unfold zcg
   unfold zD D.map D.bind at hdone
   cases hx:D.num 4 bs at_ with
   | error e2=>rw [hx] at hdone;cases hdone;rfl
   | ok y=>rw [hx] at hdone;cases hdone
 cases r1 with
 | error y=>
  obtain ⟨er,q⟩:=y
  rw [if_pos (by rw [bne_iff_ne,hs.1];exact hs.2.1)]
  exact hq _ cfg0 zgy [] h1 s1 zsq few0 (by rintro ⟨n,hn⟩;cases hn) (herr _ rfl)
 | ok at2=>
  obtain ⟨rfl,rfl,hat⟩:=hs
  have hat:at2≤bs.length:=by omega
  rw [if_neg (by simp)]
  obtain ⟨at_,rfl⟩:∃at_,r=.ok at_:=by
   cases r with
   | ok at_=>exact ⟨at_,rfl⟩
   | error y=>exact absurd hc1.done (by intro h;cases h)
  have hnum:D.num 4 bs at_=.ok (n,at2):=by
   have hdone:zD 4 bs at_=.ok ((n:Int),at2):=hc1.done
   unfold zD D.map D.bind at hdone
   cases hx:D.num 4 bs at_ with
   | error e2=>rw [hx] at hdone;cases hdone
   | ok y=>
    obtain ⟨y,a2⟩:=y
    rw [hx] at hdone
    have hdone:(Except.ok (toZ y,a2):Except (Int×Nat) (Int×Nat))=.ok ((n:Int),at2):=hdone
    have h1:=Except.ok.inj hdone
    have h2:toZ y=(n:Int):=congrArg Prod.fst h1
    have h3:a2=at2:=congrArg Prod.snd h1
    unfold toZ at h2
    have:y=n:=by omega
    rw [this,h3]
  refine zab (ld_at (sh:=shSl) bl (kb.ldIs (off:=0) (n:=1) rfl) (zab (ld_at (sh:=shInt .i64) (at2:Int) (kb.ldIs (off:=1) (n:=1) rfl) ?_)))
  rw [zal (by omega) (by omega)]
  by_cases hsh:bs.length<at2+n
  ·have hlt:((bl.len:Nat):Int)-(at2:Int)<(n:Int):=by omega
   rw [if_pos (decide_eq_true hlt)]
   refine zab (zab (ld_at (sh:=shSl) bl (kb.ldIs (off:=0) (n:=1) rfl) (zbj (zso kb fun h2 m2 k2=> ?_))))
   rw [if_pos rfl,if_pos rfl] at k2
   have a2:SAt d h2 rb bl bs (.error (5,bs.length)) cfg0:=⟨(m2.le a1.le fun c hc=>by rw [List.mem_singleton.1 hc];exact a.out).1,a.out,a.src,a.cap,a.small,_,_,_,k2,rfl,by decide,by rw [hlen]⟩
   refine hq _ cfg0 zgy [] h2 (SB.step a.known (m1.trans m2) a2) zsq few0 (by rintro ⟨n,hn⟩;cases hn) (Cn.err ?_)
   unfold zcg
   rw [hnum]
   dsimp only
   rw [if_pos hsh]
  ·have hlt:¬((bl.len:Nat):Int)-(at2:Int)<(n:Int):=by omega
   rw [if_neg (fun e=>hlt (of_decide_eq_true e))]
   refine zab (ld_at (sh:=shSl) bl (kb.ldIs (off:=0) (n:=1) rfl) (zab (ld_at (sh:=shInt .i64) (at2:Int) (kb.ldIs (off:=1) (n:=1) rfl) (zab (ld_at (sh:=shInt .i64) (at2:Int) (kb.ldIs (off:=1) (n:=1) rfl) ?_)))))
   have hcap:=a.cap
   rw [zal (by omega) (by omega)]
   have hnk:(at2:Int)≤(at2:Int)+(n:Int):=by omega
   refine ⟨⟨by omega,hnk,by omega⟩,letW ?_⟩
   have e1:((at2:Int)+(n:Int)).toNat=at2+n:=by omega
   have e2:((at2:Int)).toNat=at2:=rfl
   rw [e1,e2]
   have hcut:=(Rw.mono a1.le a.src).cut (a:=at2) (b:=at2+n) (c:=bl.cap) (n:=at2+n-at2) (m:=bl.cap-at2) zcb (by omega) (by omega) (by omega) rfl
   have e3:at2+n-at2=n:=by omega
   rw [e3] at hcut ⊢
   refine zit1 (zpr1 hcut (by show n≤bl.cap-at2;omega) (fun e p h2 hle2 hcfg hne=> ?_) fun y c B h2 hle2 hcfg own nd fresh=> ?_)
   ·have kb2:=kb.le hle2
    rw [if_pos (by simpa using hne)]
    refine zab (zab (ld_at (sh:=shInt .i64) (at2:Int) (kb2.ldIs (off:=1) (n:=1) rfl) ?_))
    refine zbj (zso kb2 fun h3 m3 k3=> ?_)
    rw [if_pos rfl,if_pos rfl] at k3
    have hp:=ztv hcfg
    rw [List.length_take,List.length_drop] at hp
    rw [zal (by omega) (by omega)] at k3
    have m:=(m1.trans (Mv.of_le [rb] hle2)).trans m3
    have a3:SAt d h3 rb bl bs (.error (e,at2+p)) cfg0:=⟨(m.le a.le fun c hc=>by rw [List.mem_singleton.1 hc];exact a.out).1,a.out,a.src,a.cap,a.small,_,_,_,k3,rfl,hne,by push_cast;rfl⟩
    refine hq _ cfg0 zgy [] h3 (SB.step a.known m a3) zsq few0 (by rintro ⟨n,hn⟩;cases hn) (Cn.err ?_)
    unfold zcg
    rw [hnum]
    dsimp only
    rw [if_neg hsh,hcfg]
   ·have kb2:=kb.le hle2
    rw [if_neg (by simp)]
    refine zab (zdp (b:=rb) (off:=4) kb2 (by simp [zcc,cfgL,zad]) fun h3 m3 k3=> ?_)
    have k3:Blk h3 rb (zcc bl (at2:Int) 0 pl++cfgL y):=by simpa [zcc,cfgL,zad,Sl.v] using k3
    refine zab (ld_at (sh:=shInt .i64) (at2:Int) (k3.ldIs (off:=1) (n:=1) rfl) (zab (zdp (b:=rb) (off:=1) k3 (by simp [zcc]) fun h4 m4 k4=> ?_)))
    rw [zal (by omega) (by omega)] at k4
    have k4:Blk h4 rb (zcc bl ((at2:Int)+(n:Int)) 0 pl++cfgL y):=by simpa [zcc,cfgL,zad,Sl.v] using k4
    have m34:=m3.trans m4
    have m:=(m1.trans (Mv.of_le [rb] hle2)).trans m34
    have hd4:=(m.le a.le fun c hc=>by rw [List.mem_singleton.1 hc];exact a.out).1
    have a4:SAt d h4 rb bl bs (.ok (at2+n)) y:=⟨hd4,a.out,a.src,a.cap,a.small,_,_,_,k4,by push_cast;rfl,rfl,by push_cast;omega⟩
    have hrB:rb∉B:=fun hb=>kb.known (fresh rb hb)
    have hv:=(znz zbh1 hcfg).1
    refine hq _ y c B h4 ⟨a.known,fun b o e1 h1=>m.keep b o e1 fun hb=>h1 (List.mem_singleton.1 hb),a4,nd,fun b hb=>s1.new_ (fresh b hb)⟩
     (okCfg.same own (zmv m34 (okCfg.known own) fun b hb e=>hrB (by have e:b=rb:=List.mem_singleton.1 e;exact e▸hb))) (zxb1 _ (zoc c) hv) (fun _=>hv) (Cn.ok ?_)
    unfold zcg
    rw [hnum]
    dsimp only
    rw [if_neg hsh,hcfg]
end
end Lf

namespace Lf
open Go Go.Proofs
abbrev zgw1 (l:Sl) (ps:List PPart) (h:Hp) (B:List Nat):Prop:=RowsO sh_api_Part 6 PartO l ps h B
abbrev zeq1 (l:Sl) (ps:List PProcess) (h:Hp) (B:List Nat):Prop:=RowsO sh_api_Process 15 ProcessO l ps h B
theorem okParts :AsOk zgw1:=RowsO.ok okPart
theorem okProcss :AsOk zeq1:=RowsO.ok okProcess
theorem zrw1 {α:Type} {d:D α} {bs:List UInt8} {e:Int×Nat} (hl:bs.length≤1048576) (h:stepD (.ok 0) d bs=.error e):zdz d bs=.error e:=by
 unfold zdz
 rw [if_neg (by omega)]
 have h:d bs 0=.error e:=h
 rw [h]
theorem zxc1 {α:Type} {d:D α} {bs:List UInt8} {c:α} {a:Nat} (hl:bs.length≤1048576) (h:stepD (.ok 0) d bs=.ok (c,a)):zdz d bs=if a<bs.length then .error (6,a) else .ok c:=by
 unfold zdz
 rw [if_neg (by omega)]
 have h:d bs 0=.ok (c,a):=h
 rw [h]
section
variable {d h:Hp} {rb:Nat} {bl:Sl} {bs:List UInt8}
def EndS (bs:List UInt8) (r:RS) (c:PCfg) (s:PState):Prop:=match r with
 | .error e=>zdz snapD bs=.error e
 | .ok _=>zdz snapD bs=.ok (c,s)∧CfgV c
set_option maxRecDepth 20000 in
theorem zcf2 {Q:S_api_State→Hp→Prop} (a:SAt d h rb bl bs (.ok 0) cfg0) (hsm:bs.length≤1048576)
  (hq:∀(v:S_api_State) (s:PState) (x:S_api_Config) (c:PCfg) r1 B1 B2 h',SB d h rb bl bs x h' r1 (B1++B2)→CfgO x c h' B1→StateO v s h' B2→EndS bs r1 c s→Q v h'):zlc Tryz.prog (some ⟨rb,0,none⟩) Q h:=by
 unfold zlc
 refine forI (n:=5) rfl (by omega) (fun i k=>∃r',SB d h rb bl bs cfg0 k r' []∧∀(β:Type) (f:Unit→D β),stepD (.ok 0) (D.bind (markD [70,66,83,78,1]) f) bs=stepD r' (D.bind (markD (([70,66,83,78,1]:List UInt8).drop i)) f) bs) ⟨_,SB.init a,fun _ _=>rfl⟩ ?_ ?_
 ·rintro i hi k ⟨r',s,hcn⟩ K hK
  have hc:([70,66,83,78,1]:List UInt8)[i]?=some (([70,66,83,78,1]:List UInt8)[i]'(by simpa using hi)):=List.getElem?_eq_getElem (by simpa using hi)
  generalize ([70,66,83,78,1]:List UInt8)[i]'(by simpa using hi)=c at hc
  have hgd:List.getD [70,66,83,78,1] (Int.toNat (i:Int)) (0:UInt8)=c:=by
   rw [List.getD_eq_getElem?_getD,show (Int.toNat (i:Int))=i from rfl,hc];rfl
  refine JoinW0.intro (fun k2=>∃r2 n,SB d h rb bl bs cfg0 k2 r2 []∧Cn bs r' (D.must (D.num 1) fun n=>if n=c.toNat then 0 else 4) r2 n) ?_ ?_
  ·obtain ⟨p,e,pl,kb,hs⟩:=s.rd.blk
   refine zab (ld_at (sh:=shInt .i64) p (kb.ldIs (off:=1) (n:=1) rfl) (zab (zbe (zdh1 (k:=1) s.rd (by omega) (by omega) fun n r2 k2 hn m2 a2 hc2 _=>⟨⟨by omega,by omega⟩,?_⟩))))
   have hp:∀aa,r'=.ok aa→p=(aa:Int):=fun aa e=>by rw [e] at hs;exact hs.1
   have s2:=(s.next (fun b hb=>by cases hb) m2 a2).1
   have hn:n<256:=by simpa using hn
   rw [hgd,zru1 (by omega)]
   have e1:IntKind.wrap .u8 (n:Int)=(n:Int):=by
    rw [wrap8,zhw1];omega
   rw [e1]
   by_cases h1:n=c.toNat
   ·rw [if_neg (by simp [h1])]
    exact ⟨r2,n,s2,zau1 hc2 (by rw [if_pos h1])⟩
   ·rw [if_pos (by rw [bne_iff_ne];omega)]
    exact zab (zbj (zrv1 (W:=fun n=>if n=c.toNat then 0 else 4) (n:=n) a2 hc2 hp (by rw [if_neg h1]) (by decide) fun r3 k3 m3 a3 hc3=>⟨r3,n,(s2.next (fun b hb=>by cases hb) m3 a3).1,hc3⟩))
  ·rintro k2 ⟨r2,n,s2,hc2⟩
   refine hK k2 ⟨r2,s2,fun β f=> ?_⟩
   rw [hcn,zku hc]
   show stepD r' (D.bind (D.bind (D.must (D.num 1) fun n=>if n=c.toNat then 0 else 4) fun _=>markD (([70,66,83,78,1]:List UInt8).drop (i+1))) f) bs=_
   rw [zan,hc2]
 ·rintro k ⟨r1,s1,hcn1⟩
  refine zwy (zyr1 s1.rd fun r2 x c B1 k2 t2 own few hcv hc2=> ?_)
  have s2:=s1.andThen (fun b hb=>by cases hb) t2
  rw [List.nil_append] at s2
  have hst:∀(β:Type) (f:PCfg→D β),stepD (.ok 0) (D.bind (markD [70,66,83,78,1]) fun _=>D.bind zcg f) bs=stepD r2 (f c) bs:=fun β f=>by
   rw [hcn1]
   show stepD r1 (D.bind zcg f) bs=_
   rw [hc2]
  have hlab:x.Labels.len=c.labels.length:=by
   obtain ⟨C1,C2,C3,_,o1,_⟩:=own
   exact o1.len
  have hpl:x.Procs.len=c.procs.length:=by
   obtain ⟨C1,C2,C3,_,_,_,o3,_⟩:=own
   exact o3.len
  obtain ⟨hLane,hLocks,hLog⟩:x.Lane=c.lane∧x.Locks=c.locks∧x.Log=c.log:=by
   obtain ⟨C1,C2,C3,_,_,_,_,f1,f2,f3,f4⟩:=own
   exact ⟨f2,f3,f4⟩
  have f1:=few.nl
  have f2:=few.np
  have f3:=few.locks
  have kn2:=okCfg.known own
  refine zab (zbe (zdh1 (k:=8) s2.rd (by omega) (by omega) fun tick r3 k3 htick m3 a3 hc3 _=> ?_))
  obtain ⟨s3,hs3⟩:=s2.next kn2 m3 a3
  have own3:=okCfg.same own hs3
  refine zab (ld_at (sh:=shSl) x.Labels (s3.rd.cfg (j:=0) (n:=1) rfl) ?_)
  refine forT (n:=c.labels.length) (by omega) (by omega) (fun i (v:S_api_State) kk=>∃(ps:List PPart) (r':RS) (B2:List Nat),ps.length=i∧(v.Tick=i64 tick∧v.Procs=⟨none,0,0⟩)∧SB d h rb bl bs x kk r' (B1++B2)∧CfgO x c kk B1∧zgw1 v.Parts ps kk B2∧
    ∀(β:Type) (f:List PPart→D β),stepD r3 (D.bind (D.many (fun _=>partD c.log c.locks (c.procs.length:Int)) c.labels.length []) f) bs=stepD r' (D.bind (D.many (fun _=>partD c.log c.locks (c.procs.length:Int)) (c.labels.length-i) ps) f) bs)
   ⟨[],r3,[],rfl,⟨rfl,rfl⟩,by simpa using s3,own3,RowsO.nil,fun _ _=>rfl⟩ ?_ ?_
  ·rintro i hi v kk ⟨ps,r',B2,hpl2,hv,s4,own4,o4,hcn⟩ K hK
   have kn4:∀b∈B1++B2,kk b≠none:=fun b hb=>by
    rcases List.mem_append.1 hb with hb | hb
    ·exact okCfg.known own4 b hb
    ·exact okParts.known o4 b hb
   refine zal1 (zex2 s4.rd (by rw [hLocks];omega) fun y p r5 B' k5 t5 o5 hc5=>⟨⟨trivial,trivial⟩,?_⟩)
   have s5:=s4.andThen kn4 t5
   have hs5:=s4.kept kn4 t5
   refine newF (xs:=[y]) (enc:=fun x=>zad (sh_api_Part.enc x)) (sz:=6) rfl (fun _=>rfl) fun b6 k6 _ hle6 _ o6=>⟨⟨trivial,trivial⟩,?_⟩
   have s6:=s5.grow hle6
   have hs6:∀b∈B1++B2,k6 b=kk b:=fun b hb=>by
    rw [←hs5 b hb]
    exact zbb hle6 (fun b hb=>by rw [hs5 b hb];exact kn4 b hb) b hb
   have oe:=okPart.same o5 (zbb hle6 (okPart.known o5))
   refine zep1 (P:=B1) (M:=B2) (S:=[]) (B':=B') okPart a.le (by simpa using s6) (okParts.same o4 fun b hb=>hs6 b (mem_b hb)) (v:=y) (p:=p) oe (fun b hb=>by
    rw [List.append_nil] at hb
    rw [hs6 b (mem_a hb)]
    exact kn4 b (mem_a hb)) (o6.rw fun _=>rfl) (fun _=>rfl) (fun _=>rfl) rfl (by omega) fun l7 k7 M7 s7 o7 hs7=> ?_
   rw [List.append_nil] at s7
   refine hK _ k7 ⟨ps++ [p],r5,M7,by simp [hpl2],hv,s7,okCfg.same own4 fun b hb=>(hs7 b (by rw [List.append_nil];exact hb)).trans (hs6 b (mem_a hb)),o7,fun β f=> ?_⟩
   have e1:c.labels.length-i=(c.labels.length-(i+1))+1:=by omega
   rw [hLog,hLocks,hpl] at hc5
   rw [hcn,e1,zcy,zan,hc5]
  ·rintro v kk ⟨ps,r',B2,hpl2,⟨hv1,hv2⟩,s4,own4,o4,hcn4⟩
   refine zab (ld_at (sh:=shSl) x.Procs (s4.rd.cfg (j:=6) (n:=1) rfl) ?_)
   refine forT (n:=c.procs.length) (by omega) (by omega) (fun i (v:S_api_State) kk=>∃(qs:List PProcess) (r5:RS) (B2 B3:List Nat),qs.length=i∧v.Tick=i64 tick∧SB d h rb bl bs x kk r5 (B1++(B2++B3))∧CfgO x c kk B1∧zgw1 v.Parts ps kk B2∧zeq1 v.Procs qs kk B3∧
     ∀(β:Type) (f:List PProcess→D β),stepD r' (D.bind (D.many (fun _=>zas1 c.labels.length c.lane (c.procs.length:Int)) c.procs.length []) f) bs=stepD r5 (D.bind (D.many (fun _=>zas1 c.labels.length c.lane (c.procs.length:Int)) (c.procs.length-i) qs) f) bs)
    ⟨[],r',B2,[],rfl,hv1,by simpa using s4,own4,o4,by rw [hv2];exact RowsO.nil,fun _ _=>rfl⟩ ?_ ?_
   ·rintro i hi v kk ⟨qs,r5,B2,B3,hql,hv,s5,own5,o5,q5,hcn⟩ K hK
    have kn5:∀b∈B1++(B2++B3),kk b≠none:=fun b hb=>by
     rcases List.mem_append.1 hb with hb | hb
     ·exact okCfg.known own5 b hb
     ·rcases List.mem_append.1 hb with hb | hb
      ·exact okParts.known o5 b hb
      ·exact okProcss.known q5 b hb
    refine zam1 (zey2 s5.rd (by omega) fun y p r6 B' k6 t6 o6 hc6=>⟨⟨trivial,trivial⟩,?_⟩)
    have s6:=s5.andThen kn5 t6
    have hs6:=s5.kept kn5 t6
    refine newF (xs:=[y]) (enc:=fun x=>zad (sh_api_Process.enc x)) (sz:=15) rfl (fun _=>rfl) fun b7 k7 _ hle7 _ o7=>⟨⟨trivial,trivial⟩,?_⟩
    have s7:=s6.grow hle7
    have hs7:∀b∈B1++(B2++B3),k7 b=kk b:=fun b hb=>by
     rw [←hs6 b hb]
     exact zbb hle7 (fun b hb=>by rw [hs6 b hb];exact kn5 b hb) b hb
    have oe:=okProcess.same o6 (zbb hle7 (okProcess.known o6))
    have w1:=okCfg.same own5 fun b hb=>hs7 b (mem_a hb)
    have w2:=okParts.same o5 fun b hb=>hs7 b (mem_b (mem_a hb))
    have w3:=okProcss.same q5 fun b hb=>hs7 b (mem_b (mem_b hb))
    refine zep1 (P:=B1++B2) (M:=B3) (S:=[]) (B':=B') okProcess a.le (by simpa [List.append_assoc] using s7) w3 (v:=y) (p:=p) oe (fun b hb=>by
     rw [List.append_nil] at hb
     rcases List.mem_append.1 hb with hb | hb
     ·exact okCfg.known w1 b hb
     ·exact okParts.known w2 b hb) (o7.rw fun _=>rfl) (fun _=>rfl) (fun _=>rfl) rfl (by omega) fun l8 k8 M8 s8 o8 hs8=> ?_
    refine hK _ k8 ⟨qs++ [p],r6,B2,M8,by simp [hql],hv,by simpa [List.append_assoc] using s8,okCfg.same w1 fun b hb=>hs8 b (by rw [List.append_nil];exact mem_a hb),okParts.same w2 fun b hb=>hs8 b (by rw [List.append_nil];exact mem_b hb),o8,fun β f=> ?_⟩
    have e1:c.procs.length-i=(c.procs.length-(i+1))+1:=by omega
    rw [hlab,hLane,hpl] at hc6
    rw [hcn,e1,zcy,zan,hc6]
   ·rintro v kk ⟨qs,r5,B2,B3,hql,hv,s5,own5,o5,q5,hcn5⟩
    have kn5:∀b∈B1++(B2++B3),kk b≠none:=fun b hb=>by
     rcases List.mem_append.1 hb with hb | hb
     ·exact okCfg.known own5 b hb
     ·rcases List.mem_append.1 hb with hb | hb
      ·exact okParts.known o5 b hb
      ·exact okProcss.known q5 b hb
    have hall:stepD (.ok 0) snapD bs=stepD r5 (D.ret (c,(⟨i64 tick,ps,qs⟩:PState))) bs:=by
     unfold snapD
     rw [hst]
     unfold zkr1
     rw [zan,iD_eq,hc3.map,zan]
     have e1:=hcn4 _ fun parts=>D.bind (D.bind (D.many (fun _=>zas1 c.labels.length c.lane (c.procs.length:Int)) c.procs.length []) fun procs=>D.ret (⟨i64 tick,parts,procs⟩:PState)) fun s=>D.ret (c,s)
     rw [Nat.sub_self] at e1
     refine e1.trans ?_
     show stepD _ (D.bind (D.bind (D.many _ _ _) _) _) bs=_
     rw [zan]
     have e2:=hcn5 _ fun procs=>D.bind (D.ret (⟨i64 tick,ps,procs⟩:PState)) fun s=>D.ret (c,s)
     rw [Nat.sub_self] at e2
     exact e2
    have hown:StateO v ⟨i64 tick,ps,qs⟩ kk (B2++B3):=⟨B2,B3,rfl,o5,q5,hv⟩
    obtain ⟨p,e,pl,kb,hs⟩:=s5.rd.blk
    have hlen:bl.len=bs.length:=a.src.1
    refine zab (ld_at (sh:=shInt .i64) p (kb.ldIs (off:=1) (n:=1) rfl) (zab (ld_at (sh:=shSl) bl (kb.ldIs (off:=0) (n:=1) rfl) ?_)))
    cases r5 with
    | error y=>
     obtain ⟨er,q⟩:=y
     have hE:EndS bs (.error (er,q)) c ⟨i64 tick,ps,qs⟩:=zrw1 hsm hall
     by_cases hlt:p<((bl.len:Nat):Int)
     ·rw [if_pos (decide_eq_true hlt)]
      refine zab (zab (ld_at (sh:=shInt .i64) p (kb.ldIs (off:=1) (n:=1) rfl) (zbj (zso kb fun k6 m6 kb6=> ?_))))
      obtain ⟨rfl,hne,rfl⟩:=hs
      rw [if_neg hne,if_neg hne] at kb6
      have a6:SAt d k6 rb bl bs (.error (e,q)) x:=⟨(m6.le s5.rd.le fun c hc=>by rw [List.mem_singleton.1 hc];exact a.out).1,a.out,a.src,a.cap,a.small,_,_,_,kb6,rfl,hne,rfl⟩
      obtain ⟨s6,hs6⟩:=s5.next kn5 m6 a6
      exact hq v ⟨i64 tick,ps,qs⟩ x c _ B1 (B2++B3) k6 s6 (okCfg.same own5 fun b hb=>hs6 b (mem_a hb)) (okState.same hown fun b hb=>hs6 b (mem_b hb)) hE
     ·rw [if_neg (fun e=>hlt (of_decide_eq_true e))]
      exact hq v ⟨i64 tick,ps,qs⟩ x c _ B1 (B2++B3) kk s5 own5 hown hE
    | ok at_=>
     obtain ⟨rfl,rfl,hat⟩:=hs
     have hw:=zxc1 hsm (hall:stepD (.ok 0) snapD bs=.ok ((c,⟨i64 tick,ps,qs⟩),at_))
     by_cases hlt:at_<bs.length
     ·have hlt':(at_:Int)<((bl.len:Nat):Int):=by omega
      rw [if_pos (decide_eq_true hlt')]
      rw [if_pos hlt] at hw
      refine zab (zab (ld_at (sh:=shInt .i64) (at_:Int) (kb.ldIs (off:=1) (n:=1) rfl) (zbj (zso kb fun k6 m6 kb6=> ?_))))
      rw [if_pos rfl,if_pos rfl] at kb6
      have a6:SAt d k6 rb bl bs (.error (6,at_)) x:=⟨(m6.le s5.rd.le fun c hc=>by rw [List.mem_singleton.1 hc];exact a.out).1,a.out,a.src,a.cap,a.small,_,_,_,kb6,rfl,by decide,rfl⟩
      obtain ⟨s6,hs6⟩:=s5.next kn5 m6 a6
      exact hq v ⟨i64 tick,ps,qs⟩ x c _ B1 (B2++B3) k6 s6 (okCfg.same own5 fun b hb=>hs6 b (mem_a hb)) (okState.same hown fun b hb=>hs6 b (mem_b hb)) hw
     ·rw [if_neg (fun e=>hlt (by have e:(at_:Int)<((bl.len:Nat):Int):=of_decide_eq_true e;omega))]
      rw [if_neg hlt] at hw
      refine hq v ⟨i64 tick,ps,qs⟩ x c _ B1 (B2++B3) kk s5 own5 hown ⟨hw,?_⟩
      have hv2:=(law_snap.sound bs 0 _ _ (hall:snapD bs 0=.ok ((c,⟨i64 tick,ps,qs⟩),at_)) (Nat.zero_le _)).1
      exact hv2.1.1
end
end Lf

namespace Lf
open Go Go.Proofs
theorem zqs {α β:Type} {f:α→List β} {B:Nat}:∀(l:List α),(∀x∈l,(f x).length≤B)→(l.flatMap f).length≤l.length*B
 | [],_=>by simp
 | x::l,hf=>by
  have h1:=hf x (List.mem_cons_self ..)
  have h2:=zqs l fun y hy=>hf y (List.mem_cons_of_mem _ hy)
  rw [List.flatMap_cons,List.length_append,List.length_cons,Nat.add_mul,Nat.one_mul]
  omega
theorem zli1 {α β:Type}:∀ {l:List α} {m:List β},l.length=m.length→∀q∈m,∃z∈l.zip m,z.2=q
 | [],[],_,q,h=>by cases h
 | a::l,b::m,e,q,h=>by
  rcases List.mem_cons.1 h with rfl | h
  ·exact ⟨(a,q),List.mem_cons_self ..,rfl⟩
  ·obtain ⟨z,h1,h2⟩:=zli1 (l:=l) (m:=m) (by simpa using e) q h
   exact ⟨z,List.mem_cons_of_mem _ h1,h2⟩
 | [],_::_,e,_,_=>by cases e
 | _::_,[],e,_,_=>by cases e
theorem zhh2 {c:PCfg} {s:PState} (few:Few c) (h:StateV c s):(evs s).length≤200000:=by
 obtain ⟨_,a1,a2,_⟩:=h
 obtain ⟨b1,b2⟩:=zew a1
 obtain ⟨b3,b4⟩:=zew a2
 have f1:=few.nl
 have f2:=few.np
 have f3:=few.locks
 have p1:(s.parts.flatMap evQ).length≤s.parts.length*2048:=zqs _ fun x hx=>by
  obtain ⟨_,_,_,_,_,⟨xs,g1,g2,g3⟩,g4⟩:=b2 x hx
  rw [List.nil_append] at g1
  have g3:=(zfq (V:=LockV (c.procs.length:Int)) xs []).1 g3
  have hq:x.queues.length=xs.length:=by rw [←g1,List.length_zip,g4];simp
  have h1:(evQ x).length≤x.queues.length*256:=by
   unfold evQ
   rw [←List.flatMap_id]
   refine zqs _ fun q hq=> ?_
   obtain ⟨z,hz1,hz2⟩:=zli1 g4 q hq
   rw [g1] at hz1
   obtain ⟨_,⟨⟨_,h2⟩,_⟩,_⟩:=g3 z hz1
   have h2:((z.2.length:Nat):Int)<256:=h2
   rw [←hz2]
   show z.2.length≤256
   omega
  have:x.queues.length*256≤8*256:=Nat.mul_le_mul_right _ (by omega)
  omega
 have p2:(s.procs.flatMap evL).length≤s.procs.length*2304:=zqs _ fun x hx=>by
  obtain ⟨_,_,_,_,_,_,_,g1,_⟩:=b4 x hx
  obtain ⟨g2,g3⟩:=zew g1
  have h1:(evL x).length≤x.lanes.length*256:=by
   refine zqs _ fun l hl=> ?_
   obtain ⟨_,_,⟨⟨_,h2⟩,_⟩,_⟩:=g3 l hl
   have h2:((l.waiters.length:Nat):Int)<256:=h2
   rw [List.length_map]
   omega
  have:x.lanes.length*256≤9*256:=Nat.mul_le_mul_right _ (by omega)
  omega
 unfold evs
 rw [List.length_append]
 have q1:s.parts.length*2048≤8*2048:=Nat.mul_le_mul_right _ (by omega)
 have q2:s.procs.length*2304≤32*2304:=Nat.mul_le_mul_right _ (by omega)
 omega
def st0 :S_api_State:=⟨0,⟨none,0,0⟩,⟨none,0,0⟩⟩
def SnapErr (bs:List UInt8) (e:Int) (p:Nat):Prop:=zdz snapD bs=.error (e,p)∨∃c s,zdz snapD bs=.ok (c,s)∧p=0∧MayIs c s e
set_option maxRecDepth 20000 in
theorem zxo {h:Hp} {b:Sl} {bs:List UInt8} {Q:S_api_Config→S_api_State→Int→Int→Hp→Prop} (hB:Bs h b bs) (hcap:b.len≤b.cap)
  (hE:∀e p h',h≤h'→e≠0→SnapErr bs e p→Q cfg0 st0 e (p:Int) h')
  (hok:∀x v c s B1 B2 h',h≤h'→zdz snapD bs=.ok (c,s)→(cfgE c).1=0→MayP c s→CfgO x c h' B1→StateO v s h' B2→(B1++B2).Nodup→(∀b∈B1++B2,h b=none)→Q x v 0 0 h'):
  zpu Tryz.prog b Q h:=by
 unfold zpu
 have hlen:b.len=bs.length:=hB.1
 by_cases hbig:1048576<bs.length
 ·rw [if_pos (decide_eq_true (by omega))]
  exact hE 22 1048576 h (Hp.le_refl _) (by decide) (.inl (by unfold zdz;rw [if_pos hbig]))
 rw [if_neg (fun e=>hbig (by have:=of_decide_eq_true e;omega))]
 refine newB2 fun rb h1 hn1 hle1 hR1=> ?_
 have a1:SAt h h1 rb b bs (.ok 0) cfg0:=⟨hle1,hn1,hB,hcap,by omega,0,0,0,hR1,rfl,rfl,by omega⟩
 refine zyy (zcf2 a1 (by omega) fun v s x c r1 B1 B2 h2 s2 own1 own2 hEnd=> ?_)
 have hfr:∀b∈B1++B2,h b=none:=fun b hb=>zbc hle1 (s2.fresh b hb)
 obtain ⟨p,e,pl,kb,hs⟩:=s2.rd.blk
 refine JoinW0.intro (fun k=>h≤k∧∃at_ e pl:Int,Blk k rb (zcc b at_ e pl++cfgL x)∧((e≠0∧∃q:Nat,pl=(q:Int)∧SnapErr bs e q)∨(e=0∧zdz snapD bs=.ok (c,s)∧(cfgE c).1=0∧MayP c s∧CfgO x c k B1∧StateO v s k B2))) ?_ ?_
 ·refine zab (ld_at (sh:=shInt .i64) e (kb.ldIs (off:=2) (n:=1) rfl) ?_)
  cases r1 with
  | error y=>
   obtain ⟨er,q⟩:=y
   obtain ⟨rfl,hne,rfl⟩:=hs
   rw [if_neg (by simpa using hne)]
   exact ⟨s2.rd.le,p,e,q,kb,.inl ⟨hne,q,rfl,.inl hEnd⟩⟩
  | ok at_=>
   obtain ⟨rfl,rfl,hat⟩:=hs
   obtain ⟨hw,hcv⟩:=hEnd
   have hsound:=(znz law_snap hw).1
   have few:=zxb1 _ (zoc c) hcv
   have htc:=((zxl (zoc c)).2 hcv).1
   rw [if_pos (by simp)]
   refine zab (zab (ld_at (sh:=sh_api_Config) x (kb.ldIs (off:=4) (n:=7) rfl) ?_))
   have hfin:∀n k,h2≤k→MayIs c s n→(n=0→(cfgE c).1=0∧MayP c s)→Call0 Tryz.prog zbg [(.pointer (some (Addr.add ⟨rb,0,none⟩ 0))),(.int .i64 n),(.int .i64 (0:Int))] (fun h4=>h≤h4∧∃at_ e pl:Int,Blk h4 rb (zcc b at_ e pl++cfgL x)∧
     ((e≠0∧∃q:Nat,pl=(q:Int)∧SnapErr bs e q)∨(e=0∧zdz snapD bs=.ok (c,s)∧(cfgE c).1=0∧MayP c s∧CfgO x c h4 B1∧StateO v s h4 B2))) k:=fun n k hle hM h0=>by
    refine zbj (zso (kb.le hle) fun k4 m4 kb4=> ?_)
    rw [if_pos rfl,if_pos rfl] at kb4
    refine ⟨(m4.le (Hp.le_trans s2.rd.le hle) fun c hc=>by rw [List.mem_singleton.1 hc];exact hn1).1,_,_,_,kb4,?_⟩
    by_cases hn0:n=0
    ·obtain ⟨h01,h02⟩:=h0 hn0
     have hk:∀b∈B1++B2,k4 b=h2 b:=fun b hb=>by
      have hkn:h2 b≠none:=by
       rcases List.mem_append.1 hb with hb | hb
       ·exact okCfg.known own1 b hb
       ·exact okState.known own2 b hb
      cases e:h2 b with
      | none=>exact absurd e hkn
      | some o=>exact m4.keep b o (hle b o e) fun hr=>s2.nr (by rw [←List.mem_singleton.1 hr];exact hb)
     exact .inr ⟨hn0,hw,h01,h02,okCfg.same own1 fun b hb=>hk b (mem_a hb),okState.same own2 fun b hb=>hk b (mem_b hb)⟩
    ·exact .inl ⟨hn0,0,rfl,.inr ⟨c,s,hw,rfl,hM⟩⟩
   refine zxu (znd1 own1.rd own2.rd (fun l hl=> ?_) (fun _ _ _ _=>Nat.le_trans (zhh2 few hsound.2) (by decide)) (fun hc k hle=>hfin _ k hle (.inl ⟨hc,rfl⟩) fun h0=>absurd h0 hc) fun hc n k hle hn=>hfin n k hle (.inr ⟨hc,hn⟩) fun h0=> ?_)
   ·have:=htc.1 l hl
    exact ⟨this.1,this.2⟩
   ·rcases hn with ⟨_,h1⟩ | ⟨h1,_⟩
    ·exact ⟨hc,h1⟩
    ·omega
 ·rintro k ⟨hle,at_,e,pl,kb,hcase⟩
  refine zab (ld_at (sh:=shInt .i64) e (kb.ldIs (off:=2) (n:=1) rfl) ?_)
  rcases hcase with ⟨hne,q,rfl,hS⟩ | ⟨rfl,hw,h01,h02,o1,o2⟩
  ·rw [if_pos (by simpa using hne)]
   have l2:LdIs k ⟨rb,2,none⟩ [.int .i64 e]:=kb.ldIs (off:=2) (n:=1) rfl
   have l3:LdIs k ⟨rb,3,none⟩ [.int .i64 (q:Int)]:=kb.ldIs (off:=3) (n:=1) rfl
   exact zab (ld_at (sh:=shInt .i64) e l2 (zab (ld_at (sh:=shInt .i64) (q:Int) l3 ⟨⟨l2,l3,trivial⟩,⟨l2,l3,trivial⟩,hE e q k hle hne hS⟩)))
  ·rw [if_neg (by simp)]
   exact zab (ld_at (sh:=sh_api_Config) x (kb.ldIs (off:=4) (n:=7) rfl) ⟨⟨trivial,trivial⟩,hok x v c s B1 B2 k hle hw h01 h02 o1 o2 s2.nd hfr⟩)
end Lf

namespace Lf
open Go
theorem eqF {P:Program} (d:Nat) (xs ys:Array Value):∀(L:List (Field×IntKind×Int×Int)) (w:World),
    (∀q∈L,q.1.name≠ "_" ∧P.underlying q.1.type=some (.int q.2.1)∧xs[q.1.offset]?=some (.int q.2.1 q.2.2.1)∧ys[q.1.offset]?=some (.int q.2.1 q.2.2.2))→
    (Op.eqFields (d+1) xs ys (L.map (·.1))).run P w=.ok (L.all fun q=>q.2.2.1==q.2.2.2) w
  | [],w,_=>by simp [Op.eqFields]
  | q::L,w,h=>by
    obtain ⟨h1,h2,h3,h4⟩:=h q (List.mem_cons_self ..)
    have ih:=eqF d xs ys L w fun q' hq=>h q' (List.mem_cons_of_mem _ hq)
    have hag:(isAgg q.1.type).run P w=.ok false w:=by simp [isAgg,run_underlying h2]
    simp only [List.map_cons,Op.eqFields,Sem.run_bind,if_pos h1,part,hag,Result.andThen_ok,Bool.false_eq_true,if_false,h3,h4,Sem.run_pure,run_equalIn_int w d q.1.type q.2.1 q.2.1 q.2.2.1 q.2.2.2 h2]
    cases hb:(q.2.2.1==q.2.2.2) with
    | false=>simp [hb]
    | true=>simp [hb,ih]
end Lf

namespace Lf
open Go Go.Proofs
theorem zxp {P:Program} {t:Nat} {x y:Operand} {h:Hp} {xs:Array Value} (L:List (Field×IntKind×Int)) (hu:P.underlying t=some (.struct (L.map (·.1)).toArray)) (hg:P.eqGuardType P.depth t=false) (hp:P.stoodInHeld t=false)
  (hL:∀q∈L,q.1.name≠ "_" ∧P.underlying q.1.type=some (.int q.2.1)∧xs[q.1.offset]?=some (.int q.2.1 q.2.2)):
  SemIs P (binS .neq t x y (.agg xs) (.agg xs)) h (.bool false):=by
 refine zie1 fun w=> ?_
 have hf:P.fieldsOf t=(L.map (·.1)).toArray:=by unfold Program.fieldsOf;rw [hu]
 have ht:P.underlying t=some (.struct (P.fieldsOf t)):=by rw [hf];exact hu
 have h1:=run_equalIn_struct (P:=P) w 9999 t xs xs ht hp
 rw [hf] at h1
 have h2:=eqF (P:=P) 9998 xs xs (L.map fun q=>(q.1,q.2.1,q.2.2,q.2.2)) w fun q hq=>by
  obtain ⟨q',hq',rfl⟩:=List.mem_map.1 hq
  obtain ⟨e1,e2,e3⟩:=hL q' hq'
  exact ⟨e1,e2,e3,e3⟩
 have e1:(L.map fun q=>(q.1,q.2.1,q.2.2,q.2.2)).map (·.1)=L.map (·.1):=by rw [List.map_map];rfl
 have e2:((L.map fun q=>(q.1,q.2.1,q.2.2,q.2.2)).all fun q=>q.2.2.1==q.2.2.2)=true:=by simp
 rw [e1,e2] at h2
 unfold binS
 simp only [Sem.run_bind,run_eqGuard_agg w .neq t x y xs xs hg,Result.andThen_ok,run_neq_struct]
 rw [show (10000:Nat)=9999+1 from rfl,h1]
 simp only [h2,Result.andThen_ok,Bool.not_true]
theorem eqI {P:Program} (d:Nat) {e:TypeId} (he:P.underlying e=some (.int .i64)) (xs:Array Value):∀(is:List Nat) (w:World),(∀j∈is,∃n,xs[j]?=some (.int .i64 n))→(Op.eqItems (d+1) e 1 xs xs is).run P w=.ok true w
 | [],w,_=>by simp [Op.eqItems]
 | j::is,w,h=>by
  obtain ⟨n,hn⟩:=h j (List.mem_cons_self ..)
  have ih:=eqI d he xs is w fun j' hj=>h j' (List.mem_cons_of_mem _ hj)
  have hag:(isAgg e).run P w=.ok false w:=by simp [isAgg,run_underlying he]
  simp only [Op.eqItems,Sem.run_bind,part,hag,Result.andThen_ok,Bool.false_eq_true,if_false,Nat.mul_one,hn,Sem.run_pure,run_equalIn_int w d e .i64 .i64 n n he]
  simp [ih]
theorem zrx1 {P:Program} {t e n:Nat} {x y:Operand} {h:Hp} {xs:Array Value} (hu:P.underlying t=some (.array n e)) (hi:(P.info? e).isSome=true) (he:P.underlying e=some (.int .i64)) (hc:P.cellsOf e=1) (hg:P.eqGuardType P.depth t=false)
  (hx:∀j,j<n→∃v,xs[j]?=some (.int .i64 v)):SemIs P (binS .neq t x y (.agg xs) (.agg xs)) h (.bool false):=by
 obtain ⟨i,hi⟩:=Option.isSome_iff_exists.1 hi
 refine zie1 fun w=> ?_
 have h1:=run_equalIn_array (P:=P) (w:=w) 9999 xs xs hu hi
 rw [hc,eqI 9998 he xs _ w fun j hj=>hx j (List.mem_range.1 hj)] at h1
 unfold binS
 simp only [Sem.run_bind,run_eqGuard_agg w .neq t x y xs xs hg,Result.andThen_ok,run_neq_struct]
 rw [show (10000:Nat)=9999+1 from rfl,h1]
 simp only [Result.andThen_ok,Bool.not_true]
section
variable {P:Program} {h:Hp} {Q:Bool→Hp→Prop}
theorem zup1 {a b:Sl} {xs:List Int} (ra:Is h a xs) (rb:Is h b xs) (hn:xs.length≤140737488355328) (hq:Q true h):zfc P a b Q h:=by
 unfold zfc
 have e1:a.len=xs.length:=ra.1
 have e2:b.len=xs.length:=rb.1
 rw [if_neg (by rw [e1,e2];simp)]
 refine forI (n:=xs.length) (by omega) (by omega) (fun _ h'=>h'=h) rfl ?_ ?_
 ·rintro i hi k rfl K hK
  refine Rs.get (sh:=shInt .i64) ra (fun _=>rfl) (by omega) (by omega) (by omega) fun (x:Int) hx=> ?_
  refine Rs.get (sh:=shInt .i64) rb (fun _=>rfl) (by omega) (by omega) (by omega) fun (y:Int) hy=> ?_
  rw [hx] at hy
  rw [if_neg (by simp [Option.some.inj hy])]
  exact hK k rfl
 ·rintro k rfl;exact hq
theorem zpt1 {a b:Sl} {xs:List Int} (ra:Us h a xs) (rb:Us h b xs) (hn:xs.length≤140737488355328) (hq:Q true h):zeb P a b Q h:=by
 unfold zeb
 have e1:a.len=xs.length:=ra.1
 have e2:b.len=xs.length:=rb.1
 rw [if_neg (by rw [e1,e2];simp)]
 refine forI (n:=xs.length) (by omega) (by omega) (fun _ h'=>h'=h) rfl ?_ ?_
 ·rintro i hi k rfl K hK
  refine Rs.get (sh:=shInt .u64) ra (fun _=>rfl) (by omega) (by omega) (by omega) fun (x:Int) hx=> ?_
  refine Rs.get (sh:=shInt .u64) rb (fun _=>rfl) (by omega) (by omega) (by omega) fun (y:Int) hy=> ?_
  rw [hx] at hy
  rw [if_neg (by simp [Option.some.inj hy])]
  exact hK k rfl
 ·rintro k rfl;exact hq
theorem zry1 {a b:Sl} {xs:List Int} (ra:Is h a xs) (rb:Is h b xs) (hn:xs.length≤140737488355328) (hq:Q true h):zit P a b Q h:=by
 unfold zit
 have e1:a.len=xs.length:=ra.1
 have e2:b.len=xs.length:=rb.1
 rw [if_neg (by rw [e1,e2];simp)]
 refine forI (n:=xs.length) (by omega) (by omega) (fun _ h'=>h'=h) rfl ?_ ?_
 ·rintro i hi k rfl K hK
  refine Rs.get (sh:=shInt .i64) ra (fun _=>rfl) (by omega) (by omega) (by omega) fun (x:Int) hx=> ?_
  refine Rs.get (sh:=shInt .i64) rb (fun _=>rfl) (by omega) (by omega) (by omega) fun (y:Int) hy=> ?_
  rw [hx] at hy
  rw [if_neg (by simp [Option.some.inj hy])]
  exact hK k rfl
 ·rintro k rfl;exact hq
theorem zcg2 {x y:S_api_Ins} (h:insOf x=insOf y):x=y:=by
 cases x;cases y;simp [insOf] at h;simp [h]
theorem zuq1 {x y:S_api_Entry} (h:zht x=zht y):x=y:=by
 cases x;cases y;simp [zht] at h;simp [h]
theorem zrz1 {x y:S_api_Waiter} (h:zcn x=zcn y):x=y:=by
 cases x;cases y;simp [zcn] at h;simp [h]
theorem zpu1 {α β:Type} {f:α→β} (hf:∀ {x y},f x=f y→x=y) {l m:List α} (h:l.map f=m.map f):l=m:=by
 induction l generalizing m with
 | nil=>cases m with
  | nil=>rfl
  | cons b m=>cases h
 | cons a l ih=>cases m with
  | nil=>cases h
  | cons b m=>
   simp only [List.map_cons,List.cons.injEq] at h
   rw [hf h.1,ih h.2]
theorem zch2 {a b:Sl} {is:List S_api_Ins} (ra:InsS h a is) (rb:InsS h b is) (hn:is.length≤140737488355328) {Q:Bool→Hp→Prop} (hq:Q true h):zir Tryz.prog a b Q h:=by
 unfold zir
 have e1:a.len=is.length:=ra.1
 have e2:b.len=is.length:=rb.1
 rw [if_neg (by rw [e1,e2];simp)]
 refine forI (n:=is.length) (by omega) (by omega) (fun _ h'=>h'=h) rfl ?_ ?_
 ·rintro i hi k rfl K hK
  refine Rs.get (sh:=sh_api_Ins) ra (fun _=>rfl) (by omega) (by omega) (by omega) fun x hx=> ?_
  refine Rs.get (sh:=sh_api_Ins) rb (fun _=>rfl) (by omega) (by omega) (by omega) fun y hy=> ?_
  rw [hx] at hy
  cases hy
  refine ⟨false,zxp [(⟨ "Op",3,0,false, "", "",0⟩,.i64,x.Op),(⟨ "A",3,1,false, "", "",8⟩,.i64,x.A),(⟨ "B",3,2,false, "", "",16⟩,.i64,x.B),(⟨ "C",3,3,false, "", "",24⟩,.i64,x.C),(⟨ "Imm",2,4,false, "", "",32⟩,.i64,x.Imm)]
   (tb_ok.und 51 ty51 rfl) (by kernel_rfl) (by kernel_rfl) (fun q hq=> ?_),?_⟩
  ·simp only [List.mem_cons,List.not_mem_nil,or_false] at hq
   rcases hq with rfl | rfl | rfl | rfl | rfl
   ·exact ⟨by simp,tb_ok.und 3 ty3 rfl,rfl⟩
   ·exact ⟨by simp,tb_ok.und 3 ty3 rfl,rfl⟩
   ·exact ⟨by simp,tb_ok.und 3 ty3 rfl,rfl⟩
   ·exact ⟨by simp,tb_ok.und 3 ty3 rfl,rfl⟩
   ·exact ⟨by simp,tb_ok.und 2 ty2 rfl,rfl⟩
  ·dsimp only
   rw [if_neg (by simp)]
   exact hK k rfl
 ·rintro k rfl;exact hq
end
end Lf

namespace Lf
open Go Go.Proofs
structure CfgLe (c:PCfg):Prop where
 labels:c.labels.length≤140737488355328
 table:c.table.length≤140737488355328
 procs:c.procs.length≤140737488355328
 code:∀p∈c.procs,p.code.length≤140737488355328
structure zsa1 (l:PLane):Prop where
 values:l.values.length≤140737488355328
 waiters:l.waiters.length≤140737488355328
structure StLe (s:PState):Prop where
 parts:s.parts.length≤140737488355328
 procs:s.procs.length≤140737488355328
 log:∀x∈s.parts,x.log.length≤140737488355328∧x.owners.length≤140737488355328∧x.queues.length≤140737488355328∧∀q∈x.queues,q.length≤140737488355328
 lanes:∀x∈s.procs,x.lanes.length≤140737488355328∧∀l∈x.lanes,zsa1 l
section
variable {h:Hp} {Q:Bool→Hp→Prop}
theorem zur1 {a b:S_api_Config} {c:PCfg} (ra:CfgAt h a c) (rb:CfgAt h b c) (hn:CfgLe c) (hq:Q true h):zez Tryz.prog a b Q h:=by
 unfold zez
 obtain ⟨ps,hps,hallp⟩:=ra.procs
 obtain ⟨qs,hqs,hallq⟩:=rb.procs
 have e1:=hallp.len
 have e2:=hallq.len
 have e3:a.Procs.len=ps.length:=hps.1
 have e4:b.Procs.len=qs.length:=hqs.1
 have hpl:=hn.procs
 refine zot (zpt1 ra.labels rb.labels hn.labels ?_)
 refine ⟨fun _=>zqm (zup1 ra.table rb.table hn.table ?_),fun e=>(by cases e)⟩
 refine letW (letW (letW (letW (letW (letW ?_)))))
 rw [if_neg (by rw [ra.fuel,rb.fuel,ra.lane,rb.lane,ra.locks,rb.locks,ra.log,rb.log,e3,e4,e1,e2];simp)]
 refine forI (n:=c.procs.length) (by omega) (by omega) (fun _ h'=>h'=h) rfl ?_ ?_
 ·rintro i hi k rfl K hK
  refine Rw.fld hps (fun _=>rfl) (by omega) (sh:=shInt .i64) (fun q=>q.Part) (fun _=>rfl) (by omega) (by omega) fun x hx=> ?_
  refine Rw.fld hqs (fun _=>rfl) (by omega) (sh:=shInt .i64) (fun q=>q.Part) (fun _=>rfl) (by omega) (by omega) fun y hy=> ?_
  obtain ⟨p,hp1,hp2,_⟩:=hallp.get hx
  obtain ⟨q,hq1,hq2,_⟩:=hallq.get hy
  rw [hp1] at hq1;cases hq1
  rw [if_neg (by rw [hp2,hq2];simp)]
  exact hK k rfl
 ·rintro k rfl;exact hq
theorem zgx1 {a b:S_api_Config} {c:PCfg} (ra:CfgAt h a c) (rb:CfgAt h b c) (hn:CfgLe c) (hq:Q true h):zim Tryz.prog a b Q h:=by
 unfold zim
 obtain ⟨ps,hps,hallp⟩:=ra.procs
 obtain ⟨qs,hqs,hallq⟩:=rb.procs
 have e1:=hallp.len
 have e2:=hallq.len
 have e3:a.Procs.len=ps.length:=hps.1
 have hpl:=hn.procs
 refine zqi (zur1 ra rb hn ?_)
 refine LoopW2.intro (fun ok t k=>k=h∧ok=true∧∃i:Nat,t=(i:Int)∧i≤c.procs.length) (fun _ t _=>(c.procs.length-t).toNat) ⟨rfl,rfl,0,rfl,by omega⟩ ?_
 rintro ok t k ⟨rfl,rfl,i,rfl,hi⟩
 refine letW ?_
 by_cases hlt:i<c.procs.length
 ·rw [if_pos (by simp;omega)]
  refine Rw.fld hps (fun _=>rfl) (by omega) (sh:=shSl) (fun q=>q.Code) (fun _=>rfl) (by omega) (by omega) fun x hx=> ?_
  refine Rw.fld hqs (fun _=>rfl) (by omega) (sh:=shSl) (fun q=>q.Code) (fun _=>rfl) (by omega) (by omega) fun y hy=> ?_
  obtain ⟨p,hp1,hp2,is,his,him⟩:=hallp.get hx
  obtain ⟨q,hq1,hq2,js,hjs,hjm⟩:=hallq.get hy
  rw [hp1] at hq1;cases hq1
  have:is=js:=zpu1 zcg2 (him.trans hjm.symm)
  subst this
  refine zum (zch2 his hjs (by have:=hn.code p (List.mem_of_getElem? hp1);rw [←him,List.length_map] at this;exact this) ?_)
  rw [zal (by omega) (by omega)]
  exact ⟨⟨rfl,rfl,i+1,by omega,by omega⟩,by omega⟩
 ·rw [if_neg (by simp;omega)]
  exact hq
theorem zus1 {a b:S_api_Lane} {l:PLane} (ra:LaneAt h a l) (rb:LaneAt h b l) (hn:zsa1 l) (hq:Q true h):zfd Tryz.prog a b Q h:=by
 unfold zfd
 obtain ⟨ws,hws,hwm⟩:=ra.waiters
 obtain ⟨us,hus,hum⟩:=rb.waiters
 have:ws=us:=zpu1 zrz1 (hwm.trans hum.symm)
 subst this
 have e1:a.Values.len=l.values.length:=ra.values.1
 have e2:b.Values.len=l.values.length:=rb.values.1
 have e3:a.Waiters.len=ws.length:=hws.1
 have e4:b.Waiters.len=ws.length:=hus.1
 have h1:=hn.values
 have h2:=hn.waiters
 rw [←hwm,List.length_map] at h2
 refine letW (letW (letW ?_))
 rw [if_neg (by rw [e1,e2,e3,e4,ra.taken,rb.taken,ra.dropped,rb.dropped];simp)]
 refine forI (n:=l.values.length) (by omega) (by omega) (fun _ h'=>h'=h) rfl ?_ ?_
 ·rintro i hi k rfl K hK
  refine Rs.get (sh:=shInt .i64) ra.values (fun _=>rfl) (by omega) (i:=(i:Int)) (by omega) (by omega) fun (x:Int) hx=> ?_
  refine Rs.get (sh:=shInt .i64) rb.values (fun _=>rfl) (by omega) (i:=(i:Int)) (by omega) (by omega) fun (y:Int) hy=> ?_
  rw [hx] at hy
  rw [if_neg (by simp [Option.some.inj hy])]
  exact hK k rfl
 ·rintro k rfl
  refine forI (n:=ws.length) (by omega) (by omega) (fun _ h'=>h'=k) rfl ?_ ?_
  ·rintro i hi k2 rfl K hK
   refine Rs.get (sh:=sh_api_Waiter) hws (fun _=>rfl) (by omega) (by omega) (by omega) fun x hx=> ?_
   refine Rs.get (sh:=sh_api_Waiter) hus (fun _=>rfl) (by omega) (by omega) (by omega) fun y hy=> ?_
   rw [hx] at hy;cases hy
   refine ⟨false,zxp [(⟨ "Proc",3,0,false, "", "",0⟩,.i64,x.Proc),(⟨ "Value",2,1,false, "", "",8⟩,.i64,x.Value_)]
    (tb_ok.und 114 ty114 rfl) (by kernel_rfl) (by kernel_rfl) (fun q hq=> ?_),?_⟩
   ·simp only [List.mem_cons,List.not_mem_nil,or_false] at hq
    rcases hq with rfl | rfl
    ·exact ⟨by simp,tb_ok.und 3 ty3 rfl,rfl⟩
    ·exact ⟨by simp,tb_ok.und 2 ty2 rfl,rfl⟩
   ·dsimp only
    rw [if_neg (by simp)]
    exact hK k2 rfl
  ·rintro k2 rfl;exact hq
theorem zxd1 {α β:Type} {R S:α→β→Prop} {xs ys:List α} {zs:List β} {i:Nat} {x y:α} (ha:All2 R xs zs) (hb:All2 S ys zs) (hx:xs[i]?=some x) (hy:ys[i]?=some y):∃z,zs[i]?=some z∧R x z∧S y z:=by
 obtain ⟨p,hp1,hp2⟩:=ha.get hx
 obtain ⟨q,hq1,hq2⟩:=hb.get hy
 rw [hp1] at hq1;cases hq1
 exact ⟨p,hp1,hp2,hq2⟩
set_option maxRecDepth 20000 in
theorem zmc1 {a b:S_api_Process} {p:PProcess} (ra:ProcessAt h a p) (rb:ProcessAt h b p) (hn:p.lanes.length≤140737488355328∧∀l∈p.lanes,zsa1 l) (hq:Q true h):zdu Tryz.prog a b Q h:=by
 unfold zdu
 obtain ⟨ls,hls,halll⟩:=ra.lanes
 obtain ⟨ms,hms,hallm⟩:=rb.lanes
 have e1:=halll.len
 have e2:=hallm.len
 have e3:a.Lanes.len=ls.length:=hls.1
 have e4:b.Lanes.len=ms.length:=hms.1
 have hr: [a.Regs_0,a.Regs_1,a.Regs_2,a.Regs_3,a.Regs_4,a.Regs_5,a.Regs_6,a.Regs_7]=[b.Regs_0,b.Regs_1,b.Regs_2,b.Regs_3,b.Regs_4,b.Regs_5,b.Regs_6,b.Regs_7]:=ra.regs.trans rb.regs.symm
 simp only [List.cons.injEq,and_true] at hr
 obtain ⟨r0,r1,r2,r3,r4,r5,r6,r7⟩:=hr
 refine letW ⟨false,fun _=> ?_,?_⟩
 ·rw [r0,r1,r2,r3,r4,r5,r6,r7]
  refine zrx1 (n:=8) (e:=2) (tb_ok.und 61 ty61 rfl) (by kernel_rfl) (tb_ok.und 2 ty2 rfl) (by kernel_rfl) (by kernel_rfl) fun j hj=> ?_
  match j,hj with
  | 0,_=>exact ⟨_,rfl⟩
  | 1,_=>exact ⟨_,rfl⟩
  | 2,_=>exact ⟨_,rfl⟩
  | 3,_=>exact ⟨_,rfl⟩
  | 4,_=>exact ⟨_,rfl⟩
  | 5,_=>exact ⟨_,rfl⟩
  | 6,_=>exact ⟨_,rfl⟩
  | 7,_=>exact ⟨_,rfl⟩
 refine letW (letW (letW (letW (letW (letW ?_)))))
 rw [if_neg (by rw [ra.state,rb.state,ra.pc,rb.pc,ra.cursor,rb.cursor,ra.timer,rb.timer,ra.fired,rb.fired,ra.wake,rb.wake,e3,e4,e1,e2];simp)]
 refine forI (n:=p.lanes.length) (by omega) (by omega) (fun _ h'=>h'=h) rfl ?_ ?_
 ·rintro i hi k rfl K hK
  refine Rs.get (sh:=sh_api_Lane) hls (fun _=>rfl) (by omega) (i:=(i:Int)) (by omega) (by omega) fun x hx=> ?_
  refine Rs.get (sh:=sh_api_Lane) hms (fun _=>rfl) (by omega) (i:=(i:Int)) (by omega) (by omega) fun y hy=> ?_
  obtain ⟨z,h1,h2,h3⟩:=zxd1 halll hallm hx hy
  refine zqn (zus1 h2 h3 (hn.2 z (List.mem_of_getElem? h1)) ?_)
  rw [if_neg (by simp)]
  exact hK k rfl
 ·rintro k rfl;exact hq
set_option maxRecDepth 20000 in
theorem zut1 {a b:S_api_Part} {p:PPart} (ra:PartAt h a p) (rb:PartAt h b p) (hn:p.log.length≤140737488355328∧p.owners.length≤140737488355328∧p.queues.length≤140737488355328∧∀q∈p.queues,q.length≤140737488355328) (hq:Q true h):zfa Tryz.prog a b Q h:=by
 unfold zfa
 obtain ⟨es,hes,hem⟩:=ra.log
 obtain ⟨fs,hfs,hfm⟩:=rb.log
 have:es=fs:=zpu1 zuq1 (hem.trans hfm.symm)
 subst this
 obtain ⟨qs,hqs,hallq⟩:=ra.queues
 obtain ⟨us,hus,hallu⟩:=rb.queues
 have e1:=hallq.len
 have e2:=hallu.len
 have e3:a.Queues.len=qs.length:=hqs.1
 have e4:b.Queues.len=us.length:=hus.1
 have e5:a.Log.len=es.length:=hes.1
 have e6:b.Log.len=es.length:=hfs.1
 obtain ⟨n1,n2,n3,n4⟩:=hn
 rw [←hem,List.length_map] at n1
 refine letW (letW (letW (letW ?_)))
 rw [if_neg (by rw [ra.cursor,rb.cursor,ra.lost,rb.lost,ra.forbidden,rb.forbidden,e3,e4,e5,e6,e1,e2];simp)]
 refine forI (n:=es.length) (by omega) (by omega) (fun _ h'=>h'=h) rfl ?_ ?_
 ·rintro i hi k rfl K hK
  refine Rs.get (sh:=sh_api_Entry) hes (fun _=>rfl) (by omega) (by omega) (by omega) fun x hx=> ?_
  refine Rs.get (sh:=sh_api_Entry) hfs (fun _=>rfl) (by omega) (by omega) (by omega) fun y hy=> ?_
  rw [hx] at hy;cases hy
  refine ⟨false,zxp [(⟨ "Tick",2,0,false, "", "",0⟩,.i64,x.Tick),(⟨ "Proc",3,1,false, "", "",8⟩,.i64,x.Proc),(⟨ "Value",2,2,false, "", "",16⟩,.i64,x.Value_)]
   (tb_ok.und 111 ty111 rfl) (by kernel_rfl) (by kernel_rfl) (fun q hq=> ?_),?_⟩
  ·simp only [List.mem_cons,List.not_mem_nil,or_false] at hq
   rcases hq with rfl | rfl | rfl
   ·exact ⟨by simp,tb_ok.und 2 ty2 rfl,rfl⟩
   ·exact ⟨by simp,tb_ok.und 3 ty3 rfl,rfl⟩
   ·exact ⟨by simp,tb_ok.und 2 ty2 rfl,rfl⟩
  ·dsimp only
   rw [if_neg (by simp)]
   exact hK k rfl
 ·rintro k rfl
  refine forI (n:=p.queues.length) (by omega) (by omega) (fun _ h'=>h'=k) rfl ?_ ?_
  ·rintro i hi k2 rfl K hK
   refine Rs.get (sh:=shSl) hqs (fun _=>rfl) (by omega) (i:=(i:Int)) (by omega) (by omega) fun x hx=> ?_
   refine Rs.get (sh:=shSl) hus (fun _=>rfl) (by omega) (i:=(i:Int)) (by omega) (by omega) fun y hy=> ?_
   obtain ⟨z,h1,h2,h3⟩:=zxd1 hallq hallu hx hy
   refine zll (zry1 h2 h3 (n4 z (List.mem_of_getElem? h1)) ?_)
   rw [if_neg (by simp)]
   exact hK k2 rfl
  ·rintro k2 rfl
   exact zll (zry1 ra.owners rb.owners n2 hq)
theorem zav1 {a b:S_api_State} {s:PState} (ra:StateAt h a s) (rb:StateAt h b s) (hn:StLe s) (hq:Q true h):zin Tryz.prog a b Q h:=by
 unfold zin
 obtain ⟨ps,hps,hallp⟩:=ra.parts
 obtain ⟨us,hus,hallu⟩:=rb.parts
 obtain ⟨qs,hqs,hallq⟩:=ra.procs
 obtain ⟨vs,hvs,hallv⟩:=rb.procs
 have e1:=hallp.len
 have e2:=hallu.len
 have e3:=hallq.len
 have e4:=hallv.len
 have e5:a.Parts.len=ps.length:=hps.1
 have e6:b.Parts.len=us.length:=hus.1
 have e7:a.Procs.len=qs.length:=hqs.1
 have e8:b.Procs.len=vs.length:=hvs.1
 have n1:=hn.parts
 have n2:=hn.procs
 refine letW (letW ?_)
 rw [if_neg (by rw [ra.tick,rb.tick,e5,e6,e7,e8,e1,e2,e3,e4];simp)]
 refine forI (n:=s.parts.length) (by omega) (by omega) (fun _ h'=>h'=h) rfl ?_ ?_
 ·rintro i hi k rfl K hK
  refine Rs.get (sh:=sh_api_Part) hps (fun _=>rfl) (by omega) (i:=(i:Int)) (by omega) (by omega) fun x hx=> ?_
  refine Rs.get (sh:=sh_api_Part) hus (fun _=>rfl) (by omega) (i:=(i:Int)) (by omega) (by omega) fun y hy=> ?_
  obtain ⟨z,h1,h2,h3⟩:=zxd1 hallp hallu hx hy
  refine zqj (zut1 h2 h3 (hn.log z (List.mem_of_getElem? h1)) ?_)
  rw [if_neg (by simp)]
  exact hK k rfl
 ·rintro k rfl
  refine forI (n:=s.procs.length) (by omega) (by omega) (fun _ h'=>h'=k) rfl ?_ ?_
  ·rintro i hi k2 rfl K hK
   refine Rs.get (sh:=sh_api_Process) hqs (fun _=>rfl) (by omega) (i:=(i:Int)) (by omega) (by omega) fun x hx=> ?_
   refine Rs.get (sh:=sh_api_Process) hvs (fun _=>rfl) (by omega) (i:=(i:Int)) (by omega) (by omega) fun y hy=> ?_
   obtain ⟨z,h1,h2,h3⟩:=zxd1 hallq hallv hx hy
   refine znv (zmc1 h2 h3 (hn.lanes z (List.mem_of_getElem? h1)) ?_)
   rw [if_neg (by simp)]
   exact hK k2 rfl
  ·rintro k2 rfl;exact hq
end
end Lf

namespace Lf
open Go Go.Proofs
def LogR (c:PCfg) (s:PState) (i:Nat) (l:List ziy) (k:Nat) (e:ziy):Prop:=
 (0≤e.tick∧e.tick≤s.tick-1)∧(∀d,0<k→l[k-1]?=some d→d.tick≤e.tick)∧ofP c e.proc i
def OwnR (c:PCfg) (s:PState) (i:Nat) (z:PPart) (k:Nat) (o:Int):Prop:=
 (o= -1∨ofR c s o i)∧∀q,z.queues[k]?=some q→(o= -1→q=[])∧∀p∈q,ofR c s p i∧(stP s p fun z=>z.state=3)∧o≠p
section
variable {h:Hp} {b:Nat} {x:S_api_Config} {y:S_api_State} {c:PCfg} {s:PState}
theorem zuu1 (k:RM h b x y c s) {i:Nat} {l:List ziy} {es:List S_api_Entry} {L:Sl} (hes:EntS h L es) (hmap:es.map zht=l) {j:Nat} {e:S_api_Entry} (he:es[j]?=some e) (hj:j<4611686018427387904) {K:Bool→Prop} (hk:∀r,(r=true↔¬LogR c s i l j (zht e))→K r):
  ∀r3:Bool,(r3=true↔0≤e.Tick∧e.Tick≤s.tick-1)→
  ((((!(!r3))&&(decide ((j:Int)>(0:Int))))=true→(InB L.base L.len (IntKind.wrap .i64 ((j:Int)-(1:Int)))))∧LdW (some ((!(!r3))&&(decide ((j:Int)>(0:Int))))) (shInt .i64) h (Addr.add (sat L.base 3 (IntKind.wrap .i64 ((j:Int)-(1:Int)))) 0) fun x5=>
   LetW ((decide ((j:Int)>(0:Int)))&&(decide (e.Tick<x5))) fun y6=>
   LetW ((!r3) || y6) fun y7=>
   LetW (y7 || (decide (e.Proc<(0:Int)))) fun y8=>
   NilW (some (!y8)) (some ⟨b,0,none⟩) fun p3=>
   LdW (some (!y8)) shSl h (Addr.add (Addr.add p3 0) 6) fun x6=>
   LetW (y8 || (decide (e.Proc≥((x6.len:Nat):Int)))) fun y9=>
   NilW (some (!y9)) (some ⟨b,0,none⟩) fun p4=>
   LdW (some (!y9)) shSl h (Addr.add (Addr.add p4 0) 6) fun x7=>
   (((!y9)=true→(InB x7.base x7.len e.Proc))∧LdW (some (!y9)) (shInt .i64) h (Addr.add (sat x7.base 2 e.Proc) 0) fun x8=>
   LetW (y9 || (x8 !=(i:Int))) fun y10=>K y10)):=by
 intro r3 hr3
 have hB:LdIs h (Addr.add (Addr.add ⟨b,0,none⟩ 0) 6) (zad (shSl.enc x.Procs)):=k.box.ldIs (off:=6) (n:=1) rfl
 obtain ⟨ps,hps,hall⟩:=k.cfg.procs
 have hlp:x.Procs.len=ps.length:=hps.1
 have hjl:=(List.getElem?_eq_some_iff.1 he).1
 rw [zal (by omega) (by omega)]
 refine Rw.fldC hes (fun _=>rfl) (by omega) (sh:=shInt .i64) (fun q=>q.Tick) (fun _=>rfl) (0:Int) (fun e=>by simp at e;omega) fun (x5:Int) hx5=>fun y6 hy6=>fun y7 hy7=>fun y8 hy8=> ?_
 have h7:y7=true↔¬((0≤e.Tick∧e.Tick≤s.tick-1)∧∀d,0<j→l[j-1]?=some d→d.tick≤e.Tick):=by
  subst hy7
  refine zik1 (y:= !r3) (by rw [←hr3];simp) fun hA=> ?_
  have hr:r3=true:=hr3.2 hA
  subst hy6
  rw [hr] at hx5
  simp only [Bool.and_eq_true,decide_eq_true_eq]
  constructor
  ·rintro ⟨hj0,hlt⟩ hh
   obtain ⟨d,hd,hd2⟩:=hx5 (by simp;omega)
   have hd2:x5=d.Tick:=hd2
   have hd':es[j-1]?=some d:=by rw [←hd];congr 1;omega
   have:d.Tick≤e.Tick:=hh (zht d) (by omega) (by rw [←hmap,List.getElem?_map,hd'];rfl)
   omega
  ·intro hn
   refine Classical.byContradiction fun hcc=>hn fun d hj0 hd=> ?_
   obtain ⟨d',hd',hd2⟩:=hx5 (by simp;omega)
   have hd2:x5=d'.Tick:=hd2
   have hd':es[j-1]?=some d':=by rw [←hd'];congr 1;omega
   rw [←hmap,List.getElem?_map,hd'] at hd
   cases hd
   show d'.Tick≤e.Tick
   omega
 refine zab (ldC (sh:=shSl) x.Procs hB fun y9 hy9=>zab (ldC (sh:=shSl) x.Procs hB ?_))
 refine Rw.fldC hps (fun _=>rfl) (by omega) (sh:=shInt .i64) (fun q=>q.Part) (fun _=>rfl) (0:Int) (fun e=>by subst hy9 hy8;simp at e;omega) fun (v:Int) hv=>letW (hk _ ?_)
 unfold LogR
 rw [←and_assoc]
 subst hy9 hy8
 rw [Bool.or_assoc,Bool.or_assoc]
 refine zik1 h7 fun hA=> ?_
 have e7:y7=false:=by rw [←Bool.not_eq_true,h7];exact fun hn=>hn hA
 rw [e7] at hv
 unfold ofP
 simp only [zht,Bool.or_eq_true,decide_eq_true_eq,bne_iff_ne]
 constructor
 ·rintro hor ⟨h0,z,hz,hz2⟩
  obtain ⟨q,hq1,hq2,_⟩:=hall.get' hz
  have hlt:=(List.getElem?_eq_some_iff.1 hq1).1
  obtain ⟨q',hq1',hq2'⟩:=hv (by simp;omega)
  rw [hq1] at hq1';cases hq1'
  rcases hor with hor | hor | hor
  ·omega
  ·omega
  ·exact hor (by rw [hq2',hq2];exact hz2)
 ·intro hn
  by_cases h0:e.Proc<0
  ·exact .inl h0
  by_cases h1:e.Proc≥((x.Procs.len:Nat):Int)
  ·exact .inr (.inl h1)
  refine .inr (.inr fun hvi=>hn ?_)
  obtain ⟨q,hq1,hq2⟩:=hv (by simp;omega)
  obtain ⟨z,hz1,hz2,_⟩:=hall.get hq1
  exact ⟨by omega,z,hz1,by rw [←hz2,←hq2];exact hvi⟩
set_option maxRecDepth 20000 in
theorem zys1 (k:RM h b x y c s) (hS:StLe s) {i:Nat} {z:PPart} (hi:s.parts[i]?=some z) {Q:Bool→Hp→Prop} (hq:∀r h',h≤h'→(r=true↔PartR c s i z)→Q r h'):zdo Tryz.prog (some ⟨b,0,none⟩) (i:Int) Q h:=by
 unfold zdo
 obtain ⟨ps0,hps0,hall0⟩:=k.st.parts
 obtain ⟨w,hw1,_⟩:=hall0.get' hi
 have hwl:=(List.getElem?_eq_some_iff.1 hw1).1
 refine zab (ld_at (sh:=shSl) y.Parts (k.box.ldIs (off:=8) (n:=1) rfl) ?_)
 refine Rs.get (sh:=sh_api_Part) hps0 (fun _=>rfl) (by omega) (by omega) (by omega) fun w' hw'=> ?_
 have hw':ps0[i]?=some w':=hw'
 rw [hw1] at hw';cases hw'
 refine zou (zbs2 k fun l h1 l1 hlen=> ?_)
 have k1:=k.mono l1
 obtain ⟨z',hz',hw2⟩:=(hall0.imp fun _ _ e=>PartAt.mono l1 e).get hw1
 rw [hi] at hz';cases hz'
 obtain ⟨hzo,hzq,hzl⟩:=k.sizes.2.1 z (List.mem_of_getElem? hi)
 obtain ⟨-,⟨hL0,hL8⟩,⟨hG0,hG1⟩, -,⟨hP1,hP32⟩, -⟩:=zoa k.ok
 obtain ⟨es,hes,hmap⟩:=hw2.log
 have hel:w.Log.len=es.length:=hes.1
 have hxl:z.log.length=es.length:=by rw [←hmap,List.length_map]
 have hol:w.Owners.len=z.owners.length:=hw2.owners.1
 obtain ⟨qs,hqs,hallQ⟩:=hw2.queues
 have hql:w.Queues.len=qs.length:=hqs.1
 have hql2:=hallQ.len
 have htk:y.Tick=s.tick:=k.st.tick
 have hfl:x.Log=c.log:=k.cfg.log
 rw [hw2.cursor,hw2.lost,hw2.forbidden,hlen]
 refine letW fun y1 hy1=> ?_
 have a1:y1=true↔¬(0≤z.cursor∧(0<z.cursor→z.cursor<manyP c i)):=by
  subst hy1
  simp only [Bool.or_eq_true,Bool.and_eq_true,decide_eq_true_eq]
  omega
 refine effI (fun r=>r=true↔Cnt z.lost) false (fun _ hk=>zcr (zqp hk)) fun r1 hr1=>fun y2 hy2=> ?_
 have a2:y2=true↔¬((0≤z.cursor∧(0<z.cursor→z.cursor<manyP c i))∧Cnt z.lost):=by subst hy2;exact zne1 a1 hr1
 refine effI (fun r=>r=true↔Cnt z.forbidden) false (fun _ hk=>zcr (zqp hk)) fun r2 hr2=>fun y3 hy3=> ?_
 have a3:y3=true↔¬(((0≤z.cursor∧(0<z.cursor→z.cursor<manyP c i))∧Cnt z.lost)∧Cnt z.forbidden):=by subst hy3;exact zne1 a2 hr2
 refine zab (ldC (sh:=shInt .i64) x.Log (k1.box.ldIs (off:=5) (n:=1) rfl) fun y4 hy4=>fun y5 hy5=> ?_)
 have a5:y5=true↔¬((((0≤z.cursor∧(0<z.cursor→z.cursor<manyP c i))∧Cnt z.lost)∧Cnt z.forbidden)∧(0<z.lost→c.log≤z.log.length)):=by
  subst hy5
  refine zik1 a3 fun _=> ?_
  subst hy4
  simp only [Bool.and_eq_true,decide_eq_true_eq]
  omega
 dsimp only
 by_cases hy5':y5=true
 ·rw [if_pos hy5']
  refine hq _ _ l1 ⟨fun e=>(by cases e),fun hh=> ?_⟩
  exact absurd ⟨⟨⟨hh.1,hh.2.1⟩,hh.2.2.1⟩,hh.2.2.2.1⟩ (a5.1 hy5')
 rw [if_neg hy5']
 obtain ⟨⟨⟨c1,c2⟩,c3⟩,c4⟩:=Classical.not_not.1 fun hn=>hy5' (a5.2 hn)
 have hP:PartR c s i z↔(∀(k:Nat) e,z.log[k]?=some e→LogR c s i z.log k e)∧∀(k:Nat) o,z.owners[k]?=some o→OwnR c s i z k o:=
  ⟨fun hh=>hh.2.2.2.2,fun hh=>⟨c1,c2,c3,c4,hh⟩⟩
 refine forI (n:=es.length) (by omega) (by omega) (fun j h'=>h'=h1∧∀(k:Nat) e,k<j→z.log[k]?=some e→LogR c s i z.log k e) ⟨rfl,fun _ _ hj=>by omega⟩ ?_ ?_
 ·rintro j hj h2 ⟨rfl,hI⟩ K hK
  refine Rs.get (sh:=sh_api_Entry) hes (fun _=>rfl) (by omega) (by omega) (by omega) fun e he=> ?_
  have he:es[j]?=some e:=he
  have hE:z.log[j]?=some (zht e):=by rw [←hmap,List.getElem?_map,he];rfl
  refine zab (ld_at (sh:=shInt .i64) y.Tick (k1.box.ldIs (off:=7) (n:=1) rfl) ?_)
  have ht:=k.sizes.1.1
  rw [htk,zal (by omega) (by omega)]
  refine zcv (zob fun r3 hr3=> ?_)
  refine zuu1 k1 hes hmap he (by omega) (fun y10 hy10=> ?_) r3 hr3
  by_cases hy:y10=true
  ·rw [if_pos hy]
   exact hq _ _ l1 ⟨fun e=>(by cases e),fun hh=>absurd ((hP.1 hh).1 j _ hE) (hy10.1 hy)⟩
  ·rw [if_neg hy]
   refine hK _ ⟨rfl,fun m e' hm he'=> ?_⟩
   by_cases hmj:m<j
   ·exact hI m e' hmj he'
   ·have:m=j:=by omega
    subst this
    rw [hE] at he';cases he'
    exact Classical.not_not.1 fun hn=>hy (hy10.2 hn)
 ·rintro h2 ⟨rfl,hI⟩
  have hLog:∀(k:Nat) e,z.log[k]?=some e→LogR c s i z.log k e:=fun k e he=>hI k e (by have:=(List.getElem?_eq_some_iff.1 he).1;omega) he
  refine forI (n:=z.owners.length) (by omega) (by omega) (fun j h'=>h'=h2∧∀(k:Nat) o,k<j→z.owners[k]?=some o→OwnR c s i z k o) ⟨rfl,fun _ _ hj=>by omega⟩ ?_ ?_
  ·rintro j hj h3 ⟨rfl,hI2⟩ K hK
   refine Rs.get (sh:=shInt .i64) hw2.owners (fun _=>rfl) (by omega) (by omega) (by omega) fun (o:Int) ho=> ?_
   have ho:z.owners[j]?=some o:=ho
   have hgo:∀ {cnd:Bool} {K':Int→Prop},K' o→((cnd=true→(InB w.Owners.base w.Owners.len (j:Int)))∧LdW (some cnd) (shInt .i64) h3 (sat w.Owners.base 1 (j:Int)) K'):=fun {cnd} {K'} hk=>by
    obtain ⟨hin,v,hv,rfl⟩:=Rs.get (sh:=shInt .i64) hw2.owners (fun _=>rfl) (by omega) (i:=(j:Int)) (by omega) (by omega) (K:=fun (v:Int)=>v=o) fun (v:Int) hv=>by
     have hv:z.owners[j]?=some v:=hv
     rw [ho] at hv;exact (Option.some.inj hv).symm
    exact ⟨fun _=>hin,v,fun _=>hv,hk⟩
   have hjq:j<qs.length:=by omega
   have hqj:=List.getElem?_eq_getElem hjq
   generalize qs[j]=ql at hqj
   obtain ⟨q,hq1,hq2⟩:=hallQ.get hqj
   have hqlen:ql.len=q.length:=hq2.1
   refine hgo ?_
   refine effI (fun r=>r=true↔ofR c s o i) false (fun _ hk=>zdi (zpn1 k1 hk)) fun r3 hr3=>fun y6 hy6=> ?_
   have a6:y6=true↔(o= -1∨ofR c s o i):=by
    subst hy6
    by_cases ho1:o= -1
    ·simp [ho1]
    ·have e:(o==(-1:Int))=false:=by simpa using ho1
     rw [e] at hr3 ⊢
     rw [Bool.false_or,hr3 rfl]
     exact ⟨fun e=>.inr e,fun e=>e.resolve_left ho1⟩
   refine hgo ?_
   refine Rs.getC (sh:=shSl) hqs ql (fun _=>rfl) (by omega) (fun _=>by omega) fun ql' hql'=>fun y7 hy7=>fun y8 hy8=> ?_
   have a8:y8=true↔¬((o= -1∨ofR c s o i)∧(o= -1→q=[])):=by
    subst hy8
    refine zik1 (y:= !y6) (by rw [←a6];simp) fun hA=> ?_
    have e6:=a6.2 hA
    rw [e6] at hql'
    subst hy7
    by_cases ho1:o= -1
    ·have hh:=hql' (by simp [ho1])
     have hh:qs[j]?=some ql':=hh
     rw [hqj] at hh;cases hh
     simp only [ho1,beq_self_eq_true,Bool.true_and,decide_eq_true_eq,forall_const,←List.length_eq_zero_iff]
     omega
    ·have e:(o==(-1:Int))=false:=by simpa using ho1
     rw [e]
     exact ⟨fun e=>(by cases e),fun hn=>absurd (fun e=>absurd e ho1) hn⟩
   dsimp only
   by_cases hy:y8=true
   ·rw [if_pos hy]
    refine hq _ _ l1 ⟨fun e=>(by cases e),fun hh=> ?_⟩
    have:=(hP.1 hh).2 j o ho
    exact absurd ⟨this.1,(this.2 q hq1).1⟩ (a8.1 hy)
   rw [if_neg hy]
   obtain ⟨d1,d2⟩:=Classical.not_not.1 fun hn=>hy (a8.2 hn)
   have hfew:=((hS.log z (List.mem_of_getElem? hi)).2.2.2) q (List.mem_of_getElem? hq1)
   refine loopN (n:=q.length) (by omega) (fun n h'=>h'=h3∧∀(m:Nat) p,m<n→q[m]?=some p→ofR c s p i∧(stP s p fun z=>z.state=3)∧o≠p) ⟨rfl,fun _ _ hm=>by omega⟩ ?_
   rintro n hn h4 ⟨rfl,hI3⟩ K2 hK2
   have hgq:∀ {K':Sl→Prop},K' ql→((InB w.Queues.base w.Queues.len (j:Int))∧LdW none shSl h4 (sat w.Queues.base 1 (j:Int)) K'):=fun {K'} hk=>by
    refine Rs.get (sh:=shSl) hqs (fun _=>rfl) (by omega) (by omega) (by omega) fun v hv=> ?_
    have hv:qs[j]?=some v:=hv
    rw [hqj] at hv;cases hv
    exact hk
   refine hgq ?_
   by_cases hlt:n<q.length
   ·rw [if_pos (decide_eq_true (by omega))]
    refine hgq ?_
    refine Rs.get (sh:=shInt .i64) hq2 (fun _=>rfl) (by omega) (by omega) (by omega) fun (p:Int) hp=> ?_
    have hp:q[n]?=some p:=hp
    refine zdi (zpn1 k1 fun r4 hr4=> ?_)
    refine zab (ldC (sh:=shSl) y.Procs (k1.box.ldIs (off:=9) (n:=1) rfl) ?_)
    obtain ⟨pp,hpp,hallp⟩:=k1.st.procs
    have hppl:y.Procs.len=pp.length:=hpp.1
    have hpl2:=hallp.len
    have hpl3:=k.sizes.1.2.2
    refine Rw.fldC hpp (fun _=>rfl) (by omega) (sh:=shInt .i64) (fun q=>q.State) (fun _=>rfl) (0:Int) (fun e=> ?_) fun (v:Int) hv=>fun y9 hy9=> ?_
    ·obtain ⟨⟨h0,u,hu,_⟩,_⟩:=hr4.1 (by simpa using e)
     have:=(List.getElem?_eq_some_iff.1 hu).1
     omega
    have a9:y9=true↔¬(ofR c s p i∧stP s p fun z=>z.state=3):=by
     subst hy9
     refine zik1 (y:= !r4) (by rw [←hr4];simp) fun hA=> ?_
     have:=hr4.2 hA
     rw [this] at hv
     obtain ⟨u,hu,rfl⟩:=hv rfl
     obtain ⟨u',hu',hu2⟩:=hallp.get hu
     rw [bne_iff_ne,hu2.state]
     refine not_congr ⟨fun e=>⟨_,hu',e⟩,fun ⟨z1,hz1,hz2⟩=> ?_⟩
     rw [hu'] at hz1;cases hz1
     exact hz2
    refine hgo (letW ?_)
    have a10:(y9 || (o==p))=true↔¬((ofR c s p i∧stP s p fun z=>z.state=3)∧o≠p):=zik1 a9 fun _=>by simp
    by_cases hy10:(y9 || (o==p))=true
    ·rw [if_pos hy10]
     refine hq _ _ l1 ⟨fun e=>(by cases e),fun hh=> ?_⟩
     obtain ⟨g1,g2,g3⟩:=(((hP.1 hh).2 j o ho).2 q hq1).2 p (List.mem_of_getElem? hp)
     exact absurd ⟨⟨g1,g2⟩,g3⟩ (a10.1 hy10)
    ·rw [if_neg hy10]
     obtain ⟨⟨g1,g2⟩,g3⟩:=Classical.not_not.1 fun hn=>hy10 (a10.2 hn)
     refine hK2 hlt _ ⟨rfl,fun m p' hm hp'=> ?_⟩
     by_cases hmn:m<n
     ·exact hI3 m p' hmn hp'
     ·have:m=n:=by omega
      subst this
      rw [hp] at hp';cases hp'
      exact ⟨g1,g2,g3⟩
   ·rw [if_neg (fun e=>hlt (by have:=of_decide_eq_true e;omega))]
    refine hK _ ⟨rfl,fun m o' hm ho'=> ?_⟩
    by_cases hmj:m<j
    ·exact hI2 m o' hmj ho'
    ·have:m=j:=by omega
     subst this
     rw [ho] at ho';cases ho'
     refine ⟨d1,fun q' hq'=> ?_⟩
     rw [hq1] at hq';cases hq'
     refine ⟨d2,fun p hp=> ?_⟩
     obtain ⟨m,hm⟩:=List.getElem?_of_mem hp
     exact hI3 m p (by have:=(List.getElem?_eq_some_iff.1 hm).1;omega) hm
  ·rintro h3 ⟨rfl,hI2⟩
   refine hq _ _ l1 ⟨fun _=>hP.2 ⟨hLog,fun k o ho=>hI2 k o (by have:=(List.getElem?_eq_some_iff.1 ho).1;omega) ho⟩,fun _=>rfl⟩
end
end Lf

namespace Lf
open Go Go.Proofs
section
variable {h:Hp} {b:Nat} {x:S_api_Config} {y:S_api_State} {c:PCfg} {s:PState}
theorem zuv1 (cx:CfgAt h x c) (sy:StateAt h y s) (ok:(cfgE c).1=0) (hS:StLe s) {Q:Bool→Hp→Prop} (hq:∀r,(r=true↔zrd1 c s)→Q r h):zhj Tryz.prog x y Q h:=by
 unfold zhj
 obtain ⟨ps,hps,hall⟩:=sy.parts
 obtain ⟨qs,hqs,hallq⟩:=sy.procs
 obtain ⟨cs,hcs,hallc⟩:=cx.procs
 have l1:=hall.len
 have l2:=hallq.len
 have l3:=hallc.len
 have e1:y.Parts.len=ps.length:=hps.1
 have e2:y.Procs.len=qs.length:=hqs.1
 have e3:x.Procs.len=cs.length:=hcs.1
 have e4:x.Labels.len=c.labels.length:=cx.labels.1
 obtain ⟨⟨hA1,hA8⟩, -, -, -,⟨hP1,hP32⟩, -⟩:=zoa ok
 have s1:=hS.parts
 have s2:=hS.procs
 refine fun y1 hy1=> ?_
 have a1:y1=true↔¬(s.parts.length=c.labels.length∧s.procs.length=c.procs.length):=by
  subst hy1
  simp only [Bool.or_eq_true,bne_iff_ne]
  omega
 refine effI (fun r=>r=true↔0≤s.tick∧s.tick≤4611686018427387904) false (fun _ hk=>zcv (zob (sy.tick▸hk))) fun r hr=>fun y2 hy2=> ?_
 have a2:y2=true↔¬((s.parts.length=c.labels.length∧s.procs.length=c.procs.length)∧(0≤s.tick∧s.tick≤4611686018427387904)):=by subst hy2;exact zne1 a1 hr
 dsimp only
 by_cases hy:y2=true
 ·rw [if_pos hy]
  exact hq _ ⟨fun e=>(by cases e),fun hh=>absurd ⟨hh.1.2,hh.1.1⟩ (a2.1 hy)⟩
 rw [if_neg hy]
 obtain ⟨b1,b2⟩:=Classical.not_not.1 fun hn=>hy (a2.2 hn)
 have hZ:zrd1 c s↔(∀x∈s.parts,(x.owners.length:Int)=c.locks∧(x.queues.length:Int)=c.locks∧(x.log.length:Int)≤c.log)∧∀x∈s.procs,x.lanes.length=c.labels.length+1∧∀l∈x.lanes,(l.values.length:Int)≤c.lane:=
  ⟨fun hh=>hh.2,fun hh=>⟨⟨b2,b1⟩,hh⟩⟩
 rw [cx.locks,cx.log]
 refine forI (n:=ps.length) (by omega) (by omega) (fun j h'=>h'=h∧∀(k:Nat) z,k<j→s.parts[k]?=some z→(z.owners.length:Int)=c.locks∧(z.queues.length:Int)=c.locks∧(z.log.length:Int)≤c.log) ⟨rfl,fun _ _ hj=>by omega⟩ ?_ ?_
 ·rintro j hj h2 ⟨rfl,hI⟩ K hK
  refine Rw.fld hps (fun _=>rfl) (by omega) (sh:=shSl) (fun q=>q.Owners) (fun _=>rfl) (by omega) (by omega) fun w hw=> ?_
  have hw:ps[j]?=some w:=hw
  obtain ⟨z,hz,hzw⟩:=hall.get hw
  have f1:w.Owners.len=z.owners.length:=hzw.owners.1
  obtain ⟨us,hus,hallu⟩:=hzw.queues
  have f2:w.Queues.len=us.length:=hus.1
  have f2':=hallu.len
  obtain ⟨es,hes,hmap⟩:=hzw.log
  have f3:w.Log.len=es.length:=hes.1
  have f3':z.log.length=es.length:=by rw [←hmap,List.length_map]
  have one:∀(g:S_api_Part→Sl) (off:Nat) (hg:∀x,((zad (sh_api_Part.enc x)).drop off).take (zad (shSl.enc (g x))).length=zad (shSl.enc (g x))) {cnd:Bool} {K':Sl→Prop},K' (g w)→
    ((cnd=true→(InB y.Parts.base y.Parts.len (j:Int)))∧LdW (some cnd) shSl h2 (Addr.add (sat y.Parts.base 6 (j:Int)) off) K'):=fun g off hg {cnd} {K'} hk=>by
   obtain ⟨hin,v,hv,rfl⟩:=Rw.fld hps (fun _=>rfl) (by omega) (sh:=shSl) g hg (i:=(j:Int)) (by omega) (by omega) (K:=fun v=>v=g w) fun q hq=>by
    have hq:ps[j]?=some q:=hq
    rw [hw] at hq;cases hq;rfl
   exact ⟨fun _=>hin,_,fun _=>hv,hk⟩
  refine one (fun q=>q.Queues) 5 (fun _=>rfl) (letW ?_)
  refine one (fun q=>q.Log) 1 (fun _=>rfl) fun y3 hy3=> ?_
  have a3:y3=true↔¬((z.owners.length:Int)=c.locks∧(z.queues.length:Int)=c.locks∧(z.log.length:Int)≤c.log):=by
   subst hy3
   simp only [Bool.or_eq_true,bne_iff_ne,decide_eq_true_eq]
   omega
  dsimp only
  by_cases hy3':y3=true
  ·rw [if_pos hy3']
   exact hq _ ⟨fun e=>(by cases e),fun hh=>absurd ((hZ.1 hh).1 z (List.mem_of_getElem? hz)) (a3.1 hy3')⟩
  ·rw [if_neg hy3']
   refine hK _ ⟨rfl,fun m z' hm hz'=> ?_⟩
   by_cases hmj:m<j
   ·exact hI m z' hmj hz'
   ·have:m=j:=by omega
    subst this
    rw [hz] at hz';cases hz'
    exact Classical.not_not.1 fun hn=>hy3' (a3.2 hn)
 ·rintro h2 ⟨rfl,hI⟩
  have hA:∀z∈s.parts,(z.owners.length:Int)=c.locks∧(z.queues.length:Int)=c.locks∧(z.log.length:Int)≤c.log:=fun z hz=>by
   obtain ⟨m,hm⟩:=List.getElem?_of_mem hz
   exact hI m z (by have:=(List.getElem?_eq_some_iff.1 hm).1;omega) hm
  refine forI (n:=qs.length) (by omega) (by omega) (fun j h'=>h'=h2∧∀(k:Nat) z,k<j→s.procs[k]?=some z→z.lanes.length=c.labels.length+1∧∀l∈z.lanes,(l.values.length:Int)≤c.lane) ⟨rfl,fun _ _ hj=>by omega⟩ ?_ ?_
  ·rintro j hj h3 ⟨rfl,hI2⟩ K hK
   have hjl:=List.getElem?_eq_getElem hj
   generalize qs[j]=w at hjl
   have one:∀ {K':Sl→Prop},K' w.Lanes→(InB y.Procs.base y.Procs.len (j:Int))∧LdW none shSl h3 (Addr.add (sat y.Procs.base 15 (j:Int)) 14) K':=fun {K'} hk=>
    Rw.fld hqs (fun _=>rfl) (by omega) (sh:=shSl) (fun q=>q.Lanes) (fun _=>rfl) (by omega) (by omega) fun q hq=>by
     have hq:qs[j]?=some q:=hq
     rw [hjl] at hq;cases hq;exact hk
   obtain ⟨z,hz,hzw⟩:=hallq.get hjl
   obtain ⟨ls,hls,hallL⟩:=hzw.lanes
   have f1:w.Lanes.len=ls.length:=hls.1
   have f2:=hallL.len
   have hzs:=hS.lanes z (List.mem_of_getElem? hz)
   refine one ?_
   rw [f1,f2,e4,zal (by omega) (by omega)]
   by_cases hn:z.lanes.length=c.labels.length+1
   ·rw [if_neg (by rw [bne_iff_ne];omega)]
    refine loopN (n:=ls.length) (by omega) (fun m h'=>h'=h3∧∀(k:Nat) l,k<m→z.lanes[k]?=some l→(l.values.length:Int)≤c.lane) ⟨rfl,fun _ _ hm=>by omega⟩ ?_
    rintro m hm h4 ⟨rfl,hI3⟩ K2 hK2
    refine one ?_
    by_cases hlt:m<ls.length
    ·rw [if_pos (decide_eq_true (by omega))]
     refine one ?_
     refine Rw.fld hls (fun _=>rfl) (by omega) (sh:=shSl) (fun q=>q.Values) (fun _=>rfl) (by omega) (by omega) fun u hu=> ?_
     have hu:ls[m]?=some u:=hu
     obtain ⟨l,hl,hlu⟩:=hallL.get hu
     have f3:u.Values.len=l.values.length:=hlu.values.1
     rw [cx.lane,f3]
     by_cases hv:(l.values.length:Int)≤c.lane
     ·rw [if_neg (fun e=>by have:=of_decide_eq_true e;omega)]
      refine hK2 hlt _ ⟨rfl,fun k l' hk hl'=> ?_⟩
      by_cases hkm:k<m
      ·exact hI3 k l' hkm hl'
      ·have:k=m:=by omega
       subst this
       rw [hl] at hl';cases hl'
       exact hv
     ·rw [if_pos (decide_eq_true (by omega))]
      exact hq _ ⟨fun e=>(by cases e),fun hh=>absurd (((hZ.1 hh).2 z (List.mem_of_getElem? hz)).2 l (List.mem_of_getElem? hl)) hv⟩
    ·rw [if_neg (fun e=>hlt (by have:=of_decide_eq_true e;omega))]
     refine hK _ ⟨rfl,fun k z' hk hz'=> ?_⟩
     by_cases hkj:k<j
     ·exact hI2 k z' hkj hz'
     ·have:k=j:=by omega
      subst this
      rw [hz] at hz';cases hz'
      refine ⟨hn,fun l hl=> ?_⟩
      obtain ⟨k,hk⟩:=List.getElem?_of_mem hl
      exact hI3 k l (by have:=(List.getElem?_eq_some_iff.1 hk).1;omega) hk
   ·rw [if_pos (by rw [bne_iff_ne];omega)]
    exact hq _ ⟨fun e=>(by cases e),fun hh=>absurd ((hZ.1 hh).2 z (List.mem_of_getElem? hz)).1 hn⟩
  ·rintro h3 ⟨rfl,hI2⟩
   refine hq _ ⟨fun _=>hZ.2 ⟨hA,fun z hz=> ?_⟩,fun _=>rfl⟩
   obtain ⟨m,hm⟩:=List.getElem?_of_mem hz
   exact hI2 m z (by have:=(List.getElem?_eq_some_iff.1 hm).1;omega) hm
end
end Lf

namespace Lf
open Go Go.Proofs
def LaneR (c:PCfg) (s:PState) (x:PProcess) (y:PProc) (k:Nat) (l:PLane):Prop:=
 Cnt l.taken∧Cnt l.dropped∧(k<c.labels.length→Used l→fl c.labels (k:Int) y.part=true)∧(l.waiters≠ []→(k:Int)=y.part∧x.state<5∧c.lane≤l.values.length)∧
  ∀w∈l.waiters,(∀i:Nat,(i:Int)=y.part→ofR c s w.proc i)∧stP s w.proc fun z=>z.state=2
section
variable {h:Hp} {b:Nat} {x:S_api_Config} {y:S_api_State} {c:PCfg} {s:PState}
theorem RM.getProc (k:RM h b x y c s) {p:Nat} {z:PProcess} (hz:s.procs[p]?=some z) {Z:S_api_Process→Prop}:(∃w,ProcessAt h w z∧∀ {K:S_api_Process→Prop},K w→(InB y.Procs.base y.Procs.len (p:Int)∧LdW none sh_api_Process h (sat y.Procs.base 15 (p:Int)) K)):=by
 obtain ⟨qs,hqs,hallq⟩:=k.st.procs
 obtain ⟨w,hw1,hw2⟩:=hallq.get' hz
 have hwl:=(List.getElem?_eq_some_iff.1 hw1).1
 refine ⟨w,hw2,fun {K} hk=> ?_⟩
 refine Rs.get (sh:=sh_api_Process) hqs (fun _=>rfl) (by omega) (by omega) (by omega) fun w' hw'=> ?_
 have hw':qs[p]?=some w':=hw'
 rw [hw1] at hw';cases hw'
 exact hk
theorem RM.getCfg (k:RM h b x y c s) {p:Nat} {u:PProc} (hu:c.procs[p]?=some u):(∃q,ProcAt h q u∧(∀ {K:Int→Prop},K u.part→(InB x.Procs.base x.Procs.len (p:Int)∧LdW none (shInt .i64) h (Addr.add (sat x.Procs.base 2 (p:Int)) 0) K))∧
  ∀ {cnd:Option Bool} {K:Sl→Prop},K q.Code→(InB x.Procs.base x.Procs.len (p:Int)∧LdW cnd shSl h (Addr.add (sat x.Procs.base 2 (p:Int)) 1) K)):=by
 obtain ⟨ps,hps,hall⟩:=k.cfg.procs
 obtain ⟨q,hq1,hq2⟩:=hall.get' hu
 have hql:=(List.getElem?_eq_some_iff.1 hq1).1
 refine ⟨q,hq2,fun {K} hk=> ?_,fun {cnd} {K} hk=> ?_⟩
 ·refine Rw.fld hps (fun _=>rfl) (by omega) (sh:=shInt .i64) (fun q=>q.Part) (fun _=>rfl) (by omega) (by omega) fun q' hq'=> ?_
  have hq':ps[p]?=some q':=hq'
  rw [hq1] at hq';cases hq'
  rw [hq2.1];exact hk
 ·obtain ⟨hin,v,hv,rfl⟩:=Rw.fld hps (fun _=>rfl) (by omega) (sh:=shSl) (fun q=>q.Code) (j:=1) (fun _=>rfl) (i:=(p:Int)) (by omega) (by omega) (K:=fun v=>v=q.Code) fun q' hq'=>by
   have hq':ps[p]?=some q':=hq'
   rw [hq1] at hq';cases hq';rfl
  refine ⟨hin,q.Code,?_,hk⟩
  cases cnd with
  | none=>exact hv
  | some _=>exact fun _=>hv
theorem refFlows15_ok' (k:RM h b x y c s) {i:Nat} {j:Int} (hi:i<c.labels.length) (hj:0≤j∧j<c.labels.length) {Q:Bool→Hp→Prop} (hq:Q (fl c.labels (i:Int) j) h):zcd Tryz.prog (some ⟨b,0,none⟩) (i:Int) j Q h:=by
 have e:j=((j.toNat:Nat):Int):=by omega
 rw [e] at hq ⊢
 exact zpo1 k hi (by omega) hq
theorem refOf_ok' (k:RM h b x y c s) {p i:Int} (hi:0≤i) {Q:Bool→Hp→Prop} (hq:∀r,(r=true↔ofR c s p i.toNat)→Q r h):zcq Tryz.prog (some ⟨b,0,none⟩) p i Q h:=by
 have e:i=((i.toNat:Nat):Int):=by omega
 have:=zpn1 k (p:=p) (i:=i.toNat) hq
 rw [←e] at this
 exact this
set_option maxRecDepth 20000 in
theorem zyt1 (k:RM h b x y c s) (hS:StLe s) {p:Nat} {z:PProcess} {u:PProc} (hz:s.procs[p]?=some z) (hu:c.procs[p]?=some u) {Q:Bool→Hp→Prop}
  (hq:∀r,(r=true↔ProcR c s (fun (i:Nat) q=>fl c.labels (i:Int) q=true) z u)→Q r h):zcu Tryz.prog (some ⟨b,0,none⟩) (p:Int) Q h:=by
 unfold zcu
 obtain ⟨w,hw,hgetw⟩:=k.getProc hz (Z:=fun _=>True)
 obtain ⟨q,hq2,hgpart,hgcode⟩:=k.getCfg hu
 obtain ⟨is,his,hmap⟩:=hq2.2
 have hcl:q.Code.len=u.code.length:=by rw [←hmap,List.length_map];exact his.1
 obtain ⟨ls,hls,hallL⟩:=hw.lanes
 have hll:w.Lanes.len=ls.length:=hls.1
 have hll2:=hallL.len
 obtain ⟨⟨hA1,hA8⟩, -, -, -,⟨hP1,hP32⟩,hcb⟩:=zoa k.ok
 obtain ⟨⟨hp0,hp1⟩,hc256, -⟩:=hcb u (List.mem_of_getElem? hu)
 have hLP:LdIs h (Addr.add (Addr.add ⟨b,0,none⟩ 0) 6) (zad (shSl.enc x.Procs)):=k.box.ldIs (off:=6) (n:=1) rfl
 have hLS:LdIs h (Addr.add (Addr.add ⟨b,0,none⟩ 7) 2) (zad (shSl.enc y.Procs)):=k.box.ldIs (off:=9) (n:=1) rfl
 have hzl:=k.sizes.2.2 z (List.mem_of_getElem? hz)
 have hzs:=hS.lanes z (List.mem_of_getElem? hz)
 have ht:=k.sizes.1.1
 have htk:y.Tick=s.tick:=k.st.tick
 refine zab (ld_at (sh:=shSl) y.Procs hLS (hgetw ?_))
 refine zab (ld_at (sh:=shSl) x.Procs hLP (hgpart ?_))
 rw [hw.state,hw.pc,hw.cursor,hw.timer,hw.wake,hw.fired,hll,hll2]
 refine letW (letW (zab (ldC (sh:=shSl) x.Procs hLP ?_)))
 refine ⟨fun _=>(hgcode (cnd:=none) (K:=fun _=>True) trivial).1,(hgcode (cnd:=some _) ?_).2⟩
 rw [hcl]
 refine letW (letW fun y4 hy4=> ?_)
 have a4:y4=true↔¬((0≤z.state∧z.state≤6)∧(0≤z.pc∧z.pc≤u.code.length)∧(0≤z.cursor∧z.cursor<z.lanes.length)):=by
  subst hy4
  simp only [Bool.or_eq_true,decide_eq_true_eq]
  omega
 dsimp only
 by_cases hy:y4=true
 ·rw [if_pos hy]
  exact hq _ ⟨fun e=>(by cases e),fun hh=>absurd ⟨hh.1,hh.2.1,hh.2.2.1⟩ (a4.1 hy)⟩
 rw [if_neg hy]
 obtain ⟨c1,c2,c3⟩:=Classical.not_not.1 fun hn=>hy (a4.2 hn)
 refine zab (ld_at (sh:=shInt .i64) y.Tick (k.box.ldIs (off:=7) (n:=1) rfl) ?_)
 rw [htk,zal (by omega) (by omega)]
 refine zcv (zob fun r0 hr0=> ?_)
 refine effI (fun r=>r=true↔0≤z.wake∧z.wake≤s.tick+1099511627776) false (fun _ hk=>zcv (zob hk)) fun r1 hr1=>fun y5 hy5=>fun y6 hy6=> ?_
 have a5:y5=true↔¬((0≤z.timer∧z.timer≤s.tick+1099511627776)∧(0≤z.wake∧z.wake≤s.tick+1099511627776)):=by subst hy5;exact zne1 (y:= !r0) (by rw [←hr0];simp) hr1
 have a6:y6=true↔¬(((0≤z.timer∧z.timer≤s.tick+1099511627776)∧(0≤z.wake∧z.wake≤s.tick+1099511627776))∧(0<z.wake↔z.state=4)):=by
  subst hy6
  refine zik1 a5 fun _=> ?_
  by_cases g1:0<z.wake<;>by_cases g2:z.state=4<;>simp [g1,g2]
 dsimp only
 by_cases hy':y6=true
 ·rw [if_pos hy']
  exact hq _ ⟨fun e=>(by cases e),fun hh=>absurd ⟨⟨hh.2.2.2.1,hh.2.2.2.2.1⟩,hh.2.2.2.2.2.1⟩ (a6.1 hy')⟩
 rw [if_neg hy']
 obtain ⟨⟨c4,c5⟩,c6⟩:=Classical.not_not.1 fun hn=>hy' (a6.2 hn)
 refine letW fun y8 hy8=> ?_
 have a8:y8=true↔¬(5≤z.state→z.timer=0∧z.fired=false):=by
  subst hy8
  by_cases g:5≤z.state<;>by_cases g2:z.timer=0<;>cases z.fired<;>simp [g,g2]
 dsimp only
 by_cases hy8':y8=true
 ·rw [if_pos hy8']
  exact hq _ ⟨fun e=>(by cases e),fun hh=>absurd hh.2.2.2.2.2.2.1 (a8.1 hy8')⟩
 rw [if_neg hy8']
 have c7:=Classical.not_not.1 fun hn=>hy8' (a8.2 hn)
 have hP:ProcR c s (fun (i:Nat) q=>fl c.labels (i:Int) q=true) z u↔∀(k:Nat) l,z.lanes[k]?=some l→LaneR c s z u k l:=
  ⟨fun hh=>hh.2.2.2.2.2.2.2,fun hh=>⟨c1,c2,c3,c4,c5,c6,c7,hh⟩⟩
 have hpt:u.part=((u.part.toNat:Nat):Int):=by omega
 refine forI (n:=ls.length) (by omega) (by omega) (fun j h'=>h'=h∧∀(k:Nat) l,k<j→z.lanes[k]?=some l→LaneR c s z u k l) ⟨rfl,fun _ _ hj=>by omega⟩ ?_ ?_
 ·rintro j hj h2 ⟨rfl,hI⟩ K hK
  rw [show z.lanes.length=w.Lanes.len by omega]
  refine Rs.get (sh:=sh_api_Lane) hls (fun _=>rfl) (by omega) (by omega) (by omega) fun L hL=> ?_
  have hL:ls[j]?=some L:=hL
  obtain ⟨l,hl,hlL⟩:=hallL.get hL
  have hvl:L.Values.len=l.values.length:=hlL.values.1
  obtain ⟨ws,hws,hwmap⟩:=hlL.waiters
  have hwl:L.Waiters.len=ws.length:=hws.1
  have hwl2:l.waiters.length=ws.length:=by rw [←hwmap,List.length_map]
  have hwf:=(hzs.2 l (List.mem_of_getElem? hl)).waiters
  have hno:¬LaneR c s z u j l→Q false h2:=fun hn=>hq _ ⟨fun e=>(by cases e),fun hh=>absurd (hP.1 hh j l hl) hn⟩
  rw [hlL.taken,hlL.dropped,hvl,hwl]
  refine zcr (zqp fun r2 hr2=> ?_)
  refine effI (fun r=>r=true↔Cnt l.dropped) false (fun _ hk=>zcr (zqp hk)) fun r3 hr3=>fun y9 hy9=> ?_
  have a9:y9=true↔¬(Cnt l.taken∧Cnt l.dropped):=by subst hy9;exact zne1 (y:= !r2) (by rw [←hr2];simp) hr3
  dsimp only
  by_cases g1:y9=true
  ·rw [if_pos g1]
   exact hno fun hh=>a9.1 g1 ⟨hh.1,hh.2.1⟩
  rw [if_neg g1]
  obtain ⟨d1,d2⟩:=Classical.not_not.1 fun hn=>g1 (a9.2 hn)
  refine zab (ld_at (sh:=shSl) x.Labels (k.box.ldIs (off:=0) (n:=1) rfl) ?_)
  have hlab:x.Labels.len=c.labels.length:=k.cfg.labels.1
  rw [hlab]
  refine effI (fun r=>r=fl c.labels (j:Int) u.part) false (fun e hk=> ?_) fun r4 hr4=>fun y10 hy10=>letW (letW fun y13 hy13=> ?_)
  ·have:=of_decide_eq_true e
   exact zmq (refFlows15_ok' k (by omega) (by omega) (hk _ rfl))
  have a13:y13=true↔¬(j<c.labels.length→Used l→fl c.labels (j:Int) u.part=true):=by
   subst hy13 hy10
   have hU:((decide (((l.values.length:Nat):Int)>0) || decide (l.taken>0)) || decide (l.dropped>0))=true↔Used l:=by
    unfold Used
    simp only [Bool.or_eq_true,decide_eq_true_eq,ne_eq,←List.length_eq_zero_iff]
    omega
   rw [Bool.and_eq_true,Bool.and_eq_true,hU,decide_eq_true_eq]
   constructor
   ·rintro ⟨⟨g1,g2⟩,g3⟩ hh
    have e:=hr4 (decide_eq_true g1)
    rw [e,hh (by omega) g3] at g2
    cases g2
   ·intro hn
    by_cases g1:j<c.labels.length
    ·by_cases g2:Used l
     ·refine ⟨⟨by omega,?_⟩,g2⟩
      rw [hr4 (decide_eq_true (by omega))]
      cases hf:fl c.labels (j:Int) u.part with
      | true=>exact absurd (fun _ _=>hf) hn
      | false=>rfl
     ·exact absurd (fun _ e=>absurd e g2) hn
    ·exact absurd (fun e=>absurd e g1) hn
  dsimp only
  by_cases g2:y13=true
  ·rw [if_pos g2]
   exact hno fun hh=>a13.1 g2 hh.2.2.1
  rw [if_neg g2]
  have d3:=Classical.not_not.1 fun hn=>g2 (a13.2 hn)
  refine fun y14 hy14=>zab (ldC (sh:=shInt .i64) x.Lane (k.box.ldIs (off:=3) (n:=1) rfl) (letW fun y16 hy16=> ?_))
  have a16:y16=true↔¬(l.waiters≠ []→(j:Int)=u.part∧z.state<5∧c.lane≤l.values.length):=by
   subst hy16 hy14
   rw [k.cfg.lane]
   simp only [Bool.or_eq_true,Bool.and_eq_true,decide_eq_true_eq,bne_iff_ne,ne_eq,←List.length_eq_zero_iff]
   omega
  dsimp only
  by_cases g3:y16=true
  ·rw [if_pos g3]
   exact hno fun hh=>a16.1 g3 hh.2.2.2.1
  rw [if_neg g3]
  have d4:=Classical.not_not.1 fun hn=>g3 (a16.2 hn)
  refine forI (n:=ws.length) (by omega) (by omega) (fun m h'=>h'=h2∧∀(k:Nat) w,k<m→l.waiters[k]?=some w→(∀i:Nat,(i:Int)=u.part→ofR c s w.proc i)∧stP s w.proc fun z=>z.state=2) ⟨rfl,fun _ _ hj=>by omega⟩ ?_ ?_
  ·rintro m hm h3 ⟨rfl,hI2⟩ K2 hK2
   rw [show ws.length=L.Waiters.len from hwl.symm]
   refine Rs.get (sh:=sh_api_Waiter) hws (fun _=>rfl) (by omega) (by omega) (by omega) fun W hW=> ?_
   have hW:ws[m]?=some W:=hW
   have hWp:l.waiters[m]?=some (zcn W):=by rw [←hwmap,List.getElem?_map,hW];rfl
   refine zdi (refOf_ok' k hp0 fun r5 hr5=> ?_)
   refine zab (ldC (sh:=shSl) y.Procs hLS ?_)
   obtain ⟨pp,hpp,hallp⟩:=k.st.procs
   have hppl:y.Procs.len=pp.length:=hpp.1
   have hpl2:=hallp.len
   have hpl3:=k.sizes.1.2.2
   refine Rw.fldC hpp (fun _=>rfl) (by omega) (sh:=shInt .i64) (fun q=>q.State) (fun _=>rfl) (0:Int) (fun e=> ?_) fun (v:Int) hv=>fun y17 hy17=> ?_
   ·obtain ⟨⟨h0,u',hu',_⟩,_⟩:=hr5.1 (by simpa using e)
    have:=(List.getElem?_eq_some_iff.1 hu').1
    omega
   have a17:y17=true↔¬(ofR c s W.Proc u.part.toNat∧stP s W.Proc fun z=>z.state=2):=by
    subst hy17
    refine zik1 (y:= !r5) (by rw [←hr5];simp) fun hA=> ?_
    have:=hr5.2 hA
    rw [this] at hv
    obtain ⟨u',hu',rfl⟩:=hv rfl
    obtain ⟨v',hv',hv2⟩:=hallp.get hu'
    rw [bne_iff_ne,hv2.state]
    refine not_congr ⟨fun e=>⟨_,hv',e⟩,fun ⟨z1,hz1,hz2⟩=> ?_⟩
    rw [hv'] at hz1;cases hz1
    exact hz2
   dsimp only
   by_cases g4:y17=true
   ·rw [if_pos g4]
    refine hno fun hh=>a17.1 g4 ?_
    have:=hh.2.2.2.2 _ (List.mem_of_getElem? hWp)
    exact ⟨this.1 _ (by omega),this.2⟩
   ·rw [if_neg g4]
    obtain ⟨f1,f2⟩:=Classical.not_not.1 fun hn=>g4 (a17.2 hn)
    refine hK2 _ ⟨rfl,fun k' w' hk' hw'=> ?_⟩
    by_cases hkm:k'<m
    ·exact hI2 k' w' hkm hw'
    ·have:k'=m:=by omega
     subst this
     rw [hWp] at hw';cases hw'
     refine ⟨fun i hi=> ?_,f2⟩
     have:i=u.part.toNat:=by omega
     rw [this];exact f1
  ·rintro h3 ⟨rfl,hI2⟩
   refine hK _ ⟨rfl,fun m l' hm hl'=> ?_⟩
   by_cases hmj:m<j
   ·exact hI m l' hmj hl'
   ·have:m=j:=by omega
    subst this
    rw [hl] at hl';cases hl'
    refine ⟨d1,d2,d3,d4,fun w hw=> ?_⟩
    obtain ⟨k',hk'⟩:=List.getElem?_of_mem hw
    exact hI2 k' w (by have:=(List.getElem?_eq_some_iff.1 hk').1;omega) hk'
 ·rintro h2 ⟨rfl,hI⟩
  exact hq _ ⟨fun _=>hP.2 fun k l hl=>hI k l (by have:=(List.getElem?_eq_some_iff.1 hl).1;omega) hl,fun _=>rfl⟩
end
end Lf

namespace Lf
open Go Go.Proofs
section
variable {h:Hp}
theorem zhi2 {n:PIns} {len locks:Int} (hw:(zbv n len locks).1=0) (ho:n.op=24):(0≤n.b∧n.b<8)∧(0≤n.c∧n.c<8):=by
 have hf:zba n.op=(true,true,true,false):=by rw [ho];decide
 unfold zbv at hw
 rw [hf] at hw
 have hr:∀m,regP true m=0→0≤m∧m<8:=fun m e=>by
  unfold regP at e
  rw [if_neg (by simp)] at e
  by_cases h1:m<0∨8≤m
  ·rw [if_pos h1] at e;cases e
  ·omega
 have h24:¬(n.op<0∨34≤n.op):=by omega
 rw [if_neg h24] at hw
 by_cases e1:regP true n.a=0
 ·rw [if_neg (by simpa using e1)] at hw
  by_cases e2:regP true n.b=0
  ·rw [if_neg (by simpa using e2)] at hw
   by_cases e3:regP true n.c=0
   ·exact ⟨hr _ e2,hr _ e3⟩
   ·rw [if_pos (by simpa using e3)] at hw
    exact absurd hw e3
  ·rw [if_pos (by simpa using e2)] at hw
   exact absurd hw e2
 ·rw [if_pos (by simpa using e1)] at hw
  exact absurd hw e1
theorem zfc2 {core:S_firebreakref13_Core} {code:Sl} {is:List S_api_Ins} {locks:Int} (his:InsS h code is) (hl:is.length≤256) (hk:locks≤8) (hv:∀n∈is.map insOf,(zbv n is.length locks).1=0) {Q:S_api_Ins→Bool→Hp→Prop}
  (hq:∀r1 r2,(r2=true∧(if 0≤core.PC then (is.map insOf)[core.PC.toNat]? else none)=some (insOf r1))∨(r2=false∧(if 0≤core.PC then (is.map insOf)[core.PC.toNat]? else none)=none)→Q r1 r2 h):
  zlf Tryz.prog core code Q h:=by
 unfold zlf
 have hlen:code.len=is.length:=his.1
 refine letW ?_
 by_cases hp:0≤core.PC∧core.PC<(is.length:Int)
 ·rw [if_neg (by simp;omega)]
  refine Rs.get (sh:=sh_api_Ins) his (fun _=>rfl) (by omega) hp.1 hp.2 fun i hi=> ?_
  refine zks (zla1 ⟨⟨trivial,trivial⟩,?_⟩)
  have hm:insOf i∈is.map insOf:=List.mem_map.2 ⟨i,List.mem_of_getElem? hi,rfl⟩
  have:=zkv1 hk (hv _ hm)
  rw [hlen,this]
  refine hq _ _ (.inl ⟨rfl,?_⟩)
  rw [if_pos hp.1,List.getElem?_map,hi];rfl
 ·rw [if_pos (by simp;omega)]
  refine hq _ _ (.inr ⟨rfl,?_⟩)
  by_cases h0:0≤core.PC
  ·rw [if_pos h0]
   exact List.getElem?_eq_none (by rw [List.length_map];omega)
  ·rw [if_neg h0]
theorem zci2 {α:Type} (f:α→Nat) (M:Nat):∀l:List α,(∀x∈l,f x≤M)→(l.map f).sum≤l.length*M
 | [],_=>by simp
 | a::l,hl=>by
  have h1:=hl a (List.mem_cons_self ..)
  have h2:=zci2 f M l fun x hx=>hl x (List.mem_cons_of_mem _ hx)
  rw [List.map_cons,List.sum_cons,List.length_cons,Nat.succ_mul]
  omega
variable {b:Nat} {x:S_api_Config} {y:S_api_State} {c:PCfg} {s:PState}
theorem RM.getQueues (k:RM h b x y c s) {i:Nat} {z:PPart} (hz:s.parts[i]?=some z):∃w,PartAt h w z∧∀ {K:Sl→Prop},K w.Queues→(InB y.Parts.base y.Parts.len (i:Int)∧LdW none shSl h (Addr.add (sat y.Parts.base 6 (i:Int)) 5) K):=by
 obtain ⟨qs,hqs,hallq⟩:=k.st.parts
 obtain ⟨w,hw1,hw2⟩:=hallq.get' hz
 have hwl:=(List.getElem?_eq_some_iff.1 hw1).1
 refine ⟨w,hw2,fun {K} hk=> ?_⟩
 refine Rw.fld hqs (fun _=>rfl) (by omega) (sh:=shSl) (fun q=>q.Queues) (fun _=>rfl) (by omega) (by omega) fun q hq=> ?_
 have hq:qs[i]?=some q:=hq
 rw [hw1] at hq;cases hq
 exact hk
theorem RM.getLanes (k:RM h b x y c s) {p:Nat} {z:PProcess} (hz:s.procs[p]?=some z):∃w,ProcessAt h w z∧∀ {K:Sl→Prop},K w.Lanes→(InB y.Procs.base y.Procs.len (p:Int)∧LdW none shSl h (Addr.add (sat y.Procs.base 15 (p:Int)) 14) K):=by
 obtain ⟨qs,hqs,hallq⟩:=k.st.procs
 obtain ⟨w,hw1,hw2⟩:=hallq.get' hz
 have hwl:=(List.getElem?_eq_some_iff.1 hw1).1
 refine ⟨w,hw2,fun {K} hk=> ?_⟩
 refine Rw.fld hqs (fun _=>rfl) (by omega) (sh:=shSl) (fun q=>q.Lanes) (fun _=>rfl) (by omega) (by omega) fun q hq=> ?_
 have hq:qs[p]?=some q:=hq
 rw [hw1] at hq;cases hq
 exact hk
def OkQ (u:PProc) (z:PProcess) (k:Nat):Prop:=∃n,insP u z.pc=some n∧n.op=29∧n.imm=(k:Int)
def OkS (u:PProc) (z:PProcess) (r:Nat) (v:Int):Prop:=∃n,insP u z.pc=some n∧n.op=24∧z.regs[n.b.toNat]?=some (r:Int)∧z.regs[n.c.toNat]?=some v
theorem zyu1 (p:Int) (q:List Int) {n:Nat} {v:Int} (hv:q[n]?=some v):(q.take (n+1)).countP (fun z=>decide (z=p))=(q.take n).countP (fun z=>decide (z=p))+if v=p then 1 else 0:=by
 rw [List.take_add_one,hv,List.countP_append]
 by_cases e:v=p<;>simp [e]
theorem zuw1 (p:Int) (q:List PWaiter) {n:Nat} {v:PWaiter} (hv:q[n]?=some v):(q.take (n+1)).countP (fun z=>decide (z.proc=p))=(q.take n).countP (fun z=>decide (z.proc=p))+if v.proc=p then 1 else 0:=by
 rw [List.take_add_one,hv,List.countP_append]
 by_cases e:v.proc=p<;>simp [e]
theorem zxe1 {α:Type} (f:α→Nat) (l:List α) {n:Nat} {v:α} (hv:l[n]?=some v):((l.take (n+1)).map f).sum=((l.take n).map f).sum+f v:=by
 rw [List.take_add_one,hv];simp
set_option maxRecDepth 20000 in
theorem zux1 (k:RM h b x y c s) (hS:StLe s) {p i:Nat} {z:PProcess} {u:PProc} (hz:s.procs[p]?=some z) (hu:c.procs[p]?=some u) (hi:u.part=(i:Int)) {Q:Bool→Hp→Prop}
  (hq:∀r,(r=true↔WaitR s p i z u)→Q r h):zde Tryz.prog (some ⟨b,0,none⟩) (p:Int) Q h:=by
 unfold zde
 obtain ⟨w,hw,hgetw⟩:=k.getProc hz (Z:=fun _=>True)
 obtain ⟨q,hq2,hgpart,hgcode⟩:=k.getCfg hu
 obtain ⟨is,his,hmap⟩:=hq2.2
 obtain ⟨ls,hls,hallL⟩:=hw.lanes
 have hll:w.Lanes.len=ls.length:=hls.1
 have hll2:=hallL.len
 obtain ⟨⟨hA1,hA8⟩,⟨hK0,hK8⟩, -, -,⟨hP1,hP32⟩,hcb⟩:=zoa k.ok
 obtain ⟨⟨hp0,hp1⟩,hc256,hcode⟩:=hcb u (List.mem_of_getElem? hu)
 have hLP:LdIs h (Addr.add (Addr.add ⟨b,0,none⟩ 0) 6) (zad (shSl.enc x.Procs)):=k.box.ldIs (off:=6) (n:=1) rfl
 have hLS:LdIs h (Addr.add (Addr.add ⟨b,0,none⟩ 7) 2) (zad (shSl.enc y.Procs)):=k.box.ldIs (off:=9) (n:=1) rfl
 have hLA:LdIs h (Addr.add (Addr.add ⟨b,0,none⟩ 7) 1) (zad (shSl.enc y.Parts)):=k.box.ldIs (off:=8) (n:=1) rfl
 have hzl:=k.sizes.2.2 z (List.mem_of_getElem? hz)
 have hzs:=hS.lanes z (List.mem_of_getElem? hz)
 obtain ⟨-,sz1,sz2⟩:=k.sizes.1
 have hpl:=(List.getElem?_eq_some_iff.1 hz).1
 obtain ⟨z0,hz0⟩:∃z0,s.parts[i]?=some z0:=⟨_,List.getElem?_eq_getElem (by omega)⟩
 obtain ⟨hzo,hzq, -⟩:=k.sizes.2.1 z0 (List.mem_of_getElem? hz0)
 obtain ⟨-, -, -,hqfew⟩:=hS.log z0 (List.mem_of_getElem? hz0)
 obtain ⟨wp,hwp,hgq⟩:=k.getQueues hz0
 obtain ⟨us,hus,hallu⟩:=hwp.queues
 have hul:wp.Queues.len=us.length:=hus.1
 have hul2:=hallu.len
 rw [hi] at hgpart
 refine zab (ld_at (sh:=shSl) y.Procs hLS (hgetw ?_))
 refine zab (ld_at (sh:=shSl) x.Procs hLP (hgpart ?_))
 refine zab (ld_at (sh:=shSl) x.Procs hLP (hgcode ?_))
 refine zng ?_
 unfold zgv
 refine zab (ld_at (sh:=shSl) y.Procs hLS (hgetw ?_))
 refine ⟨⟨hLP,?_,trivial⟩,?_⟩
 ·obtain ⟨_,v,hv,rfl⟩:=hgcode (cnd:=none) (K:=fun v=>v=q.Code) rfl
  exact hv
 refine zza (c:=⟨w.PC,w.Regs_0,w.Regs_1,w.Regs_2,w.Regs_3,w.Regs_4,w.Regs_5,w.Regs_6,w.Regs_7⟩) (code:=q.Code) (zfc2 (locks:=c.locks) his (by rw [←hmap,List.length_map] at hc256;exact hc256) hK8 ?_ fun r1 r2 hr=> ?_)
 ·rw [hmap]
  have e:is.length=u.code.length:=by rw [←hmap,List.length_map]
  rw [e];exact hcode
 have hr:(r2=true∧insP u z.pc=some (insOf r1))∨(r2=false∧insP u z.pc=none):=by
  unfold insP
  rw [←hmap,←hw.pc];exact hr
 clear hcode
 have hreg:r1.Op=24→r2=true→(0≤r1.B∧r1.B<8)∧(0≤r1.C∧r1.C<8):=fun ho e=>by
  rcases hr with ⟨_,hn⟩ | ⟨e2,_⟩
  ·have hm:insOf r1∈u.code:=by
    unfold insP at hn
    by_cases h1:0≤z.pc
    ·rw [if_pos h1] at hn;exact List.mem_of_getElem? hn
    ·rw [if_neg h1] at hn;cases hn
   exact zhi2 ((hcb u (List.mem_of_getElem? hu)).2.2 _ hm) ho
  ·rw [e] at e2;cases e2
 refine loopA (n:=us.length) (by omega) (fun j (v:Int) h'=>h'=h∧v=(((z0.queues.take j).map fun q=>q.countP (fun z=>decide (z=(p:Int)))).sum:Nat)∧∀(j':Nat) q,j'<j→z0.queues[j']?=some q→(p:Int)∈q→OkQ u z j') ⟨rfl,by simp,fun _ _ hj=>by omega⟩ ?_
 rintro j hj v1 h1 ⟨rfl,rfl,hI⟩ K hK
 refine zab (ld_at (sh:=shSl) y.Parts hLA (hgq ?_))
 by_cases hlt:j<us.length
 ·rw [if_pos (decide_eq_true (by omega))]
  have huj:=List.getElem?_eq_getElem hlt
  generalize us[j]=ql at huj
  obtain ⟨qq,hqq1,hqq2⟩:=hallu.get huj
  have hgu:∀ {K':Sl→Prop},K' ql→(InB wp.Queues.base wp.Queues.len (j:Int)∧LdW none shSl h1 (sat wp.Queues.base 1 (j:Int)) K'):=fun {K'} hk=>by
   refine Rs.get (sh:=shSl) hus (fun _=>rfl) (by omega) (by omega) (by omega) fun v hv=> ?_
   have hv:us[j]?=some v:=hv
   rw [huj] at hv;cases hv
   exact hk
  have hqlen:ql.len=qq.length:=hqq2.1
  have hqf:=hqfew qq (List.mem_of_getElem? hqq1)
  have hsum:=zci2 (fun q:List Int=>q.countP (fun z=>decide (z=(p:Int)))) 140737488355328 (z0.queues.take j) fun q hq=>Nat.le_trans List.countP_le_length (hqfew q (List.mem_of_mem_take hq))
  have hjl:(z0.queues.take j).length≤8:=by rw [List.length_take];omega
  have hjm:=Nat.mul_le_mul_right 140737488355328 hjl
  have hsn:=zxe1 (fun q:List Int=>q.countP (fun z=>decide (z=(p:Int)))) z0.queues hqq1
  generalize ((z0.queues.take j).map fun q=>q.countP (fun z=>decide (z=(p:Int)))).sum=S at hsum hsn
  refine loopA (n:=qq.length) (by omega) (fun n (v:Int) h'=>h'=h1∧v=((S+(qq.take n).countP (fun z=>decide (z=(p:Int))):Nat):Int)∧((p:Int)∈qq.take n→OkQ u z j)) ⟨rfl,by simp,fun e=>by simp at e⟩ ?_
  rintro n hn v2 h2 ⟨rfl,rfl,hI2⟩ K2 hK2
  refine zab (ld_at (sh:=shSl) y.Parts hLA (hgq (hgu ?_)))
  by_cases hlt2:n<qq.length
  ·rw [if_pos (decide_eq_true (by omega))]
   have hqn:=List.getElem?_eq_getElem hlt2
   generalize qq[n]=v at hqn
   have hcs:=zyu1 (p:Int) qq hqn
   have hcle:(qq.take n).countP (fun z=>decide (z=(p:Int)))≤n:=Nat.le_trans List.countP_le_length (by rw [List.length_take];omega)
   refine JoinW1.intro (fun (v2:Int) h'=>h'=h2∧v2=((S+(qq.take (n+1)).countP (fun z=>decide (z=(p:Int))):Nat):Int)∧((p:Int)∈qq.take (n+1)→OkQ u z j)) ?_ ?_
   ·refine zab (ld_at (sh:=shSl) y.Parts hLA (hgq (hgu ?_)))
    refine Rs.get (sh:=shInt .i64) hqq2 (fun _=>rfl) (by omega) (by omega) (by omega) fun (v':Int) hv'=> ?_
    have hv':qq[n]?=some v':=hv'
    rw [hqn] at hv';cases hv'
    by_cases hvp:v=(p:Int)
    ·rw [if_neg (by simp [hvp])]
     refine letW fun y1 hy1=> ?_
     have a1:y1=true↔¬OkQ u z j:=by
      subst hy1
      unfold OkQ
      rcases hr with ⟨e2,hn⟩ | ⟨e2,hn⟩
      ·rw [e2,hn]
       simp only [Bool.not_true,Bool.false_or,Bool.or_eq_true,bne_iff_ne,ne_eq]
       constructor
       ·rintro g ⟨m,e,g1,g2⟩
        cases e
        rcases g with g | g
        ·exact g g1
        ·exact g g2
       ·intro hn
        refine Classical.byContradiction fun hcc=>hn ⟨_,rfl,?_,?_⟩
        ·exact Classical.byContradiction fun hc=>hcc (.inl hc)
        ·exact Classical.byContradiction fun hc=>hcc (.inr hc)
      ·rw [e2,hn]
       simp
     dsimp only
     by_cases hy1':y1=true
     ·rw [if_pos hy1']
      refine hq _ ⟨fun e=>(by cases e),fun hh=>absurd (hh.1 z0 hz0 j qq hqq1 ?_) (a1.1 hy1')⟩
      rw [←hvp];exact List.mem_of_getElem? hqn
     ·rw [if_neg hy1']
      rw [if_pos hvp] at hcs
      rw [zal (by omega) (by omega)]
      exact ⟨rfl,by omega,fun _=>Classical.not_not.1 fun hn=>hy1' (a1.2 hn)⟩
    ·rw [if_pos (by simpa using hvp)]
     rw [if_neg hvp] at hcs
     refine ⟨rfl,by omega,fun e=>hI2 ?_⟩
     rw [List.take_add_one,hqn] at e
     rcases List.mem_append.1 e with e | e
     ·exact e
     ·have:(p:Int)=v:=by simpa using e
      exact absurd this.symm hvp
   ·rintro v3 h3 ⟨rfl,rfl,hI3⟩
    exact hK2 hlt2 _ _ ⟨rfl,rfl,hI3⟩
  ·rw [if_neg (fun e=>hlt2 (by have:=of_decide_eq_true e;omega))]
   rw [List.take_of_length_le (by omega)] at hI2 ⊢
   refine hK hlt _ _ ⟨rfl,by rw [hsn],fun j' q' hj' hq' hm=> ?_⟩
   by_cases hjj:j'<j
   ·exact hI j' q' hjj hq' hm
   ·have:j'=j:=by omega
    subst this
    rw [hqq1] at hq';cases hq'
    exact hI2 hm
 rw [if_neg (fun e=>hlt (by have:=of_decide_eq_true e;omega))]
 rw [List.take_of_length_le (by omega)]
 have hQ1:∀(j':Nat) q,z0.queues[j']?=some q→(p:Int)∈q→OkQ u z j':=fun j' q hq hm=>hI j' q (by have:=(List.getElem?_eq_some_iff.1 hq).1;omega) hq hm
 rw [show ((z0.queues.map fun q=>q.countP (fun z=>decide (z=(p:Int)))).sum)=cntQ (p:Int) z0 from rfl]
 generalize hcq:cntQ (p:Int) z0=CQ
 have hfewL:∀z∈s.procs,((z.lanes[i]?).map (cntW (p:Int))).getD 0≤140737488355328:=fun z hz=>by
  cases e:z.lanes[i]? with
  | none=>exact Nat.zero_le _
  | some l=>exact Nat.le_trans List.countP_le_length (((hS.lanes z hz).2 l (List.mem_of_getElem? e)).waiters)
 have hylen:y.Procs.len=s.procs.length:=by
  obtain ⟨qs,hqs,hallq⟩:=k.st.procs
  rw [←hallq.len];exact hqs.1
 refine loopA (n:=s.procs.length) (by omega) (fun j (v:Int) h'=>h'=h1∧v=(((s.procs.take j).map fun z=>((z.lanes[i]?).map (cntW (p:Int))).getD 0).sum:Nat)∧
  ∀(r:Nat) z',r<j→s.procs[r]?=some z'→∀l,z'.lanes[i]?=some l→∀w∈l.waiters,w.proc=(p:Int)→OkS u z r w.value) ⟨rfl,by simp,fun _ _ hj=>by omega⟩ ?_
 rintro r hr1 v3 h3 ⟨rfl,rfl,hL⟩ K3 hK3
 refine zab (ld_at (sh:=shSl) y.Procs hLS ?_)
 by_cases hlt3:r<s.procs.length
 ·rw [if_pos (decide_eq_true (by omega))]
  have hzr:=List.getElem?_eq_getElem hlt3
  generalize s.procs[r]=zr at hzr
  obtain ⟨wr,hwr,hgl⟩:=k.getLanes hzr
  have hzrl:=k.sizes.2.2 zr (List.mem_of_getElem? hzr)
  have hzrs:=hS.lanes zr (List.mem_of_getElem? hzr)
  obtain ⟨lr,hlr,hallr⟩:=hwr.lanes
  have hlrl:wr.Lanes.len=lr.length:=hlr.1
  have hlrl2:=hallr.len
  refine zab (ld_at (sh:=shSl) y.Procs hLS (hgl ?_))
  refine Rw.fld hlr (fun _=>rfl) (by omega) (sh:=shSl) (fun q=>q.Waiters) (fun _=>rfl) (by omega) (by omega) fun L hL0=> ?_
  have hL0:lr[i]?=some L:=hL0
  obtain ⟨l,hl,hlL⟩:=hallr.get hL0
  obtain ⟨ws,hws,hwmap⟩:=hlL.waiters
  have hwl:L.Waiters.len=ws.length:=hws.1
  have hwl2:l.waiters.length=ws.length:=by rw [←hwmap,List.length_map]
  have hwf:=(hzrs.2 l (List.mem_of_getElem? hl)).waiters
  have hsum:=zci2 (fun z:PProcess=>((z.lanes[i]?).map (cntW (p:Int))).getD 0) 140737488355328 (s.procs.take r) fun z hz=>hfewL z (List.mem_of_mem_take hz)
  have hjl:(s.procs.take r).length≤32:=by rw [List.length_take];omega
  have hjm:=Nat.mul_le_mul_right 140737488355328 hjl
  have hsn:=zxe1 (fun z:PProcess=>((z.lanes[i]?).map (cntW (p:Int))).getD 0) s.procs hzr
  rw [hl] at hsn
  have hsn:((s.procs.take (r+1)).map fun z:PProcess=>((z.lanes[i]?).map (cntW (p:Int))).getD 0).sum=((s.procs.take r).map fun z:PProcess=>((z.lanes[i]?).map (cntW (p:Int))).getD 0).sum+l.waiters.countP (fun z=>decide (z.proc=(p:Int))):=hsn
  generalize ((s.procs.take r).map fun z:PProcess=>((z.lanes[i]?).map (cntW (p:Int))).getD 0).sum=S at hsum hsn
  refine loopA (n:=ws.length) (by omega) (fun n (v:Int) h'=>h'=h3∧v=((S+(l.waiters.take n).countP (fun z=>decide (z.proc=(p:Int))):Nat):Int)∧∀w∈l.waiters.take n,w.proc=(p:Int)→OkS u z r w.value) ⟨rfl,by simp,fun w e=>by simp at e⟩ ?_
  rintro n hn v2 h2 ⟨rfl,rfl,hI2⟩ K2 hK2
  by_cases hlt2:n<ws.length
  ·rw [if_pos (decide_eq_true (by omega))]
   have hwn:=List.getElem?_eq_getElem hlt2
   generalize ws[n]=W at hwn
   have hWp:l.waiters[n]?=some (zcn W):=by rw [←hwmap,List.getElem?_map,hwn];rfl
   have hcs:=zuw1 (p:Int) l.waiters hWp
   have hcle:(l.waiters.take n).countP (fun z=>decide (z.proc=(p:Int)))≤n:=Nat.le_trans List.countP_le_length (by rw [List.length_take];omega)
   refine JoinW1.intro (fun (v2:Int) h'=>h'=h2∧v2=((S+(l.waiters.take (n+1)).countP (fun z=>decide (z.proc=(p:Int))):Nat):Int)∧∀w∈l.waiters.take (n+1),w.proc=(p:Int)→OkS u z r w.value) ?_ ?_
   ·refine Rw.fld hws (fun _=>rfl) (by omega) (sh:=shInt .i64) (fun q=>q.Proc) (fun _=>rfl) (by omega) (by omega) fun W' hW'=> ?_
    have hW':ws[n]?=some W':=hW'
    rw [hwn] at hW';cases hW'
    by_cases hvp:W.Proc=(p:Int)
    ·rw [if_neg (by simp [hvp])]
     have hcs:_=_+1:=hcs.trans (by rw [if_pos (show (zcn W).proc=(p:Int) from hvp)])
     have hval:∀ {cnd:Bool} {K':Int→Prop},K' W.Value_→((cnd=true→(InB L.Waiters.base L.Waiters.len (n:Int)))∧LdW (some cnd) (shInt .i64) h2 (Addr.add (sat L.Waiters.base 2 (n:Int)) 1) K'):=fun {cnd} {K'} hk=>by
      obtain ⟨hin,v,hv,rfl⟩:=Rw.fld hws (fun _=>rfl) (by omega) (sh:=shInt .i64) (fun q=>q.Value_) (j:=1) (fun _=>rfl) (i:=(n:Int)) (by omega) (by omega) (K:=fun (v:Int)=>v=W.Value_) fun q hq=>by
       have hq:ws[n]?=some q:=hq
       rw [hwn] at hq;cases hq;rfl
      exact ⟨fun _=>hin,_,fun _=>hv,hk⟩
     have hend:∀y2:Bool,(y2=true↔¬OkS u z r W.Value_)→(if y2=true then Q false h2 else (fun (v2:Int) h'=>h'=h2∧v2=((S+(l.waiters.take (n+1)).countP (fun z=>decide (z.proc=(p:Int))):Nat):Int)∧∀w∈l.waiters.take (n+1),w.proc=(p:Int)→OkS u z r w.value) (IntKind.wrap .i64 (((S+(l.waiters.take n).countP (fun z=>decide (z.proc=(p:Int))):Nat):Int)+1)) h2):=fun y2 a2=>by
      by_cases hy2':y2=true
      ·rw [if_pos hy2']
       exact hq _ ⟨fun e=>(by cases e),fun hh=>absurd (hh.2.1 r zr hzr l hl (zcn W) (List.mem_of_getElem? hWp) hvp) (a2.1 hy2')⟩
      ·rw [if_neg hy2',zal (by omega) (by omega)]
       refine ⟨rfl,by omega,fun w hw1 hw2=> ?_⟩
       rw [List.take_add_one,hWp] at hw1
       rcases List.mem_append.1 hw1 with hw1 | hw1
       ·exact hI2 w hw1 hw2
       ·have:w=zcn W:=by simpa using hw1
        rw [this]
        exact Classical.not_not.1 fun hn=>hy2' (a2.2 hn)
     refine fun y0 hy0=> ?_
     by_cases h24:r2=true∧r1.Op=24
     ·obtain ⟨⟨b0,b8⟩,c0,c8⟩:=hreg h24.2 h24.1
      have hn:insP u z.pc=some (insOf r1):=by
       rcases hr with ⟨_,hn⟩ | ⟨e2,_⟩
       ·exact hn
       ·rw [h24.1] at e2;cases e2
      have hregs:=hw.regs
      have hgB:z.regs[r1.B.toNat]?=some (z.regs.getD r1.B.toNat 0):=by
       have:r1.B.toNat<z.regs.length:=by rw [←hregs];simp;omega
       rw [List.getElem?_eq_getElem this,List.getD_eq_getElem?_getD,List.getElem?_eq_getElem this];rfl
      have hgC:z.regs[r1.C.toNat]?=some (z.regs.getD r1.C.toNat 0):=by
       have:r1.C.toNat<z.regs.length:=by rw [←hregs];simp;omega
       rw [List.getElem?_eq_getElem this,List.getD_eq_getElem?_getD,List.getElem?_eq_getElem this];rfl
      refine ⟨fun _=>⟨b0,b8⟩,z.regs.getD r1.B.toNat 0,fun _=> ?_,fun y1 hy1=>⟨fun _=>⟨c0,c8⟩,z.regs.getD r1.C.toNat 0,fun _=> ?_,hval fun y2 hy2=>hend y2 ?_⟩⟩
      ·rw [←hregs];exact zgr1 w (by omega)
      ·rw [←hregs];exact zgr1 w (by omega)
      ·subst hy2 hy1 hy0
       rw [h24.1,h24.2]
       unfold OkS
       rw [hn]
       simp only [Bool.not_true,Bool.false_or,bne_self_eq_false,Bool.or_eq_true,bne_iff_ne,ne_eq]
       constructor
       ·rintro g ⟨m,e,g1,g2,g3⟩
        cases e
        have g2:z.regs[r1.B.toNat]?=some (r:Int):=g2
        have g3:z.regs[r1.C.toNat]?=some W.Value_:=g3
        rw [hgB] at g2;rw [hgC] at g3
        rcases g with g | g
        ·exact g (Option.some.inj g2)
        ·exact g (Option.some.inj g3)
       ·intro hcn
        refine Classical.byContradiction fun hcc=>hcn ⟨_,rfl,h24.2,?_,?_⟩
        ·show z.regs[r1.B.toNat]?=_
         rw [hgB]
         congr 1
         exact Classical.byContradiction fun hc=>hcc (.inl hc)
        ·show z.regs[r1.C.toNat]?=_
         rw [hgC]
         congr 1
         exact Classical.byContradiction fun hc=>hcc (.inr hc)
     ·have e0:y0=true:=by
       subst hy0
       cases e:r2 with
       | false=>rfl
       | true=>simp only [Bool.not_true,Bool.false_or,bne_iff_ne];exact fun hc=>h24 ⟨e,hc⟩
      subst e0
      refine ⟨fun e=>(by cases e),0,fun e=>(by cases e),letW ⟨fun e=>(by cases e),0,fun e=>(by cases e),hval (letW (hend _ ?_))⟩⟩
      simp only [Bool.true_or,true_iff]
      rintro ⟨m,e,g1, -⟩
      rcases hr with ⟨e2,hn⟩ | ⟨e2,hn⟩
      ·rw [hn] at e;cases e
       exact h24 ⟨e2,g1⟩
      ·rw [hn] at e;cases e
    ·rw [if_pos (by simpa using hvp)]
     have hcs:_=_+0:=hcs.trans (by rw [if_neg (show ¬(zcn W).proc=(p:Int) from hvp)])
     refine ⟨rfl,by omega,fun w hw1 hw2=> ?_⟩
     rw [List.take_add_one,hWp] at hw1
     rcases List.mem_append.1 hw1 with hw1 | hw1
     ·exact hI2 w hw1 hw2
     ·have:w=zcn W:=by simpa using hw1
      rw [this] at hw2
      exact absurd hw2 hvp
   ·rintro v3 h3 ⟨rfl,rfl,hI3⟩
    exact hK2 hlt2 _ _ ⟨rfl,rfl,hI3⟩
  ·rw [if_neg (fun e=>hlt2 (by have:=of_decide_eq_true e;omega))]
   rw [List.take_of_length_le (by omega)] at hI2 ⊢
   refine hK3 hlt3 _ _ ⟨rfl,by rw [hsn],fun r' z' hr' hz' l' hl' w hw1 hw2=> ?_⟩
   by_cases hrr:r'<r
   ·exact hL r' z' hrr hz' l' hl' w hw1 hw2
   ·have:r'=r:=by omega
    subst this
    rw [hzr] at hz';cases hz'
    rw [hl] at hl';cases hl'
    exact hI2 w hw1 hw2
 rw [if_neg (fun e=>hlt3 (by have:=of_decide_eq_true e;omega))]
 rw [List.take_of_length_le (by omega)]
 have hQ2:∀(r:Nat) z',s.procs[r]?=some z'→∀l,z'.lanes[i]?=some l→∀w∈l.waiters,w.proc=(p:Int)→OkS u z r w.value:=fun r z' hz'=>hL r z' (by have:=(List.getElem?_eq_some_iff.1 hz').1;omega) hz'
 generalize hcl:(s.procs.map fun z=>((z.lanes[i]?).map (cntW (p:Int))).getD 0).sum=CL
 have hP:WaitR s p i z u↔(CQ=if z.state=3 then 1 else 0)∧(CL=if z.state=2 then 1 else 0)∧(z.state=1→(∃n,insP u z.pc=some n∧n.op=25)∧(∀l∈z.lanes,l.values=[])∧z.fired=false)∧(z.state=4→∃n,insP u z.pc=some n∧n.op=28):=by
  unfold WaitR
  rw [hcl]
  constructor
  ·rintro ⟨-, -,g3,g4⟩
   exact ⟨by rw [←hcq];exact g3 z0 hz0,g4⟩
  ·rintro ⟨g3,g4⟩
   refine ⟨fun z' hz'=> ?_,hQ2,fun z' hz'=> ?_,g4⟩
   ·rw [hz0] at hz';cases hz';exact hQ1
   ·rw [hz0] at hz';cases hz';rw [hcq];exact g3
 rw [hll,hw.state,hw.fired]
 refine LoopW2.intro (fun some_ j h'=>h'=h3∧0≤j∧j≤(ls.length:Int)∧(some_=true↔∃(i:Nat) (l:PLane),(i:Int)<j∧z.lanes[i]?=some l∧l.values≠ [])) (fun _ j _=>(ls.length-j).toNat)
  ⟨rfl,by omega,by omega,⟨fun e=>(by cases e),fun ⟨i,l,hi,_⟩=>by omega⟩⟩ ?_
 rintro some_ j h4 ⟨rfl,j0,jle,hS2⟩
 by_cases hlt4:j<(ls.length:Int)
 ·rw [if_pos (decide_eq_true (by omega)),←hll]
  refine Rw.fldC hls (fun _=>rfl) (by omega) (sh:=shSl) (fun q=>q.Values) (fun _=>rfl) (⟨none,0,0⟩:Sl) (fun _=>⟨j0,by omega⟩) fun V hV=>letW ?_
  rw [zal (by omega) (by omega)]
  refine ⟨⟨rfl,by omega,by omega,?_⟩,by omega⟩
  have hjl:j.toNat<z.lanes.length:=by omega
  have hlj:=List.getElem?_eq_getElem hjl
  generalize z.lanes[j.toNat]=l at hlj
  constructor
  ·intro e
   cases hs:some_ with
   | true=>
    obtain ⟨i',l',g1,g2⟩:=hS2.1 hs
    exact ⟨i',l',by omega,g2⟩
   | false=>
    rw [hs] at e hV
    obtain ⟨L,hL1,rfl⟩:=hV rfl
    obtain ⟨l',hl',hlL⟩:=hallL.get hL1
    rw [hlj] at hl';cases hl'
    have hvl:L.Values.len=l.values.length:=hlL.values.1
    refine ⟨j.toNat,l,by omega,hlj,fun e2=> ?_⟩
    rw [e2] at hvl
    rw [Bool.false_or,hvl] at e
    simp at e
  ·rintro ⟨i',l',g1,g2,g3⟩
   by_cases hij:(i':Int)<j
   ·rw [hS2.2 ⟨i',l',hij,g2,g3⟩];rfl
   ·have:i'=j.toNat:=by omega
    subst this
    rw [hlj] at g2;cases g2
    cases hs:some_ with
    | true=>rfl
    | false=>
     rw [hs] at hV
     obtain ⟨L,hL1,rfl⟩:=hV rfl
     obtain ⟨l',hl',hlL⟩:=hallL.get hL1
     rw [hlj] at hl';cases hl'
     have hvl:L.Values.len=l.values.length:=hlL.values.1
     have:=List.length_pos_iff.2 g3
     rw [Bool.false_or,decide_eq_true_eq,hvl]
     omega
 rw [if_neg (fun e=>hlt4 (by have:=of_decide_eq_true e;omega))]
 have hsome:some_=false↔∀l∈z.lanes,l.values=[]:=by
  rw [←Bool.not_eq_true,hS2]
  constructor
  ·intro hn l hl
   obtain ⟨i,hi⟩:=List.getElem?_of_mem hl
   exact Classical.byContradiction fun hne=>hn ⟨i,l,by have:=(List.getElem?_eq_some_iff.1 hi).1;omega,hi,hne⟩
  ·rintro hh ⟨i,l,_,hl,hne⟩
   exact hne (hh l (List.mem_of_getElem? hl))
 have hop:∀m:Int,(r2&&(r1.Op==m))=true↔∃n,insP u z.pc=some n∧n.op=m:=fun m=>by
  rcases hr with ⟨e2,hn⟩ | ⟨e2,hn⟩
  ·rw [e2,hn,Bool.true_and,beq_iff_eq]
   exact ⟨fun e=>⟨_,rfl,e⟩,fun ⟨n,e,g⟩=>by cases e;exact g⟩
  ·rw [e2,hn,Bool.false_and]
   exact ⟨fun e=>(by cases e),fun ⟨n,e,_⟩=>by cases e⟩
 have hcnt:∀(A B:Nat),(((CQ:Int)==(A:Int))&&((CL:Int)==(B:Int)))=true↔CQ=A∧CL=B:=fun A B=>by
  rw [Bool.and_eq_true,beq_iff_eq,beq_iff_eq];omega
 by_cases s3:z.state=3
 ·rw [if_pos (by simpa using s3)]
  refine letW (hq _ ?_)
  rw [hP,s3]
  refine (hcnt 1 0).trans ?_
  simp
 rw [if_neg (by simpa using s3)]
 by_cases s2:z.state=2
 ·rw [if_pos (by simpa using s2)]
  refine letW (hq _ ?_)
  rw [hP,s2]
  refine (hcnt 0 1).trans ?_
  simp
 rw [if_neg (by simpa using s2)]
 by_cases s1:z.state=1
 ·rw [if_pos (by simpa using s1)]
  refine letW (letW (letW (letW (letW (hq _ ?_)))))
  rw [hP,s1,Bool.and_assoc (_&&_) r2,Bool.and_eq_true,Bool.and_eq_true,Bool.and_eq_true,hop,Bool.not_eq_true',Bool.not_eq_true',hsome]
  rw [show ((CQ:Int)==(0:Int)&&(CL:Int)==(0:Int))=true↔CQ=0∧CL=0 from hcnt 0 0]
  simp only [show ¬(1:Int)=3 by decide,show ¬(1:Int)=2 by decide,show ¬(1:Int)=4 by decide,if_false,false_implies,and_true,true_implies]
  constructor
  ·rintro ⟨⟨⟨⟨g1,g2⟩,g3⟩,g4⟩,g5⟩;exact ⟨g1,g2,g3,g4,g5⟩
  ·rintro ⟨g1,g2,g3,g4,g5⟩;exact ⟨⟨⟨⟨g1,g2⟩,g3⟩,g4⟩,g5⟩
 rw [if_neg (by simpa using s1)]
 by_cases s4:z.state=4
 ·rw [if_pos (by simpa using s4)]
  refine letW (letW (letW (hq _ ?_)))
  rw [hP,s4,Bool.and_assoc (_&&_) r2,Bool.and_eq_true,hop]
  rw [show ((CQ:Int)==(0:Int)&&(CL:Int)==(0:Int))=true↔CQ=0∧CL=0 from hcnt 0 0]
  simp only [show ¬(4:Int)=3 by decide,show ¬(4:Int)=2 by decide,show ¬(4:Int)=1 by decide,if_false,false_implies,true_and,true_implies,and_assoc]
 rw [if_neg (by simpa using s4)]
 refine letW (hq _ ?_)
 rw [hP,if_neg s3,if_neg s2]
 refine (hcnt 0 0).trans ⟨fun g=>⟨g.1,g.2,fun e=>absurd e s1,fun e=>absurd e s4⟩,fun g=>⟨g.1,g.2.1⟩⟩
end
end Lf

namespace Lf
open Go Go.Proofs
theorem MayIs.uniq {c:PCfg} {s:PState} {e e':Int} (h:MayIs c s e) (h':MayIs c s e'):e=e':=by
 rcases h with ⟨h1,rfl⟩ | ⟨h1,h2⟩
 ·rcases h' with ⟨_,rfl⟩ | ⟨h3,_⟩
  ·rfl
  ·exact absurd h3 h1
 ·rcases h' with ⟨h3,_⟩ | ⟨_,h4⟩
  ·exact absurd h1 h3
  ·rcases h2 with ⟨rfl,a⟩ | ⟨rfl,a⟩<;>rcases h4 with ⟨rfl,b⟩ | ⟨rfl,b⟩
   ·rfl
   ·exact absurd a b
   ·exact absurd b a
   ·rfl
theorem SnapErr.uniq {bs:List UInt8} {e e':Int} {p p':Nat} (h:SnapErr bs e p) (h':SnapErr bs e' p'):e=e'∧p=p':=by
 rcases h with h | ⟨c,s,h,rfl,hm⟩<;>rcases h' with h' | ⟨c',s',h',rfl,hm'⟩
 ·rw [h] at h';cases h';exact ⟨rfl,rfl⟩
 ·rw [h] at h';cases h'
 ·rw [h] at h';cases h'
 ·rw [h] at h';cases h'
  exact ⟨hm.uniq hm',rfl⟩
theorem SnapErr.not_ok {bs:List UInt8} {e:Int} {p:Nat} {c:PCfg} {s:PState} (h:SnapErr bs e p) (he:e≠0) (hw:zdz snapD bs=.ok (c,s)) (h0:(cfgE c).1=0) (hM:MayP c s):False:=by
 rcases h with h | ⟨c',s',h,rfl,hm⟩
 ·rw [h] at hw;cases hw
 ·rw [h] at hw;cases hw
  exact he (hm.uniq (.inr ⟨h0,.inl ⟨rfl,hM⟩⟩))
theorem Few.le {c:PCfg} (h:CfgV c):CfgLe c:=by
 obtain ⟨_,h2⟩:=(zxl (zoc c)).2 h
 obtain ⟨e1,_,e3,_,_,_,e7,_,_,e10,e11⟩:=cfgP_zero.1 h2
 have e1':=(mayP_zero.1 e1).2.1
 exact ⟨by omega,by omega,by omega,fun p hp=>by have:=((zfr ⟨e7.1,e7.2⟩).1 (e11 p hp).2).1;omega⟩
theorem StateV.le {c:PCfg} {s:PState} (few:Few c) (h:StateV c s):StLe s:=by
 obtain ⟨_,a1,a2,_⟩:=h
 obtain ⟨b1,b2⟩:=zew a1
 obtain ⟨b3,b4⟩:=zew a2
 have f1:=few.nl
 have f2:=few.np
 have f3:=few.locks
 refine ⟨by omega,by omega,fun x hx=> ?_,fun x hx=> ?_⟩
 ·obtain ⟨_,⟨⟨_,h2⟩,_⟩,_,_,_,⟨xs,g1,g2,g3⟩,g4⟩:=b2 x hx
  rw [List.nil_append] at g1
  have g3:=(zfq (V:=LockV (c.procs.length:Int)) xs []).1 g3
  have hq:x.queues.length=xs.length:=by rw [←g1,List.length_zip,g4];simp
  have h2:((x.log.length:Nat):Int)<65536:=h2
  refine ⟨by omega,by omega,by omega,fun q hq=> ?_⟩
  obtain ⟨z,hz1,hz2⟩:=zli1 g4 q hq
  rw [g1] at hz1
  obtain ⟨_,⟨⟨_,h3⟩,_⟩,_⟩:=g3 z hz1
  have h3:((z.2.length:Nat):Int)<256:=h3
  rw [←hz2]
  omega
 ·obtain ⟨_,_,_,_,_,_,_,g1,_⟩:=b4 x hx
  obtain ⟨g2,g3⟩:=zew g1
  refine ⟨by omega,fun l hl=> ?_⟩
  obtain ⟨⟨⟨_,h1⟩,_⟩,_,⟨⟨_,h2⟩,_⟩,_⟩:=g3 l hl
  have h1:((l.values.length:Nat):Int)<256:=h1
  have h2:((l.waiters.length:Nat):Int)<256:=h2
  exact ⟨by omega,by omega⟩
def zgy1 :PCfg:=⟨[0],[0],1,1,0,0,[⟨0,[]⟩]⟩
def zaw1 :PLane:=⟨[],[],0,0⟩
def zgz1 :PState:=⟨0,[⟨0,[],0,0,[],[]⟩],[⟨0,0,[0,0,0,0,0,0,0,0],0,0,false,0,[zaw1,zaw1]⟩]⟩
theorem zhz1 {α:Type} {x y:α} {i:Nat} (h: [x][i]?=some y):i=0∧y=x:=by
 cases i with
 | zero=>simp at h;exact ⟨rfl,h.symm⟩
 | succ i=>simp at h
theorem zsb1 :(cfgE zgy1).1=0:=by decide
theorem zsc1 :MayP zgy1 zgz1:=by
 refine ⟨⟨⟨by decide,by decide⟩,rfl,rfl⟩,fun i x hx=> ?_,fun p x y hx hy=> ?_,?_,?_,?_⟩
 ·obtain ⟨rfl,rfl⟩:=zhz1 hx
  exact ⟨⟨by decide,by decide,by decide⟩,trivial,⟨by decide,by decide⟩,⟨by decide,by decide⟩,by decide,by decide,by decide,fun p hp=>by cases hp⟩
 ·obtain ⟨rfl,rfl⟩:=zhz1 hx
  obtain ⟨_,rfl⟩:=zhz1 hy
  refine ⟨by decide,by decide,rfl,by decide,by decide,by decide,by decide,by decide,fun i l hl=> ?_,fun e=>absurd e (by decide),fun e=>absurd e (by decide),fun e=>absurd e (by decide),fun e=>absurd e (by decide)⟩
  have:l=zaw1:=by
   have:=List.mem_of_getElem? hl
   simpa using this
  subst this
  refine ⟨by decide,⟨by decide,by decide⟩,⟨by decide,by decide⟩,fun hu=> ?_⟩
  rcases hu with hu | hu | hu
  ·exact absurd rfl hu
  ·exact absurd hu (by decide)
  ·exact absurd hu (by decide)
 ·intro i x hx k q hq
  obtain ⟨rfl,rfl⟩:=zhz1 hx
  simp at hq
 ·intro r x y hx hy i l hl w hw
  obtain ⟨rfl,rfl⟩:=zhz1 hx
  have:l=zaw1:=by
   have:=List.mem_of_getElem? hl
   simpa using this
  subst this
  cases hw
 ·intro p x hx
  obtain ⟨rfl,rfl⟩:=zhz1 hx
  decide
theorem zsd1 :(snapB zgy1 zgz1).length=147:=by decide+kernel
theorem znh1 :zdz snapD (snapB zgy1 zgz1)=.ok (zgy1,zgz1):=by kernel_rfl
theorem zse1 :zdz snapD [70,66,83,78,2]=.error (4,4):=by kernel_rfl
end Lf

namespace Lf
open Go Go.Proofs
theorem newB3 {h:Hp} {cs:List Value} {K:Addr→Hp→Prop} (hk:∀b h',h≤h'→Blk h' b cs→K ⟨b,0,none⟩ h'):NewW cs K h:=fun b t hn=>hk b _ (zny hn) ⟨t,zid⟩
theorem Blk.rows {α:Type} {h:Hp} {b:Nat} {cs:List Value} {sz:Nat} {enc:α→List Value} (k:Blk h b cs) (xs:List α) {n m:Nat} (hc:cs=xs.flatMap enc) (hn:n=xs.length) (henc:∀x,(enc x).length=sz):Rw h sz enc ⟨some ⟨b,0,none⟩,n,m⟩ xs:=by
 refine ⟨hn,by rw [zbw henc],.inr ⟨_,rfl,?_⟩⟩
 refine k.ldIs (off:=0) (n:=cs.length) ?_
 rw [List.drop_zero,List.take_length,hc]
theorem zbm1 {α:Type} {h:Hp} {sz:Nat} {enc:α→List Value}:Rw h sz enc ⟨none,0,0⟩ ([]:List α):=⟨rfl,by simp,.inl (by simp)⟩
def lane0 :S_api_Lane:=⟨⟨none,0,0⟩,⟨none,0,0⟩,0,0⟩
theorem zxf1 {h:Hp}:LaneAt h lane0 zaw1:=⟨zbm1,⟨[],zbm1,rfl⟩,rfl,rfl⟩
theorem zfd2 {P:Program} {h:Hp} {Q:S_api_Config→S_api_State→Hp→Prop} (hq:∀x y h',h≤h'→CfgAt h' x zgy1→StateAt h' y zgz1→Q x y h'):zhi P Q h:=by
 unfold zhi
 refine newB3 fun a h1 l1 k1=>newB3 fun a1 h2 l2 k2=>newB3 fun a2 h3 l3 k3=>newB3 fun a3 h4 l4 k4=>newB3 fun a4 h5 l5 k5=>newB3 fun a5 h6 l6 k6=> ?_
 have q1:=(((((k1.le l2).le l3).le l4).le l5).le l6)
 have q2:=((((k2.le l3).le l4).le l5).le l6)
 have q3:=(((k3.le l4).le l5).le l6)
 have q4:=((k4.le l5).le l6)
 have q5:=(k5.le l6)
 have hle:h≤h6:=Hp.le_trans l1 (Hp.le_trans l2 (Hp.le_trans l3 (Hp.le_trans l4 (Hp.le_trans l5 l6))))
 refine hq _ _ h6 hle ⟨?_,?_,rfl,rfl,rfl,rfl,[⟨0,⟨none,0,0⟩⟩],?_,⟨rfl,[],zbm1,rfl⟩,trivial⟩ ⟨rfl,⟨[⟨0,⟨none,0,0⟩,0,0,⟨none,0,0⟩,⟨none,0,0⟩⟩],?_,⟨rfl,⟨[],zbm1,rfl⟩,rfl,rfl,zbm1,[],zbm1,trivial⟩,trivial⟩,
  [⟨0,0,0,0,0,0,0,0,0,0,0,0,false,0,⟨some ⟨a4,0,none⟩,2,2⟩⟩],?_,⟨rfl,rfl,rfl,rfl,rfl,rfl,rfl,[lane0,lane0],?_,zxf1,zxf1,trivial⟩,trivial⟩
 ·exact q1.rows [(0:Int)] rfl rfl fun _=>rfl
 ·exact q2.rows [(0:Int)] rfl rfl fun _=>rfl
 ·exact q3.rows [(⟨0,⟨none,0,0⟩⟩:S_api_Proc)] rfl rfl fun _=>rfl
 ·exact q4.rows [(⟨0,⟨none,0,0⟩,0,0,⟨none,0,0⟩,⟨none,0,0⟩⟩:S_api_Part)] rfl rfl fun _=>rfl
 ·exact k6.rows [(⟨0,0,0,0,0,0,0,0,0,0,0,0,false,0,⟨some ⟨a4,0,none⟩,2,2⟩⟩:S_api_Process)] rfl rfl fun _=>rfl
 ·exact q5.rows [lane0,lane0] rfl rfl fun _=>rfl
set_option maxRecDepth 20000 in
theorem zyv1 {h:Hp} {Q:Bool→Hp→Prop} (hq:∀h',h≤h'→Q true h'):zhg Tryz.prog Q h:=by
 unfold zhg
 refine ztk (zfd2 fun x y h1 l1 cx sy=> ?_)
 have hev:(evs zgz1).length≤1152921504606846976:=by decide+kernel
 refine zkw (zqq cx sy (fun l hl=>by simp [zgy1] at hl;subst hl;exact ⟨by decide,by decide⟩) (fun _ _ _ _=>hev) (fun _ _=>by rw [zsd1];decide) (fun e h2 _ he hm=> ?_) fun _ _ out h2 l2 o2=> ?_)
 ·exact absurd (hm.uniq (.inr ⟨zsb1,.inl ⟨rfl,zsc1⟩⟩)) he
 have ob:=o2.rw zcb
 have hol:out.len=147:=by rw [ob.1,zsd1]
 refine zkx (zxo ob o2.2.1 (fun e p h3 _ he hs=>(hs.not_ok he znh1 zsb1 zsc1).elim) fun u v c s B1 B2 h3 l3 hw _ _ oc os _ _=> ?_)
 rw [znh1] at hw
 cases hw
 refine zuf1 [70,66,83,78,2] rfl rfl fun am h5 l5 bm=> ?_
 refine zkx (zxo bm (by simp) (fun e p h6 l6 he hs=> ?_) fun u' v' c s B1 B2 h6 _ hw _ _ _ _ _ _=>by rw [zse1] at hw;cases hw)
 obtain ⟨rfl,rfl⟩:=hs.uniq (.inl zse1)
 refine letW (letW (letW ?_))
 rw [hol]
 have l13:=Hp.le_trans l2 (Hp.le_trans l3 (Hp.le_trans l5 l6))
 have l36:=Hp.le_trans l5 l6
 have hcl:CfgLe zgy1:=⟨by decide,by decide,by decide,fun p hp=>by simp [zgy1] at hp;subst hp;decide⟩
 have hsl:StLe zgz1:=by
  refine ⟨by decide,by decide,fun x hx=> ?_,fun x hx=> ?_⟩
  ·simp [zgz1] at hx;subst hx
   exact ⟨by decide,by decide,by decide,fun q hq=>by cases hq⟩
  ·simp [zgz1] at hx;subst hx
   refine ⟨by decide,fun l hl=> ?_⟩
   simp at hl;subst hl
   exact ⟨by decide,by decide⟩
 refine ⟨fun _=>zdl (zgx1 (cx.mono l13) (oc.rd.mono l36) hcl ?_),fun e=>(by simp at e)⟩
 refine letW ⟨fun _=>zcj (zav1 (sy.mono l13) (os.rd.mono l36) hsl ?_),fun e=>(by simp at e)⟩
 refine letW (letW (letW ?_))
 exact hq h6 (Hp.le_trans l1 l13)
end Lf

namespace Lf
open Go Go.ChangeShapes Go.WideShapes Go.ChangeAt Go.RowKit
def whole (W:World):Hp:=fun b=>W.heap[b]?
theorem zcj2 (W:World):Sub (whole W) W:=fun _ _ e=>e
theorem zlj1 (W:World) (a:Addr):hcell (whole W) a=W.cell? a:=rfl
theorem zpv1 {W W':World} {h':Hp} (hle:whole W≤h') (st:Step (whole W) h' W W'):Below W.heap.size W W':=
  ⟨st.os,st.tape,st.output,st.size,fun k hk=>by
    cases e:W.heap[k]? with
    | some o=>exact st.sub _ _ (hle _ _ e)
    | none=>simp at e;omega⟩
theorem zha1 {H:Type} {enc:TypeId×Value→H} {P:Program} (hl:laidOutB P=true) {W W':World} {sp:Nat→Bool} (hb:Below W.heap.size W W'):∀ {ts:List TypeId} {vs:List Value} {ds:List (DataW H)} {ps:List MemPlace},
    (∀t∈ts,P.readableRec t=true∧t<P.types.size)→DataW.TrodAll enc P W 0 (fun _=>true) true ts vs ds ps→(∀x∈ps,x.block<W.heap.size)→(∀x∈ps,sp x.block=true)→DataW.TrodAll enc P W' 0 sp true ts vs ds ps
  | [],_,_,_,_,h,_,_=>by
    obtain ⟨rfl,rfl,rfl⟩:=trodAll_nil h
    exact trodAll_mk0
  | t::ts,_,_,_,hr,h,hlt,hs=>by
    obtain ⟨v,vs,d,ds,p,q,rfl,rfl,rfl,h1,h2⟩:=trodAll_cons h
    obtain ⟨hr1,hr2⟩:=hr t (List.mem_cons_self ..)
    exact ⟨p,q,WideElems.Trod_stays hl hr1 hr2 h1 (fun x hx=>hb.same (hlt x (List.mem_append_left _ hx))) (fun x hx=>hs x (List.mem_append_left _ hx)),
      zha1 hl hb (fun t ht=>hr t (List.mem_cons_of_mem _ ht)) h2 (fun x hx=>hlt x (List.mem_append_right _ hx)) (fun x hx=>hs x (List.mem_append_right _ hx)),rfl⟩
theorem zfe2 {H:Type} {enc:TypeId×Value→H} {P:Program} {f:Func} {s:ChangeSpec} {W W':World} {h':Hp} {args:Array Value} {ds gs:List (DataW H)} {before:List MemPlace} {t:TypeId} (hl:laidOutB P=true)
    (hrd:∀t∈f.params.toList,P.readableRec t=true∧t<P.types.size) (hvars:s.vars=[]) (hres:f.resultTypes= #[t]) (ht:P.underlying t=some .bool)
    (hfn:gs=[]→s.fn H (ds++gs)={results:=[.lit (.bool true)],args:=ds}) (hW:DataW.Whole enc P f.params.toList s.vars false W args.toList ds gs before) (hle:whole W≤h') (st:Step (whole W) h' W W'):
    s.post enc P f false true false false W args (.bool true) W':=by
  have hb:=zpv1 hle st
  have hlt:∀p∈before,p.block<W.heap.size:=fun p hp=>hW.lt p hp
  have hW':=hW
  obtain ⟨p,q,hA,hV,rfl,hfz,hnd⟩:=hW'
  rw [hvars] at hV
  obtain ⟨rfl,rfl⟩:=trodVars_none hV
  rw [List.append_nil] at hlt
  have hsp:=hfn rfl
  refine ⟨ds,[],p++ [],[],p,[],hW,?_,?_,?_,Below.frame hb _,fun e=>(by cases e)⟩
  · rw [hsp,hres]
    exact trodAll_mk1 (shut_bool ht true)
  · rw [hsp]
    exact zha1 hl hb hrd hA hlt (fun x hx=>by simpa using hlt x hx)
  · rw [hsp,hvars]
    exact rfl
theorem law_liftedS {H:Type} {enc:TypeId×Value→H} {C:Checked} {os:Os} {f:FuncId} {fn:Func} {s:ChangeSpec} {t:TypeId} (own:ownKnob C.prog.godebug=none) (started:os.Started) (noInit:C.prog.inits.idxOf? f=none) (hf:C.prog.funcs[f]?=some fn)
    (witness:∃(w:World) (tape:Tape) (i:Input),w.os=os∧(w.forCall tape i).Shaped C.prog∧i.vars=[]∧Input.okWide C.prog (w.forCall tape i) .any w.heap.size f i∧
      s.pre6 enc C.prog fn [] false (w.forCall tape i).memory i.args∧({}:Assume).holds C.prog (lone (Frame.enter C.prog f i.args .normal) [] (w.forCall tape i)))
    (hl:laidOutB C.prog=true) (hrd:∀t∈fn.params.toList,C.prog.readableRec t=true∧t<C.prog.types.size) (hvars:s.vars=[]) (hres:fn.resultTypes= #[t]) (ht:C.prog.underlying t=some .bool)
    (walk:∀(W:World) (base:Nat) (args:Array Value) (ds:List (DataW H)) (p:List MemPlace),(∀(j:Nat) t v,fn.params[j]?=some t→args[j]?=some v→Value.okWide C.prog W .any base t v)→DataW.TrodAll enc C.prog W 0 (fun _=>true) true fn.params.toList args.toList ds p→
      (DataW.weightsEach C.prog fn.params.toList ds).all (· ≤reachBytes)=true→
      s.fn H ds={results:=[.lit (.bool true)],args:=ds}∧CallT C.prog f args.toList zag (fun r h'=>r=true∧whole W≤h') (whole W)):
    ReturnsInHanded {} C os f .any (s.pre6 enc C.prog fn [] false) (s.post enc C.prog fn false true false false):=by
  refine returnsInHanded_of_change_sized own started noInit hf witness ?_
  intro W base args ds gs before hval hW hcnd hsz _
  have hW':=hW
  obtain ⟨p,q,hA,hV,_,hfz,hnd⟩:=hW'
  have hgs:gs=[]:=by
    rw [hvars] at hV
    exact (trodVars_none hV).1
  subst hgs
  have hvt:s.plain.varTypes C.prog=[]:=by
    unfold ChangeSpec.plain DataSpec.varTypes
    rw [hvars]
    rfl
  rw [hvt,List.append_nil,List.append_nil] at hsz
  obtain ⟨hsp,hc⟩:=walk W base args ds p hval hA hsz
  have hc':=hc W (zcj2 W)
  simp only [Array.toArray_toList] at hc'
  refine hc'.mono fun e W' hh=> ?_
  obtain ⟨v,h',rfl,⟨x,rfl,rfl,hle⟩,hst⟩:=hh
  exact ⟨_,rfl,zfe2 hl hrd hvars hres ht (fun e=>by rw [e,List.append_nil];exact hsp) hW hle hst⟩
theorem zim2 {x:Int} (h:(Lit.int .u64 x).wf=true):0≤x∧x<18446744073709551616:=by
  simp [Lit.wf,IntKind.min,IntKind.max,IntKind.signed,IntKind.bits] at h
  omega
theorem zfx2 {x:Int} (h:(Lit.int .i64 x).wf=true): -9223372036854775808≤x∧x≤9223372036854775807:=by
  simp [Lit.wf,IntKind.min,IntKind.max,IntKind.signed,IntKind.bits] at h
  omega
end Lf

namespace Lf
open Go Go.Proofs Go.ChangeShapes Go.WideShapes Go.ChangeAt Go.RowKit
section
variable {H:Type} {enc:TypeId×Value→H} {P:Program} {W:World}
def Lits (enc:TypeId×Value→H) (P:Program) (W:World) (t:TypeId) (R:List Value→Prop):Prop:=
 ∀fuel cs y,DataW.trod enc P W 0 (fun _=>true) true fuel t cs=some y→(DataW.weights P t y.1).all (· ≤reachBytes)=true→R cs
theorem zjg1 {t:TypeId} {k:IntKind} (ht:P.underlying t=some (.int k)):Lits enc P W t fun cs=>∃n,cs=[.int k n]∧(Lit.int k n).wf=true:=fun fuel cs y h _=>by
 obtain ⟨n,h1,_,h2⟩:=DataW.trod_int ht h
 exact ⟨n,h1,h2⟩
theorem zck2 {t:TypeId} (ht:P.underlying t=some .bool):Lits enc P W t fun cs=>∃b,cs=[.bool b]:=fun fuel cs y h _=>by
 obtain ⟨b,h1,_⟩:=DataW.trod_bool ht h
 exact ⟨b,h1⟩
theorem zpw1 {l m:List Nat} {p:Nat→Bool} (h:(l++m).all p=true):l.all p=true∧m.all p=true:=by
 rw [List.all_append,Bool.and_eq_true] at h
 exact h
theorem wAll {e:TypeId}:∀ {l:List (DataW H)} {d:DataW H},d∈l→(DataW.weightsAll P e l).all (· ≤reachBytes)=true→(DataW.weights P e d).all (· ≤reachBytes)=true
 | d::r,d',hm,h=>by
  rw [DataW.weightsAll] at h
  obtain ⟨h1,h2⟩:=zpw1 h
  rcases List.mem_cons.1 hm with rfl | hm
  ·exact h1
  ·exact wAll hm h2
theorem wEach :∀ {ts:List TypeId} {ds:List (DataW H)} {i:Nat} {t:TypeId} {d:DataW H},ts[i]?=some t→ds[i]?=some d→(DataW.weightsEach P ts ds).all (· ≤reachBytes)=true→(DataW.weights P t d).all (· ≤reachBytes)=true
 | [],_,i,t,d,h,_,_=>by simp at h
 | _::_,[],i,t,d,_,h,_=>by simp at h
 | t::ts,d::ds,0,t',d',h1,h2,h=>by
  simp at h1 h2
  subst h1 h2
  rw [DataW.weightsEach] at h
  exact (zpw1 h).1
 | t::ts,d::ds,i+1,t',d',h1,h2,h=>by
  rw [DataW.weightsEach] at h
  exact wEach (by simpa using h1) (by simpa using h2) (zpw1 h).2
theorem zbo {t:TypeId} {fs:Array Field} {fuel:Nat} {cs:List Value} {y:DataW H×List MemPlace} (ht:P.underlying t=some (.struct fs)) (h:DataW.trod enc P W 0 (fun _=>true) true fuel t cs=some y) (hw:(DataW.weights P t y.1).all (· ≤reachBytes)=true)
  {i n off:Nat} {f:Field} {R:List Value→Prop} (hf:fs[i]?=some f) (ho:f.offset=off) (hc:P.cellsOf f.type=n) (hR:Lits enc P W f.type R):R ((cs.drop off).take n):=by
 subst ho
 obtain ⟨xs,m,_,rfl,hl,hlen,hfs⟩:=DataW.trod_struct ht h
 have h1:=hfs i f hf
 have hil:i<xs.length:=by rw [hlen];exact (Array.getElem?_eq_some_iff.1 hf).1
 rw [List.getElem?_eq_getElem hil,hc] at h1
 refine hR m _ _ h1 ?_
 dsimp only at hw
 rw [DataW.weights,ht] at hw
 refine wEach (i:=i) (ts:=fs.toList.map (·.type)) ?_ ?_ hw
 ·rw [List.getElem?_map,Array.getElem?_toList,hf];rfl
 ·rw [List.getElem?_map,List.getElem?_eq_getElem hil];rfl
theorem zxq {t:TypeId} {fs:Array Field} {fuel:Nat} {cs:List Value} {y:DataW H×List MemPlace} (ht:P.underlying t=some (.struct fs)) (h:DataW.trod enc P W 0 (fun _=>true) true fuel t cs=some y):cs.length=P.cellsOf t:=by
 obtain ⟨xs,m,_,rfl,hl,hlen,hfs⟩:=DataW.trod_struct ht h
 exact hl
theorem zav {cs a:List Value} {off n m:Nat} (h:(cs.drop off).take n=a) (hm:off+n=m):cs.drop off=a++cs.drop m:=by
 rw [←hm,←h,←List.drop_drop,List.take_append_drop]
structure SlIn {α:Type} (W:World) (sz:Nat) (en:α→List Value) (good:α→Prop) (l:Sl) (xs:List α):Prop where
 rw_:Rw (whole W) sz en l xs
 cap:l.len≤l.cap
 most:l.cap≤9223372036854775807
 few:xs.length≤140737488355328
 all:∀x∈xs,good x
theorem zen {t e:TypeId} {α:Type} (ht:P.underlying t=some (.slice e)) (en:α→List Value) (good:α→Prop) {sz:Nat} (hsz:P.cellsOf e=sz) (hb:0<P.bytesOf e) (he:Lits enc P W e fun cs=>∃x,cs=en x∧good x) (henc:∀x,(en x).length=sz):
  Lits enc P W t fun cs=>∃(l:Sl) (xs:List α),cs=[l.v]∧SlIn W sz en good l xs:=by
 intro fuel cs y h hw
 subst hsz
 rcases DataW.trod_slice ht h with ⟨h0,_⟩ | ⟨a,len0,cap0,elems,rest,n,_,h0,hd0,hb0,hl,hm,hlen,hel',_,_⟩
 ·exact ⟨⟨none,0,0⟩,[],h0,⟨⟨rfl,by simp,.inl (by simp)⟩,Nat.le_refl _,by simp,by simp,fun x hx=>by cases hx⟩⟩
 ·subst hd0
  dsimp only at hw
  rw [DataW.weights,ht] at hw
  dsimp only at hw
  rw [List.all_cons,Bool.and_eq_true,decide_eq_true_eq] at hw
  obtain ⟨hw1,hw2⟩:=hw
  have hw2:=(zpw1 hw2).1
  have each:∀i,i<len0→∃x,good x∧LdIs (whole W) (a.add (i*P.cellsOf e)) (en x):=by
   intro i hi
   have h1:=hel' i hi
   have h2:elems[i]?=some elems[i]:=List.getElem?_eq_getElem (by omega)
   rw [h2] at h1
   cases hc:W.cells? 0 (a.add (i*P.cellsOf e)) (P.cellsOf e) with
   | none=>rw [hc] at h1;cases h1
   | some cs=>
    rw [hc] at h1
    obtain ⟨_,hcl,hcc⟩:=World.cells?_some hc
    obtain ⟨x,hx,hg⟩:=he n cs _ h1 (wAll (List.mem_map.2 ⟨elems[i],List.mem_of_getElem? h2,rfl⟩) hw2)
    refine ⟨x,hg,fun j v hj=> ?_⟩
    have hjl:j<(en x).length:=(List.getElem?_eq_some_iff.1 hj).1
    rw [zlj1,hcc j (by rw [←henc x];exact hjl),hx]
    exact hj
  have build:∀m,m≤len0→∃xs:List α,xs.length=m∧(∀x∈xs,good x)∧∀i x,xs[i]?=some x→LdIs (whole W) (a.add (i*P.cellsOf e)) (en x):=by
   intro m
   induction m with
   | zero=>intro _;exact ⟨[],rfl,fun x hx=>(by cases hx),fun i x hx=>(by simp at hx)⟩
   | succ m ih=>
    intro hm'
    obtain ⟨xs,h1,h2,h3⟩:=ih (by omega)
    obtain ⟨x,hg,hx⟩:=each m (by omega)
    refine ⟨xs++ [x],by simp [h1],fun y hy=> ?_,fun i y hy=> ?_⟩
    ·rcases List.mem_append.1 hy with hy | hy
     ·exact h2 y hy
     ·rw [List.mem_singleton.1 hy];exact hg
    ·by_cases hi:i<xs.length
     ·rw [List.getElem?_append_left hi] at hy
      exact h3 i y hy
     ·rw [List.getElem?_append_right (by omega)] at hy
      have:i-xs.length=0:=by
       have:=(List.getElem?_eq_some_iff.1 hy).1
       simp at this
       omega
      rw [this] at hy
      simp at hy
      subst hy
      have:i=m:=by omega
      rw [this]
      exact hx
  obtain ⟨xs,h1,h2,h3⟩:=build len0 (Nat.le_refl _)
  refine ⟨⟨some a,len0,cap0⟩,xs,h0,⟨⟨h1.symm,zbw henc xs,.inr ⟨a,rfl,fun i v hv=> ?_⟩⟩,hl,hm,?_,h2⟩⟩
  ·obtain ⟨q,x,j,hq,hj,e1⟩:=zav2 henc xs i v hv
   rw [e1]
   rw [←zae1]
   exact h3 q x hq j v hj
  ·have h4:reachBytes≤140737488355328:=by decide
   rw [List.length_map,List.length_map] at hw1
   have h5:elems.length+rest.length≤(elems.length+rest.length)*P.bytesOf e:=Nat.le_mul_of_pos_right _ hb
   omega
theorem zcl2 {t e:TypeId} (ht:P.underlying t=some (.array 8 e)) (he:P.underlying e=some (.int .i64)) (hc:P.cellsOf e=1) (hct:P.cellsOf t=8):
  Lits enc P W t fun cs=>∃a0 a1 a2 a3 a4 a5 a6 a7:Int,cs=[.int .i64 a0,.int .i64 a1,.int .i64 a2,.int .i64 a3,.int .i64 a4,.int .i64 a5,.int .i64 a6,.int .i64 a7]∧∀v∈ [a0,a1,a2,a3,a4,a5,a6,a7],I64 v:=by
 intro fuel cs y h _
 obtain ⟨xs,m,_,rfl,hl,hlen,hfs⟩:=DataW.trod_array ht h
 rw [hct] at hl
 have hone:∀i,i<8→∃n,(cs.drop i).take 1=[.int .i64 n]∧I64 n:=fun i hi=>by
  have h1:=hfs i hi
  rw [List.getElem?_eq_getElem (by omega),hc,Nat.mul_one] at h1
  obtain ⟨n,hn,_,hw⟩:=DataW.trod_int he h1
  have:=zfx2 hw
  exact ⟨n,hn,by unfold I64;omega⟩
 obtain ⟨a0,h0,g0⟩:=hone 0 (by omega)
 obtain ⟨a1,h1,g1⟩:=hone 1 (by omega)
 obtain ⟨a2,h2,g2⟩:=hone 2 (by omega)
 obtain ⟨a3,h3,g3⟩:=hone 3 (by omega)
 obtain ⟨a4,h4,g4⟩:=hone 4 (by omega)
 obtain ⟨a5,h5,g5⟩:=hone 5 (by omega)
 obtain ⟨a6,h6,g6⟩:=hone 6 (by omega)
 obtain ⟨a7,h7,g7⟩:=hone 7 (by omega)
 refine ⟨a0,a1,a2,a3,a4,a5,a6,a7,?_,by simp [g0,g1,g2,g3,g4,g5,g6,g7]⟩
 have e:cs=cs.drop 0:=rfl
 rw [e,zav (m:=1) h0 rfl,zav (m:=2) h1 rfl,zav (m:=3) h2 rfl,zav (m:=4) h3 rfl,zav (m:=5) h4 rfl,zav (m:=6) h5 rfl,zav (m:=7) h6 rfl,zav (m:=8) h7 rfl,List.drop_of_length_le (by omega)]
 rfl
end
end Lf

namespace Lf
open Go Go.Proofs Go.ChangeShapes Go.WideShapes Go.ChangeAt Go.RowKit
section
variable {H:Type} {enc:TypeId×Value→H} {W:World}
theorem li :Lits enc Tryz.prog W 3 fun cs=>∃n,cs=[.int .i64 n]∧(Lit.int .i64 n).wf=true:=zjg1 (tb_ok.und 3 ty3 rfl)
theorem li64 :Lits enc Tryz.prog W 2 fun cs=>∃n,cs=[.int .i64 n]∧(Lit.int .i64 n).wf=true:=zjg1 (tb_ok.und 2 ty2 rfl)
theorem lu64 :Lits enc Tryz.prog W 80 fun cs=>∃n,cs=[.int .u64 n]∧(Lit.int .u64 n).wf=true:=zjg1 (tb_ok.und 80 ty80 rfl)
theorem zin1 {x:Int} (h:(Lit.int .i64 x).wf=true):I64 x:=by
 have:=zfx2 h
 unfold I64
 omega
abbrev eI (x:Int):List Value:=zad ((shInt .i64).enc x)
abbrev eU (x:Int):List Value:=zad ((shInt .u64).enc x)
abbrev eIns (x:S_api_Ins):List Value:=zad (sh_api_Ins.enc x)
abbrev eProc (x:S_api_Proc):List Value:=zad (sh_api_Proc.enc x)
abbrev eWait (x:S_api_Waiter):List Value:=zad (sh_api_Waiter.enc x)
abbrev eEnt (x:S_api_Entry):List Value:=zad (sh_api_Entry.enc x)
abbrev eLane (x:S_api_Lane):List Value:=zad (sh_api_Lane.enc x)
abbrev zjh1 (x:S_api_Process):List Value:=zad (sh_api_Process.enc x)
abbrev ePart (x:S_api_Part):List Value:=zad (sh_api_Part.enc x)
abbrev eSl (x:Sl):List Value:=zad (shSl.enc x)
theorem c_int :Tryz.prog.cellsOf 3=1:=by kernel_rfl
theorem zxr :Tryz.prog.cellsOf 2=1:=by kernel_rfl
theorem zff2 :Tryz.prog.cellsOf 80=1:=by kernel_rfl
theorem zin2 :Tryz.prog.cellsOf 4=1:=by kernel_rfl
theorem c_ins :Tryz.prog.cellsOf 51=5:=by kernel_rfl
theorem zio2 :Tryz.prog.cellsOf 47=1:=by kernel_rfl
theorem zfy2 :Tryz.prog.cellsOf 49=2:=by kernel_rfl
theorem zhj2 :Tryz.prog.cellsOf 24=1:=by kernel_rfl
theorem c_us :Tryz.prog.cellsOf 22=1:=by kernel_rfl
theorem c_is :Tryz.prog.cellsOf 23=1:=by kernel_rfl
theorem zip2 :Tryz.prog.cellsOf 65=1:=by kernel_rfl
theorem c_cfg :Tryz.prog.cellsOf 26=7:=by kernel_rfl
theorem c_ent :Tryz.prog.cellsOf 111=3:=by kernel_rfl
theorem ziq2 :Tryz.prog.cellsOf 57=1:=by kernel_rfl
theorem zfz2 :Tryz.prog.cellsOf 114=2:=by kernel_rfl
theorem zhk2 :Tryz.prog.cellsOf 66=1:=by kernel_rfl
theorem zga2 :Tryz.prog.cellsOf 68=4:=by kernel_rfl
theorem zhl2 :Tryz.prog.cellsOf 62=1:=by kernel_rfl
theorem c_row :Tryz.prog.cellsOf 61=8:=by kernel_rfl
theorem zsf1 :Tryz.prog.cellsOf 64=15:=by kernel_rfl
theorem zuy1 :Tryz.prog.cellsOf 28=1:=by kernel_rfl
theorem c_iss :Tryz.prog.cellsOf 58=1:=by kernel_rfl
theorem zgb2 :Tryz.prog.cellsOf 60=6:=by kernel_rfl
theorem zhm2 :Tryz.prog.cellsOf 27=1:=by kernel_rfl
theorem zhn2 :Tryz.prog.cellsOf 30=3:=by kernel_rfl
theorem l_is :Lits enc Tryz.prog W 23 fun cs=>∃(l:Sl) (xs:List Int),cs=[l.v]∧SlIn W 1 eI (fun _=>True) l xs:=
 zen (tb_ok.und 23 ty23 rfl) eI _ c_int (by rw [show Tryz.prog.bytesOf 3=8 by kernel_rfl];omega) (fun f cs y h hw=>by obtain ⟨n,h1,_⟩:=li f cs y h hw;exact ⟨n,h1,trivial⟩) fun _=>rfl
theorem zir2 :Lits enc Tryz.prog W 65 fun cs=>∃(l:Sl) (xs:List Int),cs=[l.v]∧SlIn W 1 eI I64 l xs:=
 zen (tb_ok.und 65 ty65 rfl) eI _ zxr (by rw [show Tryz.prog.bytesOf 2=8 by kernel_rfl];omega) (fun f cs y h hw=>by obtain ⟨n,h1,h2⟩:=li64 f cs y h hw;exact ⟨n,h1,zin1 h2⟩) fun _=>rfl
theorem l_us :Lits enc Tryz.prog W 22 fun cs=>∃(l:Sl) (xs:List Int),cs=[l.v]∧SlIn W 1 eU InU l xs:=
 zen (tb_ok.und 22 ty22 rfl) eU _ zff2 (by rw [show Tryz.prog.bytesOf 80=8 by kernel_rfl];omega) (fun f cs y h hw=>by obtain ⟨n,h1,h2⟩:=lu64 f cs y h hw;exact ⟨n,h1,zim2 h2⟩) fun _=>rfl
theorem l_ins :Lits enc Tryz.prog W 51 fun cs=>∃x,cs=eIns x∧I64 x.Imm:=fun f cs y h hw=>by
 have hu:=tb_ok.und 51 ty51 rfl
 have hl:=zxq hu h
 rw [c_ins] at hl
 obtain ⟨a0,h0,_⟩:=zbo hu h hw (i:=0) (off:=0) rfl rfl c_int li
 obtain ⟨a1,h1,_⟩:=zbo hu h hw (i:=1) (off:=1) rfl rfl c_int li
 obtain ⟨a2,h2,_⟩:=zbo hu h hw (i:=2) (off:=2) rfl rfl c_int li
 obtain ⟨a3,h3,_⟩:=zbo hu h hw (i:=3) (off:=3) rfl rfl c_int li
 obtain ⟨a4,h4,w4⟩:=zbo hu h hw (i:=4) (off:=4) rfl rfl zxr li64
 refine ⟨⟨a0,a1,a2,a3,a4⟩,?_,zin1 w4⟩
 have e:cs=cs.drop 0:=rfl
 rw [e,zav (m:=1) h0 rfl,zav (m:=2) h1 rfl,zav (m:=3) h2 rfl,zav (m:=4) h3 rfl,zav (m:=5) h4 rfl,List.drop_of_length_le (Nat.le_of_eq hl)]
 rfl
theorem zis2 :Lits enc Tryz.prog W 47 fun cs=>∃(l:Sl) (xs:List S_api_Ins),cs=[l.v]∧SlIn W 5 eIns (fun x=>I64 x.Imm) l xs:=
 zen (tb_ok.und 47 ty47 rfl) eIns _ c_ins (by rw [show Tryz.prog.bytesOf 51=40 by kernel_rfl];omega) l_ins fun _=>rfl
def zji1 (W:World) (q:S_api_Proc):Prop:=∃is,SlIn W 5 eIns (fun x=>I64 x.Imm) q.Code is
theorem zit2 :Lits enc Tryz.prog W 49 fun cs=>∃x,cs=eProc x∧zji1 W x:=fun f cs y h hw=>by
 have hu:=tb_ok.und 49 ty49 rfl
 have hl:=zxq hu h
 rw [zfy2] at hl
 obtain ⟨a0,h0,_⟩:=zbo hu h hw (i:=0) (off:=0) rfl rfl c_int li
 obtain ⟨l1,xs1,h1,g1⟩:=zbo hu h hw (i:=1) (off:=1) rfl rfl zio2 zis2
 refine ⟨⟨a0,l1⟩,?_,xs1,g1⟩
 have e:cs=cs.drop 0:=rfl
 rw [e,zav (m:=1) h0 rfl,zav (m:=2) h1 rfl,List.drop_of_length_le (Nat.le_of_eq hl)]
 rfl
theorem zho2 :Lits enc Tryz.prog W 24 fun cs=>∃(l:Sl) (xs:List S_api_Proc),cs=[l.v]∧SlIn W 2 eProc (zji1 W) l xs:=
 zen (tb_ok.und 24 ty24 rfl) eProc _ zfy2 (by rw [show Tryz.prog.bytesOf 49=32 by kernel_rfl];omega) zit2 fun _=>rfl
structure CfgIn (W:World) (x:S_api_Config):Prop where
 labels:∃ls,SlIn W 1 eU InU x.Labels ls
 table:∃ts,SlIn W 1 eI (fun _=>True) x.Table ts
 procs:∃ps,SlIn W 2 eProc (zji1 W) x.Procs ps
theorem l_cfg :Lits enc Tryz.prog W 26 fun cs=>∃x,cs=cfgL x∧CfgIn W x:=fun f cs y h hw=>by
 have hu:=tb_ok.und 26 ty26 rfl
 have hl:=zxq hu h
 rw [c_cfg] at hl
 obtain ⟨l0,x0,h0,g0⟩:=zbo hu h hw (i:=0) (off:=0) rfl rfl c_us l_us
 obtain ⟨l1,x1,h1,g1⟩:=zbo hu h hw (i:=1) (off:=1) rfl rfl c_is l_is
 obtain ⟨a2,h2,_⟩:=zbo hu h hw (i:=2) (off:=2) rfl rfl c_int li
 obtain ⟨a3,h3,_⟩:=zbo hu h hw (i:=3) (off:=3) rfl rfl c_int li
 obtain ⟨a4,h4,_⟩:=zbo hu h hw (i:=4) (off:=4) rfl rfl c_int li
 obtain ⟨a5,h5,_⟩:=zbo hu h hw (i:=5) (off:=5) rfl rfl c_int li
 obtain ⟨l6,x6,h6,g6⟩:=zbo hu h hw (i:=6) (off:=6) rfl rfl zhj2 zho2
 refine ⟨⟨l0,l1,a2,a3,a4,a5,l6⟩,?_,⟨x0,g0⟩,⟨x1,g1⟩,x6,g6⟩
 have e:cs=cs.drop 0:=rfl
 rw [e,zav (m:=1) h0 rfl,zav (m:=2) h1 rfl,zav (m:=3) h2 rfl,zav (m:=4) h3 rfl,zav (m:=5) h4 rfl,zav (m:=6) h5 rfl,zav (m:=7) h6 rfl,List.drop_of_length_le (Nat.le_of_eq hl)]
 rfl
theorem l_ent :Lits enc Tryz.prog W 111 fun cs=>∃x,cs=eEnt x∧(I64 x.Tick∧I64 x.Value_):=fun f cs y h hw=>by
 have hu:=tb_ok.und 111 ty111 rfl
 have hl:=zxq hu h
 rw [c_ent] at hl
 obtain ⟨a0,h0,w0⟩:=zbo hu h hw (i:=0) (off:=0) rfl rfl zxr li64
 obtain ⟨a1,h1,_⟩:=zbo hu h hw (i:=1) (off:=1) rfl rfl c_int li
 obtain ⟨a2,h2,w2⟩:=zbo hu h hw (i:=2) (off:=2) rfl rfl zxr li64
 refine ⟨⟨a0,a1,a2⟩,?_,zin1 w0,zin1 w2⟩
 have e:cs=cs.drop 0:=rfl
 rw [e,zav (m:=1) h0 rfl,zav (m:=2) h1 rfl,zav (m:=3) h2 rfl,List.drop_of_length_le (Nat.le_of_eq hl)]
 rfl
theorem ziu2 :Lits enc Tryz.prog W 57 fun cs=>∃(l:Sl) (xs:List S_api_Entry),cs=[l.v]∧SlIn W 3 eEnt (fun x=>I64 x.Tick∧I64 x.Value_) l xs:=
 zen (tb_ok.und 57 ty57 rfl) eEnt _ c_ent (by rw [show Tryz.prog.bytesOf 111=24 by kernel_rfl];omega) l_ent fun _=>rfl
theorem ziv2 :Lits enc Tryz.prog W 114 fun cs=>∃x,cs=eWait x∧I64 x.Value_:=fun f cs y h hw=>by
 have hu:=tb_ok.und 114 ty114 rfl
 have hl:=zxq hu h
 rw [zfz2] at hl
 obtain ⟨a0,h0,_⟩:=zbo hu h hw (i:=0) (off:=0) rfl rfl c_int li
 obtain ⟨a1,h1,w1⟩:=zbo hu h hw (i:=1) (off:=1) rfl rfl zxr li64
 refine ⟨⟨a0,a1⟩,?_,zin1 w1⟩
 have e:cs=cs.drop 0:=rfl
 rw [e,zav (m:=1) h0 rfl,zav (m:=2) h1 rfl,List.drop_of_length_le (Nat.le_of_eq hl)]
 rfl
theorem zhp2 :Lits enc Tryz.prog W 66 fun cs=>∃(l:Sl) (xs:List S_api_Waiter),cs=[l.v]∧SlIn W 2 eWait (fun x=>I64 x.Value_) l xs:=
 zen (tb_ok.und 66 ty66 rfl) eWait _ zfz2 (by rw [show Tryz.prog.bytesOf 114=16 by kernel_rfl];omega) ziv2 fun _=>rfl
def zjj1 (W:World) (x:S_api_Lane):Prop:=(∃vs,SlIn W 1 eI I64 x.Values vs)∧∃ws,SlIn W 2 eWait (fun x=>I64 x.Value_) x.Waiters ws
theorem ziw2 :Lits enc Tryz.prog W 68 fun cs=>∃x,cs=eLane x∧zjj1 W x:=fun f cs y h hw=>by
 have hu:=tb_ok.und 68 ty68 rfl
 have hl:=zxq hu h
 rw [zga2] at hl
 obtain ⟨l0,x0,h0,g0⟩:=zbo hu h hw (i:=0) (off:=0) rfl rfl zip2 zir2
 obtain ⟨l1,x1,h1,g1⟩:=zbo hu h hw (i:=1) (off:=1) rfl rfl zhk2 zhp2
 obtain ⟨a2,h2,_⟩:=zbo hu h hw (i:=2) (off:=2) rfl rfl c_int li
 obtain ⟨a3,h3,_⟩:=zbo hu h hw (i:=3) (off:=3) rfl rfl c_int li
 refine ⟨⟨l0,l1,a2,a3⟩,?_,⟨x0,g0⟩,x1,g1⟩
 have e:cs=cs.drop 0:=rfl
 rw [e,zav (m:=1) h0 rfl,zav (m:=2) h1 rfl,zav (m:=3) h2 rfl,zav (m:=4) h3 rfl,List.drop_of_length_le (Nat.le_of_eq hl)]
 rfl
theorem zhq2 :Lits enc Tryz.prog W 62 fun cs=>∃(l:Sl) (xs:List S_api_Lane),cs=[l.v]∧SlIn W 4 eLane (zjj1 W) l xs:=
 zen (tb_ok.und 62 ty62 rfl) eLane _ zga2 (by rw [show Tryz.prog.bytesOf 68=64 by kernel_rfl];omega) ziw2 fun _=>rfl
structure zxs (W:World) (x:S_api_Process):Prop where
 regs:∀v∈ [x.Regs_0,x.Regs_1,x.Regs_2,x.Regs_3,x.Regs_4,x.Regs_5,x.Regs_6,x.Regs_7],I64 v
 timer:I64 x.Timer
 wake:I64 x.Wake
 lanes:∃ls,SlIn W 4 eLane (zjj1 W) x.Lanes ls
theorem zcm2 :Lits enc Tryz.prog W 64 fun cs=>∃x,cs=zjh1 x∧zxs W x:=fun f cs y h hw=>by
 have hu:=tb_ok.und 64 ty64 rfl
 have hl:=zxq hu h
 rw [zsf1] at hl
 obtain ⟨a0,h0,_⟩:=zbo hu h hw (i:=0) (off:=0) rfl rfl c_int li
 obtain ⟨a1,h1,_⟩:=zbo hu h hw (i:=1) (off:=1) rfl rfl c_int li
 obtain ⟨b0,b1,b2,b3,b4,b5,b6,b7,h2,g2⟩:=zbo hu h hw (i:=2) (off:=2) rfl rfl c_row (zcl2 (tb_ok.und 61 ty61 rfl) (tb_ok.und 2 ty2 rfl) zxr c_row)
 obtain ⟨a3,h3,_⟩:=zbo hu h hw (i:=3) (off:=10) rfl rfl c_int li
 obtain ⟨a4,h4,w4⟩:=zbo hu h hw (i:=4) (off:=11) rfl rfl zxr li64
 obtain ⟨a5,h5⟩:=zbo hu h hw (i:=5) (off:=12) rfl rfl zin2 (zck2 (tb_ok.und 4 ty4 rfl))
 obtain ⟨a6,h6,w6⟩:=zbo hu h hw (i:=6) (off:=13) rfl rfl zxr li64
 obtain ⟨l7,x7,h7,g7⟩:=zbo hu h hw (i:=7) (off:=14) rfl rfl zhl2 zhq2
 refine ⟨⟨a0,a1,b0,b1,b2,b3,b4,b5,b6,b7,a3,a4,a5,a6,l7⟩,?_,g2,zin1 w4,zin1 w6,x7,g7⟩
 have e:cs=cs.drop 0:=rfl
 rw [e,zav (m:=1) h0 rfl,zav (m:=2) h1 rfl,zav (m:=10) h2 rfl,zav (m:=11) h3 rfl,zav (m:=12) h4 rfl,zav (m:=13) h5 rfl,zav (m:=14) h6 rfl,zav (m:=15) h7 rfl,List.drop_of_length_le (Nat.le_of_eq hl)]
 rfl
theorem zuz1 :Lits enc Tryz.prog W 28 fun cs=>∃(l:Sl) (xs:List S_api_Process),cs=[l.v]∧SlIn W 15 zjh1 (zxs W) l xs:=
 zen (tb_ok.und 28 ty28 rfl) zjh1 _ zsf1 (by rw [show Tryz.prog.bytesOf 64=136 by kernel_rfl];omega) zcm2 fun _=>rfl
theorem l_iss :Lits enc Tryz.prog W 58 fun cs=>∃(l:Sl) (xs:List Sl),cs=[l.v]∧SlIn W 1 eSl (fun q=>∃xs,SlIn W 1 eI (fun _=>True) q xs) l xs:=
 zen (tb_ok.und 58 ty58 rfl) eSl _ c_is (by rw [show Tryz.prog.bytesOf 23=24 by kernel_rfl];omega) (fun f cs y h hw=>by obtain ⟨l,xs,h1,h2⟩:=l_is f cs y h hw;exact ⟨l,h1,xs,h2⟩) fun _=>rfl
structure zjk1 (W:World) (x:S_api_Part):Prop where
 log:∃es,SlIn W 3 eEnt (fun x=>I64 x.Tick∧I64 x.Value_) x.Log es
 owners:∃os,SlIn W 1 eI (fun _=>True) x.Owners os
 queues:∃qs,SlIn W 1 eSl (fun q=>∃xs,SlIn W 1 eI (fun _=>True) q xs) x.Queues qs
theorem zix2 :Lits enc Tryz.prog W 60 fun cs=>∃x,cs=ePart x∧zjk1 W x:=fun f cs y h hw=>by
 have hu:=tb_ok.und 60 ty60 rfl
 have hl:=zxq hu h
 rw [zgb2] at hl
 obtain ⟨a0,h0,_⟩:=zbo hu h hw (i:=0) (off:=0) rfl rfl c_int li
 obtain ⟨l1,x1,h1,g1⟩:=zbo hu h hw (i:=1) (off:=1) rfl rfl ziq2 ziu2
 obtain ⟨a2,h2,_⟩:=zbo hu h hw (i:=2) (off:=2) rfl rfl c_int li
 obtain ⟨a3,h3,_⟩:=zbo hu h hw (i:=3) (off:=3) rfl rfl c_int li
 obtain ⟨l4,x4,h4,g4⟩:=zbo hu h hw (i:=4) (off:=4) rfl rfl c_is l_is
 obtain ⟨l5,x5,h5,g5⟩:=zbo hu h hw (i:=5) (off:=5) rfl rfl c_iss l_iss
 refine ⟨⟨a0,l1,a2,a3,l4,l5⟩,?_,⟨x1,g1⟩,⟨x4,g4⟩,x5,g5⟩
 have e:cs=cs.drop 0:=rfl
 rw [e,zav (m:=1) h0 rfl,zav (m:=2) h1 rfl,zav (m:=3) h2 rfl,zav (m:=4) h3 rfl,zav (m:=5) h4 rfl,zav (m:=6) h5 rfl,List.drop_of_length_le (Nat.le_of_eq hl)]
 rfl
theorem zhr2 :Lits enc Tryz.prog W 27 fun cs=>∃(l:Sl) (xs:List S_api_Part),cs=[l.v]∧SlIn W 6 ePart (zjk1 W) l xs:=
 zen (tb_ok.und 27 ty27 rfl) ePart _ zgb2 (by rw [show Tryz.prog.bytesOf 60=96 by kernel_rfl];omega) zix2 fun _=>rfl
structure StIn (W:World) (x:S_api_State):Prop where
 tick:I64 x.Tick
 parts:∃ps,SlIn W 6 ePart (zjk1 W) x.Parts ps
 procs:∃ps,SlIn W 15 zjh1 (zxs W) x.Procs ps
theorem zhs2 :Lits enc Tryz.prog W 30 fun cs=>∃x,cs=zad (sh_api_State.enc x)∧StIn W x:=fun f cs y h hw=>by
 have hu:=tb_ok.und 30 ty30 rfl
 have hl:=zxq hu h
 rw [zhn2] at hl
 obtain ⟨a0,h0,w0⟩:=zbo hu h hw (i:=0) (off:=0) rfl rfl zxr li64
 obtain ⟨l1,x1,h1,g1⟩:=zbo hu h hw (i:=1) (off:=1) rfl rfl zhm2 zhr2
 obtain ⟨l2,x2,h2,g2⟩:=zbo hu h hw (i:=2) (off:=2) rfl rfl zuy1 zuz1
 refine ⟨⟨a0,l1,l2⟩,?_,zin1 w0,⟨x1,g1⟩,x2,g2⟩
 have e:cs=cs.drop 0:=rfl
 rw [e,zav (m:=1) h0 rfl,zav (m:=2) h1 rfl,zav (m:=3) h2 rfl,List.drop_of_length_le (Nat.le_of_eq hl)]
 rfl
end
end Lf

namespace Lf
open Go Go.Proofs Go.ChangeShapes Go.WideShapes Go.ChangeAt Go.RowKit
theorem zia1 {α β:Type} {R:α→β→Prop} {G:β→Prop}:∀ {l:List α},(∀x∈l,∃p,R x p∧G p)→∃m,All2 R l m∧∀p∈m,G p
 | [],_=>⟨[],trivial,fun p hp=>by cases hp⟩
 | a::l,h=>by
  obtain ⟨p,h1,h2⟩:=h a (List.mem_cons_self ..)
  obtain ⟨m,h3,h4⟩:=zia1 (l:=l) fun x hx=>h x (List.mem_cons_of_mem _ hx)
  refine ⟨p::m,⟨h1,h3⟩,fun q hq=> ?_⟩
  rcases List.mem_cons.1 hq with rfl | hq
  ·exact h2
  ·exact h4 q hq
section
variable {W:World}
theorem zht2 {q:S_api_Proc} (k:zji1 W q):∃p,ProcAt (whole W) q p∧((∀x∈p.code,I64 x.imm)∧p.code.length≤140737488355328):=by
 obtain ⟨is,h⟩:=k
 refine ⟨⟨q.Part,is.map insOf⟩,⟨rfl,is,h.rw_,rfl⟩,fun x hx=> ?_,?_⟩
 ·obtain ⟨y,hy,rfl⟩:=List.mem_map.1 hx
  exact h.all y hy
 ·show (is.map insOf).length≤_
  rw [List.length_map];exact h.few
theorem cfg_of {x:S_api_Config} (k:CfgIn W x):∃c,CfgAt (whole W) x c∧Typed c∧CfgLe c:=by
 obtain ⟨ls,h1⟩:=k.labels
 obtain ⟨ts,h2⟩:=k.table
 obtain ⟨ps,h3⟩:=k.procs
 obtain ⟨m,h4,h5⟩:=zia1 fun q hq=>zht2 (h3.all q hq)
 have hl:=h4.len
 have hf:=h3.few
 refine ⟨⟨ls,ts,x.Fuel,x.Lane,x.Locks,x.Log,m⟩,⟨h1.rw_,h2.rw_,rfl,rfl,rfl,rfl,ps,h3.rw_,h4⟩,⟨fun a ha=> ?_,fun p hp=>(h5 p hp).1⟩,⟨h1.few,h2.few,by show m.length≤_;omega,fun p hp=>(h5 p hp).2⟩⟩
 have:=h1.all a ha
 exact ⟨this.1,this.2⟩
theorem zhu2 {x:S_api_Lane} (k:zjj1 W x):∃p,LaneAt (whole W) x p∧((∀v∈p.values,I64 v)∧(∀w∈p.waiters,I64 w.value)∧zsa1 p):=by
 obtain ⟨⟨vs,h1⟩,ws,h2⟩:=k
 refine ⟨⟨vs,ws.map zcn,x.Taken,x.Dropped⟩,⟨h1.rw_,⟨ws,h2.rw_,rfl⟩,rfl,rfl⟩,h1.all,fun w hw=> ?_,h1.few,?_⟩
 ·obtain ⟨y,hy,rfl⟩:=List.mem_map.1 hw
  exact h2.all y hy
 ·show (ws.map zcn).length≤_
  rw [List.length_map];exact h2.few
theorem zyw1 {x:S_api_Process} (k:zxs W x):∃p,ProcessAt (whole W) x p∧((p.regs.length=8∧(∀v∈p.regs,I64 v)∧I64 p.timer∧I64 p.wake∧∀l∈p.lanes,(∀v∈l.values,I64 v)∧∀w∈l.waiters,I64 w.value)∧
  p.lanes.length≤140737488355328∧∀l∈p.lanes,zsa1 l):=by
 obtain ⟨ls,h1⟩:=k.lanes
 obtain ⟨m,h4,h5⟩:=zia1 fun q hq=>zhu2 (h1.all q hq)
 have hl:=h4.len
 have hf:=h1.few
 exact ⟨⟨x.State,x.PC,_,x.Cursor,x.Timer,x.Fired,x.Wake,m⟩,⟨rfl,rfl,rfl,rfl,rfl,rfl,rfl,ls,h1.rw_,h4⟩,⟨rfl,k.regs,k.timer,k.wake,fun l hl=>⟨(h5 l hl).1,(h5 l hl).2.1⟩⟩,by show m.length≤_;omega,fun l hl=>(h5 l hl).2.2⟩
theorem zhv2 {x:S_api_Part} (k:zjk1 W x):∃p,PartAt (whole W) x p∧((∀e∈p.log,I64 e.tick∧I64 e.value)∧(p.log.length≤140737488355328∧p.owners.length≤140737488355328∧p.queues.length≤140737488355328∧∀q∈p.queues,q.length≤140737488355328)):=by
 obtain ⟨es,h1⟩:=k.log
 obtain ⟨os,h2⟩:=k.owners
 obtain ⟨qs,h3⟩:=k.queues
 obtain ⟨m,h4,h5⟩:=zia1 (R:=Is (whole W)) (G:=fun q=>q.length≤140737488355328) fun q hq=>by
  obtain ⟨xs,hx⟩:=h3.all q hq
  exact ⟨xs,hx.rw_,hx.few⟩
 have hl:=h4.len
 have hf:=h3.few
 refine ⟨⟨x.Cursor,es.map zht,x.Lost,x.Forbidden,os,m⟩,⟨rfl,⟨es,h1.rw_,rfl⟩,rfl,rfl,h2.rw_,qs,h3.rw_,h4⟩,fun e he=> ?_,?_,h2.few,by show m.length≤_;omega,h5⟩
 ·obtain ⟨y,hy,rfl⟩:=List.mem_map.1 he
  exact h1.all y hy
 ·show (es.map zht).length≤_
  rw [List.length_map];exact h1.few
theorem st_of {x:S_api_State} (k:StIn W x):∃s,StateAt (whole W) x s∧zwo1 s∧StLe s:=by
 obtain ⟨ps,h1⟩:=k.parts
 obtain ⟨qs,h2⟩:=k.procs
 obtain ⟨m,h4,h5⟩:=zia1 fun q hq=>zhv2 (h1.all q hq)
 obtain ⟨n,h6,h7⟩:=zia1 fun q hq=>zyw1 (h2.all q hq)
 have l1:=h4.len
 have l2:=h6.len
 have f1:=h1.few
 have f2:=h2.few
 exact ⟨⟨x.Tick,m,n⟩,⟨rfl,⟨ps,h1.rw_,h4⟩,qs,h2.rw_,h6⟩,⟨k.tick,fun p hp=>(h5 p hp).1,fun p hp=>(h7 p hp).1⟩,⟨by show m.length≤_;omega,by show n.length≤_;omega,fun p hp=>(h5 p hp).2,fun p hp=>(h7 p hp).2⟩⟩
end
theorem zcn2 {s:PState} (k:StLe s) (h1:s.parts.length≤8) (h2:∀x∈s.parts,x.queues.length≤8) (h3:s.procs.length≤32) (h4:∀x∈s.procs,x.lanes.length≤9):(evs s).length≤1152921504606846976:=by
 have p1:(s.parts.flatMap evQ).length≤s.parts.length*1125899906842624:=zqs _ fun x hx=>by
  have e:(evQ x).length≤x.queues.length*140737488355328:=by
   unfold evQ
   rw [←List.flatMap_id]
   exact zqs _ fun q hq=>(k.log x hx).2.2.2 q hq
  have:=Nat.mul_le_mul_right 140737488355328 (h2 x hx)
  omega
 have p2:(s.procs.flatMap evL).length≤s.procs.length*1266637395197952:=zqs _ fun x hx=>by
  have e:(evL x).length≤x.lanes.length*140737488355328:=zqs _ fun l hl=>by
   rw [List.length_map]
   exact ((k.lanes x hx).2 l hl).waiters
  have:=Nat.mul_le_mul_right 140737488355328 (h4 x hx)
  omega
 have q1:=Nat.mul_le_mul_right 1125899906842624 h1
 have q2:=Nat.mul_le_mul_right 1266637395197952 h3
 unfold evs
 rw [List.length_append]
 omega
section
variable {H:Type} {enc:TypeId×Value→H} {W:World}
theorem zgc2 {v:Value} {cs:List Value} (h:v.cells.toList=cs) (hl:cs.length≠1):v=.agg cs.toArray:=by
 cases v with
 | agg a=>rw [←h];rfl
 | _=>subst h;simp [Value.cells] at hl
theorem arg_cfg {v:Value} {d:DataW H} {ps:List MemPlace} (h:DataW.Trod enc Tryz.prog W 0 (fun _=>true) true 26 v d ps) (hw:(DataW.weights Tryz.prog 26 d).all (· ≤reachBytes)=true):
  ∃x:S_api_Config,v=sh_api_Config.enc x∧CfgIn W x:=by
 obtain ⟨fuel,hf⟩:=h
 obtain ⟨x,hx,hg⟩:=l_cfg fuel _ _ hf hw
 exact ⟨x,zgc2 hx (by simp [cfgL,zad]),hg⟩
theorem arg_state {v:Value} {d:DataW H} {ps:List MemPlace} (h:DataW.Trod enc Tryz.prog W 0 (fun _=>true) true 30 v d ps) (hw:(DataW.weights Tryz.prog 30 d).all (· ≤reachBytes)=true):
  ∃x:S_api_State,v=sh_api_State.enc x∧StIn W x:=by
 obtain ⟨fuel,hf⟩:=h
 obtain ⟨x,hx,hg⟩:=zhs2 fuel _ _ hf hw
 exact ⟨x,zgc2 hx (by simp [zad]),hg⟩
theorem lu8 :Lits enc Tryz.prog W 5 fun cs=>∃b:UInt8,cs=eB b∧True:=fun f cs y h hw=>by
 obtain ⟨n,h1,h2⟩:=zjg1 (tb_ok.und 5 ty5 rfl) f cs y h hw
 simp [Lit.wf,IntKind.min,IntKind.max,IntKind.signed,IntKind.bits] at h2
 refine ⟨UInt8.ofNat n.toNat,?_,trivial⟩
 rw [h1]
 unfold eB
 rw [UInt8.toNat_ofNat']
 have:((n.toNat%2^8:Nat):Int)=n:=by omega
 rw [this]
set_option maxRecDepth 20000 in
theorem arg_bytes {v:Value} {d:DataW H} {ps:List MemPlace} {base:Nat} (hv:Value.okWide Tryz.prog W .any base 33 v) (h:DataW.Trod enc Tryz.prog W 0 (fun _=>true) true 33 v d ps) (hw:(DataW.weights Tryz.prog 33 d).all (· ≤reachBytes)=true):
  ∃(l:Sl) (bs:List UInt8),v=l.v∧SlIn W 1 eB (fun _=>True) l bs:=by
 obtain ⟨a,n,c,rfl⟩:=okWide_slice (tb_ok.und 33 ty33 rfl) hv
 obtain ⟨fuel,hf⟩:=h
 obtain ⟨l,xs,h1,h2⟩:=zen (enc:=enc) (W:=W) (tb_ok.und 33 ty33 rfl) eB (fun _=>True) (sz:=1) (by kernel_rfl) (by rw [show Tryz.prog.bytesOf 5=1 by kernel_rfl];omega) lu8 (fun _=>rfl) fuel _ _ hf hw
 refine ⟨l,xs,?_,h2⟩
 have h1: [Value.slice a n c]=[l.v]:=h1
 exact List.cons.inj h1 |>.1
end
end Lf

namespace Lf
open Go Go.Proofs
theorem zlo {P:Program} {src dst e:TypeId} {h:Hp} {l:Sl} {bs:List UInt8} (hs:P.underlying src=some (.slice e)) (he:P.underlying e=some (.int .u8)) (hd:P.underlying dst=some .string) (r:Bs h l bs):SemIs P (convert src dst l.v) h (.string ⟨bs.toArray⟩):=fun w hw=>by
 refine ⟨w,?_,.refl hw⟩
 obtain ⟨h1,h2,h3⟩:=r
 rw [Nat.mul_one] at h3
 have nilc:l.base=none→bs.length=0:=fun hb=>by
  rcases h3 with h3 | ⟨a,ha,_⟩
  ·exact h3
  ·rw [hb] at ha;cases ha
 unfold Sl.v
 cases hb:l.base with
 | none=>
  have:bs=[]:=List.length_eq_zero_iff.1 (nilc hb)
  subst this
  rw [run_convert_bytes_string w src dst e none l.len l.cap hs he hd]
  rfl
 | some a=>
  rw [h1]
  refine run_convert_bytes_back w src dst e a l.cap bs hs he hd fun j hj=> ?_
  rcases h3 with h3 | ⟨a',ha,hl⟩
  ·omega
  ·rw [hb] at ha;cases ha
   have:(bs.flatMap eB)[j]?=some (.int .u8 (bs[j].toNat:Int)):=by
    rw [zku1,List.getElem?_map,List.getElem?_eq_getElem hj];rfl
   have hc:=hl j _ this
   rw [←zlj1]
   exact zhu1 (fun b o e=>hw b o e) hc
section
variable {h:Hp} {Q:Bool→Hp→Prop}
theorem zfg2 {P:Program} {x:S_api_Config} {c:PCfg} (a:CfgAt h x c) (hc:CfgLe c) (hq:∀r,Q r h):zjr P x Q h:=by
 unfold zjr
 obtain ⟨ps,hps,hall⟩:=a.procs
 have e1:=hall.len
 have e2:x.Procs.len=ps.length:=hps.1
 have e3:=hc.procs
 refine letW (letW ?_)
 split
 ·exact hq _
 refine LoopW2.intro (fun _ i k=>k=h∧∃n:Nat,i=(n:Int)∧n≤ps.length) (fun _ i _=>(ps.length-i).toNat) ⟨rfl,0,rfl,by omega⟩ ?_
 rintro left i k ⟨rfl,n,rfl,hn⟩
 refine letW ?_
 by_cases hlt:((decide ((n:Int)<((x.Procs.len:Nat):Int)))&&(decide (left≥(0:Int))))=true
 ·rw [if_pos hlt]
  rw [Bool.and_eq_true,decide_eq_true_eq] at hlt
  refine Rw.fld hps (fun _=>rfl) (by omega) (sh:=shSl) (fun q=>q.Code) (fun _=>rfl) (by omega) (by omega) fun y hy=> ?_
  rw [zal (n:=(n:Int)+1) (by omega) (by omega)]
  exact ⟨⟨rfl,n+1,by omega,by omega⟩,by omega⟩
 ·rw [if_neg hlt]
  exact hq _
end
end Lf

namespace Lf
open Go Go.Proofs
theorem zgd2 {c:PCfg} (h:(cfgE c).1=0):Small c:=by
 obtain ⟨e1,_,_,_,_,e6,e7,e8,_,e10,e11⟩:=cfgP_zero.1 h
 exact ⟨(mayP_zero.1 e1).2.1,e10,e6.2,e7,e8.2,fun p hp=>((zfr ⟨e7.1,e7.2⟩).1 (e11 p hp).2).1⟩
theorem zhw2 {c:PCfg} (ht:Typed c) (h:(cfgE c).1=0):CfgV c:=(zxl (zoc c)).1 ⟨ht,h⟩
theorem zyx1 {c:PCfg} {s:PState} (ht:Typed c) (hs:zwo1 s) (h:(cfgE c).1=0) (hM:MayP c s):(snapB c s).length<1048576:=zel2 (zgd2 h) (zhw2 ht h) (zbi2 (zgd2 h) hs hM)
theorem zhb1 {c:PCfg} (ht:Typed c):∀l∈c.labels,InU l:=fun l hl=>⟨(ht.1 l hl).1,(ht.1 l hl).2⟩
def stNil :PState:=⟨0,[],[]⟩
theorem ziy2 :CfgLe zgy:=⟨by decide,by decide,by decide,fun p hp=>by cases hp⟩
theorem zhx2 :StLe stNil:=⟨by decide,by decide,fun p hp=>(by cases hp),fun p hp=>(by cases hp)⟩
theorem SnapErr.place {bs:List UInt8} {e:Int} {p:Nat} (h:SnapErr bs e p):p≤bs.length:=by
 rcases h with h | ⟨_,_,_,rfl,_⟩
 ·exact zlh1 zhg2 h
 ·omega
end Lf

namespace Lf
open Go Go.Proofs
section
variable {h:Hp} {x:S_api_Config} {y:S_api_State} {c:PCfg} {s:PState}
set_option maxRecDepth 20000 in
theorem zsg1 (cx:CfgAt h x c) (sy:StateAt h y s) (hu:∀l∈c.labels,InU l) (hS:StLe s) {Q:Int→Hp→Prop} (hq:∀e h',h≤h'→MayIs c s e→Q e h'):zjt Tryz.prog x y Q h:=by
 unfold zjt
 refine zmn (zij1 cx fun at_=> ?_)
 by_cases hc:(cfgE c).1≠0
 ·rw [if_pos (by simpa using hc)]
  exact hq _ h (Hp.le_refl h) (.inl ⟨hc,rfl⟩)
 rw [if_neg (by simpa using hc)]
 have ok:(cfgE c).1=0:=Classical.not_not.1 hc
 have hpart:∀y∈c.procs,0≤y.part∧y.part<c.labels.length:=fun y hy=>by
  obtain ⟨⟨g1,g2⟩, -⟩:=(zoa ok).2.2.2.2.2 y hy
  exact ⟨g1,by omega⟩
 have hM:MayP c s↔MayR c s (fun (i:Nat) q=>fl c.labels (i:Int) q=true):=zgr2 hpart
 have yes:∀h',h≤h'→MayR c s (fun (i:Nat) q=>fl c.labels (i:Int) q=true)→Q 0 h':=fun h' hl hm=>hq _ h' hl (.inr ⟨ok,.inl ⟨rfl,hM.2 hm⟩⟩)
 have no:∀h',h≤h'→¬MayR c s (fun (i:Nat) q=>fl c.labels (i:Int) q=true)→Q 4 h':=fun h' hl hm=>hq _ h' hl (.inr ⟨ok,.inr ⟨rfl,fun e=>hm (hM.1 e)⟩⟩)
 refine ztl (zuv1 cx sy ok hS fun r2 hr2=> ?_)
 by_cases hz:zrd1 c s
 case neg=>
  rw [if_pos (by cases r2 with
   | false=>rfl
   | true=>exact absurd (hr2.1 rfl) hz)]
  exact no h (Hp.le_refl h) fun hm=>hz hm.1
 have e2:=hr2.2 hz
 subst e2
 rw [if_neg (by simp)]
 refine newB (cs:=boxL x y) fun b h1 l1 hB=> ?_
 have k:RM h1 b x y c s:=⟨hB,cx.mono l1,sy.mono l1,ok,hu,hz⟩
 have hlp:y.Parts.len=s.parts.length:=by
  obtain ⟨ps,hps,hall⟩:=sy.parts
  rw [←hall.len];exact hps.1
 have hlq:y.Procs.len=s.procs.length:=by
  obtain ⟨ps,hps,hall⟩:=sy.procs
  rw [←hall.len];exact hps.1
 have b1:=hS.parts
 have b2:=hS.procs
 have hlen:=hz.1.2.2
 refine forA (n:=s.parts.length) (by omega) (by omega) (fun j (v:Bool) h'=>h1≤h'∧(v=true↔∀(i:Nat) z,i<j→s.parts[i]?=some z→PartR c s i z)) ⟨Hp.le_refl _,⟨fun _ i z hi=>by omega,fun _=>rfl⟩⟩ ?_ ?_
 ·rintro j hj v h2 ⟨l2,hv⟩ K hK
  have hzj:=List.getElem?_eq_getElem hj
  generalize s.parts[j]=z at hzj
  refine ⟨fun e=> ?_,fun e=>⟨false,letW (hK _ _ ⟨l2,?_⟩)⟩⟩
  ·refine zne (zys1 (k.mono l2) hS hzj fun r h3 l3 hr=>letW (hK _ _ ⟨Hp.le_trans l2 l3,?_⟩))
   rw [e,Bool.true_and,hr]
   constructor
   ·intro hp i z' hi hz'
    by_cases hij:i<j
    ·exact hv.1 e i z' hij hz'
    ·have:i=j:=by omega
     subst this
     rw [hzj] at hz';cases hz'
     exact hp
   ·exact fun hh=>hh j z (by omega) hzj
  ·rw [e,Bool.false_and]
   refine ⟨fun e=>(by cases e),fun hh=> ?_⟩
   have:=hv.2 fun i z hi hz=>hh i z (by omega) hz
   rw [e] at this;cases this
 rintro v1 h2 ⟨l2,hv1⟩
 have hA:v1=true↔∀(i:Nat) z,s.parts[i]?=some z→PartR c s i z:=hv1.trans ⟨fun hh i z hz=>hh i z (List.getElem?_eq_some_iff.1 hz).1 hz,fun hh i z _=>hh i z⟩
 clear hv1
 refine forA (n:=s.procs.length) (by omega) (by omega) (fun j (v:Bool) h'=>h'=h2∧(v=true↔v1=true∧∀(p:Nat) z u,p<j→s.procs[p]?=some z→c.procs[p]?=some u→ProcR c s (fun (i:Nat) q=>fl c.labels (i:Int) q=true) z u)) ⟨rfl,⟨fun e=>⟨e,fun p z u hp=>by omega⟩,fun e=>e.1⟩⟩ ?_ ?_
 ·rintro j hj v h3 ⟨rfl,hv⟩ K hK
  have hzj:=List.getElem?_eq_getElem hj
  generalize s.procs[j]=z at hzj
  have hjc:j<c.procs.length:=by omega
  have huj:=List.getElem?_eq_getElem hjc
  generalize c.procs[j]=u at huj
  refine ⟨fun e=> ?_,fun e=>⟨false,letW (hK _ _ ⟨rfl,?_⟩)⟩⟩
  ·refine zlj (zyt1 (k.mono l2) hS hzj huj fun r hr=>letW (hK _ _ ⟨rfl,?_⟩))
   obtain ⟨g1,g2⟩:=hv.1 e
   rw [e,Bool.true_and,hr]
   constructor
   ·intro hp
    refine ⟨g1,fun i z' u' hi hz' hu'=> ?_⟩
    by_cases hij:i<j
    ·exact g2 i z' u' hij hz' hu'
    ·have:i=j:=by omega
     subst this
     rw [hzj] at hz';cases hz'
     rw [huj] at hu';cases hu'
     exact hp
   ·exact fun hh=>hh.2 j z u (by omega) hzj huj
  ·rw [e,Bool.false_and]
   refine ⟨fun e=>(by cases e),fun hh=> ?_⟩
   have:=hv.2 ⟨hh.1,fun i z u hi hz hu=>hh.2 i z u (by omega) hz hu⟩
   rw [e] at this;cases this
 rintro v2 h3 ⟨rfl,hv2⟩
 have hBq:v2=true↔v1=true∧∀(p:Nat) z u,s.procs[p]?=some z→c.procs[p]?=some u→ProcR c s (fun (i:Nat) q=>fl c.labels (i:Int) q=true) z u:=
  hv2.trans ⟨fun hh=>⟨hh.1,fun i z u hz hu=>hh.2 i z u (List.getElem?_eq_some_iff.1 hz).1 hz hu⟩,fun hh=>⟨hh.1,fun i z u _ hz hu=>hh.2 i z u hz hu⟩⟩
 clear hv2
 have W:Nat→Prop:=fun p=>True
 refine LoopW2.intro (fun (v:Bool) t h'=>h'=h3∧∃j:Nat,t=(j:Int)∧j≤s.procs.length∧(v=true↔v2=true∧∀(p i:Nat) z u,p<j→s.procs[p]?=some z→c.procs[p]?=some u→u.part=(i:Int)→WaitR s p i z u)) (fun _ t _=>((s.procs.length:Int)-t).toNat)
  ⟨rfl,0,rfl,by omega,⟨fun e=>⟨e,fun p i z u hp=>by omega⟩,fun e=>e.1⟩⟩ ?_
 rintro v t h4 ⟨rfl,j,rfl,hj,hv⟩
 refine letW ?_
 by_cases hgo:j<s.procs.length∧v=true
 ·obtain ⟨hlt,hvt⟩:=hgo
  rw [if_pos (by rw [hvt,Bool.and_true];exact decide_eq_true (by omega))]
  have hzj:=List.getElem?_eq_getElem hlt
  generalize s.procs[j]=z at hzj
  have hjc:j<c.procs.length:=by omega
  have huj:=List.getElem?_eq_getElem hjc
  generalize c.procs[j]=u at huj
  obtain ⟨p0,p1⟩:=hpart u (List.mem_of_getElem? huj)
  refine ⟨fun _=> ?_,fun e=>by rw [hvt] at e;cases e⟩
  refine zmo (zux1 (k.mono l2) hS (i:=u.part.toNat) hzj huj (by omega) fun r hr=>letW ?_)
  rw [zal (by omega) (by omega)]
  refine ⟨⟨rfl,j+1,by omega,by omega,?_⟩,by omega⟩
  obtain ⟨g1,g2⟩:=hv.1 hvt
  rw [hvt,Bool.true_and,hr]
  constructor
  ·intro hp
   refine ⟨g1,fun p i z' u' hi hz' hu' hpi=> ?_⟩
   by_cases hij:p<j
   ·exact g2 p i z' u' hij hz' hu' hpi
   ·have:p=j:=by omega
    subst this
    rw [hzj] at hz';cases hz'
    rw [huj] at hu';cases hu'
    have:i=u.part.toNat:=by omega
    rw [this];exact hp
  ·exact fun hh=>hh.2 j _ z u (by omega) hzj huj (by omega)
 ·rw [if_neg (fun e=>hgo (by
   rw [Bool.and_eq_true,decide_eq_true_eq] at e
   exact ⟨by omega,e.2⟩))]
  have hl:=Hp.le_trans l1 l2
  by_cases hvt:v=true
  ·rw [if_neg (by rw [hvt];simp)]
   have hjn:¬j<s.procs.length:=fun e=>hgo ⟨e,hvt⟩
   obtain ⟨g1,g2⟩:=hv.1 hvt
   obtain ⟨g3,g4⟩:=hBq.1 g1
   refine yes _ hl ⟨hz,hA.1 g3,g4,fun p i z u hz'=>g2 p i z u (by have:=(List.getElem?_eq_some_iff.1 hz').1;omega) hz'⟩
  ·have hvf:v=false:=by simpa using hvt
   rw [if_pos (by rw [hvf];rfl)]
   exact no _ hl fun hm=>hvt (hv.2 ⟨hBq.2 ⟨hA.2 hm.2.1,hm.2.2.1⟩,fun p i z u _=>hm.2.2.2 p i z u⟩)
end
end Lf

namespace Lf
open Go Go.Proofs
theorem RAt.known {d h:Hp} {rb:Nat} {bl:Sl} {bs:List UInt8} {r:RS} (a:RAt d h rb bl bs r):h rb≠none:=by
 obtain ⟨p,e,pl,k,hs⟩:=a.blk
 exact k.known
structure TB (d h0:Hp) (rb:Nat) (bl:Sl) (bs:List UInt8) (k:Hp) (r:RS) (B:List Nat):Prop where
 kr:h0 rb≠none
 keep:∀b o,h0 b=some o→b≠rb→k b=some o
 rd:RAt d k rb bl bs r
 nd:B.Nodup
 fresh:∀b∈B,h0 b=none
section
variable {d h0 k:Hp} {rb:Nat} {bl:Sl} {bs:List UInt8} {r:RS} {B:List Nat}
theorem TB.init (a:RAt d k rb bl bs r):TB d k rb bl bs k r []:=⟨a.known,fun _ _ e _=>e,a,List.nodup_nil,fun b hb=>by cases hb⟩
theorem TB.nr (s:TB d h0 rb bl bs k r B):rb∉B:=fun h=>s.kr (s.fresh rb h)
theorem TB.new_ (s:TB d h0 rb bl bs k r B) {b:Nat} (e:k b=none):h0 b=none:=by
 cases h:h0 b with
 | none=>rfl
 | some o=>
  have h1:b≠rb:=fun h=>s.rd.known (h▸e)
  rw [s.keep b o h h1] at e
  cases e
theorem TB.andThen (s:TB d h0 rb bl bs k r B) (hkn:∀b∈B,k b≠none) {k':Hp} {r1:RS} {B':List Nat} (t:TB d k rb bl bs k' r1 B'):TB d h0 rb bl bs k' r1 (B++B') where
 kr:=s.kr
 keep:=fun b o e h1=>t.keep b o (s.keep b o e h1) h1
 rd:=t.rd
 nd:=by
  rw [List.nodup_append]
  exact ⟨s.nd,t.nd,fun a ha b hb e=>hkn a ha (by rw [e];exact t.fresh b hb)⟩
 fresh:=fun b hb=>by
  rcases List.mem_append.1 hb with hb | hb
  ·exact s.fresh b hb
  ·exact s.new_ (t.fresh b hb)
theorem TB.kept (s:TB d h0 rb bl bs k r B) (hkn:∀b∈B,k b≠none) {k':Hp} {r1:RS} {B':List Nat} (t:TB d k rb bl bs k' r1 B'):∀b∈B,k' b=k b:=fun b hb=>by
 cases e:k b with
 | none=>exact absurd e (hkn b hb)
 | some o=>exact t.keep b o e fun h=>s.nr (h▸hb)
theorem TB.step {r1:RS} {k':Hp} (hkr:k rb≠none) (m:Mv [rb] k [rb] k') (a:RAt d k' rb bl bs r1):TB d k rb bl bs k' r1 []:=
 ⟨hkr,fun b o e h1=>m.keep b o e fun h=>h1 (List.mem_singleton.1 h),a,List.nodup_nil,fun b hb=>by cases hb⟩
theorem TB.grow (s:TB d h0 rb bl bs k r B) {k':Hp} (hl:k≤k'):TB d h0 rb bl bs k' r B:=
 ⟨s.kr,fun b o e h1=>hl b o (s.keep b o e h1),s.rd.grow hl,s.nd,s.fresh⟩
theorem TB.fin (s:TB d h0 rb bl bs k r B) {k3:Hp} {B3:List Nat} (keep3:∀b o,k b=some o→b∉B→k3 b=some o) (nd3:B3.Nodup) (from3:∀b∈B3,b∈B∨k b=none) (hd:∀b∈B,d b=none):TB d h0 rb bl bs k3 r B3 where
 kr:=s.kr
 keep:=fun b o e h1=>keep3 b o (s.keep b o e h1) fun hb=>by rw [s.fresh b hb] at e;cases e
 rd:=by
  obtain ⟨p,q,t,⟨ty,kb⟩,hs⟩:=s.rd.blk
  exact ⟨fun b o e=>keep3 b o (s.rd.le b o e) fun hb=>(by rw [hd b hb] at e;cases e),s.rd.out,s.rd.src,s.rd.cap,s.rd.small,p,q,t,⟨ty,keep3 rb _ kb s.nr⟩,hs⟩
 nd:=nd3
 fresh:=fun b hb=>by
  rcases from3 b hb with hb | hb
  ·exact s.fresh b hb
  ·exact s.new_ hb
end
section
variable {d h0 k:Hp} {rb:Nat} {bl:Sl} {bs:List UInt8} {r:RS}
theorem tmid {β:Type} {sh:Shape} {sz:Nat} {R:sh.T→β→Hp→List Nat→Prop} {l:Sl} {ps:List β} {P M S B':List Nat} (ok:AsOk R) (hd0:d≤h0) (s:TB d h0 rb bl bs k r ((P++(M++S))++B')) (o:RowsO sh sz R l ps k M) {v:sh.T} {p:β} (e:R v p k B')
  (kp:∀b∈P++S,k b≠none) {y:Sl} (hx:Rs k sh sz y [v]) (henc:∀x,(zad (sh.enc x)).length=sz) (hok:∀x,zcz (zad (sh.enc x))=true) {zero:List Value} {bytes:Nat} (hz:zero.length=sz)
  (hb:ps.length+1≤140737488355328∧(ps.length+1)*bytes≤140737488355328) {K:Sl→Hp→Prop}
  (hk:∀l' k' M2,TB d h0 rb bl bs k' r (P++(M2++S))→RowsO sh sz R l' (ps++ [p]) k' M2→(∀b∈P++S,k' b=k b)→K l' k'):zaj sz bytes zero l y K k:=by
 have nd:=List.nodup_append.1 s.nd
 have ndP:=List.nodup_append.1 nd.1
 have ndM:=List.nodup_append.1 ndP.2.1
 have hM:∀b∈P++S,b∉M:=fun b hb hm=>by
  rcases List.mem_append.1 hb with hb | hb
  ·exact ndP.2.2 b hb b (mem_a hm) rfl
  ·exact ndM.2.2 b hm b hb rfl
 have hB:∀b∈B',b∉P++(M++S):=fun b hb h=>nd.2.2 b h b hb rfl
 refine zqr ok o e (by
  rw [List.nodup_append]
  exact ⟨ndM.1,nd.2.1,fun a ha b hb e=>hB b hb (e▸mem_b (mem_a ha))⟩) hx henc hok hz hb fun l' k' M2 o2 nd2 keep2 from2=> ?_
 have hps:∀b∈P++S,k' b=k b:=fun b hb=>by
  cases e:k b with
  | none=>exact absurd e (kp b hb)
  | some o=>exact keep2 b o e (hM b hb)
 refine hk l' k' M2 (s.fin (fun b o e hn=>keep2 b o e fun h=>hn (mem_a (mem_b (mem_a h)))) (mid nd.1 nd2 from2 kp fun b hb h=>hB b hb ?_) (fun b hb=> ?_) (fun b hb=>zbc hd0 (s.fresh b hb))) o2 hps
 ·rcases List.mem_append.1 h with h | h
  ·exact mem_a h
  ·exact mem_b (mem_b h)
 ·rcases List.mem_append.1 hb with hb | hb
  ·exact .inl (mem_a (mem_a hb))
  ·rcases List.mem_append.1 hb with hb | hb
   ·rcases from2 b hb with hb | hb
    ·rcases List.mem_append.1 hb with hb | hb
     ·exact .inl (mem_a (mem_b (mem_a hb)))
     ·exact .inl (mem_b hb)
    ·exact .inr hb
   ·exact .inl (mem_a (mem_b (mem_b hb)))
end
section
variable {d h:Hp} {rb:Nat} {bl:Sl} {bs:List UInt8} {r:RS}
theorem TB.next {h0 k:Hp} {B:List Nat} (s:TB d h0 rb bl bs k r B) (hkn:∀b∈B,k b≠none) {k':Hp} {r1:RS} (m:Mv [rb] k [rb] k') (a:RAt d k' rb bl bs r1):TB d h0 rb bl bs k' r1 B∧∀b∈B,k' b=k b:=by
 have t:TB d k rb bl bs k' r1 []:=TB.step s.rd.known m a
 have s2:=s.andThen hkn t
 rw [List.append_nil] at s2
 exact ⟨s2,s.kept hkn t⟩
end
section
variable {d h:Hp} {rb:Nat} {bl:Sl} {bs:List UInt8} {r:RS}
theorem RAt.of (a:RAt d h rb bl bs r) {h':Hp} {r1:RS} (m:Mv [rb] h [rb] h') {p e pl:Int} (k:Blk h' rb (zcc bl p e pl)) (hs:RSat r1 bs.length p e pl):RAt d h' rb bl bs r1:=
 ⟨(m.le a.le fun c hc=>by rw [List.mem_singleton.1 hc];exact a.out).1,a.out,a.src,a.cap,a.small,p,e,pl,k,hs⟩
theorem zsr {P:Program} {at_ e pl e1 p1:Int} (k:Blk h rb (zcc bl at_ e pl)) {Q:Hp→Prop}
  (hk:∀h',Mv [rb] h [rb] h'→Blk h' rb (zcc bl at_ (if e=0 then e1 else e) (if e=0 then p1 else pl))→Q h'):zcl P (some ⟨rb,0,none⟩) e1 p1 Q h:=by
 unfold zcl
 refine zab (ld_at (sh:=shInt .i64) e (k.ldIs (off:=2) (n:=1) rfl) ?_)
 by_cases h2:e=0
 ·rw [if_pos (by simpa using h2)]
  rw [if_pos h2,if_pos h2] at hk
  refine zab (zdp (b:=rb) (off:=2) k (by simp [zcc]) fun h2' m2 k2=>zab (zdp (b:=rb) (off:=3) k2 (by simp [zcc]) fun h3 m3 k3=>hk h3 (m2.trans m3) (by simpa [zcc] using k3)))
 ·rw [if_neg (by simpa using h2)]
  rw [if_neg h2,if_neg h2] at hk
  exact hk h (Mv.refl _ _) k
theorem zif {k:Nat} {Q:Int→Hp→Prop} (a:RAt d h rb bl bs r) (hk1:1≤k) (hk8:k≤8)
  (hq:∀(n:Nat) r1 h',n<256^k→Mv [rb] h [rb] h'→RAt d h' rb bl bs r1→Cn bs r (D.num k) r1 n→((∃e,r1=.error e)→n=0)→Q (n:Int) h'):zdd Tryz.prog (some ⟨rb,0,none⟩) (k:Int) Q h:=by
 unfold zdd
 obtain ⟨p,e,pl,kb,hs⟩:=a.blk
 have hlen:bl.len=bs.length:=a.src.1
 have hsm:=a.small
 have hpow:0<256^k:=Nat.pow_pos (by omega)
 refine zab (ld_at (sh:=shInt .i64) e (kb.ldIs (off:=2) (n:=1) rfl) ?_)
 cases r with
 | error y=>
  obtain ⟨er,q⟩:=y
  rw [if_pos (by rw [bne_iff_ne,hs.1];exact hs.2.1)]
  exact hq 0 _ h hpow (Mv.refl _ _) a Cn.stay fun _=>rfl
 | ok n=>
  obtain ⟨rfl,rfl,hn⟩:=hs
  have hn:n≤bs.length:=by omega
  rw [if_neg (by simp)]
  refine zab (ld_at (sh:=shSl) bl (kb.ldIs (off:=0) (n:=1) rfl) (zab (ld_at (sh:=shInt .i64) (n:Int) (kb.ldIs (off:=1) (n:=1) rfl) ?_)))
  rw [zal (by omega) (by omega)]
  by_cases hsh:bs.length<n+k
  ·have hlt:((bl.len:Nat):Int)-(n:Int)<(k:Int):=by omega
   rw [if_pos (decide_eq_true hlt)]
   refine zab (ld_at (sh:=shSl) bl (kb.ldIs (off:=0) (n:=1) rfl) (zap (zsr kb fun h' m k'=> ?_)))
   rw [if_pos rfl,if_pos rfl] at k'
   refine hq 0 (.error (5,bs.length)) h' hpow m (a.of m k' ⟨rfl,by decide,by rw [hlen]⟩) (Cn.err ?_) fun _=>rfl
   unfold D.num
   rw [if_pos hsh]
  ·have hlt:¬((bl.len:Nat):Int)-(n:Int)<(k:Int):=by omega
   rw [if_neg (fun e=>hlt (of_decide_eq_true e))]
   have hdl:((bs.drop n).take k).length=k:=by rw [List.length_take,List.length_drop];omega
   have hv:=zxh ((bs.drop n).take k)
   rw [hdl] at hv
   refine forA (n:=k) rfl (by omega) (fun i (v:Int) h'=>h'=h∧v=(valB (((bs.drop n).take k).take i):Int)) ⟨rfl,rfl⟩ ?_ ?_
   ·rintro i hi v h' ⟨rfl,rfl⟩ K hK
    refine zab (ld_at (sh:=shSl) bl (kb.ldIs (off:=0) (n:=1) rfl) (zab (ld_at (sh:=shInt .i64) (n:Int) (kb.ldIs (off:=1) (n:=1) rfl) ?_)))
    rw [zal (n:=(n:Int)+(i:Int)) (by omega) (by omega)]
    obtain ⟨e1,x,hx,hld⟩:=Rw.read (Rw.mono a.le a.src) zcb (by omega) (i:=(n:Int)+(i:Int)) (by omega) (by omega)
    have hx:bs[n+i]?=some x:=by rw [←hx];congr 1
    refine ⟨e1,(x.toNat:Int),hld,?_⟩
    rw [zal (n:=(8:Int)*(i:Int)) (by omega) (by omega)]
    refine ⟨by omega,?_⟩
    have hx2:((bs.drop n).take k)[i]?=some x:=by
     rw [List.getElem?_take,if_pos hi,List.getElem?_drop];exact hx
    have hv2:=zxh (((bs.drop n).take k).take i)
    have hti:(((bs.drop n).take k).take i).length=i:=by rw [List.length_take,hdl];omega
    rw [hti] at hv2
    rw [zul1 hv2 (by omega) x.toNat_lt]
    refine hK _ _ ⟨rfl,?_⟩
    rw [List.take_add_one,hx2]
    show _=((valB (((bs.drop n).take k).take i++ [x]):Nat):Int)
    rw [zlb1,hti]
   ·rintro v h' ⟨rfl,rfl⟩
    rw [List.take_of_length_le (by omega)]
    refine zab (ld_at (sh:=shInt .i64) (n:Int) (kb.ldIs (off:=1) (n:=1) rfl) (zab (zdp (b:=rb) (off:=1) kb (by simp [zcc]) fun h5 m5 kb5=> ?_)))
    rw [zal (by omega) (by omega)] at kb5
    have kb5:Blk h5 rb (zcc bl ((n:Int)+(k:Int)) 0 pl):=by simpa [zcc] using kb5
    refine hq _ (.ok (n+k)) h5 hv m5 (a.of m5 kb5 ⟨by push_cast;rfl,rfl,by omega⟩) (Cn.ok ?_) (by rintro ⟨e,he⟩;cases he)
    unfold D.num
    rw [if_neg hsh]
theorem zuq {P:Program} {α:Type} {h1:Hp} {r1:RS} {g:D α} {W:α→Int} {n:α} {e p:Int} (a1:RAt d h1 rb bl bs r1) (hc:Cn bs r g r1 n) (hp:∀a,r=.ok a→p=(a:Int)) (hW:W n=e) (he:e≠0) {Q:Hp→Prop}
  (hq:∀r2 h2,Mv [rb] h1 [rb] h2→RAt d h2 rb bl bs r2→Cn bs r (D.must g W) r2 n→(∃y,r2=.error y)→Q h2):zcl P (some ⟨rb,0,none⟩) e p Q h1:=by
 subst hW
 obtain ⟨p1,e1,pl1,kb1,hs1⟩:=a1.blk
 refine zsr kb1 fun h2 m2 kb2=> ?_
 have hdone:=hc.done
 cases r with
 | error y=>
  cases r1 with
  | ok at1=>cases hdone
  | error y1=>
   have hdone:(Except.error y:Except (Int×Nat) (α×Nat))=.error y1:=hdone
   cases hdone
   obtain ⟨er,q⟩:=y
   obtain ⟨rfl,hne,rfl⟩:=hs1
   rw [if_neg hne,if_neg hne] at kb2
   exact hq (.error (e1,q)) h2 m2 (a1.of m2 kb2 ⟨rfl,hne,rfl⟩) Cn.stay ⟨_,rfl⟩
 | ok at_=>
  have hp:=hp at_ rfl
  subst hp
  cases r1 with
  | ok at1=>
   obtain ⟨rfl,rfl,hat1⟩:=hs1
   have hdone:g bs at_=.ok (n,at1):=hdone
   rw [if_pos rfl,if_pos rfl] at kb2
   refine hq (.error (W n,at_)) h2 m2 (a1.of m2 kb2 ⟨rfl,he,rfl⟩) (Cn.err ?_) ⟨_,rfl⟩
   unfold D.must
   rw [hdone]
   dsimp only
   rw [if_neg he]
  | error y1=>
   obtain ⟨er,q⟩:=y1
   have hdone:g bs at_=.error (er,q):=hdone
   obtain ⟨rfl,hne,rfl⟩:=hs1
   rw [if_neg hne,if_neg hne] at kb2
   refine hq (.error (e1,q)) h2 m2 (a1.of m2 kb2 ⟨rfl,hne,rfl⟩) (Cn.err ?_) ⟨_,rfl⟩
   unfold D.must
   rw [hdone]
def betwE (least most low high:Int) (n:Int):Int:=if n<least then low else if most<n then high else 0
theorem zhc1 {α:Type} {g:D α} {W:α→Int} {r1:RS} {n m:α} {y:Int×Nat} (hc:Cn bs r g r1 n) (he:r1=.error y):Cn bs r (D.must g W) r1 m:=by
 subst he
 have hdone:=hc.done
 cases r with
 | error y1=>
  have hdone:(Except.error y1:Except (Int×Nat) (α×Nat))=.error y:=hdone
  cases hdone
  exact Cn.stay
 | ok at_=>
  have hdone:g bs at_=.error y:=hdone
  refine Cn.err ?_
  unfold D.must
  rw [hdone]
theorem zky {k:Nat} {least most low high:Int} {Q:Int→Hp→Prop} (a:RAt d h rb bl bs r) (hk1:1≤k) (hk4:k≤4) (hlow:low≠0) (hhigh:high≠0) (hlm:least≤most)
  (hq:∀(n:Nat) r1 h',n<256^k→Mv [rb] h [rb] h'→RAt d h' rb bl bs r1→Cn bs r (D.must (zD k) (betwE least most low high)) r1 (n:Int)→Q (n:Int) h'):zea Tryz.prog (some ⟨rb,0,none⟩) (k:Int) least most low high Q h:=by
 unfold zea
 have hpow:256^k≤4294967296:=Nat.pow_le_pow_right (by omega:256>0) hk4
 obtain ⟨p,e,pl,kb,hs⟩:=a.blk
 have hp:∀aa,r=.ok aa→p=(aa:Int):=fun aa e=>by subst e;exact hs.1
 refine zab (ld_at (sh:=shInt .i64) p (kb.ldIs (off:=1) (n:=1) rfl) ?_)
 refine zac (zif (k:=k) a hk1 (by omega) fun n r1 h1 hn m1 a1 hc1 hz=> ?_)
 obtain ⟨p1,e1,pl1,kb1,hs1⟩:=a1.blk
 have hc1:Cn bs r (zD k) r1 (n:Int):=hc1.map
 refine zab (ld_at (sh:=shInt .i64) e1 (kb1.ldIs (off:=2) (n:=1) rfl) ?_)
 cases r1 with
 | error y=>
  rw [if_pos (by rw [bne_iff_ne,hs1.1];exact hs1.2.1)]
  exact hq 0 _ h1 (Nat.pow_pos (by omega)) m1 a1 (zhc1 hc1 rfl)
 | ok at1=>
  obtain ⟨rfl,rfl,hat1⟩:=hs1
  rw [if_neg (by simp),zal (by omega) (by omega)]
  by_cases g1:(n:Int)<least
  ·refine JoinW0.intro (fun k'=>∃r2,Mv [rb] h [rb] k'∧RAt d k' rb bl bs r2∧Cn bs r (D.must (zD k) (betwE least most low high)) r2 (n:Int)) ?_ ?_
   ·rw [if_pos (decide_eq_true g1)]
    exact zap (zuq a1 hc1 hp (W:=betwE least most low high) (by unfold betwE;rw [if_pos g1]) hlow fun r2 h2 m2 a2 hc2 _=>⟨r2,m1.trans m2,a2,hc2⟩)
   ·rintro k' ⟨r2,m2,a2,hc2⟩
    rw [if_neg (fun e=>by have:=of_decide_eq_true e;omega)]
    exact hq n r2 k' hn m2 a2 hc2
  ·refine JoinW0.intro (fun k'=>k'=h1) ?_ ?_
   ·rw [if_neg (fun e=>g1 (of_decide_eq_true e))]
   ·rintro k' rfl
    by_cases g2:most<(n:Int)
    ·rw [if_pos (decide_eq_true g2)]
     exact zap (zuq a1 hc1 hp (W:=betwE least most low high) (by unfold betwE;rw [if_neg g1,if_pos g2]) hhigh fun r2 h2 m2 a2 hc2 _=>hq n r2 h2 hn (m1.trans m2) a2 hc2)
    ·rw [if_neg (fun e=>g2 (of_decide_eq_true e))]
     exact hq n _ k' hn m1 a1 (zau1 hc1 (by unfold betwE;rw [if_neg g1,if_neg g2]))
end
end Lf

namespace Lf
open Go Go.Proofs
section
variable {d h:Hp} {rb:Nat} {bl:Sl} {bs:List UInt8} {r:RS}
theorem zhd1 {α:Type} {g:List α→D α} {r0 r1:RS} {N i:Nat} {xs:List α} (hcn:∀(β:Type) (f:List α→D β),stepD r0 (D.bind (D.many g N []) f) bs=stepD r1 (D.bind (D.many g (N-i) xs) f) bs) (hor:i=N∨∃e,r1=.error e):Cn bs r0 (D.many g N []) r1 xs:=fun β f=>by
 rw [hcn]
 rcases hor with rfl | ⟨e,rfl⟩
 ·rw [Nat.sub_self];rfl
 ·rfl
theorem readT {α σ:Type} {g:List α→D α} {len:Int} {N:Nat} (hn:len=(N:Int)) (hN:N≤1000000) (I:σ→List α→RS→Hp→Prop) (hrd:∀s xs r h,I s xs r h→RAt d h rb bl bs r)
  {B:(Int→σ→Hp→Prop)→Int→σ→Hp→Prop} {X:Int→σ→Hp→Prop} {s0:σ} {h0:Hp} {r0:RS} (h00:I s0 [] r0 h0)
  (hs:∀(i:Nat) s xs at_ h,xs.length=i→i<N→I s xs (.ok at_) h→∀K:Int→σ→Hp→Prop,(∀s' v r' h',I s' (xs++ [v]) r' h'→Cn bs (.ok at_) (g xs) r' v→K (IntKind.wrap .i64 ((i:Int)+1)) s' h')→B K (i:Int) s h)
  (hx:∀(i:Int) s xs r h,I s xs r h→xs.length≤N→Cn bs r0 (D.many g N []) r xs→X i s h):
  LoopW2 (fun again i s h=>NilW (some (decide (i<len))) (some ⟨rb,0,none⟩) fun p=>LdW (some (decide (i<len))) (shInt .i64) h (Addr.add p 2) fun x=>
   LetW ((decide (i<len))&&(x==(0:Int))) fun y=>if y=true then B again i s h else X i s h) (0:Int) s0 h0:=by
 refine LoopW2.intro (fun t s h=>∃(i:Nat) (xs:List α) (r1:RS),t=(i:Int)∧i≤N∧xs.length=i∧I s xs r1 h∧∀(β:Type) (f:List α→D β),stepD r0 (D.bind (D.many g N []) f) bs=stepD r1 (D.bind (D.many g (N-i) xs) f) bs)
  (fun t _ _=>((N:Int)-t).toNat) ⟨0,[],r0,rfl,by omega,rfl,h00,fun _ _=>rfl⟩ ?_
 rintro t s h ⟨i,xs,r1,rfl,hi,hxl,hI,hcn⟩
 obtain ⟨p,e,pl,kb,hs1⟩:=(hrd s xs r1 h hI).blk
 refine zab (ldC (sh:=shInt .i64) e (kb.ldIs (off:=2) (n:=1) rfl) (letW ?_))
 by_cases hgo:i<N∧∃at_,r1=.ok at_
 ·obtain ⟨hlt,at_,rfl⟩:=hgo
  rw [if_pos (by rw [hs1.2.1];simp;omega)]
  refine hs i s xs at_ h hxl hlt hI _ fun s' v r' h' hI' hc=> ?_
  rw [zal (by omega) (by omega)]
  refine ⟨⟨i+1,xs++ [v],r',by omega,by omega,by simp [hxl],hI',fun β f=> ?_⟩,by omega⟩
  have e1:N-i=(N-(i+1))+1:=by omega
  rw [hcn,e1,zcy,zan,hc]
 ·have hor:i=N∨∃e,r1=.error e:=by
   by_cases hlt:i<N
   ·cases r1 with
    | ok a=>exact absurd ⟨hlt,a,rfl⟩ hgo
    | error e=>exact .inr ⟨e,rfl⟩
   ·exact .inl (by omega)
  rw [if_neg (by
   rcases hor with rfl | ⟨y,rfl⟩
   ·simp;omega
   ·have:=hs1.2.1
    rw [←hs1.1] at this
    simp [this])]
  exact hx _ s xs r1 h hI (by omega) (zhd1 hcn hor)
theorem readA {α σ:Type} {g:List α→D α} {len:Int} {N:Nat} (hn:len=(N:Int)) (hN:N≤1000000) (I:σ→List α→RS→Hp→Prop) (hrd:∀s xs r h,I s xs r h→RAt d h rb bl bs r)
  {B:(σ→Int→Hp→Prop)→σ→Int→Hp→Prop} {X:σ→Int→Hp→Prop} {s0:σ} {h0:Hp} {r0:RS} (h00:I s0 [] r0 h0)
  (hs:∀(i:Nat) s xs at_ h,xs.length=i→i<N→I s xs (.ok at_) h→∀K:σ→Int→Hp→Prop,(∀s' v r' h',I s' (xs++ [v]) r' h'→Cn bs (.ok at_) (g xs) r' v→K s' (IntKind.wrap .i64 ((i:Int)+1)) h')→
   (∀s' v r' h' i',(∃e,r'=.error e)→I s' xs r' h'→Cn bs (.ok at_) (g xs) r' v→X s' i' h')→B K s (i:Int) h)
  (hx:∀(i:Int) s xs r h,I s xs r h→xs.length≤N→Cn bs r0 (D.many g N []) r xs→X s i h):
  LoopW2 (fun again s i h=>NilW (some (decide (i<len))) (some ⟨rb,0,none⟩) fun p=>LdW (some (decide (i<len))) (shInt .i64) h (Addr.add p 2) fun x=>
   LetW ((decide (i<len))&&(x==(0:Int))) fun y=>if y=true then B again s i h else X s i h) s0 (0:Int) h0:=by
 refine LoopW2.intro (fun s t h=>∃(i:Nat) (xs:List α) (r1:RS),t=(i:Int)∧i≤N∧xs.length=i∧I s xs r1 h∧∀(β:Type) (f:List α→D β),stepD r0 (D.bind (D.many g N []) f) bs=stepD r1 (D.bind (D.many g (N-i) xs) f) bs)
  (fun _ t _=>((N:Int)-t).toNat) ⟨0,[],r0,rfl,by omega,rfl,h00,fun _ _=>rfl⟩ ?_
 rintro s t h ⟨i,xs,r1,rfl,hi,hxl,hI,hcn⟩
 obtain ⟨p,e,pl,kb,hs1⟩:=(hrd s xs r1 h hI).blk
 refine zab (ldC (sh:=shInt .i64) e (kb.ldIs (off:=2) (n:=1) rfl) (letW ?_))
 by_cases hgo:i<N∧∃at_,r1=.ok at_
 ·obtain ⟨hlt,at_,rfl⟩:=hgo
  rw [if_pos (by rw [hs1.2.1];simp;omega)]
  refine hs i s xs at_ h hxl hlt hI _ (fun s' v r' h' hI' hc=> ?_) fun s' v r' h' i' he hI' hc=> ?_
  ·rw [zal (by omega) (by omega)]
   refine ⟨⟨i+1,xs++ [v],r',by omega,by omega,by simp [hxl],hI',fun β f=> ?_⟩,by omega⟩
   have e1:N-i=(N-(i+1))+1:=by omega
   rw [hcn,e1,zcy,zan,hc]
  ·obtain ⟨e,rfl⟩:=he
   refine hx i' s' xs _ h' hI' (by omega) fun β f=> ?_
   have e1:N-i=(N-(i+1))+1:=by omega
   rw [hcn,e1,zcy,zan,hc]
   rfl
 ·have hor:i=N∨∃e,r1=.error e:=by
   by_cases hlt:i<N
   ·cases r1 with
    | ok a=>exact absurd ⟨hlt,a,rfl⟩ hgo
    | error e=>exact .inr ⟨e,rfl⟩
   ·exact .inl (by omega)
  rw [if_neg (by
   rcases hor with rfl | ⟨y,rfl⟩
   ·simp;omega
   ·have:=hs1.2.1
    rw [←hs1.1] at this
    simp [this])]
  exact hx _ s xs r1 h hI (by omega) (zhd1 hcn hor)
theorem zsh1 {cs:List UInt8} {Q:Hp→Prop} (a:RAt d h rb bl bs r) (hcs:cs.length≤1000) (hq:∀r1 h',Mv [rb] h [rb] h'→RAt d h' rb bl bs r1→Cn bs r (markD cs) r1 ()→Q h'):zds Tryz.prog (some ⟨rb,0,none⟩) ⟨cs.toArray⟩ Q h:=by
 unfold zds
 have hsz:((ByteArray.size ⟨cs.toArray⟩:Nat):Int)=(cs.length:Int):=rfl
 rw [hsz]
 refine forI (n:=cs.length) rfl (by omega) (fun i k=>∃r1,Mv [rb] h [rb] k∧RAt d k rb bl bs r1∧∀(β:Type) (f:Unit→D β),stepD r (D.bind (markD cs) f) bs=stepD r1 (D.bind (markD (cs.drop i)) f) bs) ⟨r,Mv.refl _ _,a,fun _ _=>by rw [List.drop_zero]⟩ ?_ ?_
 ·rintro i hi k ⟨r1,m1,a1,hcn⟩ K hK
  have hci:=List.getElem?_eq_getElem hi
  have hdrop:cs.drop i=cs[i]::cs.drop (i+1):=List.drop_eq_getElem_cons hi
  generalize cs[i]=c at hci hdrop
  obtain ⟨p,e,pl,kb,hs⟩:=a1.blk
  have hp:∀aa,r1=.ok aa→p=(aa:Int):=fun aa e=>by subst e;exact hs.1
  have hstep:∀r3 k3,Mv [rb] k [rb] k3→RAt d k3 rb bl bs r3→(∃n,Cn bs r1 (D.must (D.num 1) fun n=>if n=c.toNat then 0 else 4) r3 n)→K (IntKind.wrap .i64 ((i:Int)+1)) k3:=fun r3 k3 m3 a3 ⟨n,hc⟩=>by
   refine hK k3 ⟨r3,m1.trans m3,a3,fun β f=> ?_⟩
   rw [hcn,hdrop,markD,zan,hc]
  refine JoinW0.intro (fun k3=>∃r3,Mv [rb] k [rb] k3∧RAt d k3 rb bl bs r3∧∃n,Cn bs r1 (D.must (D.num 1) fun n=>if n=c.toNat then 0 else 4) r3 n) ?_ ?_
  ·refine zab (ld_at (sh:=shInt .i64) p (kb.ldIs (off:=1) (n:=1) rfl) ?_)
   refine zac (zif (k:=1) a1 (by omega) (by omega) fun n r2 k2 hn m2 a2 hc2 hz=> ?_)
   obtain ⟨p2,e2,pl2,kb2,hs2⟩:=a2.blk
   refine zab (ld_at (sh:=shInt .i64) e2 (kb2.ldIs (off:=2) (n:=1) rfl) ⟨fun _=>⟨by omega,by omega⟩,letW ?_⟩)
   have hgd:(List.getD cs (Int.toNat (i:Int)) 0)=c:=by
    rw [show Int.toNat (i:Int)=i from rfl,List.getD_eq_getElem?_getD,hci];rfl
   have hgd:(List.getD (⟨cs.toArray⟩:ByteArray).data.toList (Int.toNat (i:Int)) 0)=c:=hgd
   rw [hgd]
   have hcl:=c.toNat_lt
   have hw:IntKind.wrap .u64 ((c.toNat:Nat):Int)=((c.toNat:Nat):Int):=wrapU ⟨by omega,by omega⟩
   rw [hw]
   cases r2 with
   | error y=>
    have hne:=hs2.2.1
    rw [←hs2.1] at hne
    rw [if_neg (by simp [hne])]
    exact ⟨_,m2,a2,0,zhc1 hc2 rfl⟩
   | ok at2=>
    rw [hs2.2.1]
    by_cases hnc:n=c.toNat
    ·rw [if_neg (by simp [hnc])]
     exact ⟨_,m2,a2,n,zau1 hc2 (by simp [hnc])⟩
    ·rw [if_pos (by simp;omega)]
     exact zap (zuq a2 hc2 hp (W:=fun n=>if n=c.toNat then 0 else 4) (by simp [hnc]) (by decide) fun r3 k3 m3 a3 hc3 _=>⟨r3,m2.trans m3,a3,n,hc3⟩)
  ·rintro k3 ⟨r3,m3,a3,hc⟩
   exact hstep r3 k3 m3 a3 hc
 ·rintro k ⟨r1,m1,a1,hcn⟩
  refine hq r1 k m1 a1 fun β f=> ?_
  rw [hcn,List.drop_length]
  rfl
theorem zfh2 {y:Sl} {l:List UInt8} {x:PIns} {at2:Nat} (hb:Bs h y l) (h12:12≤l.length) (hx:zpr l 0=.ok (x,at2)) {Q:S_api_Ins→Hp→Prop} (hq:∀v,insOf v=x→Q v h):zki Tryz.prog y Q h:=by
 unfold zki
 have hlen:y.len=l.length:=hb.1
 have hfl:∀(i:Nat) (K:Int→Prop),i<12→(∀b:UInt8,l[i]?=some b→K (b.toNat:Int))→(InB y.base y.len (i:Int)∧LdW none (shInt .u8) h (sat y.base 1 (i:Int)) K):=fun i K hi hk=>by
  obtain ⟨e1,b,hb2,hld⟩:=Rw.read hb zcb (by omega) (i:=(i:Int)) (by omega) (by omega)
  exact ⟨e1,(b.toNat:Int),hld,hk b hb2⟩
 have hd:∀i,i<12→l[i]?=some (l.getD i 0):=fun i hi=>by
  rw [List.getD_eq_getElem?_getD,List.getElem?_eq_getElem (by omega)];rfl
 have hdl:((l.drop 4).take 8).length=8:=by rw [List.length_take,List.length_drop];omega
 have hv8:=zxh ((l.drop 4).take 8)
 rw [hdl] at hv8
 have hval:x=⟨((l.getD 0 0).toNat:Int),((l.getD 1 0).toNat:Int),((l.getD 2 0).toNat:Int),((l.getD 3 0).toNat:Int),i64 (valB ((l.drop 4).take 8))⟩:=by
  have hnum:∀(at_:Nat),at_<12→D.num 1 l at_=.ok ((l.getD at_ 0).toNat,at_+1):=fun at_ ha=>by
   unfold D.num
   rw [if_neg (by omega)]
   have:(l.drop at_).take 1=[l.getD at_ 0]:=by
    have hla:at_<l.length:=by omega
    rw [List.drop_eq_getElem_cons hla,List.getD_eq_getElem?_getD,List.getElem?_eq_getElem hla]
    rfl
   rw [this]
   simp [valB]
  have h8:D.num 8 l 4=.ok (valB ((l.drop 4).take 8),12):=by
   unfold D.num
   rw [if_neg (by omega)]
  have hz:∀at_,at_<12→zD 1 l at_=.ok (((l.getD at_ 0).toNat:Int),at_+1):=fun at_ ha=>by
   unfold zD D.map D.bind
   rw [hnum at_ ha];rfl
  have h9:D.map i64 (D.num 8) l 4=.ok (i64 (valB ((l.drop 4).take 8)),12):=by
   unfold D.map D.bind
   rw [h8];rfl
  unfold zpr at hx
  have b1:∀ {α β:Type} {d:D α} {f:α→D β} {b:List UInt8} {a a2:Nat} {v:α},d b a=.ok (v,a2)→D.bind d f b a=f v b a2:=fun {α β d f b a a2 v} e=>by unfold D.bind;rw [e]
  rw [b1 (hz 0 (by omega)),b1 (hz 1 (by omega)),b1 (hz 2 (by omega)),b1 (hz 3 (by omega)),b1 h9] at hx
  have h2:=Except.ok.inj hx
  exact (congrArg Prod.fst h2).symm
 refine forA (n:=8) rfl (by omega) (fun i (v:Int) h'=>h'=h∧v=(valB (((l.drop 4).take 8).take i):Int)) ⟨rfl,rfl⟩ ?_ ?_
 ·rintro i hi v h' ⟨rfl,rfl⟩ K hK
  rw [zal (n:=(4:Int)+(i:Int)) (by omega) (by omega),show (4:Int)+(i:Int)=((4+i:Nat):Int) by omega]
  refine hfl (4+i) _ (by omega) fun b hb2=> ?_
  rw [zal (n:=(8:Int)*(i:Int)) (by omega) (by omega)]
  refine ⟨by omega,?_⟩
  have hx2:((l.drop 4).take 8)[i]?=some b:=by
   rw [List.getElem?_take,if_pos hi,List.getElem?_drop];exact hb2
  have hv2:=zxh (((l.drop 4).take 8).take i)
  have hti:(((l.drop 4).take 8).take i).length=i:=by rw [List.length_take,hdl];omega
  rw [hti] at hv2
  rw [zul1 hv2 (by omega) b.toNat_lt]
  refine hK _ _ ⟨rfl,?_⟩
  have e4:((l.drop 4).take 8).take (i+1)=((l.drop 4).take 8).take i++((l.drop 4).take 8)[i]?.toList:=List.take_add_one
  rw [e4,hx2]
  show _=((valB (((l.drop 4).take 8).take i++ [b]):Nat):Int)
  rw [zlb1,hti]
 ·rintro v h' ⟨rfl,rfl⟩
  rw [List.take_of_length_le (by omega),zmz (by omega)]
  refine hfl 0 _ (by omega) fun b0 q0=>hfl 1 _ (by omega) fun b1 q1=>hfl 2 _ (by omega) fun b2 q2=>hfl 3 _ (by omega) fun b3 q3=>hq _ ?_
  have w8:∀b:UInt8,IntKind.wrap .i64 ((b.toNat:Nat):Int)=(b.toNat:Int):=fun b=>by
   have:=b.toNat_lt
   exact zal (by omega) (by omega)
  rw [w8,w8,w8,w8,hval]
  rw [hd 0 (by omega)] at q0;rw [hd 1 (by omega)] at q1;rw [hd 2 (by omega)] at q2;rw [hd 3 (by omega)] at q3
  cases q0;cases q1;cases q2;cases q3
  rfl
end
end Lf

namespace Lf
open Go Go.Proofs
theorem zco2 {l:List UInt8} {a:Nat} (h:a+12≤l.length):zpr l a=.ok (⟨((l.getD a 0).toNat:Int),((l.getD (a+1) 0).toNat:Int),((l.getD (a+1+1) 0).toNat:Int),((l.getD (a+1+1+1) 0).toNat:Int),i64 (valB ((l.drop (a+1+1+1+1)).take 8))⟩,a+12):=by
 have hnum:∀at_:Nat,at_<l.length→D.num 1 l at_=.ok ((l.getD at_ 0).toNat,at_+1):=fun at_ ha=>by
  unfold D.num
  rw [if_neg (by omega)]
  have:(l.drop at_).take 1=[l.getD at_ 0]:=by
   rw [List.drop_eq_getElem_cons ha,List.getD_eq_getElem?_getD,List.getElem?_eq_getElem ha]
   rfl
  rw [this]
  simp [valB]
 have hz:∀at_:Nat,at_<l.length→zD 1 l at_=.ok (((l.getD at_ 0).toNat:Int),at_+1):=fun at_ ha=>by
  unfold zD D.map D.bind
  rw [hnum at_ ha];rfl
 have h9:D.map i64 (D.num 8) l (a+1+1+1+1)=.ok (i64 (valB ((l.drop (a+1+1+1+1)).take 8)),a+12):=by
  have hn8:D.num 8 l (a+1+1+1+1)=.ok (valB ((l.drop (a+1+1+1+1)).take 8),a+12):=by
   unfold D.num
   rw [if_neg (by omega)]
  unfold D.map D.bind
  rw [hn8];rfl
 have b1:∀ {α β:Type} {d:D α} {f:α→D β} {b:List UInt8} {a a2:Nat} {v:α},d b a=.ok (v,a2)→D.bind d f b a=f v b a2:=fun {α β d f b a a2 v} e=>by unfold D.bind;rw [e]
 unfold zpr
 rw [b1 (hz a (by omega)),b1 (hz (a+1) (by omega)),b1 (hz (a+1+1) (by omega)),b1 (hz (a+1+1+1) (by omega)),b1 h9]
 rfl
theorem zfi2 {l:List UInt8} {a:Nat} (h:a+12≤l.length):∃x,zpr l a=.ok (x,a+12)∧zpr (l.drop a) 0=.ok (x,0+12):=by
 refine ⟨_,zco2 h,?_⟩
 rw [zco2 (l:=l.drop a) (a:=0) (by rw [List.length_drop];omega)]
 have hg:∀i,(l.drop a).getD i 0=l.getD (a+i) 0:=fun i=>by
  rw [List.getD_eq_getElem?_getD,List.getD_eq_getElem?_getD,List.getElem?_drop]
 rw [hg,hg,hg,hg,List.drop_drop]
 rfl
theorem zsi1 {x:PIns} {n locks:Int}:0≤(zbv x n locks).2∧(zbv x n locks).2≤4:=by
 by_cases hw:(zbv x n locks).1=0
 ·unfold zbv at hw ⊢
  repeat' split
  all_goals first | (constructor<;>decide) | simp_all | omega
 ·rw [zhy1 hw]
  split
  ·omega
  ·unfold zeo1
   split
   ·omega
   ·split
    ·omega
    ·split<;>omega
section
variable {d h:Hp} {rb:Nat} {bl:Sl} {bs:List UInt8} {r:RS}
set_option maxRecDepth 20000 in
theorem zcp2 {many locks:Int} {N:Nat} {Q:Sl→Hp→Prop} (a:RAt d h rb bl bs r) (hmany:many=(N:Int)) (hN:N≤1000000)
  (hq:∀l ps r1 B h',TB d h rb bl bs h' r1 B→InsO l ps h' B→Cn bs r (D.many (fun _=>insD many locks) N []) r1 ps→Q l h'):zdw Tryz.prog (some ⟨rb,0,none⟩) many locks Q h:=by
 unfold zdw
 have hsm:=a.small
 refine newF (xs:=([]:List S_api_Ins)) (enc:=fun x=>zad (sh_api_Ins.enc x)) (sz:=5) rfl (fun _=>rfl) fun b1 k1 hn1 hle1 _ o1=> ?_
 have s1:TB d h rb bl bs k1 r [b1]:=⟨a.known,fun b o e _=>hle1 b o e,a.grow hle1,by simp,fun b hb=>by rw [List.mem_singleton.1 hb];exact hn1⟩
 have w1:InsO ⟨some ⟨b1,0,none⟩,0,0⟩ [] k1 [b1]:=⟨[],[b1],[],rfl,o1,rfl⟩
 refine readA (bl:=bl) (rb:=rb) (bs:=bs) (d:=d) (g:=fun _=>insD many locks) hmany hN (fun (l:Sl) (ps:List PIns) r' k=>∃B,TB d h rb bl bs k r' B∧InsO l ps k B) (fun l ps r' k hI=>hI.choose_spec.1.rd) ⟨_,s1,w1⟩ ?_ ?_
 ·rintro i l ps at_ k hpl hi ⟨B,s,o⟩ K hK hX
  have hkn:=okIns.known o
  obtain ⟨p,e,pl,kb,hs⟩:=s.rd.blk
  obtain ⟨rfl,rfl,hn⟩:=hs
  have hlen:bl.len=bs.length:=a.src.1
  have hn:at_≤bs.length:=by omega
  refine zab (ld_at (sh:=shSl) bl (kb.ldIs (off:=0) (n:=1) rfl) (zab (ld_at (sh:=shInt .i64) (at_:Int) (kb.ldIs (off:=1) (n:=1) rfl) ?_)))
  rw [zal (by omega) (by omega)]
  by_cases hsh:bs.length<at_+12
  ·have hlt:((bl.len:Nat):Int)-(at_:Int)<(12:Int):=by omega
   rw [if_pos (decide_eq_true hlt)]
   refine zab (ld_at (sh:=shSl) bl (kb.ldIs (off:=0) (n:=1) rfl) (zap (zsr kb fun k2 m2 kb2=> ?_)))
   rw [if_pos rfl,if_pos rfl] at kb2
   obtain ⟨s2,hs2⟩:=s.next hkn m2 (s.rd.of m2 kb2 (r1:=.error (5,bs.length)) ⟨rfl,by decide,by rw [hlen]⟩)
   refine hX l ⟨0,0,0,0,0⟩ _ k2 (i:Int) ⟨_,rfl⟩ ⟨B,s2,okIns.same o hs2⟩ (Cn.err ?_)
   unfold insD D.mustAt
   cases hi:zpr bs at_ with
   | error e=>rw [zwy1 bs at_ e hi]
   | ok y=>
    obtain ⟨y,a2⟩:=y
    have h1:=(law_ins.sound bs at_ y a2 hi hn).2.1
    have h2:=law_ins.within hi hn
    simp [insB,zaf] at h1
    omega
  ·have hlt:¬((bl.len:Nat):Int)-(at_:Int)<(12:Int):=by omega
   rw [if_neg (fun e=>hlt (of_decide_eq_true e))]
   refine zab (ld_at (sh:=shSl) bl (kb.ldIs (off:=0) (n:=1) rfl) (zab (ld_at (sh:=shInt .i64) (at_:Int) (kb.ldIs (off:=1) (n:=1) rfl) ?_)))
   refine ⟨⟨by omega,by rw [hlen];exact Int.ofNat_le.2 hn⟩,letW ?_⟩
   have e2:((at_:Int)).toNat=at_:=rfl
   rw [e2]
   have hcap:=a.cap
   obtain ⟨x,hx,hx0⟩:=zfi2 (l:=bs) (a:=at_) (by omega)
   have hcut:=(Rw.mono s.rd.le a.src).cut (a:=at_) (b:=bl.len) (c:=bl.cap) (n:=bl.len-at_) (m:=bl.cap-at_) zcb (by omega) (by omega) (by omega) rfl
   rw [List.take_of_length_le (by rw [List.length_drop];omega)] at hcut
   refine zxg (zfh2 hcut (by rw [List.length_drop];omega) hx0 fun v hv=> ?_)
   subst hv
   refine zkt (zkz1 ?_)
   by_cases hw:(zbv (insOf v) many locks).1=0
   ·rw [if_neg (by simpa using hw)]
    refine newF (xs:=[v]) (enc:=fun x=>zad (sh_api_Ins.enc x)) (sz:=5) rfl (fun _=>rfl) fun b5 k5 _ hle5 _ o5=> ?_
    have s5:=s.grow hle5
    have oo:=okIns.same o (zbb hle5 hkn)
    refine tmid (P:=[]) (S:=[]) (B':=[]) (PureO.ok _) a.le (by simpa using s5) oo (v:=v) (p:=insOf v) ⟨rfl,rfl⟩ (by simp) (o5.rw fun _=>rfl) (fun _=>rfl) (fun _=>rfl) rfl (by omega) fun l' k6 B6 s6 o6 _=> ?_
    have s6:TB d h rb bl bs k6 (.ok at_) B6:=by simpa using s6
    obtain ⟨p6,e6,pl6,kb6,hs6⟩:=s6.rd.blk
    obtain ⟨rfl,rfl,_⟩:=hs6
    refine zab (ld_at (sh:=shInt .i64) (at_:Int) (kb6.ldIs (off:=1) (n:=1) rfl) (zab (zdp (b:=rb) (off:=1) kb6 (by simp [zcc]) fun k7 m7 kb7=> ?_)))
    rw [zal (n:=(at_:Int)+12) (by omega) (by omega)] at kb7
    have kb7:Blk k7 rb (zcc bl ((at_:Int)+12) 0 pl6):=by simpa [zcc] using kb7
    obtain ⟨s7,hs7⟩:=s6.next (okIns.known o6) m7 (s6.rd.of m7 kb7 (r1:=.ok (at_+12)) ⟨by push_cast;rfl,rfl,by push_cast;omega⟩)
    refine hK l' (insOf v) _ k7 ⟨B6,s7,okIns.same o6 hs7⟩ (Cn.ok ?_)
    unfold insD D.mustAt
    rw [hx]
    dsimp only
    rw [if_pos hw]
   ·rw [if_pos (by simpa using hw)]
    have hpl:=zsi1 (x:=insOf v) (n:=many) (locks:=locks)
    refine zab (ld_at (sh:=shInt .i64) (at_:Int) (kb.ldIs (off:=1) (n:=1) rfl) ?_)
    rw [zal (by omega) (by omega)]
    refine zap (zsr kb fun k2 m2 kb2=> ?_)
    rw [if_pos rfl,if_pos rfl] at kb2
    obtain ⟨s2,hs2⟩:=s.next hkn m2 (s.rd.of m2 kb2 (r1:=.error ((zbv (insOf v) many locks).1,at_+(zbv (insOf v) many locks).2.toNat)) ⟨rfl,hw,by push_cast;omega⟩)
    refine hX l ⟨0,0,0,0,0⟩ _ k2 (i:Int) ⟨_,rfl⟩ ⟨B,s2,okIns.same o hs2⟩ (Cn.err ?_)
    unfold insD D.mustAt
    rw [hx]
    dsimp only
    rw [if_neg hw]
 ·rintro i l ps r' k ⟨B,s,o⟩ hpl hc
  exact hq l ps r' B k s o hc
end
end Lf

namespace Lf
open Go Go.Proofs
theorem ziz2 {k:Nat} {bs:List UInt8} {at_ at2:Nat} {x:Int} (hz:zD k bs at_=.ok (x,at2)):∃n:Nat,x=(n:Int):=by
 unfold zD D.map D.bind at hz
 cases hn:D.num k bs at_ with
 | error e=>rw [hn] at hz;cases hz
 | ok y=>
  obtain ⟨n,a3⟩:=y
  rw [hn] at hz
  have hz:=Except.ok.inj hz
  exact ⟨n,(congrArg Prod.fst hz).symm⟩
theorem zph {k:Nat} {W W':Int→Int} (hW:∀n:Nat,W n=W' n):D.must (zD k) W=D.must (zD k) W':=by
 funext b at_
 unfold D.must
 cases hz:zD k b at_ with
 | error e=>rfl
 | ok y=>
  obtain ⟨x,at2⟩:=y
  obtain ⟨n,rfl⟩:=ziz2 hz
  dsimp only
  rw [hW n]
theorem zpx1 {m:Int} (n:Nat):betwE 1 m 1 3 n=cntE m n:=by
 unfold betwE cntE
 by_cases h:n=0
 ·subst h;rfl
 ·rw [if_neg (show ¬((n:Int)<1) by omega),if_neg (show ¬((n:Int)=0) by omega)]
theorem zbn1 {a b:Int} (n:Nat):betwE a b 2 2 n=rngE a b n:=by
 unfold betwE rngE within
 by_cases h1:(n:Int)<a
 ·rw [if_pos h1,if_neg (by simp;omega)]
 ·rw [if_neg h1]
  by_cases h2:b<(n:Int)
  ·rw [if_pos h2,if_neg (by simp;omega)]
  ·rw [if_neg h2,if_pos (by simp;omega)]
theorem zlk1 {m e:Int} (n:Nat):betwE 0 m e e n=if m<(n:Int) then e else 0:=by
 unfold betwE
 rw [if_neg (by omega)]
section
variable {d h:Hp} {rb:Nat} {bl:Sl} {bs:List UInt8} {r r1:RS}
theorem zfj2 {α:Type} {g:D α} {W:α→Int} {n:α} (hc:Cn bs r (D.must g W) r1 n) (h:∃a,r1=.ok a):W n=0:=by
 obtain ⟨a,rfl⟩:=h
 have hd:=hc.done
 cases r with
 | error y=>cases hd
 | ok at_=>
  have hd:D.must g W bs at_=.ok (n,a):=hd
  unfold D.must at hd
  cases hg:g bs at_ with
  | error e=>rw [hg] at hd;cases hd
  | ok y=>
   obtain ⟨x,a2⟩:=y
   rw [hg] at hd
   dsimp only at hd
   by_cases hw:W x=0
   ·rw [if_pos hw] at hd
    cases hd
    exact hw
   ·rw [if_neg hw] at hd;cases hd
theorem zll1 {α:Type} {g:D α} {n:α} (hc:Cn bs r g r1 n) (h:∃a,r1=.ok a):∃a,r=.ok a:=by
 obtain ⟨a,rfl⟩:=h
 have hd:=hc.done
 cases r with
 | error y=>cases hd
 | ok at_=>exact ⟨at_,rfl⟩
theorem zcq2 {l:Sl} {ls:List Int} {e:Int} (us:Us h l ls) (hl:ls.length≤1000000) {K:Int→Prop} (hk:∀x,(e=0→∀z,ls.getLast?=some z→x=z)→K x):
  (((e==(0:Int))&&decide ((ls.length:Int)>(0:Int)))=true→InB l.base l.len (IntKind.wrap .i64 ((ls.length:Int)-1)))∧
   LdW (some ((e==(0:Int))&&decide ((ls.length:Int)>(0:Int)))) (shInt .u64) h (sat l.base 1 (IntKind.wrap .i64 ((ls.length:Int)-1))) K:=by
 rw [zal (by omega) (by omega)]
 refine Rs.getC (sh:=shInt .u64) us (0:Int) (fun _=>rfl) (by omega) (fun hc=> ?_) fun (x:Int) hx=>hk x fun he z hz=> ?_
 ·simp at hc
  omega
 ·have h0:0<ls.length:=by
   cases ls with
   | nil=>cases hz
   | cons _ _=>simp
  have hx:=hx (by simp [he];omega)
  rw [List.getLast?_eq_getElem?] at hz
  rw [show ((ls.length:Int)-1).toNat=ls.length-1 by omega,hz] at hx
  exact (Option.some.inj hx).symm
set_option maxRecDepth 20000 in
theorem zyy1 {ls:List Int} {l:Sl} {at_ n:Nat} {p1:Int} (hp1:p1=(at_:Int)) (hl:ls.length≤1000000) (a1:RAt d h rb bl bs r1) (us:∀h',Mv [rb] h [rb] h'→Us h' l ls) (hc:Cn bs (.ok at_) (zD 8) r1 (n:Int)) {K:Hp→Prop}
  (hk:∀r3 h3,Mv [rb] h [rb] h3→RAt d h3 rb bl bs r3→Cn bs (.ok at_) (D.must (zD 8) (labE ls)) r3 (n:Int)→K h3):
  JoinW0 (fun k=>
   NilW none (some ⟨rb,0,none⟩) fun p2=>LdW none (shInt .i64) h (Addr.add p2 2) fun x2=>LetW ((x2==(0:Int))&&(decide (((ls.length:Nat):Int)>(0:Int)))) fun y1=>
   ((y1=true→(InB l.base l.len (IntKind.wrap .i64 (((ls.length:Nat):Int)-(1:Int)))))∧LdW (some y1) (shInt .u64) h (sat l.base 1 (IntKind.wrap .i64 (((ls.length:Nat):Int)-(1:Int)))) fun x3=>
   LetW (y1&&((n:Int)==x3)) fun y2=>(if y2=true then Call0 Tryz.prog zak [(.pointer (some ⟨rb,0,none⟩)),(.int .i64 (8:Int)),(.int .i64 p1)] (fun h5=>k h5) h else k h)))
  (fun h5=>JoinW0 (fun k=>
   NilW none (some ⟨rb,0,none⟩) fun p2=>LdW none (shInt .i64) h5 (Addr.add p2 2) fun x2=>LetW ((x2==(0:Int))&&(decide (((ls.length:Nat):Int)>(0:Int)))) fun y1=>
   ((y1=true→(InB l.base l.len (IntKind.wrap .i64 (((ls.length:Nat):Int)-(1:Int)))))∧LdW (some y1) (shInt .u64) h5 (sat l.base 1 (IntKind.wrap .i64 (((ls.length:Nat):Int)-(1:Int)))) fun x3=>
   LetW (y1&&(decide ((n:Int)<x3))) fun y2=>(if y2=true then Call0 Tryz.prog zak [(.pointer (some ⟨rb,0,none⟩)),(.int .i64 (7:Int)),(.int .i64 p1)] (fun h6=>k h6) h5 else k h5)))
   K):=by
 have hp:∀a,(Except.ok at_:RS)=.ok a→p1=(a:Int):=fun a e=>by cases e;exact hp1
 refine JoinW0.intro (fun k'=>∃r3,Mv [rb] h [rb] k'∧RAt d k' rb bl bs r3∧(((∃y,r3=.error y)∧Cn bs (.ok at_) (D.must (zD 8) (labE ls)) r3 (n:Int))∨(Cn bs (.ok at_) (zD 8) r3 (n:Int)∧∀z,ls.getLast?=some z→(n:Int)≠z))) ?_ ?_
 ·obtain ⟨p,e,pl,kb,hs⟩:=a1.blk
  refine zab (ld_at (sh:=shInt .i64) e (kb.ldIs (off:=2) (n:=1) rfl) (letW ?_))
  refine zcq2 (us h (Mv.refl _ _)) hl fun x hx=>letW ?_
  cases r1 with
  | error y=>
   have hne:=hs.2.1
   rw [←hs.1] at hne
   rw [if_neg (by simp [hne])]
   exact ⟨_,Mv.refl _ _,a1,.inl ⟨⟨_,rfl⟩,zhc1 hc rfl⟩⟩
  | ok a3=>
   obtain ⟨rfl,rfl,h3⟩:=hs
   by_cases hlast:∃z,ls.getLast?=some z∧(n:Int)=z
   ·obtain ⟨z,hz,hnz⟩:=hlast
    have h0:0<ls.length:=by
     cases ls with
     | nil=>cases hz
     | cons _ _=>simp
    have hxz:=hx rfl z hz
    rw [if_pos (by simp [hxz,hnz];exact h0)]
    exact zap (zuq a1 hc hp (W:=labE ls) (by unfold labE;rw [hz];dsimp only;rw [if_pos hnz]) (by decide) fun r4 h4 m4 a4 hc4 he4=>⟨r4,m4,a4,.inl ⟨he4,hc4⟩⟩)
   ·have hno:∀z,ls.getLast?=some z→(n:Int)≠z:=fun z hz e=>hlast ⟨z,hz,e⟩
    rw [if_neg (by
     intro hh
     simp at hh
     obtain ⟨z,hz⟩:∃z,ls.getLast?=some z:=by
      cases hg:ls.getLast? with
      | none=>
       have h0:0<ls.length:=hh.1
       rw [List.getLast?_eq_none_iff.1 hg] at h0
       cases h0
      | some z=>exact ⟨z,rfl⟩
     exact hno z hz (by rw [hh.2];exact hx rfl z hz))]
    exact ⟨_,Mv.refl _ _,a1,.inr ⟨hc,hno⟩⟩
 ·rintro h5 ⟨r3,m3,a3,hor⟩
  refine JoinW0.intro (fun k'=>∃r4,Mv [rb] h [rb] k'∧RAt d k' rb bl bs r4∧Cn bs (.ok at_) (D.must (zD 8) (labE ls)) r4 (n:Int)) ?_ ?_
  ·obtain ⟨p,e,pl,kb,hs⟩:=a3.blk
   refine zab (ld_at (sh:=shInt .i64) e (kb.ldIs (off:=2) (n:=1) rfl) (letW ?_))
   refine zcq2 (us h5 m3) hl fun x hx=>letW ?_
   cases r3 with
   | error y=>
    have hne:=hs.2.1
    rw [←hs.1] at hne
    rw [if_neg (by simp [hne])]
    refine ⟨_,m3,a3,?_⟩
    rcases hor with ⟨-,hc4⟩ | ⟨hc4, -⟩
    ·exact hc4
    ·exact zhc1 hc4 rfl
   | ok a4=>
    obtain ⟨rfl,rfl,h4⟩:=hs
    rcases hor with ⟨⟨y,hy⟩, -⟩ | ⟨hc4,hno⟩
    ·cases hy
    by_cases hlast:∃z,ls.getLast?=some z∧(n:Int)<z
    ·obtain ⟨z,hz,hnz⟩:=hlast
     have h0:0<ls.length:=by
      cases ls with
      | nil=>cases hz
      | cons _ _=>simp
     have hxz:=hx rfl z hz
     rw [if_pos (by simp [hxz,hnz];exact h0)]
     exact zap (zuq a3 hc4 hp (W:=labE ls) (by unfold labE;rw [hz];dsimp only;rw [if_neg (hno z hz),if_pos hnz]) (by decide) fun r5 h6 m6 a6 hc6 _=>⟨r5,m3.trans m6,a6,hc6⟩)
    ·rw [if_neg (by
      intro hh
      simp at hh
      obtain ⟨z,hz⟩:∃z,ls.getLast?=some z:=by
       cases hg:ls.getLast? with
       | none=>
       have h0:0<ls.length:=hh.1
       rw [List.getLast?_eq_none_iff.1 hg] at h0
       cases h0
       | some z=>exact ⟨z,rfl⟩
      exact hlast ⟨z,hz,by rw [←hx rfl z hz];exact hh.2⟩)]
     refine ⟨_,m3,a3,zau1 hc4 ?_⟩
     unfold labE
     cases hg:ls.getLast? with
     | none=>rfl
     | some z=>
      dsimp only
      rw [if_neg (hno z hg),if_neg (fun e=>hlast ⟨z,hg,e⟩)]
  ·rintro k' ⟨r4,m4,a4,hc4⟩
   exact hk r4 k' m4 a4 hc4
end
end Lf

namespace Lf
open Go Go.Proofs
section
variable {d h:Hp} {rb:Nat} {bl:Sl} {bs:List UInt8} {r:RS}
theorem zfw {B1 B2:List Nat} {P:Nat→Prop} (h1:∀b∈B1,P b) (h2:∀b∈B2,P b):∀b∈B1++B2,P b:=fun b hb=>by
 rcases List.mem_append.1 hb with hb | hb
 ·exact h1 b hb
 ·exact h2 b hb
set_option maxRecDepth 20000 in
theorem zva1 {Q:S_api_Config→Hp→Prop} (a:RAt d h rb bl bs r)
  (hq:∀x c r1 B h',TB d h rb bl bs h' r1 B→CfgO x c h' B→Cn bs r zpg r1 c→Q x h'):zdf Tryz.prog (some ⟨rb,0,none⟩) Q h:=by
 unfold zdf
 refine zfo (zsh1 (cs:=[70,66,67,70,1]) a (by decide) fun r1 h1 m1 a1 hc1=> ?_)
 refine zaq (zky (k:=1) a1 (by omega) (by omega) (by decide) (by decide) (by decide) fun nl r2 h2 hnl m2 a2 hc2=> ?_)
 have hnl:nl<256:=hnl
 have hok2:=zfj2 hc2
 rw [zph (W':=cntE 8) zpx1] at hc2
 have s2:TB d h rb bl bs h2 r2 []:=TB.step a.known (m1.trans m2) a2
 refine readT (N:=nl) (bl:=bl) (rb:=rb) (bs:=bs) (d:=d) (g:=fun acc=>D.must (zD 8) (labE acc)) rfl (by omega)
  (fun (x:S_api_Config) ls r' k=>∃B,TB d h rb bl bs k r' B∧UsO x.Labels ls k B∧(x.Table=⟨none,0,0⟩∧x.Procs=⟨none,0,0⟩)∧((∃a,r'=.ok a)→∃a,r2=.ok a))
  (fun x ls r' k hI=>hI.choose_spec.1.rd) ⟨[],s2,RowsO.nil,⟨rfl,rfl⟩,fun h=>h⟩ ?_ ?_
 ·rintro i x ls at_ k hil hi ⟨B,s,o,hx,hok⟩ K hK
  have hkn:=okUs.known o
  obtain ⟨p,e,pl,kb,hs⟩:=s.rd.blk
  obtain ⟨rfl,rfl,hn⟩:=hs
  refine zab (ld_at (sh:=shInt .i64) (at_:Int) (kb.ldIs (off:=1) (n:=1) rfl) ?_)
  refine zac (zif (k:=8) s.rd (by omega) (by omega) fun n r3 k3 hn3 m3 a3 hc3 _=> ?_)
  obtain ⟨s3,hs3⟩:=s.next hkn m3 a3
  have o3:=okUs.same o hs3
  subst hil
  refine zyy1 (ls:=ls) (n:=n) rfl (by omega) a3 (fun h' m'=>(okUs.same o3 (zmv m' (okUs.known o3) fun b hb e=>s3.nr (List.mem_singleton.1 e▸hb))).rd) (hc3.map:Cn bs (.ok at_) (zD 8) r3 (n:Int)) fun r4 k4 m4 a4 hc4=> ?_
  obtain ⟨s4,hs4⟩:=s3.next (okUs.known o3) m4 a4
  have o4:=okUs.same o3 hs4
  refine newF (xs:=[(n:Int)]) (enc:=fun x=>zad ((shInt .u64).enc x)) (sz:=1) rfl (fun _=>rfl) fun b5 k5 _ hle5 _ o5=> ?_
  have s5:=s4.grow hle5
  have oo:=okUs.same o4 (zbb hle5 (okUs.known o4))
  refine tmid (P:=[]) (S:=[]) (B':=[]) (PureO.ok _) a.le (by simpa using s5) oo (v:=(n:Int)) (p:=(n:Int)) ⟨rfl,rfl⟩ (by simp) (o5.rw fun _=>rfl) (fun _=>rfl) (fun _=>rfl) rfl (by omega) fun l' k6 B6 s6 o6 _=> ?_
  exact hK _ (n:Int) r4 k6 ⟨B6,by simpa using s6,o6,hx,fun _=>hok ⟨_,rfl⟩⟩ hc4
 rintro i x1 ls r3 k3 ⟨B1,s3,o1,⟨hx1,hx2⟩,hok3⟩ hll hc3
 refine zaq (zky (k:=1) s3.rd (by omega) (by omega) (by decide) (by decide) (by decide) fun nt r4 k4 hnt m4 a4 hc4=> ?_)
 have hnt:nt<256:=hnt
 rw [zph (W':=cntE 64) zpx1] at hc4
 obtain ⟨s4,hs4⟩:=s3.next (okUs.known o1) m4 a4
 have o4:=okUs.same o1 hs4
 have hnl1:(∃a,r4=.ok a)→1≤nl:=fun ho=>by
  have:=hok2 (hok3 (zll1 hc4 ho))
  unfold betwE at this
  by_cases h1:(nl:Int)<1
  ·rw [if_pos h1] at this;cases this
  ·omega
 refine readT (N:=nt) (bl:=bl) (rb:=rb) (bs:=bs) (d:=d) (g:=fun _=>D.must (zD 1) (rngE 0 ((nl:Int)-1))) rfl (by omega)
  (fun (x:S_api_Config) ts r' k=>∃B2,TB d h rb bl bs k r' (B1++B2)∧UsO x.Labels ls k B1∧IsO x.Table ts k B2∧x.Procs=⟨none,0,0⟩∧((∃a,r'=.ok a)→1≤nl))
  (fun x ls r' k hI=>hI.choose_spec.1.rd) ⟨[],by simpa using s4,o4,by rw [hx1];exact RowsO.nil,hx2,hnl1⟩ ?_ ?_
 ·rintro i x ts at_ k hil hi ⟨B2,s,o1,o2,hx,hok⟩ K hK
  have h1nl:=hok ⟨_,rfl⟩
  have hkn:=zfw (okUs.known o1) (okIs.known o2)
  rw [zal (n:=(nl:Int)-1) (by omega) (by omega)]
  refine zaq (zky (k:=1) (least:=0) (most:=(nl:Int)-1) s.rd (by omega) (by omega) (by decide) (by decide) (by omega) fun v r5 k5 hv m5 a5 hc5=>⟨⟨trivial,trivial⟩,?_⟩)
  rw [zph (W':=rngE 0 ((nl:Int)-1)) zbn1] at hc5
  obtain ⟨s5,hs5⟩:=s.next hkn m5 a5
  have p1:=okUs.same o1 fun b hb=>hs5 b (mem_a hb)
  have p2:=okIs.same o2 fun b hb=>hs5 b (mem_b hb)
  refine newF (xs:=[(v:Int)]) (enc:=fun x=>zad ((shInt .i64).enc x)) (sz:=1) rfl (fun _=>rfl) fun b6 k6 _ hle6 _ o6=>⟨⟨trivial,trivial⟩,?_⟩
  have s6:=s5.grow hle6
  have q1:=okUs.same p1 (zbb hle6 (okUs.known p1))
  have q2:=okIs.same p2 (zbb hle6 (okIs.known p2))
  refine tmid (P:=B1) (S:=[]) (B':=[]) (PureO.ok _) a.le (by simpa using s6) q2 (v:=(v:Int)) (p:=(v:Int)) ⟨rfl,rfl⟩ (by simpa using okUs.known q1) (o6.rw fun _=>rfl) (fun _=>rfl) (fun _=>rfl) rfl (by omega) fun l' k7 B7 s7 o7 hk7=> ?_
  exact hK _ (v:Int) r5 k7 ⟨B7,by simpa using s7,okUs.same q1 fun b hb=>hk7 b (by simpa using hb),o7,hx,fun _=>h1nl⟩ hc5
 rintro i x2 ts r5 k5 ⟨B2,s5,o1,o2,hx2,hok5⟩ htl hc5
 refine zaq (zky (k:=2) s5.rd (by omega) (by omega) (by decide) (by decide) (by decide) fun fuel r6 k6 hfuel m6 a6 hc6=> ?_)
 refine zaq (zky (k:=1) a6 (by omega) (by omega) (by decide) (by decide) (by decide) fun lane r7 k7 hlane m7 a7 hc7=> ?_)
 refine zaq (zky (k:=1) a7 (by omega) (by omega) (by decide) (by decide) (by decide) fun locks r8 k8 hlocks m8 a8 hc8=> ?_)
 refine zaq (zky (k:=2) a8 (by omega) (by omega) (by decide) (by decide) (by decide) fun log r9 k9 hlog m9 a9 hc9=> ?_)
 refine zaq (zky (k:=1) a9 (by omega) (by omega) (by decide) (by decide) (by decide) fun np r10 k10 hnp m10 a10 hc10=> ?_)
 have hnp:np<256:=hnp
 rw [zph (W':=rngE 1 256) zbn1] at hc6
 rw [zph (W':=rngE 1 64) zbn1] at hc7
 rw [zph (W':=rngE 0 8) zbn1] at hc8
 rw [zph (W':=rngE 0 4096) zbn1] at hc9
 rw [zph (W':=cntE 32) zpx1] at hc10
 obtain ⟨s10,hs10⟩:=s5.next (zfw (okUs.known o1) (okIs.known o2)) (m6.trans (m7.trans (m8.trans (m9.trans m10)))) a10
 have p1:=okUs.same o1 fun b hb=>hs10 b (mem_a hb)
 have p2:=okIs.same o2 fun b hb=>hs10 b (mem_b hb)
 have hok10:(∃a,r10=.ok a)→1≤nl:=fun ho=>hok5 (zll1 hc6 (zll1 hc7 (zll1 hc8 (zll1 hc9 (zll1 hc10 ho)))))
 refine readT (N:=np) (bl:=bl) (rb:=rb) (bs:=bs) (d:=d) (g:=fun _=>procD (nl:Int) (locks:Int)) rfl (by omega)
  (fun (x:S_api_Config) ps r' k=>∃B3,TB d h rb bl bs k r' ((B1++B2)++B3)∧UsO x.Labels ls k B1∧IsO x.Table ts k B2∧zlc1 x.Procs ps k B3∧(x.Fuel=(fuel:Int)∧x.Lane=(lane:Int)∧x.Locks=(locks:Int)∧x.Log=(log:Int))∧((∃a,r'=.ok a)→1≤nl))
  (fun x ls r' k hI=>hI.choose_spec.1.rd) ⟨[],by simpa using s10,p1,p2,by show zlc1 x2.Procs [] _ [];rw [hx2];exact RowsO.nil,⟨rfl,rfl,rfl,rfl⟩,hok10⟩ ?_ ?_
 ·rintro i x ps at_ k hil hi ⟨B3,s,o1,o2,o3,hf,hok⟩ K hK
  have h1nl:=hok ⟨_,rfl⟩
  have hkn:=zfw (zfw (okUs.known o1) (okIs.known o2)) (okProcs.known o3)
  rw [zal (n:=(nl:Int)-1) (by omega) (by omega)]
  refine zaq (zky (k:=1) (least:=0) (most:=(nl:Int)-1) s.rd (by omega) (by omega) (by decide) (by decide) (by omega) fun part r11 k11 hpart m11 a11 hc11=> ?_)
  refine zaq (zky (k:=2) a11 (by omega) (by omega) (by decide) (by decide) (by decide) fun n r12 k12 hn m12 a12 hc12=> ?_)
  have hn:n<65536:=hn
  rw [zph (W':=rngE 0 ((nl:Int)-1)) zbn1] at hc11
  rw [zph (W':=fun n=>if 256<n then 3 else 0) zlk1] at hc12
  obtain ⟨s12,hs12⟩:=s.next hkn (m11.trans m12) a12
  have kn12:∀b∈(B1++B2)++B3,k12 b≠none:=fun b hb=>by rw [hs12 b hb];exact hkn b hb
  refine znx (zcp2 (N:=n) a12 rfl (by omega) fun l code r13 B4 k13 t13 o4 hc13=>⟨⟨trivial,trivial⟩,?_⟩)
  have s13:=s12.andThen kn12 t13
  have hs13:=s12.kept kn12 t13
  have hs:∀b∈(B1++B2)++B3,k13 b=k b:=fun b hb=>by rw [hs13 b hb];exact hs12 b hb
  refine newF (xs:=[(⟨(part:Int),l⟩:S_api_Proc)]) (enc:=fun x=>zad (sh_api_Proc.enc x)) (sz:=2) rfl (fun _=>rfl) fun b14 k14 _ hle14 _ o14=>⟨⟨trivial,trivial⟩,?_⟩
  have s14:=s13.grow hle14
  have hs14:∀b∈(B1++B2)++B3,k14 b=k b:=fun b hb=>by
   rw [zbb hle14 (fun b hb=>by rw [hs b hb];exact hkn b hb) b hb]
   exact hs b hb
  have q1:=okUs.same o1 fun b hb=>hs14 b (mem_a (mem_a hb))
  have q2:=okIs.same o2 fun b hb=>hs14 b (mem_a (mem_b hb))
  have q3:=okProcs.same o3 fun b hb=>hs14 b (mem_b hb)
  have q4:=okIns.same o4 (zbb hle14 (okIns.known o4))
  refine tmid (P:=B1++B2) (S:=[]) (B':=B4) zrt1 a.le (by simpa using s14) q3 (v:=⟨(part:Int),l⟩) (p:=⟨(part:Int),code⟩) ⟨rfl,q4⟩ (by simpa using zfw (okUs.known q1) (okIs.known q2)) (o14.rw fun _=>rfl) (fun _=>rfl) (fun _=>rfl) rfl (by omega) fun l' k15 B15 s15 o15 hk15=> ?_
  rw [hf.2.2.1] at hc13
  refine hK _ ⟨(part:Int),code⟩ r13 k15 ⟨B15,by simpa using s15,okUs.same q1 fun b hb=>hk15 b (mem_a (mem_a hb)),okIs.same q2 fun b hb=>hk15 b (mem_a (mem_b hb)),o15,hf,fun _=>h1nl⟩ ?_
  unfold procD
  exact Cn.seq hc11 (Cn.seq hc12 (Cn.seq hc13 Cn.ret))
 rintro i x3 ps r11 k11 ⟨B3,s11,o1,o2,o3,⟨f1,f2,f3,f4⟩,_⟩ hpl hc11
 refine hq x3 ⟨ls,ts,(fuel:Int),(lane:Int),(locks:Int),(log:Int),ps⟩ r11 (B1++(B2++B3)) k11 (by simpa using s11) ⟨B1,B2,B3,rfl,o1,o2,o3,f1,f2,f3,f4⟩ ?_
 unfold zpg
 exact Cn.seq hc1 (Cn.seq hc2 (Cn.seq hc3 (Cn.seq hc4 (Cn.seq hc5 (Cn.seq hc6 (Cn.seq hc7 (Cn.seq hc8 (Cn.seq hc9 (Cn.seq hc10 (Cn.seq hc11 Cn.ret))))))))))
end
end Lf

namespace Lf
open Go Go.Proofs
set_option maxRecDepth 20000 in
theorem zvb1 {h:Hp} {b:Sl} {bs:List UInt8} {Q:S_api_Config→Int→Int→Hp→Prop} (hB:Bs h b bs) (hcap:b.len≤b.cap)
  (he:∀e p h',h≤h'→zdm bs=.error (e,p)→e≠0→Q cfg0 e (p:Int) h') (hok:∀x c B h',h≤h'→zdm bs=.ok c→CfgO x c h' B→B.Nodup→(∀b∈B,h b=none)→Q x 0 0 h'):
  zgj Tryz.prog b Q h:=by
 unfold zgj
 have hlen:b.len=bs.length:=hB.1
 by_cases hbig:1048576<bs.length
 ·have hbig':((b.len:Nat):Int)>1048576:=by omega
  rw [if_pos (decide_eq_true hbig')]
  refine he 22 1048576 h (Hp.le_refl h) ?_ (by decide)
  unfold zdm zdz
  rw [if_pos hbig]
 have hsm:bs.length≤1048576:=by omega
 have hbig':¬((b.len:Nat):Int)>1048576:=by omega
 rw [if_neg (fun e=>hbig' (of_decide_eq_true e))]
 refine newB2 fun rb h1 hn1 hle1 hR1=> ?_
 have a1:RAt h h1 rb b bs (.ok 0):=⟨hle1,hn1,hB,hcap,by omega,0,0,0,hR1,rfl,rfl,by omega⟩
 refine zmr (zva1 a1 fun x c r2 B k s o hc=> ?_)
 have hdone:=hc.done
 have hkn:=okCfg.known o
 refine JoinW0.intro (fun k'=>∃r3,Mv [rb] k [rb] k'∧RAt h k' rb b bs r3∧match r3 with
  | .error e=>zdm bs=.error e
  | .ok _=>zdm bs=.ok c) ?_ ?_
 ·obtain ⟨p,e,pl,kb,hs⟩:=s.rd.blk
  refine zab (ld_at (sh:=shInt .i64) e (kb.ldIs (off:=2) (n:=1) rfl) (zab (ldC (sh:=shInt .i64) p (kb.ldIs (off:=1) (n:=1) rfl) (letW ?_))))
  cases r2 with
  | error y=>
   have hne:=hs.2.1
   rw [←hs.1] at hne
   rw [if_neg (by simp [hne])]
   exact ⟨_,Mv.refl _ _,s.rd,zln hsm hdone⟩
  | ok at_=>
   obtain ⟨rfl,rfl,hat⟩:=hs
   have hcfg:=zle1 hsm hdone
   by_cases hlt:at_<bs.length
   ·rw [if_pos hlt] at hcfg
    rw [if_pos (by simp;omega)]
    refine zab (ld_at (sh:=shInt .i64) (at_:Int) (kb.ldIs (off:=1) (n:=1) rfl) ?_)
    refine zap (zsr kb fun k2 m2 kb2=> ?_)
    rw [if_pos rfl,if_pos rfl] at kb2
    exact ⟨.error (6,at_),m2,s.rd.of m2 kb2 ⟨rfl,by decide,rfl⟩,hcfg⟩
   ·rw [if_neg hlt] at hcfg
    rw [if_neg (by simp;omega)]
    exact ⟨_,Mv.refl _ _,s.rd,hcfg⟩
 ·rintro k' ⟨r3,m3,a3,hcfg⟩
  obtain ⟨s3,hs3⟩:=s.next hkn m3 a3
  obtain ⟨p,e,pl,kb,hs⟩:=a3.blk
  refine zab (ld_at (sh:=shInt .i64) e (kb.ldIs (off:=2) (n:=1) rfl) ?_)
  cases r3 with
  | error y=>
   obtain ⟨er,q⟩:=y
   obtain ⟨rfl,hne,rfl⟩:=hs
   rw [if_pos (by simpa using hne)]
   refine zab (ld_at (sh:=shInt .i64) e (kb.ldIs (off:=2) (n:=1) rfl) (zab (ld_at (sh:=shInt .i64) (q:Int) (kb.ldIs (off:=3) (n:=1) rfl) ?_)))
   exact ⟨⟨kb.ldIs (off:=2) (n:=1) rfl,kb.ldIs (off:=3) (n:=1) rfl,trivial⟩,he e q k' a3.le hcfg hne⟩
  | ok at_=>
   obtain ⟨rfl,rfl,_⟩:=hs
   rw [if_neg (by simp)]
   exact hok x c B k' a3.le hcfg (okCfg.same o hs3) s3.nd fun b' hb'=>zbc hle1 (s3.fresh b' hb')
theorem zja2 {c:PCfg} (h:CfgV c):0≤c.lane∧0≤c.log:=by
 obtain ⟨_,h2⟩:=(zxl (zoc c)).2 h
 obtain ⟨_,_,_,_,_,e6,_,e8,_⟩:=cfgP_zero.1 h2
 exact ⟨by omega,e8.1⟩
section
variable {d h:Hp} {rb:Nat} {bl:Sl} {bs:List UInt8} {r:RS}
set_option maxRecDepth 20000 in
theorem zfk2 {Q:S_api_Config→Hp→Prop} (a:RAt d h rb bl bs r)
  (hq:∀r1 x c B h',TB d h rb bl bs h' r1 B→CfgO x c h' B→Few c→(0≤c.lane∧0≤c.log)→((∃n,r1=.ok n)→CfgV c)→Cn bs r zcg r1 c→Q x h'):zgi Tryz.prog (some ⟨rb,0,none⟩) Q h:=by
 unfold zgi
 have few0:Few zgy:=⟨by simp [zgy],by simp [zgy],by simp [zgy],by simp [zgy],by simp [zgy]⟩
 have hlen:bl.len=bs.length:=a.src.1
 have hsm:=a.small
 refine zac (zif (k:=4) a (by omega) (by omega) fun n r1 h1 hn m1 a1 hc1 _=> ?_)
 have hn:n<4294967296:=hn
 have s1:TB d h rb bl bs h1 r1 []:=TB.step a.known m1 a1
 obtain ⟨p,e,pl,kb,hs⟩:=a1.blk
 refine zab (ld_at (sh:=shInt .i64) e (kb.ldIs (off:=2) (n:=1) rfl) ?_)
 have herr:∀e,r1=.error e→Cn bs r zcg r1 zgy:=fun e he=>by
  subst he
  have hdone:=hc1.done
  cases r with
  | error y=>
   have hdone:(Except.error y:Except (Int×Nat) (Nat×Nat))=.error e:=hdone
   cases hdone
   exact Cn.stay
  | ok at_=>
   have hdone:D.num 4 bs at_=.error e:=hdone
   refine Cn.err ?_
   unfold zcg
   rw [hdone]
 cases r1 with
 | error y=>
  obtain ⟨er,q⟩:=y
  rw [if_pos (by rw [bne_iff_ne,hs.1];exact hs.2.1)]
  exact hq _ cfg0 zgy [] h1 s1 zsq few0 ⟨Int.le_refl 0,Int.le_refl 0⟩ (by rintro ⟨n,hn⟩;cases hn) (herr _ rfl)
 | ok at2=>
  obtain ⟨rfl,rfl,hat⟩:=hs
  have hat:at2≤bs.length:=by omega
  rw [if_neg (by simp)]
  obtain ⟨at_,rfl⟩:∃at_,r=.ok at_:=zll1 hc1 ⟨_,rfl⟩
  have hnum:D.num 4 bs at_=.ok (n,at2):=hc1.done
  refine zab (ld_at (sh:=shSl) bl (kb.ldIs (off:=0) (n:=1) rfl) (zab (ld_at (sh:=shInt .i64) (at2:Int) (kb.ldIs (off:=1) (n:=1) rfl) ?_)))
  rw [zal (n:=((bl.len:Nat):Int)-(at2:Int)) (by omega) (by omega),wrapU (x:=((bl.len:Nat):Int)-(at2:Int)) ⟨by omega,by omega⟩]
  by_cases hsh:bs.length<at2+n
  ·have hlt:(n:Int)>((bl.len:Nat):Int)-(at2:Int):=by omega
   rw [if_pos (decide_eq_true hlt)]
   refine zab (ld_at (sh:=shSl) bl (kb.ldIs (off:=0) (n:=1) rfl) (zap (zsr kb fun h2 m2 k2=> ?_)))
   rw [if_pos rfl,if_pos rfl] at k2
   have a2:=a1.of m2 k2 (r1:=.error (5,bs.length)) ⟨rfl,by decide,by rw [hlen]⟩
   refine hq _ cfg0 zgy [] h2 (TB.step a.known (m1.trans m2) a2) zsq few0 ⟨Int.le_refl 0,Int.le_refl 0⟩ (by rintro ⟨n,hn⟩;cases hn) (Cn.err ?_)
   unfold zcg
   rw [hnum]
   dsimp only
   rw [if_pos hsh]
  ·have hlt:¬(n:Int)>((bl.len:Nat):Int)-(at2:Int):=by omega
   rw [if_neg (fun e=>hlt (of_decide_eq_true e))]
   refine zab (ld_at (sh:=shSl) bl (kb.ldIs (off:=0) (n:=1) rfl) (zab (ld_at (sh:=shInt .i64) (at2:Int) (kb.ldIs (off:=1) (n:=1) rfl) (zab (ld_at (sh:=shInt .i64) (at2:Int) (kb.ldIs (off:=1) (n:=1) rfl) ?_)))))
   have hcap:=a.cap
   rw [zal (n:=(n:Int)) (by omega) (by omega),zal (n:=(at2:Int)+(n:Int)) (by omega) (by omega)]
   have hnk:(at2:Int)≤(at2:Int)+(n:Int):=by omega
   refine ⟨⟨by omega,hnk,by omega⟩,letW ?_⟩
   have e1:((at2:Int)+(n:Int)).toNat=at2+n:=by omega
   have e2:((at2:Int)).toNat=at2:=rfl
   rw [e1,e2]
   have hcut:=(Rw.mono a1.le a.src).cut (a:=at2) (b:=at2+n) (c:=bl.cap) (n:=at2+n-at2) (m:=bl.cap-at2) zcb (by omega) (by omega) (by omega) rfl
   have e3:at2+n-at2=n:=by omega
   rw [e3] at hcut ⊢
   refine zsb (zvb1 hcut (by show n≤bl.cap-at2;omega) (fun e p h2 hle2 hcfg hne=> ?_) fun y c B h2 hle2 hcfg own nd fresh=> ?_)
   ·have kb2:=kb.le hle2
    refine JoinW0.intro (fun k'=>∃at3 e3 pl3:Int,Mv [rb] h1 [rb] k'∧Blk k' rb (zcc bl at3 e3 pl3)∧(at3=(at2:Int)∧e3=e∧pl3=((at2+p:Nat):Int))) ?_ ?_
    ·rw [if_pos (by simpa using hne)]
     refine zab (ld_at (sh:=shInt .i64) (at2:Int) (kb2.ldIs (off:=1) (n:=1) rfl) ?_)
     refine zap (zsr kb2 fun h3 m3 k3=> ?_)
     rw [if_pos rfl,if_pos rfl] at k3
     have hp:=ztv hcfg
     rw [List.length_take,List.length_drop] at hp
     rw [zal (by omega) (by omega)] at k3
     exact ⟨_,_,_,(Mv.of_le [rb] hle2).trans m3,k3,rfl,rfl,by push_cast;rfl⟩
    ·rintro h3 ⟨at3,e3,pl3,m3,k3,rfl,rfl,rfl⟩
     refine zab (ld_at (sh:=shInt .i64) (at2:Int) (k3.ldIs (off:=1) (n:=1) rfl) (zab (zdp (b:=rb) (off:=1) k3 (by simp [zcc]) fun h4 m4 k4=> ?_)))
     have k4:Blk h4 rb (zcc bl (IntKind.wrap .i64 ((at2:Int)+(n:Int))) e3 ((at2+p:Nat):Int)):=by simpa [zcc] using k4
     have m:=m3.trans m4
     have a4:=a1.of m k4 (r1:=.error (e3,at2+p)) ⟨rfl,hne,rfl⟩
     refine hq _ cfg0 zgy [] h4 (TB.step a.known (m1.trans m) a4) zsq few0 ⟨Int.le_refl 0,Int.le_refl 0⟩ (by rintro ⟨n,hn⟩;cases hn) (Cn.err ?_)
     unfold zcg
     rw [hnum]
     dsimp only
     rw [if_neg hsh,hcfg]
   ·have kb2:=kb.le hle2
    refine JoinW0.intro (fun k'=>k'=h2) ?_ ?_
    ·rw [if_neg (by simp)]
    ·rintro h3 rfl
     refine zab (ld_at (sh:=shInt .i64) (at2:Int) (kb2.ldIs (off:=1) (n:=1) rfl) (zab (zdp (b:=rb) (off:=1) kb2 (by simp [zcc]) fun h4 m4 k4=> ?_)))
     rw [zal (n:=(at2:Int)+(n:Int)) (by omega) (by omega)] at k4
     have k4:Blk h4 rb (zcc bl ((at2:Int)+(n:Int)) 0 pl):=by simpa [zcc] using k4
     have m:=(m1.trans (Mv.of_le [rb] hle2)).trans m4
     have a4:=a1.of ((Mv.of_le [rb] hle2).trans m4) k4 (r1:=.ok (at2+n)) ⟨by push_cast;rfl,rfl,by push_cast;omega⟩
     have hrB:rb∉B:=fun hb=>kb.known (fresh rb hb)
     have hv:=(znz zbh1 hcfg).1
     refine hq _ y c B h4 ⟨a.known,fun b o e1 h1=>m.keep b o e1 fun hb=>h1 (List.mem_singleton.1 hb),a4,nd,fun b hb=>s1.new_ (fresh b hb)⟩
      (okCfg.same own (zmv m4 (okCfg.known own) fun b hb e=>hrB (by have e:b=rb:=List.mem_singleton.1 e;exact e▸hb))) (zxb1 _ (zoc c) hv) (zja2 hv) (fun _=>hv) (Cn.ok ?_)
     unfold zcg
     rw [hnum]
     dsimp only
     rw [if_neg hsh,hcfg]
end
end Lf

namespace Lf
open Go Go.Proofs
abbrev WsO (l:Sl) (ws:List PWaiter) (h:Hp) (B:List Nat):Prop:=RowsO sh_api_Waiter 2 (PureO fun x p=>zcn x=p) l ws h B
theorem okWs :AsOk WsO:=RowsO.ok (PureO.ok _)
section
variable {d h h0 k:Hp} {rb:Nat} {bl:Sl} {bs:List UInt8} {r:RS} {B:List Nat}
theorem TB.add (s:TB d h0 rb bl bs k r B) (hkn:∀b∈B,k b≠none) {k':Hp} {b:Nat} (hn:k b=none) (hle:k≤k'):TB d h0 rb bl bs k' r (B++ [b]) where
 kr:=s.kr
 keep:=fun c o e h1=>hle c o (s.keep c o e h1)
 rd:=s.rd.grow hle
 nd:=by
  rw [List.nodup_append]
  refine ⟨s.nd,by simp,fun a ha c hc e=> ?_⟩
  rw [List.mem_singleton.1 hc] at e
  exact hkn a ha (by rw [e];exact hn)
 fresh:=fun c hc=>by
  rcases List.mem_append.1 hc with hc | hc
  ·exact s.fresh c hc
  ·rw [List.mem_singleton.1 hc]
   exact s.new_ hn
theorem zbo1 {k:Nat} {most:Int} {Q:Int→Hp→Prop} (a:RAt d h rb bl bs r) (hk1:1≤k) (hk4:k≤4) (hm:0≤most)
  (hq:∀(n:Nat) r1 h',n<256^k→Mv [rb] h [rb] h'→RAt d h' rb bl bs r1→Cn bs r (D.must (zD k) (mostE most)) r1 (n:Int)→Q (n:Int) h'):zhk Tryz.prog (some ⟨rb,0,none⟩) (k:Int) most Q h:=by
 unfold zhk
 refine zaq (zky (k:=k) a hk1 hk4 (by decide) (by decide) hm fun n r1 h1 hn m1 a1 hc1=> ?_)
 rw [zph (W':=mostE most) zlk1] at hc1
 exact hq n r1 h1 hn m1 a1 hc1
set_option maxRecDepth 20000 in
theorem zcr2 {c:S_api_Config} {Q:S_api_Lane→Hp→Prop} (a:RAt d h rb bl bs r) (hl:0≤c.Lane)
  (hq:∀v p r1 B h',TB d h rb bl bs h' r1 B→LaneO v p h' B→Cn bs r (laneD c.Lane (c.Procs.len:Int)) r1 p→Q v h'):zfb Tryz.prog (some ⟨rb,0,none⟩) c Q h:=by
 unfold zfb
 refine zdc (zbo1 (k:=1) a (by omega) (by omega) hl fun n r1 h1 hn m1 a1 hc1=> ?_)
 have hn:n<256:=hn
 have s1:TB d h rb bl bs h1 r1 []:=TB.step a.known m1 a1
 refine readT (N:=n) (bl:=bl) (rb:=rb) (bs:=bs) (d:=d) (g:=fun _=>iD) rfl (by omega) (fun (y:S_api_Lane) vs r' k=>∃B,TB d h rb bl bs k r' B∧IsO y.Values vs k B∧y.Waiters=⟨none,0,0⟩) (fun x ls r' k hI=>hI.choose_spec.1.rd) ⟨[],s1,RowsO.nil,rfl⟩ ?_ ?_
 ·rintro i y vs at_ k hil hi ⟨B,s,o,hy⟩ K hK
  refine zac (zif (k:=8) s.rd (by omega) (by omega) fun w r2 k2 hw m2 a2 hc2 _=>⟨⟨trivial,trivial⟩,?_⟩)
  have hw:w<18446744073709551616:=hw
  rw [zmz hw]
  obtain ⟨s2,hs2⟩:=s.next (okIs.known o) m2 a2
  have o2:=okIs.same o hs2
  refine newF (xs:=[i64 w]) (enc:=fun x=>zad ((shInt .i64).enc x)) (sz:=1) rfl (fun _=>rfl) fun b3 k3 _ hle3 _ o3=>⟨⟨trivial,trivial⟩,?_⟩
  have s3:=s2.grow hle3
  have oo:=okIs.same o2 (zbb hle3 (okIs.known o2))
  refine tmid (P:=[]) (S:=[]) (B':=[]) (PureO.ok _) a.le (by simpa using s3) oo (v:=i64 w) (p:=i64 w) ⟨rfl,rfl⟩ (by simp) (o3.rw fun _=>rfl) (fun _=>rfl) (fun _=>rfl) rfl (by omega) fun l' k4 B4 s4 o4 _=> ?_
  exact hK _ (i64 w) r2 k4 ⟨B4,by simpa using s4,o4,hy⟩ hc2.map
 rintro _ y vs r2 k2 ⟨B1,s2,o1,hy⟩ hvl hc2
 refine zdc (zbo1 (k:=1) s2.rd (by omega) (by omega) (by omega) fun m r3 k3 hm m3 a3 hc3=> ?_)
 have hm:m<256:=hm
 obtain ⟨s3,hs3⟩:=s2.next (okIs.known o1) m3 a3
 have o3:=okIs.same o1 hs3
 refine readT (N:=m) (bl:=bl) (rb:=rb) (bs:=bs) (d:=d) (g:=fun _=>zxk) rfl (by omega) (fun (z:S_api_Lane) ws r' k=>∃B2,TB d h rb bl bs k r' (B1++B2)∧IsO z.Values vs k B1∧WsO z.Waiters ws k B2) (fun x ls r' k hI=>hI.choose_spec.1.rd) ⟨[],by simpa using s3,o3,by rw [hy];exact RowsO.nil⟩ ?_ ?_
 ·rintro i z ws at_ k hil hi ⟨B2,s,o1,o2⟩ K hK
  have hkn:=zfw (okIs.known o1) (okWs.known o2)
  refine zac (zif (k:=1) s.rd (by omega) (by omega) fun u r4 k4 hu m4 a4 hc4 _=> ?_)
  refine zac (zif (k:=8) a4 (by omega) (by omega) fun w r5 k5 hw m5 a5 hc5 _=> ?_)
  have hu:u<256:=hu
  have hw:w<18446744073709551616:=hw
  rw [zmz hw,zal (n:=(u:Int)) (by omega) (by omega)]
  obtain ⟨s5,hs5⟩:=s.next hkn (m4.trans m5) a5
  refine newF (xs:=[(⟨(u:Int),i64 w⟩:S_api_Waiter)]) (enc:=fun x=>zad (sh_api_Waiter.enc x)) (sz:=2) rfl (fun _=>rfl) fun b6 k6 _ hle6 _ o6=> ?_
  have s6:=s5.grow hle6
  have hs6:∀b∈B1++B2,k6 b=k b:=fun b hb=>by
   rw [←hs5 b hb]
   exact zbb hle6 (fun b hb=>by rw [hs5 b hb];exact hkn b hb) b hb
  have q1:=okIs.same o1 fun b hb=>hs6 b (mem_a hb)
  have q2:=okWs.same o2 fun b hb=>hs6 b (mem_b hb)
  refine tmid (P:=B1) (S:=[]) (B':=[]) (PureO.ok _) a.le (by simpa using s6) q2 (v:=⟨(u:Int),i64 w⟩) (p:=⟨(u:Int),i64 w⟩) ⟨rfl,rfl⟩ (by simpa using okIs.known q1) (o6.rw fun _=>rfl) (fun _=>rfl) (fun _=>rfl) rfl (by omega) fun l' k7 B7 s7 o7 hs7=> ?_
  exact hK _ ⟨(u:Int),i64 w⟩ r5 k7 ⟨B7,by simpa using s7,okIs.same q1 fun b hb=>hs7 b (mem_a hb),o7⟩ (Cn.seq hc4.map (Cn.seq hc5.map Cn.ret))
 rintro _ z ws r4 k4 ⟨B2,s4,o1,o2⟩ hwl hc4
 have hkn:=zfw (okIs.known o1) (okWs.known o2)
 refine zac (zif (k:=2) s4.rd (by omega) (by omega) fun u r5 k5 hu m5 a5 hc5 _=> ?_)
 refine zac (zif (k:=2) a5 (by omega) (by omega) fun w r6 k6 hw m6 a6 hc6 _=> ?_)
 have hu:u<65536:=hu
 have hw:w<65536:=hw
 rw [zal (n:=(w:Int)) (by omega) (by omega),zal (n:=(u:Int)) (by omega) (by omega)]
 obtain ⟨s6,hs6⟩:=s4.next hkn (m5.trans m6) a6
 refine hq _ ⟨vs,ws,(u:Int),(w:Int)⟩ r6 (B1++B2) k6 s6 ⟨B1,B2,rfl,okIs.same o1 fun b hb=>hs6 b (mem_a hb),okWs.same o2 fun b hb=>hs6 b (mem_b hb),rfl,rfl⟩ ?_
 unfold laneD
 exact Cn.seq hc1 (Cn.seq hc2 (Cn.seq hc3 (Cn.seq hc4 (Cn.seq hc5.map (Cn.seq hc6.map Cn.ret)))))
end
end Lf

namespace Lf
open Go Go.Proofs
section
variable {d h:Hp} {rb:Nat} {bl:Sl} {bs:List UInt8} {r:RS}
set_option maxRecDepth 20000 in
theorem zcs2 {c:S_api_Config} {Q:S_api_Part→Hp→Prop} (a:RAt d h rb bl bs r) (hl:0≤c.Log) (hlk:0≤c.Locks∧c.Locks≤1000)
  (hq:∀v p r1 B h',TB d h rb bl bs h' r1 B→PartO v p h' B→Cn bs r (partD c.Log c.Locks (c.Procs.len:Int)) r1 p→Q v h'):zey Tryz.prog (some ⟨rb,0,none⟩) c Q h:=by
 unfold zey
 refine zac (zif (k:=1) a (by omega) (by omega) fun cur r1 h1 hcur m1 a1 hc1 _=> ?_)
 have hcur:cur<256:=hcur
 rw [zal (n:=(cur:Int)) (by omega) (by omega)]
 refine zdc (zbo1 (k:=2) a1 (by omega) (by omega) hl fun n r2 h2 hn m2 a2 hc2=> ?_)
 have hn:n<65536:=hn
 have s2:TB d h rb bl bs h2 r2 []:=TB.step a.known (m1.trans m2) a2
 refine readT (N:=n) (bl:=bl) (rb:=rb) (bs:=bs) (d:=d) (g:=fun _=>zig1) rfl (by omega) (fun (y:S_api_Part) es r' k=>∃B,TB d h rb bl bs k r' B∧LogO y.Log es k B∧(y.Cursor=(cur:Int)∧y.Owners=⟨none,0,0⟩∧y.Queues=⟨none,0,0⟩)) (fun x ls r' k hI=>hI.choose_spec.1.rd)
  ⟨[],s2,RowsO.nil,⟨rfl,rfl,rfl⟩⟩ ?_ ?_
 ·rintro i y es at_ k hil hi ⟨B,s,o,hy⟩ K hK
  have hkn:=okLog.known o
  refine zac (zif (k:=8) s.rd (by omega) (by omega) fun w1 r3 k3 hw1 m3 a3 hc3 _=> ?_)
  refine zac (zif (k:=1) a3 (by omega) (by omega) fun w2 r4 k4 hw2 m4 a4 hc4 _=> ?_)
  refine zac (zif (k:=8) a4 (by omega) (by omega) fun w3 r5 k5 hw3 m5 a5 hc5 _=> ?_)
  have hw1:w1<18446744073709551616:=hw1
  have hw2:w2<256:=hw2
  have hw3:w3<18446744073709551616:=hw3
  rw [zmz hw1,zmz hw3,zal (n:=(w2:Int)) (by omega) (by omega)]
  obtain ⟨s5,hs5⟩:=s.next hkn (m3.trans (m4.trans m5)) a5
  have o5:=okLog.same o hs5
  refine newF (xs:=[(⟨i64 w1,(w2:Int),i64 w3⟩:S_api_Entry)]) (enc:=fun x=>zad (sh_api_Entry.enc x)) (sz:=3) rfl (fun _=>rfl) fun b6 k6 _ hle6 _ o6=> ?_
  have s6:=s5.grow hle6
  have oo:=okLog.same o5 (zbb hle6 (okLog.known o5))
  refine tmid (P:=[]) (S:=[]) (B':=[]) (PureO.ok _) a.le (by simpa using s6) oo (v:=⟨i64 w1,(w2:Int),i64 w3⟩) (p:=⟨i64 w1,(w2:Int),i64 w3⟩) ⟨rfl,rfl⟩ (by simp) (o6.rw fun _=>rfl) (fun _=>rfl) (fun _=>rfl) rfl (by omega) fun l' k7 B7 s7 o7 _=> ?_
  exact hK _ ⟨i64 w1,(w2:Int),i64 w3⟩ r5 k7 ⟨B7,by simpa using s7,o7,hy⟩ (Cn.seq hc3.map (Cn.seq hc4.map (Cn.seq hc5.map Cn.ret)))
 rintro _ y es r2' k2 ⟨B,s,o,⟨hy1,hy2,hy3⟩⟩ hel hcE
 have hkn:=okLog.known o
 refine zac (zif (k:=2) s.rd (by omega) (by omega) fun lost r3 k3 hlost m3 a3 hc3 _=> ?_)
 refine zac (zif (k:=2) a3 (by omega) (by omega) fun forb r4 k4 hforb m4 a4 hc4 _=> ?_)
 have hlost:lost<65536:=hlost
 have hforb:forb<65536:=hforb
 rw [zal (n:=(lost:Int)) (by omega) (by omega),zal (n:=(forb:Int)) (by omega) (by omega)]
 obtain ⟨s4,hs4⟩:=s.next hkn (m3.trans m4) a4
 have o4:=okLog.same o hs4
 obtain ⟨N,hN⟩:∃N:Nat,c.Locks=(N:Int):=⟨c.Locks.toNat,by omega⟩
 refine readT (N:=N) (bl:=bl) (rb:=rb) (bs:=bs) (d:=d) (g:=fun _=>lockD (c.Procs.len:Int)) hN (by omega) (fun (z:S_api_Part) zs r' k=>∃B1 B2 B3,TB d h rb bl bs k r' (B1++(B2++B3))∧LogO z.Log es k B1∧IsO z.Owners (zs.map Prod.fst) k B2∧QsO z.Queues (zs.map Prod.snd) k B3∧
   (z.Cursor=(cur:Int)∧z.Lost=(lost:Int)∧z.Forbidden=(forb:Int))) (fun x ls r' k hI=>by obtain ⟨B1,B2,B3,s,_⟩:=hI;exact s.rd)
  ⟨B,[],[],by simpa using s4,o4,by show IsO y.Owners [] _ [];rw [hy2];exact RowsO.nil,by show QsO y.Queues [] _ [];rw [hy3];exact RowsO.nil,⟨hy1,rfl,rfl⟩⟩ ?_ ?_
 ·rintro i z zs at_ k hzl hi ⟨B1,B2,B3,s,o1,o2,o3,hz⟩ K hK
  have hkn:=zfw (okLog.known o1) (zfw (okIs.known o2) (okQs.known o3))
  refine zac (zif (k:=1) s.rd (by omega) (by omega) fun u r5 k5 hu m5 a5 hc5 _=>⟨⟨trivial,trivial⟩,?_⟩)
  have hu:u<256:=hu
  obtain ⟨s5,hs5⟩:=s.next hkn m5 a5
  rw [zal (n:=(u:Int)) (by omega) (by omega),zal (n:=(u:Int)-1) (by omega) (by omega)]
  refine newF (xs:=[(u:Int)-1]) (enc:=fun x=>zad ((shInt .i64).enc x)) (sz:=1) rfl (fun _=>rfl) fun b6 k6 _ hle6 _ o6=>⟨⟨trivial,trivial⟩,?_⟩
  have s6:=s5.grow hle6
  have hs6:∀b∈B1++(B2++B3),k6 b=k b:=fun b hb=>by
   rw [←hs5 b hb]
   exact zbb hle6 (fun b hb=>by rw [hs5 b hb];exact hkn b hb) b hb
  have p1:=okLog.same o1 fun b hb=>hs6 b (mem_a hb)
  have p2:=okIs.same o2 fun b hb=>hs6 b (mem_b (mem_a hb))
  have p3:=okQs.same o3 fun b hb=>hs6 b (mem_b (mem_b hb))
  refine tmid (P:=B1) (M:=B2) (S:=B3) (B':=[]) (PureO.ok _) a.le (by simpa using s6) p2 (v:=(u:Int)-1) (p:=(u:Int)-1) ⟨rfl,rfl⟩ (zfw (okLog.known p1) (okQs.known p3)) (o6.rw fun _=>rfl) (fun _=>rfl) (fun _=>rfl) rfl (by simp;omega) fun l7 k7 M7 s7 o7 hs7=> ?_
  have q1:=okLog.same p1 fun b hb=>hs7 b (mem_a hb)
  have q3:=okQs.same p3 fun b hb=>hs7 b (mem_b hb)
  have kn7:=zfw (okLog.known q1) (zfw (okIs.known o7) (okQs.known q3))
  refine zdc (zbo1 (k:=1) s7.rd (by omega) (by omega) (by omega) fun nq r8 k8 hnq m8 a8 hc8=> ?_)
  have hnq:nq<256:=hnq
  obtain ⟨s8,hs8⟩:=s7.next kn7 m8 a8
  refine newF (xs:=([]:List Int)) (enc:=fun x=>zad ((shInt .i64).enc x)) (sz:=1) rfl (fun _=>rfl) fun b9 k9 hn9 hle9 _ o9=> ?_
  have kn8:∀b∈B1++(M7++B3),k8 b≠none:=fun b hb=>by rw [hs8 b hb];exact kn7 b hb
  have s9:=s8.add kn8 hn9 hle9
  have hs9:∀b∈B1++(M7++B3),k9 b=k7 b:=fun b hb=>by rw [zbb hle9 kn8 b hb];exact hs8 b hb
  have w9:IsO ⟨some ⟨b9,0,none⟩,0,0⟩ [] k9 [b9]:=⟨[],[b9],[],rfl,o9,rfl⟩
  refine readA (N:=nq) (bl:=bl) (rb:=rb) (bs:=bs) (d:=d) (g:=fun _=>zD 1) rfl (by omega) (fun (q:Sl) vs r' kk=>∃B4,TB d h rb bl bs kk r' ((B1++(M7++B3))++B4)∧(∀b∈B1++(M7++B3),kk b=k7 b)∧IsO q vs kk B4) (fun x ls r' k hI=>hI.choose_spec.1.rd) ⟨[b9],s9,hs9,w9⟩ ?_ ?_
  ·rintro j q vs at_ kk hvl hj ⟨B4,s9,hs9,o9⟩ K9 hK9 _
   have kn9:∀b∈(B1++(M7++B3))++B4,kk b≠none:=zfw (fun b hb=>by rw [hs9 b hb];exact kn7 b hb) (okIs.known o9)
   refine zac (zif (k:=1) s9.rd (by omega) (by omega) fun w r10 k10 hw m10 a10 hc10 _=> ?_)
   have hw:w<256:=hw
   rw [zal (n:=(w:Int)) (by omega) (by omega)]
   obtain ⟨s10,hs10⟩:=s9.next kn9 m10 a10
   refine newF (xs:=[(w:Int)]) (enc:=fun x=>zad ((shInt .i64).enc x)) (sz:=1) rfl (fun _=>rfl) fun b11 k11 _ hle11 _ o11=> ?_
   have s11:=s10.grow hle11
   have hs11:∀b∈(B1++(M7++B3))++B4,k11 b=kk b:=fun b hb=>by
    rw [←hs10 b hb]
    exact zbb hle11 (fun b hb=>by rw [hs10 b hb];exact kn9 b hb) b hb
   have o11':=okIs.same o9 fun b hb=>hs11 b (mem_b hb)
   refine tmid (P:=B1++(M7++B3)) (M:=B4) (S:=[]) (B':=[]) (PureO.ok _) a.le (by simpa using s11) o11' (v:=(w:Int)) (p:=(w:Int)) ⟨rfl,rfl⟩ (fun b hb=>by
    rw [List.append_nil] at hb
    rw [hs11 b (mem_a hb)]
    exact kn9 b (mem_a hb)) (o11.rw fun _=>rfl) (fun _=>rfl) (fun _=>rfl) rfl (by omega) fun l12 k12 M12 s12 o12 hs12=> ?_
   refine hK9 l12 (w:Int) r10 k12 ⟨M12,by simpa using s12,fun b hb=> ?_,o12⟩ hc10.map
   rw [hs12 b (by rw [List.append_nil];exact hb),hs11 b (mem_a hb),hs9 b hb]
  ·rintro _ q vs r9 kk ⟨B4,s9,hs9,o9⟩ hvl hc9
   have kn9:∀b∈(B1++(M7++B3))++B4,kk b≠none:=zfw (fun b hb=>by rw [hs9 b hb];exact kn7 b hb) (okIs.known o9)
   refine newF (xs:=[q]) (enc:=fun x=>zad (shSl.enc x)) (sz:=1) rfl (fun _=>rfl) fun b11 k11 _ hle11 _ o11=> ?_
   have s11:=s9.grow hle11
   have hs11:∀b∈(B1++(M7++B3))++B4,k11 b=kk b:=zbb hle11 kn9
   have f1:=okLog.same q1 fun b hb=>(hs11 b (mem_a (mem_a hb))).trans (hs9 b (mem_a hb))
   have f2:=okIs.same o7 fun b hb=>(hs11 b (mem_a (mem_b (mem_a hb)))).trans (hs9 b (mem_b (mem_a hb)))
   have f3:=okQs.same q3 fun b hb=>(hs11 b (mem_a (mem_b (mem_b hb)))).trans (hs9 b (mem_b (mem_b hb)))
   have f4:=okIs.same o9 fun b hb=>hs11 b (mem_b hb)
   refine tmid (P:=B1++M7) (M:=B3) (S:=[]) (B':=B4) okIs a.le (by simpa [List.append_assoc] using s11) f3 (v:=q) (p:=vs) f4 (by simpa using zfw (okLog.known f1) (okIs.known f2)) (o11.rw fun _=>rfl) (fun _=>rfl) (fun _=>rfl) rfl (by simp;omega) fun l12 k12 M12 s12 o12 hs12=> ?_
   refine hK _ ((u:Int)-1,vs) r9 k12 ⟨B1,M7,M12,by simpa [List.append_assoc] using s12,okLog.same f1 fun b hb=>hs12 b (mem_a (mem_a hb)),?_,?_,hz⟩ ?_
   ·rw [List.map_append]
    exact okIs.same f2 fun b hb=>hs12 b (mem_a (mem_b hb))
   ·rw [List.map_append]
    exact o12
   ·unfold lockD
    exact Cn.seq (hc5.map.map:Cn bs (.ok at_) (D.map less (zD 1)) r5 (less (u:Int))) (Cn.seq hc8 (Cn.seq hc9 Cn.ret))
 rintro _ z zs r5 k5 ⟨B1,B2,B3,s5,o1,o2,o3,⟨hz1,hz2,hz3⟩⟩ hzl hcL
 refine hq z (zgo1 (cur:Int) es (lost:Int) (forb:Int) zs) r5 _ k5 s5 ⟨B1,B2,B3,rfl,o1,o2,o3,hz1,hz2,hz3⟩ ?_
 unfold partD
 rw [show c.Locks.toNat=N by omega]
 exact Cn.seq hc1.map (Cn.seq hc2 (Cn.seq hcE (Cn.seq hc3.map (Cn.seq hc4.map (Cn.seq hcL Cn.ret)))))
end
end Lf

namespace Lf
open Go Go.Proofs
section
variable {d h:Hp} {rb:Nat} {bl:Sl} {bs:List UInt8} {r:RS}
theorem readL {α:Type} {g:List α→D α} {len:Int} {N:Nat} (hn:len+1=(N:Int)) (hN:N≤1000000) (I:List α→RS→Hp→Prop) (hrd:∀xs r h,I xs r h→RAt d h rb bl bs r)
  {B:(Int→Hp→Prop)→Int→Hp→Prop} {X:Int→Hp→Prop} {h0:Hp} {r0:RS} (h00:I [] r0 h0)
  (hs:∀(i:Nat) xs at_ h,xs.length=i→i<N→I xs (.ok at_) h→∀K:Int→Hp→Prop,(∀v r' h',I (xs++ [v]) r' h'→Cn bs (.ok at_) (g xs) r' v→K (IntKind.wrap .i64 ((i:Int)+1)) h')→B K (i:Int) h)
  (hx:∀(i:Int) xs r h,I xs r h→xs.length≤N→Cn bs r0 (D.many g N []) r xs→X i h):
  LoopW1 (fun again i h=>NilW (some (decide (i≤len))) (some ⟨rb,0,none⟩) fun p=>LdW (some (decide (i≤len))) (shInt .i64) h (Addr.add p 2) fun x=>
   LetW ((decide (i≤len))&&(x==(0:Int))) fun y=>if y=true then B again i h else X i h) (0:Int) h0:=by
 refine LoopW1.intro (fun t h=>∃(i:Nat) (xs:List α) (r1:RS),t=(i:Int)∧i≤N∧xs.length=i∧I xs r1 h∧∀(β:Type) (f:List α→D β),stepD r0 (D.bind (D.many g N []) f) bs=stepD r1 (D.bind (D.many g (N-i) xs) f) bs)
  (fun t _=>((N:Int)-t).toNat) ⟨0,[],r0,rfl,by omega,rfl,h00,fun _ _=>rfl⟩ ?_
 rintro t h ⟨i,xs,r1,rfl,hi,hxl,hI,hcn⟩
 obtain ⟨p,e,pl,kb,hs1⟩:=(hrd xs r1 h hI).blk
 refine zab (ldC (sh:=shInt .i64) e (kb.ldIs (off:=2) (n:=1) rfl) (letW ?_))
 by_cases hgo:i<N∧∃at_,r1=.ok at_
 ·obtain ⟨hlt,at_,rfl⟩:=hgo
  rw [if_pos (by rw [hs1.2.1];simp;omega)]
  refine hs i xs at_ h hxl hlt hI _ fun v r' h' hI' hc=> ?_
  rw [zal (by omega) (by omega)]
  refine ⟨⟨i+1,xs++ [v],r',by omega,by omega,by simp [hxl],hI',fun β f=> ?_⟩,by omega⟩
  have e1:N-i=(N-(i+1))+1:=by omega
  rw [hcn,e1,zcy,zan,hc]
 ·have hor:i=N∨∃e,r1=.error e:=by
   by_cases hlt:i<N
   ·cases r1 with
    | ok a=>exact absurd ⟨hlt,a,rfl⟩ hgo
    | error e=>exact .inr ⟨e,rfl⟩
   ·exact .inl (by omega)
  rw [if_neg (by
   rcases hor with rfl | ⟨y,rfl⟩
   ·simp;omega
   ·have:=hs1.2.1
    rw [←hs1.1] at this
    simp [this])]
  exact hx _ xs r1 h hI (by omega) (zhd1 hcn hor)
end
structure PTt (d h0:Hp) (rb:Nat) (bl:Sl) (bs:List UInt8) (pb:Nat) (k:Hp) (r:RS) (v:S_api_Process) (ls:List PLane) (B:List Nat):Prop where
 sb:TB d h0 rb bl bs k r ([pb]++B)
 blk:Blk k pb (procL v)
 own:zgv1 v.Lanes ls k B
section
variable {d h0 k:Hp} {rb pb:Nat} {bl:Sl} {bs:List UInt8} {r:RS} {v:S_api_Process} {ls:List PLane} {B:List Nat}
theorem PTt.known (s:PTt d h0 rb bl bs pb k r v ls B):∀b∈ [pb]++B,k b≠none:=fun b hb=>by
 rcases List.mem_append.1 hb with hb | hb
 ·rw [List.mem_singleton.1 hb];exact s.blk.known
 ·exact okLanes.known s.own b hb
theorem PTt.pn (s:PTt d h0 rb bl bs pb k r v ls B):pb∉B:=fun h=>(List.nodup_append.1 s.sb.nd).2.2 pb (List.mem_singleton.2 rfl) pb h rfl
theorem PTt.next (s:PTt d h0 rb bl bs pb k r v ls B) {k':Hp} {r1:RS} (m:Mv [rb] k [rb] k') (a:RAt d k' rb bl bs r1):PTt d h0 rb bl bs pb k' r1 v ls B:=by
 obtain ⟨s2,hs⟩:=s.sb.next s.known m a
 exact ⟨s2,s.blk.mv m fun h=>s.sb.nr (mem_a (by rw [List.mem_singleton.1 h];exact List.mem_singleton.2 rfl)),okLanes.same s.own fun b hb=>hs b (mem_b hb)⟩
theorem PTt.store (hd0:d≤h0) (s:PTt d h0 rb bl bs pb k r v ls B) {v':S_api_Process} {off:Nat} {val:Value} (hoff:off<15) (hl:v'.Lanes=v.Lanes) (hv:procL v'=(procL v).take off++ [val]++(procL v).drop (off+1)) {K:Hp→Prop}
  (hk:∀k',PTt d h0 rb bl bs pb k' r v' ls B→K k'):StW k ⟨pb,off,none⟩ [val] K:=by
 refine zdp s.blk (by show off+1≤15;omega) fun k4 m4 hb4=>hk k4 ?_
 refine ⟨s.sb.fin (fun b o e hn=>m4.keep b o e fun h=>hn (mem_a h)) s.sb.nd (fun b hb=>.inl hb) (fun b hb=>zbc hd0 (s.sb.fresh b hb)),by rw [hv];exact hb4,?_⟩
 rw [hl]
 exact okLanes.same s.own (zmv m4 (okLanes.known s.own) fun b hb e=>s.pn (by rw [←List.mem_singleton.1 e];exact hb))
theorem PTt.grow (s:PTt d h0 rb bl bs pb k r v ls B) {k':Hp} (hl:k≤k'):PTt d h0 rb bl bs pb k' r v ls B:=
 ⟨s.sb.grow hl,s.blk.le hl,okLanes.same s.own (zbb hl (okLanes.known s.own))⟩
end
section
variable {d h:Hp} {rb:Nat} {bl:Sl} {bs:List UInt8} {r:RS}
set_option maxRecDepth 20000 in
theorem zsj1 {c:S_api_Config} {Q:S_api_Process→Hp→Prop} (a:RAt d h rb bl bs r) (hl:0≤c.Lane) (hll:c.Labels.len≤1000)
  (hq:∀v p r1 B h',TB d h rb bl bs h' r1 B→ProcessO v p h' B→Cn bs r (zas1 c.Labels.len c.Lane (c.Procs.len:Int)) r1 p→Q v h'):zdt Tryz.prog (some ⟨rb,0,none⟩) c Q h:=by
 unfold zdt
 refine zac (zif (k:=1) a (by omega) (by omega) fun st r1 h1 hst m1 a1 hc1 _=> ?_)
 have hst:st<256:=hst
 rw [zal (n:=(st:Int)) (by omega) (by omega)]
 have s1:TB d h rb bl bs h1 r1 []:=TB.step a.known m1 a1
 refine newB2 fun pb h2 hn2 hle2 hP2=> ?_
 have s2:TB d h rb bl bs h2 r1 [pb]:=s1.add (fun b hb=>by cases hb) hn2 hle2
 refine zdp (b:=pb) (off:=0) hP2 (by simp) fun h3 m3 hP3=> ?_
 have hP3:Blk h3 pb (procL ⟨(st:Int),0,0,0,0,0,0,0,0,0,0,0,false,0,⟨none,0,0⟩⟩):=hP3
 have s3:PTt d h rb bl bs pb h3 r1 ⟨(st:Int),0,0,0,0,0,0,0,0,0,0,0,false,0,⟨none,0,0⟩⟩ [] []:=
  ⟨by
   rw [List.append_nil]
   exact s2.fin (fun b o e hn=>m3.keep b o e hn) s2.nd (fun b hb=>.inl hb) (fun b hb=>zbc a.le (s2.fresh b hb)),hP3,RowsO.nil⟩
 refine zac (zif (k:=2) s3.sb.rd (by omega) (by omega) fun pc r2 h4 hpc m4 a4 hc2 _=> ?_)
 have hpc:pc<65536:=hpc
 rw [zal (n:=(pc:Int)) (by omega) (by omega)]
 refine (s3.next m4 a4).store a.le (v':=⟨(st:Int),(pc:Int),0,0,0,0,0,0,0,0,0,0,false,0,⟨none,0,0⟩⟩) (off:=1) (by omega) rfl rfl fun h5 s5=> ?_
 refine forI (n:=8) rfl (by omega) (fun i k=>∃(ws:List Int) (r':RS) (v:S_api_Process),ws.length=i∧(v.State=(st:Int)∧v.PC=(pc:Int)∧v.Lanes=⟨none,0,0⟩)∧zng1 v=ws++List.replicate (8-i) 0∧PTt d h rb bl bs pb k r' v [] []∧
  ∀(β:Type) (f:List Int→D β),stepD r2 (D.bind (D.many (fun _=>iD) 8 []) f) bs=stepD r' (D.bind (D.many (fun _=>iD) (8-i) ws) f) bs) ⟨[],r2,_,rfl,⟨rfl,rfl,rfl⟩,rfl,s5,fun _ _=>rfl⟩ ?_ ?_
 ·rintro i hi k ⟨ws,r',v,hwl,hv,hreg,s,hcn⟩ K hK
  refine zac (zif (k:=8) s.sb.rd (by omega) (by omega) fun w r4 k4 hw m4 a4 hc4 _=>⟨⟨by omega,by omega⟩,?_⟩)
  have hw:w<18446744073709551616:=hw
  rw [zmz hw]
  have s4:=s.next m4 a4
  have haddr:(Addr.add (Addr.add ⟨pb,0,none⟩ 2) ((Int.toNat (i:Int))*1))=⟨pb,2+i,none⟩:=by
   rw [Nat.mul_one,show Int.toNat (i:Int)=i from rfl,zdh,zdh,Nat.zero_add]
  rw [haddr]
  obtain ⟨e1,e2,e3⟩:=zlg1 v hi (i64 w)
  refine s4.store a.le (v':=zgu1 v i (i64 w)) (off:=2+i) (by omega) e3 (zim1 v hi _) fun k5 s5=>hK k5 ⟨ws++ [i64 w],r4,zgu1 v i (i64 w),by simp [hwl],⟨e1.trans hv.1,e2.trans hv.2.1,e3.trans hv.2.2⟩,?_,s5,fun β f=> ?_⟩
  ·rw [zlf1 v hi,hreg,zcb2 ws hwl hi]
  ·have e1:8-i=(8-(i+1))+1:=by omega
   rw [hcn,e1,zcy,zan,iD_eq,hc4.map]
 ·rintro k ⟨ws,r',v,hwl,⟨hv1,hv2,hv3⟩,hreg,s,hcn⟩
  have hcR:Cn bs r2 (D.many (fun _=>iD) 8 []) r' ws:=zhd1 hcn (.inl rfl)
  have hreg:zng1 v=ws:=by rw [hreg];simp
  refine zac (zif (k:=1) s.sb.rd (by omega) (by omega) fun cur r4 k4 hcur m4 a4 hc4 _=> ?_)
  have hcur:cur<256:=hcur
  rw [zal (n:=(cur:Int)) (by omega) (by omega)]
  refine (s.next m4 a4).store a.le (v':={v with Cursor:=(cur:Int)}) (off:=10) (by omega) rfl rfl fun k5 s5=> ?_
  refine zac (zif (k:=8) s5.sb.rd (by omega) (by omega) fun tim r6 k6 htim m6 a6 hc6 _=> ?_)
  have htim:tim<18446744073709551616:=htim
  rw [zmz htim]
  refine (s5.next m6 a6).store a.le (v':={v with Cursor:=(cur:Int),Timer:=i64 tim}) (off:=11) (by omega) rfl rfl fun k7 s7=> ?_
  refine zaq (zky (k:=1) s7.sb.rd (by omega) (by omega) (by decide) (by decide) (by decide) fun fi r8 k8 hfi m8 a8 hc8=> ?_)
  rw [zph (W':=yesE) zlk1] at hc8
  refine (s7.next m8 a8).store a.le (v':={v with Cursor:=(cur:Int),Timer:=i64 tim,Fired:=((fi:Int)==(1:Int))}) (off:=12) (by omega) rfl rfl fun k10 s10=> ?_
  refine zac (zif (k:=8) s10.sb.rd (by omega) (by omega) fun wak r11 k11 hwak m11 a11 hc11 _=> ?_)
  have hwak:wak<18446744073709551616:=hwak
  rw [zmz hwak]
  refine (s10.next m11 a11).store a.le (v':={v with Cursor:=(cur:Int),Timer:=i64 tim,Fired:=((fi:Int)==(1:Int)),Wake:=i64 wak}) (off:=13) (by omega) rfl rfl fun k12 s12=> ?_
  refine readL (N:=c.Labels.len+1) (bl:=bl) (rb:=rb) (bs:=bs) (d:=d) (g:=fun _=>laneD c.Lane (c.Procs.len:Int)) (by push_cast;rfl) (by omega)
   (fun ps r' kk=>∃(l:Sl) (B:List Nat),PTt d h rb bl bs pb kk r' {v with Cursor:=(cur:Int),Timer:=i64 tim,Fired:=((fi:Int)==(1:Int)),Wake:=i64 wak,Lanes:=l} ps B) (fun ps r' kk hI=>by obtain ⟨l,B,s⟩:=hI;exact s.sb.rd)
   ⟨⟨none,0,0⟩,[],by
    have:=s12
    rw [show ({v with Cursor:=(cur:Int),Timer:=i64 tim,Fired:=((fi:Int)==(1:Int)),Wake:=i64 wak}:S_api_Process)={v with Cursor:=(cur:Int),Timer:=i64 tim,Fired:=((fi:Int)==(1:Int)),Wake:=i64 wak,Lanes:=⟨none,0,0⟩} by rw [←hv3]] at this
    exact this⟩ ?_ ?_
  ·rintro i ps at_ kk hpl hi ⟨l,B,s13⟩ K hK
   refine ld_at (sh:=shSl) l (s13.blk.ldIs (off:=14) (n:=1) rfl) ?_
   refine zql (zcr2 s13.sb.rd hl fun y p r14 B' k14 t14 o14 hc14=> ?_)
   have s14:=s13.sb.andThen s13.known t14
   have hs14:=s13.sb.kept s13.known t14
   have hb14:Blk k14 pb (procL {v with Cursor:=(cur:Int),Timer:=i64 tim,Fired:=((fi:Int)==(1:Int)),Wake:=i64 wak,Lanes:=l}):=by
    obtain ⟨t,e⟩:=s13.blk
    exact ⟨t,by rw [hs14 pb (mem_a (List.mem_singleton.2 rfl))];exact e⟩
   refine ⟨⟨hb14.ldIs (off:=14) (n:=1) rfl,trivial⟩,?_⟩
   refine newF (xs:=[y]) (enc:=fun x=>zad (sh_api_Lane.enc x)) (sz:=4) rfl (fun _=>rfl) fun b15 k15 _ hle15 _ o15=> ?_
   have hb15:=hb14.le hle15
   refine ⟨⟨hb15.ldIs (off:=14) (n:=1) rfl,trivial⟩,?_⟩
   have s15:=s14.grow hle15
   have hs15:∀b∈ [pb]++B,k15 b=kk b:=fun b hb=>by
    rw [←hs14 b hb]
    exact zbb hle15 (fun b hb=>by rw [hs14 b hb];exact s13.known b hb) b hb
   have ow:=okLanes.same s13.own fun b hb=>hs15 b (mem_b hb)
   have oe:=okLane.same o14 (zbb hle15 (okLane.known o14))
   refine tmid (P:=[pb]) (M:=B) (S:=[]) (B':=B') okLane a.le (by simpa using s15) ow (v:=y) (p:=p) oe (fun b hb=>by
    rw [List.append_nil] at hb
    rw [hs15 b (mem_a hb)]
    exact s13.known b (mem_a hb)) (o15.rw fun _=>rfl) (fun _=>rfl) (fun _=>rfl) rfl (by omega) fun l16 k16 M16 s16 o16 hs16=> ?_
   rw [List.append_nil] at s16
   have hb16:Blk k16 pb (procL {v with Cursor:=(cur:Int),Timer:=i64 tim,Fired:=((fi:Int)==(1:Int)),Wake:=i64 wak,Lanes:=l}):=by
    obtain ⟨t,e⟩:=hb15
    exact ⟨t,by rw [hs16 pb (by simp)];exact e⟩
   have hpM:pb∉M16:=fun h=>(List.nodup_append.1 s16.nd).2.2 pb (List.mem_singleton.2 rfl) pb h rfl
   refine zdp (off:=14) hb16 (by show 14+1≤15;omega) fun k17 m17 hb17=>hK p r14 k17 ⟨l16,M16,?_,hb17,?_⟩ hc14
   ·exact s16.fin (fun b o e hn=>m17.keep b o e fun h=>hn (mem_a h)) s16.nd (fun b hb=>.inl hb) (fun b hb=>zbc a.le (s16.fresh b hb))
   ·exact okLanes.same o16 (zmv m17 (okLanes.known o16) fun b hb e=>hpM (by have e:b=pb:=List.mem_singleton.1 e;exact e▸hb))
  ·rintro _ ps r12 kk ⟨l,B,s13⟩ hpl hcP
   refine ld_at (sh:=sh_api_Process) {v with Cursor:=(cur:Int),Timer:=i64 tim,Fired:=((fi:Int)==(1:Int)),Wake:=i64 wak,Lanes:=l} (s13.blk.ldIs (off:=0) (n:=15) rfl) ?_
   refine hq _ ⟨(st:Int),(pc:Int),ws,(cur:Int),i64 tim,isOne (fi:Int),i64 wak,ps⟩ r12 B kk ⟨s13.sb.kr,s13.sb.keep,s13.sb.rd,(List.nodup_append.1 s13.sb.nd).2.1,fun b hb=>s13.sb.fresh b (mem_b hb)⟩
    ⟨s13.own,hv1,hv2,hreg,rfl,rfl,?_,rfl⟩ ?_
   ·show ((fi:Int)==(1:Int))=isOne (fi:Int)
    unfold isOne
    rfl
   ·unfold zas1
    exact Cn.seq hc1.map (Cn.seq hc2.map (Cn.seq hcR (Cn.seq hc4.map (Cn.seq (hc6.map:Cn bs r4 iD r6 (i64 tim)) (Cn.seq hc8.map (Cn.seq (hc11.map:Cn bs r8 iD r11 (i64 wak)) (Cn.seq hcP Cn.ret)))))))
end
end Lf

namespace Lf
open Go Go.Proofs
set_option maxRecDepth 20000 in
theorem zsk1 {h:Hp} {b:Sl} {bs:List UInt8} {Q:S_api_Config→S_api_State→Int→Int→Hp→Prop} (hB:Bs h b bs) (hcap:b.len≤b.cap)
  (hE:∀e p h',h≤h'→e≠0→SnapErr bs e p→Q cfg0 st0 e (p:Int) h')
  (hok:∀x v c s B1 B2 h',h≤h'→zdz snapD bs=.ok (c,s)→(cfgE c).1=0→MayP c s→CfgO x c h' B1→StateO v s h' B2→(B1++B2).Nodup→(∀b∈B1++B2,h b=none)→Q x v 0 0 h'):
  zdr Tryz.prog b Q h:=by
 unfold zdr
 have hlen:b.len=bs.length:=hB.1
 by_cases hbig:1048576<bs.length
 ·have hbig':((b.len:Nat):Int)>1048576:=by omega
  rw [if_pos (decide_eq_true hbig')]
  exact hE 22 1048576 h (Hp.le_refl _) (by decide) (.inl (by unfold zdz;rw [if_pos hbig]))
 have hsm:bs.length≤1048576:=by omega
 have hbig':¬((b.len:Nat):Int)>1048576:=by omega
 rw [if_neg (fun e=>hbig' (of_decide_eq_true e))]
 refine newB2 fun rb h1 hn1 hle1 hR1=> ?_
 have a1:RAt h h1 rb b bs (.ok 0):=⟨hle1,hn1,hB,hcap,by omega,0,0,0,hR1,rfl,rfl,by omega⟩
 refine zfo (zsh1 (cs:=[70,66,83,78,1]) a1 (by decide) fun r2 h2 m2 a2 hc2=> ?_)
 have s2:TB h h1 rb b bs h2 r2 []:=TB.step a1.known m2 a2
 refine zsa (zfk2 a2 fun r3 x c B1 h3 t3 own few pos hcv hc3=> ?_)
 have s3:=s2.andThen (fun b hb=>by cases hb) t3
 rw [List.nil_append] at s3
 have hlab:x.Labels.len=c.labels.length:=by
  obtain ⟨C1,C2,C3,_,o1,_⟩:=own
  exact o1.len
 have hpl:x.Procs.len=c.procs.length:=by
  obtain ⟨C1,C2,C3,_,_,_,o3,_⟩:=own
  exact o3.len
 obtain ⟨hLane,hLocks,hLog⟩:x.Lane=c.lane∧x.Locks=c.locks∧x.Log=c.log:=by
  obtain ⟨C1,C2,C3,_,_,_,_,f1,f2,f3,f4⟩:=own
  exact ⟨f2,f3,f4⟩
 have f1:=few.nl
 have f2:=few.np
 have f3:=few.locks
 have kn3:=okCfg.known own
 refine zac (zif (k:=8) s3.rd (by omega) (by omega) fun tick r4 h4 htick m4 a4 hc4 _=> ?_)
 have htick:tick<18446744073709551616:=htick
 rw [zmz htick]
 obtain ⟨s4,hs4⟩:=s3.next kn3 m4 a4
 have own4:=okCfg.same own hs4
 refine readT (N:=c.labels.length) (bl:=b) (rb:=rb) (bs:=bs) (d:=h) (g:=fun _=>partD c.log c.locks (c.procs.length:Int)) (by rw [hlab]) (by omega) (fun (v:S_api_State) ps r' kk=>∃B2,TB h h1 rb b bs kk r' (B1++B2)∧CfgO x c kk B1∧zgw1 v.Parts ps kk B2∧(v.Tick=i64 tick∧v.Procs=⟨none,0,0⟩))
  (fun x ls r' k hI=>hI.choose_spec.1.rd) ⟨[],by simpa using s4,own4,RowsO.nil,⟨rfl,rfl⟩⟩ ?_ ?_
 ·rintro i v ps at_ kk hil hi ⟨B2,s,o1,o2,hv⟩ K hK
  have kn:=zfw (okCfg.known o1) (okParts.known o2)
  refine zqh (zcs2 s.rd (by rw [hLog];exact pos.2) (by rw [hLocks];omega) fun y p r5 B' k5 t5 o5 hc5=>⟨⟨trivial,trivial⟩,?_⟩)
  have s5:=s.andThen kn t5
  have hs5:=s.kept kn t5
  refine newF (xs:=[y]) (enc:=fun x=>zad (sh_api_Part.enc x)) (sz:=6) rfl (fun _=>rfl) fun b6 k6 _ hle6 _ o6=>⟨⟨trivial,trivial⟩,?_⟩
  have s6:=s5.grow hle6
  have hs6:∀b∈B1++B2,k6 b=kk b:=fun b hb=>by
   rw [←hs5 b hb]
   exact zbb hle6 (fun b hb=>by rw [hs5 b hb];exact kn b hb) b hb
  have oe:=okPart.same o5 (zbb hle6 (okPart.known o5))
  have q1:=okCfg.same o1 fun b hb=>hs6 b (mem_a hb)
  refine tmid (P:=B1) (M:=B2) (S:=[]) (B':=B') okPart a1.le (by simpa using s6) (okParts.same o2 fun b hb=>hs6 b (mem_b hb)) (v:=y) (p:=p) oe (by simpa using okCfg.known q1) (o6.rw fun _=>rfl) (fun _=>rfl) (fun _=>rfl) rfl (by omega) fun l7 k7 M7 s7 o7 hs7=> ?_
  rw [List.append_nil] at s7
  rw [hLog,hLocks,hpl] at hc5
  exact hK _ p r5 k7 ⟨M7,s7,okCfg.same q1 fun b hb=>hs7 b (mem_a hb),o7,hv⟩ hc5
 rintro _ v ps r5 k5 ⟨B2,s5,o1,o2,⟨hv1,hv2⟩⟩ hil hcP
 refine readT (N:=c.procs.length) (bl:=b) (rb:=rb) (bs:=bs) (d:=h) (g:=fun _=>zas1 c.labels.length c.lane (c.procs.length:Int)) (by rw [hpl]) (by omega) (fun (v:S_api_State) qs r' kk=>∃B3,TB h h1 rb b bs kk r' (B1++(B2++B3))∧CfgO x c kk B1∧zgw1 v.Parts ps kk B2∧zeq1 v.Procs qs kk B3∧v.Tick=i64 tick)
  (fun x ls r' k hI=>hI.choose_spec.1.rd) ⟨[],by simpa using s5,o1,o2,by rw [hv2];exact RowsO.nil,hv1⟩ ?_ ?_
 ·rintro i v qs at_ kk hil hi ⟨B3,s,o1,o2,o3,hv⟩ K hK
  have kn:=zfw (okCfg.known o1) (zfw (okParts.known o2) (okProcss.known o3))
  refine znu (zsj1 s.rd (by rw [hLane];exact pos.1) (by rw [hlab];omega) fun y p r6 B' k6 t6 o6 hc6=>⟨⟨trivial,trivial⟩,?_⟩)
  have s6:=s.andThen kn t6
  have hs6:=s.kept kn t6
  refine newF (xs:=[y]) (enc:=fun x=>zad (sh_api_Process.enc x)) (sz:=15) rfl (fun _=>rfl) fun b7 k7 _ hle7 _ o7=>⟨⟨trivial,trivial⟩,?_⟩
  have s7:=s6.grow hle7
  have hs7:∀b∈B1++(B2++B3),k7 b=kk b:=fun b hb=>by
   rw [←hs6 b hb]
   exact zbb hle7 (fun b hb=>by rw [hs6 b hb];exact kn b hb) b hb
  have oe:=okProcess.same o6 (zbb hle7 (okProcess.known o6))
  have q1:=okCfg.same o1 fun b hb=>hs7 b (mem_a hb)
  have q2:=okParts.same o2 fun b hb=>hs7 b (mem_b (mem_a hb))
  have q3:=okProcss.same o3 fun b hb=>hs7 b (mem_b (mem_b hb))
  refine tmid (P:=B1++B2) (M:=B3) (S:=[]) (B':=B') okProcess a1.le (by simpa using s7) q3 (v:=y) (p:=p) oe (by simpa using zfw (okCfg.known q1) (okParts.known q2)) (o7.rw fun _=>rfl) (fun _=>rfl) (fun _=>rfl) rfl (by omega) fun l8 k8 M8 s8 o8 hs8=> ?_
  rw [hlab,hLane,hpl] at hc6
  exact hK _ p r6 k8 ⟨M8,by simpa using s8,okCfg.same q1 fun b hb=>hs8 b (mem_a (mem_a hb)),okParts.same q2 fun b hb=>hs8 b (mem_a (mem_b hb)),o8,hv⟩ hc6
 rintro _ v qs r6 k6 ⟨B3,s6,o1,o2,o3,hv⟩ hil hcQ
 have own2:StateO v ⟨i64 tick,ps,qs⟩ k6 (B2++B3):=⟨B2,B3,rfl,o2,o3,hv⟩
 have hcS:Cn bs r3 (zkr1 c) r6 ⟨i64 tick,ps,qs⟩:=by
  unfold zkr1
  exact Cn.seq (hc4.map:Cn bs r3 iD r4 (i64 tick)) (Cn.seq hcP (Cn.seq hcQ Cn.ret))
 have hcAll:Cn bs (.ok 0) snapD r6 (c,⟨i64 tick,ps,qs⟩):=by
  unfold snapD
  exact Cn.seq hc2 (Cn.seq hc3 (Cn.seq hcS Cn.ret))
 have hdone:=hcAll.done
 generalize (⟨i64 tick,ps,qs⟩:PState)=s at*
 have kn6:=zfw (okCfg.known o1) (okState.known own2)
 refine JoinW0.intro (fun k'=>∃r7,Mv [rb] k6 [rb] k'∧RAt h k' rb b bs r7∧match r7 with
  | .error e=>zdz snapD bs=.error e
  | .ok _=>zdz snapD bs=.ok (c,s)) ?_ ?_
 ·obtain ⟨p,e,pl,kb,hs⟩:=s6.rd.blk
  refine zab (ld_at (sh:=shInt .i64) e (kb.ldIs (off:=2) (n:=1) rfl) (zab (ldC (sh:=shInt .i64) p (kb.ldIs (off:=1) (n:=1) rfl) (letW ?_))))
  cases r6 with
  | error y=>
   have hne:=hs.2.1
   rw [←hs.1] at hne
   rw [if_neg (by simp [hne])]
   exact ⟨_,Mv.refl _ _,s6.rd,zrw1 hsm hdone⟩
  | ok at_=>
   obtain ⟨rfl,rfl,hat⟩:=hs
   have hcfg:=zxc1 hsm hdone
   by_cases hlt:at_<bs.length
   ·rw [if_pos hlt] at hcfg
    rw [if_pos (by simp;omega)]
    refine zab (ld_at (sh:=shInt .i64) (at_:Int) (kb.ldIs (off:=1) (n:=1) rfl) ?_)
    refine zap (zsr kb fun k2 m2 kb2=> ?_)
    rw [if_pos rfl,if_pos rfl] at kb2
    exact ⟨.error (6,at_),m2,s6.rd.of m2 kb2 ⟨rfl,by decide,rfl⟩,hcfg⟩
   ·rw [if_neg hlt] at hcfg
    rw [if_neg (by simp;omega)]
    exact ⟨_,Mv.refl _ _,s6.rd,hcfg⟩
 ·rintro k' ⟨r7,m7,a7,hcfg⟩
  obtain ⟨s7,hs7⟩:=s6.next kn6 m7 a7
  have own1:=okCfg.same o1 fun b hb=>hs7 b (mem_a hb)
  have own2:=okState.same own2 fun b hb=>hs7 b (mem_b hb)
  obtain ⟨p,e,pl,kb,hs⟩:=a7.blk
  refine zab (ld_at (sh:=shInt .i64) e (kb.ldIs (off:=2) (n:=1) rfl) ?_)
  cases r7 with
  | error y=>
   obtain ⟨er,q⟩:=y
   obtain ⟨rfl,hne,rfl⟩:=hs
   rw [if_pos (by simpa using hne)]
   have l2:LdIs k' ⟨rb,2,none⟩ [.int .i64 e]:=kb.ldIs (off:=2) (n:=1) rfl
   have l3:LdIs k' ⟨rb,3,none⟩ [.int .i64 (q:Int)]:=kb.ldIs (off:=3) (n:=1) rfl
   exact zab (ld_at (sh:=shInt .i64) e l2 (zab (ld_at (sh:=shInt .i64) (q:Int) l3 ⟨⟨l2,l3,trivial⟩,⟨l2,l3,trivial⟩,hE e q k' a7.le hne (.inl hcfg)⟩)))
  | ok at_=>
   obtain ⟨rfl,rfl,_⟩:=hs
   rw [if_neg (by simp)]
   have hcfg:zdz snapD bs=.ok (c,s):=hcfg
   have hsound:=(znz law_snap hcfg).1
   have hcv:CfgV c:=hsound.1.1
   have htc:=((zxl (zoc c)).2 hcv).1
   refine zmm (zsg1 own1.rd own2.rd (fun l hl=>⟨(htc.1 l hl).1,(htc.1 l hl).2⟩) (StateV.le few hsound.2) fun n k hle hM=> ?_)
   by_cases hn0:n=0
   ·subst hn0
    rw [if_neg (by simp)]
    obtain ⟨h01,h02⟩:(cfgE c).1=0∧MayP c s:=by
     rcases hM with ⟨g1,g2⟩ | ⟨g1,g2⟩
     ·exact absurd g2.symm g1
     ·rcases g2 with ⟨_,g2⟩ | ⟨g2,_⟩
      ·exact ⟨g1,g2⟩
      ·cases g2
    have hk:∀b∈B1++(B2++B3),k b=k' b:=zbb hle (zfw (okCfg.known own1) (okState.known own2))
    exact ⟨⟨trivial,trivial⟩,hok x v c s B1 (B2++B3) k (Hp.le_trans a7.le hle) hcfg h01 h02 (okCfg.same own1 fun b hb=>hk b (mem_a hb)) (okState.same own2 fun b hb=>hk b (mem_b hb)) s7.nd fun b hb=>zbc hle1 (s7.fresh b hb)⟩
   ·rw [if_pos (by simpa using hn0)]
    exact hE n 0 k (Hp.le_trans a7.le hle) hn0 (.inr ⟨c,s,hcfg,rfl,hM⟩)
end Lf

namespace Lf
open Go Go.Proofs
end Lf

