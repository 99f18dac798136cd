/-
  Part 7 of the texts that the claim leans on.
-/
import Derived.Test.YtloapcmhhcbonaaGreatMgSnApart5
namespace Lf
open Go Go.Proofs
section
variable {d h:Hp} {rb:Nat} {bl:Sl} {bs:List UInt8} {r:RS}
theorem readL {α:Type} {g:List α→D α} {len:Int} {N:Nat} (hn:len+1=(N:Int)) (hN:N≤1000000) (I:List α→RS→Hp→Prop) (hrd:∀xs r h,I xs r h→RAt d h rb bl bs r)
  {B:(Int→Hp→Prop)→Int→Hp→Prop} {X:Int→Hp→Prop} {h0:Hp} {r0:RS} (h00:I [] r0 h0)
  (hs:∀(i:Nat) xs at_ h,xs.length=i→i<N→I xs (.ok at_) h→∀K:Int→Hp→Prop,(∀v r' h',I (xs++ [v]) r' h'→Cn bs (.ok at_) (g xs) r' v→K (IntKind.wrap .i64 ((i:Int)+1)) h')→B K (i:Int) h)
  (hx:∀(i:Int) xs r h,I xs r h→xs.length≤N→Cn bs r0 (D.many g N []) r xs→X i h):
  LoopW1 (fun again i h=>NilW (some (decide (i≤len))) (some ⟨rb,0,none⟩) fun p=>LdW (some (decide (i≤len))) (shInt .i64) h (Addr.add p 2) fun x=>
   LetW ((decide (i≤len))&&(x==(0:Int))) fun y=>if y=true then B again i h else X i h) (0:Int) h0:=by
 refine LoopW1.intro (fun t h=>∃(i:Nat) (xs:List α) (r1:RS),t=(i:Int)∧i≤N∧xs.length=i∧I xs r1 h∧∀(β:Type) (f:List α→D β),stepD r0 (D.bind (D.many g N []) f) bs=stepD r1 (D.bind (D.many g (N-i) xs) f) bs)
  (fun t _=>((N:Int)-t).toNat) ⟨0,[],r0,rfl,by omega,rfl,h00,fun _ _=>rfl⟩ ?_
 rintro t h ⟨i,xs,r1,rfl,hi,hxl,hI,hcn⟩
 obtain ⟨p,e,pl,kb,hs1⟩:=(hrd xs r1 h hI).blk
 refine zab (ldC (sh:=shInt .i64) e (kb.ldIs (off:=2) (n:=1) rfl) (letW ?_))
 by_cases hgo:i<N∧∃at_,r1=.ok at_
 ·obtain ⟨hlt,at_,rfl⟩:=hgo
  rw [if_pos (by rw [hs1.2.1];simp;omega)]
  refine hs i xs at_ h hxl hlt hI _ fun v r' h' hI' hc=> ?_
  rw [zak (by omega) (by omega)]
  refine ⟨⟨i+1,xs++ [v],r',by omega,by omega,by simp [hxl],hI',fun β f=> ?_⟩,by omega⟩
  have e1:N-i=(N-(i+1))+1:=by omega
  rw [hcn,e1,zdh,zai,hc]
 ·have hor:i=N∨∃e,r1=.error e:=by
   by_cases hlt:i<N
   ·cases r1 with
    | ok a=>exact absurd ⟨hlt,a,rfl⟩ hgo
    | error e=>exact .inr ⟨e,rfl⟩
   ·exact .inl (by omega)
  rw [if_neg (by
   rcases hor with rfl | ⟨y,rfl⟩
   ·simp;omega
   ·have:=hs1.2.1
    rw [←hs1.1] at this
    simp [this])]
  exact hx _ xs r1 h hI (by omega) (zja1 hcn hor)
end
structure PTt (d h0:Hp) (rb:Nat) (bl:Sl) (bs:List UInt8) (pb:Nat) (k:Hp) (r:RS) (v:S_api_Process) (ls:List PLane) (B:List Nat):Prop where
 sb:TB d h0 rb bl bs k r ([pb]++B)
 blk:Blk k pb (procL v)
 own:zue v.Lanes ls k B
section
variable {d h0 k:Hp} {rb pb:Nat} {bl:Sl} {bs:List UInt8} {r:RS} {v:S_api_Process} {ls:List PLane} {B:List Nat}
theorem PTt.known (s:PTt d h0 rb bl bs pb k r v ls B):∀b∈ [pb]++B,k b≠none:=fun b hb=>by
 rcases List.mem_append.1 hb with hb | hb
 ·rw [List.mem_singleton.1 hb];exact s.blk.known
 ·exact okLanes.known s.own b hb
theorem PTt.pn (s:PTt d h0 rb bl bs pb k r v ls B):pb∉B:=fun h=>(List.nodup_append.1 s.sb.nd).2.2 pb (List.mem_singleton.2 rfl) pb h rfl
theorem PTt.next (s:PTt d h0 rb bl bs pb k r v ls B) {k':Hp} {r1:RS} (m:Mv [rb] k [rb] k') (a:RAt d k' rb bl bs r1):PTt d h0 rb bl bs pb k' r1 v ls B:=by
 obtain ⟨s2,hs⟩:=s.sb.next s.known m a
 exact ⟨s2,s.blk.mv m fun h=>s.sb.nr (mem_a (by rw [List.mem_singleton.1 h];exact List.mem_singleton.2 rfl)),okLanes.same s.own fun b hb=>hs b (mem_b hb)⟩
theorem PTt.store (hd0:d≤h0) (s:PTt d h0 rb bl bs pb k r v ls B) {v':S_api_Process} {off:Nat} {val:Value} (hoff:off<15) (hl:v'.Lanes=v.Lanes) (hv:procL v'=(procL v).take off++ [val]++(procL v).drop (off+1)) {K:Hp→Prop}
  (hk:∀k',PTt d h0 rb bl bs pb k' r v' ls B→K k'):StW k ⟨pb,off,none⟩ [val] K:=by
 refine zeo s.blk (by show off+1≤15;omega) fun k4 m4 hb4=>hk k4 ?_
 refine ⟨s.sb.fin (fun b o e hn=>m4.keep b o e fun h=>hn (mem_a h)) s.sb.nd (fun b hb=>.inl hb) (fun b hb=>zbk hd0 (s.sb.fresh b hb)),by rw [hv];exact hb4,?_⟩
 rw [hl]
 exact okLanes.same s.own (zod m4 (okLanes.known s.own) fun b hb e=>s.pn (by rw [←List.mem_singleton.1 e];exact hb))
theorem PTt.grow (s:PTt d h0 rb bl bs pb k r v ls B) {k':Hp} (hl:k≤k'):PTt d h0 rb bl bs pb k' r v ls B:=
 ⟨s.sb.grow hl,s.blk.le hl,okLanes.same s.own (zbp hl (okLanes.known s.own))⟩
end
section
variable {d h:Hp} {rb:Nat} {bl:Sl} {bs:List UInt8} {r:RS}
set_option maxRecDepth 20000 in
theorem ztv1 {c:S_api_Config} {Q:S_api_Process→Hp→Prop} (a:RAt d h rb bl bs r) (hl:0≤c.Lane) (hll:c.Labels.len≤1000)
  (hq:∀v p r1 B h',TB d h rb bl bs h' r1 B→ProcessO v p h' B→Cn bs r (zde1 c.Labels.len c.Lane (c.Procs.len:Int)) r1 p→Q v h'):zcq Tryz.prog (some ⟨rb,0,none⟩) c Q h:=by
 unfold zcq
 refine zac (zkf (k:=1) a (by omega) (by omega) fun st r1 h1 hst m1 a1 hc1 _=> ?_)
 have hst:st<256:=hst
 rw [zak (n:=(st:Int)) (by omega) (by omega)]
 have s1:TB d h rb bl bs h1 r1 []:=TB.step a.known m1 a1
 refine newB2 fun pb h2 hn2 hle2 hP2=> ?_
 have s2:TB d h rb bl bs h2 r1 [pb]:=s1.add (fun b hb=>by cases hb) hn2 hle2
 refine zeo (b:=pb) (off:=0) hP2 (by simp) fun h3 m3 hP3=> ?_
 have hP3:Blk h3 pb (procL ⟨(st:Int),0,0,0,0,0,0,0,0,0,0,0,false,0,⟨none,0,0⟩⟩):=hP3
 have s3:PTt d h rb bl bs pb h3 r1 ⟨(st:Int),0,0,0,0,0,0,0,0,0,0,0,false,0,⟨none,0,0⟩⟩ [] []:=
  ⟨by
   rw [List.append_nil]
   exact s2.fin (fun b o e hn=>m3.keep b o e hn) s2.nd (fun b hb=>.inl hb) (fun b hb=>zbk a.le (s2.fresh b hb)),hP3,RowsO.nil⟩
 refine zac (zkf (k:=2) s3.sb.rd (by omega) (by omega) fun pc r2 h4 hpc m4 a4 hc2 _=> ?_)
 have hpc:pc<65536:=hpc
 rw [zak (n:=(pc:Int)) (by omega) (by omega)]
 refine (s3.next m4 a4).store a.le (v':=⟨(st:Int),(pc:Int),0,0,0,0,0,0,0,0,0,0,false,0,⟨none,0,0⟩⟩) (off:=1) (by omega) rfl rfl fun h5 s5=> ?_
 refine forI (n:=8) rfl (by omega) (fun i k=>∃(ws:List Int) (r':RS) (v:S_api_Process),ws.length=i∧(v.State=(st:Int)∧v.PC=(pc:Int)∧v.Lanes=⟨none,0,0⟩)∧zpk1 v=ws++List.replicate (8-i) 0∧PTt d h rb bl bs pb k r' v [] []∧
  ∀(β:Type) (f:List Int→D β),stepD r2 (D.bind (D.many (fun _=>iD) 8 []) f) bs=stepD r' (D.bind (D.many (fun _=>iD) (8-i) ws) f) bs) ⟨[],r2,_,rfl,⟨rfl,rfl,rfl⟩,rfl,s5,fun _ _=>rfl⟩ ?_ ?_
 ·rintro i hi k ⟨ws,r',v,hwl,hv,hreg,s,hcn⟩ K hK
  refine zac (zkf (k:=8) s.sb.rd (by omega) (by omega) fun w r4 k4 hw m4 a4 hc4 _=>⟨⟨by omega,by omega⟩,?_⟩)
  have hw:w<18446744073709551616:=hw
  rw [zog hw]
  have s4:=s.next m4 a4
  have haddr:(Addr.add (Addr.add ⟨pb,0,none⟩ 2) ((Int.toNat (i:Int))*1))=⟨pb,2+i,none⟩:=by
   rw [Nat.mul_one,show Int.toNat (i:Int)=i from rfl,zec,zec,Nat.zero_add]
  rw [haddr]
  obtain ⟨e1,e2,e3⟩:=zmw1 v hi (i64 w)
  refine s4.store a.le (v':=ziu1 v i (i64 w)) (off:=2+i) (by omega) e3 (zkj1 v hi _) fun k5 s5=>hK k5 ⟨ws++ [i64 w],r4,ziu1 v i (i64 w),by simp [hwl],⟨e1.trans hv.1,e2.trans hv.2.1,e3.trans hv.2.2⟩,?_,s5,fun β f=> ?_⟩
  ·rw [zmv1 v hi,hreg,zde2 ws hwl hi]
  ·have e1:8-i=(8-(i+1))+1:=by omega
   rw [hcn,e1,zdh,zai,iD_eq,hc4.map]
 ·rintro k ⟨ws,r',v,hwl,⟨hv1,hv2,hv3⟩,hreg,s,hcn⟩
  have hcR:Cn bs r2 (D.many (fun _=>iD) 8 []) r' ws:=zja1 hcn (.inl rfl)
  have hreg:zpk1 v=ws:=by rw [hreg];simp
  refine zac (zkf (k:=1) s.sb.rd (by omega) (by omega) fun cur r4 k4 hcur m4 a4 hc4 _=> ?_)
  have hcur:cur<256:=hcur
  rw [zak (n:=(cur:Int)) (by omega) (by omega)]
  refine (s.next m4 a4).store a.le (v':={v with Cursor:=(cur:Int)}) (off:=10) (by omega) rfl rfl fun k5 s5=> ?_
  refine zac (zkf (k:=8) s5.sb.rd (by omega) (by omega) fun tim r6 k6 htim m6 a6 hc6 _=> ?_)
  have htim:tim<18446744073709551616:=htim
  rw [zog htim]
  refine (s5.next m6 a6).store a.le (v':={v with Cursor:=(cur:Int),Timer:=i64 tim}) (off:=11) (by omega) rfl rfl fun k7 s7=> ?_
  refine zao (zml (k:=1) s7.sb.rd (by omega) (by omega) (by decide) (by decide) (by decide) fun fi r8 k8 hfi m8 a8 hc8=> ?_)
  rw [zqz (W':=yesE) zna1] at hc8
  refine (s7.next m8 a8).store a.le (v':={v with Cursor:=(cur:Int),Timer:=i64 tim,Fired:=((fi:Int)==(1:Int))}) (off:=12) (by omega) rfl rfl fun k10 s10=> ?_
  refine zac (zkf (k:=8) s10.sb.rd (by omega) (by omega) fun wak r11 k11 hwak m11 a11 hc11 _=> ?_)
  have hwak:wak<18446744073709551616:=hwak
  rw [zog hwak]
  refine (s10.next m11 a11).store a.le (v':={v with Cursor:=(cur:Int),Timer:=i64 tim,Fired:=((fi:Int)==(1:Int)),Wake:=i64 wak}) (off:=13) (by omega) rfl rfl fun k12 s12=> ?_
  refine readL (N:=c.Labels.len+1) (bl:=bl) (rb:=rb) (bs:=bs) (d:=d) (g:=fun _=>laneD c.Lane (c.Procs.len:Int)) (by push_cast;rfl) (by omega)
   (fun ps r' kk=>∃(l:Sl) (B:List Nat),PTt d h rb bl bs pb kk r' {v with Cursor:=(cur:Int),Timer:=i64 tim,Fired:=((fi:Int)==(1:Int)),Wake:=i64 wak,Lanes:=l} ps B) (fun ps r' kk hI=>by obtain ⟨l,B,s⟩:=hI;exact s.sb.rd)
   ⟨⟨none,0,0⟩,[],by
    have:=s12
    rw [show ({v with Cursor:=(cur:Int),Timer:=i64 tim,Fired:=((fi:Int)==(1:Int)),Wake:=i64 wak}:S_api_Process)={v with Cursor:=(cur:Int),Timer:=i64 tim,Fired:=((fi:Int)==(1:Int)),Wake:=i64 wak,Lanes:=⟨none,0,0⟩} by rw [←hv3]] at this
    exact this⟩ ?_ ?_
  ·rintro i ps at_ kk hpl hi ⟨l,B,s13⟩ K hK
   refine ld_at (sh:=shSl) l (s13.blk.ldIs (off:=14) (n:=1) rfl) ?_
   refine zsv (zdt2 s13.sb.rd hl fun y p r14 B' k14 t14 o14 hc14=> ?_)
   have s14:=s13.sb.andThen s13.known t14
   have hs14:=s13.sb.kept s13.known t14
   have hb14:Blk k14 pb (procL {v with Cursor:=(cur:Int),Timer:=i64 tim,Fired:=((fi:Int)==(1:Int)),Wake:=i64 wak,Lanes:=l}):=by
    obtain ⟨t,e⟩:=s13.blk
    exact ⟨t,by rw [hs14 pb (mem_a (List.mem_singleton.2 rfl))];exact e⟩
   refine ⟨⟨hb14.ldIs (off:=14) (n:=1) rfl,trivial⟩,?_⟩
   refine newF (xs:=[y]) (enc:=fun x=>zae (sh_api_Lane.enc x)) (sz:=4) rfl (fun _=>rfl) fun b15 k15 _ hle15 _ o15=> ?_
   have hb15:=hb14.le hle15
   refine ⟨⟨hb15.ldIs (off:=14) (n:=1) rfl,trivial⟩,?_⟩
   have s15:=s14.grow hle15
   have hs15:∀b∈ [pb]++B,k15 b=kk b:=fun b hb=>by
    rw [←hs14 b hb]
    exact zbp hle15 (fun b hb=>by rw [hs14 b hb];exact s13.known b hb) b hb
   have ow:=okLanes.same s13.own fun b hb=>hs15 b (mem_b hb)
   have oe:=okLane.same o14 (zbp hle15 (okLane.known o14))
   refine tmid (P:=[pb]) (M:=B) (S:=[]) (B':=B') okLane a.le (by simpa using s15) ow (v:=y) (p:=p) oe (fun b hb=>by
    rw [List.append_nil] at hb
    rw [hs15 b (mem_a hb)]
    exact s13.known b (mem_a hb)) (o15.rw fun _=>rfl) (fun _=>rfl) (fun _=>rfl) rfl (by omega) fun l16 k16 M16 s16 o16 hs16=> ?_
   rw [List.append_nil] at s16
   have hb16:Blk k16 pb (procL {v with Cursor:=(cur:Int),Timer:=i64 tim,Fired:=((fi:Int)==(1:Int)),Wake:=i64 wak,Lanes:=l}):=by
    obtain ⟨t,e⟩:=hb15
    exact ⟨t,by rw [hs16 pb (by simp)];exact e⟩
   have hpM:pb∉M16:=fun h=>(List.nodup_append.1 s16.nd).2.2 pb (List.mem_singleton.2 rfl) pb h rfl
   refine zeo (off:=14) hb16 (by show 14+1≤15;omega) fun k17 m17 hb17=>hK p r14 k17 ⟨l16,M16,?_,hb17,?_⟩ hc14
   ·exact s16.fin (fun b o e hn=>m17.keep b o e fun h=>hn (mem_a h)) s16.nd (fun b hb=>.inl hb) (fun b hb=>zbk a.le (s16.fresh b hb))
   ·exact okLanes.same o16 (zod m17 (okLanes.known o16) fun b hb e=>hpM (by have e:b=pb:=List.mem_singleton.1 e;exact e▸hb))
  ·rintro _ ps r12 kk ⟨l,B,s13⟩ hpl hcP
   refine ld_at (sh:=sh_api_Process) {v with Cursor:=(cur:Int),Timer:=i64 tim,Fired:=((fi:Int)==(1:Int)),Wake:=i64 wak,Lanes:=l} (s13.blk.ldIs (off:=0) (n:=15) rfl) ?_
   refine hq _ ⟨(st:Int),(pc:Int),ws,(cur:Int),i64 tim,isOne (fi:Int),i64 wak,ps⟩ r12 B kk ⟨s13.sb.kr,s13.sb.keep,s13.sb.rd,(List.nodup_append.1 s13.sb.nd).2.1,fun b hb=>s13.sb.fresh b (mem_b hb)⟩
    ⟨s13.own,hv1,hv2,hreg,rfl,rfl,?_,rfl⟩ ?_
   ·show ((fi:Int)==(1:Int))=isOne (fi:Int)
    unfold isOne
    rfl
   ·unfold zde1
    exact Cn.seq hc1.map (Cn.seq hc2.map (Cn.seq hcR (Cn.seq hc4.map (Cn.seq (hc6.map:Cn bs r4 iD r6 (i64 tim)) (Cn.seq hc8.map (Cn.seq (hc11.map:Cn bs r8 iD r11 (i64 wak)) (Cn.seq hcP Cn.ret)))))))
end
end Lf

namespace Lf
open Go Go.Proofs
set_option maxRecDepth 20000 in
theorem zkk1 {h:Hp} {b:Sl} {bs:List UInt8} {Q:S_api_Config→S_api_State→Int→Int→Hp→Prop} (hB:Bs h b bs) (hcap:b.len≤b.cap)
  (hE:∀e p h',h≤h'→e≠0→SnapErr bs e p→Q cfg0 st0 e (p:Int) h')
  (hok:∀x v c s B1 B2 h',h≤h'→zfk snapD bs=.ok (c,s)→(cfgE c).1=0→MayP c s→CfgO x c h' B1→StateO v s h' B2→(B1++B2).Nodup→(∀b∈B1++B2,h b=none)→Q x v 0 0 h'):
  zev Tryz.prog b Q h:=by
 unfold zev
 have hlen:b.len=bs.length:=hB.1
 by_cases hbig:1048576<bs.length
 ·have hbig':((b.len:Nat):Int)>1048576:=by omega
  rw [if_pos (decide_eq_true hbig')]
  exact hE 22 1048576 h (Hp.le_refl _) (by decide) (.inl (by unfold zfk;rw [if_pos hbig]))
 have hsm:bs.length≤1048576:=by omega
 have hbig':¬((b.len:Nat):Int)>1048576:=by omega
 rw [if_neg (fun e=>hbig' (of_decide_eq_true e))]
 refine newB2 fun rb h1 hn1 hle1 hR1=> ?_
 have a1:RAt h h1 rb b bs (.ok 0):=⟨hle1,hn1,hB,hcap,by omega,0,0,0,hR1,rfl,rfl,by omega⟩
 refine zhw (ztt1 (cs:=[70,66,83,78,1]) a1 (by decide) fun r2 h2 m2 a2 hc2=> ?_)
 have s2:TB h h1 rb b bs h2 r2 []:=TB.step a1.known m2 a2
 refine zuh (zgc2 a2 fun r3 x c B1 h3 t3 own few pos hcv hc3=> ?_)
 have s3:=s2.andThen (fun b hb=>by cases hb) t3
 rw [List.nil_append] at s3
 have hlab:x.Labels.len=c.labels.length:=by
  obtain ⟨C1,C2,C3,_,o1,_⟩:=own
  exact o1.len
 have hpl:x.Procs.len=c.procs.length:=by
  obtain ⟨C1,C2,C3,_,_,_,o3,_⟩:=own
  exact o3.len
 obtain ⟨hLane,hLocks,hLog⟩:x.Lane=c.lane∧x.Locks=c.locks∧x.Log=c.log:=by
  obtain ⟨C1,C2,C3,_,_,_,_,f1,f2,f3,f4⟩:=own
  exact ⟨f2,f3,f4⟩
 have f1:=few.nl
 have f2:=few.np
 have f3:=few.locks
 have kn3:=okCfg.known own
 refine zac (zkf (k:=8) s3.rd (by omega) (by omega) fun tick r4 h4 htick m4 a4 hc4 _=> ?_)
 have htick:tick<18446744073709551616:=htick
 rw [zog htick]
 obtain ⟨s4,hs4⟩:=s3.next kn3 m4 a4
 have own4:=okCfg.same own hs4
 refine readT (N:=c.labels.length) (bl:=b) (rb:=rb) (bs:=bs) (d:=h) (g:=fun _=>partD c.log c.locks (c.procs.length:Int)) (by rw [hlab]) (by omega) (fun (v:S_api_State) ps r' kk=>∃B2,TB h h1 rb b bs kk r' (B1++B2)∧CfgO x c kk B1∧zmy1 v.Parts ps kk B2∧(v.Tick=i64 tick∧v.Procs=⟨none,0,0⟩))
  (fun x ls r' k hI=>hI.choose_spec.1.rd) ⟨[],by simpa using s4,own4,RowsO.nil,⟨rfl,rfl⟩⟩ ?_ ?_
 ·rintro i v ps at_ kk hil hi ⟨B2,s,o1,o2,hv⟩ K hK
  have kn:=zku (okCfg.known o1) (okParts.known o2)
  refine zsq (zdu2 s.rd (by rw [hLog];exact pos.2) (by rw [hLocks];omega) fun y p r5 B' k5 t5 o5 hc5=>⟨⟨trivial,trivial⟩,?_⟩)
  have s5:=s.andThen kn t5
  have hs5:=s.kept kn t5
  refine newF (xs:=[y]) (enc:=fun x=>zae (sh_api_Part.enc x)) (sz:=6) rfl (fun _=>rfl) fun b6 k6 _ hle6 _ o6=>⟨⟨trivial,trivial⟩,?_⟩
  have s6:=s5.grow hle6
  have hs6:∀b∈B1++B2,k6 b=kk b:=fun b hb=>by
   rw [←hs5 b hb]
   exact zbp hle6 (fun b hb=>by rw [hs5 b hb];exact kn b hb) b hb
  have oe:=okPart.same o5 (zbp hle6 (okPart.known o5))
  have q1:=okCfg.same o1 fun b hb=>hs6 b (mem_a hb)
  refine tmid (P:=B1) (M:=B2) (S:=[]) (B':=B') okPart a1.le (by simpa using s6) (okParts.same o2 fun b hb=>hs6 b (mem_b hb)) (v:=y) (p:=p) oe (by simpa using okCfg.known q1) (o6.rw fun _=>rfl) (fun _=>rfl) (fun _=>rfl) rfl (by omega) fun l7 k7 M7 s7 o7 hs7=> ?_
  rw [List.append_nil] at s7
  rw [hLog,hLocks,hpl] at hc5
  exact hK _ p r5 k7 ⟨M7,s7,okCfg.same q1 fun b hb=>hs7 b (mem_a hb),o7,hv⟩ hc5
 rintro _ v ps r5 k5 ⟨B2,s5,o1,o2,⟨hv1,hv2⟩⟩ hil hcP
 refine readT (N:=c.procs.length) (bl:=b) (rb:=rb) (bs:=bs) (d:=h) (g:=fun _=>zde1 c.labels.length c.lane (c.procs.length:Int)) (by rw [hpl]) (by omega) (fun (v:S_api_State) qs r' kk=>∃B3,TB h h1 rb b bs kk r' (B1++(B2++B3))∧CfgO x c kk B1∧zmy1 v.Parts ps kk B2∧zmz1 v.Procs qs kk B3∧v.Tick=i64 tick)
  (fun x ls r' k hI=>hI.choose_spec.1.rd) ⟨[],by simpa using s5,o1,o2,by rw [hv2];exact RowsO.nil,hv1⟩ ?_ ?_
 ·rintro i v qs at_ kk hil hi ⟨B3,s,o1,o2,o3,hv⟩ K hK
  have kn:=zku (okCfg.known o1) (zku (okParts.known o2) (okProcss.known o3))
  refine zpj (ztv1 s.rd (by rw [hLane];exact pos.1) (by rw [hlab];omega) fun y p r6 B' k6 t6 o6 hc6=>⟨⟨trivial,trivial⟩,?_⟩)
  have s6:=s.andThen kn t6
  have hs6:=s.kept kn t6
  refine newF (xs:=[y]) (enc:=fun x=>zae (sh_api_Process.enc x)) (sz:=15) rfl (fun _=>rfl) fun b7 k7 _ hle7 _ o7=>⟨⟨trivial,trivial⟩,?_⟩
  have s7:=s6.grow hle7
  have hs7:∀b∈B1++(B2++B3),k7 b=kk b:=fun b hb=>by
   rw [←hs6 b hb]
   exact zbp hle7 (fun b hb=>by rw [hs6 b hb];exact kn b hb) b hb
  have oe:=okProcess.same o6 (zbp hle7 (okProcess.known o6))
  have q1:=okCfg.same o1 fun b hb=>hs7 b (mem_a hb)
  have q2:=okParts.same o2 fun b hb=>hs7 b (mem_b (mem_a hb))
  have q3:=okProcss.same o3 fun b hb=>hs7 b (mem_b (mem_b hb))
  refine tmid (P:=B1++B2) (M:=B3) (S:=[]) (B':=B') okProcess a1.le (by simpa using s7) q3 (v:=y) (p:=p) oe (by simpa using zku (okCfg.known q1) (okParts.known q2)) (o7.rw fun _=>rfl) (fun _=>rfl) (fun _=>rfl) rfl (by omega) fun l8 k8 M8 s8 o8 hs8=> ?_
  rw [hlab,hLane,hpl] at hc6
  exact hK _ p r6 k8 ⟨M8,by simpa using s8,okCfg.same q1 fun b hb=>hs8 b (mem_a (mem_a hb)),okParts.same q2 fun b hb=>hs8 b (mem_a (mem_b hb)),o8,hv⟩ hc6
 rintro _ v qs r6 k6 ⟨B3,s6,o1,o2,o3,hv⟩ hil hcQ
 have own2:StateO v ⟨i64 tick,ps,qs⟩ k6 (B2++B3):=⟨B2,B3,rfl,o2,o3,hv⟩
 have hcS:Cn bs r3 (zml1 c) r6 ⟨i64 tick,ps,qs⟩:=by
  unfold zml1
  exact Cn.seq (hc4.map:Cn bs r3 iD r4 (i64 tick)) (Cn.seq hcP (Cn.seq hcQ Cn.ret))
 have hcAll:Cn bs (.ok 0) snapD r6 (c,⟨i64 tick,ps,qs⟩):=by
  unfold snapD
  exact Cn.seq hc2 (Cn.seq hc3 (Cn.seq hcS Cn.ret))
 have hdone:=hcAll.done
 generalize (⟨i64 tick,ps,qs⟩:PState)=s at*
 have kn6:=zku (okCfg.known o1) (okState.known own2)
 refine JoinW0.intro (fun k'=>∃r7,Mv [rb] k6 [rb] k'∧RAt h k' rb b bs r7∧match r7 with
  | .error e=>zfk snapD bs=.error e
  | .ok _=>zfk snapD bs=.ok (c,s)) ?_ ?_
 ·obtain ⟨p,e,pl,kb,hs⟩:=s6.rd.blk
  refine zab (ld_at (sh:=shInt .i64) e (kb.ldIs (off:=2) (n:=1) rfl) (zab (ldC (sh:=shInt .i64) p (kb.ldIs (off:=1) (n:=1) rfl) (letW ?_))))
  cases r6 with
  | error y=>
   have hne:=hs.2.1
   rw [←hs.1] at hne
   rw [if_neg (by simp [hne])]
   exact ⟨_,Mv.refl _ _,s6.rd,ztk1 hsm hdone⟩
  | ok at_=>
   obtain ⟨rfl,rfl,hat⟩:=hs
   have hcfg:=zyj1 hsm hdone
   by_cases hlt:at_<bs.length
   ·rw [if_pos hlt] at hcfg
    rw [if_pos (by simp;omega)]
    refine zab (ld_at (sh:=shInt .i64) (at_:Int) (kb.ldIs (off:=1) (n:=1) rfl) ?_)
    refine zal (zvv kb fun k2 m2 kb2=> ?_)
    rw [if_pos rfl,if_pos rfl] at kb2
    exact ⟨.error (6,at_),m2,s6.rd.of m2 kb2 ⟨rfl,by decide,rfl⟩,hcfg⟩
   ·rw [if_neg hlt] at hcfg
    rw [if_neg (by simp;omega)]
    exact ⟨_,Mv.refl _ _,s6.rd,hcfg⟩
 ·rintro k' ⟨r7,m7,a7,hcfg⟩
  obtain ⟨s7,hs7⟩:=s6.next kn6 m7 a7
  have own1:=okCfg.same o1 fun b hb=>hs7 b (mem_a hb)
  have own2:=okState.same own2 fun b hb=>hs7 b (mem_b hb)
  obtain ⟨p,e,pl,kb,hs⟩:=a7.blk
  refine zab (ld_at (sh:=shInt .i64) e (kb.ldIs (off:=2) (n:=1) rfl) ?_)
  cases r7 with
  | error y=>
   obtain ⟨er,q⟩:=y
   obtain ⟨rfl,hne,rfl⟩:=hs
   rw [if_pos (by simpa using hne)]
   have l2:LdIs k' ⟨rb,2,none⟩ [.int .i64 e]:=kb.ldIs (off:=2) (n:=1) rfl
   have l3:LdIs k' ⟨rb,3,none⟩ [.int .i64 (q:Int)]:=kb.ldIs (off:=3) (n:=1) rfl
   exact zab (ld_at (sh:=shInt .i64) e l2 (zab (ld_at (sh:=shInt .i64) (q:Int) l3 ⟨⟨l2,l3,trivial⟩,⟨l2,l3,trivial⟩,hE e q k' a7.le hne (.inl hcfg)⟩)))
  | ok at_=>
   obtain ⟨rfl,rfl,_⟩:=hs
   rw [if_neg (by simp)]
   have hcfg:zfk snapD bs=.ok (c,s):=hcfg
   have hsound:=(zpr law_snap hcfg).1
   have hcv:CfgV c:=hsound.1.1
   have htc:=((zio1 (zvu c)).2 hcv).1
   refine zze (zdp2 own1.rd own2.rd (fun l hl=>⟨(htc.1 l hl).1,(htc.1 l hl).2⟩) (StateV.le few hsound.2) fun n k hle hM=> ?_)
   by_cases hn0:n=0
   ·subst hn0
    rw [if_neg (by simp)]
    obtain ⟨h01,h02⟩:(cfgE c).1=0∧MayP c s:=by
     rcases hM with ⟨g1,g2⟩ | ⟨g1,g2⟩
     ·exact absurd g2.symm g1
     ·rcases g2 with ⟨_,g2⟩ | ⟨g2,_⟩
      ·exact ⟨g1,g2⟩
      ·cases g2
    have hk:∀b∈B1++(B2++B3),k b=k' b:=zbp hle (zku (okCfg.known own1) (okState.known own2))
    exact ⟨⟨trivial,trivial⟩,hok x v c s B1 (B2++B3) k (Hp.le_trans a7.le hle) hcfg h01 h02 (okCfg.same own1 fun b hb=>hk b (mem_a hb)) (okState.same own2 fun b hb=>hk b (mem_b hb)) s7.nd fun b hb=>zbk hle1 (s7.fresh b hb)⟩
   ·rw [if_pos (by simpa using hn0)]
    exact hE n 0 k (Hp.le_trans a7.le hle) hn0 (.inr ⟨c,s,hcfg,rfl,hM⟩)
end Lf

namespace Lf
open Go Go.Proofs
end Lf

namespace Lf
open Go Go.Proofs
def Ow {α β:Type} (R:α→β→Hp→List Nat→Prop) (v:α) (p:β) (h0:Hp) (G:List Nat) (h:Hp):Prop:=∃B,R v p h B∧B.Nodup∧Mv G h0 B h
section
variable {α β α' β':Type} {R:α→β→Hp→List Nat→Prop} {R':α'→β'→Hp→List Nat→Prop} {v v':α} {p p':β} {h0 h h':Hp} {G:List Nat}
theorem Ow.start {B:List Nat} (r:R v p h B) (nd:B.Nodup):Ow R v p h B h:=⟨B,r,nd,Mv.refl _ _⟩
theorem Ow.then_ {B:List Nat} (m:Mv G h0 B h) (o:Ow R v p h B h'):Ow R v p h0 G h':=by
 obtain ⟨B',r,nd,m'⟩:=o
 exact ⟨B',r,nd,m.trans m'⟩
theorem Ow.le (ok:AsOk R) (o:Ow R v p h0 G h) (hl:h≤h'):Ow R v p h0 G h':=by
 obtain ⟨B,r,nd,m⟩:=o
 exact ⟨B,ok.same r (zbp hl (ok.known r)),nd,m.trans (Mv.of_le B hl)⟩
theorem Ow.keep (o:Ow R v p h0 G h) {b:Nat} {ob:Obj} (e:h0 b=some ob) (hn:b∉G):h b=some ob:=by
 obtain ⟨B,r,nd,m⟩:=o
 exact m.keep b ob e hn
theorem Ow.mid {P M S:List Nat} (nd:(P++(M++S)).Nodup) (m:Mv G h0 (P++(M++S)) h) (kn:∀b∈P++S,h b≠none) {w:α'} {q:β'} (i:Ow R' w q h M h'):
  ∃M',R' w q h' M'∧(P++(M'++S)).Nodup∧Mv G h0 (P++(M'++S)) h'∧∀b∈P++S,h' b=h b:=by
 obtain ⟨M',r,nd',m'⟩:=i
 have n:=List.nodup_append.1 nd
 have n2:=List.nodup_append.1 n.2.1
 have hout:∀b∈P++S,b∉M:=fun b hb hm=>by
  rcases List.mem_append.1 hb with hb | hb
  ·exact n.2.2 b hb b (List.mem_append_left _ hm) rfl
  ·exact n2.2.2 b hm b hb rfl
 refine ⟨M',r,Lf.mid (B':=[]) nd nd' (fun c hc=>by simpa using m'.from_ c hc) kn (fun c hc=>by cases hc),⟨fun b o e hg=> ?_,fun b hb=> ?_⟩,fun b hb=> ?_⟩
 ·have e1:=m.keep b o e hg
  refine m'.keep b o e1 fun hm=> ?_
  rcases m.from_ b (List.mem_append_right _ (List.mem_append_left _ hm)) with h1 | h1
  ·exact hg h1
  ·rw [h1] at e;cases e
 ·have key:b∈P++(M++S)∨h b=none→b∈G∨h0 b=none:=fun h1=>by
   rcases h1 with h1 | h1
   ·exact m.from_ b h1
   ·cases e:h0 b with
    | none=>exact .inr rfl
    | some o=>
     refine .inl (Classical.byContradiction fun hn=> ?_)
     rw [m.keep b o e hn] at h1;cases h1
  rcases List.mem_append.1 hb with hb | hb
  ·exact key (.inl (List.mem_append_left _ hb))
  ·rcases List.mem_append.1 hb with hb | hb
   ·rcases m'.from_ b hb with h1 | h1
    ·exact key (.inl (List.mem_append_right _ (List.mem_append_left _ h1)))
    ·exact key (.inr h1)
   ·exact key (.inl (List.mem_append_right _ (List.mem_append_right _ hb)))
 ·cases e:h b with
  | none=>exact absurd e (kn b hb)
  | some o=>exact m'.keep b o e (hout b hb)
end
def Fr (M:List Nat) (h h':Hp):Prop:=∀b o,h b=some o→b∉M→h' b=some o
theorem Fr.refl (M:List Nat) (h:Hp):Fr M h h:=fun _ _ e _=>e
theorem Fr.le {M:List Nat} {h h1 h2:Hp} (f:Fr M h h1) (hl:h1≤h2):Fr M h h2:=fun b o e hn=>hl b o (f b o e hn)
theorem Ow.fr {α β:Type} {R:α→β→Hp→List Nat→Prop} {v:α} {p:β} {h h':Hp} {M:List Nat} (o:Ow R v p h M h'):Fr M h h':=fun _ _ e hn=>o.keep e hn
theorem Fr.then_ {M M':List Nat} {h h1 h2:Hp} (f:Fr M h h1) (g:Fr M' h1 h2) (hs:∀b∈M',b∈M∨h b=none):Fr M h h2:=fun b o e hn=>g b o (f b o e hn) fun hb=>by
 rcases hs b hb with h1 | h1
 ·exact hn h1
 ·rw [h1] at e;cases e
section
variable {α β:Type} {R:α→β→Hp→List Nat→Prop} {h h':Hp}
theorem LsO.at_ (ok:AsOk R):∀ {l:List α} {m:List β} {B:List Nat} {i:Nat} {p:β},LsO R l m h B→m[i]?=some p→
  ∃v P M S,l[i]?=some v∧B=P++(M++S)∧R v p h M∧∀h' v' p' M',(∀b∈P++S,h' b=h b)→R v' p' h' M'→LsO R (l.set i v') (m.set i p') h' (P++(M'++S))
 | [],[],_,i,p,_,hp=>by cases hp
 | a::l,b::m,_,0,p,⟨B1,B2,e,o1,o2⟩,hp=>by
  cases hp
  refine ⟨a,[],B1,B2,rfl,by rw [e];rfl,o1,fun h' v' p' M' hs r=>⟨M',B2,rfl,r,o2.same ok fun c hc=>hs c (by simpa using hc)⟩⟩
 | a::l,b::m,_,i+1,p,⟨B1,B2,e,o1,o2⟩,hp=>by
  obtain ⟨v,P,M,S,hv,e2,r,k⟩:=LsO.at_ ok o2 (i:=i) (p:=p) (by simpa using hp)
  refine ⟨v,B1++P,M,S,by simpa using hv,by rw [e,e2,List.append_assoc],r,fun h' v' p' M' hs r'=> ?_⟩
  refine ⟨B1,P++(M'++S),by rw [List.append_assoc],ok.same o1 fun c hc=>hs c (by simp [hc]),k h' v' p' M' (fun c hc=>hs c ?_) r'⟩
  rcases List.mem_append.1 hc with hc | hc<;>simp [hc]
 | [],_::_,_,_,_,o,_=>o.elim
 | _::_,[],_,_,_,o,_=>o.elim
end
section
variable {α:Type} {h:Hp} {sz:Nat} {enc:α→List Value} {l:Sl} {xs:List α}
theorem zhw2 {b o:Nat} {i:Int}:sat (some ⟨b,o,none⟩) sz i=⟨b,o+i.toNat*sz,none⟩:=by unfold sat;rw [Option.getD_some,zec]
theorem OwnF.put {F:List Nat} (o:OwnF h sz enc l xs F) (henc:∀x,(enc x).length=sz) {i:Nat} {x x':α} (hx:xs[i]?=some x) {off:Nat} {new:List Value} (hoff:off+new.length≤sz) (hn:enc x'=(enc x).take off++new++(enc x).drop (off+new.length))
  {K:Hp→Prop} (hk:∀h',OwnF h' sz enc l (xs.set i x') F→Mv F h F h'→K h'):StW h ((sat l.base sz (i:Int)).add off) new K:=by
 have hi:i<xs.length:=by
  refine Classical.byContradiction fun hh=> ?_
  rw [List.getElem?_eq_none (by omega)] at hx;cases hx
 obtain ⟨o1,o2,o3⟩:=o
 rcases o3 with ⟨_,e2,_⟩ | ⟨b,cs,e1,rfl,kb,e4,e5⟩
 ·omega
 ·rw [e1,zhw2,zec,show ((i:Int)).toNat=i from rfl,Nat.zero_add]
  have hmul:i*sz+sz≤l.len*sz:=by
   have:=Nat.mul_le_mul_right sz (show i+1≤l.len by omega)
   rw [Nat.add_mul,Nat.one_mul] at this
   exact this
  have hmul2:l.len*sz≤l.cap*sz:=Nat.mul_le_mul_right sz o2
  refine zeo kb (by rw [e4];omega) fun h' m' k'=> ?_
  refine hk h' ⟨by simp [o1],o2,.inr ⟨b,_,e1,rfl,k',?_,?_⟩⟩ m'
  ·simp only [List.length_append,List.length_take,List.length_drop,e4]
   omega
  ·have t1:cs.take (i*sz)=(xs.take i).flatMap enc:=by
    rw [zik1 henc,←e5,List.take_take];congr 1;omega
   have t2:(cs.drop (i*sz+sz)).take (l.len*sz-(i*sz+sz))=(xs.drop (i+1)).flatMap enc:=by
    rw [zdd1 henc,←e5,Nat.add_mul,Nat.one_mul,List.drop_take]
   have t3:(cs.drop (i*sz)).take sz=enc x:=by
    have h2:(xs.drop i).flatMap enc=enc x++(xs.drop (i+1)).flatMap enc:=by
     rw [List.drop_eq_getElem_cons hi,List.flatMap_cons]
     rw [List.getElem?_eq_getElem hi] at hx
     rw [Option.some.inj hx]
    have h3:(xs.drop i).flatMap enc=(cs.drop (i*sz)).take (l.len*sz-i*sz):=by
     rw [zdd1 henc,←e5,List.drop_take]
    rw [h3] at h2
    have h4:=congrArg (List.take sz) h2
    rw [List.take_take,Nat.min_eq_left (by omega),←henc x,List.take_left] at h4
    rw [henc x] at h4
    exact h4
   have hcs:cs=cs.take (i*sz)++(enc x++cs.drop (i*sz+sz)):=by
    rw [←t3,←List.drop_drop,List.take_append_drop,List.take_append_drop]
   have hl0:(cs.take (i*sz)).length=i*sz:=by rw [List.length_take];omega
   have hle:(enc x).length=sz:=henc x
   have d1:cs.take (i*sz+off)=cs.take (i*sz)++(enc x).take off:=by
    conv=>lhs;rw [hcs]
    rw [List.take_append,hl0,List.take_of_length_le (by omega),List.take_append,hle,show i*sz+off-i*sz=off by omega,show off-sz=0 by omega,List.take_zero,List.append_nil]
   have d2:cs.drop (i*sz+off+new.length)=(enc x).drop (off+new.length)++cs.drop (i*sz+sz):=by
    conv=>lhs;rw [hcs]
    rw [List.drop_append,hl0,List.drop_eq_nil_of_le (by omega),List.nil_append,List.drop_append,hle,show i*sz+off+new.length-i*sz=off+new.length by omega,show off+new.length-sz=0 by omega,List.drop_zero]
   rw [d1,d2,show cs.take (i*sz)++(enc x).take off++new++((enc x).drop (off+new.length)++cs.drop (i*sz+sz))=(cs.take (i*sz)++enc x')++cs.drop (i*sz+sz) by rw [hn];simp]
   rw [zsr1 x' hi]
   have hl1:(cs.take (i*sz)++enc x').length=i*sz+sz:=by
    rw [List.length_append,hl0,henc]
   rw [List.take_append,hl1,t2,List.take_of_length_le (by rw [hl1];exact hmul),t1]
   simp
end
section
variable {β:Type} {sh:Shape} {sz:Nat} {R:sh.T→β→Hp→List Nat→Prop} {l:Sl} {ps:List β} {h0 h h':Hp} {G:List Nat}
theorem Ow.len (o:Ow (RowsO sh sz R) l ps h0 G h):l.len=ps.length:=by
 obtain ⟨B,r,_⟩:=o
 exact r.len
theorem Ow.atF (ok:AsOk R) (henc:∀x,(zae (sh.enc x)).length=sz) (hsz:0<sz) (o:Ow (RowsO sh sz R) l ps h0 G h) {i:Nat} {p:β} (hp:ps[i]?=some p):
  ∃(v:sh.T) (M:List Nat),InB l.base l.len (i:Int)∧Ow R v p h M h∧
   (∀h' p',Ow R v p' h M h'→LdIs h' (sat l.base sz (i:Int)) (zae (sh.enc v))∧Ow (RowsO sh sz R) l (ps.set i p') h0 G h')∧
   (∀h' v' p' (off:Nat) (new:List Value) (K:Hp→Prop),Ow R v' p' h M h'→off+new.length≤sz→zae (sh.enc v')=(zae (sh.enc v)).take off++new++(zae (sh.enc v)).drop (off+new.length)→(∀h'',Ow (RowsO sh sz R) l (ps.set i p') h0 G h''→K h'')→StW h' ((sat l.base sz (i:Int)).add off) new K)∧
   (∀b∈M,b∈G∨h0 b=none)∧(∀h',Fr M h h'→LdIs h' (sat l.base sz (i:Int)) (zae (sh.enc v))):=by
 obtain ⟨B,⟨xs,B1,B2,rfl,o1,o2⟩,nd,m⟩:=o
 obtain ⟨v,P,M,S,hv,rfl,r,k⟩:=o2.at_ ok hp
 have hi:i<xs.length:=by
  refine Classical.byContradiction fun hh=> ?_
  rw [List.getElem?_eq_none (by omega)] at hv;cases hv
 have nd':((B1++P)++(M++S)).Nodup:=by simpa using nd
 have m1:Mv G h0 ((B1++P)++(M++S)) h:=by simpa using m
 have kn2:=o2.known ok
 have kn:∀b∈(B1++P)++S,h b≠none:=fun b hb=>by
  rcases List.mem_append.1 hb with hb | hb
  ·rcases List.mem_append.1 hb with hb | hb
   ·exact o1.known b hb
   ·exact kn2 b (mem_a hb)
  ·exact kn2 b (mem_b (mem_b hb))
 have ndM:M.Nodup:=(List.nodup_append.1 (List.nodup_append.1 nd').2.1).1
 have hread:=Rw.read (o1.rw henc) henc hsz (i:=(i:Int)) (by omega) (by rw [o1.1];omega)
 refine ⟨v,M,hread.1,Ow.start r ndM,fun h' p' i'=> ?_,fun h' v' p' off new K i' hoff hn hk=> ?_,fun b hb=>m.from_ b (mem_b (mem_b (mem_a hb))),fun h' f=> ?_⟩
 ·obtain ⟨M',r',nd2,m2,hs⟩:=Ow.mid nd' m1 kn i'
  have o1':=o1.same fun b hb=>hs b (mem_a (mem_a hb))
  have hread2:=Rw.read (o1'.rw henc) henc hsz (i:=(i:Int)) (by omega) (by rw [o1.1];omega)
  obtain ⟨_,x,hx,hld⟩:=hread2
  have hx:xs[i]?=some x:=hx
  rw [hv] at hx
  cases hx
  refine ⟨hld,(B1++P)++(M'++S),⟨xs.set i v,B1,P++(M'++S),by simp,?_,k h' v p' M' (fun b hb=>hs b ?_) r'⟩,nd2,m2⟩
  ·rw [show xs.set i v=xs by
    rw [List.getElem?_eq_getElem hi] at hv
    rw [←Option.some.inj hv]
    exact List.set_getElem_self hi]
   exact o1'
  ·rcases List.mem_append.1 hb with hb | hb
   ·exact mem_a (mem_b hb)
   ·exact mem_b hb
 ·obtain ⟨M',r',nd2,m2,hs⟩:=Ow.mid nd' m1 kn i'
  have o1':=o1.same fun b hb=>hs b (mem_a (mem_a hb))
  refine o1'.put henc hv hoff hn fun h'' o1'' m''=>hk h'' ?_
  have nd3:(B1++(P++(M'++S))).Nodup:=by simpa using nd2
  have hB1:∀b∈P++(M'++S),b∉B1:=fun b hb h1=>(List.nodup_append.1 nd3).2.2 b h1 b hb rfl
  have r'':LsO R (xs.set i v') (ps.set i p') h' (P++(M'++S)):=k h' v' p' M' (fun b hb=>hs b (by
   rcases List.mem_append.1 hb with hb | hb
   ·exact mem_a (mem_b hb)
   ·exact mem_b hb)) r'
  have m3:Mv G h0 (B1++(P++(M'++S))) h':=by simpa using m2
  refine ⟨B1++(P++(M'++S)),⟨xs.set i v',B1,P++(M'++S),rfl,o1'',r''.same ok (zod m'' (r''.known ok) hB1)⟩,nd3,m3.trans ?_⟩
  exact m''.wide (P++(M'++S))
 ·have hs:∀b∈B1,h' b=h b:=fun b hb=>by
   cases e:h b with
   | none=>exact absurd e (o1.known b hb)
   | some ob=>exact f b ob e fun hm=>(List.nodup_append.1 nd').2.2 b (mem_a hb) b (mem_a hm) rfl
  have o1':=o1.same hs
  obtain ⟨_,x,hx,hld⟩:=Rw.read (o1'.rw henc) henc hsz (i:=(i:Int)) (by omega) (by rw [o1.1];omega)
  have hx:xs[i]?=some x:=hx
  rw [hv] at hx
  cases hx
  exact hld
theorem Ow.at_ (ok:AsOk R) (henc:∀x,(zae (sh.enc x)).length=sz) (hsz:0<sz) (o:Ow (RowsO sh sz R) l ps h0 G h) {i:Nat} {p:β} (hp:ps[i]?=some p):
  ∃(v:sh.T) (M:List Nat),InB l.base l.len (i:Int)∧Ow R v p h M h∧
   (∀h' p',Ow R v p' h M h'→LdIs h' (sat l.base sz (i:Int)) (zae (sh.enc v))∧Ow (RowsO sh sz R) l (ps.set i p') h0 G h')∧
   (∀h' v' p' (off:Nat) (new:List Value) (K:Hp→Prop),Ow R v' p' h M h'→off+new.length≤sz→zae (sh.enc v')=(zae (sh.enc v)).take off++new++(zae (sh.enc v)).drop (off+new.length)→(∀h'',Ow (RowsO sh sz R) l (ps.set i p') h0 G h''→K h'')→StW h' ((sat l.base sz (i:Int)).add off) new K):=by
 obtain ⟨v,M,h1,h2,h3,h4,_⟩:=o.atF ok henc hsz hp
 exact ⟨v,M,h1,h2,h3,h4⟩
theorem Ow.app {S:sh.T→β→Prop} (o:Ow (RowsO sh sz (PureO S)) l ps h0 G h) {x:Sl} {vs:List sh.T} {qs:List β} (hS:All2 S vs qs) (hx:Rs h sh sz x vs) (henc:∀x,(zae (sh.enc x)).length=sz) (hok:∀x,zdu (zae (sh.enc x))=true)
  {zero:List Value} {bytes:Nat} (hz:zero.length=sz) (hb:ps.length+vs.length≤140737488355328∧(ps.length+vs.length)*bytes≤140737488355328) {K:Sl→Hp→Prop}
  (hk:∀l' h',Ow (RowsO sh sz (PureO S)) l' (ps++qs) h0 G h'→K l' h'):zas sz bytes zero l x K h:=by
 have hlen:=o.len
 obtain ⟨B,⟨xs,B1,B2,rfl,o1,o2⟩,nd,m⟩:=o
 have hB2:∀ {l:List sh.T} {m:List β} {B:List Nat} {h:Hp},LsO (PureO S) l m h B→B=[]:=fun {l}=>by
  induction l with
  | nil=>intro m B h o;cases m with
   | nil=>exact o
   | cons _ _=>exact o.elim
  | cons a l ih=>intro m B h o;cases m with
   | nil=>exact o.elim
   | cons b m=>
    obtain ⟨C1,C2,e,g1,g2⟩:=o
    rw [e,g1.1,ih g2];rfl
 have e2:=hB2 o2
 subst e2
 have hxl:xs.length=ps.length:=by rw [←hlen];exact o1.1.symm
 rw [List.append_nil] at nd m
 have happ:∀ {l:List sh.T} {m:List β} {h':Hp},LsO (PureO S) l m h []→LsO (PureO S) (l++vs) (m++qs) h' []:=fun {l}=>by
  induction l with
  | nil=>intro m h' o;cases m with
   | nil=>
    have hgo:∀ {l:List sh.T} {m:List β},All2 S l m→LsO (PureO S) l m h' []:=fun {l}=>by
     induction l with
     | nil=>intro m a;cases m with
      | nil=>rfl
      | cons _ _=>exact a.elim
     | cons a l ih=>intro m q;cases m with
      | nil=>exact q.elim
      | cons b m=>exact ⟨[],[],rfl,⟨rfl,q.1⟩,ih q.2⟩
    exact hgo hS
   | cons _ _=>exact o.elim
  | cons a l ih=>intro m h' o;cases m with
   | nil=>exact o.elim
   | cons b m=>
    obtain ⟨C1,C2,e,g1,g2⟩:=o
    have e3:=hB2 g2
    subst e3
    exact ⟨[],[],rfl,⟨rfl,g1.2⟩,ih g2⟩
 refine appF o1 hx henc hok hz (by rw [hxl];exact hb) fun l' h' F' o1' m'=>hk l' h' ⟨F',⟨xs++vs,F',[],by simp,o1',happ o2⟩,o1'.nodup,m.trans m'⟩
end
end Lf

namespace Lf
open Go Go.Proofs
theorem zpt {h:Hp} {a:Addr} {cs vs:List Value} (e:LdIs h a cs) {j n:Nat} (hv:(cs.drop j).take n=vs):LdIs h (a.add j) vs:=fun i v hi=>by
 refine zsq1 e j i v ?_
 rw [←hv,List.getElem?_take] at hi
 by_cases hn:i<n
 ·rwa [if_pos hn] at hi
 ·rw [if_neg hn] at hi;cases hi
theorem zdv2 (a:Addr):a.add 0=a:=by unfold Addr.add;rw [if_pos rfl]
section
variable {h0 h:Hp} {G:List Nat}
theorem ztw1 {y:S_api_Lane} {q:PLane} (o:Ow LaneO y q h0 G h):∃M,Ow IsO y.Values q.values h M h∧∀h' l' vs',Ow IsO l' vs' h M h'→Ow LaneO {y with Values:=l'} {q with values:=vs'} h0 G h':=by
 obtain ⟨B,⟨B1,B2,rfl,o1,o2,o3,o4⟩,nd,m⟩:=o
 refine ⟨B1,Ow.start o1 (List.nodup_append.1 nd).1,fun h' l' vs' i=> ?_⟩
 obtain ⟨M',r',nd2,m2,hs⟩:=Ow.mid (P:=[]) (S:=B2) (by simpa using nd) (by simpa using m) (by simpa using okWs.known o2) i
 exact ⟨M'++B2,⟨M',B2,rfl,r',okWs.same o2 fun b hb=>hs b (by simpa using hb),o3,o4⟩,by simpa using nd2,by simpa using m2⟩
theorem zyn1 {y:S_api_Lane} {q:PLane} (o:Ow LaneO y q h0 G h):∃M,Ow WsO y.Waiters q.waiters h M h∧∀h' l' ws',Ow WsO l' ws' h M h'→Ow LaneO {y with Waiters:=l'} {q with waiters:=ws'} h0 G h':=by
 obtain ⟨B,⟨B1,B2,rfl,o1,o2,o3,o4⟩,nd,m⟩:=o
 refine ⟨B2,Ow.start o2 (List.nodup_append.1 nd).2.1,fun h' l' ws' i=> ?_⟩
 obtain ⟨M',r',nd2,m2,hs⟩:=Ow.mid (P:=B1) (S:=[]) (by simpa using nd) (by simpa using m) (by simpa using okIs.known o1) i
 exact ⟨B1++M',⟨B1,M',rfl,okIs.same o1 fun b hb=>hs b (by simpa using hb),r',o3,o4⟩,by simpa using nd2,by simpa using m2⟩
theorem zyo1 {y:S_api_Part} {q:PPart} (o:Ow PartO y q h0 G h):∃M,Ow LogO y.Log q.log h M h∧∀h' l' vs',Ow LogO l' vs' h M h'→Ow PartO {y with Log:=l'} {q with log:=vs'} h0 G h':=by
 obtain ⟨B,⟨B1,B2,B3,rfl,o1,o2,o3,o4⟩,nd,m⟩:=o
 refine ⟨B1,Ow.start o1 (List.nodup_append.1 nd).1,fun h' l' vs' i=> ?_⟩
 obtain ⟨M',r',nd2,m2,hs⟩:=Ow.mid (P:=[]) (S:=B2++B3) (by simpa using nd) (by simpa using m) (by simpa using zku (okIs.known o2) (okQs.known o3)) i
 exact ⟨M'++(B2++B3),⟨M',B2,B3,rfl,r',okIs.same o2 fun b hb=>hs b (by simp [hb]),okQs.same o3 fun b hb=>hs b (by simp [hb]),o4⟩,by simpa using nd2,by simpa using m2⟩
theorem zgs1 {y:S_api_Part} {q:PPart} (o:Ow PartO y q h0 G h):∃M,Ow QsO y.Queues q.queues h M h∧(∀b∈M,b∈G∨h0 b=none)∧∀h' l' vs',Ow QsO l' vs' h M h'→Ow PartO {y with Queues:=l'} {q with queues:=vs'} h0 G h':=by
 obtain ⟨B,⟨B1,B2,B3,rfl,o1,o2,o3,o4⟩,nd,m⟩:=o
 refine ⟨B3,Ow.start o3 (List.nodup_append.1 (List.nodup_append.1 nd).2.1).2.1,fun b hb=>m.from_ b (mem_b (mem_b hb)),fun h' l' vs' i=> ?_⟩
 obtain ⟨M',r',nd2,m2,hs⟩:=Ow.mid (P:=B1++B2) (S:=[]) (by simpa using nd) (by simpa using m) (by simpa using zku (okLog.known o1) (okIs.known o2)) i
 exact ⟨B1++(B2++M'),⟨B1,B2,M',rfl,okLog.same o1 fun b hb=>hs b (by simp [hb]),okIs.same o2 fun b hb=>hs b (by simp [hb]),r',o4⟩,by simpa using nd2,by simpa using m2⟩
theorem zzz1 {x:S_api_Process} {p:PProcess} (o:Ow ProcessO x p h0 G h):∃M,Ow zue x.Lanes p.lanes h M h∧∀h' l' vs',Ow zue l' vs' h M h'→Ow ProcessO {x with Lanes:=l'} {p with lanes:=vs'} h0 G h':=by
 obtain ⟨B,⟨o1,o2⟩,nd,m⟩:=o
 refine ⟨B,Ow.start o1 nd,fun h' l' vs' i=> ?_⟩
 obtain ⟨M',r',nd2,m2⟩:=i
 exact ⟨M',⟨r',o2⟩,nd2,m.trans m2⟩
theorem znc1 {v:S_api_State} {s:PState} (o:Ow StateO v s h0 G h):∃M,Ow zmz1 v.Procs s.procs h M h∧∀h' l' vs',Ow zmz1 l' vs' h M h'→Ow StateO {v with Procs:=l'} {s with procs:=vs'} h0 G h':=by
 obtain ⟨B,⟨B1,B2,rfl,o1,o2,o3⟩,nd,m⟩:=o
 refine ⟨B2,Ow.start o2 (List.nodup_append.1 nd).2.1,fun h' l' vs' i=> ?_⟩
 obtain ⟨M',r',nd2,m2,hs⟩:=Ow.mid (P:=B1) (S:=[]) (by simpa using nd) (by simpa using m) (by simpa using okParts.known o1) i
 exact ⟨B1++M',⟨B1,M',rfl,okParts.same o1 fun b hb=>hs b (by simpa using hb),r',o3⟩,by simpa using nd2,by simpa using m2⟩
theorem znd1 {v:S_api_State} {s:PState} (o:Ow StateO v s h0 G h):∃M,Ow zmy1 v.Parts s.parts h M h∧∀h' l' vs',Ow zmy1 l' vs' h M h'→Ow StateO {v with Parts:=l'} {s with parts:=vs'} h0 G h':=by
 obtain ⟨B,⟨B1,B2,rfl,o1,o2,o3⟩,nd,m⟩:=o
 refine ⟨B1,Ow.start o1 (List.nodup_append.1 nd).1,fun h' l' vs' i=> ?_⟩
 obtain ⟨M',r',nd2,m2,hs⟩:=Ow.mid (P:=[]) (S:=B2) (by simpa using nd) (by simpa using m) (by simpa using okProcss.known o2) i
 exact ⟨M'++B2,⟨M',B2,rfl,r',okProcss.same o2 fun b hb=>hs b (by simpa using hb),o3⟩,by simpa using nd2,by simpa using m2⟩
theorem zdw2 {v:S_api_State} {s:PState} (o:Ow StateO v s h0 G h) {i:Nat} {p:PProcess} (hp:s.procs[i]?=some p):
  ∃(l:Sl) (M:List Nat),InB v.Procs.base v.Procs.len (i:Int)∧Ow zue l p.lanes h M h∧
   ∀h' ls',Ow zue l ls' h M h'→LdIs h' (Addr.add (sat v.Procs.base 15 (i:Int)) 14) [l.v]∧Ow StateO v {s with procs:=s.procs.set i {p with lanes:=ls'}} h0 G h':=by
 obtain ⟨M1,o1,back1⟩:=znc1 o
 obtain ⟨x,M2,hin,o2,back2, -⟩:=o1.at_ okProcess (fun _=>rfl) (by omega) hp
 obtain ⟨M3,o3,back3⟩:=zzz1 o2
 refine ⟨x.Lanes,M3,hin,o3,fun h' ls' i'=> ?_⟩
 obtain ⟨l4,o4⟩:=back2 h' {p with lanes:=ls'} (back3 h' x.Lanes ls' i')
 exact ⟨zpt l4 (n:=1) rfl,back1 h' v.Procs _ o4⟩
theorem zne1 {v:S_api_State} {s:PState} (o:Ow StateO v s h0 G h) {i:Nat} {p:PPart} (hp:s.parts[i]?=some p):
  ∃(x:S_api_Part) (M:List Nat),InB v.Parts.base v.Parts.len (i:Int)∧Ow PartO x p h M h∧
   (∀h' p',Ow PartO x p' h M h'→LdIs h' (sat v.Parts.base 6 (i:Int)) (zae (sh_api_Part.enc x))∧Ow StateO v {s with parts:=s.parts.set i p'} h0 G h')∧
   (∀h' x' p' (off:Nat) (new:List Value) (K:Hp→Prop),Ow PartO x' p' h M h'→off+new.length≤6→zae (sh_api_Part.enc x')=(zae (sh_api_Part.enc x)).take off++new++(zae (sh_api_Part.enc x)).drop (off+new.length)→
    (∀h'',Ow StateO v {s with parts:=s.parts.set i p'} h0 G h''→K h'')→StW h' (Addr.add (sat v.Parts.base 6 (i:Int)) off) new K)∧
   (∀h',Fr M h h'→LdIs h' (sat v.Parts.base 6 (i:Int)) (zae (sh_api_Part.enc x))):=by
 obtain ⟨M1,o1,back1⟩:=znd1 o
 obtain ⟨x,M2,hin,o2,back2,put2,_,fr2⟩:=o1.atF okPart (fun _=>rfl) (by omega) hp
 refine ⟨x,M2,hin,o2,fun h' p' i'=> ?_,fun h' x' p' off new K i' h1 h2 hk=>put2 h' x' p' off new K i' h1 h2 fun h'' o''=>hk h'' (back1 h'' v.Parts _ o''),fr2⟩
 obtain ⟨l4,o4⟩:=back2 h' p' i'
 exact ⟨l4,back1 h' v.Parts _ o4⟩
end
end Lf

namespace Lf
open Go Go.Proofs
def zjb1 (n:Int) (q:PLane):Prop:=(∀v∈q.values,v=n)∧(∀w∈q.waiters,w.proc=n)∧q.values.length≤2199023255552∧q.waiters.length≤2199023255552
def LaneS (q:PLane):Prop:=q.values.length≤1099511627776∧q.waiters.length≤1099511627776
theorem zrq1 {α:Type} {f:α→Int} {n:Int} {xs:List α} (h:∀i v,i<xs.length→xs[i]?=some v→f v=n):∀v∈xs,f v=n:=fun v hv=>by
 obtain ⟨i,hi⟩:=List.getElem?_of_mem hv
 exact h i v (by rw [List.getElem?_eq_some_iff] at hi;exact hi.1) hi
theorem zjc1 {α:Type} {f:α→Int} {n:Int} {xs:List α} {j:Nat} {x:α} (h:∀i v,i<j→xs[i]?=some v→f v=n) (hx:f x=n):∀i v,i<j+1→(xs.set j x)[i]?=some v→f v=n:=fun i v hi hv=>by
 rw [List.getElem?_set] at hv
 by_cases hij:j=i
 ·rw [if_pos hij] at hv
  by_cases hl:i<xs.length
  ·subst hij
   rw [if_pos hl] at hv
   rw [←Option.some.inj hv]
   exact hx
  ·subst hij
   rw [if_neg hl] at hv
   cases hv
 ·rw [if_neg hij] at hv
  exact h i v (by omega) hv
def zjd1 (turn:Int) (l:Sl) (k:Nat) (N:Int) (K:Hp→Prop) (h:Hp):Prop:=
  ((InB l.base l.len (k:Int))∧LoopW1 (α1:=Int) (fun again3 j h4=>
   NilW (some (turn==(0:Int))) (some (sat l.base 4 (k:Int))) fun p=>
   LdW (some (turn==(0:Int))) shSl h4 (Addr.add p 0) fun x2=>
   LetW ((turn==(0:Int))&&(decide (j<((x2.len:Nat):Int)))) fun y=>
   (if y=true then
   NilW none (some (sat l.base 4 (k:Int))) fun p1=>
   LdW none shSl h4 (Addr.add p1 0) fun x3=>
   ((InB x3.base x3.len j)∧StW h4 (sat x3.base 1 j) [(.int .i64 N)] (fun h5=>
   again3 (IntKind.wrap .i64 (j+(1:Int))) h5))
   else
   LoopW1 (α1:=Int) (fun again4 j1 h5=>
   NilW (some (turn==(0:Int))) (some (sat l.base 4 (k:Int))) fun p1=>
   LdW (some (turn==(0:Int))) shSl h5 (Addr.add p1 1) fun x3=>
   LetW ((turn==(0:Int))&&(decide (j1<((x3.len:Nat):Int)))) fun y1=>
   (if y1=true then
   NilW none (some (sat l.base 4 (k:Int))) fun p2=>
   LdW none shSl h5 (Addr.add p2 1) fun x4=>
   ((InB x4.base x4.len j1)∧StW h5 (Addr.add (sat x4.base 2 j1) 0) [(.int .i64 N)] (fun h6=>
   again4 (IntKind.wrap .i64 (j1+(1:Int))) h6))
   else
   (if (turn==(1:Int))=true then
   NilW none (some (sat l.base 4 (k:Int))) fun p2=>
   LdW none shSl h5 (Addr.add p2 0) fun x4=>
   NewW [(.int .i64 N),(.int .i64 N),(.int .i64 N)] (fun a h6=>
   zas 1 8 [(.int .i64 (0:Int))] x4 ⟨(some a),3,3⟩ (fun r h7=>
   NilW none (some (sat l.base 4 (k:Int))) fun p3=>
   StW h7 (Addr.add p3 0) [r.v] (fun h8=>
   NilW none (some (sat l.base 4 (k:Int))) fun p4=>
   LdW none shSl h8 (Addr.add p4 1) fun x5=>
   NewW [(.int .i64 N),(.int .i64 (0:Int)),(.int .i64 N),(.int .i64 (0:Int))] (fun a1 h9=>
   zas 2 16 [(.int .i64 (0:Int)),(.int .i64 (0:Int))] x5 ⟨(some a1),2,2⟩ (fun r1 h10=>
   NilW none (some (sat l.base 4 (k:Int))) fun p5=>
   StW h10 (Addr.add p5 1) [r1.v] (fun h11=>
   K h11)) h9) h8)) h6) h5
   else
   K h5))) (0:Int) h4)) (0:Int) h)
section
variable {h0 h:Hp} {G:List Nat} {l:Sl} {ls:List PLane} {k:Nat} {q:PLane} {N:Int}
set_option maxRecDepth 20000 in
theorem zdx2 {turn:Int} (ht:turn=0) (o:Ow zue l ls h0 G h) (hk:ls[k]?=some q) (hs:LaneS q) {K:Hp→Prop}
  (hK:∀h' q',Ow zue l (ls.set k q') h0 G h'→zjb1 N q'→LaneS q'→K h'):
  zjd1 turn l k N K h:=by
 subst ht
 unfold zjd1
 obtain ⟨y,M,hin,oi,keep,put⟩:=o.at_ okLane (fun _=>rfl) (by omega) hk
 refine ⟨hin,?_⟩
 obtain ⟨hs1,hs2⟩:=hs
 refine LoopW1.intro (fun j h4=>∃(j':Nat) (vs:List Int),j=(j':Int)∧j'≤q.values.length∧vs.length=q.values.length∧Ow LaneO y {q with values:=vs} h M h4∧∀i v,i<j'→vs[i]?=some v→v=N) (fun j _=>((q.values.length:Int)-j).toNat)
  ⟨0,q.values,rfl,by omega,rfl,oi,fun i v hi=>by omega⟩ ?_
 rintro j h4 ⟨j',vs,rfl,hj,hvl,o4,hv4⟩
 obtain ⟨M1,o5,back5⟩:=ztw1 o4
 have hll:y.Values.len=vs.length:=o5.len
 obtain ⟨ld4,cl4⟩:=keep h4 _ o4
 have ld4a:LdIs h4 (Addr.add (sat l.base 4 (k:Int)) 0) [y.Values.v]:=zpt ld4 (n:=1) rfl
 refine zab (ldC (sh:=shSl) y.Values ld4a (letW ?_))
 by_cases hlt:j'<vs.length
 ·rw [if_pos (by simp;omega)]
  refine zab (ld_at (sh:=shSl) y.Values ld4a ?_)
  obtain ⟨v,hv⟩:∃v,vs[j']?=some v:=⟨_,List.getElem?_eq_getElem hlt⟩
  obtain ⟨v',M2,hin2,o6, -,put6⟩:=o5.at_ (PureO.ok _) (fun _=>rfl) (by omega) hv
  refine ⟨hin2,?_⟩
  rw [←zdv2 (sat y.Values.base 1 (j':Int))]
  refine put6 h4 N N 0 [.int .i64 N] _ ?_ (by simp) rfl fun h7 o7=> ?_
  ·obtain ⟨B,⟨rfl,_⟩,nd,m⟩:=o6
   exact ⟨[],⟨rfl,rfl⟩,nd,m⟩
  have o8:=back5 h7 y.Values _ o7
  rw [zak (by omega) (by omega)]
  exact ⟨⟨j'+1,vs.set j' N,by omega,by omega,by simp [hvl],o8,zjc1 (f:=id) hv4 rfl⟩,by omega⟩
 have hj':j'=vs.length:=by omega
 subst hj'
 rw [if_neg (by simp;omega)]
 have hvals:∀v∈vs,v=N:=zrq1 (f:=id) hv4
 refine LoopW1.intro (fun j h5=>∃(j':Nat) (ws:List PWaiter),j=(j':Int)∧j'≤q.waiters.length∧ws.length=q.waiters.length∧Ow LaneO y {q with values:=vs,waiters:=ws} h M h5∧∀i v,i<j'→ws[i]?=some v→v.proc=N) (fun j _=>((q.waiters.length:Int)-j).toNat)
  ⟨0,q.waiters,rfl,by omega,rfl,o4,fun i v hi=>by omega⟩ ?_
 rintro j h5 ⟨j',ws,rfl,hj5,hwl,o9,hw9⟩
 obtain ⟨M3,o10,back10⟩:=zyn1 o9
 have hll2:y.Waiters.len=ws.length:=o10.len
 obtain ⟨ld9,cl9⟩:=keep h5 _ o9
 have ld9a:LdIs h5 (Addr.add (sat l.base 4 (k:Int)) 1) [y.Waiters.v]:=zpt ld9 (n:=1) rfl
 refine zab (ldC (sh:=shSl) y.Waiters ld9a (letW ?_))
 by_cases hlt:j'<ws.length
 ·rw [if_pos (by simp;omega)]
  refine zab (ld_at (sh:=shSl) y.Waiters ld9a ?_)
  obtain ⟨w,hw⟩:∃w,ws[j']?=some w:=⟨_,List.getElem?_eq_getElem hlt⟩
  obtain ⟨w',M4,hin4,o11, -,put11⟩:=o10.at_ (PureO.ok _) (fun _=>rfl) (by omega) hw
  refine ⟨hin4,put11 h5 {w' with Proc:=N} {w with proc:=N} 0 [.int .i64 N] _ ?_ (by simp) rfl fun h12 o12=> ?_⟩
  ·obtain ⟨B,⟨rfl,e⟩,nd,m⟩:=o11
   refine ⟨[],⟨rfl,?_⟩,nd,m⟩
   rw [←e];rfl
  have o13:=back10 h12 y.Waiters _ o12
  rw [zak (by omega) (by omega)]
  exact ⟨⟨j'+1,ws.set j' {w with proc:=N},by omega,by omega,by simp [hwl],o13,zjc1 (f:=PWaiter.proc) hw9 rfl⟩,by omega⟩
 have hj':j'=ws.length:=by omega
 subst hj'
 rw [if_neg (by simp;omega),if_neg (by simp)]
 exact hK h5 _ cl9 ⟨hvals,zrq1 (f:=PWaiter.proc) hw9,by show vs.length≤_;omega,by show ws.length≤_;omega⟩ ⟨by show vs.length≤_;omega,by show ws.length≤_;omega⟩
set_option maxRecDepth 20000 in
theorem zdy2 {turn:Int} (ht:turn=1) (o:Ow zue l ls h0 G h) (hk:ls[k]?=some q) (hn:zjb1 N q) (hs:LaneS q) {K:Hp→Prop}
  (hK:∀h' q',Ow zue l (ls.set k q') h0 G h'→zjb1 N q'→K h'):
  zjd1 turn l k N K h:=by
 subst ht
 unfold zjd1
 obtain ⟨y,M,hin,oi,keep,put⟩:=o.at_ okLane (fun _=>rfl) (by omega) hk
 refine ⟨hin,?_⟩
 obtain ⟨hs1,hs2⟩:=hs
 refine LoopW1.intro (fun j h4=>h4=h) (fun _ _=>0) rfl ?_
 rintro _ h4 rfl
 refine zab ⟨(⟨none,0,0⟩:Sl),fun e=>(by cases e),letW ?_⟩
 rw [if_neg (by simp)]
 refine LoopW1.intro (fun j h5=>h5=h4) (fun _ _=>0) rfl ?_
 rintro _ h5 rfl
 refine zab ⟨(⟨none,0,0⟩:Sl),fun e=>(by cases e),letW ?_⟩
 rw [if_neg (by simp),if_pos (by simp)]
 obtain ⟨ld4, -⟩:=keep h5 _ oi
 refine zab (ld_at (sh:=shSl) y.Values (zpt ld4 (n:=1) rfl) ?_)
 refine newF (xs:=[N,N,N]) (enc:=fun x=>zae ((shInt .i64).enc x)) (sz:=1) rfl (fun _=>rfl) fun b6 h6 _ hle6 _ w6=> ?_
 obtain ⟨M1,o6,back6⟩:=ztw1 (oi.le okLane hle6)
 refine o6.app (vs:=[N,N,N]) (qs:=[N,N,N]) ⟨rfl,rfl,rfl,trivial⟩ (w6.rw fun _=>rfl) (fun _=>rfl) (fun _=>rfl) rfl (by simp;omega) fun l7 h7 o7=> ?_
 have o7':=back6 h7 l7 _ o7
 refine zab (put h7 {y with Values:=l7} _ 0 [l7.v] _ o7' (by simp) rfl fun h8 o8=> ?_)
 have hkl:k<ls.length:=by
  refine Classical.byContradiction fun hh=> ?_
  rw [List.getElem?_eq_none (by omega)] at hk;cases hk
 obtain ⟨y2,M2, -,oi2,keep2,put2⟩:=o8.at_ okLane (fun _=>rfl) (by omega) (List.getElem?_set_self hkl)
 obtain ⟨ld8, -⟩:=keep2 h8 _ oi2
 refine zab (ld_at (sh:=shSl) y2.Waiters (zpt ld8 (n:=1) rfl) ?_)
 refine newF (xs:=[(⟨N,0⟩:S_api_Waiter),⟨N,0⟩]) (enc:=fun x=>zae (sh_api_Waiter.enc x)) (sz:=2) rfl (fun _=>rfl) fun b9 h9 _ hle9 _ w9=> ?_
 obtain ⟨M3,o9,back9⟩:=zyn1 (oi2.le okLane hle9)
 refine o9.app (vs:=[(⟨N,0⟩:S_api_Waiter),⟨N,0⟩]) (qs:=[⟨N,0⟩,⟨N,0⟩]) ⟨rfl,rfl,trivial⟩ (w9.rw fun _=>rfl) (fun _=>rfl) (fun _=>rfl) rfl (by simp;omega) fun l10 h10 o10=> ?_
 have o10':=back9 h10 l10 _ o10
 refine zab (put2 h10 {y2 with Waiters:=l10} _ 1 [l10.v] _ o10' (by simp) rfl fun h11 o11=> ?_)
 rw [List.set_set] at o11
 refine hK h11 _ o11 ⟨fun v hv=> ?_,fun w hw=> ?_,by simp;omega,by simp;omega⟩
 ·rcases List.mem_append.1 hv with hv | hv
  ·exact hn.1 v hv
  ·simpa using hv
 ·rcases List.mem_append.1 hw with hw | hw
  ·exact hn.2.1 w hw
  ·have:w=⟨N,0⟩:=by simpa using hw
   rw [this]
theorem zdz2 {t:Nat} (ht:t=0∨t=1) (o:Ow zue l ls h0 G h) (hk:ls[k]?=some q) (hn:t=1→zjb1 N q) (hs:LaneS q) {K:Hp→Prop}
  (hK:∀h' q',Ow zue l (ls.set k q') h0 G h'→zjb1 N q'→(t=0→LaneS q')→K h'):zjd1 (t:Int) l k N K h:=by
 rcases ht with rfl | rfl
 ·exact zdx2 rfl o hk hs fun h' q' g1 g2 g3=>hK h' q' g1 g2 fun _=>g3
 ·exact zdy2 rfl o hk (hn rfl) hs fun h' q' g1 g2=>hK h' q' g1 g2 fun e=>by cases e
end
end Lf

namespace Lf
open Go Go.Proofs
def LogIs (n:Int) (l:List PEntry):Prop:=(∀e∈l,e.proc=n)∧l.length≤2199023255552
def QIs (n:Int) (l:List Int):Prop:=(∀x∈l,x=n)∧l.length≤2199023255552
def znf1 (turn:Int) (v:S_api_State) (i:Nat) (N:Int) (K:Hp→Prop) (h:Hp):Prop:=
  ((InB v.Parts.base v.Parts.len (i:Int))∧LoopW1 (α1:=Int) (fun again3 j h4=>
   NilW (some (turn==(0:Int))) (some (sat v.Parts.base 6 (i:Int))) fun p=>
   LdW (some (turn==(0:Int))) shSl h4 (Addr.add p 1) fun x=>
   LetW ((turn==(0:Int))&&(decide (j<((x.len:Nat):Int)))) fun y=>
   (if y=true then
   NilW none (some (sat v.Parts.base 6 (i:Int))) fun p1=>
   LdW none shSl h4 (Addr.add p1 1) fun x1=>
   ((InB x1.base x1.len j)∧StW h4 (Addr.add (sat x1.base 3 j) 1) [(.int .i64 N)] (fun h5=>
   again3 (IntKind.wrap .i64 (j+(1:Int))) h5))
   else
   JoinW0 (fun k=>
   (if (turn==(1:Int))=true then
   NilW none (some (sat v.Parts.base 6 (i:Int))) fun p1=>
   LdW none shSl h4 (Addr.add p1 1) fun x1=>
   NewW [(.int .i64 (0:Int)),(.int .i64 N),(.int .i64 (0:Int)),(.int .i64 (0:Int)),(.int .i64 N),(.int .i64 (0:Int))] (fun a h5=>
   zas 3 24 [(.int .i64 (0:Int)),(.int .i64 (0:Int)),(.int .i64 (0:Int))] x1 ⟨(some a),2,2⟩ (fun r h6=>
   NilW none (some (sat v.Parts.base 6 (i:Int))) fun p2=>
   StW h6 (Addr.add p2 1) [r.v] (fun h7=>
   k h7)) h5) h4
   else
   k h4))
   K)) (0:Int) h)
def zdi1 (turn:Int) (v:S_api_State) (i k:Nat) (N:Int) (K:Hp→Prop) (h:Hp):Prop:=
  LoopW1 (α1:=Int) (fun again5 j1 h7=>
   NilW (some (turn==(0:Int))) (some (sat v.Parts.base 6 (i:Int))) fun p2=>
   LdW (some (turn==(0:Int))) shSl h7 (Addr.add p2 5) fun x2=>
   (((turn==(0:Int))=true→(InB x2.base x2.len (k:Int)))∧LdW (some (turn==(0:Int))) shSl h7 (sat x2.base 1 (k:Int)) fun x3=>
   LetW ((turn==(0:Int))&&(decide (j1<((x3.len:Nat):Int)))) fun y1=>
   (if y1=true then
   NilW none (some (sat v.Parts.base 6 (i:Int))) fun p3=>
   LdW none shSl h7 (Addr.add p3 5) fun x4=>
   ((InB x4.base x4.len (k:Int))∧LdW none shSl h7 (sat x4.base 1 (k:Int)) fun x5=>
   ((InB x5.base x5.len j1)∧StW h7 (sat x5.base 1 j1) [(.int .i64 N)] (fun h8=>
   again5 (IntKind.wrap .i64 (j1+(1:Int))) h8)))
   else
   (if (turn==(1:Int))=true then
   NilW none (some (sat v.Parts.base 6 (i:Int))) fun p3=>
   LdW none shSl h7 (Addr.add p3 5) fun x4=>
   NilW none (some (sat v.Parts.base 6 (i:Int))) fun p4=>
   LdW none shSl h7 (Addr.add p4 5) fun x5=>
   ((InB x5.base x5.len (k:Int))∧LdW none shSl h7 (sat x5.base 1 (k:Int)) fun x6=>
   NewW [(.int .i64 N),(.int .i64 N),(.int .i64 N)] (fun a h8=>
   (((LdIs h8 (Addr.add p3 5) [x4.v])∧((LdIs h8 (Addr.add p4 5) [x5.v])∧((LdIs h8 (sat x5.base 1 (k:Int)) [x6.v])∧True)))∧zas 1 8 [(.int .i64 (0:Int))] x6 ⟨(some a),3,3⟩ (fun r h9=>
   (((LdIs h9 (Addr.add p3 5) [x4.v])∧True)∧((InB x4.base x4.len (k:Int))∧StW h9 (sat x4.base 1 (k:Int)) [r.v] (fun h10=>
   K h10)))) h8)) h7)
   else
   K h7)))) (0:Int) h
section
variable {h0 h:Hp} {G:List Nat} {v:S_api_State} {s:PState} {i k:Nat} {p:PPart} {N:Int}
set_option maxRecDepth 20000 in
theorem zgd2 {turn:Int} (ht:turn=0) (o:Ow StateO v s h0 G h) (hp:s.parts[i]?=some p) (hs:p.log.length≤1099511627776) {K:Hp→Prop}
  (hK:∀h' lg,Ow StateO v {s with parts:=s.parts.set i {p with log:=lg}} h0 G h'→LogIs N lg→lg.length≤1099511627776→K h'):
  znf1 turn v i N K h:=by
 subst ht
 unfold znf1
 obtain ⟨y,M,hin,oi,keep,put, -⟩:=zne1 o hp
 refine ⟨hin,?_⟩
 refine LoopW1.intro (fun j h4=>∃(j':Nat) (lg:List PEntry),j=(j':Int)∧j'≤p.log.length∧lg.length=p.log.length∧Ow PartO y {p with log:=lg} h M h4∧∀i v,i<j'→lg[i]?=some v→v.proc=N) (fun j _=>((p.log.length:Int)-j).toNat)
  ⟨0,p.log,rfl,by omega,rfl,oi,fun i v hi=>by omega⟩ ?_
 rintro j h4 ⟨j',lg,rfl,hj,hvl,o4,hv4⟩
 obtain ⟨M1,o5,back5⟩:=zyo1 o4
 have hll:y.Log.len=lg.length:=o5.len
 obtain ⟨ld4,cl4⟩:=keep h4 _ o4
 have ld4a:LdIs h4 (Addr.add (sat v.Parts.base 6 (i:Int)) 1) [y.Log.v]:=zpt ld4 (n:=1) rfl
 refine zab (ldC (sh:=shSl) y.Log ld4a (letW ?_))
 by_cases hlt:j'<lg.length
 ·rw [if_pos (by simp;omega)]
  refine zab (ld_at (sh:=shSl) y.Log ld4a ?_)
  obtain ⟨e,he⟩:∃e,lg[j']?=some e:=⟨_,List.getElem?_eq_getElem hlt⟩
  obtain ⟨e',M2,hin2,o6, -,put6⟩:=o5.at_ (PureO.ok _) (fun _=>rfl) (by omega) he
  refine ⟨hin2,put6 h4 {e' with Proc:=N} {e with proc:=N} 1 [.int .i64 N] _ ?_ (by simp) rfl fun h7 o7=> ?_⟩
  ·obtain ⟨B,⟨rfl,e1⟩,nd,m⟩:=o6
   refine ⟨[],⟨rfl,?_⟩,nd,m⟩
   rw [←e1];rfl
  have o8:=back5 h7 y.Log _ o7
  rw [zak (by omega) (by omega)]
  exact ⟨⟨j'+1,lg.set j' {e with proc:=N},by omega,by omega,by simp [hvl],o8,zjc1 (f:=PEntry.proc) hv4 rfl⟩,by omega⟩
 have hj':j'=lg.length:=by omega
 subst hj'
 rw [if_neg (by simp;omega)]
 refine JoinW0.intro (fun k'=>k'=h4) ?_ ?_
 ·rw [if_neg (by simp)]
 ·rintro k' rfl
  exact hK k' lg cl4 ⟨zrq1 (f:=PEntry.proc) hv4,by omega⟩ (by omega)
set_option maxRecDepth 20000 in
theorem zge2 {turn:Int} (ht:turn=1) (o:Ow StateO v s h0 G h) (hp:s.parts[i]?=some p) (hn:LogIs N p.log) (hs:p.log.length≤1099511627776) {K:Hp→Prop}
  (hK:∀h' lg,Ow StateO v {s with parts:=s.parts.set i {p with log:=lg}} h0 G h'→LogIs N lg→K h'):
  znf1 turn v i N K h:=by
 subst ht
 unfold znf1
 obtain ⟨y,M,hin,oi,keep,put, -⟩:=zne1 o hp
 refine ⟨hin,?_⟩
 refine LoopW1.intro (fun j h4=>h4=h) (fun _ _=>0) rfl ?_
 rintro _ h4 rfl
 refine zab ⟨(⟨none,0,0⟩:Sl),fun e=>(by cases e),letW ?_⟩
 rw [if_neg (by simp)]
 refine JoinW0.direct ?_
 rw [if_pos (by simp)]
 obtain ⟨ld4, -⟩:=keep h4 _ oi
 refine zab (ld_at (sh:=shSl) y.Log (zpt ld4 (n:=1) rfl) ?_)
 refine newF (xs:=[(⟨0,N,0⟩:S_api_Entry),⟨0,N,0⟩]) (enc:=fun x=>zae (sh_api_Entry.enc x)) (sz:=3) rfl (fun _=>rfl) fun b6 h6 _ hle6 _ w6=> ?_
 obtain ⟨M1,o6,back6⟩:=zyo1 (oi.le okPart hle6)
 refine o6.app (vs:=[(⟨0,N,0⟩:S_api_Entry),⟨0,N,0⟩]) (qs:=[⟨0,N,0⟩,⟨0,N,0⟩]) ⟨rfl,rfl,trivial⟩ (w6.rw fun _=>rfl) (fun _=>rfl) (fun _=>rfl) rfl (by simp;omega) fun l7 h7 o7=> ?_
 have o7':=back6 h7 l7 _ o7
 refine zab (put h7 {y with Log:=l7} _ 1 [l7.v] _ o7' (by simp) rfl fun h8 o8=>hK h8 _ o8 ⟨fun e he=> ?_,by simp;omega⟩)
 rcases List.mem_append.1 he with he | he
 ·exact hn.1 e he
 ·have:e=⟨0,N,0⟩:=by simpa using he
  rw [this]
variable {qv:List Int}
set_option maxRecDepth 20000 in
theorem zaa2 {turn:Int} (ht:turn=0) (o:Ow StateO v s h0 G h) (hp:s.parts[i]?=some p) (hq:p.queues[k]?=some qv) (hs:qv.length≤1099511627776) {K:Hp→Prop}
  (hK:∀h' q',Ow StateO v {s with parts:=s.parts.set i {p with queues:=p.queues.set k q'}} h0 G h'→QIs N q'→q'.length≤1099511627776→K h'):
  zdi1 turn v i k N K h:=by
 subst ht
 unfold zdi1
 obtain ⟨y,M,hin,oi,keep,put,fr⟩:=zne1 o hp
 obtain ⟨M3,o3,sub3,back3⟩:=zgs1 oi
 obtain ⟨x3,M4,hin4,o4,keep4,put4⟩:=o3.at_ okIs (fun _=>rfl) (by omega) hq
 refine LoopW1.intro (fun j h4=>∃(j':Nat) (vs:List Int),j=(j':Int)∧j'≤qv.length∧vs.length=qv.length∧Ow IsO x3 vs h M4 h4∧∀i v,i<j'→vs[i]?=some v→v=N) (fun j _=>((qv.length:Int)-j).toNat)
  ⟨0,qv,rfl,by omega,rfl,o4,fun i v hi=>by omega⟩ ?_
 rintro j h7 ⟨j',vs,rfl,hj,hvl,o7,hv7⟩
 have hll:x3.len=vs.length:=o7.len
 obtain ⟨ld7,cl7⟩:=keep4 h7 vs o7
 have ld7:LdIs h7 (sat y.Queues.base 1 (k:Int)) [x3.v]:=ld7
 obtain ⟨ld7p,cl7p⟩:=keep h7 _ (back3 h7 y.Queues _ cl7)
 have ld7a:LdIs h7 (Addr.add (sat v.Parts.base 6 (i:Int)) 5) [y.Queues.v]:=zpt ld7p (n:=1) rfl
 refine zab (ldC (sh:=shSl) y.Queues ld7a ⟨fun _=>hin4,ldC (sh:=shSl) x3 ld7 (letW ?_)⟩)
 by_cases hlt:j'<vs.length
 ·rw [if_pos (by simp;omega)]
  obtain ⟨e,he⟩:∃e,vs[j']?=some e:=⟨_,List.getElem?_eq_getElem hlt⟩
  obtain ⟨e',M2,hin2,o6, -,put6⟩:=o7.at_ (PureO.ok _) (fun _=>rfl) (by omega) he
  refine zab (ld_at (sh:=shSl) y.Queues ld7a ⟨hin4,ld_at (sh:=shSl) x3 ld7 ⟨hin2,?_⟩⟩)
  rw [←zdv2 (sat x3.base 1 (j':Int))]
  refine put6 h7 N N 0 [.int .i64 N] _ ?_ (by simp) rfl fun h8 o8=> ?_
  ·obtain ⟨B,⟨rfl,_⟩,nd,m⟩:=o6
   exact ⟨[],⟨rfl,rfl⟩,nd,m⟩
  rw [zak (by omega) (by omega)]
  exact ⟨⟨j'+1,vs.set j' N,by omega,by omega,by simp [hvl],o8,zjc1 (f:=id) hv7 rfl⟩,by omega⟩
 have hj':j'=vs.length:=by omega
 subst hj'
 rw [if_neg (by simp;omega),if_neg (by simp)]
 exact hK h7 vs cl7p ⟨zrq1 (f:=id) hv7,by omega⟩ (by omega)
set_option maxRecDepth 20000 in
theorem zab2 {turn:Int} (ht:turn=1) (o:Ow StateO v s h0 G h) (hp:s.parts[i]?=some p) (hq:p.queues[k]?=some qv) (hn:QIs N qv) (hs:qv.length≤1099511627776) {K:Hp→Prop}
  (hK:∀h' q',Ow StateO v {s with parts:=s.parts.set i {p with queues:=p.queues.set k q'}} h0 G h'→QIs N q'→K h'):
  zdi1 turn v i k N K h:=by
 subst ht
 unfold zdi1
 obtain ⟨y,M,hin,oi,keep,put,fr⟩:=zne1 o hp
 obtain ⟨M3,o3,sub3,back3⟩:=zgs1 oi
 obtain ⟨x3,M4,hin4,o4,keep4,put4,sub4,fr4⟩:=o3.atF okIs (fun _=>rfl) (by omega) hq
 refine LoopW1.intro (fun j h4=>h4=h) (fun _ _=>0) rfl ?_
 rintro _ h7 rfl
 refine zab ⟨(⟨none,0,0⟩:Sl),fun e=>(by cases e),fun e=>(by cases e),⟨(⟨none,0,0⟩:Sl),fun e=>(by cases e),letW ?_⟩⟩
 rw [if_neg (by simp),if_pos (by simp)]
 have ldp:∀h',Fr M4 h7 h'→LdIs h' (Addr.add (sat v.Parts.base 6 (i:Int)) 5) [y.Queues.v]:=fun h' f=>zpt (fr h' ((Fr.refl M h7).then_ ((Fr.refl M3 h7).then_ f sub4) sub3)) (n:=1) rfl
 have ldq:∀h',Fr M4 h7 h'→LdIs h' (sat y.Queues.base 1 (k:Int)) [x3.v]:=fun h' f=>fr4 h' f
 refine zab (ld_at (sh:=shSl) y.Queues (ldp h7 (Fr.refl _ _)) (zab (ld_at (sh:=shSl) y.Queues (ldp h7 (Fr.refl _ _)) ⟨hin4,ld_at (sh:=shSl) x3 (ldq h7 (Fr.refl _ _)) ?_⟩)))
 refine newF (xs:=[N,N,N]) (enc:=fun x=>zae ((shInt .i64).enc x)) (sz:=1) rfl (fun _=>rfl) fun b8 h8 _ hle8 _ w8=> ?_
 have f8:Fr M4 h7 h8:=(Fr.refl _ _).le hle8
 refine ⟨⟨ldp h8 f8,ldp h8 f8,ldq h8 f8,trivial⟩,?_⟩
 refine (o4.le okIs hle8).app (vs:=[N,N,N]) (qs:=[N,N,N]) ⟨rfl,rfl,rfl,trivial⟩ (w8.rw fun _=>rfl) (fun _=>rfl) (fun _=>rfl) rfl (by simp;omega) fun l9 h9 o9=> ?_
 refine ⟨⟨ldp h9 o9.fr,trivial⟩,hin4,?_⟩
 rw [←zdv2 (sat y.Queues.base 1 (k:Int))]
 refine put4 h9 l9 _ 0 [l9.v] _ o9 (by simp) rfl fun h10 o10=> ?_
 refine hK h10 _ (keep h10 _ (back3 h10 y.Queues _ o10)).2 ⟨fun x hx=> ?_,by simp;omega⟩
 rcases List.mem_append.1 hx with hx | hx
 ·exact hn.1 x hx
 ·simpa using hx
theorem zgf2 {t:Nat} (ht:t=0∨t=1) (o:Ow StateO v s h0 G h) (hp:s.parts[i]?=some p) (hn:t=1→LogIs N p.log) (hs:p.log.length≤1099511627776) {K:Hp→Prop}
  (hK:∀h' lg,Ow StateO v {s with parts:=s.parts.set i {p with log:=lg}} h0 G h'→LogIs N lg→(t=0→lg.length≤1099511627776)→K h'):znf1 (t:Int) v i N K h:=by
 rcases ht with rfl | rfl
 ·exact zgd2 rfl o hp hs fun h' lg g1 g2 g3=>hK h' lg g1 g2 fun _=>g3
 ·exact zge2 rfl o hp (hn rfl) hs fun h' lg g1 g2=>hK h' lg g1 g2 fun e=>by cases e
theorem zac2 {t:Nat} (ht:t=0∨t=1) (o:Ow StateO v s h0 G h) (hp:s.parts[i]?=some p) (hq:p.queues[k]?=some qv) (hn:t=1→QIs N qv) (hs:qv.length≤1099511627776) {K:Hp→Prop}
  (hK:∀h' q',Ow StateO v {s with parts:=s.parts.set i {p with queues:=p.queues.set k q'}} h0 G h'→QIs N q'→(t=0→q'.length≤1099511627776)→K h'):zdi1 (t:Int) v i k N K h:=by
 rcases ht with rfl | rfl
 ·exact zaa2 rfl o hp hq hs fun h' q' g1 g2 g3=>hK h' q' g1 g2 fun _=>g3
 ·exact zab2 rfl o hp hq (hn rfl) hs fun h' q' g1 g2=>hK h' q' g1 g2 fun e=>by cases e
end
end Lf

namespace Lf
open Go Go.Proofs
def sumTo (S:List Nat) (i:Nat):Nat:=(S.take i).sum
theorem zjv1 {S:List Nat} {i n:Nat} (h:S[i]?=some n):sumTo S (i+1)=sumTo S i+n:=by
 unfold sumTo
 rw [List.take_add_one,h,List.sum_append]
 simp
theorem zlf1 (S:List Nat) (i:Nat):sumTo S i≤S.sum:=by
 unfold sumTo
 conv=>rhs;rw [←List.take_append_drop i S,List.sum_append]
 omega
theorem ztx1 (S:List Nat):sumTo S S.length=S.sum:=by unfold sumTo;rw [List.take_length]
def zdi (i k i' k':Nat):Prop:=i'<i∨(i'=i∧k'<k)
theorem done_step {i k i' k':Nat}:zdi i (k+1) i' k'↔zdi i k i' k'∨(i'=i∧k'=k):=by unfold zdi;omega
structure LanesT (S:List Nat) (t i k:Nat) (ps:List PProcess):Prop where
 shape:ps.map (fun p=>p.lanes.length)=S
 is:∀i' p k' q,ps[i']?=some p→p.lanes[k']?=some q→(t=1∨zdi i k i' k')→zjb1 ((sumTo S i'+k'+1:Nat):Int) q
 short:∀i' p k' q,ps[i']?=some p→p.lanes[k']?=some q→(t=0∨¬zdi i k i' k')→LaneS q
theorem zoj {α:Type} {l:List α} {i j:Nat} {x y:α} (h:(l.set i x)[j]?=some y):(j=i∧y=x)∨(j≠i∧l[j]?=some y):=by
 rw [List.getElem?_set] at h
 by_cases hij:i=j
 ·rw [if_pos hij] at h
  by_cases hl:i<l.length
  ·rw [if_pos hl] at h
   exact .inl ⟨hij.symm,(Option.some.inj h).symm⟩
  ·rw [if_neg hl] at h;cases h
 ·rw [if_neg hij] at h
  exact .inr ⟨fun e=>hij e.symm,h⟩
theorem zdj1 {α β:Type} {f:α→β} {l:List α} {i:Nat} {x y:α} (h:l[i]?=some x) (e:f y=f x):(l.set i y).map f=l.map f:=by
 rw [List.map_set,e]
 obtain ⟨hi,hx⟩:=List.getElem?_eq_some_iff.1 h
 refine List.ext_getElem? fun j=> ?_
 rw [List.getElem?_set]
 by_cases hij:i=j
 ·subst hij
  rw [if_pos rfl,if_pos (by simpa using hi),List.getElem?_map,h];rfl
 ·rw [if_neg hij]
section
variable {S:List Nat} {t i k:Nat} {ps:List PProcess}
theorem LanesT.at_ (a:LanesT S t i k ps) {j:Nat} {p:PProcess} (h:ps[j]?=some p):S[j]?=some p.lanes.length:=by
 rw [←a.shape,List.getElem?_map,h];rfl
theorem LanesT.len (a:LanesT S t i k ps):ps.length=S.length:=by
 rw [←a.shape,List.length_map]
theorem LanesT.step (a:LanesT S t i k ps) {p:PProcess} {q q':PLane} (hp:ps[i]?=some p) (hq:p.lanes[k]?=some q) (h1:zjb1 ((sumTo S i+k+1:Nat):Int) q') (h2:t=0→LaneS q'):
  LanesT S t i (k+1) (ps.set i {p with lanes:=p.lanes.set k q'}) where
 shape:=by
  rw [zdj1 hp (by simp)]
  exact a.shape
 is:=fun i' p2 k' q2 hp2 hq2 hd=>by
  rcases zoj hp2 with ⟨rfl,rfl⟩ | ⟨hne,hp3⟩
  ·rcases zoj hq2 with ⟨rfl,rfl⟩ | ⟨hne,hq3⟩
   ·exact h1
   ·refine a.is i' p k' q2 hp hq3 ?_
    rcases hd with hd | hd
    ·exact .inl hd
    ·rcases done_step.1 hd with hd | hd
     ·exact .inr hd
     ·exact absurd hd.2 hne
  ·refine a.is i' p2 k' q2 hp3 hq2 ?_
   rcases hd with hd | hd
   ·exact .inl hd
   ·rcases done_step.1 hd with hd | hd
    ·exact .inr hd
    ·exact absurd hd.1 hne
 short:=fun i' p2 k' q2 hp2 hq2 hd=>by
  rcases zoj hp2 with ⟨rfl,rfl⟩ | ⟨hne,hp3⟩
  ·rcases zoj hq2 with ⟨rfl,rfl⟩ | ⟨hne,hq3⟩
   ·rcases hd with hd | hd
    ·exact h2 hd
    ·exact absurd (done_step.2 (.inr ⟨rfl,rfl⟩)) hd
   ·refine a.short i' p k' q2 hp hq3 ?_
    rcases hd with hd | hd
    ·exact .inl hd
    ·exact .inr fun hd2=>hd (done_step.2 (.inl hd2))
  ·refine a.short i' p2 k' q2 hp3 hq2 ?_
   rcases hd with hd | hd
   ·exact .inl hd
   ·exact .inr fun hd2=>hd (done_step.2 (.inl hd2))
theorem LanesT.next (a:LanesT S t i k ps) {p:PProcess} (hp:ps[i]?=some p) (hk:k=p.lanes.length):LanesT S t (i+1) 0 ps where
 shape:=a.shape
 is:=fun i' p2 k' q2 hp2 hq2 hd=>a.is i' p2 k' q2 hp2 hq2 (by
  rcases hd with hd | hd
  ·exact .inl hd
  ·right
   unfold zdi at*
   by_cases h:i'=i
   ·subst h
    rw [hp] at hp2
    cases hp2
    have:=(List.getElem?_eq_some_iff.1 hq2).1
    omega
   ·omega)
 short:=fun i' p2 k' q2 hp2 hq2 hd=>a.short i' p2 k' q2 hp2 hq2 (by
  rcases hd with hd | hd
  ·exact .inl hd
  ·right
   unfold zdi at*
   omega)
theorem LanesT.turn (a:LanesT S 0 S.length 0 ps):LanesT S 1 0 0 ps where
 shape:=a.shape
 is:=fun i' p2 k' q2 hp2 hq2 _=>a.is i' p2 k' q2 hp2 hq2 (.inr (.inl (by
  have:=(List.getElem?_eq_some_iff.1 hp2).1
  rw [a.len] at this
  exact this)))
 short:=fun i' p2 k' q2 hp2 hq2 _=>a.short i' p2 k' q2 hp2 hq2 (.inl rfl)
end
def sumT (T:List Nat) (i:Nat):Nat:=sumTo (T.map (· +1)) i
structure PartsT (T:List Nat) (L t i k:Nat) (ps:List PPart):Prop where
 shape:ps.map (fun p=>p.queues.length)=T
 logIs:∀i' p,ps[i']?=some p→(t=1∨zdi i k i' 0)→LogIs ((L+sumT T i'+1:Nat):Int) p.log
 logS:∀i' p,ps[i']?=some p→(t=0∨¬zdi i k i' 0)→p.log.length≤1099511627776
 qIs:∀i' p k' q,ps[i']?=some p→p.queues[k']?=some q→(t=1∨zdi i k i' (k'+1))→QIs ((L+sumT T i'+1+k'+1:Nat):Int) q
 qS:∀i' p k' q,ps[i']?=some p→p.queues[k']?=some q→(t=0∨¬zdi i k i' (k'+1))→q.length≤1099511627776
section
variable {T:List Nat} {L t i k:Nat} {ps:List PPart}
theorem PartsT.at_ (a:PartsT T L t i k ps) {j:Nat} {p:PPart} (h:ps[j]?=some p):T[j]?=some p.queues.length:=by
 rw [←a.shape,List.getElem?_map,h];rfl
theorem PartsT.len (a:PartsT T L t i k ps):ps.length=T.length:=by
 rw [←a.shape,List.length_map]
theorem zty1 {j n:Nat} (h:T[j]?=some n):sumT T (j+1)=sumT T j+(n+1):=zjv1 (by rw [List.getElem?_map,h];rfl)
theorem PartsT.log (a:PartsT T L t i 0 ps) {p:PPart} {lg:List PEntry} (hp:ps[i]?=some p) (h1:LogIs ((L+sumT T i+1:Nat):Int) lg) (h2:t=0→lg.length≤1099511627776):PartsT T L t i 1 (ps.set i {p with log:=lg}) where
 shape:=by
  exact (zdj1 (f:=fun p:PPart=>p.queues.length) (y:={p with log:=lg}) hp rfl).trans a.shape
 logIs:=fun i' p2 hp2 hd=>by
  rcases zoj hp2 with ⟨rfl,rfl⟩ | ⟨hne,hp3⟩
  ·exact h1
  ·refine a.logIs i' p2 hp3 ?_
   rcases hd with hd | hd
   ·exact .inl hd
   ·right;unfold zdi at*;omega
 logS:=fun i' p2 hp2 hd=>by
  rcases zoj hp2 with ⟨rfl,rfl⟩ | ⟨hne,hp3⟩
  ·rcases hd with hd | hd
   ·exact h2 hd
   ·exact absurd (by unfold zdi;omega) hd
  ·refine a.logS i' p2 hp3 ?_
   rcases hd with hd | hd
   ·exact .inl hd
   ·right;unfold zdi at*;omega
 qIs:=fun i' p2 k' q hp2 hq hd=>by
  rcases zoj hp2 with ⟨rfl,rfl⟩ | ⟨hne,hp3⟩
  ·refine a.qIs i' p k' q hp hq ?_
   rcases hd with hd | hd
   ·exact .inl hd
   ·right;unfold zdi at*;omega
  ·refine a.qIs i' p2 k' q hp3 hq ?_
   rcases hd with hd | hd
   ·exact .inl hd
   ·right;unfold zdi at*;omega
 qS:=fun i' p2 k' q hp2 hq hd=>by
  rcases zoj hp2 with ⟨rfl,rfl⟩ | ⟨hne,hp3⟩
  ·refine a.qS i' p k' q hp hq ?_
   rcases hd with hd | hd
   ·exact .inl hd
   ·right;unfold zdi at*;omega
  ·refine a.qS i' p2 k' q hp3 hq ?_
   rcases hd with hd | hd
   ·exact .inl hd
   ·right;unfold zdi at*;omega
theorem PartsT.step (a:PartsT T L t i (k+1) ps) {p:PPart} {q q':List Int} (hp:ps[i]?=some p) (hq:p.queues[k]?=some q) (h1:QIs ((L+sumT T i+1+k+1:Nat):Int) q') (h2:t=0→q'.length≤1099511627776):
  PartsT T L t i (k+1+1) (ps.set i {p with queues:=p.queues.set k q'}) where
 shape:=by
  rw [zdj1 hp (by simp)]
  exact a.shape
 logIs:=fun i' p2 hp2 hd=>by
  rcases zoj hp2 with ⟨rfl,rfl⟩ | ⟨hne,hp3⟩
  ·refine a.logIs i' p hp ?_
   rcases hd with hd | hd
   ·exact .inl hd
   ·right;unfold zdi at*;omega
  ·refine a.logIs i' p2 hp3 ?_
   rcases hd with hd | hd
   ·exact .inl hd
   ·right;unfold zdi at*;omega
 logS:=fun i' p2 hp2 hd=>by
  rcases zoj hp2 with ⟨rfl,rfl⟩ | ⟨hne,hp3⟩
  ·refine a.logS i' p hp ?_
   rcases hd with hd | hd
   ·exact .inl hd
   ·right;unfold zdi at*;omega
  ·refine a.logS i' p2 hp3 ?_
   rcases hd with hd | hd
   ·exact .inl hd
   ·right;unfold zdi at*;omega
 qIs:=fun i' p2 k' q2 hp2 hq2 hd=>by
  rcases zoj hp2 with ⟨rfl,rfl⟩ | ⟨hne,hp3⟩
  ·rcases zoj hq2 with ⟨rfl,rfl⟩ | ⟨hne,hq3⟩
   ·exact h1
   ·refine a.qIs i' p k' q2 hp hq3 ?_
    rcases hd with hd | hd
    ·exact .inl hd
    ·right;unfold zdi at*;omega
  ·refine a.qIs i' p2 k' q2 hp3 hq2 ?_
   rcases hd with hd | hd
   ·exact .inl hd
   ·right;unfold zdi at*;omega
 qS:=fun i' p2 k' q2 hp2 hq2 hd=>by
  rcases zoj hp2 with ⟨rfl,rfl⟩ | ⟨hne,hp3⟩
  ·rcases zoj hq2 with ⟨rfl,rfl⟩ | ⟨hne,hq3⟩
   ·rcases hd with hd | hd
    ·exact h2 hd
    ·exact absurd (by unfold zdi;omega) hd
   ·refine a.qS i' p k' q2 hp hq3 ?_
    rcases hd with hd | hd
    ·exact .inl hd
    ·right;unfold zdi at*;omega
  ·refine a.qS i' p2 k' q2 hp3 hq2 ?_
   rcases hd with hd | hd
   ·exact .inl hd
   ·right;unfold zdi at*;omega
theorem PartsT.next (a:PartsT T L t i (k+1) ps) {p:PPart} (hp:ps[i]?=some p) (hk:k=p.queues.length):PartsT T L t (i+1) 0 ps where
 shape:=a.shape
 logIs:=fun i' p2 hp2 hd=>a.logIs i' p2 hp2 (by
  rcases hd with hd | hd
  ·exact .inl hd
  ·right;unfold zdi at*;omega)
 logS:=fun i' p2 hp2 hd=>a.logS i' p2 hp2 (by
  rcases hd with hd | hd
  ·exact .inl hd
  ·right;unfold zdi at*;omega)
 qIs:=fun i' p2 k' q2 hp2 hq2 hd=>a.qIs i' p2 k' q2 hp2 hq2 (by
  rcases hd with hd | hd
  ·exact .inl hd
  ·right
   unfold zdi at*
   by_cases h:i'=i
   ·subst h
    rw [hp] at hp2
    cases hp2
    have:=(List.getElem?_eq_some_iff.1 hq2).1
    omega
   ·omega)
 qS:=fun i' p2 k' q2 hp2 hq2 hd=>a.qS i' p2 k' q2 hp2 hq2 (by
  rcases hd with hd | hd
  ·exact .inl hd
  ·right;unfold zdi at*;omega)
theorem PartsT.turn (a:PartsT T L 0 T.length 0 ps):PartsT T L 1 0 0 ps where
 shape:=a.shape
 logIs:=fun i' p2 hp2 _=>a.logIs i' p2 hp2 (.inr (.inl (by
  have:=(List.getElem?_eq_some_iff.1 hp2).1
  rw [a.len] at this
  exact this)))
 logS:=fun i' p2 hp2 _=>a.logS i' p2 hp2 (.inl rfl)
 qIs:=fun i' p2 k' q2 hp2 hq2 _=>a.qIs i' p2 k' q2 hp2 hq2 (.inr (.inl (by
  have:=(List.getElem?_eq_some_iff.1 hp2).1
  rw [a.len] at this
  exact this)))
 qS:=fun i' p2 k' q2 hp2 hq2 _=>a.qS i' p2 k' q2 hp2 hq2 (.inl rfl)
end
end Lf

namespace Lf
open Go Go.Proofs
section
variable {v:S_api_State} {s:PState} {h:Hp} {B:List Nat}
theorem Ow.procs_len {h0:Hp} {G:List Nat} (o:Ow StateO v s h0 G h):v.Procs.len=s.procs.length:=by
 obtain ⟨M,o1, -⟩:=znc1 o
 exact o1.len
theorem Ow.parts_len {h0:Hp} {G:List Nat} (o:Ow StateO v s h0 G h):v.Parts.len=s.parts.length:=by
 obtain ⟨M,o1, -⟩:=znd1 o
 exact o1.len
theorem up_eq {n:Nat} (h:n≤4000000):IntKind.wrap .i64 ((n:Int)+1)=((n+1:Nat):Int):=by
 rw [zak (by omega) (by omega)]
 push_cast
 rfl
set_option maxRecDepth 20000 in
theorem zad2 {Q:Bool→Hp→Prop} (r:StateO v s h B) (nd:B.Nodup) {S T:List Nat} (hS:LanesT S 0 0 0 s.procs) (hT:PartsT T S.sum 0 0 0 s.parts) (bS:S.sum≤1000000∧S.length≤1000000) (bT:(T.map (· +1)).sum≤1000000∧T.length≤1000000)
  (hread:∀s' h',StateAt h' v s'→LanesT S 1 S.length 0 s'.procs→PartsT T S.sum 1 T.length 0 s'.parts→(∀q:Bool→Hp→Prop,q true h'→zeb Tryz.prog v q h'))
  (hq:∀h',Fr B h h'→Q true h'):zdg Tryz.prog v Q h:=by
 unfold zdg
 refine LoopW1.intro (fun turn h1=>∃(t:Nat) (s':PState),turn=(t:Int)∧Ow StateO v s' h B h1∧((t=0∧LanesT S 0 0 0 s'.procs∧PartsT T S.sum 0 0 0 s'.parts)∨(t=1∧LanesT S 1 0 0 s'.procs∧PartsT T S.sum 1 0 0 s'.parts)∨(t=2∧LanesT S 1 S.length 0 s'.procs∧PartsT T S.sum 1 T.length 0 s'.parts)))
  (fun turn _=>((2:Int)-turn).toNat) ⟨0,s,rfl,Ow.start r nd,.inl ⟨rfl,hS,hT⟩⟩ ?_
 rintro turn h1 ⟨t,s1,rfl,o1,hI⟩
 by_cases ht2:t=2
 ·subst ht2
  rw [if_neg (by simp)]
  rcases hI with ⟨e,_⟩ | ⟨e,_⟩ | ⟨_,g1,g2⟩
  ·cases e
  ·cases e
  obtain ⟨B',r',_,_⟩:=id o1
  exact zxm (hread s1 h1 r'.rd g1 g2 _ (hq h1 o1.fr))
 obtain ⟨ht,hL,hP⟩:(t=0∨t=1)∧LanesT S t 0 0 s1.procs∧PartsT T S.sum t 0 0 s1.parts:=by
  rcases hI with ⟨rfl,g1,g2⟩ | ⟨rfl,g1,g2⟩ | ⟨e,_⟩
  ·exact ⟨.inl rfl,g1,g2⟩
  ·exact ⟨.inr rfl,g1,g2⟩
  ·exact absurd e ht2
 have htlt:(t:Int)<2:=by omega
 rw [if_pos (decide_eq_true htlt)]
 refine LoopW2.intro (fun n i h2=>∃(i':Nat) (s2:PState),i=(i':Int)∧n=((sumTo S i':Nat):Int)∧i'≤S.length∧Ow StateO v s2 h B h2∧LanesT S t i' 0 s2.procs∧PartsT T S.sum t 0 0 s2.parts) (fun _ i _=>((S.length:Int)-i).toNat)
  ⟨0,s1,rfl,rfl,by omega,o1,hL,hP⟩ ?_
 rintro n i h2 ⟨i',s2,rfl,rfl,hi,o2,hL2,hP2⟩
 have hlen2:=o2.procs_len
 rw [hL2.len] at hlen2
 by_cases hlt:i'<S.length
 ·have hlt':(i':Int)<((v.Procs.len:Nat):Int):=by omega
  rw [if_pos (decide_eq_true hlt')]
  obtain ⟨p,hp⟩:∃p,s2.procs[i']?=some p:=⟨_,List.getElem?_eq_getElem (by rw [hL2.len];exact hlt)⟩
  obtain ⟨l0,M0,hin0,ol0,back0⟩:=zdw2 o2 hp
  have hSi:=hL2.at_ hp
  have hl0:l0.len=p.lanes.length:=ol0.len
  have hsucc:=zjv1 hSi
  have hle:=zlf1 S (i'+1)
  refine ⟨hin0,ld_at (sh:=shSl) l0 (back0 h2 _ ol0).1 ?_⟩
  refine LoopW2.intro (fun n1 k h3=>∃(k':Nat) (s3:PState),k=(k':Int)∧n1=((sumTo S i'+k':Nat):Int)∧k'≤p.lanes.length∧Ow StateO v s3 h B h3∧LanesT S t i' k' s3.procs∧PartsT T S.sum t 0 0 s3.parts) (fun _ k _=>((p.lanes.length:Int)-k).toNat)
   ⟨0,s2,rfl,rfl,by omega,o2,hL2,hP2⟩ ?_
  rintro n1 k h3 ⟨k',s3,rfl,rfl,hk,o3,hL3,hP3⟩
  obtain ⟨p3,hp3⟩:∃p,s3.procs[i']?=some p:=⟨_,List.getElem?_eq_getElem (by rw [hL3.len];exact hlt)⟩
  have hSi3:=hL3.at_ hp3
  have hp3l:p3.lanes.length=p.lanes.length:=Option.some.inj (hSi3.symm.trans hSi)
  by_cases hkl:k'<p.lanes.length
  ·have hkl':(k':Int)<((l0.len:Nat):Int):=by omega
   rw [if_pos (decide_eq_true hkl'),up_eq (n:=sumTo S i'+k') (by omega)]
   obtain ⟨q,hq3⟩:∃q,p3.lanes[k']?=some q:=⟨_,List.getElem?_eq_getElem (by omega)⟩
   obtain ⟨l3,M3,hin3,ol3,back3⟩:=zdw2 o3 hp3
   refine JoinW1.intro (fun n2 h4=>n2=((sumTo S i'+k'+1:Nat):Int)∧∃q',Ow zue l3 (p3.lanes.set k' q') h3 M3 h4∧zjb1 ((sumTo S i'+k'+1:Nat):Int) q'∧(t=0→LaneS q')) ?_ ?_
   ·refine ⟨hin3,ld_at (sh:=shSl) l3 (back3 h3 _ ol3).1 ?_⟩
    exact zdz2 (K:=fun h4=>((sumTo S i'+k'+1:Nat):Int)=((sumTo S i'+k'+1:Nat):Int)∧∃q',Ow zue l3 (p3.lanes.set k' q') h3 M3 h4∧zjb1 ((sumTo S i'+k'+1:Nat):Int) q'∧(t=0→LaneS q')) ht ol3 hq3 (fun e=>hL3.is i' p3 k' q hp3 hq3 (.inl e)) (hL3.short i' p3 k' q hp3 hq3 (.inr (by unfold zdi;omega))) fun h' q' g1 g2 g3=>⟨rfl,q',g1,g2,g3⟩
   ·rintro n2 h4 ⟨rfl,q',o4,g1,g2⟩
    rw [zak (n:=(k':Int)+1) (by omega) (by omega)]
    exact ⟨⟨k'+1,_,by push_cast;rfl,rfl,by omega,(back3 h4 _ o4).2,hL3.step hp3 hq3 g1 g2,hP3⟩,by omega⟩
  ·have hkl':¬(k':Int)<((l0.len:Nat):Int):=by omega
   rw [if_neg (fun e=>hkl' (of_decide_eq_true e)),zak (n:=(i':Int)+1) (by omega) (by omega)]
   have hk2:k'=p.lanes.length:=by omega
   exact ⟨⟨i'+1,s3,by push_cast;rfl,by rw [hsucc,hk2],by omega,o3,hL3.next hp3 (by omega),hP3⟩,by omega⟩
 ·have hlt':¬(i':Int)<((v.Procs.len:Nat):Int):=by omega
  rw [if_neg (fun e=>hlt' (of_decide_eq_true e))]
  have hi2:i'=S.length:=by omega
  subst hi2
  rw [ztx1]
  refine LoopW2.intro (fun n i h3=>∃(i':Nat) (s3:PState),i=(i':Int)∧n=((S.sum+sumT T i':Nat):Int)∧i'≤T.length∧Ow StateO v s3 h B h3∧LanesT S t S.length 0 s3.procs∧PartsT T S.sum t i' 0 s3.parts) (fun _ i _=>((T.length:Int)-i).toNat)
   ⟨0,s2,rfl,rfl,by omega,o2,hL2,hP2⟩ ?_
  rintro n i h3 ⟨i',s3,rfl,rfl,hi3,o3,hL3,hP3⟩
  have hlen3:=o3.parts_len
  rw [hP3.len] at hlen3
  by_cases hlt3:i'<T.length
  ·have hlt3':(i':Int)<((v.Parts.len:Nat):Int):=by omega
   obtain ⟨p,hp⟩:∃p,s3.parts[i']?=some p:=⟨_,List.getElem?_eq_getElem (by rw [hP3.len];exact hlt3)⟩
   have hTi:=hP3.at_ hp
   have hsucc:=zty1 hTi
   have hle:sumT T (i'+1)≤(T.map (· +1)).sum:=zlf1 _ _
   rw [if_pos (decide_eq_true hlt3'),up_eq (n:=S.sum+sumT T i') (by omega)]
   refine zgf2 ht o3 hp (fun e=>hP3.logIs i' p hp (.inl e)) (hP3.logS i' p hp (.inr (by unfold zdi;omega))) fun h5 lg o5 g1 g2=> ?_
   have hpl:i'<s3.parts.length:=by rw [hP3.len];exact hlt3
   have hP5:=hP3.log hp g1 g2
   obtain ⟨x,M5, -,op5,keep5, -, -⟩:=zne1 o5 (List.getElem?_set_self hpl)
   obtain ⟨Mq,oq, -, -⟩:=zgs1 op5
   have hx:x.Queues.len=p.queues.length:=oq.len
   refine zab (ld_at (sh:=shSl) x.Queues (zpt (keep5 h5 _ op5).1 (n:=1) rfl) ?_)
   refine LoopW2.intro (fun n2 k h6=>∃(k':Nat) (s4:PState),k=(k':Int)∧n2=((S.sum+sumT T i'+1+k':Nat):Int)∧k'≤p.queues.length∧Ow StateO v s4 h B h6∧LanesT S t S.length 0 s4.procs∧PartsT T S.sum t i' (k'+1) s4.parts) (fun _ k _=>((p.queues.length:Int)-k).toNat)
    ⟨0,_,rfl,rfl,by omega,o5,hL3,hP5⟩ ?_
   rintro n2 k h6 ⟨k',s4,rfl,rfl,hk,o6,hL6,hP6⟩
   obtain ⟨p6,hp6⟩:∃p,s4.parts[i']?=some p:=⟨_,List.getElem?_eq_getElem (by rw [hP6.len];exact hlt3)⟩
   have hp6l:p6.queues.length=p.queues.length:=Option.some.inj ((hP6.at_ hp6).symm.trans hTi)
   by_cases hkl:k'<p.queues.length
   ·have hkl':(k':Int)<((x.Queues.len:Nat):Int):=by omega
    rw [if_pos (decide_eq_true hkl'),up_eq (n:=S.sum+sumT T i'+1+k') (by omega)]
    obtain ⟨q,hq6⟩:∃q,p6.queues[k']?=some q:=⟨_,List.getElem?_eq_getElem (by omega)⟩
    refine JoinW1.intro (fun n3 h7=>n3=((S.sum+sumT T i'+1+k'+1:Nat):Int)∧∃q',Ow StateO v {s4 with parts:=s4.parts.set i' {p6 with queues:=p6.queues.set k' q'}} h B h7∧QIs ((S.sum+sumT T i'+1+k'+1:Nat):Int) q'∧(t=0→q'.length≤1099511627776)) ?_ ?_
    ·exact zac2 (K:=fun h7=>((S.sum+sumT T i'+1+k'+1:Nat):Int)=((S.sum+sumT T i'+1+k'+1:Nat):Int)∧∃q',Ow StateO v {s4 with parts:=s4.parts.set i' {p6 with queues:=p6.queues.set k' q'}} h B h7∧QIs ((S.sum+sumT T i'+1+k'+1:Nat):Int) q'∧(t=0→q'.length≤1099511627776))
      ht o6 hp6 hq6 (fun e=>hP6.qIs i' p6 k' q hp6 hq6 (.inl e)) (hP6.qS i' p6 k' q hp6 hq6 (.inr (by unfold zdi;omega))) fun h' q' g1 g2 g3=>⟨rfl,q',g1,g2,g3⟩
    ·rintro n3 h7 ⟨rfl,q',o7,g1,g2⟩
     rw [zak (n:=(k':Int)+1) (by omega) (by omega)]
     exact ⟨⟨k'+1,_,by push_cast;rfl,rfl,by omega,o7,hL6,hP6.step hp6 hq6 g1 g2⟩,by omega⟩
   ·have hkl':¬(k':Int)<((x.Queues.len:Nat):Int):=by omega
    rw [if_neg (fun e=>hkl' (of_decide_eq_true e)),zak (n:=(i':Int)+1) (by omega) (by omega)]
    have hk2:k'=p.queues.length:=by omega
    exact ⟨⟨i'+1,s4,by push_cast;rfl,by rw [hsucc,hk2];congr 1;omega,by omega,o6,hL6,hP6.next hp6 (by omega)⟩,by omega⟩
  ·have hlt3':¬(i':Int)<((v.Parts.len:Nat):Int):=by omega
   rw [if_neg (fun e=>hlt3' (of_decide_eq_true e)),zak (n:=(t:Int)+1) (by omega) (by omega)]
   have hi4:i'=T.length:=by omega
   subst hi4
   refine ⟨⟨t+1,s3,by push_cast;rfl,o3,?_⟩,by omega⟩
   rcases ht with rfl | rfl
   ·exact .inr (.inl ⟨rfl,hL3.turn,hP3.turn⟩)
   ·exact .inr (.inr ⟨rfl,hL3,hP3⟩)
end
end Lf

namespace Lf
open Go Go.Proofs
section
variable {v:S_api_State} {s:PState} {h:Hp}
set_option maxRecDepth 20000 in
theorem zea2 {P:Program} {Q:Bool→Hp→Prop} {S T:List Nat} (a:StateAt h v s) (hL:LanesT S 1 S.length 0 s.procs) (hP:PartsT T S.sum 1 T.length 0 s.parts) (bS:S.sum≤1000000∧S.length≤1000000) (bT:(T.map (· +1)).sum≤1000000∧T.length≤1000000)
  (hq:Q true h):zeb P v Q h:=by
 unfold zeb
 obtain ⟨xs,hxs,hallx⟩:=a.procs
 obtain ⟨ys,hys,hally⟩:=a.parts
 have lx:=hallx.len
 have ly:=hally.len
 have lS:=hL.len
 have lT:=hP.len
 have vx:v.Procs.len=xs.length:=hxs.1
 have vy:v.Parts.len=ys.length:=hys.1
 refine LoopW3.intro (fun n ok i k=>k=h∧ok=true∧∃i':Nat,i=(i':Int)∧n=((sumTo S i':Nat):Int)∧i'≤S.length) (fun _ _ i _=>((S.length:Int)-i).toNat) ⟨rfl,rfl,0,rfl,rfl,by omega⟩ ?_
 rintro n ok i k ⟨rfl,rfl,i',rfl,rfl,hi⟩
 by_cases hlt:i'<S.length
 ·have hlt':(i':Int)<((v.Procs.len:Nat):Int):=by omega
  rw [if_pos (decide_eq_true hlt')]
  refine Rs.get (sh:=sh_api_Process) hxs (fun _=>rfl) (by omega) (by omega) (by omega) fun x hx=> ?_
  have hx:xs[i']?=some x:=hx
  obtain ⟨p,hp1,hp2⟩:=hallx.get hx
  obtain ⟨ls,hls,halll⟩:=hp2.lanes
  have ll:=halll.len
  have vl:x.Lanes.len=ls.length:=hls.1
  have hSi:=hL.at_ hp1
  have hsucc:=zjv1 hSi
  have hle:=zlf1 S (i'+1)
  refine LoopW3.intro (fun n ok j k'=>k'=k∧ok=true∧∃j':Nat,j=(j':Int)∧n=((sumTo S i'+j':Nat):Int)∧j'≤p.lanes.length) (fun _ _ j _=>((p.lanes.length:Int)-j).toNat) ⟨rfl,rfl,0,rfl,rfl,by omega⟩ ?_
  rintro n ok j k' ⟨rfl,rfl,j',rfl,rfl,hj⟩
  by_cases hlt2:j'<p.lanes.length
  ·have hlt2':(j':Int)<((x.Lanes.len:Nat):Int):=by omega
   rw [if_pos (decide_eq_true hlt2'),up_eq (n:=sumTo S i'+j') (by omega)]
   refine Rs.get (sh:=sh_api_Lane) hls (fun _=>rfl) (by omega) (by omega) (by omega) fun y hy=> ?_
   have hy:ls[j']?=some y:=hy
   obtain ⟨q,hq1,hq2⟩:=halll.get hy
   obtain ⟨is1,is2,is3,is4⟩:=hL.is i' p j' q hp1 hq1 (.inl rfl)
   obtain ⟨ws,hws,hwm⟩:=hq2.waiters
   have vv:y.Values.len=q.values.length:=hq2.values.1
   have vw:y.Waiters.len=ws.length:=hws.1
   have lw:ws.length=q.waiters.length:=by rw [←hwm,List.length_map]
   refine LoopW2.intro (fun ok t k=>k=k'∧ok=true∧∃t':Nat,t=(t':Int)∧t'≤q.values.length) (fun _ t _=>((q.values.length:Int)-t).toNat) ⟨rfl,rfl,0,rfl,by omega⟩ ?_
   rintro ok t k ⟨rfl,rfl,t',rfl,ht⟩
   by_cases hlt3:t'<q.values.length
   ·have hlt3':(t':Int)<((y.Values.len:Nat):Int):=by omega
    rw [if_pos (decide_eq_true hlt3')]
    refine Rs.get (sh:=shInt .i64) hq2.values (fun _=>rfl) (by omega) (by omega) (by omega) fun (w:Int) hw=> ?_
    have hw:q.values[t']?=some w:=hw
    have e:=is1 w (List.mem_of_getElem? hw)
    refine letW ?_
    rw [zak (n:=(t':Int)+1) (by omega) (by omega)]
    exact ⟨⟨rfl,by simp [e],t'+1,by push_cast;rfl,by omega⟩,by omega⟩
   have hlt3':¬(t':Int)<((y.Values.len:Nat):Int):=by omega
   rw [if_neg (fun e=>hlt3' (of_decide_eq_true e))]
   refine LoopW2.intro (fun ok t k'=>k'=k∧ok=true∧∃t':Nat,t=(t':Int)∧t'≤ws.length) (fun _ t _=>((ws.length:Int)-t).toNat) ⟨rfl,rfl,0,rfl,by omega⟩ ?_
   rintro ok t k' ⟨rfl,rfl,t2,rfl,ht2⟩
   by_cases hlt4:t2<ws.length
   ·have hlt4':(t2:Int)<((y.Waiters.len:Nat):Int):=by omega
    rw [if_pos (decide_eq_true hlt4')]
    refine Rs.get (sh:=sh_api_Waiter) hws (fun _=>rfl) (by omega) (by omega) (by omega) fun w hw=> ?_
    have hw:ws[t2]?=some w:=hw
    have e:=is2 (zdt w) (by rw [←hwm];exact List.mem_map_of_mem (List.mem_of_getElem? hw))
    have e:w.Proc=_:=e
    refine letW ?_
    rw [zak (n:=(t2:Int)+1) (by omega) (by omega)]
    exact ⟨⟨rfl,by simp [e],t2+1,by push_cast;rfl,by omega⟩,by omega⟩
   have hlt4':¬(t2:Int)<((y.Waiters.len:Nat):Int):=by omega
   rw [if_neg (fun e=>hlt4' (of_decide_eq_true e)),zak (n:=(j':Int)+1) (by omega) (by omega)]
   exact ⟨⟨rfl,rfl,j'+1,by push_cast;rfl,rfl,by omega⟩,by omega⟩
  ·have hlt2':¬(j':Int)<((x.Lanes.len:Nat):Int):=by omega
   rw [if_neg (fun e=>hlt2' (of_decide_eq_true e)),zak (n:=(i':Int)+1) (by omega) (by omega)]
   have hj2:j'=p.lanes.length:=by omega
   exact ⟨⟨rfl,rfl,i'+1,by push_cast;rfl,by rw [hsucc,hj2],by omega⟩,by omega⟩
 have hlt':¬(i':Int)<((v.Procs.len:Nat):Int):=by omega
 rw [if_neg (fun e=>hlt' (of_decide_eq_true e))]
 have hi2:i'=S.length:=by omega
 subst hi2
 rw [ztx1]
 refine LoopW3.intro (fun n ok i k'=>k'=k∧ok=true∧∃i':Nat,i=(i':Int)∧n=((S.sum+sumT T i':Nat):Int)∧i'≤T.length) (fun _ _ i _=>((T.length:Int)-i).toNat) ⟨rfl,rfl,0,rfl,rfl,by omega⟩ ?_
 rintro n ok i k' ⟨rfl,rfl,i',rfl,rfl,hi3⟩
 by_cases hlt:i'<T.length
 ·have hlt2':(i':Int)<((v.Parts.len:Nat):Int):=by omega
  rw [if_pos (decide_eq_true hlt2')]
  refine Rs.get (sh:=sh_api_Part) hys (fun _=>rfl) (by omega) (by omega) (by omega) fun x hx=> ?_
  have hx:ys[i']?=some x:=hx
  obtain ⟨p,hp1,hp2⟩:=hally.get hx
  have hTi:=hP.at_ hp1
  have hsucc:=zty1 hTi
  have hle:sumT T (i'+1)≤(T.map (· +1)).sum:=zlf1 _ _
  obtain ⟨es,hes,hem⟩:=hp2.log
  obtain ⟨qs,hqs,hallq⟩:=hp2.queues
  have ve:x.Log.len=es.length:=hes.1
  have le:es.length=p.log.length:=by rw [←hem,List.length_map]
  have vq:x.Queues.len=qs.length:=hqs.1
  have lq:=hallq.len
  obtain ⟨is1,is2⟩:=hP.logIs i' p hp1 (.inl rfl)
  rw [up_eq (n:=S.sum+sumT T i') (by omega)]
  refine LoopW2.intro (fun ok t k=>k=k'∧ok=true∧∃t':Nat,t=(t':Int)∧t'≤es.length) (fun _ t _=>((es.length:Int)-t).toNat) ⟨rfl,rfl,0,rfl,by omega⟩ ?_
  rintro ok t k ⟨rfl,rfl,t',rfl,ht⟩
  by_cases hlt3:t'<es.length
  ·have hlt3':(t':Int)<((x.Log.len:Nat):Int):=by omega
   rw [if_pos (decide_eq_true hlt3')]
   refine Rs.get (sh:=sh_api_Entry) hes (fun _=>rfl) (by omega) (by omega) (by omega) fun w hw=> ?_
   have hw:es[t']?=some w:=hw
   have e:=is1 (zmu w) (by rw [←hem];exact List.mem_map_of_mem (List.mem_of_getElem? hw))
   have e:w.Proc=_:=e
   refine letW ?_
   rw [zak (n:=(t':Int)+1) (by omega) (by omega)]
   exact ⟨⟨rfl,by simp [e],t'+1,by push_cast;rfl,by omega⟩,by omega⟩
  have hlt3':¬(t':Int)<((x.Log.len:Nat):Int):=by omega
  rw [if_neg (fun e=>hlt3' (of_decide_eq_true e))]
  refine LoopW3.intro (fun n ok j k'=>k'=k∧ok=true∧∃j':Nat,j=(j':Int)∧n=((S.sum+sumT T i'+1+j':Nat):Int)∧j'≤p.queues.length) (fun _ _ j _=>((p.queues.length:Int)-j).toNat) ⟨rfl,rfl,0,rfl,rfl,by omega⟩ ?_
  rintro n ok j k' ⟨rfl,rfl,j',rfl,rfl,hj⟩
  by_cases hlt4:j'<p.queues.length
  ·have hlt4':(j':Int)<((x.Queues.len:Nat):Int):=by omega
   rw [if_pos (decide_eq_true hlt4'),up_eq (n:=S.sum+sumT T i'+1+j') (by omega)]
   refine Rs.get (sh:=shSl) hqs (fun _=>rfl) (by omega) (by omega) (by omega) fun y hy=> ?_
   have hy:qs[j']?=some y:=hy
   obtain ⟨q,hq1,hq2⟩:=hallq.get hy
   obtain ⟨is3,is4⟩:=hP.qIs i' p j' q hp1 hq1 (.inl rfl)
   have vv:y.len=q.length:=hq2.1
   refine LoopW2.intro (fun ok t k=>k=k'∧ok=true∧∃t':Nat,t=(t':Int)∧t'≤q.length) (fun _ t _=>((q.length:Int)-t).toNat) ⟨rfl,rfl,0,rfl,by omega⟩ ?_
   rintro ok t k ⟨rfl,rfl,t2,rfl,ht2⟩
   by_cases hlt5:t2<q.length
   ·have hlt5':(t2:Int)<((y.len:Nat):Int):=by omega
    rw [if_pos (decide_eq_true hlt5')]
    refine Rs.get (sh:=shInt .i64) hq2 (fun _=>rfl) (by omega) (by omega) (by omega) fun (w:Int) hw=> ?_
    have hw:q[t2]?=some w:=hw
    have e:=is3 w (List.mem_of_getElem? hw)
    refine letW ?_
    rw [zak (n:=(t2:Int)+1) (by omega) (by omega)]
    exact ⟨⟨rfl,by simp [e],t2+1,by push_cast;rfl,by omega⟩,by omega⟩
   have hlt5':¬(t2:Int)<((y.len:Nat):Int):=by omega
   rw [if_neg (fun e=>hlt5' (of_decide_eq_true e)),zak (n:=(j':Int)+1) (by omega) (by omega)]
   exact ⟨⟨rfl,rfl,j'+1,by push_cast;rfl,rfl,by omega⟩,by omega⟩
  ·have hlt4':¬(j':Int)<((x.Queues.len:Nat):Int):=by omega
   rw [if_neg (fun e=>hlt4' (of_decide_eq_true e)),zak (n:=(i':Int)+1) (by omega) (by omega)]
   have hj2:j'=p.queues.length:=by omega
   exact ⟨⟨rfl,rfl,i'+1,by push_cast;rfl,by rw [hsucc,hj2];congr 1;omega,by omega⟩,by omega⟩
 have hlt2':¬(i':Int)<((v.Parts.len:Nat):Int):=by omega
 rw [if_neg (fun e=>hlt2' (of_decide_eq_true e))]
 exact hq
end
end Lf

namespace Lf
open Go Go.Proofs
structure SmallS (s:PState):Prop where
 procs:s.procs.length≤32
 parts:s.parts.length≤8
 lanes:∀p∈s.procs,p.lanes.length≤9∧∀l∈p.lanes,LaneS l
 lists:∀p∈s.parts,p.log.length≤1099511627776∧p.queues.length≤8∧∀q∈p.queues,q.length≤1099511627776
theorem zeb2 :SmallS stNil:=⟨by decide,by decide,fun p hp=>(by cases hp),fun p hp=>(by cases hp)⟩
theorem zec2 {c:PCfg} {s:PState} (few:Few c) (h:StateV c s):SmallS s:=by
 obtain ⟨_,a1,a2,_⟩:=h
 obtain ⟨b1,b2⟩:=ztc a1
 obtain ⟨b3,b4⟩:=ztc a2
 have f1:=few.nl
 have f2:=few.np
 have f3:=few.locks
 refine ⟨by omega,by omega,fun p hp=> ?_,fun p hp=> ?_⟩
 ·obtain ⟨_,_,_,_,_,_,_,g1,_⟩:=b4 p hp
  obtain ⟨g2,g3⟩:=ztc g1
  refine ⟨by omega,fun l hl=> ?_⟩
  obtain ⟨⟨⟨_,h1⟩,_⟩,_,⟨⟨_,h2⟩,_⟩,_⟩:=g3 l hl
  have h1:((l.values.length:Nat):Int)<256:=h1
  have h2:((l.waiters.length:Nat):Int)<256:=h2
  exact ⟨by omega,by omega⟩
 ·obtain ⟨_,⟨⟨_,h0⟩,_⟩,_,_,_,⟨xs,g1,g2,g3⟩,g4⟩:=b2 p hp
  have h0:((p.log.length:Nat):Int)<65536:=h0
  rw [List.nil_append] at g1
  have g3:=(zuc (V:=LockV (c.procs.length:Int)) xs []).1 g3
  have hq:p.queues.length=xs.length:=by rw [←g1,List.length_zip,g4];simp
  refine ⟨by omega,by omega,fun q hq=> ?_⟩
  obtain ⟨z,hz1,hz2⟩:=zrk1 g4 q hq
  rw [g1] at hz1
  obtain ⟨_,⟨⟨_,h2⟩,_⟩,_⟩:=g3 z hz1
  have h2:((z.2.length:Nat):Int)<256:=h2
  rw [←hz2]
  omega
theorem zed2 {n:Nat}:∀(l:List Nat),(∀x∈l,x≤n)→l.sum≤l.length*n
 | [],_=>by simp
 | x::l,h=>by
  have h1:=h x (List.mem_cons_self ..)
  have h2:=zed2 l fun y hy=>h y (List.mem_cons_of_mem _ hy)
  rw [List.sum_cons,List.length_cons,Nat.add_mul,Nat.one_mul]
  omega
theorem SmallS.start {s:PState} (a:SmallS s) (L:Nat):LanesT (s.procs.map fun p=>p.lanes.length) 0 0 0 s.procs∧PartsT (s.parts.map fun p=>p.queues.length) L 0 0 0 s.parts∧
  ((s.procs.map fun p=>p.lanes.length).sum≤1000000∧(s.procs.map fun p=>p.lanes.length).length≤1000000)∧(((s.parts.map fun p=>p.queues.length).map (· +1)).sum≤1000000∧(s.parts.map fun p=>p.queues.length).length≤1000000):=by
 have h1:=a.procs
 have h2:=a.parts
 refine ⟨⟨rfl,fun i' p k' q hp hq hd=> ?_,fun i' p k' q hp hq _=>(a.lanes p (List.mem_of_getElem? hp)).2 q (List.mem_of_getElem? hq)⟩,⟨rfl,fun i' p hp hd=> ?_,fun i' p hp _=>(a.lists p (List.mem_of_getElem? hp)).1,fun i' p k' q hp hq hd=> ?_,fun i' p k' q hp hq _=>(a.lists p (List.mem_of_getElem? hp)).2.2 q (List.mem_of_getElem? hq)⟩,
  ⟨?_,by rw [List.length_map];omega⟩,⟨?_,by rw [List.length_map];omega⟩⟩
 ·unfold zdi at hd;omega
 ·unfold zdi at hd;omega
 ·unfold zdi at hd;omega
 ·have:=zed2 (n:=9) (s.procs.map fun p=>p.lanes.length) fun x hx=>by
   obtain ⟨p,hp,rfl⟩:=List.mem_map.1 hx
   exact (a.lanes p hp).1
  rw [List.length_map] at this
  omega
 ·have:=zed2 (n:=9) ((s.parts.map fun p=>p.queues.length).map (· +1)) fun x hx=>by
   obtain ⟨y,hy,rfl⟩:=List.mem_map.1 hx
   obtain ⟨p,hp,rfl⟩:=List.mem_map.1 hy
   have:=(a.lists p hp).2.1
   omega
  rw [List.length_map,List.length_map] at this
  omega
theorem zwj1 {v:S_api_State} {s:PState} {h:Hp} {B:List Nat} {Q:Bool→Hp→Prop} (r:StateO v s h B) (nd:B.Nodup) (sm:SmallS s) (hq:∀h',Fr B h h'→Q true h'):zdg Tryz.prog v Q h:=by
 obtain ⟨g1,g2,g3,g4⟩:=sm.start (s.procs.map fun p=>p.lanes.length).sum
 exact zad2 r nd g1 g2 g3 g4 (fun s' h' a l p q hq=>zea2 a l p g3 g4 hq) hq
theorem zwk1 {h:Hp}:StateO st0 stNil h []:=⟨[],[],rfl,RowsO.nil,RowsO.nil,rfl⟩
set_option maxRecDepth 20000 in
theorem snapApart_ok {h:Hp} {b:Sl} {bs:List UInt8} {Q:Bool→Hp→Prop} (hB:Bs h b bs) (hcap:b.len≤b.cap) (hq:∀h',h≤h'→Q true h'):zdc Tryz.prog b Q h:=by
 unfold zdc
 refine zwf (zzw1 fun h1 l1=> ?_)
 rw [if_neg (by simp)]
 have fin:∀(h2 h3 h4:Hp) (v1 v2 v3:S_api_State) (s:PState) (B1 B2 B3:List Nat),h1≤h2→h2≤h3→h3≤h4→StateO v1 s h2 B1→B1.Nodup→(∀b∈B1,h1 b=none)→StateO v2 s h3 B2→(∀b∈B2,h2 b=none)→StateO v3 s h4 B3→(∀b∈B3,h3 b=none)→SmallS s→StLe s→
   CallT Tryz.prog zfl [v1.v] zaf (fun r13 h5=>EffC (some r13) (CallT Tryz.prog zdv [v2.v,v3.v] zaf) (fun r14 h6=>LetW (r13&&r14) fun y=>Q y h6) h5) h4:=fun h2 h3 h4 v1 v2 v3 s B1 B2 B3 l2 l3 l4 o1 nd1 fr1 o2 fr2 o3 fr3 sm sl=>by
  have l24:=Hp.le_trans l3 l4
  have o1':StateO v1 s h4 B1:=okState.same o1 (zbp l24 (okState.known o1))
  have o2':StateO v2 s h4 B2:=okState.same o2 (zbp l4 (okState.known o2))
  refine zwg (zwj1 o1' nd1 sm fun h5 f5=> ?_)
  have keep:∀ {B:List Nat},(∀b∈B,h4 b≠none)→(∀b∈B,b∉B1)→∀b∈B,h5 b=h4 b:=fun {B} hk hn b hb=>by
   cases e:h4 b with
   | none=>exact absurd e (hk b hb)
   | some o=>exact f5 b o e (hn b hb)
  have o2'':=okState.same o2' (keep (okState.known o2') fun b hb h=>okState.known o1 b h (fr2 b hb))
  have o3'':=okState.same o3 (keep (okState.known o3) fun b hb h=>by
   have:=okState.known (okState.same o1 (zbp l3 (okState.known o1))) b h
   exact this (fr3 b hb))
  have l05:h≤h5:=fun b o e=>f5 b o (l24 b o (l2 b o (l1 b o e))) fun hb=>by
   have:=fr1 b hb
   rw [l1 b o e] at this
   cases this
  refine ⟨fun _=>zmx (zto1 o2''.rd o3''.rd sl (letW ?_)),fun e=>(by cases e)⟩
  exact hq h5 l05
 refine zix (zoi (Rw.mono l1 hB) hcap (fun e p h2 l2 he hs=> ?_) fun x v c s B1 B2 h2 l2 hw h01 h02 o1 o2 nd1 fr1=> ?_)
 ·refine zix (zoi (Rw.mono (Hp.le_trans l1 l2) hB) hcap (fun e' p' h3 l3 he' hs'=> ?_) fun x' v' c' s' B1' B2' h3 l3 hw' h01' h02' _ _ _ _=>(hs.not_ok he hw' h01' h02').elim)
  refine zlg (zkk1 (Rw.mono (Hp.le_trans l1 (Hp.le_trans l2 l3)) hB) hcap (fun e'' p'' h4 l4 he'' hs''=> ?_) fun x' v' c' s' B1' B2' h4 l4 hw' h01' h02' _ _ _ _=>(hs.not_ok he hw' h01' h02').elim)
  exact fin h2 h3 h4 st0 st0 st0 stNil [] [] [] l2 l3 l4 zwk1 List.nodup_nil (fun b hb=>by cases hb) zwk1 (fun b hb=>by cases hb) zwk1 (fun b hb=>by cases hb) zeb2 zhv2
 ·refine zix (zoi (Rw.mono (Hp.le_trans l1 l2) hB) hcap (fun e' p' h3 l3 he' hs'=>(hs'.not_ok he' hw h01 h02).elim) fun x' v' c' s' B1' B2' h3 l3 hw' h01' h02' _ o2' _ fr2=> ?_)
  rw [hw] at hw'
  cases hw'
  refine zlg (zkk1 (Rw.mono (Hp.le_trans l1 (Hp.le_trans l2 l3)) hB) hcap (fun e' p' h4 l4 he' hs'=>(hs'.not_ok he' hw h01 h02).elim) fun x'' v'' c' s' B1'' B2'' h4 l4 hw'' _ _ _ o3' _ fr3=> ?_)
  rw [hw] at hw''
  cases hw''
  obtain ⟨⟨⟨hcv,hcb⟩,hsv⟩,_,_⟩:=zpr law_snap hw
  have few:=zyi1 _ (zvu c) hcv
  exact fin h2 h3 h4 v v' v'' s B2 B2' B2'' l2 l3 l4 o2 (List.nodup_append.1 nd1).2.1 (fun b hb=>fr1 b (mem_b hb)) o2' (fun b hb=>fr2 b (mem_b hb)) o3' (fun b hb=>fr3 b (mem_b hb)) (zec2 few hsv) (StateV.le few hsv)
end Lf

