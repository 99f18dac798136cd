/-
  Part 5 of the texts that the claim leans on.
-/
import Derived.Test.YtloapcmhhcbonaaGreatMgSnKeeps3
namespace Lf
open Go Go.Proofs
def zcn (x:S_api_Waiter):PWaiter:=⟨x.Proc,x.Value_⟩
def zht (x:S_api_Entry):ziy:=⟨x.Tick,x.Proc,x.Value_⟩
abbrev WaitS (h:Hp) (l:Sl) (xs:List S_api_Waiter):Prop:=Rs h sh_api_Waiter 2 l xs
abbrev EntS (h:Hp) (l:Sl) (xs:List S_api_Entry):Prop:=Rs h sh_api_Entry 3 l xs
structure LaneAt (h:Hp) (x:S_api_Lane) (p:PLane):Prop where
 values:Is h x.Values p.values
 waiters:∃ws,WaitS h x.Waiters ws∧ws.map zcn=p.waiters
 taken:x.Taken=p.taken
 dropped:x.Dropped=p.dropped
structure ProcessAt (h:Hp) (x:S_api_Process) (p:PProcess):Prop where
 state:x.State=p.state
 pc:x.PC=p.pc
 regs: [x.Regs_0,x.Regs_1,x.Regs_2,x.Regs_3,x.Regs_4,x.Regs_5,x.Regs_6,x.Regs_7]=p.regs
 cursor:x.Cursor=p.cursor
 timer:x.Timer=p.timer
 fired:x.Fired=p.fired
 wake:x.Wake=p.wake
 lanes:∃ls,Rs h sh_api_Lane 4 x.Lanes ls∧All2 (LaneAt h) ls p.lanes
structure PartAt (h:Hp) (x:S_api_Part) (p:PPart):Prop where
 cursor:x.Cursor=p.cursor
 log:∃es,EntS h x.Log es∧es.map zht=p.log
 lost:x.Lost=p.lost
 forbidden:x.Forbidden=p.forbidden
 owners:Is h x.Owners p.owners
 queues:∃qs,Rs h shSl 1 x.Queues qs∧All2 (Is h) qs p.queues
structure StateAt (h:Hp) (x:S_api_State) (p:PState):Prop where
 tick:x.Tick=p.tick
 parts:∃ps,Rs h sh_api_Part 6 x.Parts ps∧All2 (PartAt h) ps p.parts
 procs:∃ps,Rs h sh_api_Process 15 x.Procs ps∧All2 (ProcessAt h) ps p.procs
section
variable {h h':Hp}
theorem LaneAt.mono (hl:h≤h') {x:S_api_Lane} {p:PLane} (a:LaneAt h x p):LaneAt h' x p:=by
 obtain ⟨ws,h1,h2⟩:=a.waiters
 exact ⟨Rw.mono hl a.values,⟨ws,Rw.mono hl h1,h2⟩,a.taken,a.dropped⟩
theorem ProcessAt.mono (hl:h≤h') {x:S_api_Process} {p:PProcess} (a:ProcessAt h x p):ProcessAt h' x p:=by
 obtain ⟨ls,h1,h2⟩:=a.lanes
 exact ⟨a.state,a.pc,a.regs,a.cursor,a.timer,a.fired,a.wake,ls,Rw.mono hl h1,h2.imp fun _ _ e=>e.mono hl⟩
theorem PartAt.mono (hl:h≤h') {x:S_api_Part} {p:PPart} (a:PartAt h x p):PartAt h' x p:=by
 obtain ⟨es,h1,h2⟩:=a.log
 obtain ⟨qs,h3,h4⟩:=a.queues
 exact ⟨a.cursor,⟨es,Rw.mono hl h1,h2⟩,a.lost,a.forbidden,Rw.mono hl a.owners,qs,Rw.mono hl h3,h4.imp fun _ _ e=>Rw.mono hl e⟩
theorem StateAt.mono (hl:h≤h') {x:S_api_State} {p:PState} (a:StateAt h x p):StateAt h' x p:=by
 obtain ⟨ps,h1,h2⟩:=a.parts
 obtain ⟨qs,h3,h4⟩:=a.procs
 exact ⟨a.tick,⟨ps,Rw.mono hl h1,h2.imp fun _ _ e=>e.mono hl⟩,qs,Rw.mono hl h3,h4.imp fun _ _ e=>e.mono hl⟩
end
structure AskAt (h:Hp) (a:S_machine_asked) (c:PCfg) (s:PState):Prop where
 cfg:CfgAt h ⟨a.c_Labels,a.c_Table,a.c_Fuel,a.c_Lane,a.c_Locks,a.c_Log,a.c_Procs⟩ c
 st:StateAt h ⟨a.s_Tick,a.s_Parts,a.s_Procs⟩ s
 tab:∃t,a.t=some t∧Tab h t c.labels
 ok:(cfgE c).1=0
 sizes:zwl1 c s
 inU:∀x∈c.labels,InU x
theorem AskAt.mono {h h':Hp} (hl:h≤h') {a:S_machine_asked} {c:PCfg} {s:PState} (k:AskAt h a c s):AskAt h' a c s:=by
 obtain ⟨t,h1,h2⟩:=k.tab
 exact ⟨k.cfg.mono hl,k.st.mono hl,⟨t,h1,h2.mono hl⟩,k.ok,k.sizes,k.inU⟩
section
variable {h:Hp} {a:S_machine_asked} {c:PCfg} {s:PState}
theorem AskAt.bounds (k:AskAt h a c s):(1≤c.labels.length∧c.labels.length≤8)∧(0≤c.locks∧c.locks≤8)∧(0≤c.log∧c.log≤4096)∧(1≤c.lane∧c.lane≤64)∧(1≤c.procs.length∧c.procs.length≤32)∧
  ∀p∈c.procs,(0≤p.part∧p.part≤c.labels.length-1)∧p.code.length≤256∧∀x∈p.code,(zbv x p.code.length c.locks).1=0:=by
 obtain ⟨e1,e2,e3,e4,e5,e6,e7,e8,e9,e10,e11⟩:=cfgP_zero.1 k.ok
 obtain ⟨l1,l2,l3⟩:=mayP_zero.1 e1
 have:=List.length_pos_iff.2 l1
 have:=List.length_pos_iff.2 e9
 refine ⟨⟨by omega,by omega⟩,e7,e8,e6,⟨by omega,e10⟩,fun p hp=>⟨(e11 p hp).1,(zfr e7).1 (e11 p hp).2⟩⟩
theorem zxm {P:Program} {n:Int} {Q:Bool→Hp→Prop} (hq:∀b,(b=true↔Cnt n)→Q b h):zqz P n Q h:=by
 unfold zqz
 exact letW (hq _ (by simp [Cnt]))
theorem zpk1 {P:Program} {n:Int} {Q:Bool→Hp→Prop} (hq:∀b,(b=true↔n≠5∧n≠6)→Q b h):zra P n Q h:=by
 unfold zra
 exact letW (hq _ (by simp))
theorem zjd1 {P:Program} (k:AskAt h a c s) {p:Int} {i:Nat} {Q:Bool→Hp→Prop} (hq:∀b,(b=true↔ofP c p i)→Q b h):zmd P a p (i:Int) Q h:=by
 unfold zmd
 obtain ⟨ps,hps,hall⟩:=k.cfg.procs
 have hlp:a.c_Procs.len=ps.length:=hps.1
 refine letW ?_
 refine Rw.fldC hps (fun _=>rfl) (by omega) (sh:=shInt .i64) (fun q=>q.Part) (fun _=>rfl) (0:Int) (fun e=>by simp at e;omega) fun x hx=> ?_
 refine letW (hq _ ?_)
 unfold ofP
 constructor
 ·intro e
  simp only [Bool.and_eq_true,decide_eq_true_eq,beq_iff_eq] at e
  obtain ⟨q,hq1,hq2⟩:=hx (by simp;omega)
  obtain ⟨y,hy1,hy2,_⟩:=hall.get hq1
  exact ⟨e.1.1,y,hy1,by rw [←hy2,←e.2,hq2]⟩
 ·rintro ⟨h0,y,hy1,hy2⟩
  obtain ⟨q,hq1,hq2,_⟩:=hall.get' hy1
  have hlt:=(List.getElem?_eq_some_iff.1 hq1).1
  obtain ⟨q',hq1',hq2'⟩:=hx (by simp;omega)
  rw [hq1] at hq1';cases hq1'
  simp only [Bool.and_eq_true,decide_eq_true_eq,beq_iff_eq]
  exact ⟨⟨h0,by omega⟩,by rw [hq2',←hy2,←hq2]⟩
theorem zym1 {P:Program} (k:AskAt h a c s) {i:Nat} {Q:Int→Hp→Prop} (hq:Q (manyP c i:Int) h):zka P a (i:Int) Q h:=by
 unfold zka
 obtain ⟨ps,hps,hall⟩:=k.cfg.procs
 have hlp:a.c_Procs.len=ps.length:=hps.1
 have hlp2:=hall.len
 obtain ⟨-, -, -, -,b5, -⟩:=k.bounds
 have hcnt:∀j:Nat,((c.procs.take j).filter fun y=>decide (y.part=(i:Int))).length≤j:=fun j=>by
  have h1:=List.length_filter_le (fun y:PProc=>decide (y.part=(i:Int))) (c.procs.take j)
  have h2:(c.procs.take j).length≤j:=by rw [List.length_take];omega
  omega
 refine LoopW2.intro (fun n j h1=>h1=h∧0≤j∧j≤(ps.length:Int)∧n=(((c.procs.take j.toNat).filter fun y=>decide (y.part=(i:Int))).length:Int)) (fun _ j _=>(ps.length-j).toNat) ⟨rfl,by omega,by omega,rfl⟩ ?_
 rintro n j h1 ⟨rfl,h0,hj,rfl⟩
 by_cases hlt:j<(ps.length:Int)
 ·rw [if_pos (decide_eq_true (by omega))]
  refine JoinW1.intro (fun n h2=>h2=h1∧n=(((c.procs.take (j.toNat+1)).filter fun y=>decide (y.part=(i:Int))).length:Int)) ?_ ?_
  ·refine Rs.get (sh:=sh_api_Proc) hps (fun _=>rfl) (by omega) h0 hlt fun q hx=> ?_
   obtain ⟨y,hy1,hy2,_⟩:=hall.get hx
   rw [List.take_add_one,hy1,List.filter_append]
   have hc:=hcnt j.toNat
   by_cases hp:y.part=(i:Int)
   ·rw [if_pos (by rw [hy2];simpa using hp)]
    refine ⟨rfl,?_⟩
    rw [zal (by omega) (by omega)]
    simp [hp]
   ·rw [if_neg (by rw [hy2];simpa using hp)]
    refine ⟨rfl,?_⟩
    simp [hp]
  ·rintro n h2 ⟨rfl,rfl⟩
   rw [zal (by omega) (by omega)]
   refine ⟨⟨rfl,by omega,by omega,?_⟩,by omega⟩
   have:(j+1).toNat=j.toNat+1:=by omega
   rw [this]
 ·rw [if_neg (fun e=>hlt (by have:=of_decide_eq_true e;omega))]
  rw [List.take_of_length_le (by omega)]
  exact hq
theorem zkx1 {P:Program} (k:AskAt h a c s) {p:Int} {x:PProcess} {y:PProc} (h0:0≤p) (hx:s.procs[p.toNat]?=some x) (hy:c.procs[p.toNat]?=some y) {Q:S_api_Ins→Hp→Prop}
  (hq:∀n:S_api_Ins,(insP y x.pc=some (insOf n)∨(insP y x.pc=none∧n=⟨-1,0,0,0,0⟩))→Q n h):zle P a p Q h:=by
 unfold zle
 obtain ⟨ps,hps,hall⟩:=k.cfg.procs
 obtain ⟨qs,hqs,hallq⟩:=k.st.procs
 have hlp:a.c_Procs.len=ps.length:=hps.1
 have hlq:a.s_Procs.len=qs.length:=hqs.1
 obtain ⟨q,hq1,hq2,is,his,hmap⟩:=hall.get' hy
 obtain ⟨z,hz1,hz2⟩:=hallq.get' hx
 have l1:=(List.getElem?_eq_some_iff.1 hq1).1
 have l2:=(List.getElem?_eq_some_iff.1 hz1).1
 refine Rw.fld hps (fun _=>rfl) (by omega) (sh:=shSl) (fun q=>q.Code) (fun _=>rfl) h0 (by omega) fun q' hq'=> ?_
 rw [hq1] at hq';cases hq'
 refine Rw.fld hqs (fun _=>rfl) (by omega) (sh:=shInt .i64) (fun q=>q.PC) (fun _=>rfl) h0 (by omega) fun z' hz'=> ?_
 rw [hz1] at hz';cases hz'
 dsimp only
 rw [hz2.pc]
 have hil:=his.1
 have hcl:is.length=y.code.length:=by rw [←hmap,List.length_map]
 refine letW ?_
 by_cases hb:x.pc<0∨(is.length:Int)≤x.pc
 ·rw [if_pos (by simp;omega)]
  refine hq _ (.inr ⟨?_,rfl⟩)
  unfold insP
  by_cases h1:0≤x.pc
  ·rw [if_pos h1];exact List.getElem?_eq_none (by omega)
  ·rw [if_neg h1]
 ·rw [if_neg (by simp;omega)]
  refine Rs.get (sh:=sh_api_Ins) his (fun _=>rfl) (by omega) (by omega) (by omega) fun n hn=> ?_
  refine hq n (.inl ?_)
  unfold insP
  rw [if_pos (by omega),←hmap,List.getElem?_map,hn]
  rfl
theorem zje1 (k:AskAt h a c s) {p:Int} {x:PProcess} {y:PProc} (h0:0≤p) (hx:s.procs[p.toNat]?=some x) (hy:c.procs[p.toNat]?=some y) {Q:Int→Hp→Prop}
  (hq:∀n:Int,(∀m,0≤m→(n=m↔∃z,insP y x.pc=some z∧z.op=m))→Q n h):zme Tryz.prog a p Q h:=by
 unfold zme
 refine zhs (zkx1 k h0 hx hy fun n hn=>hq _ fun m hm=> ?_)
 rcases hn with hn | ⟨hn,rfl⟩
 ·rw [hn]
  constructor
  ·intro e;exact ⟨_,rfl,e⟩
  ·rintro ⟨z,e,e2⟩;cases e;exact e2
 ·rw [hn]
  constructor
  ·intro e
   have e:(-1:Int)=m:=e
   omega
  ·rintro ⟨z,e,_⟩;cases e
end
end Lf

namespace Lf
open Go Go.Proofs
theorem effI {α:Type} {c:Bool} {A:(α→Hp→Prop)→Hp→Prop} {K:α→Hp→Prop} {h:Hp} (p:α→Prop) (x0:α) (hA:c=true→(∀x,p x→K x h)→A K h) (hk:∀x,(c=true→p x)→K x h):EffC (some c) A K h:=
 ⟨fun hc=>hA hc fun x hp=>hk x fun _=>hp,fun hc=>⟨x0,hk x0 fun e=>by rw [hc] at e;cases e⟩⟩
theorem ldC {sh:Shape} {c:Bool} {h:Hp} {a:Addr} {K:sh.T→Prop} (x:sh.T) (hl:LdIs h a (zad (sh.enc x))) (hk:K x):LdW (some c) sh h a K:=⟨x,fun _=>hl,hk⟩
theorem newB {h:Hp} {cs:List Value} {K:Addr→Hp→Prop} (hk:∀b h',h≤h'→Blk h' b cs→K ⟨b,0,none⟩ h'):NewW cs K h:=fun b t hn=>hk b _ (zny hn) ⟨t,zid⟩
def zbo2 (a:S_machine_asked):List Value:=[a.c_Labels.v,a.c_Table.v,(.int .i64 a.c_Fuel),(.int .i64 a.c_Lane),(.int .i64 a.c_Locks),(.int .i64 a.c_Log),a.c_Procs.v,(.int .i64 a.s_Tick),a.s_Parts.v,a.s_Procs.v,(.pointer a.t)]
section
variable {h:Hp} {a:S_machine_asked} {c:PCfg} {s:PState}
theorem zug1 (k:AskAt h a c s) {i:Nat} {p:Int} {a1 a2:Addr} {Q:Bool→Hp→Prop} (l1:LdIs h a1 (zbo2 a)) (l2:LdIs h a2 [.int .i64 (i:Int)])
  (hq:∀b,(b=true↔¬(p≠ -1→ofP c p i∧stP s p fun z=>z.state≠5∧z.state≠6))→Q b h):zhl Tryz.prog p a1 a2 Q h:=by
 unfold zhl
 refine ldC (sh:=sh_machine_asked) a l1 (ldC (sh:=shInt .i64) (i:Int) l2 ?_)
 refine effI (fun b=>b=true↔ofP c p i) false (fun _ hk=>zes (zjd1 k hk)) fun r hr=> ?_
 obtain ⟨qs,hqs,hallq⟩:=k.st.procs
 have hlen:s.procs.length=c.procs.length:=k.sizes.2.2
 have hlq:=hallq.len
 have hin:((p !=(-1:Int))&&(!(!r)))=true→0≤p∧p<(qs.length:Int):=fun e=>by
  simp at e
  obtain ⟨h0,y,hy,_⟩:=(hr (by simpa using e.1)).1 e.2
  have:=(List.getElem?_eq_some_iff.1 hy).1
  omega
 refine ldC (sh:=shSl) a.s_Procs (fun j v hv=> ?_) ?_
 ·cases j with
  | zero=>exact l1 9 v (by simpa [zbo2,zad,shSl,Sl.v] using hv)
  | succ j=>simp [zad,shSl,Sl.v] at hv
 refine Rw.fldC hqs (fun _=>rfl) (by omega) (sh:=shInt .i64) (fun q=>q.State) (fun _=>rfl) (0:Int) hin fun x hx=> ?_
 refine effI (fun b=>b=true↔x≠5∧x≠6) false (fun _ hk=>zmp (zpk1 hk)) fun r1 hr1=> ?_
 refine letW (letW (hq _ ?_))
 by_cases hp:p= -1
 ·subst hp;simp
 ·have hr:=hr (by simpa using hp)
  have hp':(p !=(-1:Int))=true:=by simpa using hp
  rw [hp',Bool.true_and]
  rw [hp'] at hin hx hr1
  cases hrb:r with
  | false=>
   rw [hrb] at hr
   simp only [Bool.not_false,Bool.true_or,true_iff]
   intro hh
   exact absurd (hr.2 (hh hp).1) (by simp)
  | true=>
   rw [hrb] at hr hin hx hr1
   have hr1:=hr1 rfl
   obtain ⟨z,hz,hzx⟩:=hx rfl
   obtain ⟨z',hz1,hz2⟩:=hallq.get hz
   have ho:=hr.1 rfl
   simp only [Bool.not_true,Bool.false_or,Bool.not_eq_true']
   rw [←Bool.not_eq_true,hr1,hzx,hz2.state]
   constructor
   ·intro hn hh
    obtain ⟨_,z2,hz3,hz4⟩:=hh hp
    rw [hz1] at hz3;cases hz3
    exact hn hz4
   ·intro hn hh
    exact hn fun _=>⟨ho,z',hz1,hh⟩
open Classical in
theorem zyn1 (k:AskAt h a c s) {i:Nat} {x:PPart} (hx:s.parts[i]?=some x) {Q:Bool→Hp→Prop} (hq:∀b h',h≤h'→(b=true↔PartG c s i x)→Q b h'):zju Tryz.prog a (i:Int) Q h:=by
 unfold zju
 refine newB (cs:=zbo2 a) fun b h1 hle1 hB0=>newB (cs:=[Value.int .i64 (i:Int)]) fun b' h2 hle2 hB2'=> ?_
 have hB1:=hB0.le hle2
 have hB2:LdIs h2 ⟨b',0,none⟩ [Value.int .i64 (i:Int)]:=hB2'.ldIs (off:=0) (n:=1) rfl
 have hle:=Hp.le_trans hle1 hle2
 have k2:=k.mono hle
 obtain ⟨ps,hps,hall⟩:=k2.st.parts
 obtain ⟨y,hy1,hy2⟩:=hall.get' hx
 have hyl:=(List.getElem?_eq_some_iff.1 hy1).1
 obtain ⟨-,⟨hL0,hL8⟩,⟨hG0,hG1⟩, -,⟨hP1,hP32⟩, -⟩:=k.bounds
 obtain ⟨es,hes,hmap⟩:=hy2.log
 have hel:y.Log.len=es.length:=hes.1
 have hol:y.Owners.len=x.owners.length:=hy2.owners.1
 obtain ⟨qs,hqs,hallQ⟩:=hy2.queues
 have hql:y.Queues.len=qs.length:=hqs.1
 have hql2:=hallQ.len
 have hxl:x.log.length=es.length:=by rw [←hmap,List.length_map]
 have hfl:a.c_Log=c.log:=k.cfg.log
 have hfk:a.c_Locks=c.locks:=k.cfg.locks
 have htk:a.s_Tick=s.tick:=k.st.tick
 have lA:LdIs h2 ⟨b,0,none⟩ (zad (sh_machine_asked.enc a)):=hB1.ldIs (off:=0) (n:=11) rfl
 have lLog:∀h':Hp,h2≤h'→LdIs h' ((Addr.add (Addr.add ⟨b,0,none⟩ 0) 5)) (zad ((shInt .i64).enc a.c_Log)):=fun h' hl=>zev hl (hB1.ldIs (off:=5) (n:=1) rfl)
 have lLocks:∀h':Hp,h2≤h'→LdIs h' ((Addr.add (Addr.add ⟨b,0,none⟩ 0) 4)) (zad ((shInt .i64).enc a.c_Locks)):=fun h' hl=>zev hl (hB1.ldIs (off:=4) (n:=1) rfl)
 have lTick:LdIs h2 ((Addr.add (Addr.add ⟨b,0,none⟩ 7) 0)) (zad ((shInt .i64).enc a.s_Tick)):=hB1.ldIs (off:=7) (n:=1) rfl
 refine ld_at (sh:=shSl) a.s_Parts (hB1.ldIs (off:=8) (n:=1) rfl) ?_
 refine ld_at (sh:=shInt .i64) (i:Int) hB2 ?_
 refine Rs.get (sh:=sh_api_Part) hps (fun _=>rfl) (by omega) (by omega) (by omega) fun y' hy'=> ?_
 have hy':ps[i]?=some y':=hy'
 rw [hy1] at hy';cases hy'
 refine ldC (sh:=sh_machine_asked) a lA (ldC (sh:=shInt .i64) (i:Int) hB2 ?_)
 refine effI (fun n=>n=(manyP c i:Int)) 0 (fun _ hk=>zwz (zym1 k2 (hk _ rfl))) fun (r:Int) hr=> ?_
 refine ⟨⟨trivial,trivial⟩,letW (letW (ldC (sh:=shInt .i64) a.c_Log (lLog _ (Hp.le_refl _)) (letW ?_)))⟩
 rw [hy2.cursor] at hr ⊢
 have hC:(((decide (x.cursor<(0:Int))) || ((decide (x.cursor>(0:Int)))&&(decide (x.cursor≥r)))) || (decide (((y.Log.len:Nat):Int)>a.c_Log)))=true↔¬(0≤x.cursor∧(0<x.cursor→x.cursor<manyP c i)∧(x.log.length:Int)≤c.log):=by
  simp only [Bool.or_eq_true,Bool.and_eq_true,decide_eq_true_eq]
  rw [hel,hxl,hfl]
  by_cases hc:0<x.cursor
  ·have hr:r=(manyP c i:Int):=hr (by simp;omega)
   omega
  ·omega
 by_cases hc:0≤x.cursor∧(0<x.cursor→x.cursor<manyP c i)∧(x.log.length:Int)≤c.log
 ·rw [if_neg (fun e=>hC.1 e hc)]
  have hC3:=hc.2.2
  refine LoopW2.intro (fun last j h'=>h'=h2∧0≤j∧j≤(es.length:Int)∧(LogG c s i 0 x.log↔LogG c s i last (x.log.drop j.toNat))) (fun _ j _=>(es.length-j).toNat) ⟨rfl,by omega,by omega,by simp⟩ ?_
  rintro last j h4 ⟨rfl,h0,hj,hI⟩
  by_cases hlt:j<(es.length:Int)
  ·rw [if_pos (decide_eq_true (by omega))]
   refine Rs.get (sh:=sh_api_Entry) hes (fun _=>rfl) (by omega) h0 hlt fun e he=> ?_
   have hd:x.log.drop j.toNat=zht e::x.log.drop (j.toNat+1):=by
    have h1:j.toNat<x.log.length:=by omega
    rw [List.drop_eq_getElem_cons h1]
    congr 1
    have:x.log[j.toNat]?=some (zht e):=by rw [←hmap,List.getElem?_map,he];rfl
    rw [List.getElem?_eq_getElem h1] at this
    exact Option.some.inj this
   rw [hd] at hI
   refine ldC (sh:=shInt .i64) a.s_Tick lTick (letW (ldC (sh:=sh_machine_asked) a lA (ldC (sh:=shInt .i64) (i:Int) hB2 ?_)))
   refine effI (fun b=>b=true↔ofP c e.Proc i) false (fun _ hk=>zes (zjd1 k2 hk)) fun r1 hr1=>letW ?_
   rw [htk] at hr1 ⊢
   by_cases ht:last≤e.Tick∧e.Tick<s.tick
   ·have ht':((decide (e.Tick<last)) || (decide (e.Tick≥s.tick)))=false:=by simp;omega
    rw [ht'] at hr1 ⊢
    have hr1:=hr1 rfl
    cases r1 with
    | true=>
     rw [if_neg (by simp),zal (by omega) (by omega)]
     refine ⟨⟨rfl,by omega,by omega,?_⟩,by omega⟩
     have:(j+1).toNat=j.toNat+1:=by omega
     rw [this,hI]
     exact ⟨fun hh=>hh.2.2.2,fun hh=>⟨ht.1,ht.2,hr1.1 rfl,hh⟩⟩
    | false=>
     rw [if_pos (by simp)]
     refine hq _ _ hle ⟨fun e=>(by cases e),fun hh=> ?_⟩
     exact absurd (hr1.2 (hI.1 hh.2.1).2.2.1) (by simp)
   ·rw [if_pos (by simp;omega)]
    refine hq _ _ hle ⟨fun e=>(by cases e),fun hh=> ?_⟩
    have:=hI.1 hh.2.1
    exact absurd ⟨this.1,this.2.1⟩ ht
  ·rw [if_neg (fun e=>hlt (by have:=of_decide_eq_true e;omega))]
   have hnil:x.log.drop j.toNat=[]:=List.drop_eq_nil_iff.2 (by omega)
   rw [hnil] at hI
   have hlog:LogG c s i 0 x.log:=hI.2 trivial
   refine zic (zxm fun r1 hr1=> ?_)
   refine effI (fun b=>b=true↔Cnt y.Forbidden) false (fun _ hk=>zic (zxm hk)) fun r2 hr2=>letW ?_
   refine ldC (sh:=shInt .i64) a.c_Log (lLog _ (Hp.le_refl _)) (letW (letW (ldC (sh:=shInt .i64) a.c_Locks (lLocks _ (Hp.le_refl _)) (letW (ldC (sh:=shInt .i64) a.c_Locks (lLocks _ (Hp.le_refl _)) (letW ?_))))))
   rw [hy2.lost] at hr1 ⊢
   rw [hy2.forbidden] at hr2
   rw [hfl,hfk]
   by_cases hM:Cnt x.lost∧Cnt x.forbidden∧(0<x.lost→c.log≤x.log.length)∧(x.owners.length:Int)=c.locks∧(x.queues.length:Int)=c.locks
   ·have e1:r1=true:=hr1.2 hM.1
    have e2:r2=true:=(hr2 (by simp [e1])).2 hM.2.1
    have h3:=hM.2.2
    rw [if_neg (by simp [e1,e2];omega)]
    refine znf (f:=⟨zed, #[], #[.pointer (some ⟨b,0,none⟩),.pointer (some ⟨b',0,none⟩)]⟩) ?_
    unfold zgu
    refine zgx (f:=⟨zed, #[], #[.pointer (some ⟨b,0,none⟩),.pointer (some ⟨b',0,none⟩)]⟩) (zii1 (p:=fun p=>decide (¬(p≠ -1→ofP c p i∧stP s p fun z=>z.state≠5∧z.state≠6))) hy2.owners (by omega) (fun z _ kk K hk hK=> ?_) fun n h' hle' hi=> ?_)
    ·refine zmw (g:=zed) rfl (zto ?_)
     refine zug1 (k2.mono hk) (i:=i) (zev hk lA) (zev hk hB2) fun b hb=> ?_
     have:b=decide (¬(z≠ -1→ofP c z i∧stP s z fun z=>z.state≠5∧z.state≠6)):=by
      rw [Bool.eq_iff_iff,hb,decide_eq_true_eq]
     rw [this]
     exact hK kk hk
    ·refine hq _ h' (Hp.le_trans hle hle') ?_
     have hb:(!(decide (n≥0)))=true↔¬(0≤n):=by simp
     refine Iff.trans hb ?_
     rw [hi,List.any_eq_true]
     constructor
     ·intro hh
      refine ⟨hc,hlog,hM.1,hM.2.1,hM.2.2.1,hM.2.2.2.1,hM.2.2.2.2,fun p hp=> ?_⟩
      exact Classical.byContradiction fun hcc=>hh ⟨p,hp,decide_eq_true hcc⟩
     ·rintro hh ⟨p,hp,hd⟩
      exact (of_decide_eq_true hd) (hh.2.2.2.2.2.2.2 p hp)
   ·rw [if_pos ?_]
    ·refine hq _ _ hle ⟨fun e=>(by cases e),fun hh=> ?_⟩
     exact absurd ⟨hh.2.2.1,hh.2.2.2.1,hh.2.2.2.2.1,hh.2.2.2.2.2.1,hh.2.2.2.2.2.2.1⟩ hM
    ·refine Classical.byContradiction fun hcc=>hM ?_
     simp only [Bool.or_eq_true,Bool.and_eq_true,Bool.not_eq_true',decide_eq_true_eq,bne_iff_ne,ne_eq,not_or,not_and] at hcc
     obtain ⟨⟨⟨⟨h1,h2⟩,h3⟩,h4⟩,h5⟩:=hcc
     have e1:r1=true:=by simpa using h1
     have e2:r2=true:=by simpa using h2
     refine ⟨hr1.1 e1,(hr2 (by simp [e1])).1 e2,fun hl=> ?_,?_,?_⟩
     ·have:=h3 hl;omega
     ·have:=Classical.not_not.1 h4;omega
     ·have:=Classical.not_not.1 h5;omega
 ·rw [if_pos (hC.2 hc)]
  exact hq _ _ hle ⟨fun e=>(by cases e),fun hh=>absurd hh.1 hc⟩
end
end Lf

namespace Lf
open Go Go.Proofs
def LaneG (c:PCfg) (part:Int) (i:Nat) (l:PLane):Prop:=(l.values.length:Int)≤c.lane∧Cnt l.taken∧Cnt l.dropped∧(Used l→i<c.labels.length→fl c.labels (i:Int) part=true)
section
variable {h:Hp} {a:S_machine_asked} {c:PCfg} {s:PState}
theorem zyo1 (k:AskAt h a c s) {p:Nat} {x:PProcess} {y:PProc} (hx:s.procs[p]?=some x) (hy:c.procs[p]?=some y) {Q:Bool→Hp→Prop}
  (hq:∀b,(b=true↔ProcG c s (fun (i:Nat) q=>fl c.labels (i:Int) q=true) x y)→Q b h):zjv Tryz.prog a (p:Int) Q h:=by
 unfold zjv
 obtain ⟨ps,hps,hall⟩:=k.cfg.procs
 obtain ⟨qs,hqs,hallq⟩:=k.st.procs
 obtain ⟨⟨hL0,hL8⟩, -, -,⟨hA1,hA64⟩,⟨hP1,hP32⟩, -⟩:=k.bounds
 obtain ⟨⟨hT0,hT1⟩, -, -⟩:=k.sizes
 obtain ⟨q,hq1,hq2,is,his,hmap⟩:=hall.get' hy
 obtain ⟨z,hz1,hz2⟩:=hallq.get' hx
 have l1:=(List.getElem?_eq_some_iff.1 hq1).1
 have l2:=(List.getElem?_eq_some_iff.1 hz1).1
 obtain ⟨ls,hls,hallL⟩:=hz2.lanes
 have hll:z.Lanes.len=ls.length:=hls.1
 have hll2:=hallL.len
 have hlab:a.c_Labels.len=c.labels.length:=k.cfg.labels.1
 have hcl:q.Code.len=y.code.length:=by rw [←hmap,List.length_map];exact his.1
 have htk:a.s_Tick=s.tick:=k.st.tick
 have hla:a.c_Lane=c.lane:=k.cfg.lane
 obtain ⟨t,ht1,ht2⟩:=k.tab
 refine Rs.get (sh:=sh_api_Process) hqs (fun _=>rfl) (by omega) (by omega) (by omega) fun z' hz'=> ?_
 have hz':qs[p]?=some z':=hz'
 rw [hz1] at hz';cases hz'
 have hread:=Rs.get (sh:=sh_api_Proc) hps (fun _=>rfl) (by omega) (i:=(p:Int)) (by omega) (by omega) (K:=fun v=>v=q) fun q' hq'=>by
  have hq':ps[p]?=some q':=hq'
  rw [hq1] at hq';exact (Option.some.inj hq').symm
 obtain ⟨hin,v,hv,rfl⟩:=hread
 refine ⟨hin,v,hv,?_⟩
 have hC1q:¬((0≤x.state∧x.state≤6)∧(0≤x.pc∧x.pc≤y.code.length)∧x.lanes.length=c.labels.length+1∧(0≤x.cursor∧x.cursor<x.lanes.length))→Q false h:=fun hn=>hq _ ⟨fun e=>(by cases e),fun hh=>absurd ⟨hh.1,hh.2.1,hh.2.2.1,hh.2.2.2.1⟩ hn⟩
 refine ⟨⟨trivial,hv,trivial⟩,?_⟩
 refine JoinW1.intro (fun t h'=>h'=h∧(t=true↔¬((0≤x.state∧x.state≤6)∧(0≤x.pc∧x.pc≤y.code.length)∧x.lanes.length=c.labels.length+1∧(0≤x.cursor∧x.cursor<x.lanes.length)))) ?_ ?_
 ·refine letW ?_
  rw [hz2.state]
  by_cases hb:0≤x.state∧x.state≤6
  ·rw [if_neg (by simp;omega)]
   refine letW ?_
   rw [hz2.pc,hcl]
   by_cases hb2:0≤x.pc∧x.pc≤y.code.length
   ·rw [if_neg (by simp;omega)]
    rw [hlab,zal (by omega) (by omega),hll,hll2]
    by_cases hb3:x.lanes.length=c.labels.length+1
    ·rw [if_neg (by simp;omega)]
     refine letW ⟨rfl,?_⟩
     rw [hz2.cursor]
     simp only [Bool.or_eq_true,decide_eq_true_eq]
     constructor
     ·intro e hh;omega
     ·intro hn
      refine Classical.byContradiction fun hcc=>hn ⟨hb,hb2,hb3,by omega⟩
    ·rw [if_pos (by simp;omega)]
     exact ⟨rfl,⟨fun _ hh=>hb3 hh.2.2.1,fun _=>by simp;omega⟩⟩
   ·rw [if_pos (by simp;omega)]
    exact ⟨rfl,⟨fun _ hh=>hb2 hh.2.1,fun _=>by simp;omega⟩⟩
  ·rw [if_pos (by simp;omega)]
   exact ⟨rfl,⟨fun _ hh=>hb hh.1,fun _=>by simp;omega⟩⟩
 ·rintro t0 h1 ⟨rfl,ht0⟩
  by_cases hc1:t0=true
  ·rw [if_pos hc1]
   exact hC1q (ht0.1 hc1)
  rw [if_neg hc1]
  have hC1:=Classical.not_not.1 fun hn=>hc1 (ht0.2 hn)
  refine JoinW1.intro (fun t h'=>h'=h1∧(t=true↔¬((0≤x.timer∧x.timer≤s.tick+1099511627776)∧(0≤x.wake∧x.wake≤s.tick+1099511627776)∧(0<x.wake↔x.state=4)))) ?_ ?_
  ·refine letW ?_
   rw [hz2.timer,hz2.wake,hz2.state,htk,zal (by omega) (by omega)]
   by_cases hb:0≤x.timer∧x.timer≤s.tick+1099511627776
   ·rw [if_neg (by simp;omega)]
    refine letW ?_
    by_cases hb2:0≤x.wake∧x.wake≤s.tick+1099511627776
    ·rw [if_neg (by simp;omega)]
     refine ⟨rfl,?_⟩
     by_cases hw:0<x.wake<;>by_cases hs:x.state=4<;>simp [hw,hs,hb,hb2]
    ·rw [if_pos (by simp;omega)]
     exact ⟨rfl,⟨fun _ hh=>hb2 hh.2.1,fun _=>by simp;omega⟩⟩
   ·rw [if_pos (by simp;omega)]
    exact ⟨rfl,⟨fun _ hh=>hb hh.1,fun _=>by simp;omega⟩⟩
  ·rintro t2 h2 ⟨rfl,ht2'⟩
   by_cases hc2:t2=true
   ·rw [if_pos hc2]
    exact hq _ ⟨fun e=>(by cases e),fun hh=>absurd ⟨hh.2.2.2.2.1,hh.2.2.2.2.2.1,hh.2.2.2.2.2.2.1⟩ (ht2'.1 hc2)⟩
   rw [if_neg hc2]
   have hC2:=Classical.not_not.1 fun hn=>hc2 (ht2'.2 hn)
   refine zmp (zpk1 fun r hr=> ?_)
   refine letW (letW ?_)
   rw [hz2.state] at hr
   rw [hz2.timer,hz2.fired]
   have hC3i:((!r)&&((x.timer !=(0:Int)) || x.fired))=true↔¬(x.state=5∨x.state=6→x.timer=0∧x.fired=false):=by
    have hr':r=false↔(x.state=5∨x.state=6):=by
     rw [←Bool.not_eq_true,hr];omega
    simp only [Bool.and_eq_true,Bool.not_eq_true',Bool.or_eq_true,bne_iff_ne,ne_eq]
    rw [hr']
    cases x.fired<;>simp<;>omega
   by_cases hC3:x.state=5∨x.state=6→x.timer=0∧x.fired=false
   ·rw [if_neg (fun e=>hC3i.1 e hC3)]
    refine LoopW2.intro (fun some_ j h'=>h'=h2∧0≤j∧j≤(ls.length:Int)∧(∀(i:Nat) l,(i:Int)<j→x.lanes[i]?=some l→LaneG c y.part i l)∧(some_=true↔∃(i:Nat) (l:PLane),(i:Int)<j∧x.lanes[i]?=some l∧l.values≠ [])) (fun _ j _=>(ls.length-j).toNat)
     ⟨rfl,by omega,by omega,fun i l hi=>by omega,⟨fun e=>(by cases e),fun ⟨i,l,hi,_⟩=>by omega⟩⟩ ?_
    rintro some_ j h4 ⟨rfl,h0,hj,hI,hS⟩
    by_cases hlt:j<(ls.length:Int)
    ·rw [if_pos (decide_eq_true (by omega))]
     refine Rs.get (sh:=sh_api_Lane) hls (fun _=>rfl) (by omega) h0 hlt fun L hL=> ?_
     obtain ⟨l,hl1,hl2⟩:=hallL.get hL
     have hvl:L.Values.len=l.values.length:=hl2.values.1
     refine letW (letW ?_)
     rw [hvl,hl2.taken,hl2.dropped,hla,hlab]
     refine effI (fun b=>b=true↔Cnt l.taken) false (fun _ hk=>zic (zxm hk)) fun r1 hr1=>letW ?_
     refine effI (fun b=>b=true↔Cnt l.dropped) false (fun _ hk=>zic (zxm hk)) fun r2 hr2=>letW (letW ?_)
     refine effI (fun b=>b=fl c.labels j y.part) false (fun _ hk=> ?_) fun r3 hr3=>letW (letW ?_)
     ·rw [ht1,hq2]
      exact zyz (zub1 ht2 k.inU (hk _ rfl))
     have hjn:((j.toNat:Nat):Int)=j:=by omega
     have hu:((decide (((l.values.length:Nat):Int)>0) || decide (l.taken>0)) || decide (l.dropped>0))=true↔Used l:=by
      unfold Used
      simp only [Bool.or_eq_true,decide_eq_true_eq,ne_eq,←List.length_eq_zero_iff]
      constructor
      ·rintro ((e | e) | e)
       ·exact .inl (by omega)
       ·exact .inr (.inl e)
       ·exact .inr (.inr e)
      ·rintro (e | e | e)
       ·exact .inl (.inl (by omega))
       ·exact .inl (.inr e)
       ·exact .inr e
     have hy8:(((decide (((l.values.length:Nat):Int)>c.lane) || !r1) || !r2) || ((((decide (((l.values.length:Nat):Int)>0) || decide (l.taken>0)) || decide (l.dropped>0))&&decide (j<((c.labels.length:Nat):Int)))&& !r3))=true↔¬LaneG c y.part j.toNat l:=by
      generalize ((decide (((l.values.length:Nat):Int)>0) || decide (l.taken>0)) || decide (l.dropped>0))=u at hu hr3 ⊢
      by_cases g1:((l.values.length:Nat):Int)≤c.lane
      ·have e1:decide (((l.values.length:Nat):Int)>c.lane)=false:=by simp;omega
       rw [e1] at hr1 hr2 hr3 ⊢
       have hr1:=hr1 rfl
       by_cases g2:Cnt l.taken
       ·have e2:=hr1.2 g2
        rw [e2] at hr2 hr3 ⊢
        have hr2:=hr2 rfl
        by_cases g3:Cnt l.dropped
        ·have e3:=hr2.2 g3
         rw [e3] at hr3 ⊢
         simp only [Bool.false_or,Bool.not_true,Bool.or_false,Bool.not_false,Bool.true_and] at hr3 ⊢
         by_cases g4:u=true∧j<(c.labels.length:Int)
         ·have e4:(u&&decide (j<((c.labels.length:Nat):Int)))=true:=by rw [g4.1,Bool.true_and];exact decide_eq_true g4.2
          rw [hr3 e4,e4,Bool.true_and,Bool.not_eq_true',←Bool.not_eq_true]
          refine not_congr ⟨fun e=>⟨g1,g2,g3,fun _ _=>by rw [hjn];exact e⟩,fun hh=> ?_⟩
          have:=hh.2.2.2 (hu.1 g4.1) (by omega)
          rw [hjn] at this
          exact this
         ·have e4:(u&&decide (j<((c.labels.length:Nat):Int)))=false:=by
           rw [←Bool.not_eq_true]
           intro e
           rw [Bool.and_eq_true,decide_eq_true_eq] at e
           exact g4 e
          rw [e4]
          refine ⟨fun e=>(by cases e),fun hn=>absurd ⟨g1,g2,g3,fun hU hl=> ?_⟩ hn⟩
          exact absurd ⟨hu.2 hU,by omega⟩ g4
        ·have e3:r2=false:=by rw [←Bool.not_eq_true,hr2];exact g3
         rw [e3]
         exact ⟨fun _ hh=>g3 hh.2.2.1,fun _=>by simp⟩
       ·have e2:r1=false:=by rw [←Bool.not_eq_true,hr1];exact g2
        rw [e2]
        exact ⟨fun _ hh=>g2 hh.2.1,fun _=>by simp⟩
      ·have e1:decide (((l.values.length:Nat):Int)>c.lane)=true:=decide_eq_true (by omega)
       rw [e1]
       exact ⟨fun _ hh=>g1 hh.1,fun _=>by simp⟩
     by_cases hg:LaneG c y.part j.toNat l
     ·rw [if_neg (fun e=>hy8.1 e hg)]
      rw [zal (by omega) (by omega)]
      refine letW ⟨⟨rfl,by omega,by omega,fun i l' hi hl'=> ?_,?_⟩,by omega⟩
      ·by_cases hij:(i:Int)<j
       ·exact hI i l' hij hl'
       ·have:i=j.toNat:=by omega
        subst this
        rw [hl1] at hl';cases hl'
        exact hg
      ·rw [Bool.or_eq_true,hS,decide_eq_true_eq]
       constructor
       ·rintro (⟨i,l',h1,h2⟩ | hh)
        ·exact ⟨i,l',by omega,h2⟩
        ·exact ⟨j.toNat,l,by omega,hl1,fun e=>by rw [e] at hh;simp at hh⟩
       ·rintro ⟨i,l',h1,h2,h3⟩
        by_cases hij:(i:Int)<j
        ·exact .inl ⟨i,l',hij,h2,h3⟩
        ·have:i=j.toNat:=by omega
         subst this
         rw [hl1] at h2;cases h2
         have:=List.length_pos_iff.2 h3
         exact .inr (by omega)
     ·rw [if_pos (hy8.2 hg)]
      refine hq _ ⟨fun e=>(by cases e),fun hh=>absurd ?_ hg⟩
      exact hh.2.2.2.2.2.2.2.2.1 j.toNat l hl1
    ·rw [if_neg (fun e=>hlt (by have:=of_decide_eq_true e;omega))]
     have hlanes:∀(i:Nat) l,x.lanes[i]?=some l→LaneG c y.part i l:=fun i l hl=>hI i l (by have:=(List.getElem?_eq_some_iff.1 hl).1;omega) hl
     have hsome:some_=false↔∀l∈x.lanes,l.values=[]:=by
      rw [←Bool.not_eq_true,hS]
      constructor
      ·intro hn l hl
       obtain ⟨i,hi⟩:=List.getElem?_of_mem hl
       exact Classical.byContradiction fun hne=>hn ⟨i,l,by have:=(List.getElem?_eq_some_iff.1 hi).1;omega,hi,hne⟩
      ·rintro hh ⟨i,l,_,hl,hne⟩
       exact hne (hh l (List.mem_of_getElem? hl))
     have hP:ProcG c s (fun (i:Nat) q=>fl c.labels (i:Int) q=true) x y↔((x.state=1→(∃n,insP y x.pc=some n∧n.op=25)∧(∀l∈x.lanes,l.values=[])∧x.fired=false)∧
       (x.state=2→∃n,insP y x.pc=some n∧n.op=24)∧(x.state=3→∃n,insP y x.pc=some n∧n.op=29)∧(x.state=4→∃n,insP y x.pc=some n∧n.op=28)):=
      ⟨fun hh=>⟨hh.2.2.2.2.2.2.2.2.2.1,hh.2.2.2.2.2.2.2.2.2.2⟩,fun hh=>⟨hC1.1,hC1.2.1,hC1.2.2.1,hC1.2.2.2,hC2.1,hC2.2.1,hC2.2.2,hC3,hlanes,hh.1,hh.2⟩⟩
     rw [hz2.state]
     by_cases s1:x.state=1
     ·rw [if_pos (by simpa using s1)]
      refine zet (zje1 k (p:=(p:Int)) (by omega) hx hy fun n hn=>letW (letW (hq _ ?_)))
      rw [hP,Bool.and_eq_true,Bool.and_eq_true,beq_iff_eq,hn 25 (by omega),Bool.not_eq_true',hsome,Bool.not_eq_true']
      constructor
      ·intro hh
       exact ⟨fun _=>⟨hh.1.1,hh.1.2,hh.2⟩,fun e=>by omega,fun e=>by omega,fun e=>by omega⟩
      ·intro hh
       exact ⟨⟨(hh.1 s1).1,(hh.1 s1).2.1⟩,(hh.1 s1).2.2⟩
     rw [if_neg (by simpa using s1)]
     by_cases s2:x.state=2
     ·rw [if_pos (by simpa using s2)]
      refine zet (zje1 k (p:=(p:Int)) (by omega) hx hy fun n hn=>hq _ ?_)
      rw [hP,beq_iff_eq,hn 24 (by omega)]
      exact ⟨fun hh=>⟨fun e=>by omega,fun _=>hh,fun e=>by omega,fun e=>by omega⟩,fun hh=>hh.2.1 s2⟩
     rw [if_neg (by simpa using s2)]
     by_cases s3:x.state=3
     ·rw [if_pos (by simpa using s3)]
      refine zet (zje1 k (p:=(p:Int)) (by omega) hx hy fun n hn=>hq _ ?_)
      rw [hP,beq_iff_eq,hn 29 (by omega)]
      exact ⟨fun hh=>⟨fun e=>by omega,fun e=>by omega,fun _=>hh,fun e=>by omega⟩,fun hh=>hh.2.2.1 s3⟩
     rw [if_neg (by simpa using s3)]
     by_cases s4:x.state=4
     ·rw [if_pos (by simpa using s4)]
      refine zet (zje1 k (p:=(p:Int)) (by omega) hx hy fun n hn=>hq _ ?_)
      rw [hP,beq_iff_eq,hn 28 (by omega)]
      exact ⟨fun hh=>⟨fun e=>by omega,fun e=>by omega,fun e=>by omega,fun _=>hh⟩,fun hh=>hh.2.2.2 s4⟩
     rw [if_neg (by simpa using s4)]
     exact hq _ ⟨fun _=>hP.2 ⟨fun e=>absurd e s1,fun e=>absurd e s2,fun e=>absurd e s3,fun e=>absurd e s4⟩,fun _=>rfl⟩
   ·rw [if_pos (hC3i.2 hC3)]
    exact hq _ ⟨fun e=>(by cases e),fun hh=>absurd hh.2.2.2.2.2.2.2.1 hC3⟩
end
end Lf

namespace Lf
open Go Go.Proofs
theorem forI {len:Int} {n:Nat} (hn:len=(n:Int)) (hb:n≤4611686018427387904) (I:Nat→Hp→Prop) {B:(Int→Hp→Prop)→Int→Hp→Prop} {X:Int→Hp→Prop} {h0:Hp} (h00:I 0 h0)
  (hs:∀i:Nat,i<n→∀h,I i h→∀K:Int→Hp→Prop,(∀h',I (i+1) h'→K (IntKind.wrap .i64 ((i:Int)+1)) h')→B K (i:Int) h) (hx:∀h,I n h→X (n:Int) h):
  LoopW1 (fun again t h=>if decide (t<len)=true then B again t h else X t h) (0:Int) h0:=by
 refine LoopW1.intro (fun t h=>∃i:Nat,t=(i:Int)∧i≤n∧I i h) (fun t _=>(len-t).toNat) ⟨0,rfl,by omega,h00⟩ ?_
 rintro t h ⟨i,rfl,hi,hI⟩
 by_cases hlt:i<n
 ·rw [if_pos (decide_eq_true (by omega))]
  refine hs i hlt h hI _ fun h' hI'=> ?_
  rw [zal (by omega) (by omega)]
  exact ⟨⟨i+1,by omega,by omega,hI'⟩,by omega⟩
 ·rw [if_neg (fun e=>hlt (by have:=of_decide_eq_true e;omega))]
  have:i=n:=by omega
  subst this
  exact hx h hI
theorem zro1 {α:Type} {h0 h:Hp} {sz:Nat} {enc:α→List Value} {l:Sl} {xs:List α} (hle:h0≤h) (o:Own h0 h sz enc l xs) (henc:∀x,(enc x).length=sz) {i:Int} (hi0:0≤i) (hi1:i<(xs.length:Int)) (x:α) {K:Hp→Prop}
  (hk:∀h',h0≤h'→Own h0 h' sz enc l (xs.set i.toNat x)→K h'):InB l.base l.len i∧StW h (sat l.base sz i) (enc x) K:=by
 obtain ⟨F,hF,hf⟩:=o.ownF
 refine hF.store henc hi0 hi1 x fun h' hF' m=> ?_
 obtain ⟨h1,h2⟩:=m.le hle hf
 exact hk h' h1 (hF'.own h2)
def ewI (x:Int):List Value:=zad ((shInt .i64).enc x)
def cntOf (n:Nat) (E:List Int):List Int:=(List.range n).map fun (p:Nat)=>((E.countP fun z=>decide (z=(p:Int)):Nat):Int)
theorem zxn (n:Nat) (E:List Int):(cntOf n E).length=n:=by simp [cntOf]
theorem zky1 {n:Nat} {E:List Int} {p:Nat} (hp:p<n):(cntOf n E)[p]?=some ((E.countP fun z=>decide (z=(p:Int)):Nat):Int):=by
 unfold cntOf
 rw [List.getElem?_map,List.getElem?_range hp];rfl
theorem zwv1 {n:Nat} {E:List Int} {p:Int} (h0:0≤p):(cntOf n E).set p.toNat (((E.countP fun z=>decide (z=((p.toNat:Nat):Int)):Nat):Int)+1)=cntOf n (E++ [p]):=by
 refine List.ext_getElem? fun i=> ?_
 by_cases hi:i<n
 ·rw [zky1 hi]
  by_cases e:p.toNat=i
  ·subst e
   rw [List.getElem?_set_self (by rw [zxn];exact hi),List.countP_append]
   rw [List.countP_cons_of_pos (by exact decide_eq_true (by omega))]
   simp
  ·rw [List.getElem?_set_ne e,zky1 hi,List.countP_append]
   rw [List.countP_cons_of_neg (by simp;omega)]
   simp
 ·rw [List.getElem?_eq_none (by simp [zxn];omega),List.getElem?_eq_none (by simp [zxn];omega)]
theorem zep2 {h:Hp} {n:Nat} {m:Int} {K:Sl→Hp→Prop} (hm:m=(n:Int)) (h1:n≤1000000) (hk:∀l h',h≤h'→Own h h' 1 ewI l (cntOf n [])→K l h'):MakeW 8 [.int .i64 (0:Int)] m m K h:=by
 subst hm
 refine ⟨⟨by omega,by omega,by omega,by omega⟩,fun b t hb=> ?_⟩
 have e:(cntOf n []).flatMap ewI=zbu [Value.int .i64 0] n:=by
  have:cntOf n []=List.replicate n 0:=by
   unfold cntOf
   rw [List.eq_replicate_iff]
   simp
  rw [this]
  unfold zbu
  rw [List.flatMap_replicate]
  rfl
 refine hk _ _ (zny hb) ⟨by simp [zxn],Nat.le_refl _,.inr ⟨b,zbu [.int .i64 0] n,t,rfl,zid,?_,?_,hb⟩⟩
 ·simp [zbu]
 ·rw [e,List.take_of_length_le]
  simp [zbu]
theorem zgr1 (x:S_api_Process) {n:Nat} (hn:n<8):List.get?Internal (α:=Value) [(.int .i64 x.State),(.int .i64 x.PC),(.int .i64 x.Regs_0),(.int .i64 x.Regs_1),(.int .i64 x.Regs_2),(.int .i64 x.Regs_3),(.int .i64 x.Regs_4),(.int .i64 x.Regs_5),(.int .i64 x.Regs_6),(.int .i64 x.Regs_7),(.int .i64 x.Cursor),(.int .i64 x.Timer),(.bool x.Fired),(.int .i64 x.Wake),x.Lanes.v] (2+(n*1))=
  some (.int .i64 (([x.Regs_0,x.Regs_1,x.Regs_2,x.Regs_3,x.Regs_4,x.Regs_5,x.Regs_6,x.Regs_7]:List Int).getD n 0)):=by
 match n,hn with
 | 0,_=>rfl
 | 1,_=>rfl
 | 2,_=>rfl
 | 3,_=>rfl
 | 4,_=>rfl
 | 5,_=>rfl
 | 6,_=>rfl
 | 7,_=>rfl
section
variable {h:Hp} {a:S_machine_asked} {c:PCfg} {s:PState}
theorem zpl1 (k:AskAt h a c s) {p:Int} {i:Nat} (ho:ofP c p i):0≤p∧p.toNat<c.procs.length∧∃x y,s.procs[p.toNat]?=some x∧c.procs[p.toNat]?=some y∧y.part=(i:Int):=by
 obtain ⟨h0,y,hy,hp⟩:=ho
 have h1:=(List.getElem?_eq_some_iff.1 hy).1
 have:p.toNat<s.procs.length:=by rw [k.sizes.2.2];exact h1
 exact ⟨h0,h1,_,y,List.getElem?_eq_getElem this,hy,hp⟩
theorem zbp2 (k:AskAt h a c s) {p:Nat} {y:PProc} (hy:c.procs[p]?=some y) {pc:Int} {n:PIns} (hn:insP y pc=some n) (ho:n.op=24):(0≤n.b∧n.b<8)∧(0≤n.c∧n.c<8):=by
 obtain ⟨-, -, -, -, -,hc⟩:=k.bounds
 have hw:=(hc y (List.mem_of_getElem? hy)).2.2
 have hm:n∈y.code:=by
  unfold insP at hn
  by_cases h1:0≤pc
  ·rw [if_pos h1] at hn;exact List.mem_of_getElem? hn
  ·rw [if_neg h1] at hn;cases hn
 have:=hw n hm
 have hf:zba n.op=(true,true,true,false):=by rw [ho];decide
 unfold zbv at this
 rw [hf] at this
 have hr:∀m,regP true m=0→0≤m∧m<8:=fun m e=>by
  unfold regP at e
  rw [if_neg (by simp)] at e
  by_cases h1:m<0∨8≤m
  ·rw [if_pos h1] at e;cases e
  ·omega
 have h24:¬(n.op<0∨34≤n.op):=by omega
 rw [if_neg h24] at this
 by_cases e1:regP true n.a=0
 ·rw [if_neg (by simpa using e1)] at this
  by_cases e2:regP true n.b=0
  ·rw [if_neg (by simpa using e2)] at this
   by_cases e3:regP true n.c=0
   ·exact ⟨hr _ e2,hr _ e3⟩
   ·rw [if_pos (by simpa using e3)] at this
    exact absurd this e3
  ·rw [if_pos (by simpa using e2)] at this
   exact absurd this e2
 ·rw [if_pos (by simpa using e1)] at this
  exact absurd this e1
theorem zuh1 (k:AskAt h a c s) {w:S_api_Waiter} {i r:Nat} (ho:ofP c w.Proc i) {Q:Bool→Hp→Prop} (hq:∀b,(b=true↔zkq1 c s w.Proc w.Value_ r)→Q b h):ziu Tryz.prog a w (r:Int) Q h:=by
 unfold ziu
 obtain ⟨h0,hl,x,y,hx,hy, -⟩:=zpl1 k ho
 obtain ⟨qs,hqs,hallq⟩:=k.st.procs
 obtain ⟨z,hz1,hz2⟩:=hallq.get' hx
 have l2:=(List.getElem?_eq_some_iff.1 hz1).1
 obtain ⟨hin,v,hv,rfl⟩:=Rs.get (sh:=sh_api_Process) hqs (fun _=>rfl) (by omega) (i:=w.Proc) (by omega) (by omega) (K:=fun v=>v=z) fun q' hq'=>by
  rw [hz1] at hq';exact (Option.some.inj hq').symm
 refine ⟨hin,v,hv,zhs (zkx1 k h0 hx hy fun n hn=> ?_)⟩
 refine ⟨⟨trivial,trivial,hv,trivial⟩,letW ?_⟩
 rw [hz2.state]
 have hregs:=hz2.regs
 have hSP:zkq1 c s w.Proc w.Value_ r↔∃m,insP y x.pc=some m∧x.state=2∧m.op=24∧x.regs[m.b.toNat]?=some (r:Int)∧x.regs[m.c.toNat]?=some w.Value_:=by
  constructor
  ·rintro ⟨x',y',m,e1,e2,e3⟩
   rw [hx] at e1;cases e1
   rw [hy] at e2;cases e2
   exact ⟨m,e3⟩
  ·rintro ⟨m,e3⟩
   exact ⟨x,y,m,hx,hy,e3⟩
 by_cases hst:x.state=2∧n.Op=24
 ·rcases hn with hn | ⟨-,rfl⟩
  ·obtain ⟨⟨b0,b8⟩,c0,c8⟩:=zbp2 k hy hn hst.2
   have b0:0≤n.B:=b0
   have b8:n.B<8:=b8
   have c0:0≤n.C:=c0
   have c8:n.C<8:=c8
   have hgB:x.regs[n.B.toNat]?=some (x.regs.getD n.B.toNat 0):=by
    have:n.B.toNat<x.regs.length:=by rw [←hregs];simp;omega
    rw [List.getElem?_eq_getElem this,List.getD_eq_getElem?_getD,List.getElem?_eq_getElem this];rfl
   have hgC:x.regs[n.C.toNat]?=some (x.regs.getD n.C.toNat 0):=by
    have:n.C.toNat<x.regs.length:=by rw [←hregs];simp;omega
    rw [List.getElem?_eq_getElem this,List.getD_eq_getElem?_getD,List.getElem?_eq_getElem this];rfl
   refine ⟨fun _=>⟨b0,b8⟩,x.regs.getD n.B.toNat 0,fun _=> ?_,letW ⟨fun _=>⟨c0,c8⟩,x.regs.getD n.C.toNat 0,fun _=> ?_,letW (hq _ ?_)⟩⟩
   ·rw [←hregs,←hz2.state];exact zgr1 v (by omega)
   ·rw [←hregs,←hz2.state];exact zgr1 v (by omega)
   ·rw [hSP]
    simp only [Bool.and_eq_true,beq_iff_eq]
    constructor
    ·rintro ⟨⟨-,e1⟩,e2⟩
     exact ⟨_,hn,hst.1,hst.2,by show x.regs[n.B.toNat]?=_;rw [hgB,e1],by show x.regs[n.C.toNat]?=_;rw [hgC,e2]⟩
    ·rintro ⟨m,e1,e2,e3,e4,e5⟩
     rw [hn] at e1;cases e1
     have e4:x.regs[n.B.toNat]?=some (r:Int):=e4
     have e5:x.regs[n.C.toNat]?=some w.Value_:=e5
     rw [hgB] at e4;rw [hgC] at e5
     exact ⟨⟨hst,Option.some.inj e4⟩,Option.some.inj e5⟩
  ·exact absurd hst.2 (by decide)
 ·have hf:((x.state==(2:Int))&&(n.Op==(24:Int)))=false:=by
   rw [←Bool.not_eq_true]
   intro e
   simp only [Bool.and_eq_true,beq_iff_eq] at e
   exact hst e
  rw [hf]
  refine ⟨fun e=>(by cases e),0,fun e=>(by cases e),letW ⟨fun e=>(by cases e),0,fun e=>(by cases e),letW (hq _ ?_)⟩⟩
  rw [hSP]
  refine ⟨fun e=>(by cases e),?_⟩
  rintro ⟨m,e1,e2,e3, -⟩
  refine absurd ⟨e2,?_⟩ hst
  rcases hn with hn | ⟨hn, -⟩
  ·rw [hn] at e1;cases e1;exact e3
  ·rw [hn] at e1;cases e1
end
end Lf

namespace Lf
open Go Go.Proofs
def evQ (x:PPart):List Int:=x.queues.flatten
def evL (x:PProcess):List Int:=x.lanes.flatMap fun l=>l.waiters.map fun w=>w.proc
def evs (s:PState):List Int:=s.parts.flatMap evQ++s.procs.flatMap evL
theorem zhb2 (s:PState) (p:Int):(evs s).countP (fun z=>decide (z=p))=(s.parts.map (cntQ p)).sum+(s.procs.map (cntL p)).sum:=by
 unfold evs
 rw [List.countP_append,List.countP_flatMap,List.countP_flatMap]
 congr 1
 ·congr 1
  refine List.map_congr_left fun x _=> ?_
  show List.countP _ (evQ x)=_
  unfold evQ cntQ
  rw [List.countP_flatten]
 ·congr 1
  refine List.map_congr_left fun x _=> ?_
  show List.countP _ (evL x)=_
  unfold evL cntL cntW
  rw [List.countP_flatMap]
  congr 1
  refine List.map_congr_left fun l _=> ?_
  show List.countP _ (l.waiters.map _)=_
  rw [List.countP_map]
  rfl
def GQ (c:PCfg) (s:PState) (i:Nat) (x:PPart) (k:Nat) (p:Int):Prop:=ofP c p i∧(atP c s p fun z n=>z.state=3∧n.imm=(k:Int))∧∃o,x.owners[k]?=some o∧0≤o∧o≠p
def GW (c:PCfg) (s:PState) (r:Nat) (x:PProcess) (y:PProc) (i:Nat) (l:PLane) (w:PWaiter):Prop:=(i:Int)=y.part∧ofP c w.proc i∧(x.state≠5∧x.state≠6)∧(l.values.length:Int)=c.lane∧zkq1 c s w.proc w.value r
theorem zku {α:Type} {l:List α} {i:Nat} {x:α} (h:l[i]?=some x):l.drop i=x::l.drop (i+1):=by
 obtain ⟨h1,rfl⟩:=List.getElem?_eq_some_iff.1 h
 exact List.drop_eq_getElem_cons h1
section
variable {h:Hp} {a:S_machine_asked} {c:PCfg} {s:PState}
theorem zui1 (k:AskAt h a c s) (hPa:∀(i:Nat) x,s.parts[i]?=some x→(x.owners.length:Int)=c.locks∧(x.queues.length:Int)=c.locks) (hPr:∀(p:Nat) x y,s.procs[p]?=some x→c.procs[p]?=some y→x.lanes.length=c.labels.length+1∧(x.state=3→∃n,insP y x.pc=some n))
  (hE:(evs s).length≤1152921504606846976) {Q:Bool→Hp→Prop} (hq:∀b h',h≤h'→(b=true↔zrc1 c s)→Q b h'):zis Tryz.prog a Q h:=by
 unfold zis
 obtain ⟨ps,hps,hall⟩:=k.cfg.procs
 obtain ⟨qs,hqs,hallq⟩:=k.st.procs
 obtain ⟨pa,has,halla⟩:=k.st.parts
 obtain ⟨⟨hL0,hL8⟩,⟨hK0,hK8⟩, -,⟨hA1,hA64⟩,⟨hP1,hP32⟩, -⟩:=k.bounds
 obtain ⟨-,hsz1,hsz2⟩:=k.sizes
 have e1:=hall.len
 have e2:=hallq.len
 have e3:=halla.len
 have hlp:a.c_Procs.len=ps.length:=hps.1
 have hlq:a.s_Procs.len=qs.length:=hqs.1
 have hla:a.s_Parts.len=pa.length:=has.1
 have hlane:a.c_Lane=c.lane:=k.cfg.lane
 refine zep2 (n:=s.procs.length) (by omega) (by omega) fun r h1 hle1 ho1=> ?_
 refine forI (n:=pa.length) (by omega) (by omega) (fun i h'=>h≤h'∧(∀(i':Nat) x',i'<i→s.parts[i']?=some x'→∀(k:Nat) q,x'.queues[k]?=some q→∀p∈q,GQ c s i' x' k p)∧
  ∃E,Own h h' 1 ewI r (cntOf s.procs.length E)∧E++((s.parts.drop i).flatMap evQ++s.procs.flatMap evL)=evs s) ⟨hle1,fun i' x' hi=>by omega,[],ho1,rfl⟩ ?_ ?_
 ·rintro i hi h2 ⟨hle2,hchk,E,hoE,hEE⟩ K hK
  refine Rs.get (sh:=sh_api_Part) (Rw.mono hle2 has) (fun _=>rfl) (by omega) (by omega) (by omega) fun y hy=> ?_
  have hy:pa[i]?=some y:=hy
  obtain ⟨x,hx,hyx⟩:=halla.get hy
  obtain ⟨hown,hque⟩:=hPa i x hx
  obtain ⟨ys,hys,hally⟩:=hyx.queues
  have e4:=hally.len
  have hlys:y.Queues.len=ys.length:=hys.1
  rw [zku hx] at hEE
  refine forI (n:=ys.length) (by omega) (by omega) (fun m h'=>h≤h'∧(∀(k:Nat) q,k<m→x.queues[k]?=some q→∀p∈q,GQ c s i x k p)∧
   ∃E,Own h h' 1 ewI r (cntOf s.procs.length E)∧E++((x.queues.drop m).flatten++((s.parts.drop (i+1)).flatMap evQ++s.procs.flatMap evL))=evs s)
   ⟨hle2,fun k q hk=>by omega,E,hoE,by rw [←hEE];simp [evQ]⟩ ?_ ?_
  ·rintro m hm h3 ⟨hle3,hchk3,E3,hoE3,hEE3⟩ K3 hK3
   refine Rs.get (sh:=shSl) (Rw.mono hle3 hys) (fun _=>rfl) (by omega) (by omega) (by omega) fun q' hq'=> ?_
   have hq':ys[m]?=some q':=hq'
   obtain ⟨q,hqq,hqs'⟩:=hally.get hq'
   have hlq':Sl.len q'=q.length:=hqs'.1
   rw [zku hqq] at hEE3
   have hbnd:q.length≤1152921504606846976:=by
    have:=congrArg List.length hEE3
    simp at this
    omega
   refine forI (n:=q.length) (by show ((Sl.len q':Nat):Int)=_;omega) (by omega) (fun j h'=>h≤h'∧(∀p∈q.take j,GQ c s i x m p)∧
    ∃E,Own h h' 1 ewI r (cntOf s.procs.length E)∧E++(q.drop j++((x.queues.drop (m+1)).flatten++((s.parts.drop (i+1)).flatMap evQ++s.procs.flatMap evL)))=evs s)
    ⟨hle3,fun p hp=>by simp at hp,E3,hoE3,by rw [←hEE3];simp⟩ ?_ ?_
   ·rintro j hj h4 ⟨hle4,hchk4,E4,hoE4,hEE4⟩ K4 hK4
    have k4:=k.mono hle4
    refine Rs.get (sh:=shInt .i64) (Rw.mono hle4 hqs') (fun _=>rfl) (by omega) (by omega) (by omega) fun (p:Int) hp=> ?_
    have hp:q[j]?=some p:=hp
    rw [zku hp] at hEE4
    have hbad:¬GQ c s i x m p→Q false h4:=fun hn=>hq _ _ hle4 ⟨fun e=>(by cases e),fun hh=>absurd (hh.1 i x hx m q hqq p (List.mem_of_getElem? hp)) hn⟩
    refine zes (zjd1 k4 fun b1 hb1=> ?_)
    cases b1 with
    | false=>
     have hn:¬ofP c p i:=fun e=>by have:=hb1.2 e;cases this
     refine ⟨fun e=>(by cases e),(0:Int),fun e=>(by cases e),letW ⟨fun e=>(by cases e),fun _=>⟨⟨0,0,0,0,0⟩,letW ⟨fun e=>(by cases e),(0:Int),fun e=>(by cases e),letW ⟨fun e=>(by cases e),(0:Int),fun e=>(by cases e),letW ?_⟩⟩⟩⟩⟩
     rw [if_pos (by rfl)]
     exact hbad fun hh=>hn hh.1
    | true=>
     have ho:=hb1.1 rfl
     obtain ⟨hp0,hp1,z,w,hz,hw,hwp⟩:=zpl1 k ho
     refine Rw.fldC (Rw.mono hle4 hqs) (fun _=>rfl) (by omega) (sh:=shInt .i64) (fun q=>q.State) (fun _=>rfl) (0:Int) (fun _=>by omega) fun x3 hx3=> ?_
     obtain ⟨z',hz',hx3⟩:=hx3 rfl
     obtain ⟨z'',hz'',hzz⟩:=hallq.get hz'
     rw [hz] at hz'';cases hz''
     rw [hzz.state] at hx3
     have hx3:x3=z.state:=hx3
     subst hx3
     refine letW (effI (fun n:S_api_Ins=>insP w z.pc=some (insOf n)∨(insP w z.pc=none∧n=⟨-1,0,0,0,0⟩)) ⟨0,0,0,0,0⟩ (fun _ hk=>zhs (zkx1 k4 hp0 hz hw hk)) fun n hn=>letW ?_)
     obtain ⟨-, -, -, -, -,hcfg⟩:=k.bounds
     by_cases hst:z.state=3
     ·have hnR:=hn (by simp [hst])
      have hmown:m<x.owners.length:=by omega
      have hl:=hyx.owners.1
      refine Rs.getC (Rw.mono hle4 hyx.owners) (0:Int) (fun _=>rfl) (by omega) (fun _=>by omega) fun (o:Int) ho4=>letW ?_
      refine Rs.getC (Rw.mono hle4 hyx.owners) (0:Int) (fun _=>rfl) (by omega) (fun _=>by omega) fun (o':Int) ho5=>letW ?_
      have hov:x.owners[m]?=some x.owners[m]:=List.getElem?_eq_getElem hmown
      have hG:(((((!true) || (z.state !=(3:Int))) || (n.Imm !=(m:Int))) || (decide (o<(0:Int)))) || (o'==p))=true↔¬GQ c s i x m p:=by
       by_cases him:n.Imm=(m:Int)
       ·have c1:(((!true) || (z.state !=(3:Int))) || (n.Imm !=(m:Int)))=false:=by simp [hst,him]
        rw [c1] at ho4 ho5 ⊢
        have ho4:x.owners[m]?=some o:=ho4 rfl
        rw [Bool.false_or] at ho5 ⊢
        by_cases hneg:o<0
        ·rw [decide_eq_true hneg]
         refine ⟨fun _ hh=> ?_,fun _=>by simp⟩
         obtain ⟨_,_,o2,h1,h2,_⟩:=hh
         rw [ho4] at h1;cases h1;omega
        ·rw [decide_eq_false hneg] at ho5 ⊢
         have ho5:x.owners[m]?=some o':=ho5 rfl
         rw [ho4] at ho5;cases ho5
         rw [Bool.false_or,beq_iff_eq]
         constructor
         ·rintro rfl hh
          obtain ⟨_,_,o2,h1,h2,h3⟩:=hh
          rw [ho4] at h1;cases h1;exact h3 rfl
         ·intro hh
          refine Classical.byContradiction fun hne=>hh ⟨ho,?_,o,ho4,by omega,hne⟩
          rcases hnR with hn1 | ⟨hn1,_⟩
          ·exact ⟨z,w,_,hz,hw,hn1,hst,him⟩
          ·obtain ⟨n2,hn2⟩:=(hPr _ _ _ hz hw).2 hst
           rw [hn2] at hn1;cases hn1
       ·have c1:(n.Imm !=(m:Int))=true:=by simpa using him
        rw [c1]
        refine ⟨fun _ hh=> ?_,fun _=>by simp⟩
        obtain ⟨_,⟨z2,w2,n2,h1,h2,h3,h4,h5⟩,_⟩:=hh
        rw [hz] at h1;cases h1
        rw [hw] at h2;cases h2
        rcases hnR with hn1 | ⟨hn1,_⟩
        ·rw [hn1] at h3;cases h3;exact him h5
        ·rw [hn1] at h3;cases h3
      by_cases hgq:GQ c s i x m p
      ·rw [if_neg (fun e=>hG.1 e hgq)]
       refine Rs.get (sh:=shInt .i64) (hoE4.rw (fun _=>rfl)) (fun _=>rfl) (by omega) hp0 (by rw [zxn];omega) fun (x6:Int) hx6=> ?_
       have hx6:(cntOf s.procs.length E4)[p.toNat]?=some x6:=hx6
       rw [zky1 (by omega)] at hx6
       have hx6:x6=((E4.countP fun z=>decide (z=((p.toNat:Nat):Int)):Nat):Int):=(Option.some.inj hx6).symm
       have hlen:E4.length≤1152921504606846976:=by
        have:=congrArg List.length hEE4
        simp at this
        omega
       have hc1:=List.countP_le_length (p:=fun z=>decide (z=((p.toNat:Nat):Int))) (l:=E4)
       rw [hx6,zal (by omega) (by omega)]
       refine zro1 (enc:=ewI) hle4 hoE4 (fun _=>rfl) hp0 (by rw [zxn];omega) (((E4.countP fun z=>decide (z=((p.toNat:Nat):Int)):Nat):Int)+1) fun h7 hle7 ho7=> ?_
       rw [zwv1 hp0] at ho7
       refine hK4 h7 ⟨hle7,fun p' (hp':p'∈q.take (j+1))=> ?_,E4++ [p],ho7,by rw [←hEE4];simp⟩
       rw [List.take_add_one,hp] at hp'
       rcases List.mem_append.1 hp' with hp' | hp'
       ·exact hchk4 p' hp'
       ·have e:p'=p:=by simpa using hp'
        rw [e];exact hgq
      ·rw [if_pos (hG.2 hgq)]
       exact hbad hgq
     ·have hne:(z.state !=(3:Int))=true:=by simpa using hst
      have hgq:¬GQ c s i x m p:=by
       rintro ⟨_,⟨z2,w2,n2,h1,h2,h3,h4,h5⟩,_⟩
       rw [hz] at h1;cases h1
       exact hst h4
      simp only [hne,Bool.or_true,Bool.true_or]
      refine ⟨fun e=>(by cases e),(0:Int),fun e=>(by cases e),letW ⟨fun e=>(by cases e),(0:Int),fun e=>(by cases e),letW ?_⟩⟩
      rw [if_pos (by rfl)]
      exact hbad hgq
   ·rintro h4 ⟨hle4,hchk4,E4,hoE4,hEE4⟩
    refine hK3 h4 ⟨hle4,fun k q2 hk hq2 p hp=> ?_,E4,hoE4,by rw [←hEE4];simp⟩
    by_cases hkm:k<m
    ·exact hchk3 k q2 hkm hq2 p hp
    ·have:k=m:=by omega
     subst this
     rw [hqq] at hq2;cases hq2
     exact hchk4 p (by rw [List.take_of_length_le (Nat.le_refl _)];exact hp)
  ·rintro h3 ⟨hle3,hchk3,E3,hoE3,hEE3⟩
   refine hK h3 ⟨hle3,fun i' x' hi' hx' k q hkq p hp=> ?_,E3,hoE3,by
    rw [←hEE3,List.drop_eq_nil_iff.2 (Nat.le_of_eq e4.symm)];simp⟩
   by_cases hii:i'<i
   ·exact hchk i' x' hii hx' k q hkq p hp
   ·have:i'=i:=by omega
    subst this
    rw [hx] at hx';cases hx'
    exact hchk3 k q (by have:=(List.getElem?_eq_some_iff.1 hkq).1;omega) hkq p hp
 ·rintro h2 ⟨hle2,hchk,E,hoE,hEE⟩
  have hA:∀(i:Nat) x,s.parts[i]?=some x→∀(k:Nat) q,x.queues[k]?=some q→∀p∈q,GQ c s i x k p:=fun i x hx=>hchk i x (by have:=(List.getElem?_eq_some_iff.1 hx).1;omega) hx
  refine forI (n:=qs.length) (by omega) (by omega) (fun n h'=>h≤h'∧(∀(r':Nat) x y,r'<n→s.procs[r']?=some x→c.procs[r']?=some y→∀(i:Nat) l,x.lanes[i]?=some l→∀w∈l.waiters,GW c s r' x y i l w)∧
   ∃E,Own h h' 1 ewI r (cntOf s.procs.length E)∧E++(s.procs.drop n).flatMap evL=evs s) ⟨hle2,fun r' x y hr=>by omega,E,hoE,by rw [←hEE,List.drop_eq_nil_iff.2 (Nat.le_of_eq e3.symm)];simp⟩ ?_ ?_
  ·rintro n hn h3 ⟨hle3,hchk3,E3,hoE3,hEE3⟩ K3 hK3
   refine Rs.get (sh:=sh_api_Process) (Rw.mono hle3 hqs) (fun _=>rfl) (by omega) (by omega) (by omega) fun z hz=> ?_
   have hz:qs[n]?=some z:=hz
   obtain ⟨x,hx,hzx⟩:=hallq.get hz
   have hcl:n<c.procs.length:=by omega
   have hy:=List.getElem?_eq_getElem hcl
   generalize c.procs[n]=y at hy
   obtain ⟨yq,hyq1,hyq2, -⟩:=hall.get' hy
   have hps1:=(List.getElem?_eq_some_iff.1 hyq1).1
   obtain ⟨hlanes, -⟩:=hPr n x y hx hy
   obtain ⟨ls,hls,hallL⟩:=hzx.lanes
   have e5:=hallL.len
   have hll:z.Lanes.len=ls.length:=hls.1
   rw [zku hx] at hEE3
   refine forI (n:=ls.length) (by omega) (by omega) (fun i h'=>h≤h'∧(∀(i':Nat) l,i'<i→x.lanes[i']?=some l→∀w∈l.waiters,GW c s n x y i' l w)∧
    ∃E,Own h h' 1 ewI r (cntOf s.procs.length E)∧E++((x.lanes.drop i).flatMap (fun l=>l.waiters.map fun w=>w.proc)++(s.procs.drop (n+1)).flatMap evL)=evs s)
    ⟨hle3,fun k q hk=>by omega,E3,hoE3,by rw [←hEE3];simp [evL]⟩ ?_ ?_
   ·rintro i hi h4 ⟨hle4,hchk4,E4,hoE4,hEE4⟩ K4 hK4
    refine Rs.get (sh:=sh_api_Lane) (Rw.mono hle4 hls) (fun _=>rfl) (by omega) (by omega) (by omega) fun L hL=> ?_
    have hL:ls[i]?=some L:=hL
    obtain ⟨l,hl1,hl2⟩:=hallL.get hL
    obtain ⟨ws,hws,hwm⟩:=hl2.waiters
    have hwl:L.Waiters.len=ws.length:=hws.1
    have hwl2:l.waiters.length=ws.length:=by rw [←hwm,List.length_map]
    have hvl:L.Values.len=l.values.length:=hl2.values.1
    rw [zku hl1] at hEE4
    have hbnd:ws.length≤1152921504606846976:=by
     have:=congrArg List.length hEE4
     simp at this
     omega
    refine forI (n:=ws.length) (by omega) (by omega) (fun j h'=>h≤h'∧(∀w∈l.waiters.take j,GW c s n x y i l w)∧
     ∃E,Own h h' 1 ewI r (cntOf s.procs.length E)∧E++((l.waiters.drop j).map (fun w=>w.proc)++((x.lanes.drop (i+1)).flatMap (fun l=>l.waiters.map fun w=>w.proc)++(s.procs.drop (n+1)).flatMap evL))=evs s)
     ⟨hle4,fun p hp=>by simp at hp,E4,hoE4,by rw [←hEE4];simp⟩ ?_ ?_
    ·rintro j hj h5 ⟨hle5,hchk5,E5,hoE5,hEE5⟩ K5 hK5
     have k5:=k.mono hle5
     refine Rs.get (sh:=sh_api_Waiter) (Rw.mono hle5 hws) (fun _=>rfl) (by omega) (by omega) (by omega) fun w hw=> ?_
     have hw:ws[j]?=some w:=hw
     have hw':l.waiters[j]?=some (zcn w):=by rw [←hwm,List.getElem?_map,hw];rfl
     rw [zku hw'] at hEE5
     have hbad:¬GW c s n x y i l (zcn w)→Q false h5:=fun hn=>hq _ _ hle5 ⟨fun e=>(by cases e),fun hh=>absurd (hh.2.1 n x y hx hy i l hl1 _ (List.mem_of_getElem? hw')) hn⟩
     refine Rw.fld (Rw.mono hle5 hps) (fun _=>rfl) (by omega) (sh:=shInt .i64) (fun q=>q.Part) (fun _=>rfl) (by omega) (by omega) fun q hq0=> ?_
     have hq0:ps[n]?=some q:=hq0
     rw [hyq1] at hq0;cases hq0
     rw [hyq2]
     refine effI (fun b=>b=true↔ofP c w.Proc i) false (fun _ hk=>zes (zjd1 k5 hk)) fun r1 hr1=>letW ?_
     refine effI (fun b=>b=true↔z.State≠5∧z.State≠6) false (fun _ hk=>zmp (zpk1 hk)) fun r2 hr2=>letW (letW ?_)
     rw [hzx.state] at hr2
     rw [hvl,hlane]
     by_cases g1:(i:Int)=y.part
     ·have e1:((i:Int) !=y.part)=false:=by simpa using g1
      rw [e1] at hr1 hr2 ⊢
      have hr1:=hr1 rfl
      by_cases g2:ofP c w.Proc i
      ·have e2:=hr1.2 g2
       rw [e2] at hr2 ⊢
       have hr2:=hr2 rfl
       by_cases g3:x.state≠5∧x.state≠6
       ·have e3:=hr2.2 g3
        rw [e3]
        by_cases g4:(l.values.length:Int)=c.lane
        ·have e4:(((l.values.length:Nat):Int) !=c.lane)=false:=by simpa using g4
         rw [e4]
         refine effI (fun b=>b=true↔zkq1 c s w.Proc w.Value_ n) false (fun _ hk=>zuo (zuh1 k5 g2 hk)) fun r3 hr3=>letW ?_
         have hr3:=hr3 rfl
         by_cases g5:zkq1 c s w.Proc w.Value_ n
         ·rw [hr3.2 g5,if_neg (by simp)]
          obtain ⟨hp0,hp1, -⟩:=zpl1 k5 g2
          refine Rs.get (sh:=shInt .i64) (hoE5.rw (fun _=>rfl)) (fun _=>rfl) (by omega) hp0 (by rw [zxn];omega) fun (x6:Int) hx6=> ?_
          have hx6:(cntOf s.procs.length E5)[w.Proc.toNat]?=some x6:=hx6
          rw [zky1 (by omega)] at hx6
          have hx6:x6=((E5.countP fun z=>decide (z=((w.Proc.toNat:Nat):Int)):Nat):Int):=(Option.some.inj hx6).symm
          have hlen:E5.length≤1152921504606846976:=by
           have:=congrArg List.length hEE5
           simp at this
           omega
          have hc1:=List.countP_le_length (p:=fun z=>decide (z=((w.Proc.toNat:Nat):Int))) (l:=E5)
          rw [hx6,zal (by omega) (by omega)]
          refine zro1 (enc:=ewI) hle5 hoE5 (fun _=>rfl) hp0 (by rw [zxn];omega) (((E5.countP fun z=>decide (z=((w.Proc.toNat:Nat):Int)):Nat):Int)+1) fun h7 hle7 ho7=> ?_
          rw [zwv1 hp0] at ho7
          refine hK5 h7 ⟨hle7,fun p' hp'=> ?_,E5++ [w.Proc],ho7,by rw [←hEE5];simp [zcn]⟩
          rw [List.take_add_one,hw'] at hp'
          rcases List.mem_append.1 hp' with hp' | hp'
          ·exact hchk5 p' hp'
          ·have e:p'=zcn w:=by simpa using hp'
           rw [e]
           exact ⟨g1,g2,g3,g4,g5⟩
         ·rw [show r3=false by rw [←Bool.not_eq_true,hr3];exact g5,if_pos (by simp)]
          exact hbad fun hh=>g5 hh.2.2.2.2
        ·have e4:(((l.values.length:Nat):Int) !=c.lane)=true:=by simpa using g4
         rw [e4]
         refine ⟨fun e=>(by cases e),fun _=>⟨false,letW ?_⟩⟩
         rw [if_pos (by rfl)]
         exact hbad fun hh=>g4 hh.2.2.2.1
       ·rw [show r2=false by rw [←Bool.not_eq_true,hr2];exact g3]
        refine ⟨fun e=>(by cases e),fun _=>⟨false,letW ?_⟩⟩
        rw [if_pos (by rfl)]
        exact hbad fun hh=>g3 hh.2.2.1
      ·rw [show r1=false by rw [←Bool.not_eq_true,hr1];exact g2]
       refine ⟨fun e=>(by cases e),fun _=>⟨false,letW ?_⟩⟩
       rw [if_pos (by rfl)]
       exact hbad fun hh=>g2 hh.2.1
     ·have e1:((i:Int) !=y.part)=true:=by simpa using g1
      rw [e1]
      refine ⟨fun e=>(by cases e),fun _=>⟨false,letW ?_⟩⟩
      rw [if_pos (by rfl)]
      exact hbad fun hh=>g1 hh.1
    ·rintro h5 ⟨hle5,hchk5,E5,hoE5,hEE5⟩
     refine hK4 h5 ⟨hle5,fun i' l' hi' hl' w hw=> ?_,E5,hoE5,by rw [←hEE5,List.drop_eq_nil_iff.2 (Nat.le_of_eq hwl2)];simp⟩
     by_cases hii:i'<i
     ·exact hchk4 i' l' hii hl' w hw
     ·have:i'=i:=by omega
      subst this
      rw [hl1] at hl';cases hl'
      exact hchk5 w (by rw [List.take_of_length_le (Nat.le_of_eq hwl2)];exact hw)
   ·rintro h4 ⟨hle4,hchk4,E4,hoE4,hEE4⟩
    refine hK3 h4 ⟨hle4,fun r' x' y' hr' hx' hy' i l hil w hw=> ?_,E4,hoE4,by rw [←hEE4,List.drop_eq_nil_iff.2 (Nat.le_of_eq e5.symm)];simp⟩
    by_cases hrr:r'<n
    ·exact hchk3 r' x' y' hrr hx' hy' i l hil w hw
    ·have:r'=n:=by omega
     subst this
     rw [hx] at hx';cases hx'
     rw [hy] at hy';cases hy'
     exact hchk4 i l (by have:=(List.getElem?_eq_some_iff.1 hil).1;omega) hil w hw
  ·rintro h3 ⟨hle3,hchk3,E3,hoE3,hEE3⟩
   have hB:∀(r:Nat) x y,s.procs[r]?=some x→c.procs[r]?=some y→∀(i:Nat) l,x.lanes[i]?=some l→∀w∈l.waiters,GW c s r x y i l w:=fun r x y hx=>hchk3 r x y (by have:=(List.getElem?_eq_some_iff.1 hx).1;omega) hx
   have hE3:E3=evs s:=by rw [←hEE3,List.drop_eq_nil_iff.2 (Nat.le_of_eq e2.symm)];simp
   subst hE3
   refine forI (n:=qs.length) (by omega) (by omega) (fun n h'=>h'=h3∧∀(p:Nat) x,p<n→s.procs[p]?=some x→(s.parts.map (cntQ (p:Int))).sum+(s.procs.map (cntL (p:Int))).sum=if x.state=3∨x.state=2 then 1 else 0) ⟨rfl,fun p x hp=>by omega⟩ ?_ ?_
   ·rintro n hn h4 ⟨rfl,hchk4⟩ K4 hK4
    refine Rs.get (sh:=sh_api_Process) (Rw.mono hle3 hqs) (fun _=>rfl) (by omega) (by omega) (by omega) fun z hz=> ?_
    have hz:qs[n]?=some z:=hz
    obtain ⟨x,hx,hzx⟩:=hallq.get hz
    refine JoinW1.intro (fun must h'=>h'=h4∧must=if x.state=3∨x.state=2 then 1 else 0) ?_ ?_
    ·refine letW ?_
     rw [hzx.state]
     by_cases hst:x.state=3∨x.state=2
     ·rw [if_pos (by simpa using hst)]
      exact ⟨rfl,by rw [if_pos hst]⟩
     ·rw [if_neg (by simpa using hst)]
      exact ⟨rfl,by rw [if_neg hst]⟩
    ·rintro must h5 ⟨rfl,rfl⟩
     refine Rs.get (sh:=shInt .i64) (hoE3.rw (fun _=>rfl)) (fun _=>rfl) (by omega) (by omega) (by rw [zxn];omega) fun (x6:Int) hx6=> ?_
     have hx6:(cntOf s.procs.length (evs s))[n]?=some x6:=hx6
     rw [zky1 (by omega),zhb2] at hx6
     have hx6:x6=(((s.parts.map (cntQ (n:Int))).sum+(s.procs.map (cntL (n:Int))).sum:Nat):Int):=(Option.some.inj hx6).symm
     have hiff:x6=(if x.state=3∨x.state=2 then 1 else 0)↔(s.parts.map (cntQ (n:Int))).sum+(s.procs.map (cntL (n:Int))).sum=if x.state=3∨x.state=2 then 1 else 0:=by
      rw [hx6]
      split<;>omega
     by_cases hg:x6=(if x.state=3∨x.state=2 then 1 else 0)
     ·rw [if_neg (by simpa using hg)]
      refine hK4 _ ⟨rfl,fun p x' hp hx'=> ?_⟩
      by_cases hpn:p<n
      ·exact hchk4 p x' hpn hx'
      ·have:p=n:=by omega
       subst this
       rw [hx] at hx';cases hx'
       exact hiff.1 hg
     ·rw [if_pos (by simpa using hg)]
      exact hq _ _ hle3 ⟨fun e=>(by cases e),fun hh=>absurd (hiff.2 (hh.2.2 n x hx)) hg⟩
   ·rintro h4 ⟨rfl,hchk4⟩
    refine hq _ _ hle3 ⟨fun _=>⟨hA,hB,fun p x hx=>hchk4 p x (by have:=(List.getElem?_eq_some_iff.1 hx).1;omega) hx⟩,fun _=>rfl⟩
end
end Lf

namespace Lf
open Go Go.Proofs
def MayP (c:PCfg) (s:PState):Prop:=MayG c s fun (i:Nat) q=>fl c.labels (i:Int) q=true
set_option maxRecDepth 20000 in
theorem znd1 {h:Hp} {x:S_api_Config} {y:S_api_State} {c:PCfg} {s:PState} {Q:Int→Hp→Prop} (a:CfgAt h x c) (b:StateAt h y s) (hu:∀l∈c.labels,InU l) (hE:s.parts.length≤8→(∀x∈s.parts,x.queues.length≤8)→s.procs.length≤32→(∀x∈s.procs,x.lanes.length≤9)→(evs s).length≤1152921504606846976)
  (h0:(cfgE c).1≠0→∀h',h≤h'→Q (cfgE c).1 h') (h1:(cfgE c).1=0→∀n h',h≤h'→(n=0∧MayP c s∨n=4∧¬MayP c s)→Q n h'):zvc Tryz.prog x y Q h:=by
 unfold zvc
 refine zgi1 (znc1 a fun h2 hle2=> ?_)
 by_cases hc:(cfgE c).1≠0
 ·rw [if_pos (by simpa using hc)]
  exact h0 hc h2 hle2
 rw [if_neg (by simpa using hc)]
 have hc:(cfgE c).1=0:=Classical.not_not.1 hc
 have h1:=h1 hc
 have hm:(mayP c.labels).1=0:=by
  unfold cfgE at hc
  exact (cfgP_zero.1 hc).1
 refine zma1 (zgy2 (Rw.mono hle2 a.labels) (fun e=>absurd hm e) fun _ t h3 hle3 hT=> ?_)
 have hle:=Hp.le_trans hle2 hle3
 have a3:=a.mono hle
 have b3:=b.mono hle
 have hPl:=a3.procs
 obtain ⟨ps,hps,hall⟩:=a3.procs
 obtain ⟨qs,hqs,hallq⟩:=b3.procs
 obtain ⟨pa,has,halla⟩:=b3.parts
 have e1:=hall.len
 have e2:=hallq.len
 have e3:=halla.len
 have hlp:x.Procs.len=ps.length:=hps.1
 have hlq:y.Procs.len=qs.length:=hqs.1
 have hla:y.Parts.len=pa.length:=has.1
 have hll:x.Labels.len=c.labels.length:=a.labels.1
 refine letW (letW (letW ?_))
 have ht:=b.tick
 by_cases hs:zwl1 c s
 ·have hs':=hs
  obtain ⟨⟨t0,t1⟩,s1,s2⟩:=hs'
  rw [if_neg (by simp;omega)]
  have k:AskAt h3 ⟨x.Labels,x.Table,x.Fuel,x.Lane,x.Locks,x.Log,x.Procs,y.Tick,y.Parts,y.Procs,some t⟩ c s:=⟨a3,b3,⟨t,rfl,hT⟩,hc,hs,hu⟩
  have hA:(Value.agg #[x.Labels.v,x.Table.v,(.int .i64 x.Fuel),(.int .i64 x.Lane),(.int .i64 x.Locks),(.int .i64 x.Log),x.Procs.v,(.int .i64 y.Tick),y.Parts.v,y.Procs.v,(.pointer (some t))])=sh_machine_asked.enc ⟨x.Labels,x.Table,x.Fuel,x.Lane,x.Locks,x.Log,x.Procs,y.Tick,y.Parts,y.Procs,some t⟩:=rfl
  rw [hA]
  generalize (⟨x.Labels,x.Table,x.Fuel,x.Lane,x.Locks,x.Log,x.Procs,y.Tick,y.Parts,y.Procs,some t⟩:S_machine_asked)=A at k
  obtain ⟨⟨hL0,hL8⟩, -, -, -,⟨hP1,hP32⟩, -⟩:=k.bounds
  refine forI (n:=pa.length) (by omega) (by omega) (fun i h'=>h3≤h'∧∀(i':Nat) z,i'<i→s.parts[i']?=some z→PartG c s i' z) ⟨Hp.le_refl _,fun i' z hi=>by omega⟩ ?_ ?_
  ·rintro i hi h4 ⟨hle4,hchk⟩ K hK
   have hil:i<s.parts.length:=by omega
   have hz:=List.getElem?_eq_getElem hil
   generalize s.parts[i]=z at hz
   refine zwu (a:=A) (zyn1 (k.mono hle4) hz fun r h5 hle5 hr=> ?_)
   cases r with
   | true=>
    rw [if_neg (by simp)]
    refine hK h5 ⟨Hp.le_trans hle4 hle5,fun i' z' hi' hz'=> ?_⟩
    by_cases hii:i'<i
    ·exact hchk i' z' hii hz'
    ·have:i'=i:=by omega
     subst this
     rw [hz] at hz';cases hz'
     exact hr.1 rfl
   | false=>
    rw [if_pos (by simp)]
    refine h1 _ _ (Hp.le_trans hle (Hp.le_trans hle4 hle5)) (.inr ⟨rfl,fun hh=> ?_⟩)
    have:=hr.2 (hh.2.1 i z hz)
    cases this
  ·rintro h4 ⟨hle4,hchk⟩
   have hA:∀(i:Nat) z,s.parts[i]?=some z→PartG c s i z:=fun i z hz=>hchk i z (by have:=(List.getElem?_eq_some_iff.1 hz).1;omega) hz
   refine forI (n:=qs.length) (by omega) (by omega) (fun i h'=>h'=h4∧∀(p:Nat) z w,p<i→s.procs[p]?=some z→c.procs[p]?=some w→ProcG c s (fun (i:Nat) q=>fl c.labels (i:Int) q=true) z w) ⟨rfl,fun i' z w hi=>by omega⟩ ?_ ?_
   ·rintro i hi h5 ⟨rfl,hchk5⟩ K hK
    have hil:i<s.procs.length:=by omega
    have hz:=List.getElem?_eq_getElem hil
    generalize s.procs[i]=z at hz
    have hil:i<c.procs.length:=by omega
    have hw:=List.getElem?_eq_getElem hil
    generalize c.procs[i]=w at hw
    refine zwv (a:=A) (zyo1 (k.mono hle4) hz hw fun r hr=> ?_)
    cases r with
    | true=>
     rw [if_neg (by simp)]
     refine hK h5 ⟨rfl,fun p z' w' hi' hz' hw'=> ?_⟩
     by_cases hii:p<i
     ·exact hchk5 p z' w' hii hz' hw'
     ·have:p=i:=by omega
      subst this
      rw [hz] at hz';cases hz'
      rw [hw] at hw';cases hw'
      exact hr.1 rfl
    | false=>
     rw [if_pos (by simp)]
     refine h1 _ _ (Hp.le_trans hle hle4) (.inr ⟨rfl,fun hh=> ?_⟩)
     have:=hr.2 (hh.2.2.1 i z w hz hw)
     cases this
   ·rintro h5 ⟨rfl,hchk5⟩
    obtain ⟨-,⟨hK0,hK8⟩, -, -, -, -⟩:=k.bounds
    have hB:∀(p:Nat) z w,s.procs[p]?=some z→c.procs[p]?=some w→ProcG c s (fun (i:Nat) q=>fl c.labels (i:Int) q=true) z w:=fun p z w hz=>hchk5 p z w (by have:=(List.getElem?_eq_some_iff.1 hz).1;omega) hz
    have hE:=hE (by omega) (fun z hz=>by
     obtain ⟨i,hi⟩:=List.getElem?_of_mem hz
     have:=(hA i z hi).2.2.2.2.2.2.1
     omega) (by omega) (fun z hz=>by
     obtain ⟨i,hi⟩:=List.getElem?_of_mem hz
     have hil:=(List.getElem?_eq_some_iff.1 hi).1
     have:=(hB i z _ hi (List.getElem?_eq_getElem (show i<c.procs.length by omega))).2.2.1
     omega)
    refine zun (a:=A) (zui1 (k.mono hle4) (fun i z hz=> ?_) (fun p z w hz hw=> ?_) hE fun r h6 hle6 hr=> ?_)
    ·have:=hA i z hz
     exact ⟨this.2.2.2.2.2.1,this.2.2.2.2.2.2.1⟩
    ·have:=hB p z w hz hw
     exact ⟨this.2.2.1,fun e=>by obtain ⟨n,hn,_⟩:=this.2.2.2.2.2.2.2.2.2.2.2.1 e;exact ⟨n,hn⟩⟩
    ·have hle6':=Hp.le_trans hle (Hp.le_trans hle4 hle6)
     cases r with
     | true=>
      rw [if_neg (by simp)]
      exact h1 _ _ hle6' (.inl ⟨rfl,hs,hA,hB,hr.1 rfl⟩)
     | false=>
      rw [if_pos (by simp)]
      refine h1 _ _ hle6' (.inr ⟨rfl,fun hh=> ?_⟩)
      have:=hr.2 hh.2.2.2
      cases this
 ·rw [if_pos ?_]
  ·exact h1 _ _ hle (.inr ⟨rfl,fun hh=>hs hh.1⟩)
  ·refine Classical.byContradiction fun hcc=>hs ?_
   simp at hcc
   refine ⟨by omega,by omega,by omega⟩
end Lf

namespace Lf
open Go Go.Proofs
section
variable {P:Program} {h:Hp}
theorem join1 {α:Type} {v:α} {A:(α→Hp→Prop)→Prop} {B:α→Hp→Prop} (hA:∀k:α→Hp→Prop,k v h→A k) (hB:B v h):JoinW1 A B:=JoinW1.intro (fun x h'=>x=v∧h'=h) (hA _ ⟨rfl,rfl⟩) (by rintro x h' ⟨rfl,rfl⟩;exact hB)
def zbq2 (op:Int) (k:Bool→Hp→Prop) (h:Hp):List Int→Prop
 | []=>True
 | [a]=>k (op==a) h
 | a::b::r=>if (op==a)=true then k (op==a) h else zbq2 op k h (b::r)
theorem zbk1 {op:Int} {k:Bool→Hp→Prop}:∀l:List Int,l≠ []→k (decide (op∈l)) h→zbq2 op k h l
 | [],hn,_=>absurd rfl hn
 | [a],_,hk=>by
  have:(op==a)=decide (op∈ [a]):=by rw [Bool.eq_iff_iff];simp
  show k (op==a) h
  rw [this];exact hk
 | a::b::r,_,hk=>by
  show if (op==a)=true then k (op==a) h else zbq2 op k h (b::r)
  by_cases e:op=a
  ·rw [if_pos (by simpa using e)]
   have:(op==a)=decide (op∈a::b::r):=by rw [Bool.eq_iff_iff];simp [e]
   rw [this];exact hk
  ·rw [if_neg (by simpa using e)]
   refine zbk1 (b::r) (by simp) ?_
   have:decide (op∈b::r)=decide (op∈a::b::r):=by rw [Bool.eq_iff_iff];simp [e]
   rw [this];exact hk
theorem zrp1 {op:Int} {Q:Bool→Bool→Bool→Bool→Hp→Prop} (hq:Q (zba op).1 (zba op).2.1 (zba op).2.2.1 (zba op).2.2.2 h):zgo P op Q h:=by
 unfold zgo
 unfold zba at hq
 by_cases h1:op=1
 ·rw [if_pos h1] at hq;rw [if_pos (by simpa using h1)];exact hq
 rw [if_neg h1] at hq;rw [if_neg (by simpa using h1)]
 refine join1 (h:=h) (v:=decide (op∈ [2,20,21,25,26])) (fun k hk=>zbk1 [2,20,21,25,26] (by simp) hk) ?_
 by_cases h2:op∈ [2,20,21,25,26]
 ·rw [if_pos (decide_eq_true h2)]
  rw [if_pos (by simpa using h2)] at hq
  exact hq
 rw [if_neg (fun e=>h2 (of_decide_eq_true e))]
 rw [if_neg (by simpa using h2)] at hq
 refine join1 (h:=h) (v:=decide (op∈ [3,4,5,6,7,8,9,10,11,12,13,14])) (fun k hk=>zbk1 [3,4,5,6,7,8,9,10,11,12,13,14] (by simp) hk) ?_
 by_cases h3:op∈ [3,4,5,6,7,8,9,10,11,12,13,14]
 ·rw [if_pos (decide_eq_true h3)]
  rw [if_pos (Or.inl (by simp at h3;omega))] at hq
  exact hq
 rw [if_neg (fun e=>h3 (of_decide_eq_true e))]
 refine join1 (h:=h) (v:=decide (op∈ [15,16,17,18,19,24])) (fun k hk=>zbk1 [15,16,17,18,19,24] (by simp) hk) ?_
 by_cases h4:op∈ [15,16,17,18,19,24]
 ·rw [if_pos (decide_eq_true h4)]
  rw [if_pos (Or.inr (by simp at h4;omega))] at hq
  exact hq
 rw [if_neg (fun e=>h4 (of_decide_eq_true e))]
 rw [if_neg (by simp at h3 h4;omega)] at hq
 refine join1 (h:=h) (v:=decide (op∈ [22,29,30])) (fun k hk=>zbk1 [22,29,30] (by simp) hk) ?_
 by_cases h5:op∈ [22,29,30]
 ·rw [if_pos (decide_eq_true h5)]
  rw [if_pos (by simpa using h5)] at hq
  exact hq
 rw [if_neg (fun e=>h5 (of_decide_eq_true e))]
 rw [if_neg (by simpa using h5)] at hq
 by_cases h6:op=23
 ·rw [if_pos h6] at hq;rw [if_pos (by simpa using h6)];exact hq
 rw [if_neg h6] at hq;rw [if_neg (by simpa using h6)]
 refine join1 (h:=h) (v:=decide (op∈ [27,28,31,32,33])) (fun k hk=>zbk1 [27,28,31,32,33] (by simp) hk) ?_
 by_cases h7:op∈ [27,28,31,32,33]
 ·rw [if_pos (decide_eq_true h7)]
  rw [if_pos (by simpa using h7)] at hq
  exact hq
 ·rw [if_neg (fun e=>h7 (of_decide_eq_true e))]
  rw [if_neg (by simpa using h7)] at hq
  exact hq
theorem ztu {has:Bool} {n:Int} {Q:Int→Hp→Prop} (hq:Q (regP has n) h):zfe P n has Q h:=by
 unfold zfe
 unfold regP at hq
 refine letW ?_
 by_cases h1:has=false∧n≠0
 ·rw [if_pos h1] at hq;rw [if_pos (by simp [h1.1,h1.2])];exact hq
 rw [if_neg h1] at hq
 rw [if_neg (by intro e;simp at e;exact h1 e)]
 refine letW (letW ?_)
 by_cases h2:n<0∨8≤n
 ·rw [if_pos h2] at hq
  have hh:has=true:=by
   cases has with
   | true=>rfl
   | false=>exact absurd ⟨rfl,by omega⟩ h1
  rw [if_pos (by rw [hh];simp;omega)]
  exact hq
 ·rw [if_neg h2] at hq
  rw [if_neg (by simp;omega)]
  exact hq
theorem zkz1 {x:S_api_Ins} {n locks:Int} {Q:Int→Int→Hp→Prop} (hq:Q (zbv (insOf x) n locks).1 (zbv (insOf x) n locks).2 h):zhp Tryz.prog x n locks Q h:=by
 obtain ⟨o,A,B,C,I⟩:=x
 have hq:Q (zbv ⟨o,A,B,C,I⟩ n locks).1 (zbv ⟨o,A,B,C,I⟩ n locks).2 h:=hq
 unfold zhp
 unfold zbv at hq
 refine letW ?_
 by_cases h1:o<0∨34≤o
 ·rw [if_pos h1] at hq;rw [if_pos (by simp;omega)];exact hq
 rw [if_neg h1] at hq;rw [if_neg (by simp;omega)]
 refine zse (zrp1 ?_)
 dsimp only
 refine zdy (ztu ?_)
 by_cases h2:regP (zba o).1 A≠0
 ·rw [if_pos h2] at hq;rw [if_pos (by simpa using h2)];exact hq
 rw [if_neg h2] at hq;rw [if_neg (by simpa using h2)]
 refine zdy (ztu ?_)
 by_cases h3:regP (zba o).2.1 B≠0
 ·rw [if_pos h3] at hq;rw [if_pos (by simpa using h3)];exact hq
 rw [if_neg h3] at hq;rw [if_neg (by simpa using h3)]
 refine zdy (ztu ?_)
 by_cases h4:regP (zba o).2.2.1 C≠0
 ·rw [if_pos h4] at hq;rw [if_pos (by simpa using h4)];exact hq
 rw [if_neg h4] at hq;rw [if_neg (by simpa using h4)]
 refine letW ?_
 by_cases h5:(zba o).2.2.2=false∧I≠0
 ·rw [if_pos h5] at hq;rw [if_pos (by simp [h5.1,h5.2])];exact hq
 rw [if_neg h5] at hq;rw [if_neg (by intro e;simp at e;exact h5 e)]
 refine letW (letW (letW ?_))
 by_cases h6:(o=22∨o=23)∧(I<0∨n<I)
 ·rw [if_pos h6] at hq;rw [if_pos (by simp;exact h6)];exact hq
 rw [if_neg h6] at hq;rw [if_neg (by intro e;simp at e;exact h6 e)]
 refine letW (letW (letW ?_))
 by_cases h7:(o=29∨o=30)∧(I<0∨locks≤I)
 ·rw [if_pos h7] at hq;rw [if_pos (by simp;exact h7)];exact hq
 rw [if_neg h7] at hq;rw [if_neg (by intro e;simp at e;exact h7 e)]
 exact hq
theorem zla1 {x:S_api_Ins} {n locks:Int} {Q:Int→Hp→Prop} (hq:Q (zbv (insOf x) n locks).1 h):zhn Tryz.prog x n locks Q h:=by
 unfold zhn
 exact zkt (zkz1 hq)
theorem zpm1 {l:Sl} {xs:List S_api_Ins} {locks:Int} {Q:Int→Int→Hp→Prop} (r:InsS h l xs) (hq:∀at_,Q (codeP (xs.map insOf) locks).1 at_ h):zkb Tryz.prog l locks Q h:=by
 unfold zkb
 have hl:l.len=xs.length:=r.1
 unfold codeP at hq
 rw [List.length_map] at hq
 refine letW ?_
 by_cases h1:locks<0∨8<locks
 ·rw [if_pos h1] at hq;rw [if_pos (by simp;omega)];exact hq 0
 rw [if_neg h1] at hq;rw [if_neg (by simp;omega)]
 by_cases h2:256<xs.length
 ·rw [if_pos h2] at hq;rw [if_pos (by simp;omega)];exact hq 256
 rw [if_neg h2] at hq;rw [if_neg (by simp;omega)]
 refine forI (n:=xs.length) (by omega) (by omega) (fun i h'=>h'=h∧(codeR (xs.length:Int) locks ((xs.map insOf).drop i) i).1=(codeR (xs.length:Int) locks (xs.map insOf) 0).1) ⟨rfl,rfl⟩ ?_ ?_
 ·rintro i hi k ⟨rfl,he⟩ K hK
  refine Rs.get (sh:=sh_api_Ins) r (fun _=>rfl) (by omega) (by omega) (by omega) fun x hx=> ?_
  have hx:xs[i]?=some x:=hx
  have hd:(xs.map insOf).drop i=insOf x::(xs.map insOf).drop (i+1):=zku (by rw [List.getElem?_map,hx];rfl)
  rw [hd,codeR] at he
  refine zks (zla1 ?_)
  rw [hl]
  by_cases hw:(zbv (insOf x) (xs.length:Int) locks).1≠0
  ·rw [if_pos hw] at he
   rw [if_pos (by simpa using hw)]
   have:=hq (i:Int)
   rw [←he] at this
   exact this
  ·rw [if_neg hw] at he
   rw [if_neg (by simpa using hw)]
   exact hK k ⟨rfl,by rw [←he];rfl⟩
 ·rintro k ⟨rfl,he⟩
  rw [List.drop_of_length_le (by simp),codeR] at he
  have:=hq 0
  rw [←he] at this
  exact this
theorem zlm {n a b:Int} {Q:Bool→Hp→Prop} (hq:Q (within n a b) h):zgl P n a b Q h:=by
 unfold zgl
 exact letW hq
end
end Lf

namespace Lf
open Go Go.Proofs
section
variable {h:Hp}
theorem zrq1 {l:Sl} {xs:List Int} {n:Nat} {Q:Int→Hp→Prop} (r:Is h l xs) (hn:n≤8) (hq:Q (if xs=[] then 1 else if 64<xs.length then 3 else if (xs.all fun p=>within p 0 ((n:Int)-1))=false then 2 else 0) h):zgk Tryz.prog l (n:Int) Q h:=by
 unfold zgk
 have hl:l.len=xs.length:=r.1
 by_cases h1:xs=[]
 ·rw [if_pos h1] at hq;rw [if_pos (by rw [hl,h1];rfl)];exact hq
 rw [if_neg h1] at hq
 have hp:=List.length_pos_iff.2 h1
 rw [if_neg (by rw [beq_iff_eq];omega)]
 by_cases h2:64<xs.length
 ·rw [if_pos h2] at hq;rw [if_pos (decide_eq_true (by omega))];exact hq
 rw [if_neg h2] at hq
 rw [if_neg (fun e=>h2 (by have:=of_decide_eq_true e;omega))]
 rw [zal (n:=(n:Int)-1) (by omega) (by omega)]
 refine forI (n:=xs.length) (by omega) (by omega) (fun i h'=>h'=h∧∀x∈xs.take i,within x 0 ((n:Int)-1)=true) ⟨rfl,fun x hx=>by simp at hx⟩ ?_ ?_
 ·rintro i hi k ⟨rfl,hall⟩ K hK
  refine Rs.get (sh:=shInt .i64) r (fun _=>rfl) (by omega) (by omega) (by omega) fun (x:Int) hx=> ?_
  have hx:xs[i]?=some x:=hx
  refine zbs (zlm ?_)
  by_cases hw:within x 0 ((n:Int)-1)=true
  ·rw [if_neg (by rw [hw];simp)]
   refine hK k ⟨rfl,fun y hy=> ?_⟩
   rw [List.take_add_one,hx] at hy
   rcases List.mem_append.1 hy with hy | hy
   ·exact hall y hy
   ·have:y=x:=by simpa using hy
    rw [this];exact hw
  ·have hw:within x 0 ((n:Int)-1)=false:=by simpa using hw
   rw [if_pos (by rw [hw];rfl)]
   rw [if_pos (List.all_eq_false.2 ⟨x,List.mem_of_getElem? hx,by rw [hw];simp⟩)] at hq
   exact hq
 ·rintro k ⟨rfl,hall⟩
  rw [List.take_of_length_le (Nat.le_refl _)] at hall
  rw [if_neg (by rw [List.all_eq_true.2 hall];simp)] at hq
  exact hq
theorem zbr2 {P:Program} {l:Sl} {xs:List Int} {Q:Int→Int→Hp→Prop} (r:Us h l xs) (hq:Q (mayP xs).1 (mayP xs).2 h):zpq P l Q h:=zuc1 (P:=P) r hq
theorem zeq2 (a b c d:Bool) {i:Nat} (hi:i<4):List.get?Internal (α:=Value) [.bool a,.bool b,.bool c,.bool d] (0+(i*1))=some (.bool (([a,b,c,d]:List Bool).getD i false)):=by
 match i,hi with
 | 0,_=>rfl
 | 1,_=>rfl
 | 2,_=>rfl
 | 3,_=>rfl
set_option maxRecDepth 20000 in
theorem zij1 {x:S_api_Config} {c:PCfg} {Q:Int→Int→Hp→Prop} (a:CfgAt h x c) (hq:∀at_,Q (cfgE c).1 at_ h):zjw Tryz.prog x Q h:=by
 unfold zjw
 have hll:x.Labels.len=c.labels.length:=a.labels.1
 unfold cfgE cfgP at hq
 refine zxa (zbr2 a.labels ?_)
 dsimp only
 by_cases h1:(mayP c.labels).1≠0
 ·rw [if_pos h1] at hq
  rw [if_pos (by simpa using h1)]
  exact hq 0
 rw [if_neg h1] at hq
 rw [if_neg (by simpa using h1)]
 obtain ⟨hl1,hl2,_⟩:=mayP_zero.1 (Classical.not_not.1 h1)
 rw [hll]
 refine zsc (zrq1 a.table hl2 ?_)
 by_cases h2:c.table=[]
 ·rw [if_pos h2] at hq ⊢
  rw [if_pos (by simp)]
  exact hq 1
 rw [if_neg h2] at hq ⊢
 by_cases h3:64<c.table.length
 ·rw [if_pos h3] at hq ⊢
  rw [if_pos (by simp)]
  exact hq 1
 rw [if_neg h3] at hq ⊢
 by_cases h4:(c.table.all fun p=>within p 0 (c.labels.length-1))=false
 ·rw [if_pos h4] at hq ⊢
  rw [if_pos (by simp)]
  exact hq 1
 rw [if_neg h4] at hq ⊢
 rw [if_neg (by simp)]
 refine zbs (zlm ⟨⟨trivial,trivial,trivial,trivial⟩,zbs (zlm ⟨⟨trivial,trivial,trivial⟩,zbs (zlm ⟨⟨trivial,trivial⟩,zbs (zlm ?_)⟩)⟩)⟩)
 rw [a.fuel,a.lane,a.locks,a.log]
 refine forI (n:=4) rfl (by omega) (fun i h'=>h'=h∧(1≤i→within c.fuel 1 256=true)∧(2≤i→within c.lane 1 64=true)∧(3≤i→within c.locks 0 8=true)∧(4≤i→within c.log 0 4096=true)) ⟨rfl,fun e=>by omega,fun e=>by omega,fun e=>by omega,fun e=>by omega⟩ ?_ ?_
 ·rintro i hi k ⟨rfl,q1,q2,q3,q4⟩ K hK
  refine ⟨⟨by omega,by omega⟩,_,zeq2 _ _ _ _ hi,?_⟩
  match i,hi with
  | 0,_=>
   show if (!(within c.fuel 1 256))=true then _ else _
   by_cases hw:within c.fuel 1 256=true
   ·rw [if_neg (by rw [hw];simp)]
    exact hK k ⟨rfl,fun _=>hw,fun e=>by omega,fun e=>by omega,fun e=>by omega⟩
   ·have hw:within c.fuel 1 256=false:=by simpa using hw
    rw [if_pos (by rw [hw];rfl)]
    rw [if_pos hw] at hq
    exact hq _
  | 1,_=>
   show if (!(within c.lane 1 64))=true then _ else _
   rw [if_neg (by rw [q1 (by omega)];simp)] at hq
   by_cases hw:within c.lane 1 64=true
   ·rw [if_neg (by rw [hw];simp)]
    exact hK k ⟨rfl,fun _=>q1 (by omega),fun _=>hw,fun e=>by omega,fun e=>by omega⟩
   ·have hw:within c.lane 1 64=false:=by simpa using hw
    rw [if_pos (by rw [hw];rfl)]
    rw [if_pos hw] at hq
    exact hq _
  | 2,_=>
   show if (!(within c.locks 0 8))=true then _ else _
   rw [if_neg (by rw [q1 (by omega)];simp),if_neg (by rw [q2 (by omega)];simp)] at hq
   by_cases hw:within c.locks 0 8=true
   ·rw [if_neg (by rw [hw];simp)]
    exact hK k ⟨rfl,fun _=>q1 (by omega),fun _=>q2 (by omega),fun _=>hw,fun e=>by omega⟩
   ·have hw:within c.locks 0 8=false:=by simpa using hw
    rw [if_pos (by rw [hw];rfl)]
    rw [if_pos hw] at hq
    exact hq _
  | 3,_=>
   show if (!(within c.log 0 4096))=true then _ else _
   rw [if_neg (by rw [q1 (by omega)];simp),if_neg (by rw [q2 (by omega)];simp),if_neg (by rw [q3 (by omega)];simp)] at hq
   by_cases hw:within c.log 0 4096=true
   ·rw [if_neg (by rw [hw];simp)]
    exact hK k ⟨rfl,fun _=>q1 (by omega),fun _=>q2 (by omega),fun _=>q3 (by omega),fun _=>hw⟩
   ·have hw:within c.log 0 4096=false:=by simpa using hw
    rw [if_pos (by rw [hw];rfl)]
    rw [if_pos hw] at hq
    exact hq _
 ·rintro k ⟨rfl,q1,q2,q3,q4⟩
  rw [if_neg (by rw [q1 (by omega)];simp),if_neg (by rw [q2 (by omega)];simp),if_neg (by rw [q3 (by omega)];simp),if_neg (by rw [q4 (by omega)];simp)] at hq
  obtain ⟨ps,hps,hall⟩:=a.procs
  have hlp:x.Procs.len=ps.length:=hps.1
  have hlp2:=hall.len
  by_cases h5:c.procs=[]
  ·rw [if_pos h5] at hq
   rw [if_pos (by rw [hlp,hlp2,h5];rfl)]
   exact hq 6
  rw [if_neg h5] at hq
  have hpp:0<c.procs.length:=List.length_pos_iff.2 h5
  rw [if_neg (by rw [beq_iff_eq];omega)]
  by_cases h6:32<c.procs.length
  ·rw [if_pos h6] at hq
   rw [if_pos (decide_eq_true (by omega))]
   exact hq 6
  rw [if_neg h6] at hq
  rw [if_neg (fun e=>h6 (by have:=of_decide_eq_true e;omega))]
  refine forI (n:=ps.length) (by omega) (by omega) (fun i k'=>k'=k∧(zsn c.labels.length c.locks (c.procs.drop i) i).1=(zsn c.labels.length c.locks c.procs 0).1) ⟨rfl,rfl⟩ ?_ ?_
  ·rintro i hi k2 ⟨rfl,he⟩ K hK
   refine Rw.fld hps (fun _=>rfl) (by omega) (sh:=shInt .i64) (fun q=>q.Part) (fun _=>rfl) (by omega) (by omega) fun q hq0=> ?_
   have hq0:ps[i]?=some q:=hq0
   obtain ⟨pp,hpp1,hq1,is,his,hmap⟩:=hall.get hq0
   rw [zku hpp1,zsn] at he
   rw [zal (n:=(c.labels.length:Int)-1) (by omega) (by omega)]
   refine zbs (zlm ?_)
   rw [hq1]
   by_cases h9:within pp.part 0 ((c.labels.length:Int)-1)=false
   ·rw [if_pos h9] at he
    rw [if_pos (by rw [h9];rfl)]
    rw [←he] at hq
    exact hq _
   rw [if_neg h9] at he
   rw [if_neg (by cases hw:within pp.part 0 ((c.labels.length:Int)-1)<;>simp_all)]
   refine Rw.fld hps (fun _=>rfl) (by omega) (sh:=shSl) (fun q=>q.Code) (fun _=>rfl) (by omega) (by omega) fun q' hq'=> ?_
   have hq':ps[i]?=some q':=hq'
   rw [hq0] at hq';cases hq'
   refine zxb (zpm1 his fun at2=> ?_)
   rw [hmap]
   by_cases h10:(codeP pp.code c.locks).1≠0
   ·rw [if_pos h10] at he
    rw [if_pos (by simpa using h10)]
    rw [←he] at hq
    exact hq _
   ·rw [if_neg h10] at he
    rw [if_neg (by simpa using h10)]
    exact hK k2 ⟨rfl,by rw [←he];rfl⟩
  ·rintro k2 ⟨rfl,he⟩
   rw [List.drop_of_length_le (by omega),zsn] at he
   rw [←he] at hq
   exact hq 0
theorem zrr1 {a n:Int} {Q:Bool→Hp→Prop} (ha:InU a) (h0:0≤n) (h1:n≤63) (hq:Q (bit a n.toNat) h):zkf Tryz.prog a n Q h:=by
 unfold zkf
 refine letW ⟨fun _=>h0,letW ?_⟩
 have e:(decide (n≥0)&&decide (n≤63))=true:=by simp;omega
 rw [e,zgw2 ha h0 h1,Bool.true_and]
 exact hq
theorem zuj1 {a b:Int} {Q:Bool→Hp→Prop} (ha:InU a) (hb:InU b) (hq:Q (flows a b) h):zho Tryz.prog a b Q h:=by
 unfold zho
 refine forI (n:=64) rfl (by omega) (fun n k=>k=h∧∀m:Nat,m<n→bit a m=true→bit b m=true) ⟨rfl,fun m hm=>by omega⟩ ?_ ?_
 ·rintro n hn k ⟨rfl,hall⟩ K hK
  refine zmt (zrr1 ha (by omega) (by omega) ?_)
  have goOn:(bit a n=true→bit b n=true)→K (IntKind.wrap .i64 ((n:Int)+1)) k:=fun hh=>hK k ⟨rfl,fun m hm=>by
   by_cases hmn:m<n
   ·exact hall m hmn
   ·have:m=n:=by omega
    rw [this];exact hh⟩
  rw [show ((n:Int)).toNat=n from rfl]
  cases hA:bit a n with
  | false=>
   refine ⟨fun e=>(by cases e),fun _=>⟨false,letW ?_⟩⟩
   rw [if_neg (by simp)]
   exact goOn fun e=>by rw [hA] at e;cases e
  | true=>
   refine ⟨fun _=>zmt (zrr1 hb (by omega) (by omega) (letW ?_)),fun e=>(by cases e)⟩
   rw [show ((n:Int)).toNat=n from rfl]
   cases hB:bit b n with
   | false=>
    rw [if_pos (by simp)]
    have:flows a b=false:=by
     refine Bool.eq_false_iff.2 fun hf=> ?_
     have:=flows_iff.1 hf n hn hA
     rw [hB] at this;cases this
    rw [←this];exact hq
   | true=>
    rw [if_neg (by simp)]
    exact goOn fun _=>hB
 ·rintro k ⟨rfl,hall⟩
  have:flows a b=true:=flows_iff.2 fun m hm=>hall m hm
  rw [←this];exact hq
end
end Lf

namespace Lf
open Go Go.Proofs
theorem loopN {n:Nat} (hb:n≤4611686018427387904) (I:Nat→Hp→Prop) {B:(Int→Hp→Prop)→Int→Hp→Prop} {h0:Hp} (h00:I 0 h0)
  (hs:∀i:Nat,i≤n→∀h,I i h→∀K:Int→Hp→Prop,(i<n→∀h',I (i+1) h'→K (IntKind.wrap .i64 ((i:Int)+1)) h')→B K (i:Int) h):LoopW1 B (0:Int) h0:=by
 refine LoopW1.intro (fun t h=>∃i:Nat,t=(i:Int)∧i≤n∧I i h) (fun t _=>((n:Int)-t).toNat) ⟨0,rfl,by omega,h00⟩ ?_
 rintro t h ⟨i,rfl,hi,hI⟩
 refine hs i hi h hI _ fun hlt h' hI'=> ?_
 rw [zal (by omega) (by omega)]
 exact ⟨⟨i+1,by omega,by omega,hI'⟩,by omega⟩
theorem loopA {α:Type} {n:Nat} (hb:n≤4611686018427387904) (I:Nat→α→Hp→Prop) {B:(α→Int→Hp→Prop)→α→Int→Hp→Prop} {x0:α} {h0:Hp} (h00:I 0 x0 h0)
  (hs:∀i:Nat,i≤n→∀x h,I i x h→∀K:α→Int→Hp→Prop,(i<n→∀x' h',I (i+1) x' h'→K x' (IntKind.wrap .i64 ((i:Int)+1)) h')→B K x (i:Int) h):LoopW2 B x0 (0:Int) h0:=by
 refine LoopW2.intro (fun x t h=>∃i:Nat,t=(i:Int)∧i≤n∧I i x h) (fun _ t _=>((n:Int)-t).toNat) ⟨0,rfl,by omega,h00⟩ ?_
 rintro x t h ⟨i,rfl,hi,hI⟩
 refine hs i hi x h hI _ fun hlt x' h' hI'=> ?_
 rw [zal (by omega) (by omega)]
 exact ⟨⟨i+1,by omega,by omega,hI'⟩,by omega⟩
theorem zne1 {y r:Bool} {A B:Prop} (hy:y=true↔¬A) (hr:(!y)=true→(r=true↔B)):(y || !r)=true↔¬(A∧B):=by
 cases y with
 | true=>simp only [Bool.true_or,true_iff];exact fun e=>hy.1 rfl e.1
 | false=>
  have hA:A:=Classical.not_not.1 fun hn=>by have:=hy.2 hn;cases this
  have hr:=hr rfl
  cases r with
  | true=>simp only [Bool.not_true,Bool.or_false];exact ⟨fun e=>(by cases e),fun hn=>absurd ⟨hA,hr.1 rfl⟩ hn⟩
  | false=>simp only [Bool.not_false,Bool.or_true,true_iff];exact fun e=>by have:=hr.2 e.2;cases this
theorem zik1 {y r:Bool} {A B:Prop} (hy:y=true↔¬A) (hr:A→(r=true↔¬B)):(y || r)=true↔¬(A∧B):=by
 rw [←Bool.not_not r]
 refine zne1 hy fun e=> ?_
 have hA:A:=Classical.not_not.1 fun hn=>by have:=hy.2 hn;rw [this] at e;cases e
 have:=hr hA
 cases r with
 | true=>exact ⟨fun e=>(by cases e),fun e=>absurd e (this.1 rfl)⟩
 | false=>exact ⟨fun _=>Classical.not_not.1 fun hn=>(by have:=this.2 hn;cases this),fun _=>rfl⟩
theorem zoa {c:PCfg} (ok:(cfgE c).1=0):(1≤c.labels.length∧c.labels.length≤8)∧(0≤c.locks∧c.locks≤8)∧(0≤c.log∧c.log≤4096)∧(1≤c.lane∧c.lane≤64)∧(1≤c.procs.length∧c.procs.length≤32)∧
  ∀p∈c.procs,(0≤p.part∧p.part≤c.labels.length-1)∧p.code.length≤256∧∀x∈p.code,(zbv x p.code.length c.locks).1=0:=by
 obtain ⟨e1,e2,e3,e4,e5,e6,e7,e8,e9,e10,e11⟩:=cfgP_zero.1 ok
 obtain ⟨l1,l2,l3⟩:=mayP_zero.1 e1
 have:=List.length_pos_iff.2 l1
 have:=List.length_pos_iff.2 e9
 refine ⟨⟨by omega,by omega⟩,e7,e8,e6,⟨by omega,e10⟩,fun p hp=>⟨(e11 p hp).1,(zfr e7).1 (e11 p hp).2⟩⟩
def boxL (x:S_api_Config) (y:S_api_State):List Value:=[x.Labels.v,x.Table.v,(.int .i64 x.Fuel),(.int .i64 x.Lane),(.int .i64 x.Locks),(.int .i64 x.Log),x.Procs.v,(.int .i64 y.Tick),y.Parts.v,y.Procs.v]
structure RM (h:Hp) (b:Nat) (x:S_api_Config) (y:S_api_State) (c:PCfg) (s:PState):Prop where
 box:Blk h b (boxL x y)
 cfg:CfgAt h x c
 st:StateAt h y s
 ok:(cfgE c).1=0
 inU:∀l∈c.labels,InU l
 sizes:zrd1 c s
section
variable {h:Hp} {b:Nat} {x:S_api_Config} {y:S_api_State} {c:PCfg} {s:PState}
theorem RM.mono {h':Hp} (hl:h≤h') (k:RM h b x y c s):RM h' b x y c s:=⟨k.box.le hl,k.cfg.mono hl,k.st.mono hl,k.ok,k.inU,k.sizes⟩
theorem zob {P:Program} {n a b:Int} {Q:Bool→Hp→Prop} (hq:∀r,(r=true↔a≤n∧n≤b)→Q r h):zgm P n a b Q h:=by
 unfold zgm
 exact letW (hq _ (by simp))
theorem zqp {P:Program} {n:Int} {Q:Bool→Hp→Prop} (hq:∀r,(r=true↔Cnt n)→Q r h):zfk P n Q h:=by
 unfold zfk
 exact letW (hq _ (by simp [Cnt]))
theorem zuk1 {P:Program} (k:RM h b x y c s) {p:Int} {z:PProcess} (h0:0≤p) (hz:s.procs[p.toNat]?=some z) {Q:Bool→Hp→Prop} (hq:Q (decide (z.state<5)) h):zdg P (some ⟨b,0,none⟩) p Q h:=by
 unfold zdg
 obtain ⟨qs,hqs,hall⟩:=k.st.procs
 obtain ⟨q,hq1,hq2⟩:=hall.get' hz
 have l1:=(List.getElem?_eq_some_iff.1 hq1).1
 refine zab (ld_at (sh:=shSl) y.Procs (k.box.ldIs (off:=9) (n:=1) rfl) ?_)
 refine Rw.fld hqs (fun _=>rfl) (by omega) (sh:=shInt .i64) (fun q=>q.State) (fun _=>rfl) h0 (by omega) fun q' hq'=> ?_
 rw [hq1] at hq';cases hq'
 rw [hq2.state]
 exact hq
theorem zpn1 (k:RM h b x y c s) {p:Int} {i:Nat} {Q:Bool→Hp→Prop} (hq:∀r,(r=true↔ofR c s p i)→Q r h):zcq Tryz.prog (some ⟨b,0,none⟩) p (i:Int) Q h:=by
 unfold zcq
 obtain ⟨ps,hps,hall⟩:=k.cfg.procs
 have hlp:x.Procs.len=ps.length:=hps.1
 have hl2:=hall.len
 have hl3:=k.sizes.1.2.2
 have hB:LdIs h (Addr.add (Addr.add ⟨b,0,none⟩ 0) 6) (zad (shSl.enc x.Procs)):=k.box.ldIs (off:=6) (n:=1) rfl
 refine zab (ldC (sh:=shSl) x.Procs hB (letW (zab (ldC (sh:=shSl) x.Procs hB ?_))))
 refine Rw.fldC hps (fun _=>rfl) (by omega) (sh:=shInt .i64) (fun q=>q.Part) (fun _=>rfl) (0:Int) (fun e=>by simp at e;omega) fun v hx=>fun y1 hy1=> ?_
 have hO:y1=true↔ofP c p i:=by
  rw [hy1]
  unfold ofP
  constructor
  ·intro e
   simp only [Bool.and_eq_true,decide_eq_true_eq,beq_iff_eq] at e
   obtain ⟨q,hq1,hq2⟩:=hx (by simp;omega)
   obtain ⟨y,hy1,hy2,_⟩:=hall.get hq1
   exact ⟨e.1.1,y,hy1,by rw [←hy2,←e.2,hq2]⟩
  ·rintro ⟨h0,y,hy1,hy2⟩
   obtain ⟨q,hq1,hq2,_⟩:=hall.get' hy1
   have hlt:=(List.getElem?_eq_some_iff.1 hq1).1
   obtain ⟨q',hq1',hq2'⟩:=hx (by simp;omega)
   rw [hq1] at hq1';cases hq1'
   simp only [Bool.and_eq_true,decide_eq_true_eq,beq_iff_eq]
   exact ⟨⟨h0,by omega⟩,by rw [hq2',←hy2,←hq2]⟩
 refine effI (fun r=>r=true↔stP s p fun z=>z.state<5) false (fun e hk=> ?_) fun r hr=>letW (hq _ ?_)
 ·obtain ⟨h0,w,hw,_⟩:=hO.1 e
  have hwl:=(List.getElem?_eq_some_iff.1 hw).1
  have hz:s.procs[p.toNat]?=some (s.procs[p.toNat]'(by omega)):=List.getElem?_eq_getElem (by omega)
  refine zms (zuk1 k h0 hz (hk _ ?_))
  rw [decide_eq_true_eq]
  exact ⟨fun e=>⟨_,hz,e⟩,fun ⟨z,h1,h2⟩=>by rw [hz] at h1;cases h1;exact h2⟩
 ·unfold ofR
  cases y1 with
  | true=>rw [Bool.true_and,hr rfl];exact ⟨fun e=>⟨hO.1 rfl,e⟩,fun e=>e.2⟩
  | false=>rw [Bool.false_and];exact ⟨fun e=>(by cases e),fun e=>by have:=hO.2 e.1;cases this⟩
theorem zbs2 (k:RM h b x y c s) {i:Nat} {Q:Sl→Hp→Prop} (hq:∀l h',h≤h'→l.len=manyP c i→Q l h'):zec Tryz.prog (some ⟨b,0,none⟩) (i:Int) Q h:=by
 unfold zec
 obtain ⟨-, -, -, -,b5, -⟩:=zoa k.ok
 have hcnt:∀j:Nat,((c.procs.take j).filter fun y=>decide (y.part=(i:Int))).length≤j:=fun j=>by
  have h1:=List.length_filter_le (fun y:PProc=>decide (y.part=(i:Int))) (c.procs.take j)
  have h2:(c.procs.take j).length≤j:=by rw [List.length_take];omega
  omega
 refine zaq1 (h0:=h) (xs:=([]:List Int)) (enc:=fun x=>zad ((shInt .i64).enc x)) (sz:=1) (Hp.le_refl h) rfl (fun _=>rfl) fun a h1 l1 o1=> ?_
 refine loopA (n:=c.procs.length) (by omega) (fun j l h'=>h≤h'∧∃xs:List Int,OwnI h h' l xs∧xs.length=((c.procs.take j).filter fun y=>decide (y.part=(i:Int))).length) ⟨l1,[],o1,by simp⟩ ?_
 rintro j hj l h2 ⟨l2,xs,o2,hxs⟩ K hK
 have k2:=k.mono l2
 obtain ⟨ps,hps,hall⟩:=k2.cfg.procs
 have hlp:x.Procs.len=ps.length:=hps.1
 have hl2:=hall.len
 have hB:LdIs h2 (Addr.add (Addr.add ⟨b,0,none⟩ 0) 6) (zad (shSl.enc x.Procs)):=k2.box.ldIs (off:=6) (n:=1) rfl
 refine zab (ld_at (sh:=shSl) x.Procs hB ?_)
 by_cases hlt:j<c.procs.length
 ·rw [if_pos (decide_eq_true (by omega))]
  refine JoinW1.intro (fun l h'=>h≤h'∧∃xs:List Int,OwnI h h' l xs∧xs.length=((c.procs.take (j+1)).filter fun y=>decide (y.part=(i:Int))).length) ?_ ?_
  ·refine zab (ld_at (sh:=shSl) x.Procs hB ?_)
   refine Rw.fld hps (fun _=>rfl) (by omega) (sh:=shInt .i64) (fun q=>q.Part) (fun _=>rfl) (by omega) (by omega) fun q hq0=> ?_
   have hq0:ps[j]?=some q:=hq0
   obtain ⟨z,hy1,hy2,_⟩:=hall.get hq0
   rw [List.take_add_one,hy1,List.filter_append]
   have hc:=hcnt j
   rw [hy2]
   by_cases hp:z.part=(i:Int)
   ·rw [if_pos (by simpa using hp)]
    refine zbk2 (xs:=xs) (ys:=[(j:Int)]) l2 o2 rfl rfl (fun _=>rfl) (fun _=>rfl) rfl (by simp;omega) fun l' h' l3 o3 _=> ?_
    exact ⟨l3,_,o3,by simp [hp,hxs]⟩
   ·rw [if_neg (by simpa using hp)]
    exact ⟨l2,xs,o2,by simp [hp,hxs]⟩
  ·rintro l' h' ⟨l3,xs',o3,hxs'⟩
   exact hK hlt l' h' ⟨l3,xs',o3,hxs'⟩
 ·rw [if_neg (fun e=>hlt (by have:=of_decide_eq_true e;omega))]
  refine hq _ _ l2 ?_
  rw [List.take_of_length_le (by omega)] at hxs
  have:=(o2.rw fun _=>rfl).1
  show l.len=_
  rw [this,hxs];rfl
theorem zpo1 (k:RM h b x y c s) {i j:Nat} (hi:i<c.labels.length) (hj:j<c.labels.length) {Q:Bool→Hp→Prop} (hq:Q (fl c.labels (i:Int) (j:Int)) h):zcd Tryz.prog (some ⟨b,0,none⟩) (i:Int) (j:Int) Q h:=by
 unfold zcd
 have hB:LdIs h (Addr.add (Addr.add ⟨b,0,none⟩ 0) 0) (zad (shSl.enc x.Labels)):=k.box.ldIs (off:=0) (n:=1) rfl
 refine zab (ld_at (sh:=shSl) x.Labels hB ?_)
 refine Rs.get (sh:=shInt .u64) k.cfg.labels (fun _=>rfl) (by omega) (by omega) (by omega) fun (u:Int) hu=> ?_
 refine zab (ld_at (sh:=shSl) x.Labels hB ?_)
 refine Rs.get (sh:=shInt .u64) k.cfg.labels (fun _=>rfl) (by omega) (by omega) (by omega) fun (v:Int) hv=> ?_
 rw [fl_in (by omega) hu hv] at hq
 exact ztq (zuj1 (k.inU _ (List.mem_of_getElem? hu)) (k.inU _ (List.mem_of_getElem? hv)) hq)
end
end Lf

namespace Lf
open Go Go.Proofs
def Wr (h0 h:Hp) (b0:Nat) (bs:List UInt8):Prop:=
 ∃(l:Sl) (F:List Nat),Blk h b0 [l.v]∧h0 b0=none∧h0≤h∧(OwnF h 1 eB l bs F∨F=[]∧Bs h0 l bs∧l.len=l.cap∧bs.length≤5)∧b0∉F∧∀c∈F,h0 c=none
section
variable {h0 h:Hp} {b0:Nat} {bs:List UInt8}
theorem Wr.le (w:Wr h0 h b0 bs):h0≤h:=by
 obtain ⟨l,F,_,_,h3,_⟩:=w
 exact h3
theorem zfv2 (w:Wr h0 h b0 bs):∃l:Sl,LdIs h ⟨b0,0,none⟩ (zad (shSl.enc l))∧∀h2,h≤h2→∀(x:Sl) (ys:List UInt8) (g:Addr→Addr),g ⟨b0,0,none⟩=⟨b0,0,none⟩→Rw h2 1 eB x ys→ys≠ []→bs.length+ys.length≤1099511627776→∀K:Hp→Prop,
  (∀h',Wr h0 h' b0 (bs++ys)→K h')→zaj 1 1 [.int .u8 0] l x (fun r h3=>NilW none (some ⟨b0,0,none⟩) fun p1=>StW h3 (g p1) [r.v] K) h2:=by
 obtain ⟨l,F,hb,hn0,hle,hF,hbF,hF0⟩:=w
 refine ⟨l,hb.ldIs (off:=0) (n:=1) rfl,fun h2 hle2 x ys g hg hx hne hlen K hK=> ?_⟩
 have hb2:=hb.le hle2
 have hend:∀(r:Sl) (h3:Hp) (F3:List Nat),Blk h3 b0 [l.v]→h0≤h3→OwnF h3 1 eB r (bs++ys) F3→b0∉F3→(∀c∈F3,h0 c=none)→NilW none (some ⟨b0,0,none⟩) fun p1=>StW h3 (g p1) [r.v] K:=fun r h3 F3 k1 k2 k3 k4 k5=>by
  refine zab ?_
  rw [hg]
  refine zdp k1 (by simp) fun h4 m4 k6=> ?_
  refine hK h4 ⟨r,F3,by simpa using k6,hn0,(m4.le k2 fun b hb=>by rw [List.mem_singleton.1 hb];exact hn0).1,.inl (k3.mv m4 fun b hb e=> ?_),k4,k5⟩
  rw [List.mem_singleton.1 e] at hb
  exact k4 hb
 rcases hF with hF | ⟨rfl,hB,hfull, -⟩
 ·have hF2:OwnF h2 1 eB l bs F:=hF.same fun b hb=>by
   cases e:h b with
   | none=>exact absurd e (hF.known b hb)
   | some o=>exact hle2 b o e
  refine appF hF2 hx zcb eB_ok rfl (by omega) fun r h3 F3 hF3 m3=> ?_
  have hm:=m3.le (Hp.le_trans hle hle2) hF0
  refine hend r h3 F3 (hb2.mv m3 hbF) hm.1 hF3 (fun e=> ?_) hm.2
  rcases m3.from_ b0 e with e | e
  ·exact hbF e
  ·exact hb2.known e
 ·refine zwu1 (h0:=h2) (Hp.le_refl _) (Rw.mono (Hp.le_trans hle hle2) hB) hfull hx hne zcb eB_ok rfl (by omega) fun r h3 hle3 o3 _=> ?_
  obtain ⟨F3,hF3,hn3⟩:=o3.ownF
  refine hend r h3 F3 (hb2.le hle3) (Hp.le_trans hle (Hp.le_trans hle2 hle3)) hF3 (fun e=>hb2.known (hn3 b0 e)) fun c hc=>zbc (Hp.le_trans hle hle2) (hn3 c hc)
theorem zmx {P:Program} {n m:Int} {k:Nat} {Q:Hp→Prop} (w:Wr h0 h b0 bs) (hm:m=(k:Int)) (hk8:k≤8) (hb:bs.length+k≤1099511627776) (hk:∀h',Wr h0 h' b0 (bs++leB n k)→Q h'):zlx P (some ⟨b0,0,none⟩) n m Q h:=by
 unfold zlx
 refine forI (n:=k) hm (by omega) (fun i h'=>Wr h0 h' b0 (bs++(leB n k).take i)) (by simpa using w) (fun i hi h1 w1 K hK=> ?_) fun h' w'=> ?_
 ·obtain ⟨l,hl,happ⟩:=zfv2 w1
  obtain ⟨e1,e2⟩:=zwr1 (IntKind.wrap .u64 n) (i:=(i:Int)) (by omega) (by omega)
  refine zab (ld_at l hl ⟨by rw [e1];omega,?_⟩)
  rw [e1,e2]
  have hbyte:=ztz1 (IntKind.wrap .u64 n) k i hi
  rw [zcm hk8] at hbyte
  refine newF (xs:=[UInt8.ofNat ((IntKind.wrap .u64 n / ((256^(i:Int).toNat:Nat):Int))%256).toNat]) (enc:=eB) (sz:=1) rfl zcb fun b h2 _ hle2 _ o2=> ?_
  refine ⟨⟨zev hle2 hl,trivial⟩,?_⟩
  refine happ h2 hle2 _ _ (fun p=>p.add 0) rfl (o2.rw zcb) (by simp) (by simp;omega) _ fun h3 w3=>hK h3 ?_
  rw [List.take_add_one,hbyte,←List.append_assoc]
  exact w3
 ·rw [List.take_of_length_le (by rw [zaf];omega)] at w'
  exact hk h' w'
theorem zbx {n m:Int} {k:Nat} {Q:Hp→Prop} (w:Wr h0 h b0 bs) (hm:m=(k:Int)) (hk8:k≤8) (hb:bs.length+k≤1099511627776) (hk:∀h',Wr h0 h' b0 (bs++leB n k)→Q h'):zjs Tryz.prog (some ⟨b0,0,none⟩) n m Q h:=by
 unfold zjs
 exact zbi (zmx w hm hk8 hb hk)
theorem zpp1 {es:List (List UInt8)} {i:Nat} {e:List UInt8} (he:es[i]?=some e):(bs++(es.take i).flatten)++e=bs++(es.take (i+1)).flatten∧(bs++(es.take i).flatten).length+e.length≤bs.length+es.flatten.length:=by
 constructor
 ·rw [List.take_add_one,he];simp
 ·obtain ⟨hi,rfl⟩:=List.getElem?_eq_some_iff.1 he
  have:es.flatten=(es.take i).flatten++(es[i]++(es.drop (i+1)).flatten):=by
   have h:=congrArg List.flatten (List.take_append_drop i es)
   rw [List.flatten_append,List.drop_eq_getElem_cons hi,List.flatten_cons] at h
   exact h.symm
  rw [this]
  simp
  omega
end
theorem wrFor {h0 h:Hp} {b0:Nat} {bs:List UInt8} {sh:Shape} {sz:Nat} {src:Sl} {xs:List sh.T} {es:List (List UInt8)} (B:Int→sh.T→(Hp→Prop)→Hp→Prop) {X:Hp→Prop} (henc:∀x,(zad (sh.enc x)).length=sz) (hsz:0<sz)
  (r:Rs h0 sh sz src xs) (w:Wr h0 h b0 bs) (hes:es.length=xs.length) (hb:bs.length+es.flatten.length≤1099511627776) (hn:xs.length≤4611686018427387904)
  (hs:∀(i:Nat) x e bs' h1 k,xs[i]?=some x→es[i]?=some e→Wr h0 h1 b0 bs'→bs'.length+e.length≤1099511627776→(∀h',Wr h0 h' b0 (bs'++e)→k h')→B (i:Int) x k h1)
  (hx:∀h',Wr h0 h' b0 (bs++es.flatten)→X h'):
  LoopW1 (α1:=Int) (fun again t h1=>(if (decide (t<((src.len:Nat):Int)))=true then ((InB src.base src.len t)∧LdW none sh h1 (sat src.base sz t) fun x=>B t x (fun h'=>again (IntKind.wrap .i64 (t+(1:Int))) h') h1) else X h1)) (0:Int) h:=by
 have hl:=r.1
 refine forI (n:=xs.length) (by omega) hn (fun i h'=>Wr h0 h' b0 (bs++(es.take i).flatten)) (by simpa using w) (fun i hi h1 w1 K hK=> ?_) fun h' w'=> ?_
 ·refine Rs.get (sh:=sh) (Rw.mono w1.le r) henc hsz (by omega) (by omega) fun x hxx=> ?_
  have he:es[i]?=some (es[i]'(by omega)):=List.getElem?_eq_getElem (by omega)
  obtain ⟨s1,s2⟩:=zpp1 (bs:=bs) he
  refine hs i x _ _ h1 _ hxx he w1 (by omega) fun h' w'=>hK h' ?_
  rw [←s1];exact w'
 ·rw [List.take_of_length_le (by omega)] at w'
  exact hx h' w'
end Lf

namespace Lf
open Go Go.Proofs
theorem zrs1 {n:Int} {k:Nat} (hk:k≤8):leB (IntKind.wrap .i64 n) k=leB n k:=by
 refine zrj1 ?_
 have h1:∃q:Int,IntKind.wrap .i64 n=n+q*18446744073709551616:=by
  unfold IntKind.wrap
  simp only [IntKind.signed,IntKind.bits]
  refine ⟨if n%18446744073709551616<9223372036854775808 then -(n / 18446744073709551616) else -(n / 18446744073709551616)-1,?_⟩
  simp
  split<;>split<;>omega
 obtain ⟨q,hq⟩:=h1
 rw [hq]
 match k,hk with
 | 0,_=>omega
 | 1,_=>omega
 | 2,_=>omega
 | 3,_=>omega
 | 4,_=>omega
 | 5,_=>omega
 | 6,_=>omega
 | 7,_=>omega
 | 8,_=>omega
theorem zmy {α:Type} {f:α→List UInt8} {B:Nat}:∀(l:List α),(∀x,(f x).length=B)→(l.map f).flatten.length=B*l.length
 | [],_=>by simp
 | x::l,hf=>by simp only [List.map_cons,List.flatten_cons,List.length_append,hf,zmy l hf,List.length_cons];rw [Nat.mul_add];omega
section
variable {h0 h:Hp} {b0:Nat} {bs:List UInt8} {Q:Hp→Prop}
theorem zbt2 {x:S_api_Lane} {p:PLane} (w:Wr h0 h b0 bs) (a:LaneAt h0 x p) (hb:bs.length+(laneB p).length≤1099511627776) (hk:∀h',Wr h0 h' b0 (bs++laneB p)→Q h'):zma Tryz.prog (some ⟨b0,0,none⟩) x Q h:=by
 unfold zma
 obtain ⟨ws,hws,hmap⟩:=a.waiters
 have hvl:x.Values.len=p.values.length:=a.values.1
 have hwl:x.Waiters.len=ws.length:=hws.1
 have hwl2:p.waiters.length=ws.length:=by rw [←hmap,List.length_map]
 have hL:(laneB p).length=6+(p.values.map fun v=>leB v 8).flatten.length+(p.waiters.map ziz).flatten.length:=by
  simp only [laneB,List.length_append,zaf,List.flatMap_def]
  omega
 have hv8:(p.values.map fun v=>leB v 8).flatten.length=8*p.values.length:=zmy _ fun _=>zaf _ _
 have hw9:(p.waiters.map ziz).flatten.length=9*p.waiters.length:=zmy _ fun _=>by simp [ziz,zaf]
 refine zab (zao (zbx (k:=1) w rfl (by omega) (by omega) fun h1 w1=> ?_))
 refine wrFor (sh:=shInt .i64) (es:=p.values.map fun v=>leB v 8) (fun _ (x1:Int) k h2=>NilW none (some ⟨b0,0,none⟩) fun p1=>Call0 Tryz.prog zax [(.pointer (some (Addr.add p1 0))),(.int .i64 x1),(.int .i64 (8:Int))] k h2)
  (fun _=>rfl) (by omega) a.values w1 (by simp) (by simp only [List.length_append,zaf];omega) (by omega) (fun i v e bs' h2 k hv he w2 hb2 hk2=> ?_) fun h2 w2=> ?_
 ·rw [List.getElem?_map,hv] at he
  cases he
  exact zab (zbi (zmx (k:=8) w2 rfl (by omega) (by simpa [zaf] using hb2) hk2))
 refine zab (zao (zbx (k:=1) w2 rfl (by omega) (by simp only [List.length_append,zaf];omega) fun h3 w3=> ?_))
 refine wrFor (sh:=sh_api_Waiter) (es:=p.waiters.map ziz) (fun _ x1 k h4=>NilW none (some ⟨b0,0,none⟩) fun p2=>
   Call0 Tryz.prog zai [(.pointer (some (Addr.add p2 0))),(.int .i64 x1.Proc),(.int .i64 (1:Int))] (fun h5=>
   NilW none (some ⟨b0,0,none⟩) fun p3=>Call0 Tryz.prog zax [(.pointer (some (Addr.add p3 0))),(.int .i64 x1.Value_),(.int .i64 (8:Int))] k h5) h4)
  (fun _=>rfl) (by omega) hws w3 (by simp [hwl2]) (by simp only [List.length_append,zaf];omega) (by omega) (fun i v e bs' h4 k hv he w4 hb4 hk4=> ?_) fun h4 w4=> ?_
 ·rw [←hmap,List.map_map,List.getElem?_map,hv] at he
  cases he
  have hb4:bs'.length+9≤1099511627776:=by simpa [ziz,zaf] using hb4
  refine zab (zao (zbx (k:=1) w4 rfl (by omega) (by omega) fun h5 w5=> ?_))
  refine zab (zbi (zmx (k:=8) w5 rfl (by omega) (by simp only [List.length_append,zaf];omega) fun h6 w6=>hk4 h6 ?_))
  rw [List.append_assoc] at w6
  exact w6
 refine zab (zao (zbx (k:=2) w4 rfl (by omega) (by simp only [List.length_append,zaf];omega) fun h5 w5=> ?_))
 refine zab (zao (zbx (k:=2) w5 rfl (by omega) (by simp only [List.length_append,zaf];omega) fun h6 w6=>hk h6 ?_))
 rw [hvl,hwl,←hwl2,a.taken,a.dropped] at w6
 simpa [laneB,List.append_assoc,List.flatMap_def] using w6
end
end Lf

namespace Lf
open Go Go.Proofs
section
variable {h0 h:Hp} {b0:Nat} {bs:List UInt8} {Q:Hp→Prop}
theorem zbu2 {α β:Type} {l:List α} {m:List β} {i:Nat} {z:α×β} (h:(l.zip m)[i]?=some z):l[i]?=some z.1∧m[i]?=some z.2:=by
 rw [List.getElem?_zip_eq_some] at h
 exact h
set_option maxRecDepth 20000 in
theorem zbv2 {x:S_api_Part} {p:PPart} (w:Wr h0 h b0 bs) (a:PartAt h0 x p) (hoq:p.owners.length=p.queues.length) (hb:bs.length+(partB p).length≤1099511627776) (hk:∀h',Wr h0 h' b0 (bs++partB p)→Q h'):zly Tryz.prog (some ⟨b0,0,none⟩) x Q h:=by
 unfold zly
 obtain ⟨es,hes,hmap⟩:=a.log
 obtain ⟨qs,hqs,hallq⟩:=a.queues
 have hel:x.Log.len=es.length:=hes.1
 have hol:x.Owners.len=p.owners.length:=a.owners.1
 have hql:x.Queues.len=qs.length:=hqs.1
 have hql2:=hallq.len
 have hxl:p.log.length=es.length:=by rw [←hmap,List.length_map]
 have hlog:(p.log.map zow).flatten.length=17*p.log.length:=zmy _ fun _=>by simp [zow,zaf]
 have hzl:(p.owners.zip p.queues).length=p.owners.length:=by rw [List.length_zip];omega
 have hL:(partB p).length=7+(p.log.map zow).flatten.length+((p.owners.zip p.queues).map lockB).flatten.length:=by
  simp only [partB,List.length_append,zaf,List.flatMap_def]
  omega
 have hbnd:p.owners.length≤((p.owners.zip p.queues).map lockB).flatten.length:=by
  rw [←hzl]
  generalize p.owners.zip p.queues=z
  induction z with
  | nil=>simp
  | cons y z ih=>
   have:0<(lockB y).length:=by simp [lockB,zaf];omega
   simp only [List.map_cons,List.flatten_cons,List.length_append,List.length_cons]
   omega
 refine zab (zao (zbx (k:=1) w rfl (by omega) (by omega) fun h1 w1=> ?_))
 refine zab (zao (zbx (k:=2) w1 rfl (by omega) (by simp only [List.length_append,zaf];omega) fun h2 w2=> ?_))
 refine wrFor (sh:=sh_api_Entry) (es:=p.log.map zow) (fun _ x1 k h3=>NilW none (some ⟨b0,0,none⟩) fun p2=>
   Call0 Tryz.prog zax [(.pointer (some (Addr.add p2 0))),(.int .i64 x1.Tick),(.int .i64 (8:Int))] (fun h4=>
   NilW none (some ⟨b0,0,none⟩) fun p3=>
   Call0 Tryz.prog zai [(.pointer (some (Addr.add p3 0))),(.int .i64 x1.Proc),(.int .i64 (1:Int))] (fun h5=>
   NilW none (some ⟨b0,0,none⟩) fun p4=>
   Call0 Tryz.prog zax [(.pointer (some (Addr.add p4 0))),(.int .i64 x1.Value_),(.int .i64 (8:Int))] k h5) h4) h3)
  (fun _=>rfl) (by omega) hes w2 (by simp [hxl]) (by simp only [List.length_append,zaf];omega) (by omega) (fun i v e bs' h3 k hv he w3 hb3 hk3=> ?_) fun h3 w3=> ?_
 ·rw [←hmap,List.map_map,List.getElem?_map,hv] at he
  cases he
  have hb3:bs'.length+17≤1099511627776:=by simpa [zow,zaf] using hb3
  refine zab (zbi (zmx (k:=8) w3 rfl (by omega) (by omega) fun h4 w4=> ?_))
  refine zab (zao (zbx (k:=1) w4 rfl (by omega) (by simp only [List.length_append,zaf];omega) fun h5 w5=> ?_))
  refine zab (zbi (zmx (k:=8) w5 rfl (by omega) (by simp only [List.length_append,zaf];omega) fun h6 w6=>hk3 h6 ?_))
  rw [List.append_assoc,List.append_assoc] at w6
  exact w6
 refine zab (zao (zbx (k:=2) w3 rfl (by omega) (by simp only [List.length_append,zaf];omega) fun h4 w4=> ?_))
 refine zab (zao (zbx (k:=2) w4 rfl (by omega) (by simp only [List.length_append,zaf];omega) fun h5 w5=> ?_))
 refine wrFor (sh:=shInt .i64) (es:=(p.owners.zip p.queues).map lockB) (fun t (x1:Int) k h6=>NilW none (some ⟨b0,0,none⟩) fun p4=>
   Call0 Tryz.prog zai [(.pointer (some (Addr.add p4 0))),(.int .i64 (IntKind.wrap .i64 (x1+(1:Int)))),(.int .i64 (1:Int))] (fun h7=>
   NilW none (some ⟨b0,0,none⟩) fun p5=>
   ((InB x.Queues.base x.Queues.len t)∧LdW none shSl h7 (sat x.Queues.base 1 t) fun x2=>
   Call0 Tryz.prog zai [(.pointer (some (Addr.add p5 0))),(.int .i64 ((x2.len:Nat):Int)),(.int .i64 (1:Int))] (fun h8=>
   ((InB x.Queues.base x.Queues.len t)∧LdW none shSl h8 (sat x.Queues.base 1 t) fun x3=>
   LoopW1 (α1:=Int) (fun again2 t91 h9=>
   (if (decide (t91<((x3.len:Nat):Int)))=true then
   ((InB x3.base x3.len t91)∧LdW none (shInt .i64) h9 (sat x3.base 1 t91) fun x4=>
   NilW none (some ⟨b0,0,none⟩) fun p6=>
   Call0 Tryz.prog zai [(.pointer (some (Addr.add p6 0))),(.int .i64 x4),(.int .i64 (1:Int))] (fun h10=>
   again2 (IntKind.wrap .i64 (t91+(1:Int))) h10) h9)
   else k h9)) (0:Int) h8)) h7)) h6)
  (fun _=>rfl) (by omega) a.owners w5 (by rw [List.length_map,hzl]) (by simp only [List.length_append,zaf];omega) (by omega) (fun i o e bs' h6 k ho he w6 hb6 hk6=> ?_) fun h6 w6=> ?_
 ·rw [List.getElem?_map] at he
  cases hz:(p.owners.zip p.queues)[i]? with
  | none=>rw [hz] at he;cases he
  | some z=>
   rw [hz] at he
   cases he
   obtain ⟨z1,z2⟩:=zbu2 hz
   rw [ho] at z1
   have z1:o=z.1:=Option.some.inj z1
   obtain ⟨q,hq1,hq2⟩:=hallq.get' z2
   have hi:=(List.getElem?_eq_some_iff.1 hq1).1
   have hqlen:Sl.len q=z.2.length:=hq2.1
   have hz8:(z.2.map fun p=>leB p 1).flatten.length=1*z.2.length:=zmy _ fun _=>zaf _ _
   have hlk:(lockB z).length=2+(z.2.map fun p=>leB p 1).flatten.length:=by
    simp only [lockB,List.length_append,zaf,List.flatMap_def]
    omega
   refine zab (zao (zbx (k:=1) w6 rfl (by omega) (by omega) fun h7 w7=> ?_))
   rw [zrs1 (by omega)] at w7
   refine zab ?_
   refine Rs.get (sh:=shSl) (Rw.mono w7.le hqs) (fun _=>rfl) (by omega) (by omega) (by omega) fun q' hq'=> ?_
   have hq':qs[i]?=some q':=hq'
   rw [hq1] at hq';cases hq'
   refine zao (zbx (k:=1) w7 rfl (by omega) (by simp only [List.length_append,zaf];omega) fun h8 w8=> ?_)
   refine Rs.get (sh:=shSl) (Rw.mono w8.le hqs) (fun _=>rfl) (by omega) (by omega) (by omega) fun q' hq'=> ?_
   have hq':qs[i]?=some q':=hq'
   rw [hq1] at hq';cases hq'
   refine wrFor (sh:=shInt .i64) (es:=z.2.map fun p=>leB p 1) (fun _ (x4:Int) k h9=>NilW none (some ⟨b0,0,none⟩) fun p6=>
     Call0 Tryz.prog zai [(.pointer (some (Addr.add p6 0))),(.int .i64 x4),(.int .i64 (1:Int))] k h9)
    (fun _=>rfl) (by omega) hq2 w8 (by simp) (by simp only [List.length_append,zaf];omega) (by omega) (fun j v e bs2 h9 k9 hv he9 w9 hb9 hk9=> ?_) fun h9 w9=>hk6 h9 ?_
   ·rw [List.getElem?_map,hv] at he9
    cases he9
    exact zab (zao (zbx (k:=1) w9 rfl (by omega) (by simpa [zaf] using hb9) hk9))
   ·have e1:(Sl.len q:Int)=(z.2.length:Int):=by omega
    rw [z1,e1] at w9
    simpa [lockB,List.append_assoc,List.flatMap_def] using w9
 ·refine hk h6 ?_
  rw [a.cursor,hel,←hxl,a.lost,a.forbidden] at w6
  simpa [partB,List.append_assoc,List.flatMap_def] using w6
set_option maxRecDepth 20000 in
theorem zbw2 {x:S_api_Process} {p:PProcess} (w:Wr h0 h b0 bs) (a:ProcessAt h0 x p) (hb:bs.length+(zie p).length≤1099511627776) (hk:∀h',Wr h0 h' b0 (bs++zie p)→Q h'):zlz Tryz.prog (some ⟨b0,0,none⟩) x Q h:=by
 unfold zlz
 obtain ⟨ls,hls,hall⟩:=a.lanes
 have hll:x.Lanes.len=ls.length:=hls.1
 have hll2:=hall.len
 have hr8:(p.regs.map fun v=>leB v 8).flatten.length=8*p.regs.length:=zmy _ fun _=>zaf _ _
 have hrl:p.regs.length=8:=by rw [←a.regs];rfl
 have hL:(zie p).length=21+(p.regs.map fun v=>leB v 8).flatten.length+(p.lanes.map laneB).flatten.length:=by
  simp only [zie,List.length_append,zaf,List.flatMap_def]
  omega
 have hbnd:p.lanes.length≤(p.lanes.map laneB).flatten.length:=by
  generalize p.lanes=z
  induction z with
  | nil=>simp
  | cons y z ih=>
   have:0<(laneB y).length:=by simp [laneB,zaf];omega
   simp only [List.map_cons,List.flatten_cons,List.length_append,List.length_cons]
   omega
 refine zab (zao (zbx (k:=1) w rfl (by omega) (by omega) fun h1 w1=> ?_))
 refine zab (zao (zbx (k:=2) w1 rfl (by omega) (by simp only [List.length_append,zaf];omega) fun h2 w2=> ?_))
 refine forI (n:=8) rfl (by omega) (fun i h'=>Wr h0 h' b0 ((bs++leB x.State 1++leB x.PC 2)++((p.regs.map fun v=>leB v 8).take i).flatten)) (by simpa using w2) (fun i hi h3 w3 K hK=> ?_) fun h3 w3=> ?_
 ·have hg2:p.regs[i]?=some (p.regs[i]'(by omega)):=List.getElem?_eq_getElem (by omega)
  generalize p.regs[i]'(by omega)=v at hg2
  have hg:([x.Regs_0,x.Regs_1,x.Regs_2,x.Regs_3,x.Regs_4,x.Regs_5,x.Regs_6,x.Regs_7]:List Int)[i]?=some v:=by rw [a.regs];exact hg2
  have he:(p.regs.map fun v=>leB v 8)[i]?=some (leB v 8):=by rw [List.getElem?_map,hg2];rfl
  obtain ⟨s1,s2⟩:=zpp1 (bs:=bs++leB x.State 1++leB x.PC 2) he
  simp only [List.length_append,zaf] at s2
  refine ⟨⟨by omega,by omega⟩,v,?_,zab (zbi (zmx (k:=8) w3 rfl (by omega) (by simp only [List.length_append,zaf];omega) fun h4 w4=>hK h4 ?_))⟩
  ·rw [zih1,Nat.mul_one]
   have:=congrArg (Option.map fun n:Int=>Value.int .i64 n) hg
   rw [←List.getElem?_map] at this
   exact this
  ·rw [←s1];exact w4
 rw [List.take_of_length_le (by simp [hrl])] at w3
 refine zab (zao (zbx (k:=1) w3 rfl (by omega) (by simp only [List.length_append,zaf];omega) fun h4 w4=> ?_))
 refine zab (zbi (zmx (k:=8) w4 rfl (by omega) (by simp only [List.length_append,zaf];omega) fun h5 w5=> ?_))
 refine JoinW1.intro (fun f h'=>h'=h5∧f=zup p.fired) ?_ ?_
 ·rw [a.fired]
  cases p.fired with
  | true=>rw [if_pos rfl];exact ⟨rfl,rfl⟩
  | false=>rw [if_neg (by simp)];exact ⟨rfl,rfl⟩
 rintro f h6 ⟨rfl,rfl⟩
 refine zab (zao (zbx (k:=1) w5 rfl (by omega) (by simp only [List.length_append,zaf];omega) fun h7 w7=> ?_))
 refine zab (zbi (zmx (k:=8) w7 rfl (by omega) (by simp only [List.length_append,zaf];omega) fun h8 w8=> ?_))
 refine wrFor (sh:=sh_api_Lane) (es:=p.lanes.map laneB) (fun _ x1 k h9=>Call0 Tryz.prog zhy [(.pointer (some ⟨b0,0,none⟩)),x1.v] k h9)
  (fun _=>rfl) (by omega) hls w8 (by simp [hll2]) (by simp only [List.length_append,zaf];omega) (by omega) (fun i v e bs' h9 k hv he w9 hb9 hk9=> ?_) fun h9 w9=>hk h9 ?_
 ·obtain ⟨l,hl1,hl2⟩:=hall.get hv
  rw [List.getElem?_map,hl1] at he
  cases he
  exact zak1 (zbt2 w9 hl2 hb9 hk9)
 ·rw [a.state,a.pc,a.cursor,a.timer,a.wake] at w9
  simpa [zie,List.append_assoc,List.flatMap_def] using w9
end
end Lf

namespace Lf
open Go Go.Proofs
theorem newB2 {h:Hp} {cs:List Value} {K:Addr→Hp→Prop} (hk:∀b h',h b=none→h≤h'→Blk h' b cs→K ⟨b,0,none⟩ h'):NewW cs K h:=fun b t hn=>hk b _ hn (zny hn) ⟨t,zid⟩
def MayIs (c:PCfg) (s:PState) (e:Int):Prop:=((cfgE c).1≠0∧e=(cfgE c).1)∨((cfgE c).1=0∧(e=0∧MayP c s∨e=4∧¬MayP c s))
theorem zer2 (c:PCfg):cfgB c≠ []:=by simp [cfgB]
set_option maxRecDepth 20000 in
theorem zqq {h:Hp} {x:S_api_Config} {y:S_api_State} {c:PCfg} {s:PState} {Q:Sl→Int→Hp→Prop} (a:CfgAt h x c) (b:StateAt h y s) (hu:∀l∈c.labels,InU l) (hE:s.parts.length≤8→(∀x∈s.parts,x.queues.length≤8)→s.procs.length≤32→(∀x∈s.procs,x.lanes.length≤9)→(evs s).length≤1152921504606846976)
  (hlen:(cfgE c).1=0→MayP c s→(snapB c s).length≤1048576) (he:∀e h',h≤h'→e≠0→MayIs c s e→Q ⟨none,0,0⟩ e h')
  (h1:(cfgE c).1=0→MayP c s→∀out h',h≤h'→OwnB h h' out (snapB c s)→Q out 0 h'):zvb Tryz.prog x y Q h:=by
 unfold zvb
 refine zxu (znd1 a b hu hE (fun hc k1 le1=> ?_) fun hc n k1 le1 hn=> ?_)
 ·rw [if_pos (by simpa using hc)]
  exact he _ k1 le1 hc (.inl ⟨hc,rfl⟩)
 rcases hn with ⟨rfl,hM⟩ | ⟨rfl,hM⟩
 case inr=>
  rw [if_pos (by rfl)]
  exact he _ k1 le1 (by decide) (.inr ⟨hc,.inr ⟨rfl,hM⟩⟩)
 rw [if_neg (by simp)]
 have hlen:=hlen hc hM
 have hM0:=hM
 have a1:=a.mono le1
 have b1:=b.mono le1
 refine zir1 (zpj1 a1 (fun hc'=>absurd hc hc') fun _ out k2 le2 o2=> ?_)
 rw [if_neg (by simp)]
 refine zuf1 [70,66,83,78,1] rfl rfl fun am k3 le3 bm=> ?_
 refine newB2 (cs:=[(.slice (some am) 5 5)]) fun b0 k4 hn4 le4 hB0=> ?_
 have w4:Wr k3 k4 b0 [70,66,83,78,1]:=⟨⟨some am,5,5⟩,[],hB0,hn4,le4,.inr ⟨rfl,bm,rfl,by simp⟩,by simp,by simp⟩
 have a3:=(a1.mono le2).mono le3
 have b3:=(b1.mono le2).mono le3
 obtain ⟨qs,hqs,hallq⟩:=b3.procs
 obtain ⟨pa,has,halla⟩:=b3.parts
 have e2:=hallq.len
 have e3:=halla.len
 have hR:=(o2.rw zcb).mono le3
 have hol:out.len=(cfgB c).length:=hR.1
 obtain ⟨⟨-,hs1,hs2⟩,hPa, -⟩:=hM
 have hL:(snapB c s).length=17+(cfgB c).length+(s.parts.map partB).flatten.length+(s.procs.map zie).flatten.length:=by
  simp only [snapB,List.length_append,zaf,List.flatMap_def,List.length_cons,List.length_nil]
  omega
 obtain ⟨_,_,_,_,_,_,_,_,_,c10,_⟩:=cfgP_zero.1 hc
 have hml:(mayP c.labels).1=0:=(cfgP_zero.1 hc).1
 have hll:=(mayP_zero.1 hml).2.1
 refine zab (zao (zbx (k:=4) w4 rfl (by omega) (by simp) fun k5 w5=> ?_))
 obtain ⟨l,hl,happ⟩:=zfv2 w5
 refine zab (ld_at l hl (happ _ (Hp.le_refl _) ⟨out.base,out.len,out.cap⟩ (cfgB c) (fun p=>(p.add 0).add 0) rfl (hR.mono w5.le) (zer2 c) (by simp [zaf];omega) _ fun k6 w6=> ?_))
 refine zab (zbi (zmx (k:=8) w6 rfl (by omega) (by simp [zaf];omega) fun k7 w7=> ?_))
 refine wrFor (sh:=sh_api_Part) (es:=s.parts.map partB) (fun _ x1 k h9=>Call0 Tryz.prog zhu [(.pointer (some ⟨b0,0,none⟩)),x1.v] k h9)
  (fun _=>rfl) (by omega) has w7 (by simp [e3]) (by simp only [List.length_append,zaf,List.length_cons,List.length_nil];omega) (by omega) (fun i v e bs' h9 k hv hev w9 hb9 hk9=> ?_) fun k8 w8=> ?_
 ·obtain ⟨z,hz1,hz2⟩:=halla.get hv
  rw [List.getElem?_map,hz1] at hev
  cases hev
  have hp:=hPa i z hz1
  exact zai1 (zbv2 w9 hz2 (by have:=hp.2.2.2.2.2.1;have:=hp.2.2.2.2.2.2.1;omega) hb9 hk9)
 refine wrFor (sh:=sh_api_Process) (es:=s.procs.map zie) (fun _ x1 k h9=>Call0 Tryz.prog zhv [(.pointer (some ⟨b0,0,none⟩)),x1.v] k h9)
  (fun _=>rfl) (by omega) hqs w8 (by simp [e2]) (by simp only [List.length_append,zaf,List.length_cons,List.length_nil];omega) (by omega) (fun i v e bs' h9 k hv hev w9 hb9 hk9=> ?_) fun k9 w9=> ?_
 ·obtain ⟨z,hz1,hz2⟩:=hallq.get hv
  rw [List.getElem?_map,hz1] at hev
  cases hev
  exact zaj1 (zbw2 w9 hz2 hb9 hk9)
 have e:snapB c s=[70,66,83,78,1]++leB (out.len:Int) 4++cfgB c++leB y.Tick 8++(s.parts.map partB).flatten++(s.procs.map zie).flatten:=by
  rw [hol,b.tick]
  simp [snapB,List.append_assoc,List.flatMap_def]
 rw [←e] at w9
 obtain ⟨r,F,f1,f2,f3,f4,f5,f6⟩:=w9
 refine zab (ld_at r (f1.ldIs (off:=0) (n:=1) rfl) ?_)
 have hle3:=Hp.le_trans le1 (Hp.le_trans le2 le3)
 rcases f4 with f4 | ⟨_,_,_,f4⟩
 ·exact h1 hc hM0 r k9 (Hp.le_trans hle3 f3) (f4.own fun c hc=>zbc hle3 (f6 c hc))
 ·omega
end Lf

namespace Lf
open Go Go.Proofs
abbrev RS :Type:=Except (Int×Nat) Nat
def stepD {α:Type} (r:RS) (d:D α) (bs:List UInt8):Except (Int×Nat) (α×Nat):=match r with
 | .ok at_=>d bs at_
 | .error e=>.error e
def Cn {α:Type} (bs:List UInt8) (r:RS) (d:D α) (r1:RS) (x:α):Prop:=∀(β:Type) (f:α→D β),stepD r (D.bind d f) bs=stepD r1 (f x) bs
section
variable {α β:Type} {bs:List UInt8} {r r1 r2:RS}
theorem zan {γ:Type} (d:D α) (g:α→D β) (f:β→D γ):D.bind (D.bind d g) f=D.bind d fun x=>D.bind (g x) f:=by
 funext b a
 unfold D.bind
 cases d b a<;>rfl
theorem zes2 (x:α) (f:α→D β):D.bind (D.ret x) f=f x:=rfl
theorem Cn.ok {d:D α} {at_ at2:Nat} {x:α} (h:d bs at_=.ok (x,at2)):Cn bs (.ok at_) d (.ok at2) x:=fun β f=>by
 show D.bind d f bs at_=f x bs at2
 unfold D.bind
 rw [h]
theorem Cn.err {d:D α} {at_:Nat} {e:Int×Nat} {x:α} (h:d bs at_=.error e):Cn bs (.ok at_) d (.error e) x:=fun β f=>by
 show D.bind d f bs at_=.error e
 unfold D.bind
 rw [h]
theorem Cn.stay {d:D α} {e:Int×Nat} {x:α}:Cn bs (.error e) d (.error e) x:=fun β f=>rfl
theorem Cn.ret {x:α}:Cn bs r (D.ret x) r x:=fun β f=>by rw [zes2]
theorem Cn.seq {d:D α} {g:α→D β} {x:α} {y:β} (h1:Cn bs r d r1 x) (h2:Cn bs r1 (g x) r2 y):Cn bs r (D.bind d g) r2 y:=fun γ f=>by
 rw [zan,h1,h2]
theorem Cn.done {d:D α} {x:α} (h:Cn bs r d r1 x):stepD r d bs=match r1 with | .ok at_=>.ok (x,at_) | .error e=>.error e:=by
 have:=h α D.ret
 have e:D.bind d D.ret=d:=by
  funext b a
  unfold D.bind D.ret
  cases d b a<;>rfl
 rw [e] at this
 rw [this]
 cases r1<;>rfl
theorem Cn.map {d:D α} {g:α→β} {x:α} (h:Cn bs r d r1 x):Cn bs r (D.map g d) r1 (g x):=Cn.seq h Cn.ret
end
theorem zlb1 (l:List UInt8) (b:UInt8):valB (l++ [b])=valB l+256^l.length*b.toNat:=by
 induction l with
 | nil=>simp [valB]
 | cons c l ih=>
  simp only [List.cons_append,valB,ih,List.length_cons,Nat.pow_succ]
  rw [Nat.mul_add,Nat.mul_comm (256^l.length) 256,Nat.mul_assoc]
  omega
theorem zul1 {n c i:Nat} (hn:n<256^i) (hi:i<8) (hc:c<256):bitsI .or .u64 (n:Int) (shlI .u64 (IntKind.wrap .u64 (c:Int)) (8*(i:Int)))=((n+256^i*c:Nat):Int):=by
 have e2:(256:Nat)^i=2^(8*i):=by rw [show (256:Nat)=2^8 by rfl,←Nat.pow_mul]
 have hp:256^i*256≤18446744073709551616:=by
  rw [←Nat.pow_succ]
  exact Nat.pow_le_pow_right (by omega:256>0) (show i+1≤8 by omega)
 have hm:256^i*c+256^i≤256^i*256:=by
  have:=Nat.mul_le_mul_left (256^i) (show c+1≤256 by omega)
  rw [Nat.mul_add,Nat.mul_one] at this
  exact this
 have e1:IntKind.wrap .u64 (c:Int)=(c:Int):=wrapU ⟨by omega,by omega⟩
 have e3:shlI .u64 (c:Int) (8*(i:Int))=((256^i*c:Nat):Int):=by
  unfold shlI
  have:min (8*(i:Int)).toNat (IntKind.bits .u64)=8*i:=by
   show min _ 64=_
   omega
  rw [this,wrapU]
  ·rw [e2,Int.natCast_mul,Int.mul_comm];norm_cast
  ·have:(c:Int)*2^(8*i)=((256^i*c:Nat):Int):=by
    rw [e2,Int.natCast_mul,Int.mul_comm];norm_cast
   rw [this]
   exact ⟨by omega,by omega⟩
 rw [e1,e3]
 unfold bitsI
 have h1:InU (n:Int):=⟨by omega,by omega⟩
 have h2:InU ((256^i*c:Nat):Int):=⟨by omega,by omega⟩
 have h3:IntKind.bits .u64=64:=rfl
 dsimp only
 rw [h3,zgq1 h1,zgq1 h2,BitVec.toNat_or,Int.toNat_natCast,Int.toNat_natCast,BitVec.toNat_ofNat,BitVec.toNat_ofNat,Nat.mod_eq_of_lt (by omega),Nat.mod_eq_of_lt (by omega)]
 have h4:n ||| 256^i*c=n+256^i*c:=by
  rw [Nat.or_comm,e2,←Nat.two_pow_add_eq_or_of_lt (by rw [←e2];exact hn) c,Nat.add_comm]
 rw [h4,wrapU ⟨by omega,by omega⟩]
theorem zww1 {h:Hp} {y:Sl} {l:List UInt8} {K:Int→Hp→Prop} (hb:Bs h y l) (hl:l.length≤8) (hk:K (valB l:Int) h):
  LoopW2 (α1:=Int) (α2:=Int) (fun again n t h2=>(if (decide (t<((y.len:Nat):Int)))=true then ((InB y.base y.len t)∧LdW none (shInt .u8) h2 (sat y.base 1 t) fun x5=>
   ((0:Int)≤(IntKind.wrap .i64 ((8:Int)*t))∧again (bitsI .or .u64 n (shlI .u64 (IntKind.wrap .u64 x5) (IntKind.wrap .i64 ((8:Int)*t)))) (IntKind.wrap .i64 (t+(1:Int))) h2)) else K n h2)) (0:Int) (0:Int) h:=by
 have hyl:y.len=l.length:=hb.1
 refine LoopW2.intro (fun n t h'=>h'=h∧∃i:Nat,t=(i:Int)∧i≤l.length∧n=(valB (l.take i):Int)) (fun _ t _=>(l.length-t).toNat) ⟨rfl,0,rfl,by omega,rfl⟩ ?_
 rintro n t h' ⟨rfl,i,rfl,hi,rfl⟩
 by_cases hlt:i<l.length
 ·rw [if_pos (decide_eq_true (by omega))]
  obtain ⟨e1,x,hx,hld⟩:=Rw.read hb zcb (by omega) (i:=(i:Int)) (by omega) (by omega)
  have hx:l[i]?=some x:=hx
  refine ⟨e1,(x.toNat:Int),hld,?_⟩
  rw [zal (by omega) (by omega)]
  refine ⟨by omega,?_⟩
  have hv:=zxh (l.take i)
  have hti:(l.take i).length=i:=by rw [List.length_take];omega
  rw [hti] at hv
  rw [zul1 hv (by omega) x.toNat_lt,zal (by omega) (by omega)]
  refine ⟨⟨rfl,i+1,rfl,by omega,?_⟩,by omega⟩
  rw [List.take_add_one,hx]
  show _=((valB (l.take i++ [x]):Nat):Int)
  rw [zlb1,hti]
 ·rw [if_neg (fun e=>hlt (by have:=of_decide_eq_true e;omega))]
  rw [List.take_of_length_le (by omega)]
  exact hk
end Lf

namespace Lf
open Go Go.Proofs
def zcc (bl:Sl) (at_ e pl:Int):List Value:=[bl.v,.int .i64 at_,.int .i64 e,.int .i64 pl]
def RSat (r:RS) (n at_ e pl:Int):Prop:=match r with
 | .ok a=>at_=(a:Int)∧e=0∧(a:Int)≤n
 | .error (er,p)=>e=er∧er≠0∧pl=(p:Int)
structure RAt (d h:Hp) (rb:Nat) (bl:Sl) (bs:List UInt8) (r:RS):Prop where
 le:d≤h
 out:d rb=none
 src:Bs d bl bs
 cap:bl.len≤bl.cap
 small:bs.length≤2097152
 blk:∃at_ e pl:Int,Blk h rb (zcc bl at_ e pl)∧RSat r bs.length at_ e pl
section
variable {d h:Hp} {rb:Nat} {bl:Sl} {bs:List UInt8} {r:RS}
theorem RAt.mv (a:RAt d h rb bl bs r) {G G':List Nat} {h':Hp} (m:Mv G h G' h') (hr:rb∉G) (hd:∀c∈G,d c=none):RAt d h' rb bl bs r:=by
 obtain ⟨p,e,pl,k,hs⟩:=a.blk
 exact ⟨(m.le a.le hd).1,a.out,a.src,a.cap,a.small,p,e,pl,k.mv m hr,hs⟩
theorem RAt.grow (a:RAt d h rb bl bs r) {h':Hp} (hl:h≤h'):RAt d h' rb bl bs r:=a.mv (Mv.of_le [] hl) (by simp) (by simp)
theorem znf1 {P:Program} {at_ e pl:Int} (k:Blk h rb (zcc bl at_ e pl)) {Q:Bool→Hp→Prop} (hq:Q (e !=0) h):zjd P (some ⟨rb,0,none⟩) Q h:=by
 unfold zjd
 exact zab (ld_at (sh:=shInt .i64) e (k.ldIs (off:=2) (n:=1) rfl) hq)
theorem RAt.bad {P:Program} (a:RAt d h rb bl bs r) {Q:Bool→Hp→Prop} (hq:∀b,(b=true↔∃e,r=.error e)→Q b h):zjd P (some ⟨rb,0,none⟩) Q h:=by
 obtain ⟨p,e,pl,k,hs⟩:=a.blk
 refine znf1 k (hq _ ?_)
 cases r with
 | ok n=>rw [hs.2.1];simp
 | error x=>obtain ⟨er,q⟩:=x;rw [hs.1];simpa using hs.2.1
theorem zen1 {at_ e pl e1 p1:Int} (k:Blk h rb (zcc bl at_ e pl)) {Q:Hp→Prop}
  (hk:∀h',Mv [rb] h [rb] h'→Blk h' rb (zcc bl at_ (if e1≠0∧e=0 then e1 else e) (if e1≠0∧e=0 then p1 else pl))→Q h'):zmh Tryz.prog (some ⟨rb,0,none⟩) e1 p1 Q h:=by
 unfold zmh
 refine effI (fun b=>b=(e !=0)) false (fun _ hq=>zaz (znf1 k (hq _ rfl))) fun b hb=>letW ?_
 by_cases h1:e1≠0
 ·have hb:b=(e !=0):=hb (by simpa using h1)
  subst hb
  by_cases h2:e=0
  ·rw [if_pos (by simp [h1,h2])]
   rw [if_pos ⟨h1,h2⟩,if_pos ⟨h1,h2⟩] at hk
   refine zab (zdp (b:=rb) (off:=2) k (by simp [zcc]) fun h2' m2 k2=>zab (zdp (b:=rb) (off:=3) k2 (by simp [zcc]) fun h3 m3 k3=>hk h3 (m2.trans m3) (by simpa [zcc] using k3)))
  ·rw [if_neg (by simp [h2])]
   rw [if_neg (fun hh=>h2 hh.2),if_neg (fun hh=>h2 hh.2)] at hk
   exact hk h (Mv.refl _ _) k
 ·rw [if_neg (by simp at h1;simp [h1])]
  rw [if_neg (fun hh=>h1 hh.1),if_neg (fun hh=>h1 hh.1)] at hk
  exact hk h (Mv.refl _ _) k
theorem zgs1 {k:Nat} {f:FnV} {Q:Int→Hp→Prop} (a:RAt d h rb bl bs r) (hk1:1≤k) (hk8:k≤8) (W:Nat→Int)
  (hw:∀n:Nat,n<256^k→∀K:Int→Hp→Prop,(∀h',h≤h'→K (W n) h')→CallV Tryz.prog tb (.func (.func f.g) f.first f.captured) [.int .u64 (n:Int)] (shInt .i64) K h)
  (hq:∀(v:Nat) r1 h',v<256^k→Mv [rb] h [rb] h'→RAt d h' rb bl bs r1→Cn bs r (D.must (D.num k) W) r1 v→Q (v:Int) h'):zkg Tryz.prog (some ⟨rb,0,none⟩) (k:Int) f Q h:=by
 unfold zkg
 obtain ⟨p,e,pl,kb,hs⟩:=a.blk
 have hlen:bl.len=bs.length:=a.src.1
 have hsm:=a.small
 have hpow:0<256^k:=Nat.pow_pos (by omega)
 refine zaz (znf1 kb ?_)
 cases r with
 | error x=>
  obtain ⟨er,q⟩:=x
  rw [if_pos (by rw [hs.1];simpa using hs.2.1)]
  exact hq 0 _ h hpow (Mv.refl _ _) a Cn.stay
 | ok n=>
  obtain ⟨rfl,rfl,hn⟩:=hs
  have hn:n≤bs.length:=by omega
  rw [if_neg (by simp)]
  refine zab (ld_at (sh:=shSl) bl (kb.ldIs (off:=0) (n:=1) rfl) (zab (ld_at (sh:=shInt .i64) (n:Int) (kb.ldIs (off:=1) (n:=1) rfl) ?_)))
  rw [zal (by omega) (by omega)]
  by_cases hsh:bs.length<n+k
  ·rw [if_pos (decide_eq_true (by omega))]
   refine zab (ld_at (sh:=shSl) bl (kb.ldIs (off:=0) (n:=1) rfl) (zbz (zen1 kb fun h' m k'=> ?_)))
   rw [if_pos ⟨by decide,rfl⟩,if_pos ⟨by decide,rfl⟩] at k'
   refine hq 0 (.error (5,bs.length)) h' hpow m ⟨(m.le a.le fun c hc=>by rw [List.mem_singleton.1 hc];exact a.out).1,a.out,a.src,a.cap,a.small,_,_,_,k',rfl,by decide,by rw [hlen]⟩ (Cn.err ?_)
   unfold D.must D.num
   rw [if_pos hsh]
  ·rw [if_neg (fun e=>hsh (by have:=of_decide_eq_true e;omega))]
   refine zab (ld_at (sh:=shSl) bl (kb.ldIs (off:=0) (n:=1) rfl) (zab (ld_at (sh:=shInt .i64) (n:Int) (kb.ldIs (off:=1) (n:=1) rfl) (zab (ld_at (sh:=shInt .i64) (n:Int) (kb.ldIs (off:=1) (n:=1) rfl) ?_)))))
   have hcap:=a.cap
   rw [zal (by omega) (by omega)]
   have hnk:(n:Int)≤(n:Int)+(k:Int):=by omega
   refine ⟨⟨by omega,hnk,by omega⟩,letW ?_⟩
   have e1:((n:Int)+(k:Int)).toNat=n+k:=by omega
   have e2:((n:Int)).toNat=n:=rfl
   rw [e1,e2]
   have hcut:=(Rw.mono a.le a.src).cut (a:=n) (b:=n+k) (c:=bl.cap) (n:=n+k-n) (m:=bl.cap-n) zcb (by omega) (by omega) (by omega) rfl
   have e3:n+k-n=k:=by omega
   rw [e3] at hcut ⊢
   have hdl:((bs.drop n).take k).length=k:=by rw [List.length_take,List.length_drop];omega
   have hv:=zxh ((bs.drop n).take k)
   rw [hdl] at hv
   refine zww1 hcut (by omega) ?_
   refine zab (ld_at (sh:=shInt .i64) (n:Int) (kb.ldIs (off:=1) (n:=1) rfl) (hw _ hv _ fun h3 hle3=> ?_))
   have kb3:=kb.le hle3
   refine ⟨⟨kb3.ldIs (off:=1) (n:=1) rfl,trivial⟩,zbz (zen1 kb3 fun h4 m4 kb4=> ?_)⟩
   refine zab (ld_at (sh:=shInt .i64) (n:Int) (kb4.ldIs (off:=1) (n:=1) rfl) (zab (zdp (b:=rb) (off:=1) kb4 (by simp [zcc]) fun h5 m5 kb5=> ?_)))
   have m:Mv [rb] h [rb] h5:=(Mv.of_le [rb] hle3).trans (m4.trans m5)
   have hd5:=(m.le a.le fun c hc=>by rw [List.mem_singleton.1 hc];exact a.out).1
   rw [zal (by omega) (by omega)] at kb5
   simp only [zcc,List.take,List.drop,List.length_cons,List.length_nil,List.cons_append,List.nil_append] at kb5
   by_cases hW:W (valB ((bs.drop n).take k))=0
   ·simp only [ne_eq,hW,not_true_eq_false,false_and,if_false] at kb5
    refine hq _ (.ok (n+k)) h5 hv m ⟨hd5,a.out,a.src,a.cap,a.small,_,_,_,kb5,by push_cast;rfl,rfl,by omega⟩ (Cn.ok ?_)
    unfold D.must D.num
    rw [if_neg hsh]
    dsimp only
    rw [if_pos hW]
   ·simp only [ne_eq,hW,not_false_eq_true,and_self,if_true] at kb5
    refine hq _ (.error (W (valB ((bs.drop n).take k)),n)) h5 hv m ⟨hd5,a.out,a.src,a.cap,a.small,_,_,_,kb5,rfl,hW,rfl⟩ (Cn.err ?_)
    unfold D.must D.num
    rw [if_neg hsh]
    dsimp only
    rw [if_neg hW]
end
end Lf

namespace Lf
open Go Go.Proofs
theorem zfw2 (k:Nat) (W:Int→Int):D.must (zD k) W=D.map toZ (D.must (D.num k) fun n=>W (toZ n)):=by
 funext b a
 cases hx:D.num k b a with
 | error e=>simp [D.must,zD,D.map,D.bind,hx]
 | ok x=>
  obtain ⟨n,a2⟩:=x
  by_cases h:W (toZ n)=0<;>simp [D.must,zD,D.map,D.bind,hx,h,D.ret]
section
variable {d h:Hp} {rb:Nat} {bl:Sl} {bs:List UInt8} {r:RS}
theorem zwx1 {k:Nat} {f:FnV} {Q:Int→Hp→Prop} (a:RAt d h rb bl bs r) (hk1:1≤k) (hk8:k≤4) (W:Int→Int)
  (hw:∀n:Nat,n<256^k→∀h1,h≤h1→∀K:Int→Hp→Prop,(∀h',h1≤h'→K (W (n:Int)) h')→CallV Tryz.prog tb (.func (.func f.g) f.first f.captured) [.int .i64 (n:Int)] (shInt .i64) K h1)
  (hq:∀(v:Nat) r1 h',v<256^k→Mv [rb] h [rb] h'→RAt d h' rb bl bs r1→Cn bs r (D.must (zD k) W) r1 (v:Int)→Q (v:Int) h'):znr Tryz.prog (some ⟨rb,0,none⟩) (k:Int) f Q h:=by
 unfold znr
 have hpow:256^k≤4294967296:=Nat.pow_le_pow_right (by omega:256>0) hk8
 refine newB2 fun b h1 hn hle1 hB=> ?_
 refine zdx (wrong:=⟨zlb, #[], #[.pointer (some ⟨b,0,none⟩)]⟩) (zgs1 (a.grow hle1) hk1 (by omega) (fun n=>W (toZ n)) (fun n hn2 K hK=> ?_) fun v r1 h2 hv m a2 hc=> ?_)
 ·refine zmw (g:=zlb) rfl (zzc ?_)
  unfold zrc
  refine ld_at (sh:=shFn) f (hB.ldIs (off:=0) (n:=1) rfl) ?_
  rw [zal (by omega) (by omega)]
  exact hw n hn2 h1 hle1 _ hK
 ·rw [zal (by omega) (by omega)]
  refine hq v r1 h2 hv ((Mv.of_le [rb] hle1).trans m) a2 ?_
  rw [zfw2]
  exact hc.map
theorem zhx1 {most:Int} {Q:Int→Hp→Prop} (a:RAt d h rb bl bs r)
  (hq:∀(v:Nat) r1 h',v<256→Mv [rb] h [rb] h'→RAt d h' rb bl bs r1→Cn bs r (D.must (zD 1) (cntE most)) r1 (v:Int)→Q (v:Int) h'):ziv Tryz.prog (some ⟨rb,0,none⟩) most Q h:=by
 unfold ziv
 refine newB2 fun b h1 hn hle1 hB=> ?_
 refine zfh (wrong:=⟨zgc, #[], #[.pointer (some ⟨b,0,none⟩)]⟩) (zwx1 (k:=1) (a.grow hle1) (by omega) (by omega) (cntE most) (fun n hn2 h2 hle2 K hK=> ?_) fun v r1 h2 hv m a2 hc=> ?_)
 ·refine zmw (g:=zgc) rfl (zsd ?_)
  unfold zmj
  exact ld_at (sh:=shInt .i64) most (zev hle2 (hB.ldIs (off:=0) (n:=1) rfl)) (ztn (zud1 (hK h2 (Hp.le_refl _))))
 ·exact hq v r1 h2 hv ((Mv.of_le [rb] hle1).trans m) a2 hc
theorem zbx2 {part:Int} {k:Nat} {Q:Int→Hp→Prop} (a:RAt d h rb bl bs r) (hk1:1≤k) (hk2:k≤2)
  (hq:∀(v:Nat) r1 h',v<256^k→Mv [rb] h [rb] h'→RAt d h' rb bl bs r1→Cn bs r (D.must (zD k) (zem part)) r1 (v:Int)→Q (v:Int) h'):zke Tryz.prog (some ⟨rb,0,none⟩) part (k:Int) Q h:=by
 unfold zke
 refine newB2 fun b h1 hn hle1 hB=> ?_
 refine zfh (wrong:=⟨zhf, #[], #[.pointer (some ⟨b,0,none⟩)]⟩) (zwx1 (k:=k) (a.grow hle1) hk1 (by omega) (zem part) (fun n hn2 h2 hle2 K hK=> ?_) fun v r1 h2 hv m a2 hc=> ?_)
 ·refine zmw (g:=zhf) rfl (ztt ?_)
  unfold znn
  exact ld_at (sh:=shInt .i64) part (zev hle2 (hB.ldIs (off:=0) (n:=1) rfl)) (zxv (zrn1 (hK h2 (Hp.le_refl _))))
 ·exact hq v r1 h2 hv ((Mv.of_le [rb] hle1).trans m) a2 hc
def cfgL (x:S_api_Config):List Value:=zad (sh_api_Config.enc x)
theorem zil1 {cb:Nat} {x:S_api_Config} {Q:Int→Hp→Prop} (a:RAt d h rb bl bs r) (kc:Blk h cb (cfgL x)) (hsm:x.Labels.len≤1099511627776)
  (hq:∀(v:Nat) r1 h',v<256→Mv [rb] h [rb] h'→RAt d h' rb bl bs r1→Cn bs r (D.must (zD 1) (rngE 0 ((x.Labels.len:Int)-1))) r1 (v:Int)→Q (v:Int) h'):zgn Tryz.prog (some ⟨rb,0,none⟩) (some ⟨cb,0,none⟩) Q h:=by
 unfold zgn
 refine newB2 fun b h1 hn hle1 hB=> ?_
 refine zfh (wrong:=⟨zex, #[], #[.pointer (some ⟨b,0,none⟩)]⟩) (zwx1 (k:=1) (a.grow hle1) (by omega) (by omega) (rngE 0 ((x.Labels.len:Int)-1)) (fun n hn2 h2 hle2 K hK=> ?_) fun v r1 h2 hv m a2 hc=> ?_)
 ·refine zmw (g:=zex) rfl (zqo ?_)
  unfold zkp
  refine ld_at (sh:=shPtr) (some ⟨cb,0,none⟩) (zev hle2 (hB.ldIs (off:=0) (n:=1) rfl)) (zab (ld_at (sh:=shSl) x.Labels (((kc.le hle1).le hle2).ldIs (off:=0) (n:=1) rfl) ?_))
  have hK:=hK h2 (Hp.le_refl _)
  unfold rngE at hK
  by_cases hlt:(n:Int)<(x.Labels.len:Int)
  ·rw [if_neg (by simp;omega)]
   rw [if_pos (by rw [within_true];omega)] at hK
   exact hK
  ·rw [if_pos (by simp;omega)]
   rw [if_neg (by rw [within_true];omega)] at hK
   exact hK
 ·exact hq v r1 h2 hv ((Mv.of_le [rb] hle1).trans m) a2 hc
end
end Lf

namespace Lf
open Go Go.Proofs
def LsO {α β:Type} (R:α→β→Hp→List Nat→Prop):List α→List β→Hp→List Nat→Prop
 | [],[],_,B=>B=[]
 | a::l,b::m,h,B=>∃B1 B2,B=B1++B2∧R a b h B1∧LsO R l m h B2
 | _,_,_,_=>False
structure AsOk {α β:Type} (R:α→β→Hp→List Nat→Prop):Prop where
 same:∀ {a b h h' B},R a b h B→(∀c∈B,h' c=h c)→R a b h' B
 known:∀ {a b h B},R a b h B→∀c∈B,h c≠none
section
variable {α β:Type} {R:α→β→Hp→List Nat→Prop} {h h':Hp}
theorem LsO.same (ok:AsOk R):∀ {l:List α} {m:List β} {B:List Nat},LsO R l m h B→(∀c∈B,h' c=h c)→LsO R l m h' B
 | [],[],_,o,_=>o
 | _::_,_::_,_,⟨B1,B2,e,o1,o2⟩,hs=>⟨B1,B2,e,ok.same o1 fun c hc=>hs c (by rw [e];exact List.mem_append_left _ hc),LsO.same ok o2 fun c hc=>hs c (by rw [e];exact List.mem_append_right _ hc)⟩
 | [],_::_,_,o,_=>o.elim
 | _::_,[],_,o,_=>o.elim
theorem LsO.known (ok:AsOk R):∀ {l:List α} {m:List β} {B:List Nat},LsO R l m h B→∀c∈B,h c≠none
 | [],[],_,o,c,hc=>by rw [show _=[] from o] at hc;cases hc
 | _::_,_::_,_,⟨B1,B2,e,o1,o2⟩,c,hc=>by
  rw [e] at hc
  rcases List.mem_append.1 hc with hc | hc
  ·exact ok.known o1 c hc
  ·exact LsO.known ok o2 c hc
 | [],_::_,_,o,_,_=>o.elim
 | _::_,[],_,o,_,_=>o.elim
theorem LsO.snoc {a:α} {b:β} {B':List Nat} (e:R a b h B'):∀ {l:List α} {m:List β} {B:List Nat},LsO R l m h B→LsO R (l++ [a]) (m++ [b]) h (B++B')
 | [],[],_,o=>by
  rw [show _=[] from o]
  exact ⟨B',[],by simp,e,rfl⟩
 | _::_,_::_,_,⟨B1,B2,e1,o1,o2⟩=>⟨B1,B2++B',by rw [e1,List.append_assoc],o1,LsO.snoc e o2⟩
 | [],_::_,_,o=>o.elim
 | _::_,[],_,o=>o.elim
theorem LsO.all2 {S:α→β→Prop} (hi:∀a b B,R a b h B→S a b):∀ {l:List α} {m:List β} {B:List Nat},LsO R l m h B→All2 S l m
 | [],[],_,_=>trivial
 | _::_,_::_,_,⟨B1,_,_,o1,o2⟩=>⟨hi _ _ B1 o1,LsO.all2 hi o2⟩
 | [],_::_,_,o=>o.elim
 | _::_,[],_,o=>o.elim
theorem OwnF.one {sz:Nat} {enc:α→List Value} {l:Sl} {xs:List α} {F:List Nat} (o:OwnF h sz enc l xs F):F=[]∨∃b,F=[b]:=by
 obtain ⟨_,_,o⟩:=o
 rcases o with ⟨_,_,e⟩ | ⟨b,_,_,e,_⟩
 ·exact .inl e
 ·exact .inr ⟨b,e⟩
theorem OwnF.nodup {sz:Nat} {enc:α→List Value} {l:Sl} {xs:List α} {F:List Nat} (o:OwnF h sz enc l xs F):F.Nodup:=by
 rcases o.one with e | ⟨b,e⟩<;>rw [e]<;>simp
end
def PureO {α β:Type} (S:α→β→Prop) (a:α) (b:β) (_:Hp) (B:List Nat):Prop:=B=[]∧S a b
theorem PureO.ok {α β:Type} (S:α→β→Prop):AsOk (PureO S):=⟨fun o _=>o,fun o c hc=>by rw [o.1] at hc;cases hc⟩
def RowsO {β:Type} (sh:Shape) (sz:Nat) (R:sh.T→β→Hp→List Nat→Prop) (l:Sl) (ps:List β) (h:Hp) (B:List Nat):Prop:=
 ∃(xs:List sh.T) (B1 B2:List Nat),B=B1++B2∧OwnF h sz (fun x=>zad (sh.enc x)) l xs B1∧LsO R xs ps h B2
section
variable {β:Type} {sh:Shape} {sz:Nat} {R:sh.T→β→Hp→List Nat→Prop} {l:Sl} {ps:List β} {h h':Hp} {B:List Nat}
theorem RowsO.nil :RowsO sh sz R ⟨none,0,0⟩ [] h []:=⟨[],[],[],rfl,⟨rfl,Nat.le_refl _,.inl ⟨rfl,rfl,rfl⟩⟩,rfl⟩
theorem RowsO.ok (ok:AsOk R):AsOk (RowsO sh sz R) where
 same:=by
  rintro a b h h' B ⟨xs,B1,B2,e,o1,o2⟩ hs
  exact ⟨xs,B1,B2,e,o1.same fun c hc=>hs c (by rw [e];exact List.mem_append_left _ hc),o2.same ok fun c hc=>hs c (by rw [e];exact List.mem_append_right _ hc)⟩
 known:=by
  rintro a b h B ⟨xs,B1,B2,e,o1,o2⟩ c hc
  rw [e] at hc
  rcases List.mem_append.1 hc with hc | hc
  ·exact o1.known c hc
  ·exact o2.known ok c hc
theorem RowsO.len (o:RowsO sh sz R l ps h B):l.len=ps.length:=by
 obtain ⟨xs,B1,B2,e,o1,o2⟩:=o
 have:=(o2.all2 (S:=fun _ _=>True) fun _ _ _ _=>trivial).len
 rw [←this]
 exact o1.1
theorem RowsO.rows {S:sh.T→β→Prop} (henc:∀x,(zad (sh.enc x)).length=sz) (hi:∀a b B,R a b h B→S a b) (o:RowsO sh sz R l ps h B):∃xs,Rs h sh sz l xs∧All2 S xs ps:=by
 obtain ⟨xs,B1,B2,e,o1,o2⟩:=o
 exact ⟨xs,o1.rw henc,o2.all2 hi⟩
theorem zqr (ok:AsOk R) (o:RowsO sh sz R l ps h B) {v:sh.T} {p:β} {B':List Nat} (e:R v p h B') (nd:(B++B').Nodup) {x:Sl} (hx:Rs h sh sz x [v]) (henc:∀x,(zad (sh.enc x)).length=sz) (hok:∀x,zcz (zad (sh.enc x))=true)
  {zero:List Value} {bytes:Nat} (hz:zero.length=sz) (hb:ps.length+1≤140737488355328∧(ps.length+1)*bytes≤140737488355328) {K:Sl→Hp→Prop}
  (hk:∀l' h' B'',RowsO sh sz R l' (ps++ [p]) h' B''→B''.Nodup→(∀b ob,h b=some ob→b∉B→h' b=some ob)→(∀c∈B'',c∈B++B'∨h c=none)→K l' h'):zaj sz bytes zero l x K h:=by
 have hlen:=o.len
 obtain ⟨xs,B1,B2,e1,o1,o2⟩:=o
 have hxl:xs.length=ps.length:=by rw [←hlen];exact o1.1.symm
 have k2:=o2.known ok
 have k3:=ok.known e
 refine appF o1 hx henc hok hz (by rw [hxl];exact hb) fun l' h' F' o1' m=> ?_
 rw [e1] at nd
 have nd2:=nd
 rw [List.append_assoc,List.nodup_append] at nd
 obtain ⟨nd1,nd3,nd4⟩:=nd
 have d2:∀c∈B2++B',c∉B1:=fun c hc hb=>nd4 c hb c hc rfl
 have kk:∀c∈B2++B',h c≠none:=fun c hc=>by
  rcases List.mem_append.1 hc with hc | hc
  ·exact k2 c hc
  ·exact k3 c hc
 have hs:∀c∈B2++B',h' c=h c:=zmv m kk d2
 have o2':=(o2.same ok fun c hc=>hs c (List.mem_append_left _ hc)).snoc (ok.same e fun c hc=>hs c (List.mem_append_right _ hc))
 have hf:∀c∈F'++(B2++B'),c∈B++B'∨h c=none:=fun c hc=>by
  rcases List.mem_append.1 hc with hc | hc
  ·rcases m.from_ c hc with hc | hc
   ·exact .inl (by rw [e1];simp [hc])
   ·exact .inr hc
  ·refine .inl ?_
   rw [e1,List.append_assoc]
   exact List.mem_append_right _ hc
 refine hk l' h' (F'++(B2++B')) ⟨xs++ [v],F',B2++B',rfl,o1',o2'⟩ ?_ (fun b ob hb hn=>m.keep b ob hb fun hb1=>hn (by rw [e1];simp [hb1])) hf
 rw [List.nodup_append]
 refine ⟨o1'.nodup,nd3,fun a ha b hb hab=> ?_⟩
 subst hab
 rcases m.from_ a ha with hc | hc
 ·exact d2 a hb hc
 ·exact kk a hb hc
end
abbrev IsO (l:Sl) (xs:List Int) (h:Hp) (B:List Nat):Prop:=RowsO (shInt .i64) 1 (PureO Eq) l xs h B
abbrev UsO (l:Sl) (xs:List Int) (h:Hp) (B:List Nat):Prop:=RowsO (shInt .u64) 1 (PureO Eq) l xs h B
abbrev InsO (l:Sl) (xs:List PIns) (h:Hp) (B:List Nat):Prop:=RowsO sh_api_Ins 5 (PureO fun x p=>insOf x=p) l xs h B
def ProcO (q:S_api_Proc) (p:PProc) (h:Hp) (B:List Nat):Prop:=q.Part=p.part∧InsO q.Code p.code h B
abbrev zlc1 (l:Sl) (ps:List PProc) (h:Hp) (B:List Nat):Prop:=RowsO sh_api_Proc 2 ProcO l ps h B
def LaneO (x:S_api_Lane) (p:PLane) (h:Hp) (B:List Nat):Prop:=
 ∃B1 B2,B=B1++B2∧IsO x.Values p.values h B1∧RowsO sh_api_Waiter 2 (PureO fun x p=>zcn x=p) x.Waiters p.waiters h B2∧x.Taken=p.taken∧x.Dropped=p.dropped
def ProcessO (x:S_api_Process) (p:PProcess) (h:Hp) (B:List Nat):Prop:=
 RowsO sh_api_Lane 4 LaneO x.Lanes p.lanes h B∧x.State=p.state∧x.PC=p.pc∧ [x.Regs_0,x.Regs_1,x.Regs_2,x.Regs_3,x.Regs_4,x.Regs_5,x.Regs_6,x.Regs_7]=p.regs∧x.Cursor=p.cursor∧x.Timer=p.timer∧x.Fired=p.fired∧x.Wake=p.wake
def PartO (x:S_api_Part) (p:PPart) (h:Hp) (B:List Nat):Prop:=
 ∃B1 B2 B3,B=B1++(B2++B3)∧RowsO sh_api_Entry 3 (PureO fun x p=>zht x=p) x.Log p.log h B1∧IsO x.Owners p.owners h B2∧RowsO shSl 1 IsO x.Queues p.queues h B3∧x.Cursor=p.cursor∧x.Lost=p.lost∧x.Forbidden=p.forbidden
def StateO (x:S_api_State) (p:PState) (h:Hp) (B:List Nat):Prop:=
 ∃B1 B2,B=B1++B2∧RowsO sh_api_Part 6 PartO x.Parts p.parts h B1∧RowsO sh_api_Process 15 ProcessO x.Procs p.procs h B2∧x.Tick=p.tick
def CfgO (x:S_api_Config) (c:PCfg) (h:Hp) (B:List Nat):Prop:=
 ∃B1 B2 B3,B=B1++(B2++B3)∧UsO x.Labels c.labels h B1∧IsO x.Table c.table h B2∧zlc1 x.Procs c.procs h B3∧x.Fuel=c.fuel∧x.Lane=c.lane∧x.Locks=c.locks∧x.Log=c.log
theorem okIs :AsOk IsO:=RowsO.ok (PureO.ok _)
theorem okUs :AsOk UsO:=RowsO.ok (PureO.ok _)
theorem okIns :AsOk InsO:=RowsO.ok (PureO.ok _)
theorem zrt1 :AsOk ProcO:=⟨fun o hs=>⟨o.1,okIns.same o.2 hs⟩,fun o=>okIns.known o.2⟩
theorem okProcs :AsOk zlc1:=RowsO.ok zrt1
theorem mem_a {B1 B2:List Nat} {c:Nat} (h:c∈B1):c∈B1++B2:=List.mem_append_left _ h
theorem mem_b {B1 B2:List Nat} {c:Nat} (h:c∈B2):c∈B1++B2:=List.mem_append_right _ h
theorem okLane :AsOk LaneO where
 same:=by
  rintro a b h h' B ⟨B1,B2,rfl,o1,o2,o3⟩ hs
  exact ⟨B1,B2,rfl,okIs.same o1 fun c hc=>hs c (mem_a hc),(RowsO.ok (PureO.ok _)).same o2 fun c hc=>hs c (mem_b hc),o3⟩
 known:=by
  rintro a b h B ⟨B1,B2,rfl,o1,o2,o3⟩ c hc
  rcases List.mem_append.1 hc with hc | hc
  ·exact okIs.known o1 c hc
  ·exact (RowsO.ok (PureO.ok _)).known o2 c hc
theorem okProcess :AsOk ProcessO:=⟨fun o hs=>⟨(RowsO.ok okLane).same o.1 hs,o.2⟩,fun o=>(RowsO.ok okLane).known o.1⟩
theorem okPart :AsOk PartO where
 same:=by
  rintro a b h h' B ⟨B1,B2,B3,rfl,o1,o2,o3,o4⟩ hs
  exact ⟨B1,B2,B3,rfl,(RowsO.ok (PureO.ok _)).same o1 fun c hc=>hs c (mem_a hc),okIs.same o2 fun c hc=>hs c (mem_b (mem_a hc)),(RowsO.ok okIs).same o3 fun c hc=>hs c (mem_b (mem_b hc)),o4⟩
 known:=by
  rintro a b h B ⟨B1,B2,B3,rfl,o1,o2,o3,o4⟩ c hc
  rcases List.mem_append.1 hc with hc | hc
  ·exact (RowsO.ok (PureO.ok _)).known o1 c hc
  ·rcases List.mem_append.1 hc with hc | hc
   ·exact okIs.known o2 c hc
   ·exact (RowsO.ok okIs).known o3 c hc
theorem okState :AsOk StateO where
 same:=by
  rintro a b h h' B ⟨B1,B2,rfl,o1,o2,o3⟩ hs
  exact ⟨B1,B2,rfl,(RowsO.ok okPart).same o1 fun c hc=>hs c (mem_a hc),(RowsO.ok okProcess).same o2 fun c hc=>hs c (mem_b hc),o3⟩
 known:=by
  rintro a b h B ⟨B1,B2,rfl,o1,o2,o3⟩ c hc
  rcases List.mem_append.1 hc with hc | hc
  ·exact (RowsO.ok okPart).known o1 c hc
  ·exact (RowsO.ok okProcess).known o2 c hc
theorem okCfg :AsOk CfgO where
 same:=by
  rintro a b h h' B ⟨B1,B2,B3,rfl,o1,o2,o3,o4⟩ hs
  exact ⟨B1,B2,B3,rfl,okUs.same o1 fun c hc=>hs c (mem_a hc),okIs.same o2 fun c hc=>hs c (mem_b (mem_a hc)),okProcs.same o3 fun c hc=>hs c (mem_b (mem_b hc)),o4⟩
 known:=by
  rintro a b h B ⟨B1,B2,B3,rfl,o1,o2,o3,o4⟩ c hc
  rcases List.mem_append.1 hc with hc | hc
  ·exact okUs.known o1 c hc
  ·rcases List.mem_append.1 hc with hc | hc
   ·exact okIs.known o2 c hc
   ·exact okProcs.known o3 c hc
theorem zum1 {α:Type}:∀ {l m:List α},All2 Eq l m→l=m
 | [],[],_=>rfl
 | _::_,_::_,h=>by rw [h.1,zum1 h.2]
 | [],_::_,h=>h.elim
 | _::_,[],h=>h.elim
theorem zjf1 {α β:Type} {f:α→β}:∀ {l:List α} {m:List β},All2 (fun x p=>f x=p) l m→l.map f=m
 | [],[],_=>rfl
 | _::_,_::_,h=>by rw [List.map_cons,h.1,zjf1 h.2]
 | [],_::_,h=>h.elim
 | _::_,[],h=>h.elim
section
variable {h:Hp} {B:List Nat}
theorem IsO.rd {l:Sl} {xs:List Int} (o:IsO l xs h B):Is h l xs:=by
 obtain ⟨ys,h1,h2⟩:=RowsO.rows (S:=Eq) (fun _=>rfl) (fun a b B o=>o.2) o
 rw [←zum1 h2];exact h1
theorem UsO.rd {l:Sl} {xs:List Int} (o:UsO l xs h B):Us h l xs:=by
 obtain ⟨ys,h1,h2⟩:=RowsO.rows (S:=Eq) (fun _=>rfl) (fun a b B o=>o.2) o
 rw [←zum1 h2];exact h1
theorem ProcO.rd {q:S_api_Proc} {p:PProc} (o:ProcO q p h B):ProcAt h q p:=by
 obtain ⟨e,o⟩:=o
 obtain ⟨ys,h1,h2⟩:=RowsO.rows (S:=fun x p=>insOf x=p) (fun _=>rfl) (fun a b B o=>o.2) o
 exact ⟨e,ys,h1,zjf1 h2⟩
theorem CfgO.rd {x:S_api_Config} {c:PCfg} (o:CfgO x c h B):CfgAt h x c:=by
 obtain ⟨B1,B2,B3,_,o1,o2,o3,f1,f2,f3,f4⟩:=o
 exact ⟨o1.rd,o2.rd,f1,f2,f3,f4,RowsO.rows (fun _=>rfl) (fun a b B o=>o.rd) o3⟩
theorem LaneO.rd {x:S_api_Lane} {p:PLane} (o:LaneO x p h B):LaneAt h x p:=by
 obtain ⟨B1,B2,_,o1,o2,f1,f2⟩:=o
 obtain ⟨ys,h1,h2⟩:=RowsO.rows (S:=fun x p=>zcn x=p) (fun _=>rfl) (fun a b B o=>o.2) o2
 exact ⟨o1.rd,⟨ys,h1,zjf1 h2⟩,f1,f2⟩
theorem ProcessO.rd {x:S_api_Process} {p:PProcess} (o:ProcessO x p h B):ProcessAt h x p:=by
 obtain ⟨o1,f1,f2,f3,f4,f5,f6,f7⟩:=o
 exact ⟨f1,f2,f3,f4,f5,f6,f7,RowsO.rows (fun _=>rfl) (fun a b B o=>o.rd) o1⟩
theorem PartO.rd {x:S_api_Part} {p:PPart} (o:PartO x p h B):PartAt h x p:=by
 obtain ⟨B1,B2,B3,_,o1,o2,o3,f1,f2,f3⟩:=o
 obtain ⟨ys,h1,h2⟩:=RowsO.rows (S:=fun x p=>zht x=p) (fun _=>rfl) (fun a b B o=>o.2) o1
 exact ⟨f1,⟨ys,h1,zjf1 h2⟩,f2,f3,o2.rd,RowsO.rows (fun _=>rfl) (fun a b B o=>IsO.rd o) o3⟩
theorem StateO.rd {x:S_api_State} {p:PState} (o:StateO x p h B):StateAt h x p:=by
 obtain ⟨B1,B2,_,o1,o2,f1⟩:=o
 exact ⟨f1,RowsO.rows (fun _=>rfl) (fun a b B o=>o.rd) o1,RowsO.rows (fun _=>rfl) (fun a b B o=>o.rd) o2⟩
end
end Lf

namespace Lf
open Go Go.Proofs
structure CB (d h0:Hp) (rb cb:Nat) (bl:Sl) (bs:List UInt8) (k:Hp) (r:RS) (x:S_api_Config) (c:PCfg) (B:List Nat):Prop where
 base:d≤h0
 kr:h0 rb≠none
 kc:h0 cb≠none
 ne:rb≠cb
 dc:d cb=none
 keep:∀b o,h0 b=some o→b≠rb→b≠cb→k b=some o
 rd:RAt d k rb bl bs r
 blk:Blk k cb (cfgL x)
 own:CfgO x c k B
 nd:B.Nodup
 fresh:∀b∈B,h0 b=none
section
variable {d h0 k:Hp} {rb cb:Nat} {bl:Sl} {bs:List UInt8} {r:RS} {x:S_api_Config} {c:PCfg} {B:List Nat}
theorem CB.nr (s:CB d h0 rb cb bl bs k r x c B):rb∉B:=fun h=>s.kr (s.fresh rb h)
theorem CB.nc (s:CB d h0 rb cb bl bs k r x c B):cb∉B:=fun h=>s.kc (s.fresh cb h)
theorem CB.step (s:CB d h0 rb cb bl bs k r x c B) {k':Hp} {r1:RS} (m:Mv [rb] k [rb] k') (a:RAt d k' rb bl bs r1):CB d h0 rb cb bl bs k' r1 x c B where
 base:=s.base
 kr:=s.kr
 kc:=s.kc
 ne:=s.ne
 dc:=s.dc
 keep:=fun b o e h1 h2=>m.keep b o (s.keep b o e h1 h2) fun hb=>h1 (List.mem_singleton.1 hb)
 rd:=a
 blk:=s.blk.mv m fun hb=>s.ne (List.mem_singleton.1 hb).symm
 own:=okCfg.same s.own (zmv m (okCfg.known s.own) fun b hb e=>s.nr (by rw [←List.mem_singleton.1 e];exact hb))
 nd:=s.nd
 fresh:=s.fresh
theorem CB.grow (s:CB d h0 rb cb bl bs k r x c B) {k':Hp} (hl:k≤k'):CB d h0 rb cb bl bs k' r x c B:=s.step (Mv.of_le [rb] hl) (s.rd.grow hl)
theorem CB.rebase (s:CB d h0 rb cb bl bs k r x c B):CB d (cutH k B) rb cb bl bs k r x c B where
 base:=zft2 s.rd.le fun b hb=>by
  cases e:d b with
  | none=>rfl
  | some o=>
   have:=s.base b o e
   rw [s.fresh b hb] at this
   cases this
 kr:=fun e=>by
  rw [zif1 s.nr] at e
  obtain ⟨p,q,t,kb,_⟩:=s.rd.blk
  exact kb.known e
 kc:=fun e=>by
  rw [zif1 s.nc] at e
  exact s.blk.known e
 ne:=s.ne
 dc:=s.dc
 keep:=fun b o e _ _=>zfs2 b o e
 rd:=s.rd
 blk:=s.blk
 own:=s.own
 nd:=s.nd
 fresh:=fun b hb=>zwk1 hb
theorem CB.back (s:CB d h0 rb cb bl bs k r x c B) {k':Hp} {r':RS} {x':S_api_Config} {c':PCfg} {B':List Nat} (t:CB d (cutH k B) rb cb bl bs k' r' x' c' B'):CB d h0 rb cb bl bs k' r' x' c' B' where
 base:=s.base
 kr:=s.kr
 kc:=s.kc
 ne:=s.ne
 dc:=s.dc
 keep:=fun b o e h1 h2=>t.keep b o (by rw [zif1 fun hb=>by rw [s.fresh b hb] at e;cases e];exact s.keep b o e h1 h2) h1 h2
 rd:=t.rd
 blk:=t.blk
 own:=t.own
 nd:=t.nd
 fresh:=fun b hb=>by
  cases e:h0 b with
  | none=>rfl
  | some o=>
   have h1:b≠rb:=fun h=>t.nr (h▸hb)
   have h2:b≠cb:=fun h=>t.nc (h▸hb)
   have h3:=t.fresh b hb
   have h4:b∉B:=fun hb=>by
    rw [s.fresh b hb] at e
    cases e
   rw [zif1 h4,s.keep b o e h1 h2] at h3
   cases h3
theorem CB.fin (s:CB d h0 rb cb bl bs k r x c B) {k3:Hp} {x':S_api_Config} {c':PCfg} {B3:List Nat} {off:Nat} {v:Value} (keep3:∀b ob,k b=some ob→b∉B→k3 b=some ob) (own3:CfgO x' c' k3 B3) (nd3:B3.Nodup) (fr3:∀b∈B3,h0 b=none)
  (hoff:off<7) (hx:cfgL x'=(cfgL x).take off++ [v]++(cfgL x).drop (off+1)):
  (∀b o,h0 b=some o→b≠rb→b≠cb→k3 b=some o)∧Blk k3 cb (cfgL x)∧∀Kf:Hp→Prop,(∀k4,CB d h0 rb cb bl bs k4 r x' c' B3→Kf k4)→StW k3 ⟨cb,off,none⟩ [v] Kf:=by
 have hbk:Blk k3 cb (cfgL x):=by
  obtain ⟨t,e⟩:=s.blk
  exact ⟨t,keep3 cb _ e s.nc⟩
 have hkp:∀b o,h0 b=some o→b≠rb→b≠cb→k3 b=some o:=fun b o e h1 h2=>keep3 b o (s.keep b o e h1 h2) fun hb=>by rw [s.fresh b hb] at e;cases e
 refine ⟨hkp,hbk,fun Kf hK=> ?_⟩
 refine zdp hbk (by show off+1≤7;omega) fun k4 m4 hb4=>hK k4 ?_
 have hn3:cb∉B3:=fun h=>s.kc (fr3 cb h)
 have rd3:RAt d k3 rb bl bs r:=by
  obtain ⟨p,q,t,⟨ty,kb⟩,hs⟩:=s.rd.blk
  refine ⟨fun b o e=>keep3 b o (s.rd.le b o e) fun hb=> ?_,s.rd.out,s.rd.src,s.rd.cap,s.rd.small,p,q,t,⟨ty,keep3 rb _ kb s.nr⟩,hs⟩
  have:=s.base b o e
  rw [s.fresh b hb] at this;cases this
 exact {
  base:=s.base
  kr:=s.kr
  kc:=s.kc
  ne:=s.ne
  dc:=s.dc
  keep:=fun b o e h1 h2=>m4.keep b o (hkp b o e h1 h2) fun hb=>h2 (List.mem_singleton.1 hb)
  rd:=rd3.mv m4 (fun hb=>s.ne (List.mem_singleton.1 hb)) fun b hb=>by rw [List.mem_singleton.1 hb];exact s.dc
  blk:=by rw [hx];exact hb4
  own:=okCfg.same own3 (zmv m4 (okCfg.known own3) fun b hb e=>hn3 (by rw [←List.mem_singleton.1 e];exact hb))
  nd:=nd3
  fresh:=fr3}
theorem CB.num (s:CB d h0 rb cb bl bs k r x c B) {x':S_api_Config} {c':PCfg} {off:Nat} {v:Value} (own':CfgO x c k B→CfgO x' c' k B) (hoff:off<7) (hx:cfgL x'=(cfgL x).take off++ [v]++(cfgL x).drop (off+1)) {Kf:Hp→Prop}
  (hK:∀k4,CB d h0 rb cb bl bs k4 r x' c' B→Kf k4):StW k ⟨cb,off,none⟩ [v] Kf:=
 (s.fin (fun _ _ e _=>e) (own' s.own) s.nd s.fresh hoff hx).2.2 Kf hK
end
end Lf

namespace Lf
open Go Go.Proofs
theorem mid {P M S M2 B':List Nat} {k:Hp} (nd:(P++(M++S)).Nodup) (h2:M2.Nodup) (hf:∀c∈M2,c∈M++B'∨k c=none) (kp:∀c∈P++S,k c≠none) (hb:∀c∈B',c∉P++S):(P++(M2++S)).Nodup:=by
 rw [List.nodup_append] at nd ⊢
 obtain ⟨n1,n2,n3⟩:=nd
 rw [List.nodup_append] at n2 ⊢
 obtain ⟨n4,n5,n6⟩:=n2
 have key:∀c∈M2,c∉P∧c∉S:=fun c hc=>by
  rcases hf c hc with hc | hc
  ·rcases List.mem_append.1 hc with hc | hc
   ·exact ⟨fun hp=>n3 c hp c (List.mem_append_left _ hc) rfl,fun hs=>n6 c hc c hs rfl⟩
   ·have:=hb c hc
    exact ⟨fun hp=>this (List.mem_append_left _ hp),fun hp=>this (List.mem_append_right _ hp)⟩
  ·exact ⟨fun hp=>kp c (List.mem_append_left _ hp) hc,fun hp=>kp c (List.mem_append_right _ hp) hc⟩
 refine ⟨n1,⟨h2,n5,fun a ha b hb' e=>(key a ha).2 (e▸hb')⟩,fun a ha b hb' e=> ?_⟩
 rcases List.mem_append.1 hb' with hb' | hb'
 ·exact (key b hb').1 (e▸ha)
 ·exact n3 a ha b (List.mem_append_right _ hb') e
section
variable {d h0 k:Hp} {rb cb:Nat} {bl:Sl} {bs:List UInt8} {r:RS} {x:S_api_Config} {c:PCfg} {B:List Nat}
theorem CB.new_ (s:CB d h0 rb cb bl bs k r x c B) {b:Nat} (e:k b=none):h0 b=none:=by
 cases h:h0 b with
 | none=>rfl
 | some o=>
  have h1:b≠rb:=fun h=>by
   obtain ⟨p,q,t,kb,_⟩:=s.rd.blk
   exact kb.known (h▸e)
  have h2:b≠cb:=fun h=>s.blk.known (h▸e)
  rw [s.keep b o h h1 h2] at e
  cases e
abbrev CB.Next (d h0:Hp) (rb cb:Nat) (bl:Sl) (bs:List UInt8) (k3:Hp) (r:RS) (x x':S_api_Config) (c':PCfg) (off:Nat) (v:Value):Prop:=
 (∀b o,h0 b=some o→b≠rb→b≠cb→k3 b=some o)∧Blk k3 cb (cfgL x)∧∀Kf:Hp→Prop,(∀k4 B',CB d h0 rb cb bl bs k4 r x' c' B'→Kf k4)→StW k3 ⟨cb,off,none⟩ [v] Kf
theorem CB.labels (s:CB d h0 rb cb bl bs k r x c B) {v:Int} {y:Sl} (hy:Us k y [v]) (hb:c.labels.length≤1000000) {K:Sl→Hp→Prop}
  (hk:∀l' k3,CB.Next d h0 rb cb bl bs k3 r x {x with Labels:=l'} {c with labels:=c.labels++ [v]} 0 l'.v→K l' k3):zaj 1 8 [.int .u64 (0:Int)] x.Labels y K k:=by
 obtain ⟨B1,B2,B3,eB,o1,o2,o3,f⟩:=s.own
 have nd:=s.nd
 rw [eB] at nd
 have k2:∀b∈B2++B3,k b≠none:=fun b hb=>okCfg.known s.own b (by rw [eB];exact mem_b hb)
 refine zqr (PureO.ok Eq) o1 (B':=[]) (v:=v) (p:=v) ⟨rfl,rfl⟩ (by rw [List.append_nil];exact (List.nodup_append.1 nd).1) hy (fun _=>rfl) (fun _=>rfl) rfl (by omega) fun l' k3 B'' o1' nd' keep' from'=> ?_
 have hd1:∀b∈B2++B3,b∉B1:=fun b hb hb1=>(List.nodup_append.1 nd).2.2 b hb1 b hb rfl
 have hs:∀b∈B2++B3,k3 b=k b:=fun b hb=>by
  cases e:k b with
  | none=>exact absurd e (k2 b hb)
  | some o=>exact keep' b o e (hd1 b hb)
 have h:=s.fin (k3:=k3) (x':={x with Labels:=l'}) (c':={c with labels:=c.labels++ [v]}) (B3:=B''++(B2++B3)) (off:=0) (v:=l'.v) (fun b ob e hn=>keep' b ob e fun h=>hn (by rw [eB];exact mem_a h))
  ⟨B'',B2,B3,rfl,o1',okIs.same o2 fun b hb=>hs b (mem_a hb),okProcs.same o3 fun b hb=>hs b (mem_b hb),f⟩ (mid (P:=[]) (M:=B1) (S:=B2++B3) nd nd' from' k2 (fun b hb=>by cases hb))
  (fun b hb=>by
   rcases List.mem_append.1 hb with hb | hb
   ·rcases from' b hb with hb | hb
    ·exact s.fresh b (by rw [eB];exact mem_a (by simpa using hb))
    ·exact s.new_ hb
   ·exact s.fresh b (by rw [eB];exact mem_b hb)) (by omega) rfl
 exact hk l' k3 ⟨h.1,h.2.1,fun Kf hK=>h.2.2 Kf fun k4 c4=>hK k4 _ c4⟩
theorem CB.table (s:CB d h0 rb cb bl bs k r x c B) {v:Int} {y:Sl} (hy:Is k y [v]) (hb:c.table.length≤1000000) {K:Sl→Hp→Prop}
  (hk:∀l' k3,CB.Next d h0 rb cb bl bs k3 r x {x with Table:=l'} {c with table:=c.table++ [v]} 1 l'.v→K l' k3):zaj 1 8 [.int .i64 (0:Int)] x.Table y K k:=by
 obtain ⟨B1,B2,B3,eB,o1,o2,o3,f⟩:=s.own
 have nd:=s.nd
 rw [eB] at nd
 have k2:∀b∈B1++B3,k b≠none:=fun b hb=>okCfg.known s.own b (by
  rw [eB]
  rcases List.mem_append.1 hb with hb | hb
  ·exact mem_a hb
  ·exact mem_b (mem_b hb))
 have nd2:=List.nodup_append.1 (List.nodup_append.1 nd).2.1
 refine zqr (PureO.ok Eq) o2 (B':=[]) (v:=v) (p:=v) ⟨rfl,rfl⟩ (by rw [List.append_nil];exact nd2.1) hy (fun _=>rfl) (fun _=>rfl) rfl (by omega) fun l' k3 B'' o1' nd' keep' from'=> ?_
 have hs:∀b∈B1++B3,k3 b=k b:=fun b hb=>by
  cases e:k b with
  | none=>exact absurd e (k2 b hb)
  | some o=>
   refine keep' b o e fun h=> ?_
   rcases List.mem_append.1 hb with hb | hb
   ·exact (List.nodup_append.1 nd).2.2 b hb b (mem_a h) rfl
   ·exact nd2.2.2 b h b hb rfl
 have h:=s.fin (k3:=k3) (x':={x with Table:=l'}) (c':={c with table:=c.table++ [v]}) (B3:=B1++(B''++B3)) (off:=1) (v:=l'.v) (fun b ob e hn=>keep' b ob e fun h=>hn (by rw [eB];exact mem_b (mem_a h)))
  ⟨B1,B'',B3,rfl,okUs.same o1 fun b hb=>hs b (mem_a hb),o1',okProcs.same o3 fun b hb=>hs b (mem_b hb),f⟩ (mid (M:=B2) nd nd' from' k2 (fun b hb=>by cases hb))
  (fun b hb=>by
   rcases List.mem_append.1 hb with hb | hb
   ·exact s.fresh b (by rw [eB];exact mem_a hb)
   rcases List.mem_append.1 hb with hb | hb
   ·rcases from' b hb with hb | hb
    ·exact s.fresh b (by rw [eB];exact mem_b (mem_a (by simpa using hb)))
    ·exact s.new_ hb
   ·exact s.fresh b (by rw [eB];exact mem_b (mem_b hb))) (by omega) rfl
 exact hk l' k3 ⟨h.1,h.2.1,fun Kf hK=>h.2.2 Kf fun k4 c4=>hK k4 _ c4⟩
theorem CB.procs (s:CB d h0 rb cb bl bs k r x c B) {v:S_api_Proc} {p:PProc} {B':List Nat} (e:ProcO v p k B') (ndB:B'.Nodup) (hB:∀b∈B',h0 b=none∧b∉B) {y:Sl} (hy:Rs k sh_api_Proc 2 y [v]) (hb:c.procs.length≤1000000) {K:Sl→Hp→Prop}
  (hk:∀l' k3,CB.Next d h0 rb cb bl bs k3 r x {x with Procs:=l'} {c with procs:=c.procs++ [p]} 6 l'.v→K l' k3):zaj 2 32 [.int .i64 (0:Int),.slice none 0 0] x.Procs y K k:=by
 obtain ⟨B1,B2,B3,eB,o1,o2,o3,f⟩:=s.own
 have nd:=s.nd
 rw [eB] at nd
 have nd0:=List.nodup_append.1 nd
 have nd2:=List.nodup_append.1 nd0.2.1
 have k2:∀b∈B1++B2,k b≠none:=fun b hb=>okCfg.known s.own b (by
  rw [eB]
  rcases List.mem_append.1 hb with hb | hb
  ·exact mem_a hb
  ·exact mem_b (mem_a hb))
 refine zqr zrt1 o3 (v:=v) (p:=p) e (by
   rw [List.nodup_append]
   exact ⟨nd2.2.1,ndB,fun a ha b hb e=>(hB b hb).2 (by rw [eB,←e];exact mem_b (mem_b ha))⟩) hy (fun _=>rfl) (fun _=>rfl) rfl (by omega) fun l' k3 B'' o1' nd' keep' from'=> ?_
 have hs:∀b∈B1++B2,k3 b=k b:=fun b hb=>by
  cases e:k b with
  | none=>exact absurd e (k2 b hb)
  | some o=>
   refine keep' b o e fun h=> ?_
   rcases List.mem_append.1 hb with hb | hb
   ·exact nd0.2.2 b hb b (mem_b h) rfl
   ·exact nd2.2.2 b hb b h rfl
 have hmid:=mid (P:=B1++B2) (M:=B3) (S:=[]) (by simpa using nd) nd' from' (by simpa using k2) (fun b hb h=>(hB b hb).2 (by
  rw [eB]
  rw [List.append_nil] at h
  rcases List.mem_append.1 h with h | h
  ·exact mem_a h
  ·exact mem_b (mem_a h)))
 have h:=s.fin (k3:=k3) (x':={x with Procs:=l'}) (c':={c with procs:=c.procs++ [p]}) (B3:=B1++(B2++B'')) (off:=6) (v:=l'.v) (fun b ob e hn=>keep' b ob e fun h=>hn (by rw [eB];exact mem_b (mem_b h)))
  ⟨B1,B2,B'',rfl,okUs.same o1 fun b hb=>hs b (mem_a hb),okIs.same o2 fun b hb=>hs b (mem_b hb),o1',f⟩ (by simpa using hmid)
  (fun b hb=>by
   rcases List.mem_append.1 hb with hb | hb
   ·exact s.fresh b (by rw [eB];exact mem_a hb)
   rcases List.mem_append.1 hb with hb | hb
   ·exact s.fresh b (by rw [eB];exact mem_b (mem_a hb))
   rcases from' b hb with hb | hb
   ·rcases List.mem_append.1 hb with hb | hb
    ·exact s.fresh b (by rw [eB];exact mem_b (mem_b hb))
    ·exact (hB b hb).1
   ·exact s.new_ hb) (by omega) rfl
 exact hk l' k3 ⟨h.1,h.2.1,fun Kf hK=>h.2.2 Kf fun k4 c4=>hK k4 _ c4⟩
end
end Lf

namespace Lf
open Go Go.Proofs
theorem zyp1 {P:Program} {ab cb:Nat} {x:S_api_Config} {xs:List Int} {h:Hp} {a:Int} (ha:LdIs h ⟨ab,0,none⟩ [.pointer (some ⟨cb,0,none⟩)]) (kc:Blk h cb (cfgL x)) (hu:Us h x.Labels xs) (hlen:xs.length≤1000)
  {Q:Int→Hp→Prop} (hq:Q (labE xs a) h):zhr P a ⟨ab,0,none⟩ Q h:=by
 unfold zhr
 have hl:x.Labels.len=xs.length:=hu.1
 refine ld_at (sh:=shPtr) (some ⟨cb,0,none⟩) ha (zab (ld_at (sh:=shSl) x.Labels (kc.ldIs (off:=0) (n:=1) rfl) ?_))
 rw [hl,zal (by omega) (by omega)]
 refine ldC (sh:=shPtr) (some ⟨cb,0,none⟩) ha (zab (ldC (sh:=shSl) x.Labels (kc.ldIs (off:=0) (n:=1) rfl) ?_))
 refine Rs.getC (sh:=shInt .u64) hu (0:Int) (fun _=>rfl) (by omega) (fun e=>by simp at e;omega) fun (x4:Int) hx4=>letW ?_
 unfold labE at hq
 rw [List.getLast?_eq_getElem?] at hq
 by_cases hn:xs.length=0
 ·have hd:decide (((xs.length:Nat):Int)-1≥0)=false:=decide_eq_false (by omega)
  rw [List.getElem?_eq_none (by omega)] at hq
  rw [hd,if_neg (by simp)]
  refine ⟨none,fun e=>(by cases e),⟨cb,0,none⟩,fun e=>(by cases e),⟨none,0,0⟩,fun e=>(by cases e),fun e=>(by cases e),(0:Int),fun e=>(by cases e),letW ?_⟩
  rw [if_neg (by simp)]
  exact hq
 ·have hd:decide (((xs.length:Nat):Int)-1≥0)=true:=decide_eq_true (by omega)
  have hg:xs[xs.length-1]?=some (xs[xs.length-1]'(by omega)):=List.getElem?_eq_getElem (by omega)
  have hi:(((xs.length:Nat):Int)-1).toNat=xs.length-1:=by omega
  have hx4:=hx4 hd
  rw [hi,hg] at hx4
  have hx4:xs[xs.length-1]'(by omega)=x4:=Option.some.inj hx4
  rw [hg,hx4] at hq
  have hq:Q (if a=x4 then 8 else if a<x4 then 7 else 0) h:=hq
  rw [hd,Bool.true_and]
  by_cases h1:a=x4
  ·rw [if_pos (by simpa using h1)]
   rw [if_pos h1] at hq
   exact hq
  ·rw [if_neg (by simpa using h1)]
   rw [if_neg h1] at hq
   refine ldC (sh:=shPtr) (some ⟨cb,0,none⟩) ha (zab (ldC (sh:=shSl) x.Labels (kc.ldIs (off:=0) (n:=1) rfl) ?_))
   refine Rs.getC (sh:=shInt .u64) hu (0:Int) (fun _=>rfl) (by omega) (fun e=>by omega) fun (x7:Int) hx7=>letW ?_
   have hx7:=hx7 rfl
   rw [hi,hg] at hx7
   have hx7:xs[xs.length-1]'(by omega)=x7:=Option.some.inj hx7
   rw [←hx7,hx4,Bool.true_and]
   by_cases h2:a<x4
   ·rw [if_pos (decide_eq_true h2)]
    rw [if_pos h2] at hq
    exact hq
   ·rw [if_neg (fun e=>h2 (of_decide_eq_true e))]
    rw [if_neg h2] at hq
    exact hq
abbrev labD (acc:List Int):D Int:=D.must (zD 8) (labE acc)
section
variable {d h0 k:Hp} {rb cb:Nat} {bl:Sl} {bs:List UInt8} {r:RS} {x:S_api_Config} {c:PCfg} {B:List Nat}
theorem zcy {α:Type} (g:List α→D α) (n:Nat) (acc:List α):D.many g (n+1) acc=D.bind (g acc) fun x=>D.many g n (acc++ [x]):=rfl
theorem zby2 (s:CB d h0 rb cb bl bs k r x c B) (hl:c.labels=[]) {Q:Hp→Prop}
  (hq:∀(xs:List Int) r1 k' x' B',xs.length≤255→CB d h0 rb cb bl bs k' r1 x' {c with labels:=xs} B'→
   (∀(β:Type) (f:Int→List Int→D β),stepD r (D.bind (D.must (zD 1) (cntE 8)) fun nl=>D.bind (D.many labD nl.toNat []) fun labels=>f nl labels) bs=stepD r1 (f xs.length xs) bs)→Q k'):
  zkd Tryz.prog (some ⟨rb,0,none⟩) (some ⟨cb,0,none⟩) Q k:=by
 unfold zkd
 refine newB2 fun ab k1 hn1 hle1 hA1=> ?_
 have s1:=s.grow hle1
 have hab:ab∉B:=fun h=>okCfg.known s.own ab h hn1
 have har:ab≠rb:=fun h=>by
  obtain ⟨p,q,t,kb,_⟩:=s.rd.blk
  exact kb.known (h▸hn1)
 have hac:ab≠cb:=fun h=>s.blk.known (h▸hn1)
 have hcutA:∃o,cutH k1 B ab=some o∧∀kk:Hp,kk ab=some o→LdIs kk ⟨ab,0,none⟩ [.pointer (some ⟨cb,0,none⟩)]:=by
  obtain ⟨t,e⟩:=hA1
  refine ⟨_,by rw [zif1 hab];exact e,fun kk e2=>Blk.ldIs ⟨t,e2⟩ (off:=0) (n:=1) rfl⟩
 obtain ⟨oA,hoA,hldA⟩:=hcutA
 refine zfp (zhx1 s1.rd fun v r1 k2 hv m2 a2 hc2=> ?_)
 have s2:=s1.rebase.step m2 a2
 refine LoopW1.intro (fun n k3=>∃(i:Nat) (xs:List Int) (r':RS) (x':S_api_Config) (B':List Nat),n=(i:Int)∧(i+xs.length=v)∧CB d (cutH k1 B) rb cb bl bs k3 r' x' {c with labels:=xs} B'∧
   ∀(β:Type) (f:List Int→D β),stepD r1 (D.bind (D.many labD v []) f) bs=stepD r' (D.bind (D.many labD i xs) f) bs) (fun n _=>n.toNat)
  ⟨v,[],r1,x,B,rfl,by simp,by have:=s2;rw [show c={c with labels:=[]} by rw [←hl]] at this;exact this,fun _ _=>rfl⟩ ?_
 rintro n k3 ⟨i,xs,r',x',B',rfl,hix,s3,hcn⟩
 refine effI (fun b=>b=true↔∃e,r'=.error e) false (fun _ hk=>zaz (s3.rd.bad hk)) fun b hb=>letW ?_
 have hend:(i=0∨∃e,r'=.error e)→Q k3:=fun hor=>by
  refine hq xs r' k3 x' B' (by omega) (s1.back s3) fun β f=> ?_
  rw [hc2]
  have e:=hcn β fun labels=>f v labels
  rw [show ((v:Int)).toNat=v from rfl,e]
  rcases hor with rfl | ⟨e,rfl⟩
  ·have:v=xs.length:=by omega
   rw [this];rfl
  ·rfl
 by_cases hi:i=0
 ·rw [if_neg (by simp [hi])]
  exact hend (.inl hi)
 have hb:=hb (decide_eq_true (by omega))
 cases b with
 | true=>
  rw [if_neg (by simp)]
  exact hend (.inr (hb.1 rfl))
 | false=>
  rw [if_pos (by simp;omega)]
  obtain ⟨j,rfl⟩:∃j,i=j+1:=⟨i-1,by omega⟩
  have hUs:Us k3 x'.Labels xs:=by
   obtain ⟨B1,B2,B3,_,o1,_⟩:=s3.own
   exact o1.rd
  refine zdx (wrong:=⟨zhe, #[], #[.pointer (some ⟨ab,0,none⟩)]⟩) (zgs1 (k:=8) s3.rd (by omega) (by omega) (fun n=>labE xs (toZ n)) (fun n hn2 K hK=> ?_) fun w r2 k4 hw m4 a4 hc4=> ?_)
  ·refine zmw (g:=zhe) rfl (zts ?_)
   exact zyp1 (hldA k3 (s3.keep ab oA hoA har hac)) s3.blk hUs (by omega) (hK k3 (Hp.le_refl _))
  ·have s4:=s3.step m4 a4
   have hc5:Cn bs r' (labD xs) r2 (w:Int):=by
    show Cn bs r' (D.must (zD 8) (labE xs)) r2 (toZ w)
    rw [zfw2]
    exact hc4.map
   have lA:∀kk:Hp,(∀b o,cutH k1 B b=some o→b≠rb→b≠cb→kk b=some o)→LdIs kk ⟨ab,0,none⟩ [.pointer (some ⟨cb,0,none⟩)]:=fun kk hkk=>hldA kk (hkk ab oA hoA har hac)
   refine ld_at (sh:=shPtr) (some ⟨cb,0,none⟩) (lA k4 s4.keep) (ld_at (sh:=shPtr) (some ⟨cb,0,none⟩) (lA k4 s4.keep) (zab (ld_at (sh:=shSl) x'.Labels (s4.blk.ldIs (off:=0) (n:=1) rfl) ?_)))
   refine newF (xs:=[(w:Int)]) (enc:=fun x=>zad ((shInt .u64).enc x)) (sz:=1) rfl (fun _=>rfl) fun b5 k5 _ hle5 _ o5=> ?_
   have s5:=s4.grow hle5
   refine ⟨⟨lA k5 s5.keep,lA k5 s5.keep,s5.blk.ldIs (off:=0) (n:=1) rfl,trivial⟩,?_⟩
   refine s5.labels (v:=(w:Int)) (o5.rw fun _=>rfl) (by show xs.length≤_;omega) fun l' k6 hN=> ?_
   refine ⟨⟨lA k6 hN.1,trivial⟩,zab (hN.2.2 _ fun k7 B7 s7=> ?_)⟩
   rw [zal (by omega) (by omega)]
   refine ⟨⟨j,xs++ [(w:Int)],r2,_,B7,by omega,by simp;omega,s7,fun β f=> ?_⟩,by omega⟩
   rw [hcn,zcy,zan,hc5]
theorem zet2 (s:CB d h0 rb cb bl bs k r x c B) (hl:c.table=[]) (hsm:c.labels.length≤255) {Q:Hp→Prop}
  (hq:∀(xs:List Int) r1 k' x' B',xs.length≤255→CB d h0 rb cb bl bs k' r1 x' {c with table:=xs} B'→
   (∀(β:Type) (f:List Int→D β),stepD r (D.bind (D.must (zD 1) (cntE 64)) fun nt=>D.bind (D.many (fun _=>D.must (zD 1) (rngE 0 ((c.labels.length:Int)-1))) nt.toNat []) fun table=>f table) bs=stepD r1 (f xs) bs)→Q k'):
  zlh Tryz.prog (some ⟨rb,0,none⟩) (some ⟨cb,0,none⟩) Q k:=by
 unfold zlh
 refine zfp (zhx1 s.rd fun v r1 k2 hv m2 a2 hc2=> ?_)
 have s2:=s.step m2 a2
 refine LoopW1.intro (fun n k3=>∃(i:Nat) (xs:List Int) (r':RS) (x':S_api_Config) (B':List Nat),n=(i:Int)∧(i+xs.length=v)∧CB d h0 rb cb bl bs k3 r' x' {c with table:=xs} B'∧
   ∀(β:Type) (f:List Int→D β),stepD r1 (D.bind (D.many (fun _=>D.must (zD 1) (rngE 0 ((c.labels.length:Int)-1))) v []) f) bs=stepD r' (D.bind (D.many (fun _=>D.must (zD 1) (rngE 0 ((c.labels.length:Int)-1))) i xs) f) bs) (fun n _=>n.toNat)
  ⟨v,[],r1,x,B,rfl,by simp,by have:=s2;rw [show c={c with table:=[]} by rw [←hl]] at this;exact this,fun _ _=>rfl⟩ ?_
 rintro n k3 ⟨i,xs,r',x',B',rfl,hix,s3,hcn⟩
 refine effI (fun b=>b=true↔∃e,r'=.error e) false (fun _ hk=>zaz (s3.rd.bad hk)) fun b hb=>letW ?_
 have hend:(i=0∨∃e,r'=.error e)→Q k3:=fun hor=>by
  refine hq xs r' k3 x' B' (by omega) s3 fun β f=> ?_
  rw [hc2]
  have e:=hcn β f
  rw [show ((v:Int)).toNat=v from rfl,e]
  rcases hor with rfl | ⟨e,rfl⟩
  ·rfl
  ·rfl
 by_cases hi:i=0
 ·rw [if_neg (by simp [hi])]
  exact hend (.inl hi)
 have hb:=hb (decide_eq_true (by omega))
 cases b with
 | true=>
  rw [if_neg (by simp)]
  exact hend (.inr (hb.1 rfl))
 | false=>
  rw [if_pos (by simp;omega)]
  obtain ⟨j,rfl⟩:∃j,i=j+1:=⟨i-1,by omega⟩
  have hll:x'.Labels.len=c.labels.length:=by
   obtain ⟨B1,B2,B3,_,o1,_⟩:=s3.own
   exact o1.len
  refine zab (ld_at (sh:=shSl) x'.Table (s3.blk.ldIs (off:=1) (n:=1) rfl) ?_)
  refine zji (zil1 s3.rd s3.blk (by omega) fun w r2 k4 hw m4 a4 hc4=> ?_)
  have s4:=s3.step m4 a4
  rw [hll] at hc4
  refine ⟨⟨s4.blk.ldIs (off:=1) (n:=1) rfl,trivial⟩,?_⟩
  refine newF (xs:=[(w:Int)]) (enc:=fun x=>zad ((shInt .i64).enc x)) (sz:=1) rfl (fun _=>rfl) fun b5 k5 _ hle5 _ o5=> ?_
  have s5:=s4.grow hle5
  refine ⟨⟨s5.blk.ldIs (off:=1) (n:=1) rfl,trivial⟩,?_⟩
  refine s5.table (v:=(w:Int)) (o5.rw fun _=>rfl) (by show xs.length≤_;omega) fun l' k6 hN=> ?_
  refine zab (hN.2.2 _ fun k7 B7 s7=> ?_)
  rw [zal (by omega) (by omega)]
  refine ⟨⟨j,xs++ [(w:Int)],r2,_,B7,by omega,by simp;omega,s7,fun β f=> ?_⟩,by omega⟩
  rw [hcn,zcy,zan,hc4]
end
end Lf

namespace Lf
open Go Go.Proofs
theorem zmz {v:Nat} (h:v<18446744073709551616):IntKind.wrap .i64 (v:Int)=i64 v:=by
 unfold IntKind.wrap i64
 simp only [IntKind.signed,IntKind.bits]
 simp
 split<;>split<;>omega
theorem zpq1 {has:Bool} {n:Int} (h:0≤n):regP has n≠0↔((has&&decide (n≥8)) || ((!has)&&(n !=0)))=true:=by
 unfold regP
 cases has with
 | true=>
  rw [if_neg (by simp)]
  by_cases h1:n<0∨8≤n
  ·rw [if_pos h1];simp;omega
  ·rw [if_neg h1];simp;omega
 | false=>
  by_cases h1:n≠0
  ·rw [if_pos ⟨rfl,h1⟩];simpa using h1
  ·rw [if_neg (fun e=>h1 e.2),if_neg (by omega)]
   simpa using h1
def zeo1 (x:PIns):Int:=if regP (zba x.op).1 x.a≠0 then 1 else if regP (zba x.op).2.1 x.b≠0 then 2 else if regP (zba x.op).2.2.1 x.c≠0 then 3 else 4
theorem zhy1 {x:PIns} {n locks:Int} (h:(zbv x n locks).1≠0):(zbv x n locks).2=if (zbv x n locks).1=9 then 0 else zeo1 x:=by
 have h9:∀b m,regP b m≠9:=fun b m=>by
  unfold regP
  split
  ·decide
  ·split<;>decide
 unfold zbv at h ⊢
 unfold zeo1
 by_cases h1:x.op<0∨34≤x.op
 ·rw [if_pos h1] at h ⊢;rw [if_pos rfl]
 rw [if_neg h1] at h ⊢
 by_cases h2:regP (zba x.op).1 x.a≠0
 ·rw [if_pos h2] at h ⊢;rw [if_neg (h9 _ _),if_pos h2]
 rw [if_neg h2] at h ⊢
 rw [if_neg h2]
 by_cases h3:regP (zba x.op).2.1 x.b≠0
 ·rw [if_pos h3] at h ⊢;rw [if_neg (h9 _ _),if_pos h3]
 rw [if_neg h3] at h ⊢
 rw [if_neg h3]
 by_cases h4:regP (zba x.op).2.2.1 x.c≠0
 ·rw [if_pos h4] at h ⊢;rw [if_neg (h9 _ _),if_pos h4]
 rw [if_neg h4] at h ⊢
 rw [if_neg h4]
 by_cases h5:(zba x.op).2.2.2=false∧x.imm≠0
 ·rw [if_pos h5] at h ⊢;rfl
 rw [if_neg h5] at h ⊢
 by_cases h6:(x.op=22∨x.op=23)∧(x.imm<0∨n<x.imm)
 ·rw [if_pos h6] at h ⊢;rfl
 rw [if_neg h6] at h ⊢
 by_cases h7:(x.op=29∨x.op=30)∧(x.imm<0∨locks≤x.imm)
 ·rw [if_pos h7] at h ⊢;rfl
 rw [if_neg h7] at h
 exact absurd rfl h
theorem zbz2 {h:Hp} {x:S_api_Ins} {e:Int} {Q:Int→Hp→Prop} (ha:0≤x.A) (hb:0≤x.B) (hc:0≤x.C) (hq:∀h',h≤h'→Q (if e=9 then 0 else zeo1 (insOf x)) h'):zvl Tryz.prog x e Q h:=by
 unfold zvl
 by_cases h9:e=9
 ·rw [if_pos (by simpa using h9)]
  rw [if_pos h9] at hq
  exact hq h (Hp.le_refl _)
 rw [if_neg (by simpa using h9)]
 rw [if_neg h9] at hq
 refine zxw (zgp1 fun h1 hle1=> ?_)
 generalize hf:zba x.Op=f at*
 obtain ⟨f1,f2,f3,f4⟩:=f
 dsimp only
 refine newB2 (cs:=[.bool f1,.int .i64 x.A,.bool f2,.int .i64 x.B,.bool f3,.int .i64 x.C]) fun b h2 _ hle2 hB=> ?_
 have hq:=fun h' hl=>hq h' (Hp.le_trans hle1 (Hp.le_trans hle2 hl))
 have p1:=zpq1 (has:=f1) ha
 have p2:=zpq1 (has:=f2) hb
 have p3:=zpq1 (has:=f3) hc
 have hsp:zeo1 (insOf x)=if regP f1 x.A≠0 then 1 else if regP f2 x.B≠0 then 2 else if regP f3 x.C≠0 then 3 else 4:=by
  unfold zeo1
  have e:zba (insOf x).op=(f1,f2,f3,f4):=hf
  rw [e]
  rfl
 rw [hsp] at hq
 refine forI (n:=3) rfl (by omega) (fun i h'=>h'=h2∧(1≤i→¬regP f1 x.A≠0)∧(2≤i→¬regP f2 x.B≠0)∧(3≤i→¬regP f3 x.C≠0)) ⟨rfl,fun h=>by omega,fun h=>by omega,fun h=>by omega⟩ ?_ ?_
 ·rintro i hi h3 ⟨rfl,q1,q2,q3⟩ K hK
  refine ⟨⟨by simp,by omega,by omega⟩,?_⟩
  match i,hi with
  | 0,_=>
   refine ld_at (sh:=zch) ⟨f1,x.A⟩ (hB.ldIs (off:=0) (n:=2) rfl) (letW (letW (letW ?_)))
   dsimp only
   by_cases hbad:regP f1 x.A≠0
   ·rw [if_pos (p1.1 hbad),zal (by omega) (by omega)]
    rw [if_pos hbad] at hq
    exact hq h3 (Hp.le_refl _)
   ·rw [if_neg (fun e=>hbad (p1.2 e))]
    exact hK h3 ⟨rfl,fun _=>hbad,fun h=>by omega,fun h=>by omega⟩
  | 1,_=>
   refine ld_at (sh:=zch) ⟨f2,x.B⟩ (hB.ldIs (off:=2) (n:=2) rfl) (letW (letW (letW ?_)))
   dsimp only
   by_cases hbad:regP f2 x.B≠0
   ·rw [if_pos (p2.1 hbad),zal (by omega) (by omega)]
    rw [if_neg (q1 (by omega)),if_pos hbad] at hq
    exact hq h3 (Hp.le_refl _)
   ·rw [if_neg (fun e=>hbad (p2.2 e))]
    exact hK h3 ⟨rfl,fun _=>q1 (by omega),fun _=>hbad,fun h=>by omega⟩
  | 2,_=>
   refine ld_at (sh:=zch) ⟨f3,x.C⟩ (hB.ldIs (off:=4) (n:=2) rfl) (letW (letW (letW ?_)))
   dsimp only
   by_cases hbad:regP f3 x.C≠0
   ·rw [if_pos (p3.1 hbad),zal (by omega) (by omega)]
    rw [if_neg (q1 (by omega)),if_neg (q2 (by omega)),if_pos hbad] at hq
    exact hq h3 (Hp.le_refl _)
   ·rw [if_neg (fun e=>hbad (p3.2 e))]
    exact hK h3 ⟨rfl,fun _=>q1 (by omega),fun _=>q2 (by omega),fun _=>hbad⟩
 ·rintro h3 ⟨rfl,q1,q2,q3⟩
  rw [if_neg (q1 (by omega)),if_neg (q2 (by omega)),if_neg (q3 (by omega))] at hq
  exact hq h3 (Hp.le_refl _)
def Only5 {α:Type} (d:D α):Prop:=∀bs at_ e,d bs at_=.error e→e=(5,bs.length)
theorem zgt1 (k:Nat):Only5 (D.num k):=fun bs at_ e h=>by
 unfold D.num at h
 split at h<;>cases h
 rfl
theorem zkv {α β:Type} {d:D α} {f:α→D β} (h1:Only5 d) (h2:∀x,Only5 (f x)):Only5 (D.bind d f):=fun bs at_ e h=>by
 unfold D.bind at h
 cases hd:d bs at_ with
 | error e1=>rw [hd] at h;cases h;exact h1 bs at_ _ hd
 | ok x=>rw [hd] at h;exact h2 _ bs _ e h
theorem zbl1 {α:Type} (x:α):Only5 (D.ret x):=fun _ _ _ h=>by cases h
theorem zwy1 :Only5 zpr:=
 zkv (zkv (zgt1 1) fun _=>zbl1 _) fun _=>zkv (zkv (zgt1 1) fun _=>zbl1 _) fun _=>zkv (zkv (zgt1 1) fun _=>zbl1 _) fun _=>
  zkv (zkv (zgt1 1) fun _=>zbl1 _) fun _=>zkv (zkv (zgt1 8) fun _=>zbl1 _) fun _=>zbl1 _
theorem zii2 {α:Type} (d:D α):D.must d (fun _=>0)=d:=by
 funext b a
 unfold D.must
 cases d b a with
 | error e=>rfl
 | ok x=>rfl
end Lf

namespace Lf
open Go Go.Proofs
section
variable {d h:Hp} {rb:Nat} {bl:Sl} {bs:List UInt8} {r:RS}
theorem zld1 {k:Nat} {Q:Int→Hp→Prop} (a:RAt d h rb bl bs r) (hk1:1≤k) (hk8:k≤8)
  (hq:∀(v:Nat) r1 h',v<256^k→Mv [rb] h [rb] h'→RAt d h' rb bl bs r1→Cn bs r (D.num k) r1 v→Q (v:Int) h'):
  CallT Tryz.prog zbd [(.pointer (some ⟨rb,0,none⟩)),(.int .i64 (k:Int)),(.func (.func zge) #[] #[])] (shInt .u64) Q h:=by
 refine zdx (wrong:=⟨zge, #[], #[]⟩) (zgs1 (k:=k) a hk1 hk8 (fun _=>0) (fun n hn2 K hK=> ?_) fun v r1 h2 hv m a2 hc=> ?_)
 ·refine zmw (g:=zge) rfl (zzd ?_)
  unfold zrd
  exact hK h (Hp.le_refl _)
 ·rw [zii2] at hc
  exact hq v r1 h2 hv m a2 hc
theorem zij2 {n locks:Int} {Q:S_api_Ins→Hp→Prop} (a:RAt d h rb bl bs r) (hq:∀(v:S_api_Ins) r1 h',Mv [rb] h [rb] h'→RAt d h' rb bl bs r1→Cn bs r (insD n locks) r1 (insOf v)→Q v h'):
  zns Tryz.prog (some ⟨rb,0,none⟩) n locks Q h:=by
 unfold zns
 obtain ⟨p,e,pl,kb,hs⟩:=a.blk
 have hlen:bl.len=bs.length:=a.src.1
 have hsm:=a.small
 refine zaz (znf1 kb ?_)
 cases r with
 | error x=>
  obtain ⟨er,q⟩:=x
  rw [if_pos (by rw [hs.1];simpa using hs.2.1)]
  exact hq _ _ h (Mv.refl _ _) a Cn.stay
 | ok at_=>
  obtain ⟨rfl,rfl,hn⟩:=hs
  have hn:at_≤bs.length:=by omega
  rw [if_neg (by simp)]
  refine zab (ld_at (sh:=shInt .i64) (at_:Int) (kb.ldIs (off:=1) (n:=1) rfl) (zab (ld_at (sh:=shSl) bl (kb.ldIs (off:=0) (n:=1) rfl) ?_)))
  rw [zal (by omega) (by omega)]
  by_cases hsh:bs.length<at_+12
  ·rw [if_pos (decide_eq_true (by omega))]
   refine zab (ld_at (sh:=shSl) bl (kb.ldIs (off:=0) (n:=1) rfl) (zbz (zen1 kb fun h' m k'=> ?_)))
   rw [if_pos ⟨by decide,rfl⟩,if_pos ⟨by decide,rfl⟩] at k'
   refine hq _ (.error (5,bs.length)) h' m ⟨(m.le a.le fun c hc=>by rw [List.mem_singleton.1 hc];exact a.out).1,a.out,a.src,a.cap,a.small,_,_,_,k',rfl,by decide,by rw [hlen]⟩ (Cn.err ?_)
   unfold insD D.mustAt
   cases hi:zpr bs at_ with
   | error e=>rw [zwy1 bs at_ e hi]
   | ok y=>
    obtain ⟨y,a2⟩:=y
    have h1:=(law_ins.sound bs at_ y a2 hi hn).2.1
    have h2:=law_ins.within hi hn
    simp [insB,zaf] at h1
    omega
  ·rw [if_neg (fun e=>hsh (by have:=of_decide_eq_true e;omega))]
   refine zld1 (k:=1) a (by omega) (by omega) fun v1 r1 h1 hv1 m1 a1 c1=> ?_
   refine zld1 (k:=1) a1 (by omega) (by omega) fun v2 r2 h2 hv2 m2 a2 c2=> ?_
   refine zld1 (k:=1) a2 (by omega) (by omega) fun v3 r3 h3 hv3 m3 a3 c3=> ?_
   refine zld1 (k:=1) a3 (by omega) (by omega) fun v4 r4 h4 hv4 m4 a4 c4=> ?_
   refine zld1 (k:=8) a4 (by omega) (by omega) fun v5 r5 h5 hv5 m5 a5 c5=> ?_
   have m:=m1.trans (m2.trans (m3.trans (m4.trans m5)))
   have hc:Cn bs (.ok at_) zpr r5 (insOf ⟨(v1:Int),(v2:Int),(v3:Int),(v4:Int),i64 v5⟩):=
    Cn.seq c1.map (Cn.seq c2.map (Cn.seq c3.map (Cn.seq c4.map (Cn.seq c5.map Cn.ret))))
   rw [zmz (v:=v5) (by omega)]
   rw [zal (n:=(v1:Int)) (by omega) (by omega),zal (n:=(v2:Int)) (by omega) (by omega),zal (n:=(v3:Int)) (by omega) (by omega),zal (n:=(v4:Int)) (by omega) (by omega)]
   have hx:(⟨(v1:Int),(v2:Int),(v3:Int),(v4:Int),i64 v5⟩:S_api_Ins).A=(v2:Int):=rfl
   refine zao1 (x:=⟨(v1:Int),(v2:Int),(v3:Int),(v4:Int),i64 v5⟩) (zwq1 fun h6 hle6=> ?_)
   have hA:0≤(⟨(v1:Int),(v2:Int),(v3:Int),(v4:Int),i64 v5⟩:S_api_Ins).A:=by show (0:Int)≤(v2:Int);omega
   have hB:0≤(⟨(v1:Int),(v2:Int),(v3:Int),(v4:Int),i64 v5⟩:S_api_Ins).B:=by show (0:Int)≤(v3:Int);omega
   have hC:0≤(⟨(v1:Int),(v2:Int),(v3:Int),(v4:Int),i64 v5⟩:S_api_Ins).C:=by show (0:Int)≤(v4:Int);omega
   have hdone:=hc.done
   have m6:=m.trans (Mv.of_le [rb] hle6)
   have a6:=a5.grow hle6
   have hval:(sh_api_Ins.enc ⟨(v1:Int),(v2:Int),(v3:Int),(v4:Int),i64 v5⟩)=.agg #[.int .i64 (v1:Int),.int .i64 (v2:Int),.int .i64 (v3:Int),.int .i64 (v4:Int),.int .i64 (i64 v5)]:=rfl
   rw [←hval]
   generalize (⟨(v1:Int),(v2:Int),(v3:Int),(v4:Int),i64 v5⟩:S_api_Ins)=y at*
   by_cases hw:(zbv (insOf y) n locks).1=0
   ·rw [if_neg (by simpa using hw)]
    refine hq y r5 h6 m6 a6 ?_
    cases r5 with
    | ok a2=>
     refine Cn.ok ?_
     have hdone:zpr bs at_=.ok (insOf y,a2):=hdone
     unfold insD D.mustAt
     rw [hdone]
     dsimp only
     rw [if_pos hw]
    | error e=>
     refine Cn.err ?_
     have hdone:zpr bs at_=.error e:=hdone
     unfold insD D.mustAt
     rw [hdone]
   ·rw [if_pos (by simpa using hw)]
    refine zix1 (zbz2 hA hB hC fun h7 hle7=> ?_)
    rw [←zhy1 (n:=n) (locks:=locks) hw]
    have hsp:0≤(zbv (insOf y) n locks).2∧(zbv (insOf y) n locks).2≤4:=by
     rw [zhy1 hw]
     split
     ·omega
     ·unfold zeo1
      split
      ·omega
      ·split
       ·omega
       ·split<;>omega
    have a7:=a6.grow hle7
    obtain ⟨p7,e7,pl7,k7,hs7⟩:=a7.blk
    rw [zal (by omega) (by omega)]
    refine zbz (zen1 k7 fun h8 m8 k8=> ?_)
    have m9:=(m6.trans (Mv.of_le [rb] hle7)).trans m8
    have hd8:=(m9.le a.le fun c hc=>by rw [List.mem_singleton.1 hc];exact a.out).1
    cases r5 with
    | ok a2=>
     have hdone:zpr bs at_=.ok (insOf y,a2):=hdone
     obtain ⟨rfl,rfl,hs7⟩:=hs7
     simp only [ne_eq,hw,not_false_eq_true,and_self,if_true] at k8
     refine hq y (.error ((zbv (insOf y) n locks).1,at_+(zbv (insOf y) n locks).2.toNat)) h8 m9 ⟨hd8,a.out,a.src,a.cap,a.small,_,_,_,k8,rfl,hw,by push_cast;omega⟩ (Cn.err ?_)
     unfold insD D.mustAt
     rw [hdone]
     dsimp only
     rw [if_neg hw]
    | error e=>
     have hdone:zpr bs at_=.error e:=hdone
     obtain ⟨er,q⟩:=e
     obtain ⟨rfl,hne,rfl⟩:=hs7
     rw [if_neg (fun hh=>hne hh.2),if_neg (fun hh=>hne hh.2)] at k8
     refine hq y (.error (e7,q)) h8 m9 ⟨hd8,a.out,a.src,a.cap,a.small,_,_,_,k8,rfl,hne,rfl⟩ (Cn.err ?_)
     unfold insD D.mustAt
     rw [hdone]
end
end Lf

namespace Lf
open Go Go.Proofs
section
variable {d h0 k:Hp} {rb cb:Nat} {bl:Sl} {bs:List UInt8} {r:RS} {x:S_api_Config} {c:PCfg} {B:List Nat}
theorem CB.other (s:CB d h0 rb cb bl bs k r x c B) {k':Hp} {B5:List Nat} (keep:∀b o,k b=some o→b∉B5→k' b=some o) (hB:∀b∈B5,h0 b=none∧b∉B):CB d h0 rb cb bl bs k' r x c B:=by
 have h5r:rb∉B5:=fun h=>s.kr (hB rb h).1
 have h5c:cb∉B5:=fun h=>s.kc (hB cb h).1
 have hk:∀b o,h0 b=some o→b∉B5:=fun b o e h=>by rw [(hB b h).1] at e;cases e
 exact {
  base:=s.base
  kr:=s.kr
  kc:=s.kc
  ne:=s.ne
  dc:=s.dc
  keep:=fun b o e h1 h2=>keep b o (s.keep b o e h1 h2) (hk b o e)
  rd:=by
   obtain ⟨p,q,t,⟨ty,kb⟩,hs⟩:=s.rd.blk
   exact ⟨fun b o e=>keep b o (s.rd.le b o e) (hk b o (s.base b o e)),s.rd.out,s.rd.src,s.rd.cap,s.rd.small,p,q,t,⟨ty,keep rb _ kb h5r⟩,hs⟩
  blk:=by
   obtain ⟨t,e⟩:=s.blk
   exact ⟨t,keep cb _ e h5c⟩
  own:=okCfg.same s.own fun b hb=>by
   cases e:k b with
   | none=>exact absurd e (okCfg.known s.own b hb)
   | some o=>exact keep b o e fun h=>(hB b h).2 hb
  nd:=s.nd
  fresh:=s.fresh}
theorem zeu2 {P:Program} {n:Int} {Q:Int→Hp→Prop} {h:Hp} (hq:Q (if 256<n then 3 else 0) h):zkh P n Q h:=by
 unfold zkh
 by_cases hn:256<n
 ·rw [if_pos hn] at hq;rw [if_pos (decide_eq_true hn)];exact hq
 ·rw [if_neg hn] at hq;rw [if_neg (fun e=>hn (of_decide_eq_true e))];exact hq
theorem zev2 (s:CB d h0 rb cb bl bs k r x c B) (hsm:c.labels.length≤255) (hps:c.procs.length≤255) {Q:Hp→Prop}
  (hq:∀p r1 k' x' B',CB d h0 rb cb bl bs k' r1 x' {c with procs:=c.procs++ [p]} B'→Cn bs r (procD (c.labels.length:Int) c.locks) r1 p→Q k'):
  zmi Tryz.prog (some ⟨rb,0,none⟩) (some ⟨cb,0,none⟩) Q k:=by
 unfold zmi
 have hll:x.Labels.len=c.labels.length:=by
  obtain ⟨B1,B2,B3,_,o1,_⟩:=s.own
  exact o1.len
 have hlk:x.Locks=c.locks:=by
  obtain ⟨B1,B2,B3,_,_,_,_,_,_,e,_⟩:=s.own
  exact e
 refine zji (zil1 s.rd s.blk (by omega) fun part r1 k1 hpart m1 a1 hc1=> ?_)
 rw [hll] at hc1
 have s1:=s.step m1 a1
 refine zfh (wrong:=⟨zjq, #[], #[]⟩) (zwx1 (k:=2) s1.rd (by omega) (by omega) (fun n=>if 256<n then 3 else 0) (fun n hn2 h1 hle1 K hK=>zmw (g:=zjq) rfl (zxf (zeu2 (hK h1 (Hp.le_refl _))))) fun v r2 k2 hv m2 a2 hc2=> ?_)
 have s2:=s1.step m2 a2
 refine LoopW2.intro (fun i p k3=>∃(j:Nat) (ps:List PIns) (r':RS) (B5:List Nat),i=(j:Int)∧j=ps.length∧j≤v∧CB d h0 rb cb bl bs k3 r' x c B∧p.Part=(part:Int)∧InsO p.Code ps k3 B5∧B5.Nodup∧(∀b∈B5,h0 b=none∧b∉B)∧
   ∀(β:Type) (f:List PIns→D β),stepD r2 (D.bind (D.many (fun _=>insD (v:Int) c.locks) v []) f) bs=stepD r' (D.bind (D.many (fun _=>insD (v:Int) c.locks) (v-j) ps) f) bs) (fun i _ _=>(v-i).toNat)
  ⟨0,[],r2,[],rfl,rfl,by omega,s2,rfl,RowsO.nil,List.nodup_nil,fun b hb=>by (cases hb),fun _ _=>rfl⟩ ?_
 rintro i p k3 ⟨j,ps,r',B5,rfl,hjl,hjv,s3,hpp,o5,nd5,hB5,hcn⟩
 refine effI (fun b=>b=true↔∃e,r'=.error e) false (fun _ hk=>zaz (s3.rd.bad hk)) fun b hb=>letW ?_
 have hend:(j=v∨∃e,r'=.error e)→NilW none (some ⟨cb,0,none⟩) fun p1=>LdW none shSl k3 (Addr.add p1 6) fun x=>NewW [(.int .i64 p.Part),p.Code.v] (fun a h5=>(((LdIs h5 (Addr.add p1 6) [x.v])∧True)∧zaj 2 32 [(.int .i64 (0:Int)),(.slice none 0 0)] x ⟨(some a),1,1⟩ (fun r4 h6=>
   NilW none (some ⟨cb,0,none⟩) fun p2=>StW h6 (Addr.add p2 6) [r4.v] (fun h7=>Q h7)) h5)) k3:=fun hor=>by
  refine zab (ld_at (sh:=shSl) x.Procs (s3.blk.ldIs (off:=6) (n:=1) rfl) ?_)
  refine newF (xs:=[p]) (enc:=fun x=>zad (sh_api_Proc.enc x)) (sz:=2) rfl (fun _=>rfl) fun b6 k6 _ hle6 _ o6=> ?_
  have s6:=s3.grow hle6
  have o5':InsO p.Code ps k6 B5:=okIns.same o5 fun b hb=>by
   cases e:k3 b with
   | none=>exact absurd e (okIns.known o5 b hb)
   | some o=>exact hle6 b o e
  refine ⟨⟨s6.blk.ldIs (off:=6) (n:=1) rfl,trivial⟩,?_⟩
  refine s6.procs (v:=p) (p:=⟨(part:Int),ps⟩) ⟨hpp,o5'⟩ nd5 hB5 (o6.rw fun _=>rfl) (by omega) fun l' k7 hN=>zab (hN.2.2 _ fun k8 B8 s8=> ?_)
  refine hq ⟨(part:Int),ps⟩ r' k8 _ B8 s8 fun β f=> ?_
  unfold procD
  rw [zan,hc1,zan,hc2,zan]
  have e:=hcn β fun code=>f ⟨(part:Int),code⟩
  rcases hor with rfl | ⟨e2,rfl⟩
  ·rw [Nat.sub_self] at e
   exact e
  ·exact e
 by_cases hjv':j=v
 ·rw [if_neg (by simp [hjv'])]
  exact hend (.inl hjv')
 have hb:=hb (decide_eq_true (by omega))
 cases b with
 | true=>
  rw [if_neg (by simp)]
  exact hend (.inr (hb.1 rfl))
 | false=>
  rw [if_pos (by simp;omega)]
  refine zab (ld_at (sh:=shInt .i64) x.Locks (s3.blk.ldIs (off:=4) (n:=1) rfl) ?_)
  rw [hlk]
  refine zdc1 (zij2 s3.rd fun y r4 k4 m4 a4 hc4=> ?_)
  have s4:=s3.step m4 a4
  have o4:InsO p.Code ps k4 B5:=okIns.same o5 (zmv m4 (okIns.known o5) fun b hb e=>s3.kr (by rw [←List.mem_singleton.1 e];exact (hB5 b hb).1))
  refine ⟨⟨trivial,trivial⟩,?_⟩
  refine newF (xs:=[y]) (enc:=fun x=>zad (sh_api_Ins.enc x)) (sz:=5) rfl (fun _=>rfl) fun b5 k5 _ hle5 _ o5''=> ?_
  have s5:=s4.grow hle5
  have o5':InsO p.Code ps k5 B5:=okIns.same o4 fun b hb=>by
   cases e:k4 b with
   | none=>exact absurd e (okIns.known o4 b hb)
   | some o=>exact hle5 b o e
  refine ⟨⟨trivial,trivial⟩,?_⟩
  refine zqr (PureO.ok _) o5' (v:=y) (p:=insOf y) (B':=[]) ⟨rfl,rfl⟩ (by simpa using nd5) (o5''.rw fun _=>rfl) (fun _=>rfl) (fun _=>rfl) rfl (by omega) fun l' k6 B6 o6 nd6 keep6 from6=> ?_
  have s6:=s5.other keep6 hB5
  rw [zal (by omega) (by omega)]
  refine ⟨⟨j+1,ps++ [insOf y],r4,B6,by omega,by simp [hjl],by omega,s6,hpp,o6,nd6,fun b hb=> ?_,fun β f=> ?_⟩,by omega⟩
  ·rcases from6 b hb with hb | hb
   ·exact hB5 b (by simpa using hb)
   ·exact ⟨s5.new_ hb,fun h=>okCfg.known s5.own b h hb⟩
  ·have e1:v-j=(v-(j+1))+1:=by omega
   rw [hcn,e1,zcy,zan,hc4]
end
end Lf

namespace Lf
open Go Go.Proofs
section
variable {d h:Hp} {rb:Nat} {bl:Sl} {bs:List UInt8} {r:RS}
theorem zyq1 {P:Program} {ab:Nat} {i:Nat} {n:Nat} {h:Hp} (hi:i<5) (hn:n<256) (ha:LdIs h ⟨ab,0,none⟩ [.int .i64 (i:Int)]) {c:UInt8} (hc:([70,66,67,70,1]:List UInt8)[i]?=some c)
  {Q:Int→Hp→Prop} (hq:Q (if n=c.toNat then 0 else 4) h):zhq P (n:Int) ⟨ab,0,none⟩ Q h:=by
 unfold zhq
 have h5:(i:Int)<5:=by omega
 refine ld_at (sh:=shInt .i64) (i:Int) ha ⟨⟨Int.natCast_nonneg i,h5⟩,?_⟩
 have e1:IntKind.wrap .u8 (n:Int)=(n:Int):=by
  rw [wrap8,zhw1];omega
 have e2:List.getD [70,66,67,70,1] (Int.toNat (i:Int)) (0:UInt8)=c:=by
  rw [List.getD_eq_getElem?_getD,show (Int.toNat (i:Int))=i from rfl,hc];rfl
 rw [e1,e2]
 by_cases h1:n=c.toNat
 ·rw [if_pos h1] at hq
  rw [if_neg (by simp [h1])]
  exact hq
 ·rw [if_neg h1] at hq
  rw [if_pos (by rw [bne_iff_ne];omega)]
  exact hq
theorem zca2 {Q:Hp→Prop} (a:RAt d h rb bl bs r) (hq:∀r1 h',Mv [rb] h [rb] h'→RAt d h' rb bl bs r1→Cn bs r (markD [70,66,67,70,1]) r1 ()→Q h'):zkc Tryz.prog (some ⟨rb,0,none⟩) Q h:=by
 unfold zkc
 refine forI (n:=5) rfl (by omega) (fun i k=>∃r',Mv [rb] h [rb] k∧RAt d k rb bl bs r'∧∀(β:Type) (f:Unit→D β),stepD r (D.bind (markD [70,66,67,70,1]) f) bs=stepD r' (D.bind (markD (([70,66,67,70,1]:List UInt8).drop i)) f) bs) ⟨r,Mv.refl _ _,a,fun _ _=>rfl⟩ ?_ ?_
 ·rintro i hi k ⟨r',m,a',hcn⟩ K hK
  refine newB2 fun ab k1 hn1 hle1 hA1=> ?_
  have a1:=a'.grow hle1
  have har:rb≠ab:=fun h=>by
   obtain ⟨p,q,t,kb,_⟩:=a'.blk
   exact kb.known (h▸hn1)
  refine zdp (b:=ab) (off:=0) hA1 (by simp) fun k2 m2 hA2=> ?_
  have a2:=a1.mv m2 (fun h=>har (List.mem_singleton.1 h)) fun b hb=>by
   rw [List.mem_singleton.1 hb]
   exact zbc a'.le hn1
  have lA:LdIs k2 ⟨ab,0,none⟩ [.int .i64 (i:Int)]:=by
   refine hA2.ldIs (off:=0) (n:=1) ?_
   simp
  have hc:([70,66,67,70,1]:List UInt8)[i]?=some (([70,66,67,70,1]:List UInt8)[i]'(by simpa using hi)):=List.getElem?_eq_getElem (by simpa using hi)
  generalize ([70,66,67,70,1]:List UInt8)[i]'(by simpa using hi)=c at hc
  refine zdx (wrong:=⟨zhd, #[], #[.pointer (some ⟨ab,0,none⟩)]⟩) (zgs1 (k:=1) a2 (by omega) (by omega) (fun n=>if n=c.toNat then 0 else 4) (fun n hn2 K hK=> ?_) fun v r2 k3 hv m3 a3 hc3=> ?_)
  ·refine zmw (g:=zhd) rfl (ztr ?_)
   exact zyq1 hi (by simpa using hn2) lA hc (hK k2 (Hp.le_refl _))
  ·refine hK k3 ⟨r2,⟨fun b o e hb=>m3.keep b o (m2.keep b o (hle1 b o (m.keep b o e hb)) fun h=> ?_) hb,fun b hb=>.inl hb⟩,a3,fun β f=> ?_⟩
   ·rw [List.mem_singleton.1 h] at e hb
    have:=m.keep ab o e hb
    rw [hn1] at this
    cases this
   ·rw [hcn,zku hc]
    show stepD r' (D.bind (D.bind (D.must (D.num 1) fun n=>if n=c.toNat then 0 else 4) fun _=>markD (([70,66,67,70,1]:List UInt8).drop (i+1))) f) bs=_
    rw [zan,hc3]
 ·rintro k ⟨r',m,a',hcn⟩
  exact hq r' k m a' fun β f=>by rw [hcn];rfl
end
theorem rp2 :zem 2=rngE 1 256:=by funext n;simp [zem]
theorem rp3 :zem 3=rngE 1 64:=by funext n;simp [zem]
theorem rp4 :zem 4=rngE 0 8:=by funext n;simp [zem]
theorem rp5 :zem 5=rngE 0 4096:=by funext n;simp [zem]
def cfg0 :S_api_Config:=⟨⟨none,0,0⟩,⟨none,0,0⟩,0,0,0,0,⟨none,0,0⟩⟩
def EndC (h h2:Hp) (rb cb:Nat) (b:Sl) (bs:List UInt8) (k:Hp):Prop:=
 (Blk k rb (zcc b 0 22 1048576)∧h≤k∧zdm bs=.error (22,1048576))∨
 ∃(r:RS) (x:S_api_Config) (c:PCfg) (B:List Nat),CB h h2 rb cb b bs k r x c B∧match r with
  | .error e=>zdm bs=.error e
  | .ok _=>zdm bs=.ok c
theorem zln {bs:List UInt8} {e:Int×Nat} (hl:bs.length≤1048576) (h:stepD (.ok 0) zpg bs=.error e):zdm bs=.error e:=by
 unfold zdm zdz
 rw [if_neg (by omega)]
 have h:zpg bs 0=.error e:=h
 rw [h]
theorem zle1 {bs:List UInt8} {c:PCfg} {a:Nat} (hl:bs.length≤1048576) (h:stepD (.ok 0) zpg bs=.ok (c,a)):zdm bs=if a<bs.length then .error (6,a) else .ok c:=by
 unfold zdm zdz
 rw [if_neg (by omega)]
 have h:zpg bs 0=.ok (c,a):=h
 rw [h]
set_option maxRecDepth 20000 in
theorem zpr1 {h:Hp} {b:Sl} {bs:List UInt8} {Q:S_api_Config→Int→Int→Hp→Prop} (hB:Bs h b bs) (hcap:b.len≤b.cap)
  (he:∀e p h',h≤h'→zdm bs=.error (e,p)→e≠0→Q cfg0 e (p:Int) h') (hok:∀x c B h',h≤h'→zdm bs=.ok c→CfgO x c h' B→B.Nodup→(∀b∈B,h b=none)→Q x 0 0 h'):
  zvh Tryz.prog b Q h:=by
 unfold zvh
 have hlen:b.len=bs.length:=hB.1
 refine newB2 fun cb h1 hn1 hle1 hC1=>newB2 fun rb h2 hn2 hle2 hR2=> ?_
 have hle:=Hp.le_trans hle1 hle2
 have hne:rb≠cb:=fun e=>hC1.known (e▸hn2)
 have hrn:h rb=none:=zbc hle1 hn2
 have hC2:=hC1.le hle2
 refine JoinW1.intro (fun _ k=>EndC h h2 rb cb b bs k) ?_ ?_
 ·by_cases hbig:1048576<bs.length
  ·rw [if_pos (decide_eq_true (by omega))]
   refine zbz (zen1 (at_:=0) (e:=0) (pl:=0) hR2 fun h3 m3 k3=> ?_)
   rw [if_pos ⟨by decide,rfl⟩,if_pos ⟨by decide,rfl⟩] at k3
   refine .inl ⟨k3,(m3.le hle fun c hc=>by rw [List.mem_singleton.1 hc];exact hrn).1,?_⟩
   unfold zdm zdz
   rw [if_pos hbig]
  ·rw [if_neg (fun e=>hbig (by have:=of_decide_eq_true e;omega))]
   have hsm:bs.length≤1048576:=by omega
   have s0:CB h h2 rb cb b bs h2 (.ok 0) cfg0 ⟨[],[],0,0,0,0,[]⟩ []:=
    ⟨hle,hR2.known,hC2.known,hne,hn1,fun b o e _ _=>e,⟨hle,hrn,hB,hcap,by omega,0,0,0,hR2,rfl,rfl,by omega⟩,hC2,⟨[],[],[],rfl,RowsO.nil,RowsO.nil,RowsO.nil,rfl,rfl,rfl,rfl⟩,List.nodup_nil,fun b hb=>by (cases hb)⟩
   refine zxc (zca2 s0.rd fun r1 k1 m1 a1 hc1=> ?_)
   have s1:=s0.step m1 a1
   have hc1':stepD (.ok 0) zpg bs=_:=hc1 PCfg _
   refine zaz (s1.rd.bad fun q hq=> ?_)
   cases q with
   | true=>
    rw [if_pos rfl]
    obtain ⟨e,rfl⟩:=hq.1 rfl
    exact .inr ⟨_,_,_,_,s1,zln hsm hc1'⟩
   | false=>
   rw [if_neg (by simp)]
   refine zxd (zby2 s1 rfl fun ls r2 k2 x2 B2 hls s2 hc2=> ?_)
   have hc2':=hc1'.trans (hc2 PCfg _)
   refine zaz (s2.rd.bad fun q hq=> ?_)
   cases q with
   | true=>
    rw [if_pos rfl]
    obtain ⟨e,rfl⟩:=hq.1 rfl
    exact .inr ⟨_,_,_,_,s2,zln hsm hc2'⟩
   | false=>
   rw [if_neg (by simp)]
   refine zzb (zet2 s2 rfl hls fun ts r3 k3 x3 B3 hts s3 hc3=> ?_)
   have hc3':=hc2'.trans (hc3 PCfg _)
   refine zaz (s3.rd.bad fun q hq=> ?_)
   cases q with
   | true=>
    rw [if_pos rfl]
    obtain ⟨e,rfl⟩:=hq.1 rfl
    exact .inr ⟨_,_,_,_,s3,zln hsm hc3'⟩
   | false=>
   rw [if_neg (by simp)]
   have num:∀ {k:Nat} {part:Int} {hi lo:Int} {r:RS} {x:S_api_Config} {c:PCfg} {B:List Nat} {kk:Hp} {Q:Int→Hp→Prop},CB h h2 rb cb b bs kk r x c B→1≤k→k≤2→zem part=rngE lo hi→
     (∀(v:Nat) r1 k1,v<65536→CB h h2 rb cb b bs k1 r1 x c B→Cn bs r (D.must (zD k) (rngE lo hi)) r1 (v:Int)→Q (v:Int) k1)→CallT Tryz.prog zcs [(.pointer (some ⟨rb,0,none⟩)),(.int .i64 part),(.int .i64 (k:Int))] (shInt .i64) Q kk:=
    fun {k part hi lo r x c B kk Q} s hk1 hk2 hp hq=>zxe (zbx2 (k:=k) s.rd hk1 hk2 fun v r1 k1 hv m a hc=>hq v r1 k1 (by
     have:256^k≤65536:=Nat.pow_le_pow_right (by omega:256>0) hk2
     omega) (s.step m a) (by rw [←hp];exact hc))
   refine num (k:=2) s3 (by omega) (by omega) rp2 fun v4 r4 k4 hv4 s4 hc4=> ?_
   have hc4':=hc3'.trans (hc4 PCfg _)
   refine s4.num (x':={x3 with Fuel:=(v4:Int)}) (c':=⟨ls,ts,(v4:Int),0,0,0,[]⟩) (off:=2) (fun o=>by
    obtain ⟨B1,B2,B3,e,o1,o2,o3,f1,f2,f3,f4⟩:=o
    exact ⟨B1,B2,B3,e,o1,o2,o3,rfl,f2,f3,f4⟩) (by omega) rfl fun k5 s5=> ?_
   refine num (k:=1) s5 (by omega) (by omega) rp3 fun v6 r6 k6 hv6 s6 hc6=> ?_
   have hc6':=hc4'.trans (hc6 PCfg _)
   refine s6.num (x':={x3 with Fuel:=(v4:Int),Lane:=(v6:Int)}) (c':=⟨ls,ts,(v4:Int),(v6:Int),0,0,[]⟩) (off:=3) (fun o=>by
    obtain ⟨B1,B2,B3,e,o1,o2,o3,f1,f2,f3,f4⟩:=o
    exact ⟨B1,B2,B3,e,o1,o2,o3,f1,rfl,f3,f4⟩) (by omega) rfl fun k7 s7=> ?_
   refine num (k:=1) s7 (by omega) (by omega) rp4 fun v8 r8 k8 hv8 s8 hc8=> ?_
   have hc8':=hc6'.trans (hc8 PCfg _)
   refine s8.num (x':={x3 with Fuel:=(v4:Int),Lane:=(v6:Int),Locks:=(v8:Int)}) (c':=⟨ls,ts,(v4:Int),(v6:Int),(v8:Int),0,[]⟩) (off:=4) (fun o=>by
    obtain ⟨B1,B2,B3,e,o1,o2,o3,f1,f2,f3,f4⟩:=o
    exact ⟨B1,B2,B3,e,o1,o2,o3,f1,f2,rfl,f4⟩) (by omega) rfl fun k9 s9=> ?_
   refine num (k:=2) s9 (by omega) (by omega) rp5 fun v10 r10 k10 hv10 s10 hc10=> ?_
   have hc10':=hc8'.trans (hc10 PCfg _)
   refine s10.num (x':={x3 with Fuel:=(v4:Int),Lane:=(v6:Int),Locks:=(v8:Int),Log:=(v10:Int)}) (c':=⟨ls,ts,(v4:Int),(v6:Int),(v8:Int),(v10:Int),[]⟩) (off:=5) (fun o=>by
    obtain ⟨B1,B2,B3,e,o1,o2,o3,f1,f2,f3,f4⟩:=o
    exact ⟨B1,B2,B3,e,o1,o2,o3,f1,f2,f3,rfl⟩) (by omega) rfl fun k11 s11=> ?_
   refine zfp (zhx1 s11.rd fun np r12 k12 hnp m12 a12 hc12=> ?_)
   have s12:=s11.step m12 a12
   have hc12':=hc10'.trans (hc12 PCfg _)
   refine LoopW1.intro (fun n kk=>∃(i:Nat) (ps:List PProc) (r':RS) (x':S_api_Config) (B':List Nat),n=(i:Int)∧i+ps.length=np∧CB h h2 rb cb b bs kk r' x' ⟨ls,ts,(v4:Int),(v6:Int),(v8:Int),(v10:Int),ps⟩ B'∧
     stepD (.ok 0) zpg bs=stepD r' (D.bind (D.many (fun _=>procD (ls.length:Int) (v8:Int)) i ps) fun procs=>D.ret (⟨ls,ts,(v4:Int),(v6:Int),(v8:Int),(v10:Int),procs⟩:PCfg)) bs) (fun n _=>n.toNat)
    ⟨np,[],r12,_,_,rfl,by simp,s12,hc12'⟩ ?_
   rintro n kk ⟨i,ps,r',x',B',rfl,hil,s13,hcn⟩
   refine effI (fun b=>b=true↔∃e,r'=.error e) false (fun _ hk=>zaz (s13.rd.bad hk)) fun q hqb=>letW ?_
   have hend:(i=0∨∃e,r'=.error e)→NilW none (some ⟨rb,0,none⟩) fun p=>LdW none (shInt .i64) kk (Addr.add p 1) fun x=>
     (if (decide (x<((b.len:Nat):Int)))=true then
     NilW none (some ⟨rb,0,none⟩) fun p1=>
     LdW none (shInt .i64) kk (Addr.add p1 1) fun x1=>
     Call0 Tryz.prog zby [(.pointer (some ⟨rb,0,none⟩)),(.int .i64 (6:Int)),(.int .i64 x1)] (fun h20=>EndC h h2 rb cb b bs h20) kk
     else EndC h h2 rb cb b bs kk):=fun hor=>by
    obtain ⟨p,e,pl,kb,hs⟩:=s13.rd.blk
    refine zab (ld_at (sh:=shInt .i64) p (kb.ldIs (off:=1) (n:=1) rfl) ?_)
    cases r' with
    | error e0=>
     obtain ⟨er,q0⟩:=e0
     obtain ⟨rfl,hne0,rfl⟩:=hs
     have hfin:EndC h h2 rb cb b bs kk:=.inr ⟨_,_,_,_,s13,zln hsm hcn⟩
     by_cases hlt:p<((b.len:Nat):Int)
     ·rw [if_pos (decide_eq_true hlt)]
      refine zab (ld_at (sh:=shInt .i64) p (kb.ldIs (off:=1) (n:=1) rfl) (zbz (zen1 kb fun h20 m20 k20=> ?_)))
      rw [if_neg (fun hh=>hne0 hh.2),if_neg (fun hh=>hne0 hh.2)] at k20
      refine .inr ⟨.error (e,q0),_,_,_,s13.step m20 ⟨(m20.le s13.rd.le fun c hc=>by rw [List.mem_singleton.1 hc];exact hrn).1,hrn,hB,hcap,by omega,_,_,_,k20,rfl,hne0,rfl⟩,zln hsm hcn⟩
     ·rw [if_neg (fun e=>hlt (of_decide_eq_true e))]
      exact hfin
    | ok at_=>
     obtain ⟨rfl,rfl,hat⟩:=hs
     have h0:i=0:=by
      rcases hor with h0 | ⟨e,h0⟩
      ·exact h0
      ·cases h0
     subst h0
     have hcfg:=zle1 hsm (hcn:stepD (.ok 0) zpg bs=.ok (_,at_))
     by_cases hlt:at_<bs.length
     ·have hlt':(at_:Int)<((b.len:Nat):Int):=by omega
      rw [if_pos (decide_eq_true hlt')]
      rw [if_pos hlt] at hcfg
      refine zab (ld_at (sh:=shInt .i64) (at_:Int) (kb.ldIs (off:=1) (n:=1) rfl) (zbz (zen1 kb fun h20 m20 k20=> ?_)))
      rw [if_pos ⟨by decide,rfl⟩,if_pos ⟨by decide,rfl⟩] at k20
      exact .inr ⟨.error (6,at_),_,_,_,s13.step m20 ⟨(m20.le s13.rd.le fun c hc=>by rw [List.mem_singleton.1 hc];exact hrn).1,hrn,hB,hcap,by omega,_,_,_,k20,rfl,by decide,rfl⟩,hcfg⟩
     ·rw [if_neg (fun e=>hlt (by have e:(at_:Int)<((b.len:Nat):Int):=of_decide_eq_true e;omega))]
      rw [if_neg hlt] at hcfg
      exact .inr ⟨_,_,_,_,s13,hcfg⟩
   by_cases hi:i=0
   ·rw [if_neg (by simp [hi])]
    exact hend (.inl hi)
   have hqb:=hqb (decide_eq_true (by omega))
   cases q with
   | true=>
    rw [if_neg (by simp)]
    exact hend (.inr (hqb.1 rfl))
   | false=>
    rw [if_pos (by simp;omega)]
    obtain ⟨j,rfl⟩:∃j,i=j+1:=⟨i-1,by omega⟩
    refine zap1 (zev2 s13 hls (by show ps.length≤255;omega) fun p r14 k14 x14 B14 s14 hc14=> ?_)
    rw [zal (by omega) (by omega)]
    refine ⟨⟨j,ps++ [p],r14,x14,B14,by omega,by simp;omega,s14,?_⟩,by omega⟩
    rw [hcn,zcy,zan,hc14]
 ·intro t2 k hE
  rcases hE with ⟨kb,hl,hcfg⟩ | ⟨r,x,c,B,s,hcfg⟩
  ·refine zaz (znf1 kb ?_)
   rw [if_pos (by simp)]
   refine zab (ld_at (sh:=shInt .i64) (22:Int) (kb.ldIs (off:=2) (n:=1) rfl) (zab (ld_at (sh:=shInt .i64) (1048576:Int) (kb.ldIs (off:=3) (n:=1) rfl) ?_)))
   exact ⟨⟨kb.ldIs (off:=2) (n:=1) rfl,kb.ldIs (off:=3) (n:=1) rfl,trivial⟩,he 22 1048576 k hl hcfg (by decide)⟩
  ·obtain ⟨p,e,pl,kb,hs⟩:=s.rd.blk
   refine zaz (znf1 kb ?_)
   cases r with
   | error e0=>
    obtain ⟨er,q0⟩:=e0
    obtain ⟨rfl,hne0,rfl⟩:=hs
    rw [if_pos (by simpa using hne0)]
    refine zab (ld_at (sh:=shInt .i64) e (kb.ldIs (off:=2) (n:=1) rfl) (zab (ld_at (sh:=shInt .i64) (q0:Int) (kb.ldIs (off:=3) (n:=1) rfl) ?_)))
    exact ⟨⟨kb.ldIs (off:=2) (n:=1) rfl,kb.ldIs (off:=3) (n:=1) rfl,trivial⟩,he e q0 k s.rd.le hcfg hne0⟩
   | ok at_=>
    obtain ⟨rfl,rfl,_⟩:=hs
    rw [if_neg (by simp)]
    refine ld_at (sh:=sh_api_Config) x (s.blk.ldIs (off:=0) (n:=7) rfl) ?_
    exact hok x c B k s.rd.le hcfg s.own s.nd fun b' hb'=>zbc hle (s.fresh b' hb')
end Lf

namespace Lf
open Go Go.Proofs
structure SAt (d h:Hp) (rb:Nat) (bl:Sl) (bs:List UInt8) (r:RS) (x:S_api_Config):Prop where
 le:d≤h
 out:d rb=none
 src:Bs d bl bs
 cap:bl.len≤bl.cap
 small:bs.length≤2097152
 blk:∃at_ e pl:Int,Blk h rb (zcc bl at_ e pl++cfgL x)∧RSat r bs.length at_ e pl
section
variable {d h:Hp} {rb:Nat} {bl:Sl} {bs:List UInt8} {r:RS} {x:S_api_Config}
theorem SAt.mv (a:SAt d h rb bl bs r x) {G G':List Nat} {h':Hp} (m:Mv G h G' h') (hr:rb∉G) (hd:∀c∈G,d c=none):SAt d h' rb bl bs r x:=by
 obtain ⟨p,e,pl,k,hs⟩:=a.blk
 exact ⟨(m.le a.le hd).1,a.out,a.src,a.cap,a.small,p,e,pl,k.mv m hr,hs⟩
theorem SAt.grow (a:SAt d h rb bl bs r x) {h':Hp} (hl:h≤h'):SAt d h' rb bl bs r x:=a.mv (Mv.of_le [] hl) (by simp) (by simp)
theorem SAt.known (a:SAt d h rb bl bs r x):h rb≠none:=by
 obtain ⟨p,e,pl,k,hs⟩:=a.blk
 exact k.known
theorem SAt.cfg (a:SAt d h rb bl bs r x) {j n:Nat} {vs:List Value} (hv:((cfgL x).drop j).take n=vs):LdIs h ⟨rb,4+j,none⟩ vs:=by
 obtain ⟨p,e,pl,k,hs⟩:=a.blk
 exact k.ldIs (off:=4+j) (n:=n) (by rw [←hv,Nat.add_comm];rfl)
theorem zso {P:Program} {tl:List Value} {at_ e pl e1 p1:Int} (k:Blk h rb (zcc bl at_ e pl++tl)) {Q:Hp→Prop}
  (hk:∀h',Mv [rb] h [rb] h'→Blk h' rb (zcc bl at_ (if e=0 then e1 else e) (if e=0 then p1 else pl)++tl)→Q h'):zib P (some ⟨rb,0,none⟩) e1 p1 Q h:=by
 unfold zib
 refine zab (ld_at (sh:=shInt .i64) e (k.ldIs (off:=2) (n:=1) rfl) ?_)
 by_cases h2:e=0
 ·rw [if_pos (by simpa using h2)]
  rw [if_pos h2,if_pos h2] at hk
  refine zab (zdp (b:=rb) (off:=2) k (by simp [zcc]) fun h2' m2 k2=>zab (zdp (b:=rb) (off:=3) k2 (by simp [zcc]) fun h3 m3 k3=>hk h3 (m2.trans m3) (by simpa [zcc] using k3)))
 ·rw [if_neg (by simpa using h2)]
  rw [if_neg h2,if_neg h2] at hk
  exact hk h (Mv.refl _ _) k
theorem zdh1 {k:Nat} {Q:Int→Hp→Prop} (a:SAt d h rb bl bs r x) (hk1:1≤k) (hk8:k≤8)
  (hq:∀(n:Nat) r1 h',n<256^k→Mv [rb] h [rb] h'→SAt d h' rb bl bs r1 x→Cn bs r (D.num k) r1 n→((∃e,r1=.error e)→n=0)→Q (i64 n) h'):znq Tryz.prog (some ⟨rb,0,none⟩) (k:Int) Q h:=by
 unfold znq
 obtain ⟨p,e,pl,kb,hs⟩:=a.blk
 have hlen:bl.len=bs.length:=a.src.1
 have hsm:=a.small
 have hpow:0<256^k:=Nat.pow_pos (by omega)
 have hpow8:256^k≤18446744073709551616:=Nat.pow_le_pow_right (by omega:256>0) hk8
 refine zab (ld_at (sh:=shInt .i64) e (kb.ldIs (off:=2) (n:=1) rfl) ?_)
 cases r with
 | error y=>
  obtain ⟨er,q⟩:=y
  rw [if_pos (by rw [bne_iff_ne,hs.1];exact hs.2.1)]
  exact hq 0 _ h hpow (Mv.refl _ _) a Cn.stay fun _=>rfl
 | ok n=>
  obtain ⟨rfl,rfl,hn⟩:=hs
  have hn:n≤bs.length:=by omega
  rw [if_neg (by simp)]
  refine zab (ld_at (sh:=shSl) bl (kb.ldIs (off:=0) (n:=1) rfl) (zab (ld_at (sh:=shInt .i64) (n:Int) (kb.ldIs (off:=1) (n:=1) rfl) ?_)))
  rw [zal (by omega) (by omega)]
  by_cases hsh:bs.length<n+k
  ·have hlt:((bl.len:Nat):Int)-(n:Int)<(k:Int):=by omega
   rw [if_pos (decide_eq_true hlt)]
   refine zab (ld_at (sh:=shSl) bl (kb.ldIs (off:=0) (n:=1) rfl) (zbj (zso kb fun h' m k'=> ?_)))
   rw [if_pos rfl,if_pos rfl] at k'
   refine hq 0 (.error (5,bs.length)) h' hpow m ⟨(m.le a.le fun c hc=>by rw [List.mem_singleton.1 hc];exact a.out).1,a.out,a.src,a.cap,a.small,_,_,_,k',rfl,by decide,by rw [hlen]⟩ (Cn.err ?_) fun _=>rfl
   unfold D.num
   rw [if_pos hsh]
  ·have hlt:¬((bl.len:Nat):Int)-(n:Int)<(k:Int):=by omega
   rw [if_neg (fun e=>hlt (of_decide_eq_true e))]
   refine zab (ld_at (sh:=shSl) bl (kb.ldIs (off:=0) (n:=1) rfl) (zab (ld_at (sh:=shInt .i64) (n:Int) (kb.ldIs (off:=1) (n:=1) rfl) (zab (ld_at (sh:=shInt .i64) (n:Int) (kb.ldIs (off:=1) (n:=1) rfl) ?_)))))
   have hcap:=a.cap
   rw [zal (by omega) (by omega)]
   have hnk:(n:Int)≤(n:Int)+(k:Int):=by omega
   refine ⟨⟨by omega,hnk,by omega⟩,letW ?_⟩
   have e1:((n:Int)+(k:Int)).toNat=n+k:=by omega
   have e2:((n:Int)).toNat=n:=rfl
   rw [e1,e2]
   have hcut:=(Rw.mono a.le a.src).cut (a:=n) (b:=n+k) (c:=bl.cap) (n:=n+k-n) (m:=bl.cap-n) zcb (by omega) (by omega) (by omega) rfl
   have e3:n+k-n=k:=by omega
   rw [e3] at hcut ⊢
   have hdl:((bs.drop n).take k).length=k:=by rw [List.length_take,List.length_drop];omega
   have hv:=zxh ((bs.drop n).take k)
   rw [hdl] at hv
   refine zww1 hcut (by omega) ?_
   refine zab (ld_at (sh:=shInt .i64) (n:Int) (kb.ldIs (off:=1) (n:=1) rfl) (zab (zdp (b:=rb) (off:=1) kb (by simp [zcc]) fun h5 m5 kb5=> ?_)))
   have hd5:=(m5.le a.le fun c hc=>by rw [List.mem_singleton.1 hc];exact a.out).1
   rw [zal (by omega) (by omega)] at kb5
   rw [zmz (by omega)]
   have kb5:Blk h5 rb (zcc bl ((n:Int)+(k:Int)) 0 pl++cfgL x):=by simpa [zcc] using kb5
   refine hq _ (.ok (n+k)) h5 hv m5 ⟨hd5,a.out,a.src,a.cap,a.small,_,_,_,kb5,by push_cast;rfl,rfl,by omega⟩ (Cn.ok ?_) (by rintro ⟨e,he⟩;cases he)
   unfold D.num
   rw [if_neg hsh]
theorem zru1 {n:Nat} (h:n<4294967296):i64 n=(n:Int):=by
 unfold i64
 rw [if_pos (by omega)]
theorem zgq {k:Nat} {Q:Int→Hp→Prop} (a:SAt d h rb bl bs r x) (hk1:1≤k) (hk4:k≤4)
  (hq:∀(n:Nat) r1 h',n<256^k→Mv [rb] h [rb] h'→SAt d h' rb bl bs r1 x→Cn bs r (zD k) r1 (n:Int)→((∃e,r1=.error e)→n=0)→Q (n:Int) h'):zlg Tryz.prog (some ⟨rb,0,none⟩) (k:Int) Q h:=by
 unfold zlg
 have hpow:256^k≤4294967296:=Nat.pow_le_pow_right (by omega:256>0) hk4
 refine zbe (zdh1 a hk1 (by omega) fun n r1 h' hn m a' hc hz=> ?_)
 rw [zru1 (by omega)]
 exact hq n r1 h' hn m a' hc.map hz
theorem zps1 {k:Nat} {most:Int} {Q:Int→Hp→Prop} (a:SAt d h rb bl bs r x) (hk1:1≤k) (hk4:k≤4)
  (hq:∀(n:Nat) r1 h',n<256^k→Mv [rb] h [rb] h'→SAt d h' rb bl bs r1 x→Cn bs r (D.must (zD k) (mostE most)) r1 (n:Int)→Q (n:Int) h'):zmf Tryz.prog (some ⟨rb,0,none⟩) (k:Int) most Q h:=by
 unfold zmf
 obtain ⟨p,e,pl,kb,hs⟩:=a.blk
 have hpow:0<256^k:=Nat.pow_pos (by omega)
 refine zab (ld_at (sh:=shInt .i64) p (kb.ldIs (off:=1) (n:=1) rfl) ?_)
 refine zat (zgq a hk1 hk4 fun n r1 h1 hn m1 a1 hc hz=> ?_)
 obtain ⟨p1,e1,pl1,kb1,hs1⟩:=a1.blk
 by_cases hmost:most<(n:Int)
 ·rw [if_pos (decide_eq_true hmost)]
  refine zbj (zso kb1 fun h2 m2 kb2=> ?_)
  have m:=m1.trans m2
  have hd2:=(m.le a.le fun c hc=>by rw [List.mem_singleton.1 hc];exact a.out).1
  cases r with
  | error y=>
   have:=hc.done
   cases r1 with
   | ok at1=>cases this
   | error y1=>
    obtain ⟨er,q⟩:=y1
    obtain ⟨rfl,hne,rfl⟩:=hs1
    rw [if_neg hne,if_neg hne] at kb2
    refine zab (ld_at (sh:=shInt .i64) e1 (kb2.ldIs (off:=2) (n:=1) rfl) ?_)
    rw [if_pos (by simpa using hne)]
    refine hq 0 (.error (e1,q)) h2 hpow m ⟨hd2,a.out,a.src,a.cap,a.small,_,_,_,kb2,rfl,hne,rfl⟩ ?_
    have e2:y=(e1,q):=by
     have:(Except.error y:Except (Int×Nat) (Int×Nat))=.error (e1,q):=this
     exact Except.error.inj this
    rw [e2]
    exact Cn.stay
  | ok at_=>
   obtain ⟨rfl,rfl,hat⟩:=hs
   have hdone:=hc.done
   cases r1 with
   | ok at1=>
    obtain ⟨rfl,rfl,hat1⟩:=hs1
    have hdone:zD k bs at_=.ok ((n:Int),at1):=hdone
    rw [if_pos rfl,if_pos rfl] at kb2
    refine zab (ld_at (sh:=shInt .i64) (3:Int) (kb2.ldIs (off:=2) (n:=1) rfl) ?_)
    rw [if_pos (by simp)]
    refine hq 0 (.error (3,at_)) h2 hpow m ⟨hd2,a.out,a.src,a.cap,a.small,_,_,_,kb2,rfl,by decide,rfl⟩ (Cn.err ?_)
    unfold D.must
    rw [hdone]
    dsimp only
    have e3:mostE most (n:Int)=3:=by unfold mostE;rw [if_pos hmost]
    rw [if_neg (by rw [e3];decide),e3]
   | error y1=>
    obtain ⟨er,q⟩:=y1
    have hdone:zD k bs at_=.error (er,q):=hdone
    obtain ⟨rfl,hne,rfl⟩:=hs1
    rw [if_neg hne,if_neg hne] at kb2
    refine zab (ld_at (sh:=shInt .i64) e1 (kb2.ldIs (off:=2) (n:=1) rfl) ?_)
    rw [if_pos (by simpa using hne)]
    refine hq 0 (.error (e1,q)) h2 hpow m ⟨hd2,a.out,a.src,a.cap,a.small,_,_,_,kb2,rfl,hne,rfl⟩ (Cn.err ?_)
    unfold D.must
    rw [hdone]
 ·rw [if_neg (fun e=>hmost (of_decide_eq_true e))]
  refine zab (ld_at (sh:=shInt .i64) e1 (kb1.ldIs (off:=2) (n:=1) rfl) ?_)
  have hcm:Cn bs r (D.must (zD k) (mostE most)) r1 (n:Int):=by
   cases r with
   | error y=>
    have hdone:=hc.done
    cases r1 with
    | ok at1=>cases hdone
    | error y1=>
     have hdone:(Except.error y:Except (Int×Nat) (Int×Nat))=.error y1:=hdone
     cases hdone
     exact Cn.stay
   | ok at_=>
    have hdone:=hc.done
    cases r1 with
    | ok at1=>
     have hdone:zD k bs at_=.ok ((n:Int),at1):=hdone
     refine Cn.ok ?_
     unfold D.must
     rw [hdone]
     dsimp only
     rw [if_pos (by unfold mostE;rw [if_neg hmost])]
    | error y1=>
     have hdone:zD k bs at_=.error y1:=hdone
     refine Cn.err ?_
     unfold D.must
     rw [hdone]
  cases r1 with
  | ok at1=>
   obtain ⟨rfl,rfl,hat1⟩:=hs1
   rw [if_neg (by simp)]
   exact hq n _ h1 hn m1 a1 hcm
  | error y1=>
   obtain ⟨er,q⟩:=y1
   have hne:=hs1.2.1
   rw [←hs1.1] at hne
   rw [if_pos (by simpa using hne)]
   rw [hz ⟨_,rfl⟩] at hcm
   exact hq 0 _ h1 hpow m1 a1 hcm
end
end Lf

namespace Lf
open Go Go.Proofs
theorem forT {α:Type} {len:Int} {n:Nat} (hn:len=(n:Int)) (hb:n≤4611686018427387904) (I:Nat→α→Hp→Prop) {B:(Int→α→Hp→Prop)→Int→α→Hp→Prop} {X:Int→α→Hp→Prop} {x0:α} {h0:Hp} (h00:I 0 x0 h0)
  (hs:∀i:Nat,i<n→∀x h,I i x h→∀K:Int→α→Hp→Prop,(∀x' h',I (i+1) x' h'→K (IntKind.wrap .i64 ((i:Int)+1)) x' h')→B K (i:Int) x h) (hx:∀x h,I n x h→X (n:Int) x h):
  LoopW2 (fun again t x h=>if decide (t<len)=true then B again t x h else X t x h) (0:Int) x0 h0:=by
 refine LoopW2.intro (fun t x h=>∃i:Nat,t=(i:Int)∧i≤n∧I i x h) (fun t _ _=>(len-t).toNat) ⟨0,rfl,by omega,h00⟩ ?_
 rintro t x h ⟨i,rfl,hi,hI⟩
 by_cases hlt:i<n
 ·rw [if_pos (decide_eq_true (by omega))]
  refine hs i hlt x h hI _ fun x' h' hI'=> ?_
  rw [zal (by omega) (by omega)]
  exact ⟨⟨i+1,by omega,by omega,hI'⟩,by omega⟩
 ·rw [if_neg (fun e=>hlt (by have:=of_decide_eq_true e;omega))]
  have:i=n:=by omega
  subst this
  exact hx x h hI
theorem forA {α:Type} {len:Int} {n:Nat} (hn:len=(n:Int)) (hb:n≤4611686018427387904) (I:Nat→α→Hp→Prop) {B:(α→Int→Hp→Prop)→α→Int→Hp→Prop} {X:α→Int→Hp→Prop} {x0:α} {h0:Hp} (h00:I 0 x0 h0)
  (hs:∀i:Nat,i<n→∀x h,I i x h→∀K:α→Int→Hp→Prop,(∀x' h',I (i+1) x' h'→K x' (IntKind.wrap .i64 ((i:Int)+1)) h')→B K x (i:Int) h) (hx:∀x h,I n x h→X x (n:Int) h):
  LoopW2 (fun again x t h=>if decide (t<len)=true then B again x t h else X x t h) x0 (0:Int) h0:=by
 refine LoopW2.intro (fun x t h=>∃i:Nat,t=(i:Int)∧i≤n∧I i x h) (fun _ t _=>(len-t).toNat) ⟨0,rfl,by omega,h00⟩ ?_
 rintro x t h ⟨i,rfl,hi,hI⟩
 by_cases hlt:i<n
 ·rw [if_pos (decide_eq_true (by omega))]
  refine hs i hlt x h hI _ fun x' h' hI'=> ?_
  rw [zal (by omega) (by omega)]
  exact ⟨⟨i+1,by omega,by omega,hI'⟩,by omega⟩
 ·rw [if_neg (fun e=>hlt (by have:=of_decide_eq_true e;omega))]
  have:i=n:=by omega
  subst this
  exact hx x h hI
structure SB (d h0:Hp) (rb:Nat) (bl:Sl) (bs:List UInt8) (x:S_api_Config) (k:Hp) (r:RS) (B:List Nat):Prop where
 kr:h0 rb≠none
 keep:∀b o,h0 b=some o→b≠rb→k b=some o
 rd:SAt d k rb bl bs r x
 nd:B.Nodup
 fresh:∀b∈B,h0 b=none
section
variable {d h0 k:Hp} {rb:Nat} {bl:Sl} {bs:List UInt8} {r:RS} {x:S_api_Config} {B:List Nat}
theorem SB.init (a:SAt d k rb bl bs r x):SB d k rb bl bs x k r []:=⟨a.known,fun _ _ e _=>e,a,List.nodup_nil,fun b hb=>by cases hb⟩
theorem SB.nr (s:SB d h0 rb bl bs x k r B):rb∉B:=fun h=>s.kr (s.fresh rb h)
theorem SB.new_ (s:SB d h0 rb bl bs x k r B) {b:Nat} (e:k b=none):h0 b=none:=by
 cases h:h0 b with
 | none=>rfl
 | some o=>
  have h1:b≠rb:=fun h=>s.rd.known (h▸e)
  rw [s.keep b o h h1] at e
  cases e
theorem SB.andThen (s:SB d h0 rb bl bs x k r B) (hkn:∀b∈B,k b≠none) {k':Hp} {r1:RS} {x':S_api_Config} {B':List Nat} (t:SB d k rb bl bs x' k' r1 B'):SB d h0 rb bl bs x' k' r1 (B++B') where
 kr:=s.kr
 keep:=fun b o e h1=>t.keep b o (s.keep b o e h1) h1
 rd:=t.rd
 nd:=by
  rw [List.nodup_append]
  exact ⟨s.nd,t.nd,fun a ha b hb e=>hkn a ha (by rw [e];exact t.fresh b hb)⟩
 fresh:=fun b hb=>by
  rcases List.mem_append.1 hb with hb | hb
  ·exact s.fresh b hb
  ·exact s.new_ (t.fresh b hb)
theorem SB.kept (s:SB d h0 rb bl bs x k r B) (hkn:∀b∈B,k b≠none) {k':Hp} {r1:RS} {x':S_api_Config} {B':List Nat} (t:SB d k rb bl bs x' k' r1 B'):∀b∈B,k' b=k b:=fun b hb=>by
 cases e:k b with
 | none=>exact absurd e (hkn b hb)
 | some o=>exact t.keep b o e fun h=>s.nr (h▸hb)
theorem SB.step {r1:RS} {k':Hp} (hkr:k rb≠none) (m:Mv [rb] k [rb] k') (a:SAt d k' rb bl bs r1 x):SB d k rb bl bs x k' r1 []:=
 ⟨hkr,fun b o e h1=>m.keep b o e fun h=>h1 (List.mem_singleton.1 h),a,List.nodup_nil,fun b hb=>by cases hb⟩
theorem SB.grow (s:SB d h0 rb bl bs x k r B) {k':Hp} (hl:k≤k'):SB d h0 rb bl bs x k' r B:=
 ⟨s.kr,fun b o e h1=>hl b o (s.keep b o e h1),s.rd.grow hl,s.nd,s.fresh⟩
theorem zbb {k k':Hp} (hl:k≤k') {B:List Nat} (hkn:∀b∈B,k b≠none):∀b∈B,k' b=k b:=fun b hb=>by
 cases e:k b with
 | none=>exact absurd e (hkn b hb)
 | some o=>exact hl b o e
theorem SB.fin (s:SB d h0 rb bl bs x k r B) {k3:Hp} {B3:List Nat} (keep3:∀b o,k b=some o→b∉B→k3 b=some o) (nd3:B3.Nodup) (from3:∀b∈B3,b∈B∨k b=none) (hd:∀b∈B,d b=none):SB d h0 rb bl bs x k3 r B3 where
 kr:=s.kr
 keep:=fun b o e h1=>keep3 b o (s.keep b o e h1) fun hb=>by rw [s.fresh b hb] at e;cases e
 rd:=by
  obtain ⟨p,q,t,⟨ty,kb⟩,hs⟩:=s.rd.blk
  exact ⟨fun b o e=>keep3 b o (s.rd.le b o e) fun hb=>(by rw [hd b hb] at e;cases e),s.rd.out,s.rd.src,s.rd.cap,s.rd.small,p,q,t,⟨ty,keep3 rb _ kb s.nr⟩,hs⟩
 nd:=nd3
 fresh:=fun b hb=>by
  rcases from3 b hb with hb | hb
  ·exact s.fresh b hb
  ·exact s.new_ hb
end
section
variable {d h:Hp} {rb:Nat} {bl:Sl} {bs:List UInt8} {r:RS} {x:S_api_Config}
theorem iD_eq :iD=D.map i64 (D.num 8):=rfl
set_option maxRecDepth 20000 in
theorem zew2 {Q:S_api_Lane→Hp→Prop} (a:SAt d h rb bl bs r x)
  (hq:∀(v:S_api_Lane) (p:PLane) r1 B' h',SB d h rb bl bs x h' r1 B'→LaneO v p h' B'→Cn bs r (laneD x.Lane (x.Procs.len:Int)) r1 p→Q v h'):zmg Tryz.prog (some ⟨rb,0,none⟩) Q h:=by
 unfold zmg
 have hd:∀ {B:List Nat},(∀b∈B,h b=none)→∀b∈B,d b=none:=fun hB b hb=>zbc a.le (hB b hb)
 refine zab (zab (ld_at (sh:=shInt .i64) x.Lane (a.cfg (j:=3) (n:=1) rfl) ?_))
 refine zeu (zps1 (k:=1) a (by omega) (by omega) fun n r1 h1 hn m1 a1 hc1=> ?_)
 have s1:SB d h rb bl bs x h1 r1 []:=SB.step a.known m1 a1
 refine forT (n:=n) rfl (by omega) (fun i (y:S_api_Lane) k=>∃(vs:List Int) (r':RS) (B:List Nat),vs.length=i∧y.Waiters=⟨none,0,0⟩∧SB d h rb bl bs x k r' B∧IsO y.Values vs k B∧
  ∀(β:Type) (f:List Int→D β),stepD r1 (D.bind (D.many (fun _=>iD) n []) f) bs=stepD r' (D.bind (D.many (fun _=>iD) (n-i) vs) f) bs) ⟨[],r1,[],rfl,rfl,s1,RowsO.nil,fun _ _=>rfl⟩ ?_ ?_
 ·rintro i hi y k ⟨vs,r',B,hvl,hy,s,o,hcn⟩ K hK
  have hkn:=okIs.known o
  refine zab (zbe (zdh1 (k:=8) s.rd (by omega) (by omega) fun w r2 k2 hw m2 a2 hc2 _=> ?_))
  have t2:SB d k rb bl bs x k2 r2 []:=SB.step s.rd.known m2 a2
  have s2:=s.andThen hkn t2
  rw [List.append_nil] at s2
  have o2:=okIs.same o (s.kept hkn t2)
  refine ⟨⟨trivial,trivial⟩,?_⟩
  refine newF (xs:=[i64 w]) (enc:=fun x=>zad ((shInt .i64).enc x)) (sz:=1) rfl (fun _=>rfl) fun b3 k3 _ hle3 _ o3=>⟨⟨trivial,trivial⟩,?_⟩
  have s3:=s2.grow hle3
  have oo:=okIs.same o2 (zbb hle3 (okIs.known o2))
  refine zqr (PureO.ok _) oo (v:=i64 w) (p:=i64 w) (B':=[]) ⟨rfl,rfl⟩ (by simpa using s3.nd) (o3.rw fun _=>rfl) (fun _=>rfl) (fun _=>rfl) rfl (by omega) fun l' k4 B4 o4 nd4 keep4 from4=> ?_
  refine hK _ k4 ⟨vs++ [i64 w],r2,B4,by simp [hvl],hy,s3.fin keep4 nd4 (fun b hb=>by simpa using from4 b hb) (hd s3.fresh),o4,fun β f=> ?_⟩
  have e1:n-i=(n-(i+1))+1:=by omega
  rw [hcn,e1,zcy,zan,iD_eq,hc2.map]
 ·rintro y k ⟨vs,r',B,hvl,hy,s,o,hcn⟩
  have hkn:=okIs.known o
  refine zab (zab (ld_at (sh:=shSl) x.Procs (s.rd.cfg (j:=6) (n:=1) rfl) ?_))
  refine zeu (zps1 (k:=1) s.rd (by omega) (by omega) fun n2 r2 k2 hn2 m2 a2 hc2=> ?_)
  have t2:SB d k rb bl bs x k2 r2 []:=SB.step s.rd.known m2 a2
  have s2:=s.andThen hkn t2
  rw [List.append_nil] at s2
  have o2:=okIs.same o (s.kept hkn t2)
  have okW:AsOk (RowsO sh_api_Waiter 2 (PureO fun x p=>zcn x=p)):=RowsO.ok (PureO.ok _)
  refine forT (n:=n2) rfl (by omega) (fun i (z:S_api_Lane) k=>∃(ws:List PWaiter) (r':RS) (B1 B2:List Nat),ws.length=i∧SB d h rb bl bs x k r' (B1++B2)∧IsO z.Values vs k B1∧RowsO sh_api_Waiter 2 (PureO fun x p=>zcn x=p) z.Waiters ws k B2∧
   ∀(β:Type) (f:List PWaiter→D β),stepD r2 (D.bind (D.many (fun _=>zxk) n2 []) f) bs=stepD r' (D.bind (D.many (fun _=>zxk) (n2-i) ws) f) bs) ⟨[],r2,B,[],rfl,by simpa using s2,o2,by rw [hy];exact RowsO.nil,fun _ _=>rfl⟩ ?_ ?_
  ·rintro i hi z k ⟨ws,r',B1,B2,hwl,s,o1,o2,hcn⟩ K hK
   have hkn:∀b∈B1++B2,k b≠none:=fun b hb=>by
    rcases List.mem_append.1 hb with hb | hb
    ·exact okIs.known o1 b hb
    ·exact okW.known o2 b hb
   refine zab (zab (zat (zgq (k:=1) s.rd (by omega) (by omega) fun u r3 k3 hu m3 a3 hc3 _=>⟨⟨trivial,trivial⟩,?_⟩)))
   refine zbe (zdh1 (k:=8) a3 (by omega) (by omega) fun w r4 k4 hw m4 a4 hc4 _=>⟨⟨trivial,trivial⟩,?_⟩)
   have t4:SB d k rb bl bs x k4 r4 []:=SB.step s.rd.known (m3.trans m4) a4
   have s4:=s.andThen hkn t4
   rw [List.append_nil] at s4
   have hs4:=s.kept hkn t4
   refine newF (xs:=[(⟨(u:Int),i64 w⟩:S_api_Waiter)]) (enc:=fun x=>zad (sh_api_Waiter.enc x)) (sz:=2) rfl (fun _=>rfl) fun b5 k5 _ hle5 _ o5=>⟨⟨trivial,trivial⟩,?_⟩
   have s5:=s4.grow hle5
   have hs5:∀b∈B1++B2,k5 b=k b:=fun b hb=>by
    rw [←hs4 b hb]
    exact zbb hle5 (fun b hb=>by rw [hs4 b hb];exact hkn b hb) b hb
   have o1':=okIs.same o1 fun b hb=>hs5 b (mem_a hb)
   have o2':=okW.same o2 fun b hb=>hs5 b (mem_b hb)
   have nd:=List.nodup_append.1 s5.nd
   refine zqr (PureO.ok _) o2' (v:=⟨(u:Int),i64 w⟩) (p:=⟨(u:Int),i64 w⟩) (B':=[]) ⟨rfl,rfl⟩ (by simpa using nd.2.1) (o5.rw fun _=>rfl) (fun _=>rfl) (fun _=>rfl) rfl (by omega) fun l' k6 B6 o6 nd6 keep6 from6=> ?_
   have hB1:∀b∈B1,k6 b=k5 b:=fun b hb=>by
    cases e:k5 b with
    | none=>exact absurd e (okIs.known o1' b hb)
    | some o=>exact keep6 b o e fun h=>nd.2.2 b hb b h rfl
   refine hK _ k6 ⟨ws++ [⟨(u:Int),i64 w⟩],r4,B1,B6,by simp [hwl],s5.fin (fun b o e hn=>keep6 b o e fun h=>hn (mem_b h)) ?_ (fun b hb=> ?_) (hd s5.fresh),okIs.same o1' hB1,o6,fun β f=> ?_⟩
   ·have:=mid (P:=B1) (M:=B2) (S:=[]) (by simpa using s5.nd) nd6 from6 (by simpa using okIs.known o1') (fun b hb=>by cases hb)
    simpa using this
   ·rcases List.mem_append.1 hb with hb | hb
    ·exact .inl (mem_a hb)
    ·rcases from6 b hb with hb | hb
     ·exact .inl (mem_b (by simpa using hb))
     ·exact .inr hb
   ·have e1:n2-i=(n2-(i+1))+1:=by omega
    rw [hcn,e1,zcy,zan]
    unfold zxk
    rw [zan,hc3,zan,iD_eq,hc4.map]
    rfl
  ·rintro z k ⟨ws,r',B1,B2,hwl,s,o1,o2,hcn2⟩
   have hkn:∀b∈B1++B2,k b≠none:=fun b hb=>by
    rcases List.mem_append.1 hb with hb | hb
    ·exact okIs.known o1 b hb
    ·exact okW.known o2 b hb
   refine zab (zab (zat (zgq (k:=2) s.rd (by omega) (by omega) fun u r3 k3 hu m3 a3 hc3 _=> ?_)))
   refine zat (zgq (k:=2) a3 (by omega) (by omega) fun w r4 k4 hw m4 a4 hc4 _=> ?_)
   have t4:SB d k rb bl bs x k4 r4 []:=SB.step s.rd.known (m3.trans m4) a4
   have s4:=s.andThen hkn t4
   rw [List.append_nil] at s4
   have hs4:=s.kept hkn t4
   refine hq _ ⟨vs,ws,(u:Int),(w:Int)⟩ r4 (B1++B2) k4 s4 ⟨B1,B2,rfl,okIs.same o1 fun b hb=>hs4 b (mem_a hb),okW.same o2 fun b hb=>hs4 b (mem_b hb),rfl,rfl⟩ fun β f=> ?_
   unfold laneD
   rw [zan,hc1,zan]
   have e1:=hcn β fun values=>D.bind (D.bind (D.must (zD 1) (mostE (x.Procs.len:Int))) fun m=>D.bind (D.many (fun _=>zxk) m.toNat []) fun waiters=>D.bind (zD 2) fun taken=>D.bind (zD 2) fun dropped=>D.ret (⟨values,waiters,taken,dropped⟩:PLane)) f
   rw [Nat.sub_self] at e1
   refine e1.trans ?_
   show stepD _ (D.bind (D.bind (D.must (zD 1) (mostE (x.Procs.len:Int))) _) f) bs=_
   rw [zan,hc2,zan]
   have e2:=hcn2 β fun waiters=>D.bind (D.bind (zD 2) fun taken=>D.bind (zD 2) fun dropped=>D.ret (⟨vs,waiters,taken,dropped⟩:PLane)) f
   rw [Nat.sub_self] at e2
   refine e2.trans ?_
   show stepD _ (D.bind (D.bind (zD 2) _) f) bs=_
   rw [zan,hc3,zan,hc4]
   rfl
end
end Lf

namespace Lf
open Go Go.Proofs
section
variable {d h0 k:Hp} {rb:Nat} {bl:Sl} {bs:List UInt8} {r:RS} {x:S_api_Config}
theorem zep1 {β:Type} {sh:Shape} {sz:Nat} {R:sh.T→β→Hp→List Nat→Prop} {l:Sl} {ps:List β} {P M S B':List Nat} (ok:AsOk R) (hd0:d≤h0) (s:SB d h0 rb bl bs x k r ((P++(M++S))++B')) (o:RowsO sh sz R l ps k M) {v:sh.T} {p:β} (e:R v p k B')
  (kp:∀b∈P++S,k b≠none) {y:Sl} (hx:Rs k sh sz y [v]) (henc:∀x,(zad (sh.enc x)).length=sz) (hok:∀x,zcz (zad (sh.enc x))=true) {zero:List Value} {bytes:Nat} (hz:zero.length=sz)
  (hb:ps.length+1≤140737488355328∧(ps.length+1)*bytes≤140737488355328) {K:Sl→Hp→Prop}
  (hk:∀l' k' M2,SB d h0 rb bl bs x k' r (P++(M2++S))→RowsO sh sz R l' (ps++ [p]) k' M2→(∀b∈P++S,k' b=k b)→K l' k'):zaj sz bytes zero l y K k:=by
 have nd:=List.nodup_append.1 s.nd
 have ndP:=List.nodup_append.1 nd.1
 have ndM:=List.nodup_append.1 ndP.2.1
 have hM:∀b∈P++S,b∉M:=fun b hb hm=>by
  rcases List.mem_append.1 hb with hb | hb
  ·exact ndP.2.2 b hb b (mem_a hm) rfl
  ·exact ndM.2.2 b hm b hb rfl
 have hB:∀b∈B',b∉P++(M++S):=fun b hb h=>nd.2.2 b h b hb rfl
 refine zqr ok o e (by
  rw [List.nodup_append]
  exact ⟨ndM.1,nd.2.1,fun a ha b hb e=>hB b hb (e▸mem_b (mem_a ha))⟩) hx henc hok hz hb fun l' k' M2 o2 nd2 keep2 from2=> ?_
 have hps:∀b∈P++S,k' b=k b:=fun b hb=>by
  cases e:k b with
  | none=>exact absurd e (kp b hb)
  | some o=>exact keep2 b o e (hM b hb)
 refine hk l' k' M2 (s.fin (fun b o e hn=>keep2 b o e fun h=>hn (mem_a (mem_b (mem_a h)))) (mid nd.1 nd2 from2 kp fun b hb h=>hB b hb ?_) (fun b hb=> ?_) (fun b hb=>zbc hd0 (s.fresh b hb))) o2 hps
 ·rcases List.mem_append.1 h with h | h
  ·exact mem_a h
  ·exact mem_b (mem_b h)
 ·rcases List.mem_append.1 hb with hb | hb
  ·exact .inl (mem_a (mem_a hb))
  ·rcases List.mem_append.1 hb with hb | hb
   ·rcases from2 b hb with hb | hb
    ·rcases List.mem_append.1 hb with hb | hb
     ·exact .inl (mem_a (mem_b (mem_a hb)))
     ·exact .inl (mem_b hb)
    ·exact .inr hb
   ·exact .inl (mem_a (mem_b (mem_b hb)))
end
abbrev LogO (l:Sl) (es:List ziy) (h:Hp) (B:List Nat):Prop:=RowsO sh_api_Entry 3 (PureO fun x p=>zht x=p) l es h B
abbrev QsO (l:Sl) (qs:List (List Int)) (h:Hp) (B:List Nat):Prop:=RowsO shSl 1 IsO l qs h B
theorem okLog :AsOk LogO:=RowsO.ok (PureO.ok _)
theorem okQs :AsOk QsO:=RowsO.ok okIs
section
variable {d h:Hp} {rb:Nat} {bl:Sl} {bs:List UInt8} {r:RS} {x:S_api_Config}
theorem SB.next {h0 k:Hp} {B:List Nat} (s:SB d h0 rb bl bs x k r B) (hkn:∀b∈B,k b≠none) {k':Hp} {r1:RS} (m:Mv [rb] k [rb] k') (a:SAt d k' rb bl bs r1 x):SB d h0 rb bl bs x k' r1 B∧∀b∈B,k' b=k b:=by
 have t:SB d k rb bl bs x k' r1 []:=SB.step s.rd.known m a
 have s2:=s.andThen hkn t
 rw [List.append_nil] at s2
 exact ⟨s2,s.kept hkn t⟩
set_option maxRecDepth 20000 in
theorem zex2 {Q:S_api_Part→Hp→Prop} (a:SAt d h rb bl bs r x) (hlk:0≤x.Locks∧x.Locks≤1000)
  (hq:∀(v:S_api_Part) (p:PPart) r1 B' h',SB d h rb bl bs x h' r1 B'→PartO v p h' B'→Cn bs r (partD x.Log x.Locks (x.Procs.len:Int)) r1 p→Q v h'):zmb Tryz.prog (some ⟨rb,0,none⟩) Q h:=by
 unfold zmb
 refine zab (zat (zgq (k:=1) a (by omega) (by omega) fun cur r1 h1 hcur m1 a1 hc1 _=> ?_))
 refine zab (zab (ld_at (sh:=shInt .i64) x.Log (a1.cfg (j:=5) (n:=1) rfl) ?_))
 refine zeu (zps1 (k:=2) a1 (by omega) (by omega) fun n r2 h2 hn m2 a2 hc2=> ?_)
 have s2:SB d h rb bl bs x h2 r2 []:=SB.step a.known (m1.trans m2) a2
 refine forT (n:=n) rfl (by omega) (fun i (y:S_api_Part) k=>∃(es:List ziy) (r':RS) (B:List Nat),es.length=i∧(y.Cursor=(cur:Int)∧y.Owners=⟨none,0,0⟩∧y.Queues=⟨none,0,0⟩)∧SB d h rb bl bs x k r' B∧LogO y.Log es k B∧
  ∀(β:Type) (f:List ziy→D β),stepD r2 (D.bind (D.many (fun _=>zig1) n []) f) bs=stepD r' (D.bind (D.many (fun _=>zig1) (n-i) es) f) bs) ⟨[],r2,[],rfl,⟨rfl,rfl,rfl⟩,s2,RowsO.nil,fun _ _=>rfl⟩ ?_ ?_
 ·rintro i hi y k ⟨es,r',B,hel,hy,s,o,hcn⟩ K hK
  have hkn:=okLog.known o
  refine zab (zab (zab (zbe (zdh1 (k:=8) s.rd (by omega) (by omega) fun w1 r3 k3 hw1 m3 a3 hc3 _=>⟨⟨trivial,trivial⟩,?_⟩))))
  refine zat (zgq (k:=1) a3 (by omega) (by omega) fun w2 r4 k4 hw2 m4 a4 hc4 _=>⟨⟨trivial,trivial⟩,?_⟩)
  refine zbe (zdh1 (k:=8) a4 (by omega) (by omega) fun w3 r5 k5 hw3 m5 a5 hc5 _=>⟨⟨trivial,trivial⟩,?_⟩)
  obtain ⟨s5,hs5⟩:=s.next hkn (m3.trans (m4.trans m5)) a5
  have o5:=okLog.same o hs5
  refine newF (xs:=[(⟨i64 w1,(w2:Int),i64 w3⟩:S_api_Entry)]) (enc:=fun x=>zad (sh_api_Entry.enc x)) (sz:=3) rfl (fun _=>rfl) fun b6 k6 _ hle6 _ o6=>⟨⟨trivial,trivial⟩,?_⟩
  have s6:=s5.grow hle6
  have oo:=okLog.same o5 (zbb hle6 (okLog.known o5))
  refine zep1 (P:=[]) (S:=[]) (B':=[]) (PureO.ok _) a.le (by simpa using s6) oo (v:=⟨i64 w1,(w2:Int),i64 w3⟩) (p:=⟨i64 w1,(w2:Int),i64 w3⟩) ⟨rfl,rfl⟩ (by simp) (o6.rw fun _=>rfl) (fun _=>rfl) (fun _=>rfl) rfl (by omega) fun l' k7 B7 s7 o7 _=> ?_
  refine hK _ k7 ⟨es++ [⟨i64 w1,(w2:Int),i64 w3⟩],r5,B7,by simp [hel],hy,by simpa using s7,o7,fun β f=> ?_⟩
  have e1:n-i=(n-(i+1))+1:=by omega
  rw [hcn,e1,zcy,zan]
  unfold zig1
  rw [zan,iD_eq,hc3.map,zan,hc4,zan,hc5.map]
  rfl
 ·rintro y k ⟨es,r',B,hel,⟨hy1,hy2,hy3⟩,s,o,hcn⟩
  have hkn:=okLog.known o
  refine zab (zab (zat (zgq (k:=2) s.rd (by omega) (by omega) fun lost r3 k3 hlost m3 a3 hc3 _=> ?_)))
  refine zat (zgq (k:=2) a3 (by omega) (by omega) fun forb r4 k4 hforb m4 a4 hc4 _=> ?_)
  obtain ⟨s4,hs4⟩:=s.next hkn (m3.trans m4) a4
  have o4:=okLog.same o hs4
  refine zab (ld_at (sh:=shInt .i64) x.Locks (s4.rd.cfg (j:=4) (n:=1) rfl) ?_)
  have hI0:SB d h rb bl bs x k4 r4 (B++([]++ [])):=by simpa using s4
  have hloop:∀(N:Nat),(0≤x.Locks→x.Locks=(N:Int))→(x.Locks<0→N=0)→N≤1000→
    LoopW2 (α1:=Int) (α2:=S_api_Part) (fun again1 t55 x3 h6=>
     (if (decide (t55<(N:Int)))=true then
     NilW none (some ⟨rb,0,none⟩) fun p6=>
     CallT Tryz.prog zas [(.pointer (some (Addr.add p6 0))),(.int .i64 (1:Int))] (shInt .i64) (fun r5 h7=>
     ((True∧True)∧NewW [(.int .i64 (IntKind.wrap .i64 (r5-(1:Int))))] (fun a h8=>
     ((True∧True)∧zaj 1 8 [(.int .i64 (0:Int))] ⟨x3.Owners.base,x3.Owners.len,x3.Owners.cap⟩ ⟨(some a),1,1⟩ (fun r6 h9=>
     NilW none (some ⟨rb,0,none⟩) fun p7=>
     NilW none (some ⟨rb,0,none⟩) fun p8=>
     LdW none shSl h9 (Addr.add (Addr.add p8 4) 6) fun x4=>
     CallT Tryz.prog zdj [(.pointer (some (Addr.add p7 0))),(.int .i64 (1:Int)),(.int .i64 ((x4.len:Nat):Int))] (shInt .i64) (fun r7 h10=>
     LoopW2 (α1:=Sl) (α2:=Int) (fun again2 q t77 h11=>
     (if (decide (t77<r7))=true then
     NilW none (some ⟨rb,0,none⟩) fun p9=>
     CallT Tryz.prog zas [(.pointer (some (Addr.add p9 0))),(.int .i64 (1:Int))] (shInt .i64) (fun r8 h12=>
     NewW [(.int .i64 r8)] (fun a1 h13=>
     zaj 1 8 [(.int .i64 (0:Int))] ⟨q.base,q.len,q.cap⟩ ⟨(some a1),1,1⟩ (fun r9 h14=>
     again2 r9 (IntKind.wrap .i64 (t77+(1:Int))) h14) h13) h12) h11
     else
     NewW [q.v] (fun a1 h12=>
     zaj 1 24 [(.slice none 0 0)] ⟨x3.Queues.base,x3.Queues.len,x3.Queues.cap⟩ ⟨(some a1),1,1⟩ (fun r8 h13=>
     again1 (IntKind.wrap .i64 (t55+(1:Int))) ⟨x3.Cursor,x3.Log,x3.Lost,x3.Forbidden,r6,r8⟩ h13) h12) h11)) ⟨none,0,0⟩ (0:Int) h10) h9) h8)) h7)) h6
     else
     Q x3 h6)) (0:Int) ⟨y.Cursor,y.Log,(lost:Int),(forb:Int),y.Owners,y.Queues⟩ k4:=by
   intro N hN1 hN2 hN3
   have hNt:x.Locks.toNat=N:=by
    by_cases h0:0≤x.Locks
    ·have:=hN1 h0;omega
    ·have:=hN2 (by omega);omega
   refine forT (n:=N) rfl (by omega) (fun i (z:S_api_Part) k=>∃(zs:List (Int×List Int)) (r':RS) (B1 B2 B3:List Nat),zs.length=i∧(z.Cursor=(cur:Int)∧z.Lost=(lost:Int)∧z.Forbidden=(forb:Int))∧SB d h rb bl bs x k r' (B1++(B2++B3))∧
     LogO z.Log es k B1∧IsO z.Owners (zs.map Prod.fst) k B2∧QsO z.Queues (zs.map Prod.snd) k B3∧
     ∀(β:Type) (f:List (Int×List Int)→D β),stepD r4 (D.bind (D.many (fun _=>lockD (x.Procs.len:Int)) N []) f) bs=stepD r' (D.bind (D.many (fun _=>lockD (x.Procs.len:Int)) (N-i) zs) f) bs)
    ⟨[],r4,B,[],[],rfl,⟨hy1,rfl,rfl⟩,hI0,o4,by rw [hy2];exact RowsO.nil,by rw [hy3];exact RowsO.nil,fun _ _=>rfl⟩ ?_ ?_
   ·rintro i hi z k ⟨zs,r',B1,B2,B3,hzl,hz,s,o1,o2,o3,hcn⟩ K hK
    have hkn:∀b∈B1++(B2++B3),k b≠none:=fun b hb=>by
     rcases List.mem_append.1 hb with hb | hb
     ·exact okLog.known o1 b hb
     ·rcases List.mem_append.1 hb with hb | hb
      ·exact okIs.known o2 b hb
      ·exact okQs.known o3 b hb
    refine zab (zat (zgq (k:=1) s.rd (by omega) (by omega) fun u r5 k5 hu m5 a5 hc5 _=>⟨⟨trivial,trivial⟩,?_⟩))
    obtain ⟨s5,hs5⟩:=s.next hkn m5 a5
    rw [zal (by omega) (by omega)]
    refine newF (xs:=[(u:Int)-1]) (enc:=fun x=>zad ((shInt .i64).enc x)) (sz:=1) rfl (fun _=>rfl) fun b6 k6 _ hle6 _ o6=>⟨⟨trivial,trivial⟩,?_⟩
    have s6:=s5.grow hle6
    have hs6:∀b∈B1++(B2++B3),k6 b=k b:=fun b hb=>by
     rw [←hs5 b hb]
     exact zbb hle6 (fun b hb=>by rw [hs5 b hb];exact hkn b hb) b hb
    have p1:=okLog.same o1 fun b hb=>hs6 b (mem_a hb)
    have p2:=okIs.same o2 fun b hb=>hs6 b (mem_b (mem_a hb))
    have p3:=okQs.same o3 fun b hb=>hs6 b (mem_b (mem_b hb))
    have kn6:∀b∈B1++B3,k6 b≠none:=fun b hb=>by
     rcases List.mem_append.1 hb with hb | hb
     ·exact okLog.known p1 b hb
     ·exact okQs.known p3 b hb
    refine zep1 (P:=B1) (M:=B2) (S:=B3) (B':=[]) (PureO.ok _) a.le (by simpa using s6) p2 (v:=(u:Int)-1) (p:=(u:Int)-1) ⟨rfl,rfl⟩ kn6 (o6.rw fun _=>rfl) (fun _=>rfl) (fun _=>rfl) rfl (by simp;omega) fun l7 k7 M7 s7 o7 hs7=> ?_
    have q1:=okLog.same p1 fun b hb=>hs7 b (mem_a hb)
    have q3:=okQs.same p3 fun b hb=>hs7 b (mem_b hb)
    refine zab (zab (ld_at (sh:=shSl) x.Procs (s7.rd.cfg (j:=6) (n:=1) rfl) ?_))
    have kn7:∀b∈B1++(M7++B3),k7 b≠none:=fun b hb=>by
     rcases List.mem_append.1 hb with hb | hb
     ·exact okLog.known q1 b hb
     ·rcases List.mem_append.1 hb with hb | hb
      ·exact okIs.known o7 b hb
      ·exact okQs.known q3 b hb
    refine zeu (zps1 (k:=1) s7.rd (by omega) (by omega) fun nq r8 k8 hnq m8 a8 hc8=> ?_)
    obtain ⟨s8,hs8⟩:=s7.next kn7 m8 a8
    refine forA (n:=nq) rfl (by omega) (fun j (q:Sl) kk=>∃(vs:List Int) (r9:RS) (B4:List Nat),vs.length=j∧SB d h rb bl bs x kk r9 ((B1++(M7++B3))++B4)∧(∀b∈B1++(M7++B3),kk b=k7 b)∧IsO q vs kk B4∧
      ∀(β:Type) (f:List Int→D β),stepD r8 (D.bind (D.many (fun _=>zD 1) nq []) f) bs=stepD r9 (D.bind (D.many (fun _=>zD 1) (nq-j) vs) f) bs) ⟨[],r8,[],rfl,by simpa using s8,hs8,RowsO.nil,fun _ _=>rfl⟩ ?_ ?_
    ·rintro j hj q kk ⟨vs,r9,B4,hvl,s9,hs9,o9,hcn9⟩ K9 hK9
     have kn9:∀b∈(B1++(M7++B3))++B4,kk b≠none:=fun b hb=>by
      rcases List.mem_append.1 hb with hb | hb
      ·rw [hs9 b hb];exact kn7 b hb
      ·exact okIs.known o9 b hb
     refine zab (zat (zgq (k:=1) s9.rd (by omega) (by omega) fun w r10 k10 hw m10 a10 hc10 _=> ?_))
     obtain ⟨s10,hs10⟩:=s9.next kn9 m10 a10
     refine newF (xs:=[(w:Int)]) (enc:=fun x=>zad ((shInt .i64).enc x)) (sz:=1) rfl (fun _=>rfl) fun b11 k11 _ hle11 _ o11=> ?_
     have s11:=s10.grow hle11
     have hs11:∀b∈(B1++(M7++B3))++B4,k11 b=kk b:=fun b hb=>by
      rw [←hs10 b hb]
      exact zbb hle11 (fun b hb=>by rw [hs10 b hb];exact kn9 b hb) b hb
     have o11':=okIs.same o9 fun b hb=>hs11 b (mem_b hb)
     refine zep1 (P:=B1++(M7++B3)) (M:=B4) (S:=[]) (B':=[]) (PureO.ok _) a.le (by simpa using s11) o11' (v:=(w:Int)) (p:=(w:Int)) ⟨rfl,rfl⟩ (fun b hb=>by
      rw [List.append_nil] at hb
      rw [hs11 b (mem_a hb)]
      exact kn9 b (mem_a hb)) (o11.rw fun _=>rfl) (fun _=>rfl) (fun _=>rfl) rfl (by omega) fun l12 k12 M12 s12 o12 hs12=> ?_
     refine hK9 l12 k12 ⟨vs++ [(w:Int)],r10,M12,by simp [hvl],by simpa using s12,fun b hb=> ?_,o12,fun β f=> ?_⟩
     ·rw [hs12 b (by rw [List.append_nil];exact hb),hs11 b (mem_a hb),hs9 b hb]
     ·have e1:nq-j=(nq-(j+1))+1:=by omega
      rw [hcn9,e1,zcy,zan,hc10]
    ·rintro q kk ⟨vs,r9,B4,hvl,s9,hs9,o9,hcn9⟩
     have kn9:∀b∈(B1++(M7++B3))++B4,kk b≠none:=fun b hb=>by
      rcases List.mem_append.1 hb with hb | hb
      ·rw [hs9 b hb];exact kn7 b hb
      ·exact okIs.known o9 b hb
     refine newF (xs:=[q]) (enc:=fun x=>zad (shSl.enc x)) (sz:=1) rfl (fun _=>rfl) fun b11 k11 _ hle11 _ o11=> ?_
     have s11:=s9.grow hle11
     have hs11:∀b∈(B1++(M7++B3))++B4,k11 b=kk b:=zbb hle11 kn9
     have f1:=okLog.same q1 fun b hb=>(hs11 b (mem_a (mem_a hb))).trans (hs9 b (mem_a hb))
     have f2:=okIs.same o7 fun b hb=>(hs11 b (mem_a (mem_b (mem_a hb)))).trans (hs9 b (mem_b (mem_a hb)))
     have f3:=okQs.same q3 fun b hb=>(hs11 b (mem_a (mem_b (mem_b hb)))).trans (hs9 b (mem_b (mem_b hb)))
     have f4:=okIs.same o9 fun b hb=>hs11 b (mem_b hb)
     refine zep1 (P:=B1++M7) (M:=B3) (S:=[]) (B':=B4) okIs a.le (by simpa [List.append_assoc] using s11) f3 (v:=q) (p:=vs) f4 (fun b hb=>by
      rw [List.append_nil] at hb
      rcases List.mem_append.1 hb with hb | hb
      ·exact okLog.known f1 b hb
      ·exact okIs.known f2 b hb) (o11.rw fun _=>rfl) (fun _=>rfl) (fun _=>rfl) rfl (by simp;omega) fun l12 k12 M12 s12 o12 hs12=> ?_
     refine hK _ k12 ⟨zs++ [((u:Int)-1,vs)],r9,B1,M7,M12,by simp [hzl],hz,by simpa [List.append_assoc] using s12,okLog.same f1 fun b hb=>hs12 b (by rw [List.append_nil];exact mem_a hb),?_,?_,fun β f=> ?_⟩
     ·rw [List.map_append]
      exact okIs.same f2 fun b hb=>hs12 b (by rw [List.append_nil];exact mem_b hb)
     ·rw [List.map_append]
      exact o12
     ·have e1:N-i=(N-(i+1))+1:=by omega
      rw [hcn,e1,zcy,zan]
      unfold lockD
      rw [zan,hc5.map,zan,hc8,zan]
      have e2:=hcn9 β fun q=>D.bind (D.ret ((less (u:Int),q):Int×List Int)) fun x_1=>D.bind (D.many (fun _=>lockD (x.Procs.len:Int)) (N-(i+1)) (zs++ [x_1])) f
      rw [Nat.sub_self] at e2
      exact e2
   ·rintro z k ⟨zs,r',B1,B2,B3,hzl,⟨hz1,hz2,hz3⟩,s,o1,o2,o3,hcn5⟩
    refine hq z (zgo1 (cur:Int) es (lost:Int) (forb:Int) zs) r' _ k s ⟨B1,B2,B3,rfl,o1,o2,o3,hz1,hz2,hz3⟩ fun β f=> ?_
    unfold partD
    rw [zan,hc1,zan,hc2,zan]
    have e1:=hcn β fun log=>D.bind (D.bind (zD 2) fun lost=>D.bind (zD 2) fun forbidden=>D.bind (D.many (fun _=>lockD (x.Procs.len:Int)) x.Locks.toNat []) fun l=>D.ret (zgo1 (cur:Int) log lost forbidden l)) f
    rw [Nat.sub_self] at e1
    refine e1.trans ?_
    show stepD _ (D.bind (D.bind (zD 2) _) f) bs=_
    rw [zan,hc3,zan,hc4,zan,hNt]
    have e2:=hcn5 β fun l=>D.bind (D.ret (zgo1 (cur:Int) es (lost:Int) (forb:Int) l)) f
    rw [Nat.sub_self] at e2
    exact e2
  have:=hloop x.Locks.toNat (fun _=>by omega) (fun h=>by omega) (by omega)
  rw [show ((x.Locks.toNat:Nat):Int)=x.Locks by omega] at this
  exact this
end
end Lf

namespace Lf
open Go Go.Proofs
section
variable {d h h1:Hp} {rb:Nat} {bl:Sl} {bs:List UInt8} {r r1:RS} {x:S_api_Config}
theorem zrv1 {P:Program} {α:Type} {g:D α} {W:α→Int} {n:α} {e p:Int} (a1:SAt d h1 rb bl bs r1 x) (hc:Cn bs r g r1 n) (hp:∀a,r=.ok a→p=(a:Int)) (hW:W n=e) (he:e≠0) {Q:Hp→Prop}
  (hq:∀r2 h2,Mv [rb] h1 [rb] h2→SAt d h2 rb bl bs r2 x→Cn bs r (D.must g W) r2 n→Q h2):zib P (some ⟨rb,0,none⟩) e p Q h1:=by
 subst hW
 obtain ⟨p1,e1,pl1,kb1,hs1⟩:=a1.blk
 refine zso kb1 fun h2 m2 kb2=> ?_
 have hd2:=(m2.le a1.le fun c hc=>by rw [List.mem_singleton.1 hc];exact a1.out).1
 have hdone:=hc.done
 cases r with
 | error y=>
  cases r1 with
  | ok at1=>cases hdone
  | error y1=>
   have hdone:(Except.error y:Except (Int×Nat) (α×Nat))=.error y1:=hdone
   cases hdone
   obtain ⟨er,q⟩:=y
   obtain ⟨rfl,hne,rfl⟩:=hs1
   rw [if_neg hne,if_neg hne] at kb2
   exact hq (.error (e1,q)) h2 m2 ⟨hd2,a1.out,a1.src,a1.cap,a1.small,_,_,_,kb2,rfl,hne,rfl⟩ Cn.stay
 | ok at_=>
  have hp:=hp at_ rfl
  subst hp
  cases r1 with
  | ok at1=>
   obtain ⟨rfl,rfl,hat1⟩:=hs1
   have hdone:g bs at_=.ok (n,at1):=hdone
   rw [if_pos rfl,if_pos rfl] at kb2
   refine hq (.error (W n,at_)) h2 m2 ⟨hd2,a1.out,a1.src,a1.cap,a1.small,_,_,_,kb2,rfl,he,rfl⟩ (Cn.err ?_)
   unfold D.must
   rw [hdone]
   dsimp only
   rw [if_neg he]
  | error y1=>
   obtain ⟨er,q⟩:=y1
   have hdone:g bs at_=.error (er,q):=hdone
   obtain ⟨rfl,hne,rfl⟩:=hs1
   rw [if_neg hne,if_neg hne] at kb2
   refine hq (.error (e1,q)) h2 m2 ⟨hd2,a1.out,a1.src,a1.cap,a1.small,_,_,_,kb2,rfl,hne,rfl⟩ (Cn.err ?_)
   unfold D.must
   rw [hdone]
theorem zau1 {α:Type} {g:D α} {W:α→Int} {n:α} (hc:Cn bs r g r1 n) (hW:W n=0):Cn bs r (D.must g W) r1 n:=by
 have hdone:=hc.done
 cases r with
 | error y=>
  cases r1 with
  | ok at1=>cases hdone
  | error y1=>
   have hdone:(Except.error y:Except (Int×Nat) (α×Nat))=.error y1:=hdone
   cases hdone
   exact Cn.stay
 | ok at_=>
  cases r1 with
  | ok at1=>
   have hdone:g bs at_=.ok (n,at1):=hdone
   refine Cn.ok ?_
   unfold D.must
   rw [hdone]
   dsimp only
   rw [if_pos hW]
  | error y1=>
   have hdone:g bs at_=.error y1:=hdone
   refine Cn.err ?_
   unfold D.must
   rw [hdone]
end
def procL (v:S_api_Process):List Value:=zad (sh_api_Process.enc v)
def zng1 (v:S_api_Process):List Int:=[v.Regs_0,v.Regs_1,v.Regs_2,v.Regs_3,v.Regs_4,v.Regs_5,v.Regs_6,v.Regs_7]
def zgu1 (v:S_api_Process) (n:Nat) (w:Int):S_api_Process:=match n with
 | 0=>{v with Regs_0:=w}
 | 1=>{v with Regs_1:=w}
 | 2=>{v with Regs_2:=w}
 | 3=>{v with Regs_3:=w}
 | 4=>{v with Regs_4:=w}
 | 5=>{v with Regs_5:=w}
 | 6=>{v with Regs_6:=w}
 | _=>{v with Regs_7:=w}
theorem zlf1 (v:S_api_Process) {n:Nat} (hn:n<8) (w:Int):zng1 (zgu1 v n w)=(zng1 v).set n w:=by
 match n,hn with
 | 0,_=>rfl
 | 1,_=>rfl
 | 2,_=>rfl
 | 3,_=>rfl
 | 4,_=>rfl
 | 5,_=>rfl
 | 6,_=>rfl
 | 7,_=>rfl
theorem zim1 (v:S_api_Process) {n:Nat} (hn:n<8) (w:Int):procL (zgu1 v n w)=(procL v).take (2+n)++ [.int .i64 w]++(procL v).drop (2+n+1):=by
 match n,hn with
 | 0,_=>rfl
 | 1,_=>rfl
 | 2,_=>rfl
 | 3,_=>rfl
 | 4,_=>rfl
 | 5,_=>rfl
 | 6,_=>rfl
 | 7,_=>rfl
theorem zlg1 (v:S_api_Process) {n:Nat} (hn:n<8) (w:Int):(zgu1 v n w).State=v.State∧(zgu1 v n w).PC=v.PC∧(zgu1 v n w).Lanes=v.Lanes:=by
 match n,hn with
 | 0,_=>exact ⟨rfl,rfl,rfl⟩
 | 1,_=>exact ⟨rfl,rfl,rfl⟩
 | 2,_=>exact ⟨rfl,rfl,rfl⟩
 | 3,_=>exact ⟨rfl,rfl,rfl⟩
 | 4,_=>exact ⟨rfl,rfl,rfl⟩
 | 5,_=>exact ⟨rfl,rfl,rfl⟩
 | 6,_=>exact ⟨rfl,rfl,rfl⟩
 | 7,_=>exact ⟨rfl,rfl,rfl⟩
theorem zcb2 (ws:List Int) {i:Nat} (hi:ws.length=i) (h8:i<8) (w:Int):(ws++List.replicate (8-i) 0).set i w=(ws++ [w])++List.replicate (8-(i+1)) 0:=by
 have e:8-i=(8-(i+1))+1:=by omega
 rw [e,List.replicate_succ,←hi,List.set_append_right _ _ (Nat.le_refl _),Nat.sub_self,List.set_cons_zero]
 simp
abbrev zgv1 (l:Sl) (ps:List PLane) (h:Hp) (B:List Nat):Prop:=RowsO sh_api_Lane 4 LaneO l ps h B
theorem okLanes :AsOk zgv1:=RowsO.ok okLane
structure PSt (d h0:Hp) (rb:Nat) (bl:Sl) (bs:List UInt8) (x:S_api_Config) (pb:Nat) (k:Hp) (r:RS) (v:S_api_Process) (ls:List PLane) (B:List Nat):Prop where
 sb:SB d h0 rb bl bs x k r ([pb]++B)
 blk:Blk k pb (procL v)
 own:zgv1 v.Lanes ls k B
section
variable {d h0 k:Hp} {rb pb:Nat} {bl:Sl} {bs:List UInt8} {r:RS} {x:S_api_Config} {v:S_api_Process} {ls:List PLane} {B:List Nat}
theorem PSt.known (s:PSt d h0 rb bl bs x pb k r v ls B):∀b∈ [pb]++B,k b≠none:=fun b hb=>by
 rcases List.mem_append.1 hb with hb | hb
 ·rw [List.mem_singleton.1 hb];exact s.blk.known
 ·exact okLanes.known s.own b hb
theorem PSt.pn (s:PSt d h0 rb bl bs x pb k r v ls B):pb∉B:=fun h=>(List.nodup_append.1 s.sb.nd).2.2 pb (List.mem_singleton.2 rfl) pb h rfl
theorem PSt.next (s:PSt d h0 rb bl bs x pb k r v ls B) {k':Hp} {r1:RS} (m:Mv [rb] k [rb] k') (a:SAt d k' rb bl bs r1 x):PSt d h0 rb bl bs x pb k' r1 v ls B:=by
 obtain ⟨s2,hs⟩:=s.sb.next s.known m a
 exact ⟨s2,s.blk.mv m fun h=>s.sb.nr (mem_a (by rw [List.mem_singleton.1 h];exact List.mem_singleton.2 rfl)),okLanes.same s.own fun b hb=>hs b (mem_b hb)⟩
theorem PSt.store (hd0:d≤h0) (s:PSt d h0 rb bl bs x pb k r v ls B) {v':S_api_Process} {off:Nat} {val:Value} (hoff:off<15) (hl:v'.Lanes=v.Lanes) (hv:procL v'=(procL v).take off++ [val]++(procL v).drop (off+1)) {K:Hp→Prop}
  (hk:∀k',PSt d h0 rb bl bs x pb k' r v' ls B→K k'):StW k ⟨pb,off,none⟩ [val] K:=by
 refine zdp s.blk (by show off+1≤15;omega) fun k4 m4 hb4=>hk k4 ?_
 refine ⟨s.sb.fin (fun b o e hn=>m4.keep b o e fun h=>hn (mem_a h)) s.sb.nd (fun b hb=>.inl hb) (fun b hb=>zbc hd0 (s.sb.fresh b hb)),by rw [hv];exact hb4,?_⟩
 rw [hl]
 exact okLanes.same s.own (zmv m4 (okLanes.known s.own) fun b hb e=>s.pn (by rw [←List.mem_singleton.1 e];exact hb))
theorem PSt.grow (s:PSt d h0 rb bl bs x pb k r v ls B) {k':Hp} (hl:k≤k'):PSt d h0 rb bl bs x pb k' r v ls B:=
 ⟨s.sb.grow hl,s.blk.le hl,okLanes.same s.own (zbb hl (okLanes.known s.own))⟩
end
section
variable {d h:Hp} {rb:Nat} {bl:Sl} {bs:List UInt8} {r:RS} {x:S_api_Config}
set_option maxRecDepth 20000 in
theorem zey2 {Q:S_api_Process→Hp→Prop} (a:SAt d h rb bl bs r x) (hll:x.Labels.len≤1000)
  (hq:∀(v:S_api_Process) (p:PProcess) r1 B' h',SB d h rb bl bs x h' r1 B'→ProcessO v p h' B'→Cn bs r (zas1 x.Labels.len x.Lane (x.Procs.len:Int)) r1 p→Q v h'):zmc Tryz.prog (some ⟨rb,0,none⟩) Q h:=by
 unfold zmc
 refine zab (zab (zat (zgq (k:=1) a (by omega) (by omega) fun st r1 h1 hst m1 a1 hc1 _=> ?_)))
 refine zat (zgq (k:=2) a1 (by omega) (by omega) fun pc r2 h2 hpc m2 a2 hc2 _=> ?_)
 have s2:SB d h rb bl bs x h2 r2 []:=SB.step a.known (m1.trans m2) a2
 refine newB2 fun pb h3 hn3 hle3 hP3=> ?_
 have hP3:Blk h3 pb (procL ⟨(st:Int),(pc:Int),0,0,0,0,0,0,0,0,0,0,false,0,⟨none,0,0⟩⟩):=hP3
 have p3:PSt d h rb bl bs x pb h3 r2 ⟨(st:Int),(pc:Int),0,0,0,0,0,0,0,0,0,0,false,0,⟨none,0,0⟩⟩ [] []:=by
  have s3:=s2.grow hle3
  exact ⟨⟨s3.kr,s3.keep,s3.rd,by simp,fun b hb=>by
   rw [List.append_nil] at hb
   rw [List.mem_singleton.1 hb]
   exact s2.new_ hn3⟩,hP3,RowsO.nil⟩
 refine forI (n:=8) rfl (by omega) (fun i k=>∃(ws:List Int) (r':RS) (v:S_api_Process),ws.length=i∧(v.State=(st:Int)∧v.PC=(pc:Int)∧v.Lanes=⟨none,0,0⟩)∧zng1 v=ws++List.replicate (8-i) 0∧PSt d h rb bl bs x pb k r' v [] []∧
  ∀(β:Type) (f:List Int→D β),stepD r2 (D.bind (D.many (fun _=>iD) 8 []) f) bs=stepD r' (D.bind (D.many (fun _=>iD) (8-i) ws) f) bs) ⟨[],r2,_,rfl,⟨rfl,rfl,rfl⟩,rfl,p3,fun _ _=>rfl⟩ ?_ ?_
 ·rintro i hi k ⟨ws,r',v,hwl,hv,hreg,s,hcn⟩ K hK
  refine zab (zbe (zdh1 (k:=8) s.sb.rd (by omega) (by omega) fun w r4 k4 hw m4 a4 hc4 _=>⟨⟨by omega,by omega⟩,?_⟩))
  have s4:=s.next m4 a4
  have haddr:(Addr.add (Addr.add ⟨pb,0,none⟩ 2) ((Int.toNat (i:Int))*1))=⟨pb,2+i,none⟩:=by
   rw [Nat.mul_one,show Int.toNat (i:Int)=i from rfl,zdh,zdh,Nat.zero_add]
  rw [haddr]
  obtain ⟨e1,e2,e3⟩:=zlg1 v hi (i64 w)
  refine s4.store a.le (v':=zgu1 v i (i64 w)) (off:=2+i) (by omega) e3 (zim1 v hi _) fun k5 s5=>hK k5 ⟨ws++ [i64 w],r4,zgu1 v i (i64 w),by simp [hwl],⟨e1.trans hv.1,e2.trans hv.2.1,e3.trans hv.2.2⟩,?_,s5,fun β f=> ?_⟩
  ·rw [zlf1 v hi,hreg,zcb2 ws hwl hi]
  ·have e1:8-i=(8-(i+1))+1:=by omega
   rw [hcn,e1,zcy,zan,iD_eq,hc4.map]
 ·rintro k ⟨ws,r',v,hwl,⟨hv1,hv2,hv3⟩,hreg,s,hcn⟩
  have hreg:zng1 v=ws:=by rw [hreg];simp
  refine zab (zat (zgq (k:=1) s.sb.rd (by omega) (by omega) fun cur r4 k4 hcur m4 a4 hc4 _=> ?_))
  refine (s.next m4 a4).store a.le (v':={v with Cursor:=(cur:Int)}) (off:=10) (by omega) rfl rfl fun k5 s5=> ?_
  refine zab (zbe (zdh1 (k:=8) s5.sb.rd (by omega) (by omega) fun tim r6 k6 htim m6 a6 hc6 _=> ?_))
  refine (s5.next m6 a6).store a.le (v':={v with Cursor:=(cur:Int),Timer:=i64 tim}) (off:=11) (by omega) rfl rfl fun k7 s7=> ?_
  obtain ⟨p7,e7,pl7,kb7,hs7⟩:=s7.sb.rd.blk
  refine zab (ld_at (sh:=shInt .i64) p7 (kb7.ldIs (off:=1) (n:=1) rfl) ?_)
  refine zab (zat (zgq (k:=1) s7.sb.rd (by omega) (by omega) fun fi r8 k8 hfi m8 a8 hc8 _=> ?_))
  have s8:=s7.next m8 a8
  refine JoinW0.intro (fun kk=>∃r9,PSt d h rb bl bs x pb kk r9 {v with Cursor:=(cur:Int),Timer:=i64 tim} [] []∧Cn bs r6 (D.must (zD 1) yesE) r9 (fi:Int)) ?_ ?_
  ·have hp7:∀aa,r6=.ok aa→p7=(aa:Int):=fun aa e=>by rw [e] at hs7;exact hs7.1
   by_cases h1:(1:Int)<(fi:Int)
   ·rw [if_pos (decide_eq_true h1)]
    refine zab (zbj (zrv1 (W:=yesE) (n:=(fi:Int)) s8.sb.rd hc8 hp7 (by unfold yesE;rw [if_pos h1]) (by decide) fun r9 k9 m9 a9 hc9=>⟨r9,s8.next m9 a9,hc9⟩))
   ·rw [if_neg (fun e=>h1 (of_decide_eq_true e))]
    exact ⟨r8,s8,zau1 hc8 (by unfold yesE;rw [if_neg h1])⟩
  rintro k9 ⟨r9,s9,hc9⟩
  refine s9.store a.le (v':={v with Cursor:=(cur:Int),Timer:=i64 tim,Fired:=((fi:Int)==(1:Int))}) (off:=12) (by omega) rfl rfl fun k10 s10=> ?_
  refine zab (zbe (zdh1 (k:=8) s10.sb.rd (by omega) (by omega) fun wak r11 k11 hwak m11 a11 hc11 _=> ?_))
  refine (s10.next m11 a11).store a.le (v':={v with Cursor:=(cur:Int),Timer:=i64 tim,Fired:=((fi:Int)==(1:Int)),Wake:=i64 wak}) (off:=13) (by omega) rfl rfl fun k12 s12=> ?_
  refine zab (ld_at (sh:=shSl) x.Labels (s12.sb.rd.cfg (j:=0) (n:=1) rfl) ?_)
  have hvL:v={v with Lanes:=⟨none,0,0⟩}:=by cases v;simp only at hv3;rw [hv3]
  rw [zal (by omega) (by omega)]
  refine forI (n:=x.Labels.len+1) (by push_cast;rfl) (by omega) (fun i kk=>∃(ps:List PLane) (r':RS) (l:Sl) (B:List Nat),ps.length=i∧PSt d h rb bl bs x pb kk r' {v with Cursor:=(cur:Int),Timer:=i64 tim,Fired:=((fi:Int)==(1:Int)),Wake:=i64 wak,Lanes:=l} ps B∧
    ∀(β:Type) (f:List PLane→D β),stepD r11 (D.bind (D.many (fun _=>laneD x.Lane (x.Procs.len:Int)) (x.Labels.len+1) []) f) bs=stepD r' (D.bind (D.many (fun _=>laneD x.Lane (x.Procs.len:Int)) (x.Labels.len+1-i) ps) f) bs)
   ⟨[],r11,⟨none,0,0⟩,[],rfl,by
    have:=s12
    rw [show ({v with Cursor:=(cur:Int),Timer:=i64 tim,Fired:=((fi:Int)==(1:Int)),Wake:=i64 wak}:S_api_Process)={v with Cursor:=(cur:Int),Timer:=i64 tim,Fired:=((fi:Int)==(1:Int)),Wake:=i64 wak,Lanes:=⟨none,0,0⟩} by rw [←hv3]] at this
    exact this,fun _ _=>rfl⟩ ?_ ?_
  ·rintro i hi kk ⟨ps,r',l,B,hpl,s13,hcn2⟩ K hK
   refine ld_at (sh:=shSl) l (s13.blk.ldIs (off:=14) (n:=1) rfl) ?_
   refine zan1 (zew2 s13.sb.rd fun y p r14 B' k14 t14 o14 hc14=> ?_)
   have s14:=s13.sb.andThen s13.known t14
   have hs14:=s13.sb.kept s13.known t14
   have hb14:Blk k14 pb (procL {v with Cursor:=(cur:Int),Timer:=i64 tim,Fired:=((fi:Int)==(1:Int)),Wake:=i64 wak,Lanes:=l}):=by
    obtain ⟨t,e⟩:=s13.blk
    exact ⟨t,by rw [hs14 pb (mem_a (List.mem_singleton.2 rfl))];exact e⟩
   refine ⟨⟨hb14.ldIs (off:=14) (n:=1) rfl,trivial⟩,?_⟩
   refine newF (xs:=[y]) (enc:=fun x=>zad (sh_api_Lane.enc x)) (sz:=4) rfl (fun _=>rfl) fun b15 k15 _ hle15 _ o15=> ?_
   have hb15:=hb14.le hle15
   refine ⟨⟨hb15.ldIs (off:=14) (n:=1) rfl,trivial⟩,?_⟩
   have s15:=s14.grow hle15
   have hs15:∀b∈ [pb]++B,k15 b=kk b:=fun b hb=>by
    rw [←hs14 b hb]
    exact zbb hle15 (fun b hb=>by rw [hs14 b hb];exact s13.known b hb) b hb
   have ow:=okLanes.same s13.own fun b hb=>hs15 b (mem_b hb)
   have oe:=okLane.same o14 (zbb hle15 (okLane.known o14))
   refine zep1 (P:=[pb]) (M:=B) (S:=[]) (B':=B') okLane a.le (by simpa using s15) ow (v:=y) (p:=p) oe (fun b hb=>by
    rw [List.append_nil] at hb
    rw [hs15 b (mem_a hb)]
    exact s13.known b (mem_a hb)) (o15.rw fun _=>rfl) (fun _=>rfl) (fun _=>rfl) rfl (by omega) fun l16 k16 M16 s16 o16 hs16=> ?_
   rw [List.append_nil] at s16
   have hb16:Blk k16 pb (procL {v with Cursor:=(cur:Int),Timer:=i64 tim,Fired:=((fi:Int)==(1:Int)),Wake:=i64 wak,Lanes:=l}):=by
    obtain ⟨t,e⟩:=hb15
    exact ⟨t,by rw [hs16 pb (by simp)];exact e⟩
   have hpM:pb∉M16:=fun h=>(List.nodup_append.1 s16.nd).2.2 pb (List.mem_singleton.2 rfl) pb h rfl
   refine zdp (off:=14) hb16 (by show 14+1≤15;omega) fun k17 m17 hb17=>hK k17 ⟨ps++ [p],r14,l16,M16,by simp [hpl],⟨?_,hb17,?_⟩,fun β f=> ?_⟩
   ·exact s16.fin (fun b o e hn=>m17.keep b o e fun h=>hn (mem_a h)) s16.nd (fun b hb=>.inl hb) (fun b hb=>zbc a.le (s16.fresh b hb))
   ·exact okLanes.same o16 (zmv m17 (okLanes.known o16) fun b hb e=>hpM (by have e:b=pb:=List.mem_singleton.1 e;exact e▸hb))
   ·have e1:x.Labels.len+1-i=(x.Labels.len+1-(i+1))+1:=by omega
    rw [hcn2,e1,zcy,zan,hc14]
  ·rintro kk ⟨ps,r',l,B,hpl,s13,hcn2⟩
   refine ld_at (sh:=sh_api_Process) {v with Cursor:=(cur:Int),Timer:=i64 tim,Fired:=((fi:Int)==(1:Int)),Wake:=i64 wak,Lanes:=l} (s13.blk.ldIs (off:=0) (n:=15) rfl) ?_
   refine hq _ ⟨(st:Int),(pc:Int),ws,(cur:Int),i64 tim,isOne (fi:Int),i64 wak,ps⟩ r' B kk ⟨s13.sb.kr,s13.sb.keep,s13.sb.rd,(List.nodup_append.1 s13.sb.nd).2.1,fun b hb=>s13.sb.fresh b (mem_b hb)⟩
    ⟨s13.own,hv1,hv2,hreg,rfl,rfl,?_,rfl⟩ fun β f=> ?_
   ·show ((fi:Int)==(1:Int))=isOne (fi:Int)
    unfold isOne
    rfl
   ·unfold zas1
    rw [zan,hc1,zan,hc2,zan]
    have e1:=hcn β fun regs=>D.bind (D.bind (zD 1) fun cursor=>D.bind iD fun timer=>D.bind (D.map isOne (D.must (zD 1) yesE)) fun fired=>D.bind iD fun wake=>D.bind (D.many (fun _=>laneD x.Lane (x.Procs.len:Int)) (x.Labels.len+1) []) fun lanes=>
     D.ret (⟨(st:Int),(pc:Int),regs,cursor,timer,fired,wake,lanes⟩:PProcess)) f
    rw [Nat.sub_self] at e1
    refine e1.trans ?_
    show stepD _ (D.bind (D.bind (zD 1) _) f) bs=_
    rw [zan,hc4,zan,iD_eq,hc6.map,zan,hc9.map,zan,hc11.map,zan]
    have e2:=hcn2 β fun lanes=>D.bind (D.ret (⟨(st:Int),(pc:Int),ws,(cur:Int),i64 tim,isOne (fi:Int),i64 wak,lanes⟩:PProcess)) f
    rw [Nat.sub_self] at e2
    exact e2
end
end Lf

namespace Lf
open D (many must mustAt)
def Pl {α:Type} (d:D α):Prop:=∀bs at_,at_≤bs.length→(∀e,d bs at_=.error e→e.2≤bs.length)∧∀z,d bs at_=.ok z→at_≤z.2∧z.2≤bs.length
section
variable {α β:Type}
theorem zsp (x:α):Pl (D.ret x):=fun bs at_ h=>⟨fun e he=>(by cases he),fun z hz=>by cases hz;exact ⟨Nat.le_refl _,h⟩⟩
theorem zwz1 (k:Nat):Pl (D.num k):=fun bs at_ h=>by
 unfold D.num
 by_cases hs:bs.length<at_+k
 ·rw [if_pos hs]
  exact ⟨fun e he=>by cases he;exact Nat.le_refl _,fun z hz=>by cases hz⟩
 ·rw [if_neg hs]
  exact ⟨fun e he=>(by cases he),fun z hz=>by cases hz;exact ⟨Nat.le_add_right _ _,by omega⟩⟩
theorem zay {d:D α} {f:α→D β} (h1:Pl d) (h2:∀x,Pl (f x)):Pl (D.bind d f):=fun bs at_ h=>by
 obtain ⟨p1,p2⟩:=h1 bs at_ h
 unfold D.bind
 cases hd:d bs at_ with
 | error e=>exact ⟨fun e' he=>by cases he;exact p1 _ hd,fun z hz=>by cases hz⟩
 | ok z=>
  obtain ⟨x,a2⟩:=z
  obtain ⟨q1,q2⟩:=p2 _ hd
  obtain ⟨r1,r2⟩:=h2 x bs a2 q2
  exact ⟨fun e he=>r1 e he,fun z hz=>⟨Nat.le_trans q1 (r2 z hz).1,(r2 z hz).2⟩⟩
theorem zxa1 {d:D α} (f:α→β) (h:Pl d):Pl (D.map f d):=zay h fun _=>zsp _
theorem zja {d:D α} (w:α→Int) (h:Pl d):Pl (must d w):=fun bs at_ ha=>by
 obtain ⟨p1,p2⟩:=h bs at_ ha
 unfold must
 cases hd:d bs at_ with
 | error e=>exact ⟨fun e' he=>by cases he;exact p1 _ hd,fun z hz=>by cases hz⟩
 | ok z=>
  obtain ⟨x,a2⟩:=z
  dsimp only
  by_cases hw:w x=0
  ·rw [if_pos hw]
   exact ⟨fun e he=>(by cases he),fun z hz=>by cases hz;exact p2 _ hd⟩
  ·rw [if_neg hw]
   exact ⟨fun e he=>by cases he;exact ha,fun z hz=>(by cases hz)⟩
theorem zcc2 {d:D α} {w:α→Int×Int} (h:Pl d) (hw:∀bs at_ x a2,at_≤bs.length→d bs at_=.ok (x,a2)→at_+(w x).2.toNat≤a2):Pl (mustAt d w):=fun bs at_ ha=>by
 obtain ⟨p1,p2⟩:=h bs at_ ha
 unfold mustAt
 cases hd:d bs at_ with
 | error e=>exact ⟨fun e' he=>by cases he;exact p1 _ hd,fun z hz=>by cases hz⟩
 | ok z=>
  obtain ⟨x,a2⟩:=z
  dsimp only
  by_cases hx:(w x).1=0
  ·rw [if_pos hx]
   exact ⟨fun e he=>(by cases he),fun z hz=>by cases hz;exact p2 _ hd⟩
  ·rw [if_neg hx]
   exact ⟨fun e he=>by cases he;exact Nat.le_trans (hw bs at_ x a2 ha hd) (p2 _ hd).2,fun z hz=>(by cases hz)⟩
theorem zna {g:List α→D α} (h:∀l,Pl (g l)):∀(n:Nat) (l:List α),Pl (many g n l)
 | 0,l=>zsp l
 | n+1,l=>zay (h l) fun x=>zna h n (l++ [x])
end
theorem pl_z (k:Nat):Pl (zD k):=zxa1 _ (zwz1 k)
theorem pl_i :Pl (D.map i64 (D.num 8)):=zxa1 _ (zwz1 8)
theorem zun1 :∀m:List UInt8,Pl (markD m)
 | []=>zsp ()
 | _::r=>zay (zja _ (zwz1 1)) fun _=>zun1 r
theorem zuo1 (x:PIns) (n locks:Int):(zbv x n locks).2.toNat≤4:=by
 unfold zbv
 repeat' split
 all_goals first | exact Nat.le_of_ble_eq_true rfl | decide
theorem zik2 (n locks:Int):Pl (insD n locks):=by
 refine zcc2 (zay (pl_z 1) fun _=>zay (pl_z 1) fun _=>zay (pl_z 1) fun _=>zay (pl_z 1) fun _=>zay pl_i fun _=>zsp _) fun bs at_ x a2 ha hd=> ?_
 have h1:=(law_ins.sound bs at_ x a2 hd ha).2.1
 have h2:=zuo1 x n locks
 simp [insB,zaf] at h1
 omega
theorem zhc2 (parts locks:Int):Pl (procD parts locks):=
 zay (zja _ (pl_z 1)) fun _=>zay (zja _ (pl_z 2)) fun n=>zay (zna (fun _=>zik2 n locks) _ _) fun _=>zsp _
theorem zcd2 :Pl zpg:=
 zay (zun1 _) fun _=>zay (zja _ (pl_z 1)) fun nl=>zay (zna (fun _=>zja _ (pl_z 8)) _ _) fun _=>
 zay (zja _ (pl_z 1)) fun nt=>zay (zna (fun _=>zja _ (pl_z 1)) _ _) fun _=>
 zay (zja _ (pl_z 2)) fun _=>zay (zja _ (pl_z 1)) fun _=>zay (zja _ (pl_z 1)) fun locks=>zay (zja _ (pl_z 2)) fun _=>
 zay (zja _ (pl_z 1)) fun np=>zay (zna (fun _=>zhc2 _ _) _ _) fun _=>zsp _
theorem zlh1 {α:Type} {d:D α} (h:Pl d) {bs:List UInt8} {e:Int} {p:Nat} (hw:zdz d bs=.error (e,p)):p≤bs.length:=by
 unfold zdz at hw
 by_cases hl:1048576<bs.length
 ·rw [if_pos hl] at hw;cases hw;omega
 ·rw [if_neg hl] at hw
  obtain ⟨p1,p2⟩:=h bs 0 (Nat.zero_le _)
  cases hd:d bs 0 with
  | error e'=>rw [hd] at hw;cases hw;exact p1 _ hd
  | ok z=>
   obtain ⟨x,a⟩:=z
   rw [hd] at hw
   dsimp only at hw
   by_cases ha:a<bs.length
   ·rw [if_pos ha] at hw;cases hw;omega
   ·rw [if_neg ha] at hw;cases hw
theorem ztv {bs:List UInt8} {e:Int} {p:Nat} (h:zdm bs=.error (e,p)):p≤bs.length:=zlh1 zcd2 h
theorem zil2 :Pl zcg:=fun bs at_ ha=>by
 obtain ⟨p1,p2⟩:=zwz1 4 bs at_ ha
 unfold zcg
 cases hd:D.num 4 bs at_ with
 | error e=>exact ⟨fun e' he=>by cases he;exact p1 _ hd,fun z hz=>by cases hz⟩
 | ok z=>
  obtain ⟨n,a2⟩:=z
  obtain ⟨q1,q2⟩:=p2 _ hd
  dsimp only at q1 q2 ⊢
  by_cases hs:bs.length<a2+n
  ·rw [if_pos hs]
   exact ⟨fun e he=>by cases he;exact Nat.le_refl _,fun z hz=>(by cases hz)⟩
  ·rw [if_neg hs]
   cases hc:zdm ((bs.drop a2).take n) with
   | error e=>
    obtain ⟨e,p⟩:=e
    have hp:=ztv hc
    rw [List.length_take] at hp
    exact ⟨fun e' he=>by cases he;show a2+p≤bs.length;omega,fun z hz=>(by cases hz)⟩
   | ok c=>exact ⟨fun e he=>(by cases he),fun z hz=>by cases hz;exact ⟨by show at_≤a2+n;omega,by show a2+n≤bs.length;omega⟩⟩
theorem zez2 :Pl zig1:=zay pl_i fun _=>zay (pl_z 1) fun _=>zay pl_i fun _=>zsp _
theorem zce2 :Pl zxk:=zay (pl_z 1) fun _=>zay pl_i fun _=>zsp _
theorem zhd2 (lane np:Int):Pl (laneD lane np):=
 zay (zja _ (pl_z 1)) fun _=>zay (zna (fun _=>pl_i) _ _) fun _=>zay (zja _ (pl_z 1)) fun _=>zay (zna (fun _=>zce2) _ _) fun _=>zay (pl_z 2) fun _=>zay (pl_z 2) fun _=>zsp _
theorem zhe2 (np:Int):Pl (lockD np):=zay (zxa1 _ (pl_z 1)) fun _=>zay (zja _ (pl_z 1)) fun _=>zay (zna (fun _=>pl_z 1) _ _) fun _=>zsp _
theorem zhf2 (most locks np:Int):Pl (partD most locks np):=
 zay (pl_z 1) fun _=>zay (zja _ (pl_z 2)) fun _=>zay (zna (fun _=>zez2) _ _) fun _=>zay (pl_z 2) fun _=>zay (pl_z 2) fun _=>zay (zna (fun _=>zhe2 np) _ _) fun _=>zsp _
theorem zfa2 (nl:Nat) (lane np:Int):Pl (zas1 nl lane np):=
 zay (pl_z 1) fun _=>zay (pl_z 2) fun _=>zay (zna (fun _=>pl_i) _ _) fun _=>zay (pl_z 1) fun _=>zay pl_i fun _=>zay (zxa1 _ (zja _ (pl_z 1))) fun _=>zay pl_i fun _=>
 zay (zna (fun _=>zhd2 lane np) _ _) fun _=>zsp _
theorem zfb2 (c:PCfg):Pl (zkr1 c):=zay pl_i fun _=>zay (zna (fun _=>zhf2 _ _ _) _ _) fun _=>zay (zna (fun _=>zfa2 _ _ _) _ _) fun _=>zsp _
theorem zhg2 :Pl snapD:=zay (zun1 _) fun _=>zay zil2 fun c=>zay (zfb2 c) fun _=>zsp _
end Lf

