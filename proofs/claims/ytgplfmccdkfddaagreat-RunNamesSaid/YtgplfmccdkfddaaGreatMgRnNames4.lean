/-
  Part 5 of the texts that the claim leans on.
-/
import Derived.RangeFuncFrom
import Derived.RangeFuncBound
import Derived.RangeFuncCalls
import Derived.RangeFuncLeaves
import Derived.Shelf.Abstract
import Derived.Shelf.RegionOpen
import Derived.WalkKit
import Derived.OwnWalkIn
import Derived.TacticsInMore
import Derived.LoopNIn
import Derived.LoopIn
import Derived.Test.YtgplfmccdkfddaaGreatProg
import Derived.Test.YtgplfmccdkfddaaGreatMgRnNames3
set_option maxRecDepth 100000
namespace Lf
open Go Go.Proofs
theorem zgh2 {α:Type} {l:List α} {n:Nat} {f:α->α} {a:α} (h:l[n]? =some a):l.modify n f=l.set n (f a):=by
 refine List.ext_getElem? fun j=> ?_
 grind
theorem zkb2 {a b:Int}:min2I a b=mnI a b:=by
 unfold min2I mnI
 omega
theorem zrf2 {a b:Int}:max2I a b=mxI a b:=by
 unfold max2I mxI
 omega
section
variable {h0 h1 k:Hp} {K:MK} {pm:Addr} {s:MS} {tm:Nat->Nat->Int}
def timTm (tm:Nat->Nat->Int) (i p:Nat) (t v:Int):Nat->Nat->Int:=fset tm i (fset (tm i) (2*p) (if 0<v then t+mnI v 1099511627776 else 0))
theorem zkc2 {p:Nat} {v:Int} {Q:Hp->Prop} (m:MkOk h0 K) (mc:CfgM K.c) (o:Has h0 (MachA K pm s tm) k) (hp:p<nQ K.c) (ht:0<=s.tick/\s.tick<=4611686018427387904)
  (hk:∀k',Has h0 (MachA K pm (s.setP p {s.proc p with fired:=false}) (timTm tm (pOf K.c p) p s.tick v)) k'->Q k'):
 NilW none (some (K.p p)) fun p8=>
 StW k (Addr.add p8 13) [(.bool false)] (fun h4=>
 NilW none (some (K.q (pOf K.c p))) fun p9=>
 LdW none shPtr h4 (Addr.add p9 6) fun x7=>
 NilW none (some (K.p p)) fun p10=>
 LdW none (shInt .i64) h4 (Addr.add p10 0) fun x8=>
 CallT Tryz.prog zbs [(.int .i64 x8)] (shInt .i64) (fun r2 h5=>
 (((LdIs h5 (Addr.add p9 6) [(.pointer x7)])/\True)/\CallT Tryz.prog zby [(.pointer x7),(.int .i64 r2)] zae (fun r3 h6=>
 (if (decide (v>(0:Int)))=true then
 NilW none (some (K.q (pOf K.c p))) fun p11=>
 LdW none shPtr h6 (Addr.add p11 6) fun x9=>
 NilW none (some (K.p p)) fun p12=>
 LdW none (shInt .i64) h6 (Addr.add p12 0) fun x10=>
 NilW none (some pm) fun p13=>
 LdW none (shInt .i64) h6 (Addr.add p13 9) fun x11=>
 CallT Tryz.prog zbs [(.int .i64 x10)] (shInt .i64) (fun r4 h7=>
 (((LdIs h7 (Addr.add p11 6) [(.pointer x9)])/\((LdIs h7 (Addr.add p13 9) [(.int .i64 x11)])/\(True/\True)))/\CallT Tryz.prog zbg [(.pointer x9),(.int .i64 r4),(.int .i64 (IntKind.wrap .i64 (x11+(min2I v (1099511627776:Int)))))] (shInt .i64) (fun r5 h8=>
 Q h8) h7)) h6
 else
 Q h6)) h5)) h4):=by
  have hi:pOf K.c p<nP K.c:=mc.pOf_lt
  have hprocs:=mc.procs
  obtain ⟨h1,z,a,l1,hz,oz,put⟩:=o.procR hp
  refine zab (oz.st (zrn1 z false) (by show 13+1<=15;omega) rfl fun k2 o2=> ?_)
  have o3:=put _ _ _ (hz.fired false) rfl rfl o2
  obtain ⟨h7,x7,lp7,wp7,l7,hx7,ox7,ow,putw⟩:=o3.partW hi
  have ewh:x7.wheel=some wp7:=hx7.2.2.2.2.2
  refine zab (ox7.ld (shf:=shPtr) x7.wheel rfl ?_)
  refine zab (o2.ld (shf:=shInt .i64) z.id_ rfl ?_)
  have ei8:z.id_=(p:Int):=hz.1
  rw [ei8]
  refine zeg (zlk1 (by omega) ?_)
  refine ⟨⟨ox7.ldis (n:=1) rfl,trivial⟩,?_⟩
  rw [ewh]
  refine zct (zjh1 ow (by omega) fun b1 k6 o9=> ?_)
  have o10:=putw _ _ o9
  unfold timTm at hk
  by_cases hv:0<v
  ·rw [if_pos (decide_eq_true hv)]
   rw [if_pos hv] at hk
   obtain ⟨h9,x9,lp9,wp9,l9,hx9,ox9,ow9,putw9⟩:=o10.partW hi
   have ewh9:x9.wheel=some wp9:=hx9.2.2.2.2.2
   obtain ⟨h10,z10,a10,l10,hz10,oz10,_⟩:=o10.procR hp
   refine zab (ox9.ld (shf:=shPtr) x9.wheel rfl ?_)
   refine zab (oz10.ld (shf:=shInt .i64) z10.id_ rfl ?_)
   have ei10:z10.id_=(p:Int):=hz10.1
   rw [ei10]
   refine zab (o10.rec1.ld (shf:=shInt .i64) s.tick rfl ?_)
   refine zeg (zlk1 (by omega) ?_)
   refine ⟨⟨ox9.ldis (n:=1) rfl,o10.rec1.ldis (n:=1) rfl,trivial,trivial⟩,?_⟩
   have hmn:0<mnI v 1099511627776/\mnI v 1099511627776<=1099511627776:=by unfold mnI;split<;>omega
   rw [ewh9,zkb2,wrap64 (by omega) (by omega)]
   refine zjs (zun1 ow9 (by omega) (by omega) (by omega) fun k7 o11=>hk k7 ?_)
   have o12:=putw9 _ _ o11
   rw [zbx,ztd,ztd] at o12
   exact o12
  grind
theorem zkd2 {p:Nat} {v:Int} {Q:Hp->Prop} (m:MkOk h0 K) (mc:CfgM K.c) (o:Has h0 (MachA K pm s tm) k) (hp:p<nQ K.c) (ht:0<=s.tick/\s.tick<=4611686018427387904)
  (hk:∀k',Has h0 (MachA K pm (s.setP p {s.proc p with state:=4}) (fset tm (pOf K.c p) (fset (tm (pOf K.c p)) (2*p+1) (s.tick+mnI (mxI v 1) 1099511627776)))) k'->Q k'):
 NilW none (some (K.q (pOf K.c p))) fun p8=>
 LdW none shPtr k (Addr.add p8 6) fun x7=>
 NilW none (some (K.p p)) fun p9=>
 LdW none (shInt .i64) k (Addr.add p9 0) fun x8=>
 NilW none (some pm) fun p10=>
 LdW none (shInt .i64) k (Addr.add p10 9) fun x9=>
 CallT Tryz.prog zcl [(.int .i64 x8)] (shInt .i64) (fun r2 h4=>
 (((LdIs h4 (Addr.add p8 6) [(.pointer x7)])/\((LdIs h4 (Addr.add p10 9) [(.int .i64 x9)])/\(True/\True)))/\CallT Tryz.prog zbg [(.pointer x7),(.int .i64 r2),(.int .i64 (IntKind.wrap .i64 (x9+(min2I (max2I v (1:Int)) (1099511627776:Int)))))] (shInt .i64) (fun r3 h5=>
 NilW none (some (K.p p)) fun p11=>
 StW h5 (Addr.add p11 3) [(.int .i64 (4:Int))] (fun h6=>
 Q h6)) h4)) k:=by
  have hi:pOf K.c p<nP K.c:=mc.pOf_lt
  have hprocs:=mc.procs
  obtain ⟨h9,x9,lp9,wp9,l9,hx9,ox9,ow9,putw9⟩:=o.partW hi
  have ewh9:x9.wheel=some wp9:=hx9.2.2.2.2.2
  obtain ⟨h10,z10,a10,l10,hz10,oz10,_⟩:=o.procR hp
  refine zab (ox9.ld (shf:=shPtr) x9.wheel rfl ?_)
  refine zab (oz10.ld (shf:=shInt .i64) z10.id_ rfl ?_)
  have ei10:z10.id_=(p:Int):=hz10.1
  rw [ei10]
  refine zab (o.rec1.ld (shf:=shInt .i64) s.tick rfl ?_)
  refine zeh (zll1 (by omega) ?_)
  refine ⟨⟨ox9.ldis (n:=1) rfl,o.rec1.ldis (n:=1) rfl,trivial,trivial⟩,?_⟩
  have hmn:0<mnI (mxI v 1) 1099511627776/\mnI (mxI v 1) 1099511627776<=1099511627776:=by unfold mnI mxI;omega
  rw [ewh9,zkb2,zrf2,wrap64 (by omega) (by omega)]
  refine zjs (zun1 ow9 (by omega) (by omega) (by omega) fun k7 o11=> ?_)
  have o12:=putw9 _ _ o11
  obtain ⟨h1,z,a,l1,hz,oz,put⟩:=o12.procR hp
  exact zab (oz.st (zzz z 4) (by show 3+1<=15;omega) rfl fun k2 o2=>hk k2 (put _ _ _ (hz.state 4) rfl rfl o2))
theorem zoa2 {p:Nat} {n:Int} {Q:Hp->Prop} (m:MkOk h0 K) (mc:CfgM K.c) (o:Has h0 (MachA K pm s tm) k) (sa:Sane K.c s) (hp:p<nQ K.c) (hn:0<=n/\n<K.c.locks) (hno:∀q∈(s.part (pOf K.c p)).queues,(p:Int)∉q)
  (hk:∀k',Has h0 (MachA K pm (lockS K.c s p n) tm) k'->Q k'):
 NilW none (some (K.q (pOf K.c p))) fun p8=>
 LdW none shPtr k (Addr.add p8 5) fun x7=>
 NilW none (some (K.p p)) fun p9=>
 LdW none (shInt .i64) k (Addr.add p9 0) fun x8=>
 Call2 Tryz.prog zhn [(.pointer x7),(.int .i64 n),(.int .i64 x8)] zae (shInt .i64) (fun r2 r3 h4=>
 (if r2=true then
 NilW none (some (K.p p)) fun p10=>
 LdW none zad h4 (Addr.add p10 4) fun x9=>
 CallT Tryz.prog zgv [x9.v] zad (fun r4 h5=>
 NilW none (some (K.p p)) fun p11=>
 StW h5 (Addr.add p11 4) [(.int .i64 r4.PC),(.int .i64 r4.Regs_0),(.int .i64 r4.Regs_1),(.int .i64 r4.Regs_2),(.int .i64 r4.Regs_3),(.int .i64 r4.Regs_4),(.int .i64 r4.Regs_5),(.int .i64 r4.Regs_6),(.int .i64 r4.Regs_7)] (fun h6=>
 Q h6)) h4
 else
 NilW none (some (K.p p)) fun p10=>
 StW h4 (Addr.add p10 3) [(.int .i64 (3:Int))] (fun h5=>
 Q h5))) k:=by
  have hi:pOf K.c p<nP K.c:=mc.pOf_lt
  have si:=sa.part _ hi
  have hq1:=si.quel
  have hown:=si.ownl
  obtain ⟨h3,x4,lp4,wp4,l4,hx4,ox4,ol,putl⟩:=o.partL hi
  have el:x4.locks=some lp4:=hx4.2.2.2.2.1
  obtain ⟨h10,z10,a10,l10,hz10,oz10,_⟩:=o.procR hp
  refine zab (ox4.ld (shf:=shPtr) x4.locks rfl ?_)
  refine zab (oz10.ld (shf:=shInt .i64) z10.id_ rfl ?_)
  have ei10:z10.id_=(p:Int):=hz10.1
  rw [el,ei10]
  have hnl:n.toNat<(s.part (pOf K.c p)).queues.length:=by omega
  have en:((n.toNat:Nat):Int)=n:=by omega
  have hqn:=List.getElem?_eq_getElem hnl
  have hon:=List.getElem?_eq_getElem (show n.toNat<(s.part (pOf K.c p)).owners.length by omega)
  generalize (s.part (pOf K.c p)).queues[n.toNat]=q at hqn
  generalize (s.part (pOf K.c p)).owners[n.toNat]=ow at hon
  unfold lockS at hk
  dsimp only at hk
  rw [zhm hon,zgh2 hqn] at hk
  have key:=zjn2 (n:=n.toNat) (w:=(p:Int)) (Q:=fun r2 (r3:Int) h4=>(if r2=true then
 NilW none (some (K.p p)) fun p10=>
 LdW none zad h4 (Addr.add p10 4) fun x9=>
 CallT Tryz.prog zgv [x9.v] zad (fun r4 h5=>
 NilW none (some (K.p p)) fun p11=>
 StW h5 (Addr.add p11 4) [(.int .i64 r4.PC),(.int .i64 r4.Regs_0),(.int .i64 r4.Regs_1),(.int .i64 r4.Regs_2),(.int .i64 r4.Regs_3),(.int .i64 r4.Regs_4),(.int .i64 r4.Regs_5),(.int .i64 r4.Regs_6),(.int .i64 r4.Regs_7)] (fun h6=>
 Q h6)) h4
 else
 NilW none (some (K.p p)) fun p10=>
 StW h4 (Addr.add p10 3) [(.int .i64 (3:Int))] (fun h5=>
 Q h5))) ol ⟨by have:=si.few.1;omega,si.few.2⟩ hno (by omega) hon hqn (fun h5 k2 o2=> ?_) fun h5 k2 o2=> ?_
  ·rw [en] at key
   exact zzq key
  ·dsimp only
   rw [if_pos rfl]
   rw [if_pos h5] at hk
   have o3:=putl _ _ _ o2
   obtain ⟨h1,z,a,l1,hz,oz,put⟩:=o3.procR hp
   have e:zaz (coreX z)=(s.proc p).core:=hz.2.2.2.2.1
   have epc:(coreX z).PC=(s.proc p).pc:=congrArg Core.pc e
   refine zab (oz.ld (shf:=zad) (coreX z) rfl ?_)
   refine zgj (zwu (by rw [epc];exact sa.told hp) fun c' e2=> ?_)
   refine zab (zgm1 o3 hp fun k4 o6=>hk k4 ?_)
   rw [e2,e] at o6
   exact o6
  ·dsimp only
   rw [if_neg (by decide)]
   rw [if_neg h5] at hk
   have o3:=putl _ _ _ o2
   obtain ⟨h1,z,a,l1,hz,oz,put⟩:=o3.procR hp
   exact zab (oz.st (zzz z 3) (by show 3+1<=15;omega) rfl fun k3 o4=>hk k3 (put _ _ _ (hz.state 3) rfl rfl o4))
theorem zdp2 {w:Int}:∀ {os:List Int} {i j:Nat},os[j]? =some w->((i+j:Nat):Int)∈hold w os i
 | [],_,j,h=>by simp at h
 | o::r,i,0,h=>by
  unfold hold
  grind
 | o::r,i,j+1,h=>by
  have h2:=zdp2 (i:=i+1) (j:=j) (os:=r) (w:=w) (by simpa using h)
  rw [show i+1+j=i+(j+1) by omega] at h2
  unfold hold
  grind
theorem zgi2 {p:Nat} {n:Int} {Q:Hp->Prop} (m:MkOk h0 K) (mc:CfgM K.c) (o:Has h0 (MachA K pm s tm) k) (sa:Sane K.c s) (hp:p<nQ K.c) (hn:0<=n/\n<K.c.locks)
  (hk:∀k',Has h0 (MachA K pm (zuo K.c s p n) tm) k'->Q k'):
 NilW none (some (K.q (pOf K.c p))) fun p8=>
 LdW none shPtr k (Addr.add p8 5) fun x7=>
 NilW none (some (K.p p)) fun p9=>
 LdW none (shInt .i64) k (Addr.add p9 0) fun x8=>
 CallT Tryz.prog zfu [(.pointer x7),(.int .i64 x8)] shSl (fun r2 h4=>
 ((True/\True)/\CallT Tryz.prog zcy [r2.v,(.int .i64 n)] zae (fun r3 h5=>
 (if r3=true then
 NilW none (some (K.q (pOf K.c p))) fun p10=>
 LdW none shPtr h5 (Addr.add p10 5) fun x9=>
 NilW none (some (K.p p)) fun p11=>
 LdW none (shInt .i64) h5 (Addr.add p11 0) fun x10=>
 Call2 Tryz.prog zef [(.pointer x9),(.int .i64 n),(.int .i64 x10)] (shInt .i64) (shInt .i64) (fun r4 r5 h6=>
 Call0 Tryz.prog zbf [(.pointer (some pm)),(.int .i64 r4)] (fun h7=>
 Q h7) h6) h5
 else
 Q h5)) h4)) k:=by
  have hi:pOf K.c p<nP K.c:=mc.pOf_lt
  have si:=sa.part _ hi
  have hq1:=si.quel
  have hown:=si.ownl
  have hfew:=si.few.1
  obtain ⟨h3,x4,lp4,wp4,l4,hx4,ox4,ol,putl⟩:=o.partL hi
  have el:x4.locks=some lp4:=hx4.2.2.2.2.1
  obtain ⟨h10,z10,a10,l10,hz10,oz10,_⟩:=o.procR hp
  refine zab (ox4.ld (shf:=shPtr) x4.locks rfl ?_)
  refine zab (oz10.ld (shf:=shInt .i64) z10.id_ rfl ?_)
  have ei10:z10.id_=(p:Int):=hz10.1
  rw [el,ei10]
  have hnl:n.toNat<(s.part (pOf K.c p)).queues.length:=by omega
  have en:((n.toNat:Nat):Int)=n:=by omega
  have hqn:=List.getElem?_eq_getElem hnl
  have hon:=List.getElem?_eq_getElem (show n.toNat<(s.part (pOf K.c p)).owners.length by omega)
  generalize (s.part (pOf K.c p)).queues[n.toNat]=q at hqn
  generalize (s.part (pOf K.c p)).owners[n.toNat]=ow at hon
  unfold zuo at hk
  dsimp only at hk
  rw [zhm hon,zhm hqn] at hk
  refine zmo (zxg1 ol (by omega) (by omega) fun sl k2 o2=> ?_)
  have o3:Has h0 ((MachA K pm s tm).star (SlA 1 eNum sl (hold (p:Int) (s.part (pOf K.c p)).owners 0))) k2:=o2.carry fun k' o'=>by
   have h4:=putl _ _ k' o'
   have e:s.setI (pOf K.c p) {s.part (pOf K.c p) with owners:=(s.part (pOf K.c p)).owners,queues:=(s.part (pOf K.c p)).queues}=s:=zol1
   rwa [e] at h4
  obtain ⟨h6,l6,o7,hr⟩:=o3.aside (fun _=>rfl)
  refine ⟨⟨trivial,trivial⟩,?_⟩
  have hlen:(hold (p:Int) (s.part (pOf K.c p)).owners 0).length<=1000000:=by
   have:∀(os:List Int) (i:Nat),(hold (p:Int) os i).length<=os.length:=by
    intro os
    induction os with
    | nil=>intro i;exact Nat.le_refl _
    | cons a r ih=>
     intro i
     have:=ih (i+1)
     unfold hold
     split<;>simp<;>omega
   grind
  refine zho (zjv1 (Rw.mono o7.le hr) hlen ?_)
  have hiff:n∈hold (p:Int) (s.part (pOf K.c p)).owners 0↔ow=(p:Int):=by
   constructor
   ·intro h
    obtain ⟨j,e1,e2⟩:=zas1 h
    grind
   ·intro h
    subst h
    have:=zdp2 (i:=0) hon
    grind
  by_cases h:ow=(p:Int)
  ·rw [if_pos (decide_eq_true (hiff.2 h))]
   rw [if_pos h] at hk
   subst h
   have m6:=m.mono l6
   obtain ⟨h13,x14,lp14,wp14,l14,hx14,ox14,ol14,putl14⟩:=o7.partL hi
   have el14:x14.locks=some lp14:=hx14.2.2.2.2.1
   obtain ⟨h20,z20,a20,l20,hz20,oz20,_⟩:=o7.procR hp
   refine zab (ox14.ld (shf:=shPtr) x14.locks rfl ?_)
   refine zab (oz20.ld (shf:=shInt .i64) z20.id_ rfl ?_)
   have ei20:z20.id_=(p:Int):=hz20.1
   rw [el14,ei20]
   have key:=zde2 (n:=n.toNat) (w:=(p:Int)) (Q:=fun r4 (r5:Int) h6=>Call0 Tryz.prog zbf [(.pointer (some pm)),(.int .i64 r4)] (fun h7=>Q h7) h6) ol14 (by omega) hon hqn (fun h5 k2 o2=> ?_) fun a r h5 k2 o2=> ?_
   ·rw [en] at key
    exact znx key
   ·subst h5
    have o4:=putl14 _ _ _ o2
    refine zeb (zoj1 m6 o4 (fun h=>absurd h (by decide)) fun k4 o5=> ?_)
    have o5:Has h6 (MachA K pm (s.setI (pOf K.c p) {s.part (pOf K.c p) with owners:=(s.part (pOf K.c p)).owners.set n.toNat (-1),queues:=(s.part (pOf K.c p)).queues}) tm) k4:=o5
    exact hk k4 (o5.mono l6)
   ·subst h5
    have o4:=putl14 _ _ _ o2
    have ha:0<=a/\a<(nQ K.c:Int):=(si.nd _ (List.mem_of_getElem? hqn)).2 a (List.mem_cons_self ..)
    refine zeb (zoj1 m6 o4 (fun h=>⟨ha.2,?_⟩) fun k4 o5=>hk k4 (o5.mono l6))
    exact sa.told (by omega)
  ·rw [if_neg (fun e=>h (hiff.1 (of_decide_eq_true e)))]
   rw [if_neg h] at hk
   exact hk _ (o7.mono l6)
theorem zrg2 {p:Nat} {v:Int} {Q:Hp->Prop} (m:MkOk h0 K) (mc:CfgM K.c) (o:Has h0 (MachA K pm s tm) k) (sa:Sane K.c s) (hp:p<nQ K.c)
  (hk:∀k',Has h0 (MachA K pm (outS K.c s p v) tm) k'->Q k'):
 NilW none (some (K.q (pOf K.c p))) fun p8=>
 LdW none shSl k (Addr.add p8 2) fun x7=>
 NilW none (some pm) fun p9=>
 LdW none (shInt .i64) k (Addr.add (Addr.add p9 0) 5) fun x8=>
 (if (decide (((x7.len:Nat):Int)<x8))=true then
 NilW none (some (K.q (pOf K.c p))) fun p10=>
 LdW none shSl k (Addr.add p10 2) fun x9=>
 NilW none (some pm) fun p11=>
 LdW none (shInt .i64) k (Addr.add p11 9) fun x10=>
 NilW none (some (K.p p)) fun p12=>
 LdW none (shInt .i64) k (Addr.add p12 0) fun x11=>
 NewW [(.int .i64 x10),(.int .i64 x11),(.int .i64 v)] (fun a h4=>
 (((LdIs h4 (Addr.add p10 2) [x9.v])/\True)/\zai 3 24 [(.int .i64 (0:Int)),(.int .i64 (0:Int)),(.int .i64 (0:Int))] x9 ⟨(some a),1,1⟩ (fun r2 h5=>
 NilW none (some (K.q (pOf K.c p))) fun p13=>
 StW h5 (Addr.add p13 2) [r2.v] (fun h6=>
 Q h6)) h4)) k
 else
 NilW none (some (K.q (pOf K.c p))) fun p10=>
 LdW none (shInt .i64) k (Addr.add p10 3) fun x9=>
 CallT Tryz.prog znq [(.int .i64 x9)] (shInt .i64) (fun r2 h4=>
 NilW none (some (K.q (pOf K.c p))) fun p11=>
 StW h4 (Addr.add p11 3) [(.int .i64 r2)] (fun h5=>
 Q h5)) k):=by
  have hi:pOf K.c p<nP K.c:=mc.pOf_lt
  have si:=sa.part _ hi
  have hlog:=si.logl
  obtain ⟨h1,x,lp,wp,l1,hx,o1,put⟩:=o.partX hi
  have ox:=Has.left o1
  refine zab (ox.ld (shf:=shSl) x.log rfl ?_)
  have el:(cfgX K.x).Log=K.c.log:=m.cfg.log
  have el:K.x.c_Log=K.c.log:=el
  refine zab ?_
  rw [zmr]
  refine o.rec1.ld (shf:=shInt .i64) K.x.c_Log rfl ?_
  have hsl:=o1.right.left.slen
  unfold outS at hk
  dsimp only at hk
  rw [el,hsl]
  by_cases h:((s.part (pOf K.c p)).log.length:Int)<K.c.log
  ·rw [if_pos (decide_eq_true h)]
   rw [if_pos h] at hk
   obtain ⟨h2,z,a,l2,hz,oz,_⟩:=o.procR hp
   refine zab (ox.ld (shf:=shSl) x.log rfl ?_)
   refine zab (o.rec1.ld (shf:=shInt .i64) s.tick rfl ?_)
   refine zab (oz.ld (shf:=shInt .i64) z.id_ rfl ?_)
   have ei:z.id_=(p:Int):=hz.1
   rw [ei]
   obtain ⟨h3,l3,o3,put3⟩:=o1.f2
   have key:=o3.push (sz:=3) (zero:=[(.int .i64 (0:Int)),(.int .i64 (0:Int)),(.int .i64 (0:Int))]) (bytes:=24) (e:=(⟨s.tick,(p:Int),v⟩:zfc1)) (cs:=[(.int .i64 s.tick),(.int .i64 (p:Int)),(.int .i64 v)]) rfl (fun _=>rfl) (fun _=>rfl) rfl ⟨by omega,by omega⟩
    (K:=fun r2 h5=>NilW none (some (K.q (pOf K.c p))) fun p13=>
 StW h5 (Addr.add p13 2) [r2.v] (fun h6=>
 Q h6)) fun l' k2 o4=> ?_
   ·exact fun b t hb=>⟨⟨zbl (zcu hb) (ox.ldis (n:=1) rfl),trivial⟩,key b t hb⟩
   ·have o5:=put3 _ _ o4
    obtain ⟨h6,l6,o6,put6⟩:=o5.f1
    refine zab (o6.st (⟨x.procs,x.cursor,l',x.lost,x.forbidden,x.locks,x.wheel⟩:S_machine_part) (by show 2+1<=7;omega) rfl fun k3 o7=>hk k3 ?_)
    have o8:=put6 _ _ o7
    have:=put (⟨x.procs,x.cursor,l',x.lost,x.forbidden,x.locks,x.wheel⟩:S_machine_part) {s.part (pOf K.c p) with log:=(s.part (pOf K.c p)).log++ [⟨s.tick,(p:Int),v⟩]} (tm (pOf K.c p)) k3 hx o8
    rw [zlg] at this
    exact this
  ·rw [if_neg (fun e=>h (of_decide_eq_true e))]
   rw [if_neg h] at hk
   refine zab (ox.ld (shf:=shInt .i64) x.lost rfl ?_)
   have ex:x.lost=(s.part (pOf K.c p)).lost:=hx.2.2.1
   rw [ex]
   refine zty (zdj2 si.lost ?_)
   obtain ⟨h6,l6,o6,put6⟩:=o1.f1
   refine zab (o6.st (⟨x.procs,x.cursor,x.log,more (s.part (pOf K.c p)).lost,x.forbidden,x.locks,x.wheel⟩:S_machine_part) (by show 3+1<=7;omega) rfl fun k3 o7=>hk k3 ?_)
   have o8:=put6 _ _ o7
   have:=put (⟨x.procs,x.cursor,x.log,more (s.part (pOf K.c p)).lost,x.forbidden,x.locks,x.wheel⟩:S_machine_part) {s.part (pOf K.c p) with lost:=more (s.part (pOf K.c p)).lost} (tm (pOf K.c p)) k3 ⟨hx.1,hx.2.1,rfl,hx.2.2.2⟩ o8
   rw [zlg] at this
   exact this
end
def zhr (c:PCfg) (s:MS) (i id:Nat):Int:=if id / 2<nQ c/\pOf c (id / 2)=i then (if id%2=0 then (s.proc (id / 2)).timer else (s.proc (id / 2)).wake) else 0
def Tied (c:PCfg) (tm:Nat->Nat->Int) (s:MS):Prop:=∀i id,i<nP c->tm i id=zhr c s i id
def TW (s:MS):Nat->Int×Int:=fun q=>((s.proc q).timer,(s.proc q).wake)
section
variable {c:PCfg} {s s':MS} {tm:Nat->Nat->Int} {p:Nat} {y:PProcess}
theorem zii (h:(y.timer,y.wake)=((s.proc p).timer,(s.proc p).wake)):TW (s.setP p y)=TW s:=by
 funext q
 unfold TW
 by_cases e:q=p
 ·subst e;rw [zaj,h]
 ·rw [zau e]
theorem zac1 {v:Int}:TW (toldS c s p v)=TW s:=zii rfl
theorem zrh2 :TW (goesS s p)=TW s:=zii rfl
theorem zdq2 {who:Int}:TW (zck s who)=TW s:=by
 unfold zck
 split
 ·exact zrh2
 ·rfl
theorem zat2 {q:Nat} (h:(y.timer,y.wake)=((s.proc q).timer,(s.proc q).wake)):TW (s.setP q (wakeX y))=TW s:=zii h
theorem zri2 {to v:Int} {fl:Nat->Nat->Bool}:TW (sendS c fl s p to v)=TW s:=by
 unfold sendS
 split
 ·exact zac1
 split
 ·exact zac1
 split
 ·split
  ·exact zac1
  split
  ·dsimp only
   have e:TW (s.setP to.toNat (laneX (s.proc to.toNat) (pOf c p) (waitL p v)))=TW s:=zii rfl
   rw [<-e]
   exact zii rfl
  ·rw [zac1];exact zat2 rfl
 split
 ·rw [zac1];exact zii rfl
 ·rw [zac1];exact zat2 rfl
theorem zke2 {t:Bool}:TW (takeS c s p t)=TW s:=by
 unfold takeS
 dsimp only
 split
 ·split
  ·exact zii rfl
  ·rw [zac1];exact zii rfl
 ·split
  ·exact zii rfl
  split
  ·exact zii rfl
  ·exact zii rfl
theorem zrj2 {n:Int}:TW (lockS c s p n)=TW s:=by
 unfold lockS
 dsimp only
 split
 ·unfold lockS.goK
  exact zii rfl
 ·exact zii rfl
theorem zkf2 {n:Int}:TW (zuo c s p n)=TW s:=by
 unfold zuo
 dsimp only
 split
 ·split
  ·rfl
  ·exact zdq2
 ·rfl
theorem zsr2 {v:Int}:TW (outS c s p v)=TW s:=rfl
theorem Tied.keep (t:Tied c tm s) (h:TW s'=TW s):Tied c tm s':=fun i id hi=>by
 have:=congrFun h (id / 2)
 have e1:(s'.proc (id / 2)).timer=(s.proc (id / 2)).timer:=congrArg Prod.fst this
 have e2:(s'.proc (id / 2)).wake=(s.proc (id / 2)).wake:=congrArg Prod.snd this
 rw [t i id hi]
 unfold zhr
 rw [e1,e2]
theorem Tied.set (t:Tied c tm s) (hp:p<nQ c) {id:Nat} {v:Int} (hid:id=2*p\/id=2*p+1) (h:∀q,TW s' q=if q=p then (if id=2*p then (v,(s.proc p).wake) else ((s.proc p).timer,v)) else TW s q):Tied c (fset tm (pOf c p) (fset (tm (pOf c p)) id v)) s':=fun i jd hi=>by
 have hh:=h (jd / 2)
 by_cases e:jd / 2=p
 ·rw [if_pos e] at hh
  unfold zhr
  by_cases ei:pOf c p=i
  ·subst ei
   rw [zbx]
   have htm:=t _ jd hi
   unfold zhr at htm
   rw [if_pos ⟨by omega,by rw [e]⟩] at htm ⊢
   rcases hid with rfl | rfl
   ·rw [if_pos rfl] at hh
    by_cases ej:jd=2*p
    ·subst ej
     rw [zbx,if_pos (by omega)]
     exact (congrArg Prod.fst hh).symm
    ·rw [zbq ej,if_neg (by omega)]
     rw [if_neg (by omega)] at htm
     rw [htm,e]
     rw [e] at hh
     exact (congrArg Prod.snd hh).symm
   ·rw [if_neg (by omega)] at hh
    by_cases ej:jd=2*p+1
    ·subst ej
     rw [zbx,if_neg (by omega)]
     exact (congrArg Prod.snd hh).symm
    ·rw [zbq ej,if_pos (by omega)]
     rw [if_pos (by omega)] at htm
     rw [htm,e]
     rw [e] at hh
     exact (congrArg Prod.fst hh).symm
  ·rw [zbq (Ne.symm ei)]
   have htm:=t _ jd hi
   unfold zhr at htm
   grind
 ·rw [if_neg e] at hh
  have hx:fset tm (pOf c p) (fset (tm (pOf c p)) id v) i jd=tm i jd:=by
   by_cases ei:i=pOf c p
   ·subst ei
    rw [zbx,zbq (by omega)]
   ·rw [zbq ei]
  rw [hx,t i jd hi]
  unfold zhr
  have e1:(s'.proc (jd / 2)).timer=(s.proc (jd / 2)).timer:=congrArg Prod.fst hh
  have e2:(s'.proc (jd / 2)).wake=(s.proc (jd / 2)).wake:=congrArg Prod.snd hh
  rw [e1,e2]
theorem zxo1 :∀ {l:List Int} {s:MS},TW (l.foldl zck s)=TW s
 | [],s=>rfl
 | a::l,s=>by rw [List.foldl_cons,zxo1,zdq2]
theorem zdr2 {v:Int}:∀ {l:List zdi} {s:MS},TW (l.foldl (fun s w=>toldS c s w.proc.toNat v) s)=TW s
 | [],s=>rfl
 | a::l,s=>by rw [List.foldl_cons,zdr2,zac1]
theorem zss2 {st:Int} (q:Nat):TW (endS c s p st) q=if q=p then (0,0) else TW s q:=by
 rw [zut1]
 unfold end7
 rw [zdr2]
 have e6:TW (end6 (end5 (end4 c (end2 c s p st) p) p) p)=TW (end5 (end4 c (end2 c s p st) p) p):=zii rfl
 rw [e6]
 have e4:TW (end4 c (end2 c s p st) p)=TW s:=by
  unfold end4
  rw [zxo1]
  have e3:TW (end3 c (end2 c s p st) p)=TW (end2 c s p st):=rfl
  rw [e3]
  have e1:TW (end1 s p st)=TW s:=zii rfl
  rw [<-e1]
  funext r
  show ((if r∈_ then zoq p _ else _:PProcess).timer,(if r∈_ then zoq p _ else _:PProcess).wake)=_
  split<;>rfl
 by_cases e:q=p
 ·subst e
  rw [if_pos rfl]
  unfold TW end5
  rw [zaj]
 ·rw [if_neg e,<-e4]
  unfold TW end5
  rw [zau e]
theorem Tied.ended {st:Int} (t:Tied c tm s) (hp:p<nQ c):Tied c (endTm tm (pOf c p) p) (endS c s p st):=by
 have h1:=t.set (s':=s.setP p {s.proc p with timer:=0}) hp (id:=2*p) (v:=0) (.inl rfl) fun q=>by
  unfold TW
  by_cases e:q=p
  ·subst e;rw [zaj,if_pos rfl,if_pos rfl]
  ·rw [zau e,if_neg e]
 have h2:=h1.set (s':=endS c s p st) hp (id:=2*p+1) (v:=0) (.inr rfl) fun q=>by
  rw [zss2]
  by_cases e:q=p
  ·subst e;rw [if_pos rfl,if_pos rfl,if_neg (by omega),zaj]
  ·rw [if_neg e,if_neg e]
   unfold TW
   rw [zau e]
 rw [zbx,ztd] at h2
 exact h2
end
theorem zob2 {D:Int->Int->Int->Int} {l:List PIns} {k:Core} {tk self:Int} (h0:0<=k.pc/\k.pc<=1000) (hr:k.regs.length=8) (hl:l.length<=256):0<=(stepP D l k tk self).1.pc/\(stepP D l k tk self).1.pc<=1000:=by
 rcases zur1 (D:=D) (l:=l) (k:=k) (tk:=tk) (self:=self) with ⟨_,e⟩ | ⟨n,hn,hw,⟨_,e⟩ | ⟨w,st,_,e⟩⟩
 ·rw [e];exact h0
 ·rw [e]
  have:=(zxj1 (D:=D) (tk:=tk) (self:=self) hn hw hr).1
  grind
 ·rw [e]
  have hlt:0<=k.pc/\k.pc<l.length:=zaa1 (c:=⟨[],[],0,0,0,0,[⟨0,l⟩]⟩) (p:=0) (x:=⟨0,k.pc,[],0,0,false,0,[]⟩) hn
  cases st
  ·show 0<=k.pc+1/\k.pc+1<=1000;omega
  ·exact h0
section
variable {h0 h1 k:Hp} {K:MK} {pm:Addr} {s:MS} {tm:Nat->Nat->Int}
theorem zoc2 {p:Nat} {Q:Hp->Prop} (tk:zlj1) (m:MkOk h0 K) (mc:CfgM K.c) (o:Has h0 (MachA K pm s tm) k) (sa:Sane K.c s) (hp:p<nQ K.c) (ht:0<=s.tick/\s.tick<=4611686018427387904) (hr:(s.proc p).regs.length=8)
  (hw:∀q,q<nQ K.c->∀l∈(s.proc q).lanes,∀z∈l.waiters,z.proc≠(p:Int)) (hqs:∀q∈(s.part (pOf K.c p)).queues,(p:Int)∉q) (td:Tied K.c tm s)
  (hk:∀tm' k',Has h0 (MachA K pm (doS K.c cpuD (flC K.c) s p) tm') k'->Tied K.c tm' (doS K.c cpuD (flC K.c) s p)->Q k'):zhi Tryz.prog (some pm) (some (K.p p)) Q k:=by
 unfold zhi
 have hi:pOf K.c p<nP K.c:=mc.pOf_lt
 obtain ⟨h1,z,a,l1,hz,oz,put⟩:=o.procR hp
 have e:zaz (coreX z)=(s.proc p).core:=hz.2.2.2.2.1
 have ei:z.id_=(p:Int):=hz.1
 refine zab (oz.ld (shf:=zad) (coreX z) rfl ?_)
 refine zab (oz.ld (shf:=shSl) z.code rfl ?_)
 refine zab (o.rec1.ld (shf:=shInt .i64) s.tick rfl ?_)
 refine zab (oz.ld (shf:=shInt .i64) z.id_ rfl ?_)
 rw [ei]
 have hcode:=(m.code p hp).2
 have hclen:(zcj K.c p).length<=256:=mc.code_len
 have hilen:(K.ins p).length<=256:=by
  have:=congrArg List.length hcode
  rw [List.length_map] at this
  omega
 refine ztz1 (znt2 (m.insAt o.le hp hz) (by omega) fun c' w k1 l2 ec ew=> ?_)
 rw [hcode,e] at ec ew
 refine zab (zgm1 (o.grow l2) hp fun k2 o2=> ?_)
 rw [ec] at o2
 have sp:=sa.proc p hp
 have hstep:=zob2 (D:=cpuD) (l:=zcj K.c p) (k:=(s.proc p).core) (tk:=s.tick) (self:=(p:Int)) sp.pc hr hclen
 have hlk:(w.Kind=7\/w.Kind=8)->0<=w.To/\w.To<K.c.locks:=by
  intro h
  rcases zur1 (D:=cpuD) (l:=zcj K.c p) (k:=(s.proc p).core) (tk:=s.tick) (self:=(p:Int)) with ⟨e1,_⟩ | ⟨n,hn,hwr,⟨_,e1⟩ | ⟨w',st,hwt,e1⟩⟩
  ·rw [<-ew] at e1
   have:w.Kind=1:=e1
   omega
  ·rw [e1] at ew
   have:w.Kind=0:=congrArg Want.kind ew
   omega
  ·rw [e1] at ew
   have ew:zoh1 w=w':=ew
   subst ew
   have hins:insX K.c p (s.proc p)=some n:=hn
   have hwl:=(mc.ins hins).1
   rcases zxi1 hwt with ⟨a,_⟩ | ⟨_,a,_⟩ | ⟨_,a,_⟩ | ⟨_,a,_⟩ | ⟨a,_⟩ | ⟨_,a,_⟩ | ⟨b,a,d,_⟩ | ⟨b,a,d,_⟩ | ⟨a,_⟩
   ·have a:w.Kind=1:=a;omega
   ·have a:w.Kind=2:=congrArg Want.kind a;omega
   ·have a:w.Kind=3:=a;omega
   ·have a:w.Kind=4:=a;omega
   ·have a:w.Kind=5:=a;omega
   ·have a:w.Kind=6:=a;omega
   ·have d:w.To=n.imm:=d
    rw [d];exact zau1 hwl (.inl b)
   ·have d:w.To=n.imm:=d
    rw [d];exact zau1 hwl (.inr b)
   ·have a:w.Kind=9:=a;omega
 unfold doS at hk
 dsimp only at hk
 rw [<-ew] at hk
 generalize hg:(stepP cpuD (zcj K.c p) (s.proc p).core s.tick (p:Int)).1=cr at*
 have sa1:Sane K.c (s.setP p ((s.proc p).put cr)):=by
  refine ⟨fun q hq=> ?_,sa.part⟩
  by_cases eq:q=p
  ·subst eq;rw [zaj];exact ⟨hstep,sp.len,sp.cur,sp.lan⟩
  ·rw [zau eq];exact sa.proc q hq
 have td1:Tied K.c tm (s.setP p ((s.proc p).put cr)):=td.keep (zii rfl)
 have hw1:∀q,q<nQ K.c->∀l∈((s.setP p ((s.proc p).put cr)).proc q).lanes,∀z∈l.waiters,z.proc≠(p:Int):=fun q hq l hl=>by
  have:((s.setP p ((s.proc p).put cr)).proc q).lanes=(s.proc q).lanes:=by
   by_cases eq:q=p
   ·subst eq;rw [zaj];rfl
   ·rw [zau eq]
  rw [this] at hl
  exact hw q hq l hl
 generalize hs1:s.setP p ((s.proc p).put cr)=s1 at*
 have et1:s1.tick=s.tick:=by rw [<-hs1];rfl
 have ep1:s1.part=s.part:=by rw [<-hs1];rfl
 obtain ⟨h3,z3,a3,l3,hz3,oz3,_⟩:=o2.procR hp
 obtain ⟨g1,g2⟩:=m.ptrI o2 hi
 refine zab (o2.rec1.ld (shf:=shSl) K.x.parts rfl ?_)
 refine zab (oz3.ld (shf:=shInt .i64) z3.part rfl ?_)
 have ep:z3.part=(pOf K.c p:Int):=hz3.2.1
 rw [ep]
 refine ⟨g1,some (K.q (pOf K.c p)),g2,?_⟩
 dsimp only
 have kk:∀n:Int,(w.Kind==n)=true↔w.Kind=n:=fun n=>by simp
 have ek:(zoh1 w).kind=w.Kind:=rfl
 have eto:(zoh1 w).to=w.To:=rfl
 have ev:(zoh1 w).value=w.Value_:=rfl
 rw [ek,eto,ev] at hk
 by_cases k1':w.Kind=1
 ·rw [if_pos ((kk 1).2 k1')];simp only [if_pos k1'] at hk
  exact zjy (zdo2 m mc o2 sa1 hp fun k' o'=>hk _ k' o' (td1.ended hp))
 rw [if_neg (fun h=>k1' ((kk 1).1 h))];simp only [if_neg k1'] at hk
 by_cases k2':w.Kind=2
 ·rw [if_pos ((kk 2).2 k2')];simp only [if_pos k2'] at hk
  exact zrc (zjx2 m mc o2 sa1 hp hw1 fun k' o'=>hk _ k' o' (td1.keep zri2))
 rw [if_neg (fun h=>k2' ((kk 2).1 h))];simp only [if_neg k2'] at hk
 by_cases k3':w.Kind=3
 ·simp only [if_pos k3'] at hk
  refine JoinW1.direct ?_
  rw [if_pos ((kk 3).2 k3')]
  dsimp only
  rw [if_pos ((kk 3).2 k3'),show (w.Kind==4)=false by rw [k3'];rfl]
  exact zjb (zxn1 tk m mc o2 sa1 hp fun k' o'=>hk _ k' o' (td1.keep zke2))
 simp only [if_neg k3'] at hk
 by_cases k4':w.Kind=4
 ·simp only [if_pos k4'] at hk
  refine JoinW1.direct ?_
  rw [if_neg (fun h=>k3' ((kk 3).1 h))]
  dsimp only
  rw [if_pos ((kk 4).2 k4'),(kk 4).2 k4']
  exact zjb (zxn1 tk m mc o2 sa1 hp fun k' o'=>hk _ k' o' (td1.keep zke2))
 simp only [if_neg k4'] at hk
 refine JoinW1.direct ?_
 rw [if_neg (fun h=>k3' ((kk 3).1 h))]
 dsimp only
 rw [if_neg (fun h=>k4' ((kk 4).1 h))]
 by_cases k5':w.Kind=5
 ·rw [if_pos ((kk 5).2 k5')];simp only [if_pos k5'] at hk
  refine zkc2 m mc o2 hp (by rw [et1];exact ht) fun k' o'=> ?_
  refine hk (timTm tm (pOf K.c p) p s1.tick w.Value_) k' ?_ ?_
  ·rw [zkw,zno] at o' ⊢
   rw [et1] at o' ⊢
   exact o'
  ·refine td1.set hp (.inl rfl) fun q=> ?_
   unfold TW
   by_cases eq:q=p
   ·subst eq;rw [zaj,if_pos rfl,if_pos rfl,et1]
   ·rw [zau eq,if_neg eq]
 rw [if_neg (fun h=>k5' ((kk 5).1 h))];simp only [if_neg k5'] at hk
 by_cases k6':w.Kind=6
 ·rw [if_pos ((kk 6).2 k6')];simp only [if_pos k6'] at hk
  refine zkd2 m mc o2 hp (by rw [et1];exact ht) fun k' o'=> ?_
  refine hk (fset tm (pOf K.c p) (fset (tm (pOf K.c p)) (2*p+1) (s1.tick+mnI (mxI w.Value_ 1) 1099511627776))) k' ?_ ?_
  ·rw [zkw,zno] at o' ⊢
   exact o'
  ·refine td1.set hp (.inr rfl) fun q=> ?_
   unfold TW
   by_cases eq:q=p
   ·subst eq;rw [zaj,if_pos rfl,if_neg (by omega),et1]
   ·rw [zau eq,if_neg eq]
 rw [if_neg (fun h=>k6' ((kk 6).1 h))];simp only [if_neg k6'] at hk
 by_cases k7':w.Kind=7
 ·rw [if_pos ((kk 7).2 k7')];simp only [if_pos k7'] at hk
  exact zoa2 m mc o2 sa1 hp (hlk (.inl k7')) (by rw [ep1];exact hqs) fun k' o'=>hk _ k' o' (td1.keep zrj2)
 rw [if_neg (fun h=>k7' ((kk 7).1 h))];simp only [if_neg k7'] at hk
 by_cases k8':w.Kind=8
 ·rw [if_pos ((kk 8).2 k8')];simp only [if_pos k8'] at hk
  exact zgi2 m mc o2 sa1 hp (hlk (.inr k8')) fun k' o'=>hk _ k' o' (td1.keep zkf2)
 rw [if_neg (fun h=>k8' ((kk 8).1 h))];simp only [if_neg k8'] at hk
 by_cases k9':w.Kind=9
 ·rw [if_pos ((kk 9).2 k9')];simp only [if_pos k9'] at hk
  exact zrg2 m mc o2 sa1 hp fun k' o'=>hk _ k' o' (td1.keep zsr2)
 grind
end
def wakeD (x:PProcess):PProcess:={x with wake:=0,state:=0,pc:=x.pc+1}
def firD (x:PProcess):PProcess:={x with timer:=0,fired:=true,state:=if x.state=1 then 0 else x.state}
def dueD (ds:List Int) (q:Nat) (x:PProcess):PProcess:=
 if ((2*q:Nat):Int)∈ds then firD (if ((2*q+1:Nat):Int)∈ds then wakeD x else x) else (if ((2*q+1:Nat):Int)∈ds then wakeD x else x)
def dueN (s:MS) (ds:List Int):MS:=⟨s.tick,s.part,fun q=>dueD ds q (s.proc q)⟩
theorem zkg2 {t:Int} {x:PProcess}:dueX t x=(if 0<x.timer/\x.timer<=t then firD (if 0<x.wake/\x.wake<=t then wakeD x else x) else (if 0<x.wake/\x.wake<=t then wakeD x else x)):=by
 unfold dueX
 dsimp only
 by_cases h:0<x.wake/\x.wake<=t
 ·simp only [if_pos h];rfl
 ·simp only [if_neg h];rfl
theorem zkh2 {ds:List Int} {q:Nat} {x:PProcess} (h:((2*q+1:Nat):Int)∉ds):dueD (ds++ [((2*q+1:Nat):Int)]) q x=wakeD (dueD ds q x):=by
 unfold dueD
 have h1:((2*q+1:Nat):Int)∈ds++ [((2*q+1:Nat):Int)]:=by simp
 have h2:((2*q:Nat):Int)∈ds++ [((2*q+1:Nat):Int)]↔((2*q:Nat):Int)∈ds:=by
  grind
 simp only [if_pos h1,if_neg h,h2]
 split
 ·unfold firD wakeD
  simp
 ·rfl
theorem zxp1 {ds:List Int} {q:Nat} {x:PProcess} (h:((2*q:Nat):Int)∉ds):dueD (ds++ [((2*q:Nat):Int)]) q x=firD (dueD ds q x):=by
 unfold dueD
 grind
theorem zgj2 {ds:List Int} {q:Nat} {x:PProcess} {id:Int} (h1:id≠((2*q:Nat):Int)) (h2:id≠((2*q+1:Nat):Int)):dueD (ds++ [id]) q x=dueD ds q x:=by
 unfold dueD
 grind
theorem zki2 {s:MS} {ds:List Int} {id:Int} {q:Nat} {y:PProcess} (h:id=((2*q:Nat):Int)\/id=((2*q+1:Nat):Int)) (hy:zka1 y=zka1 (dueD (ds++ [id]) q (s.proc q))):znn ((dueN s ds).setP q y)=znn (dueN s (ds++ [id])):=by
 rw [zno,hy]
 unfold znn dueN MS.setP
 congr 1
 funext r
 unfold fset
 by_cases e:r=q
 ·grind
 ·rw [if_neg e]
  show zka1 (dueD ds r (s.proc r))=zka1 (dueD (ds++ [id]) r (s.proc r))
  rw [zgj2 (by omega) (by omega)]
section
variable {h0 h1 k:Hp} {K:MK} {pm:Addr} {s:MS} {tm:Nat->Nat->Int}
theorem zod2 {c:PCfg} {i:Nat} {ids:List Int} (td:Tied c tm s) (hi:i<nP c) (hr:∀x∈ids,0<=x/\x<(2*nQ c:Nat)) (hm:∀j:Nat,(j:Int)∈ids↔0<tm i j/\tm i j<=s.tick):dueN s ids=dueS c s i:=by
 unfold dueN dueS
 congr 1
 funext q
 by_cases h:q<nQ c/\pOf c q=i
 ·rw [if_pos h,zkg2]
  unfold dueD
  have e1:tm i (2*q)=(s.proc q).timer:=by
   rw [td i _ hi];unfold zhr
   rw [show 2*q / 2=q by omega,if_pos h,if_pos (by omega)]
  have e2:tm i (2*q+1)=(s.proc q).wake:=by
   rw [td i _ hi];unfold zhr
   rw [show (2*q+1) / 2=q by omega,if_pos h,if_neg (by omega)]
  grind
 ·rw [if_neg h]
  have hz:∀j,j / 2=q->¬(j:Int)∈ids:=fun j hj hin=>by
   have h1:=(hm j).1 hin
   rw [td i _ hi] at h1
   unfold zhr at h1
   grind
  unfold dueD
  rw [if_neg (hz _ (by omega)),if_neg (hz _ (by omega))]
theorem Tied.due {c:PCfg} {i:Nat} (td:Tied c tm s) (hi:i<nP c):Tied c (fset tm i (popT (tm i) s.tick)) (dueS c s i):=fun j id hj=>by
 have key:∀x:PProcess,(dueX s.tick x).timer=(if 0<x.timer/\x.timer<=s.tick then 0 else x.timer)/\(dueX s.tick x).wake=(if 0<x.wake/\x.wake<=s.tick then 0 else x.wake):=fun x=>by
  rw [zkg2]
  by_cases h1:0<x.timer/\x.timer<=s.tick<;>by_cases h2:0<x.wake/\x.wake<=s.tick<;>simp [h1,h2,firD,wakeD]
 by_cases e:j=i
 ·subst e
  rw [zbx]
  unfold popT
  rw [td j id hj]
  unfold zhr
  by_cases h:id / 2<nQ c/\pOf c (id / 2)=j
  ·rw [if_pos h,if_pos h]
   have e1:(dueS c s j).proc (id / 2)=dueX s.tick (s.proc (id / 2)):=if_pos h
   rw [e1]
   by_cases h2:id%2=0
   ·rw [if_pos h2,if_pos h2];exact (key _).1.symm
   ·rw [if_neg h2,if_neg h2];exact (key _).2.symm
  omega
 ·rw [zbq e,td j id hj]
  unfold zhr
  by_cases h:id / 2<nQ c/\pOf c (id / 2)=j
  ·rw [if_pos h,if_pos h]
   have e1:(dueS c s i).proc (id / 2)=s.proc (id / 2):=if_neg (by rw [h.2];exact fun hx=>e hx.2)
   rw [e1]
  omega
theorem zrk2 {i:Nat} {Q:Hp->Prop} (m:MkOk h0 K) (mc:CfgM K.c) (o:Has h0 (MachA K pm s tm) k) (sa:Sane K.c s) (hi:i<nP K.c) (td:Tied K.c tm s)
  (hk:∀tm' k',Has h0 (MachA K pm (dueS K.c s i) tm') k'->Tied K.c tm' (dueS K.c s i)->Q k'):zid Tryz.prog (some pm) (some (K.q i)) Q k:=by
 unfold zid
 have hprocs:=mc.procs
 obtain ⟨h7,x7,lp7,wp7,l7,hx7,ox7,ow,putw⟩:=o.partW hi
 have ewh:x7.wheel=some wp7:=hx7.2.2.2.2.2
 refine zab (ox7.ld (shf:=shPtr) x7.wheel rfl ?_)
 refine zab (o.rec1.ld (shf:=shInt .i64) s.tick rfl ?_)
 rw [ewh]
 refine zbu1 (znn2 ow (by omega) fun sl k2 ids hr hnd hm o2=> ?_)
 have o3:Has h0 ((MachA K pm s (fset tm i (popT (tm i) s.tick))).star (SlA 1 eNum sl ids)) k2:=o2.carry fun k' o'=>putw _ k' o'
 obtain ⟨h6,l6,o7,hrw⟩:=o3.aside (fun _=>rfl)
 have m6:=m.mono l6
 have hidl:ids.length<=2*nQ K.c:=zgc1 (2*nQ K.c) ids hnd hr
 have hlen:=hrw.1
 refine LoopW1.intro (fun (t:Int) k'=>0<=t/\t<=(ids.length:Int)/\Has h6 (MachA K pm (dueN s (ids.take t.toNat)) (fset tm i (popT (tm i) s.tick))) k') (fun t _=>(ids.length-t).toNat) ⟨by omega,by omega,by
  have e:dueN s (ids.take (0:Int).toNat)=s:=by unfold dueN dueD;simp
  rw [e];exact o7⟩ ?_
 rintro t k' ⟨t0,t1,o'⟩
 by_cases h:t<(ids.length:Int)
 ·rw [if_pos (decide_eq_true (by omega))]
  refine JoinW0.direct ?_
  refine Rs.get (sh:=shInt .i64) (Rw.mono o'.le hrw) (fun _=>rfl) (by omega) t0 h fun (g:Int) hg1=> ?_
  have hgm:=hr g (List.mem_of_getElem? hg1)
  have hq:g.toNat / 2<nQ K.c:=by omega
  have hdiv:IntKind.wrap .i64 (Int.tdiv g 2)=((g.toNat / 2:Nat):Int):=by
   rw [Int.tdiv_eq_ediv_of_nonneg hgm.1,wrap64 (by omega) (by omega)]
   omega
  have hnot:g∉ids.take t.toNat:=by
   intro hin
   obtain ⟨hlt,he⟩:=List.getElem?_eq_some_iff.1 hg1
   have hsplit:ids=ids.take t.toNat++g::ids.drop (t.toNat+1):=by
    rw [<-he,List.getElem_cons_drop,List.take_append_drop]
   grind
  generalize hgq:g.toNat / 2=q at*
  obtain ⟨g1,g2⟩:=m6.ptr o' hq
  refine zab (o'.rec1.ld (shf:=shSl) K.x.procs rfl ⟨by decide,?_⟩)
  rw [hdiv]
  refine ⟨g1,some (K.p q),g2,?_⟩
  obtain ⟨h2,z,a,l2,hz,oz,put⟩:=o'.procR hq
  have ei:z.id_=(q:Int):=hz.1
  refine zab (oz.ld (shf:=shInt .i64) z.id_ rfl ?_)
  rw [ei]
  refine zeh (zll1 (by omega) ?_)
  have step:∀ {y:PProcess} {k3:Hp},zka1 y=zka1 (dueD (ids.take t.toNat++ [g]) q (s.proc q))->Has h6 (MachA K pm ((dueN s (ids.take t.toNat)).setP q y) (fset tm i (popT (tm i) s.tick))) k3->
    (0<=IntKind.wrap .i64 (t+1)/\IntKind.wrap .i64 (t+1)<=(ids.length:Int)/\Has h6 (MachA K pm (dueN s (ids.take (IntKind.wrap .i64 (t+1)).toNat)) (fset tm i (popT (tm i) s.tick))) k3)/\(ids.length-IntKind.wrap .i64 (t+1)).toNat<(ids.length-t).toNat:=by
   intro y k3 hy o3
   rw [wrap64 (by omega) (by omega)]
   refine ⟨⟨by omega,by omega,?_⟩,by omega⟩
   have e:(t+1).toNat=t.toNat+1:=by omega
   rw [e,List.take_add_one,hg1]
   show Has h6 (MachA K pm (dueN s (ids.take t.toNat++ [g])) _) k3
   rw [zkw,<-zki2 (q:=q) (y:=y) (by omega) hy,<-zkw]
   exact o3
  by_cases hs:g=((2*q+1:Nat):Int)
  ·rw [if_pos (by rw [hs];simp)]
   have epc0:((dueN s (ids.take t.toNat)).proc q).pc=(s.proc q).pc:=by
    show (dueD (ids.take t.toNat) q (s.proc q)).pc=_
    unfold dueD
    rw [if_neg (c:=((2*q+1:Nat):Int)∈_) (by grind)]
    split<;>rfl
   have e:zaz (coreX z)=((dueN s (ids.take t.toNat)).proc q).core:=hz.2.2.2.2.1
   have epc:(coreX z).PC=(s.proc q).pc:=(congrArg Core.pc e).trans epc0
   refine zab (oz.ld (shf:=zad) (coreX z) rfl ?_)
   refine zgj (zwu (by rw [epc];exact sa.told hq) fun c' e2=> ?_)
   refine zeq (zup1 o' hq fun k3 o3=>step ?_ o3)
   rw [e2,e,hs,zkh2 (by grind)]
   rfl
  ·rw [if_neg (by simpa using hs)]
   have hs2:g=((2*q:Nat):Int):=by omega
   refine zab (oz.st (zrn1 z true) (by show 13+1<=15;omega) rfl fun k3 o3=> ?_)
   have est:z.state=((dueN s (ids.take t.toNat)).proc q).state:=hz.2.2.2.1
   refine zab (o3.ld (shf:=shInt .i64) z.state rfl ?_)
   by_cases h1:z.state=1
   ·rw [if_pos (by rw [h1];rfl)]
    refine zab (o3.st (zzz (zrn1 z true) 0) (by show 3+1<=15;omega) rfl fun k4 o4=> ?_)
    refine step ?_ (put _ _ _ ((hz.fired true).state 0) rfl rfl o4)
    rw [hs2,zxp1 (by grind)]
    unfold firD
    rw [if_pos (by rw [<-h1,est];rfl)]
    rfl
   ·rw [if_neg (by simpa using h1)]
    refine step ?_ (put _ _ _ (hz.fired true) rfl rfl o3)
    rw [hs2,zxp1 (by grind)]
    unfold firD
    rw [if_neg (by rw [est] at h1;exact h1)]
    rfl
 ·rw [if_neg (fun e=>h (by grind))]
  have e:t.toNat=ids.length:=by omega
  rw [e,List.take_of_length_le (Nat.le_refl _),zod2 td hi hr hm] at o'
  exact hk _ k' (o'.mono l6) (td.due hi)
end
section
variable {c:PCfg} {fl:Nat->Nat->Bool} {s:MS} {T:Int} {p:Nat}
theorem zoe2 {q r:Nat} {y:PProcess} (h:y.state=(s.proc q).state\/((s.proc q).state=1/\y.state=0)):((s.setP q y).proc r).state=(s.proc r).state\/((s.proc r).state=1/\((s.setP q y).proc r).state=0):=by
 by_cases e:r=q
 ·subst e;rw [zaj];exact h
 ·rw [zau e];exact .inl rfl
theorem zau2 {x:PProcess}:(wakeX x).state=x.state\/(x.state=1/\(wakeX x).state=0):=by
 unfold wakeX
 by_cases h:x.state=1
 ·right;exact ⟨h,if_pos h⟩
 ·left;exact if_neg h
theorem zrl2 {q r:Nat} {y:PProcess} (e:y.pc=(s.proc q).pc):((s.setP q y).proc r).pc=(s.proc r).pc:=by
 by_cases h:r=q
 ·subst h;rw [zaj,e]
 ·rw [zau h]
theorem zds2 {q r:Nat} {y:PProcess} (e:y.pc=(s.proc q).pc):insX c r ((s.setP q y).proc r)=insX c r (s.proc r):=by
 unfold insX
 rw [zrl2 e]
theorem Good.tell (g:Good c fl s No No T) (hp:p<nQ c) (h0:(s.proc p).state=0) (hi:∃n,insX c p (s.proc p)=some n) (v:Int):Good c fl (toldS c s p v) No No T:=
 znr (g.told hp (zkb ⟨by omega,by omega⟩) (by omega) hi v)
theorem Good.send (m:CfgM c) (g:Good c fl s No No T) {to v:Int} {n:PIns} (hp:p<nQ c) (h0:(s.proc p).state=0) (hn:insX c p (s.proc p)=some n) (ho:n.op=24) (hb:regR (s.proc p).regs n.b=to) (hc:regR (s.proc p).regs n.c=v):Good c fl (sendS c fl s p to v) No No T:=by
 unfold sendS
 have hi:=m.pOf_lt (p:=p)
 by_cases h1:to<0\/(nQ c:Int)<=to
 ·rw [if_pos h1];exact g.tell hp h0 ⟨n,hn⟩ 1
 rw [if_neg h1]
 have hq:to.toNat<nQ c:=by omega
 have et:((to.toNat:Nat):Int)=to:=by omega
 by_cases h2:fl (pOf c p) (pOf c to.toNat)=false
 ·rw [if_pos h2]
  have pm:=g.part _ hi
  have g2:=g.parts (i:=pOf c p) (y:={s.part (pOf c p) with forbidden:=more (s.part (pOf c p)).forbidden}) ⟨pm.cur,pm.logl,pm.log,pm.lost,zgj1 pm.forb,pm.full,pm.ownl,pm.quel⟩ rfl rfl
  exact g2.tell hp h0 ⟨n,hn⟩ 0
 rw [if_neg h2]
 have hfl:fl (pOf c p) (pOf c to.toNat)=true:=by cases e:fl (pOf c p) (pOf c to.toNat)<;>simp [e] at h2 ⊢
 have lane:∀(f:PLane->PLane) (wk:Bool),(∀l,(s.proc to.toNat).lanes[pOf c p]? =some l->((f l).values.length:Int)<=c.lane/\Cnt (f l).taken/\Cnt (f l).dropped)->
   (∀l,(s.proc to.toNat).lanes[pOf c p]? =some l->(f l).waiters=l.waiters/\(l.waiters≠ []->(f l).values.length=l.values.length))->(wk=false->∀l,l.values=[]->(f l).values=[])->
   Good c fl (toldS c (s.setP to.toNat (if wk then wakeX (laneX (s.proc to.toNat) (pOf c p) f) else laneX (s.proc to.toNat) (pOf c p) f)) p 0) No No T:=by
  intro f wk hf hw h3
  have g2:=g.lane hq (i:=pOf c p) (f:=f) (fun l hl=>⟨(hf l hl).1,(hf l hl).2.1,(hf l hl).2.2,fun _ _=>hfl⟩) hw wk h3
  have epc:(if wk then wakeX (laneX (s.proc to.toNat) (pOf c p) f) else laneX (s.proc to.toNat) (pOf c p) f).pc=(s.proc to.toNat).pc:=by cases wk<;>rfl
  refine g2.tell hp ?_ ⟨n,?_⟩ 0
  ·have:(if wk then wakeX (laneX (s.proc to.toNat) (pOf c p) f) else laneX (s.proc to.toNat) (pOf c p) f).state=(s.proc to.toNat).state\/((s.proc to.toNat).state=1/\(if wk then wakeX (laneX (s.proc to.toNat) (pOf c p) f) else laneX (s.proc to.toNat) (pOf c p) f).state=0):=by
    cases wk
    ·exact .inl rfl
    ·exact zau2
   rcases zoe2 (r:=p) this with h | h
   ·rw [h];exact h0
   ·exact h.2
  ·rw [zds2 epc];exact hn
 have hln:∀l,(s.proc to.toNat).lanes[pOf c p]? =some l->(l.values.length:Int)<=c.lane/\Cnt l.taken/\Cnt l.dropped:=fun l hl=>by
  have:=(g.proc _ hq).lan _ l hl
  exact ⟨this.1,this.2.1,this.2.2.1⟩
 have hput:fullX c (s.proc to.toNat) (pOf c p)=false->Good c fl (toldS c (s.setP to.toNat (wakeX (laneX (s.proc to.toNat) (pOf c p) (inL v)))) p 0) No No T:=by
  intro hf
  have hnf:∀l,(s.proc to.toNat).lanes[pOf c p]? =some l->(l.values.length:Int)<c.lane:=fun l hl=>by
   unfold fullX at hf
   rw [hl] at hf
   have:=of_decide_eq_false hf
   omega
  refine lane (inL v) true (fun l hl=> ?_) (fun l hl=>⟨rfl,fun hne=> ?_⟩) (fun h=>by cases h)
  ·have h1:=hnf l hl
   have h2:=hln l hl
   refine ⟨?_,h2.2⟩
   show ((l.values++ [v]).length:Int)<=_
   rw [List.length_append,List.length_singleton]
   omega
  ·have:=((g.lan _ hq _ l hl).2.1 hne).2.2
   have:=hnf l hl
   omega
 have hmiss:Good c fl (toldS c (s.setP to.toNat (laneX (s.proc to.toNat) (pOf c p) missL)) p 0) No No T:=
  lane missL false (fun l hl=>⟨(hln l hl).1,(hln l hl).2.1,zgj1 (hln l hl).2.2⟩) (fun l hl=>⟨rfl,fun _=>rfl⟩) fun _ l hl=>hl
 by_cases h3:pOf c p=pOf c to.toNat
 ·rw [if_pos h3]
  by_cases h4:zcv (s.proc to.toNat)=false
  ·rw [if_pos h4];exact g.tell hp h0 ⟨n,hn⟩ 2
  rw [if_neg h4]
  by_cases h5:fullX c (s.proc to.toNat) (pOf c p)=true
  ·rw [if_pos h5]
   refine g.wait (v:=v) m hp hq h0 hn ho (by rw [hb,et]) hc h3 (by cases e:zcv (s.proc to.toNat)<;>simp [e] at h4 ⊢) fun l hl=> ?_
   have h6:=(hln l hl).1
   unfold fullX at h5
   rw [hl] at h5
   have:=of_decide_eq_true h5
   omega
  ·rw [if_neg h5]
   exact hput (by cases e:fullX c (s.proc to.toNat) (pOf c p)<;>simp [e] at h5 ⊢)
 rw [if_neg h3]
 by_cases h4:zcv (s.proc to.toNat)=false\/fullX c (s.proc to.toNat) (pOf c p)=true
 ·rw [if_pos h4];exact hmiss
 ·rw [if_neg h4]
  exact hput (by cases e:fullX c (s.proc to.toNat) (pOf c p)<;>simp [e] at h4 ⊢)
end
theorem zav2 {cursor:Int} {ls:List PLane} (hc:0<=cursor/\cursor<ls.length) (h:zcg1 cursor ls=none):∀l∈ls,l.values=[]:=by
 intro l hl
 obtain ⟨j,hj,he⟩:=List.getElem_of_mem hl
 unfold zcg1 at h
 rw [List.find?_eq_none] at h
 have h2:j∈(List.range ls.length).map fun k=>(cursor.toNat+k)%ls.length:=by
  refine List.mem_map.2 ⟨(j+ls.length-cursor.toNat)%ls.length,List.mem_range.2 (Nat.mod_lt _ (by omega)),?_⟩
  by_cases hle:cursor.toNat<=j
  ·have e1:j+ls.length-cursor.toNat=(j-cursor.toNat)+ls.length:=by omega
   rw [e1,Nat.add_mod_right,Nat.mod_eq_of_lt (show j-cursor.toNat<ls.length by omega),Nat.mod_eq_of_lt (by omega)]
   omega
  ·rw [Nat.mod_eq_of_lt (show j+ls.length-cursor.toNat<ls.length by omega)]
   have e1:cursor.toNat+(j+ls.length-cursor.toNat)=j+ls.length:=by omega
   rw [e1,Nat.add_mod_right,Nat.mod_eq_of_lt hj]
 grind
theorem zxq1 {cursor:Int} {ls:List PLane} {i:Nat} (h:zcg1 cursor ls=some i):∃l,ls[i]? =some l/\l.values≠ []:=by
 unfold zcg1 at h
 grind
section
variable {c:PCfg} {fl:Nat->Nat->Bool} {s:MS} {T:Int} {p:Nat} {t:Int} {x:PProcess} {z:Prop}
theorem ProcM.fire (pm:ProcM c fl t p z x):ProcM c fl t p z {x with fired:=false} where
 st:=pm.st
 pc:=pm.pc
 lnl:=pm.lnl
 cur:=pm.cur
 tim:=pm.tim
 wak:=pm.wak
 slp:=pm.slp
 dead:=fun h=>⟨(pm.dead h).1,rfl⟩
 lan:=pm.lan
 recv:=fun h=>⟨(pm.recv h).1,(pm.recv h).2.1,rfl⟩
 snd:=pm.snd
 lck:=pm.lck
 slpi:=pm.slpi
 regs:=pm.regs
theorem ProcM.cursor (pm:ProcM c fl t p z x) {n:Int} (h:0<=n/\n<x.lanes.length):ProcM c fl t p z {x with cursor:=n} where
 st:=pm.st
 pc:=pm.pc
 lnl:=pm.lnl
 cur:=h
 tim:=pm.tim
 wak:=pm.wak
 slp:=pm.slp
 dead:=pm.dead
 lan:=pm.lan
 recv:=pm.recv
 snd:=pm.snd
 lck:=pm.lck
 slpi:=pm.slpi
 regs:=pm.regs
theorem ProcM.recvs (pm:ProcM c fl t p z x) (h0:x.state=0) {n:PIns} (hn:insX c p x=some n) (ho:n.op=25) (he:∀l∈x.lanes,l.values=[]) (hf:x.fired=false):ProcM c fl t p z {x with state:=1} where
 st:=by simp
 pc:=pm.pc
 lnl:=pm.lnl
 cur:=pm.cur
 tim:=pm.tim
 wak:=pm.wak
 slp:=pm.slp.imp id fun h=>⟨fun h'=>by grind,fun h'=>by grind⟩
 dead:=fun h=>by grind
 lan:=pm.lan
 recv:=fun _=>⟨⟨n,hn,ho⟩,he,hf⟩
 snd:=fun h=>by grind
 lck:=fun h=>by grind
 slpi:=fun h=>by grind
 regs:=pm.regs
theorem Good.core {X:Nat->Prop} (g:Good c fl s X No T) {y:PProcess} (o:Out s X No p) (pm:ProcM c fl s.tick p (No p) y) (hy:y.lanes=(s.proc p).lanes) (hy0:y.state=0) {k:Core} (hk:0<=k.pc/\k.pc<=(zcj c p).length) (hr:k.regs.length=8):Good c fl (s.setP p (y.put k)) (fun q=>X q/\q≠p) No T:=by
 refine g.run o (pm.put hy0 hk hr) ⟨by show y.state≠2;omega,by show y.state≠3;omega⟩ hy fun _=> ?_
 rw [livesB_iff]
 exact ⟨by show y.state≠5;omega,by show y.state≠6;omega⟩
theorem Good.take (m:CfgM c) (g:Good c fl s No No T) {t:Bool} {n:PIns} (hp:p<nQ c) (h0:(s.proc p).state=0) (hn:insX c p (s.proc p)=some n) (ho:t=false->n.op=25):Good c fl (takeS c s p t) No No T:=by
 have pm:=g.proc p hp
 have oo:∀ {X:Nat->Prop},Out s X No p:=zkb ⟨by omega,by omega⟩
 have hlt:=zaa1 hn
 have hk:∀ {v f:Int},(0<=(tookC (zcj c p) (s.proc p).core v f).pc/\(tookC (zcj c p) (s.proc p).core v f).pc<=(zcj c p).length)/\(tookC (zcj c p) (s.proc p).core v f).regs.length=8:=fun {v f}=>by
  obtain ⟨e1,e2⟩:=znv2 (l:=zcj c p) (k:=(s.proc p).core) (v:=v) (w:=f) ⟨n,hn⟩
  have e1:(tookC (zcj c p) (s.proc p).core v f).pc=(s.proc p).pc+1:=e1
  exact ⟨by omega,e2.trans pm.regs⟩
 unfold takeS
 dsimp only
 cases hfl:zcg1 (s.proc p).cursor (s.proc p).lanes with
 | none=>
  dsimp only
  have hempty:=zav2 pm.cur hfl
  by_cases hf:(s.proc p).fired=true
  ·rw [if_pos hf]
   have e:({(s.proc p).put (tookC (zcj c p) (s.proc p).core 0 (-2)) with fired:=false}:PProcess)=({s.proc p with fired:=false}:PProcess).put (tookC (zcj c p) (s.proc p).core 0 (-2)):=rfl
   rw [e]
   exact znr (g.core oo pm.fire rfl h0 hk.1 hk.2)
  ·rw [if_neg hf]
   cases t with
   | true=>
    rw [if_pos rfl]
    exact znr (g.core oo pm rfl h0 hk.1 hk.2)
   | false=>
    rw [if_neg (by decide)]
    refine znr (g.run oo (pm.recvs h0 hn (ho rfl) hempty (by simpa using hf)) ⟨by show (1:Int)≠2;omega,by show (1:Int)≠3;omega⟩ rfl fun _=> ?_)
    rw [livesB_iff]
    simp
 | some i=>
  dsimp only
  obtain ⟨l,hl,hne⟩:=zxq1 hfl
  have e0:(s.proc p).lanes.getD i ⟨[],[],0,0⟩=l:=by grind
  rw [e0]
  obtain ⟨b1,b2,b3⟩:=g.lan p hp i l hl
  have hl2:=pm.lan i l hl
  have hvlen:1<=l.values.length:=by grind
  have hf:∀l',(s.proc p).lanes[i]? =some l'->((tookL l').values.length:Int)<=c.lane/\Cnt (tookL l').taken/\Cnt (tookL l').dropped/\(Used (tookL l')->i<nP c->fl i (pOf c p)=true):=fun l' hl'=>by
   rw [hl] at hl'
   cases hl'
   refine ⟨?_,?_,?_,fun _ hi=>hl2.2.2.2 (.inl hne) hi⟩
   ·unfold tookL
    grind
   ·unfold tookL
    cases l.waiters<;>exact zgj1 hl2.2.1
   ·unfold tookL
    grind
  have pm1:ProcM c fl s.tick p (No p) (laneX (s.proc p) i tookL):=pm.lane hf fun h=>by omega
  let X':Nat->Prop:=fun q=>∃w r,l.waiters=w::r/\w.proc=(q:Int)
  have g1:Good c fl (s.setP p (laneX (s.proc p) i tookL)) X' No T:=by
   refine g.lanes pm1 (.inl rfl) rfl rfl (List.length_modify ..) (fun j l1 l2 e1 e2=> ?_) hp (fun _ h=>h.elim) fun q hq=>.inr ⟨fun h=>h,?_⟩
   ·have e2:((s.proc p).lanes.modify i tookL)[j]? =some l2:=e2
    obtain ⟨l0,e3,e4⟩:=zok1 e2
    rw [e1] at e3
    cases e3
    obtain ⟨c1,c2,c3⟩:=g.lan p hp j l1 e1
    rcases e4 with ⟨rfl,rfl⟩ | ⟨e5,rfl⟩
    ·rw [hl] at e1
     cases e1
     unfold tookL
     cases hw:l.waiters with
     | nil=>exact ⟨List.Sublist.refl _,fun h=>absurd rfl h,fun w hw'=>by cases hw'⟩
     | cons w r=>
      refine ⟨List.sublist_cons_self ..,fun _=> ?_,fun w' hw'=> ?_⟩
      ·have h3:=(c2 (by rw [hw];simp)).2.2
       show ((l.values.tail++ [w.value]).length:Int)=_
       rw [List.length_append,List.length_tail,List.length_singleton]
       omega
      ·rcases List.mem_cons.1 hw' with rfl | h4
       ·refine .inr ⟨w',r,hw,?_⟩
        have:=(c3 w' (by rw [hw];exact List.mem_cons_self ..)).1
        omega
       ·exact .inl h4
    grind
   ·obtain ⟨w,r,hw,he⟩:=hq
    refine ⟨i,l,tookL l,w,hl,zgk1 hl,by rw [hw];exact List.mem_cons_self ..,?_,he⟩
    have nd:=b1
    rw [hw,List.map_cons,List.nodup_cons] at nd
    unfold tookL
    grind
  have oo1:Out (s.setP p (laneX (s.proc p) i tookL)) X' No p:=⟨fun h=>h,.inr (by rw [zaj];exact ⟨by show (s.proc p).state≠2;omega,by show (s.proc p).state≠3;omega⟩)⟩
  have hil:i<(s.proc p).lanes.length:=(List.getElem?_eq_some_iff.1 hl).1
  have hcur:0<=((i+1:Nat):Int)%((s.proc p).lanes.length:Int)/\((i+1:Nat):Int)%((s.proc p).lanes.length:Int)<((laneX (s.proc p) i tookL).lanes.length:Int):=by
   have e:(laneX (s.proc p) i tookL).lanes.length=(s.proc p).lanes.length:=List.length_modify ..
   rw [e]
   exact ⟨Int.emod_nonneg _ (by omega),Int.emod_lt_of_pos _ (by omega)⟩
  have g2:=g1.core (y:={laneX (s.proc p) i tookL with cursor:=((i+1:Nat):Int)%((s.proc p).lanes.length:Int)}) oo1 (pm1.cursor hcur) (by rw [zaj]) h0 (hk (v:=l.values.headD 0) (f:=(i:Int))).1 hk.2
  rw [zkv] at g2
  cases hw:l.waiters with
  | nil=>
   refine g2.congr fun q=>⟨fun h=> ?_,fun h=>h.elim⟩
   grind
  | cons w r=>
   dsimp only
   have hW:=b3 w (by rw [hw];exact List.mem_cons_self ..)
   obtain ⟨w1,w2,w3,w4,w5⟩:=hW
   rcases w5 with w5 | ⟨w5,n2,w6,w7,_⟩
   ·exact w5.elim
   have hne2:w.proc.toNat≠p:=fun e=>by rw [e] at w5;omega
   have e2:w.proc=((w.proc.toNat:Nat):Int):=by omega
   have g3:=g2.told (p:=w.proc.toNat) w2 ⟨fun h=>h,.inl ⟨⟨w,r,hw,e2⟩,hne2⟩⟩ (by rw [zau hne2];omega) ⟨n2,by rw [zau hne2];exact w6⟩ 0
   refine g3.congr fun q=>⟨fun h=> ?_,fun h=>h.elim⟩
   grind
end
section
variable {c:PCfg} {fl:Nat->Nat->Bool} {s:MS} {T:Int} {p:Nat} {t:Int} {x:PProcess} {z:Prop} {X Z:Nat->Prop}
theorem Good.locks {X':Nat->Prop} (g:Good c fl s X Z T) {i:Nat} {y:PPart} (pm:PartM c T i y)
  (hown:∀(k:Nat) o,y.owners[k]? =some o->o= -1\/(0<=o/\o.toNat<nQ c/\pOf c o.toNat=i/\(zcv (s.proc o.toNat)=true\/Z o.toNat)))
  (hque:∀(k:Nat) q',y.queues[k]? =some q'->∃q,(s.part i).queues[k]? =some q/\q'.Sublist q/\(q'≠ []->∃o,y.owners[k]? =some o/\o≠ -1/\o∉q')/\∀z∈q',¬X' z.toNat)
  (hlost:∀(k:Nat) q,(s.part i).queues[k]? =some q->∃q',y.queues[k]? =some q'/\∀z∈q,z∈q'\/X' z.toNat\/Z z.toNat)
  (hz:∀q,Z q->(s.proc q).state≠3)
  (hx:∀q,X q->X' q) (hx':∀q,X' q->X q\/(¬Z q/\(s.proc q).state=3/\pOf c q=i)):Good c fl (s.setI i y) X' Z T where
 tick:=g.tick
 part j hj:=by
  by_cases e:j=i
  ·subst e;rw [zme];exact pm
  ·rw [znm e];exact g.part j hj
 proc:=g.proc
 own j hj k o h:=by
  by_cases e:j=i
  ·subst e;rw [zme] at h;exact hown k o h
  ·rw [znm e] at h;exact g.own j hj k o h
 que j hj k q h:=by
  by_cases e:j=i
  ·subst e
   rw [zme] at h ⊢
   obtain ⟨q0,h1,h2,h3,h4⟩:=hque k q h
   obtain ⟨b1,b2,b3⟩:=g.que j hj k q0 h1
   refine ⟨b1.sublist h2,fun z hz=> ?_,h3⟩
   obtain ⟨a1,a2,a3,a4,a5⟩:=b2 z (h2.subset hz)
   exact ⟨a1,a2,a3,h4 z hz,a5⟩
  ·rw [znm e] at h ⊢
   obtain ⟨b1,b2,b3⟩:=g.que j hj k q h
   refine ⟨b1,fun z hz=> ?_,b3⟩
   obtain ⟨a1,a2,a3,a4,a5⟩:=b2 z hz
   refine ⟨a1,a2,a3,fun h=> ?_,a5⟩
   grind
 lan r hr j l h:=by
  obtain ⟨b1,b2,b3⟩:=g.lan r hr j l h
  refine ⟨b1,b2,fun w hw=> ?_⟩
  obtain ⟨a1,a2,a3,a4,a5⟩:=b3 w hw
  refine ⟨a1,a2,a3,fun h=> ?_,a5⟩
  grind
 in3 q hq hn h3:=by
  obtain ⟨k,l,e1,e2⟩:=g.in3 q hq (fun h=>hn (hx q h)) h3
  by_cases e:pOf c q=i
  ·rw [e] at e1 ⊢
   rw [zme]
   obtain ⟨l',e3,e4⟩:=hlost k l e1
   refine ⟨k,l',e3,?_⟩
   rcases e4 _ e2 with h | h | h
   ·exact h
   ·grind
   ·exact absurd h3 (hz q (by simpa using h))
  ·rw [znm e]
   grind
 in2 q hq hn h2:=g.in2 q hq (fun h=>hn (hx q h)) h2
theorem Good.queue (g:Good c fl s No No T) {k:Nat} {n:PIns} {o:Int} {q:List Int} (hp:p<nQ c) (hi:pOf c p<nP c) (h0:(s.proc p).state=0) (hn:insX c p (s.proc p)=some n) (ho:n.op=29) (hk:n.imm=(k:Int)) (hown:(s.part (pOf c p)).owners[k]? =some o) (ho1:o≠ -1) (ho2:o≠(p:Int))
  (hq:(s.part (pOf c p)).queues[k]? =some q):Good c fl ((s.setI (pOf c p) {s.part (pOf c p) with queues:=(s.part (pOf c p)).queues.modify k (· ++ [(p:Int)])}).setP p {s.proc p with state:=3}) No No T:=by
 have oo:Out s No No p:=zkb ⟨by omega,by omega⟩
 have hst:∀r,r≠p->((s.setI (pOf c p) {s.part (pOf c p) with queues:=(s.part (pOf c p)).queues.modify k (· ++ [(p:Int)])}).setP p {s.proc p with state:=3}).proc r=s.proc r:=fun r e=>zau e
 have hsp:((s.setI (pOf c p) {s.part (pOf c p) with queues:=(s.part (pOf c p)).queues.modify k (· ++ [(p:Int)])}).setP p {s.proc p with state:=3}).proc p={s.proc p with state:=3}:=zaj
 have hpart:∀j,((s.setI (pOf c p) {s.part (pOf c p) with queues:=(s.part (pOf c p)).queues.modify k (· ++ [(p:Int)])}).setP p {s.proc p with state:=3}).part j=(s.setI (pOf c p) {s.part (pOf c p) with queues:=(s.part (pOf c p)).queues.modify k (· ++ [(p:Int)])}).part j:=fun j=>rfl
 have hliv:∀r,zcv (s.proc r)=true->zcv (((s.setI (pOf c p) {s.part (pOf c p) with queues:=(s.part (pOf c p)).queues.modify k (· ++ [(p:Int)])}).setP p {s.proc p with state:=3}).proc r)=true:=fun r h=>by
  by_cases e:r=p
  ·subst e;rw [hsp];rfl
  grind
 generalize hs':(s.setI (pOf c p) {s.part (pOf c p) with queues:=(s.part (pOf c p)).queues.modify k (· ++ [(p:Int)])}).setP p {s.proc p with state:=3}=s' at*
 have htick:s'.tick=s.tick:=by rw [<-hs'];rfl
 have hlan:∀r,(s'.proc r).lanes=(s.proc r).lanes:=fun r=>by
  grind
 have keepQ:∀ {i k z},QueM c s No No i k z->QueM c s' No No i k z:=fun {i k z} h=>h.keep (fun h=>h) (hst _ (h.out oo))
 refine ⟨by rw [htick];exact g.tick,fun j hj=> ?_,fun r hr=> ?_,fun j hj kk ow h=> ?_,fun j hj kk l h=> ?_,fun r hr j l h=> ?_,fun r hr _ h3=> ?_,fun r hr _ h2=> ?_⟩
 ·rw [hpart]
  by_cases e:j=pOf c p
  ·subst e;rw [zme]
   have pm:=g.part _ hj
   exact ⟨pm.cur,pm.logl,pm.log,pm.lost,pm.forb,pm.full,pm.ownl,by show ((List.modify _ _ _).length:Int)=_;rw [List.length_modify];exact pm.quel⟩
  ·rw [znm e];exact g.part j hj
 ·rw [htick]
  by_cases e:r=p
  ·subst e;rw [hsp]
   exact (g.proc r hr).wait h0 (.inr rfl) hn ⟨fun h=>by omega,fun _=>ho⟩
  ·rw [hst r e];exact g.proc r hr
 ·rw [hpart] at h
  have h:(s.part j).owners[kk]? =some ow:=by
   by_cases e:j=pOf c p
   ·subst e;rw [zme] at h;exact h
   ·rw [znm e] at h;exact h
  rcases g.own j hj kk ow h with h | ⟨h1,h2,h3,h4⟩
  ·exact .inl h
  grind
 ·rw [hpart] at h ⊢
  by_cases e:j=pOf c p
  ·subst e
   rw [zme] at h ⊢
   obtain ⟨b,e1,e2⟩:=zok1 h
   obtain ⟨b1,b2,b3⟩:=g.que _ hj kk b e1
   rcases e2 with ⟨e2,rfl⟩ | ⟨e2,rfl⟩
   ·subst e2
    rw [hq] at e1
    cases e1
    have hpq:(p:Int)∉q:=fun hm=>((b2 _ hm).out oo) (by omega)
    refine ⟨?_,fun z hz=> ?_,fun _=>⟨o,hown,ho1,?_⟩⟩
    ·rw [List.nodup_append]
     exact ⟨b1,by simp,fun a ha b hb=>by rw [List.mem_singleton.1 hb];exact fun e=>hpq (e▸ha)⟩
    ·rcases List.mem_append.1 hz with hz | hz
     ·exact keepQ (b2 z hz)
     ·rw [List.mem_singleton.1 hz]
      refine ⟨by omega,hp,rfl,fun h=>h,.inr ?_⟩
      rw [Int.toNat_natCast,hsp]
      exact ⟨rfl,n,hn,ho,hk⟩
    ·intro hm
     rcases List.mem_append.1 hm with hm | hm
     ·obtain ⟨o',e5,_,e6⟩:=b3 (List.ne_nil_of_mem hm)
      rw [hown] at e5
      cases e5
      exact e6 hm
     ·exact ho2 (List.mem_singleton.1 hm)
   grind
  ·rw [znm e] at h ⊢
   obtain ⟨b1,b2,b3⟩:=g.que j hj kk l h
   grind
 ·rw [hlan] at h
  obtain ⟨b1,b2,b3⟩:=g.lan r hr j l h
  refine ⟨b1,fun hw=> ?_,fun w hw=>(b3 w hw).keep (fun h=>h) (hst _ ((b3 w hw).out oo))⟩
  grind
 ·by_cases e:r=p
  ·subst e
   rw [hpart,zme]
   exact ⟨k,_,zgk1 hq,List.mem_append_right _ (List.mem_singleton.2 rfl)⟩
  ·rw [hst r e] at h3
   obtain ⟨kk,l,e1,e2⟩:=g.in3 r hr (fun h=>h) h3
   rw [hpart]
   by_cases ei:pOf c r=pOf c p
   ·rw [ei] at e1 ⊢
    rw [zme]
    by_cases ek:k=kk
    ·subst ek
     exact ⟨k,_,zgk1 e1,List.mem_append_left _ e2⟩
    ·exact ⟨kk,l,(zus1 ek).trans e1,e2⟩
   ·rw [znm ei]
    grind
 ·by_cases e:r=p
  ·grind
  ·rw [hst r e] at h2
   obtain ⟨r',hr',l,hl,hw⟩:=g.in2 r hr (fun h=>h) h2
   grind
theorem Good.lock (m:CfgM c) (g:Good c fl s No No T) {k:Int} {n:PIns} (hp:p<nQ c) (h0:(s.proc p).state=0) (hn:insX c p (s.proc p)=some n) (ho:n.op=29) (hk:n.imm=k):Good c fl (lockS c s p k) No No T:=by
 have hi:=m.pOf_lt (p:=p)
 have hw:=zau1 (m.ins hn).1 (.inl ho)
 rw [hk] at hw
 have pm:=g.part _ hi
 have hol:=pm.ownl
 have hql:=pm.quel
 have hqn:=List.getElem?_eq_getElem (show k.toNat<(s.part (pOf c p)).queues.length by omega)
 have hon:=List.getElem?_eq_getElem (show k.toNat<(s.part (pOf c p)).owners.length by omega)
 generalize (s.part (pOf c p)).queues[k.toNat]=q at hqn
 generalize (s.part (pOf c p)).owners[k.toNat]=o at hon
 have hlt:=zaa1 hn
 have hpm:=g.proc p hp
 unfold lockS
 dsimp only
 have e0:(s.part (pOf c p)).owners.getD k.toNat 0=o:=by grind
 rw [e0]
 by_cases h:o= -1\/o=(p:Int)
 ·rw [if_pos h]
  unfold lockS.goK
  have oo:Out s No No p:=zkb ⟨by omega,by omega⟩
  have g1:Good c fl (s.setI (pOf c p) {s.part (pOf c p) with owners:=(s.part (pOf c p)).owners.set k.toNat p}) No No T:=by
   refine g.locks ⟨pm.cur,pm.logl,pm.log,pm.lost,pm.forb,pm.full,by show ((List.set _ _ _).length:Int)=_;rw [List.length_set];exact pm.ownl,pm.quel⟩ (fun j o' hj=> ?_) (fun j q' hj=>⟨q',hj,List.Sublist.refl _,fun hne=> ?_,fun _ _ h=>h⟩) (fun j q' hj=>⟨q',hj,fun z hz=>.inl hz⟩) (fun _ h=>h.elim) (fun _ h=>h) fun _ h=>h.elim
   ·have hj:((s.part (pOf c p)).owners.set k.toNat p)[j]? =some o':=hj
    by_cases e:k.toNat=j
    ·subst e
     rw [List.getElem?_set_self (by omega)] at hj
     cases hj
     refine .inr ⟨by omega,hp,rfl,.inl ?_⟩
     rw [Int.toNat_natCast,livesB_iff]
     omega
    ·rw [List.getElem?_set_ne e] at hj
     exact g.own _ hi j o' hj
   ·obtain ⟨b1,b2,b3⟩:=g.que _ hi j q' hj
    grind
  have oo1:Out (s.setI (pOf c p) {s.part (pOf c p) with owners:=(s.part (pOf c p)).owners.set k.toNat p}) No No p:=zkb ⟨by show (s.proc p).state≠2;omega,by show (s.proc p).state≠3;omega⟩
  exact znr (g1.core (y:=s.proc p) (k:=nextC (s.proc p).core) oo1 (g1.proc p hp) rfl h0 ⟨by show 0<=(s.proc p).pc+1;omega,by show (s.proc p).pc+1<=_;omega⟩ hpm.regs)
 ·rw [if_neg h]
  exact g.queue hp hi h0 hn ho (by omega) hon (fun e=>h (.inl e)) (fun e=>h (.inr e)) hqn
theorem Good.given (g:Good c fl s X Z T) {a:Int} (ha:0<=a) (hq:a.toNat<nQ c) (hx:X a.toNat) (hz:¬Z a.toNat) (h3:(s.proc a.toNat).state≠4) (hi:∃n,insX c a.toNat (s.proc a.toNat)=some n):Good c fl (zck s a) (fun q=>X q/\q≠a.toNat) Z T:=by
 unfold zck
 rw [if_pos ha]
 exact g.goes hq ⟨hz,.inl hx⟩ h3 hi
theorem Good.unlock (m:CfgM c) (g:Good c fl s No No T) {k:Int} (hp:p<nQ c) (hk:0<=k/\k<c.locks):Good c fl (zuo c s p k) No No T:=by
 have hi:=m.pOf_lt (p:=p)
 have pm:=g.part _ hi
 have hol:=pm.ownl
 have hql:=pm.quel
 have hqn:=List.getElem?_eq_getElem (show k.toNat<(s.part (pOf c p)).queues.length by omega)
 have hon:=List.getElem?_eq_getElem (show k.toNat<(s.part (pOf c p)).owners.length by omega)
 generalize (s.part (pOf c p)).queues[k.toNat]=q at hqn
 generalize (s.part (pOf c p)).owners[k.toNat]=o at hon
 unfold zuo
 dsimp only
 have e0:(s.part (pOf c p)).owners.getD k.toNat (-1)=o:=by simp [List.getD,hon]
 have e1:(s.part (pOf c p)).queues.getD k.toNat []=q:=by simp [List.getD,hqn]
 rw [e0,e1]
 by_cases h:o=(p:Int)
 ·rw [if_pos h]
  obtain ⟨b1,b2,b3⟩:=g.que _ hi _ _ hqn
  cases q with
  | nil=>
   dsimp only
   refine g.locks ⟨pm.cur,pm.logl,pm.log,pm.lost,pm.forb,pm.full,by show ((List.set _ _ _).length:Int)=_;rw [List.length_set];exact pm.ownl,pm.quel⟩ (fun j o' hj=> ?_) (fun j q' hj=>⟨q',hj,List.Sublist.refl _,fun hne=> ?_,fun _ _ h=>h⟩) (fun j q' hj=>⟨q',hj,fun z hz=>.inl hz⟩) (fun _ h=>h.elim) (fun _ h=>h) fun _ h=>h.elim
   ·have hj:((s.part (pOf c p)).owners.set k.toNat (-1))[j]? =some o':=hj
    by_cases e:k.toNat=j
    ·subst e
     rw [List.getElem?_set_self (by omega)] at hj
     cases hj
     exact .inl rfl
    ·rw [List.getElem?_set_ne e] at hj
     exact g.own _ hi j o' hj
   ·have hj:(s.part (pOf c p)).queues[j]? =some q':=hj
    obtain ⟨d1,d2,d3⟩:=g.que _ hi j q' hj
    have e:¬k.toNat=j:=fun e=>by
     subst e
     rw [hqn] at hj
     cases hj
     exact hne rfl
    show ∃o,((s.part (pOf c p)).owners.set k.toNat (-1))[j]? =some o/\o≠ -1/\o∉q'
    rw [List.getElem?_set_ne e]
    exact d3 hne
  | cons a r=>
   dsimp only
   obtain ⟨a1,a2,a3,a4,a5⟩:=b2 a (List.mem_cons_self ..)
   rcases a5 with a5 | ⟨a5,n,a6,a7,a8⟩
   ·exact a5.elim
   have hnd:=List.nodup_cons.1 b1
   have g1:Good c fl (s.setI (pOf c p) {s.part (pOf c p) with owners:=(s.part (pOf c p)).owners.set k.toNat a,queues:=(s.part (pOf c p)).queues.set k.toNat r}) (fun q=>q=a.toNat) No T:=by
    refine g.locks ⟨pm.cur,pm.logl,pm.log,pm.lost,pm.forb,pm.full,by show ((List.set _ _ _).length:Int)=_;rw [List.length_set];exact pm.ownl,by show ((List.set _ _ _).length:Int)=_;rw [List.length_set];exact pm.quel⟩ (fun j o' hj=> ?_) (fun j q' hj=> ?_) (fun j q' hj=> ?_) (fun _ h=>h.elim) (fun _ h=>h.elim) fun q' h=>.inr ⟨fun h=>h,by rw [h];exact a5,by rw [h];exact a3⟩
    ·have hj:((s.part (pOf c p)).owners.set k.toNat a)[j]? =some o':=hj
     by_cases e:k.toNat=j
     ·subst e
      rw [List.getElem?_set_self (by omega)] at hj
      cases hj
      refine .inr ⟨a1,a2,a3,.inl ?_⟩
      rw [livesB_iff]
      omega
     ·rw [List.getElem?_set_ne e] at hj
      exact g.own _ hi j o' hj
    ·have hj:((s.part (pOf c p)).queues.set k.toNat r)[j]? =some q':=hj
     show ∃q,(s.part (pOf c p)).queues[j]? =some q/\q'.Sublist q/\(q'≠ []->∃o,((s.part (pOf c p)).owners.set k.toNat a)[j]? =some o/\o≠ -1/\o∉q')/\_
     by_cases e:k.toNat=j
     ·subst e
      rw [List.getElem?_set_self (by omega)] at hj
      cases hj
      refine ⟨a::r,hqn,List.sublist_cons_self ..,fun _=>⟨a,List.getElem?_set_self (by omega),by omega,hnd.1⟩,fun z hz h=> ?_⟩
      have hz0:=(b2 z (List.mem_cons_of_mem _ hz)).1
      have:z=a:=by omega
      exact hnd.1 (this▸hz)
     ·rw [List.getElem?_set_ne e] at hj
      obtain ⟨d1,d2,d3⟩:=g.que _ hi j q' hj
      refine ⟨q',hj,List.Sublist.refl _,fun hne=>by rw [List.getElem?_set_ne e];exact d3 hne,fun z hz h=> ?_⟩
      obtain ⟨z1,z2,z3,z4,z5⟩:=d2 z hz
      rcases z5 with z5 | ⟨z5,n',z6,z7,z8⟩
      ·exact z5
      ·rw [h,a6] at z6
       cases z6
       omega
    ·have hj:(s.part (pOf c p)).queues[j]? =some q':=hj
     show ∃q'',((s.part (pOf c p)).queues.set k.toNat r)[j]? =some q''/\_
     by_cases e:k.toNat=j
     ·subst e
      rw [hqn] at hj
      cases hj
      refine ⟨r,List.getElem?_set_self (by omega),fun z hz=> ?_⟩
      rcases List.mem_cons.1 hz with rfl | hz
      ·exact .inr (.inl rfl)
      ·exact .inl hz
     ·exact ⟨q',by rw [List.getElem?_set_ne e];exact hj,fun z hz=>.inl hz⟩
   have g2:=g1.given a1 a2 rfl (fun h=>h) (by show (s.proc a.toNat).state≠4;omega) ⟨n,a6⟩
   exact g2.congr fun q=>⟨fun h=>(h.2 h.1).elim,fun h=>h.elim⟩
 grind
end
theorem zst {α:Type} {f:α->Bool}:∀ {l:List α} {a:α},a∈l->f a=false->a∈zaf f l
 | b::l,a,h,hf=>by
  unfold zaf
  split
  ·grind
  ·rcases List.mem_cons.1 h with rfl | h
   ·simp
   ·exact List.mem_cons_of_mem _ (zst h hf)
theorem dropFirst_sub {α:Type} {f:α->Bool}:∀ {l:List α},(zaf f l).Sublist l
 | []=>List.Sublist.refl _
 | b::l=>by
  unfold zaf
  split
  ·simp
  ·exact dropFirst_sub.cons_cons _
theorem zpf {α β:Type} [DecidableEq β] {g:α->β} {b:β}:∀ {l:List α},(l.map g).Nodup->∀a∈zaf (fun x=>decide (g x=b)) l,g a≠b
 | [],_,a,h=>by cases h
 | x::l,nd,a,h=>by
  rw [List.map_cons,List.nodup_cons] at nd
  unfold zaf at h
  split at h
  ·grind
  ·rename_i hx
   rcases List.mem_cons.1 h with rfl | h
   ·grind
   ·exact zpf nd.2 a h
section
variable {c:PCfg} {fl:Nat->Nat->Bool} {s:MS} {T:Int} {p:Nat} {t:Int} {x:PProcess} {z:Prop} {X Z:Nat->Prop}
theorem Good.dying (g:Good c fl s No No T) {st:Int} (hst:st=5\/st=6) (hp:p<nQ c):Good c fl (s.setP p {s.proc p with state:=st,fired:=false}) No (fun q=>q=p) T:=by
 have hpc:∀r,insX c r ((s.setP p {s.proc p with state:=st,fired:=false}).proc r)=insX c r (s.proc r):=fun r=>zds2 rfl
 have hne:∀r,r≠p->(s.setP p {s.proc p with state:=st,fired:=false}).proc r=s.proc r:=fun r e=>zau e
 have hat:(s.setP p {s.proc p with state:=st,fired:=false}).proc p={s.proc p with state:=st,fired:=false}:=zaj
 have hlan:∀r,((s.setP p {s.proc p with state:=st,fired:=false}).proc r).lanes=(s.proc r).lanes:=fun r=>by
  grind
 refine ⟨g.tick,g.part,fun r hr=> ?_,fun i hi k o h=> ?_,fun i hi k q h=> ?_,fun r hr i l h=> ?_,fun r hr _ h=> ?_,fun r hr _ h=> ?_⟩
 ·by_cases e:r=p
  ·subst e
   rw [hat]
   have pm:=g.proc r hr
   exact ⟨by grind,pm.pc,pm.lnl,pm.cur,pm.tim,pm.wak,.inl rfl,fun _=>⟨.inl rfl,rfl⟩,pm.lan,fun h=>by grind,fun h=>by grind,fun h=>by grind,fun h=>by grind,pm.regs⟩
  ·rw [hne r e]
   have pm:=g.proc r hr
   exact ⟨pm.st,pm.pc,pm.lnl,pm.cur,pm.tim,pm.wak,.inr (pm.slp.resolve_left (fun h=>h)),fun h=>⟨.inr ((pm.dead h).1.resolve_left (fun h=>h)),(pm.dead h).2⟩,pm.lan,pm.recv,pm.snd,pm.lck,pm.slpi,pm.regs⟩
 ·rcases g.own i hi k o h with h | ⟨h1,h2,h3,h4⟩
  ·exact .inl h
  ·refine .inr ⟨h1,h2,h3,?_⟩
   by_cases e:o.toNat=p
   ·exact .inr e
   ·rw [hne _ e];exact .inl (h4.resolve_right (fun h=>h))
 ·obtain ⟨b1,b2,b3⟩:=g.que i hi k q h
  refine ⟨b1,fun z hz=> ?_,b3⟩
  obtain ⟨a1,a2,a3,a4,a5⟩:=b2 z hz
  refine ⟨a1,a2,a3,a4,?_⟩
  grind
 ·rw [hlan] at h
  obtain ⟨b1,b2,b3⟩:=g.lan r hr i l h
  refine ⟨b1,fun hw=> ?_,fun w hw=> ?_⟩
  ·obtain ⟨a1,a2,a3⟩:=b2 hw
   refine ⟨a1,?_,a3⟩
   by_cases e:r=p
   ·exact .inr e
   ·rw [hne _ e];exact .inl (a2.resolve_right (fun h=>h))
  ·obtain ⟨a1,a2,a3,a4,a5⟩:=b3 w hw
   refine ⟨a1,a2,a3,a4,?_⟩
   grind
 ·by_cases e:r=p
  ·grind
  ·rw [hne _ e] at h;exact g.in3 r hr (fun h=>h) h
 ·by_cases e:r=p
  ·grind
  ·rw [hne _ e] at h
   obtain ⟨r',h1,l,h2,h3⟩:=g.in2 r hr (fun h=>h) h
   grind
theorem zon1 {p:Int} {x:PProcess} {i:Nat} {l:PLane} (h:(zoq p x).lanes[i]? =some l):∃l0,x.lanes[i]? =some l0/\l.values=l0.values/\l.taken=l0.taken/\l.dropped=l0.dropped/\l.waiters=zaf (fun w=>decide (w.proc=p)) l0.waiters:=by
 have h:(x.lanes.map _)[i]? =some l:=h
 grind
theorem ProcM.leave (pm:ProcM c fl t p z x) {q:Int}:ProcM c fl t p z (zoq q x) where
 st:=pm.st
 pc:=pm.pc
 lnl:=by show (List.map _ _).length=_;rw [List.length_map];exact pm.lnl
 cur:=by show 0<=x.cursor/\x.cursor<((List.map _ _).length:Int);rw [List.length_map];exact pm.cur
 tim:=pm.tim
 wak:=pm.wak
 slp:=pm.slp
 dead:=pm.dead
 lan:=fun i l h=>by
  obtain ⟨l0,e,e1,e2,e3,_⟩:=zon1 h
  have:=pm.lan i l0 e
  unfold Used at this ⊢
  grind
 recv:=fun h=>by
  obtain ⟨h1,h2,h3⟩:=pm.recv h
  refine ⟨h1,fun l hl=> ?_,h3⟩
  obtain ⟨l0,h4,rfl⟩:=List.mem_map.1 hl
  exact h2 l0 h4
 snd:=pm.snd
 lck:=pm.lck
 slpi:=pm.slpi
 regs:=pm.regs
theorem Good.leave (g:Good c fl s X (fun q=>q=p) T) (hps:(s.proc p).state≠2/\(s.proc p).state≠3) {L:List Nat} (hL:∀q,q∈L↔q<nQ c/\pOf c q=pOf c p):Good c fl (zff p s L) X (fun q=>q=p) T/\∀r,r<nQ c->∀l∈((zff p s L).proc r).lanes,∀w∈l.waiters,w.proc≠(p:Int):=by
 have hpr:∀r,(zff p s L).proc r=zoq p (s.proc r)\/(zff p s L).proc r=s.proc r:=fun r=>by
  by_cases h:r∈L
  ·exact .inl (if_pos h)
  ·exact .inr (if_neg h)
 have hstate:∀r,((zff p s L).proc r).state=(s.proc r).state/\((zff p s L).proc r).pc=(s.proc r).pc/\((zff p s L).proc r).regs=(s.proc r).regs:=fun r=>by
  rcases hpr r with h | h<;>rw [h]<;>exact ⟨rfl,rfl,rfl⟩
 have hins:∀r,insX c r ((zff p s L).proc r)=insX c r (s.proc r):=fun r=>by unfold insX;grind
 have hliv:∀r,zcv ((zff p s L).proc r)=zcv (s.proc r):=fun r=>by unfold zcv;rw [(hstate r).1]
 have hlane:∀(r i:Nat) (l:PLane),((zff p s L).proc r).lanes[i]? =some l->∃l0:PLane,(s.proc r).lanes[i]? =some l0/\l.values=l0.values/\l.waiters.Sublist l0.waiters/\(r∈L->∀w∈zaf (fun w=>decide (w.proc=(p:Int))) l0.waiters,w∈l.waiters)/\(r∈L->l.waiters=zaf (fun w=>decide (w.proc=(p:Int))) l0.waiters)/\(r∉L->l=l0):=fun r i l h=>by
  by_cases hr:r∈L
  ·have e:(zff p s L).proc r=zoq p (s.proc r):=if_pos hr
   rw [e] at h
   obtain ⟨l0,e0,e1,_,_,e4⟩:=zon1 h
   exact ⟨l0,e0,e1,by rw [e4];exact dropFirst_sub,fun _ w hw=>by rw [e4];exact hw,fun _=>e4,fun hn=>absurd hr hn⟩
  ·have e:(zff p s L).proc r=s.proc r:=if_neg hr
   grind
 refine ⟨⟨g.tick,g.part,fun r hr=> ?_,fun i hi k o h=> ?_,fun i hi k q h=> ?_,fun r hr i l h=> ?_,fun r hr hx h=> ?_,fun r hr hx h=> ?_⟩,fun r hr l hl w hw he=> ?_⟩
 ·rcases hpr r with h | h
  ·rw [h];exact (g.proc r hr).leave
  ·rw [h];exact g.proc r hr
 ·rcases g.own i hi k o h with h | ⟨h1,h2,h3,h4⟩
  ·exact .inl h
  grind
 ·obtain ⟨b1,b2,b3⟩:=g.que i hi k q h
  refine ⟨b1,fun z hz=> ?_,b3⟩
  obtain ⟨a1,a2,a3,a4,a5⟩:=b2 z hz
  exact ⟨a1,a2,a3,a4,by grind⟩
 ·obtain ⟨l0,e0,e1,e2,_⟩:=hlane r i l h
  obtain ⟨b1,b2,b3⟩:=g.lan r hr i l0 e0
  refine ⟨b1.sublist (e2.map _),fun hw=> ?_,fun w hw=> ?_⟩
  ·grind
  ·obtain ⟨a1,a2,a3,a4,a5⟩:=b3 w (e2.subset hw)
   refine ⟨a1,a2,a3,a4,?_⟩
   grind
 ·rw [(hstate r).1] at h
  exact g.in3 r hr hx h
 ·rw [(hstate r).1] at h
  obtain ⟨r',h1,l,h2,w,h3,h4⟩:=g.in2 r hr hx h
  have hrp:r≠p:=fun e=>by grind
  by_cases hr':r'∈L
  ·have e:(zff p s L).proc r'=zoq p (s.proc r'):=if_pos hr'
   refine ⟨r',h1,{l with waiters:=zaf (fun w=>decide (w.proc=(p:Int))) l.waiters},?_,w,?_,h4⟩
   ·rw [e]
    show (List.map _ _)[_]? =_
    grind
   ·exact zst h3 (decide_eq_false (by rw [h4];omega))
  ·have e:(zff p s L).proc r'=s.proc r':=if_neg hr'
   grind
 ·obtain ⟨i,hi,he2⟩:=List.getElem_of_mem hl
  have hget:((zff p s L).proc r).lanes[i]? =some l:=by grind
  obtain ⟨l0,e0,e1,e2,e3,e4,e5⟩:=hlane r i l hget
  obtain ⟨b1,b2,b3⟩:=g.lan r hr i l0 e0
  have hw0:=e2.subset hw
  have ha:=b3 w hw0
  have hb:=b2 (List.ne_nil_of_mem hw0)
  have hin:r∈L:=(hL r).2 ⟨hr,by
   have h1:=ha.2.2.1
   rw [he,Int.toNat_natCast] at h1
   rw [h1,hb.1]⟩
  rw [e4 hin] at hw
  exact zpf b1 w hw he
end
theorem zoo1 {p:Int}:∀ {os:List Int} {qs:List (List Int)},os.length=qs.length->
  (zca p os qs).1.length=os.length/\(zca p os qs).2.1.length=qs.length/\
  (∀(k:Nat) o q,os[k]? =some o->qs[k]? =some q->(o≠p/\(zca p os qs).1[k]? =some o/\(zca p os qs).2.1[k]? =some q)\/(o=p/\q=[]/\(zca p os qs).1[k]? =some (-1)/\(zca p os qs).2.1[k]? =some [])\/
   (o=p/\∃a r,q=a::r/\(zca p os qs).1[k]? =some a/\(zca p os qs).2.1[k]? =some r/\a∈(zca p os qs).2.2))/\
  (∀a∈(zca p os qs).2.2,a= -1\/∃(k:Nat) (r:List Int),os[k]? =some p/\qs[k]? =some (a::r))/\
  ((∀(j k:Nat) (z:Int) (a b:List Int),qs[j]? =some a->qs[k]? =some b->z∈a->z∈b->j=k)->(zca p os qs).2.2.Pairwise fun a b=>a≠b\/a= -1)
 | [],[],_=>by simp [zca]
 | [],_::_,h=>by simp at h
 | _::_,[],h=>by simp at h
 | o::os,q::qs,h=>by
  obtain ⟨h1,h2,h3,h4,h5⟩:=zoo1 (p:=p) (os:=os) (qs:=qs) (by simpa using h)
  have hsh:(∀(j k:Nat) (z:Int) (a b:List Int),(q::qs)[j]? =some a->(q::qs)[k]? =some b->z∈a->z∈b->j=k)->∀(j k:Nat) (z:Int) (a b:List Int),qs[j]? =some a->qs[k]? =some b->z∈a->z∈b->j=k:=fun hd j k z a b ha hb hza hzb=>by
   have:=hd (j+1) (k+1) z a b (by simpa using ha) (by simpa using hb) hza hzb
   omega
  have h4':∀a∈(zca p os qs).2.2,a= -1\/∃(k:Nat) (r:List Int),(o::os)[k]? =some p/\(q::qs)[k]? =some (a::r):=fun a ha=>(h4 a ha).imp id fun ⟨k,r,e1,e2⟩=>⟨k+1,r,by simpa using e1,by simpa using e2⟩
  unfold zca
  dsimp only
  by_cases e:o=p
  ·rw [if_pos e]
   cases q with
   | nil=>
    dsimp only
    refine ⟨by simp [h1],by simp [h2],fun k o' q' ho hq=> ?_,fun a ha=> ?_,fun hd=> ?_⟩
    ·cases k with
     | zero=>
      grind
     | succ k=>
      rcases h3 k o' q' (by simpa using ho) (by simpa using hq) with ⟨a,b,c⟩ | ⟨a,b,c,d⟩ | ⟨a,x,r,b,c,d,f⟩
      ·exact .inl ⟨a,by simpa using b,by simpa using c⟩
      ·exact .inr (.inl ⟨a,b,by simpa using c,by simpa using d⟩)
      ·exact .inr (.inr ⟨a,x,r,b,by simpa using c,by simpa using d,List.mem_cons_of_mem _ f⟩)
    ·grind
    ·exact List.pairwise_cons.2 ⟨fun b _=>.inr rfl,h5 (hsh hd)⟩
   | cons x r=>
    dsimp only
    refine ⟨by simp [h1],by simp [h2],fun k o' q' ho hq=> ?_,fun a ha=> ?_,fun hd=> ?_⟩
    ·cases k with
     | zero=>
      grind
     | succ k=>
      rcases h3 k o' q' (by simpa using ho) (by simpa using hq) with ⟨a,b,c⟩ | ⟨a,b,c,d⟩ | ⟨a,x,r,b,c,d,f⟩
      ·exact .inl ⟨a,by simpa using b,by simpa using c⟩
      ·exact .inr (.inl ⟨a,b,by simpa using c,by simpa using d⟩)
      ·exact .inr (.inr ⟨a,x,r,b,by simpa using c,by simpa using d,List.mem_cons_of_mem _ f⟩)
    ·rcases List.mem_cons.1 ha with rfl | ha
     ·exact .inr ⟨0,r,by simp [e],by simp⟩
     ·exact h4' a ha
    ·refine List.pairwise_cons.2 ⟨fun b hb=> ?_,h5 (hsh hd)⟩
     rcases h4 b hb with rfl | ⟨k,r',e1,e2⟩
     ·omega
     ·refine .inl fun hxb=> ?_
      subst hxb
      have:=hd 0 (k+1) x (x::r) (x::r') (by simp) (by simpa using e2) (List.mem_cons_self ..) (List.mem_cons_self ..)
      omega
  ·rw [if_neg e]
   refine ⟨by simp [h1],by simp [h2],fun k o' q' ho hq=> ?_,fun a ha=>h4' a ha,fun hd=>h5 (hsh hd)⟩
   cases k with
   | zero=>
    grind
   | succ k=>
    rcases h3 k o' q' (by simpa using ho) (by simpa using hq) with ⟨a,b,c⟩ | ⟨a,b,c,d⟩ | ⟨a,x,r,b,c,d,f⟩
    ·exact .inl ⟨a,by simpa using b,by simpa using c⟩
    ·exact .inr (.inl ⟨a,b,by simpa using c,by simpa using d⟩)
    grind
section
variable {c:PCfg} {fl:Nat->Nat->Bool} {s:MS} {T:Int} {p:Nat} {X Z:Nat->Prop}
theorem Good.givens :∀ {l:List Int} {s:MS},Good c fl s (fun q=>(q:Int)∈l) Z T->(l.Pairwise fun a b=>a≠b\/a= -1)->(∀a∈l,a= -1\/(0<=a/\a.toNat<nQ c/\¬Z a.toNat/\(s.proc a.toNat).state≠4/\∃n,insX c a.toNat (s.proc a.toNat)=some n))->Good c fl (l.foldl zck s) No Z T
 | [],s,g,_,_=>g.congr fun q=>⟨fun h=>(by cases h),fun h=>h.elim⟩
 | a::l,s,g,hp,hf=>by
  obtain ⟨p1,p2⟩:=List.pairwise_cons.1 hp
  rw [List.foldl_cons]
  rcases hf a (List.mem_cons_self ..) with ha | ⟨a1,a2,a3,a4,a5⟩
  ·have e:zck s a=s:=by unfold zck;rw [if_neg (by omega)]
   rw [e]
   refine Good.givens (g.congr fun q=>⟨fun h=> ?_,fun h=>List.mem_cons_of_mem _ h⟩) p2 fun b hb=>hf b (List.mem_cons_of_mem _ hb)
   grind
  ·have hna:a∉l:=fun h=>(p1 a h).elim (fun h=>h rfl) (fun h=>by omega)
   have g2:=g.given a1 a2 (by grind) a3 a4 a5
   refine Good.givens (g2.congr fun q=>⟨fun h=> ?_,fun h=>⟨List.mem_cons_of_mem _ h,fun e=> ?_⟩⟩) p2 fun b hb=> ?_
   ·grind
   ·grind
   ·rcases hf b (List.mem_cons_of_mem _ hb) with h | ⟨b1,b2,b3,b4,b5⟩
    ·exact .inl h
    ·have hne:b.toNat≠a.toNat:=fun e=>hna (by rw [show a=b by omega];exact hb)
     have e:(zck s a).proc b.toNat=s.proc b.toNat:=by
      unfold zck
      rw [if_pos a1]
      exact zau hne
     grind
theorem Good.tolds {v:Int}:∀ {l:List zdi} {s:MS},Good c fl s (fun q=>(q:Int)∈l.map (·.proc)) No T->(l.map (·.proc)).Nodup->(∀w∈l,0<=w.proc/\w.proc.toNat<nQ c/\(s.proc w.proc.toNat).state≠4/\∃n,insX c w.proc.toNat (s.proc w.proc.toNat)=some n)->Good c fl (l.foldl (fun s w=>toldS c s w.proc.toNat v) s) No No T
 | [],s,g,_,_=>g.congr fun q=>⟨fun h=>(by cases h),fun h=>h.elim⟩
 | a::l,s,g,hp,hf=>by
  rw [List.map_cons,List.nodup_cons] at hp
  rw [List.foldl_cons]
  obtain ⟨a1,a2,a4,a5⟩:=hf a (List.mem_cons_self ..)
  have ea:((a.proc.toNat:Nat):Int)=a.proc:=by omega
  have g2:=g.told (p:=a.proc.toNat) a2 ⟨fun h=>h,.inl (by grind)⟩ a4 a5 v
  refine Good.tolds (g2.congr fun q=>⟨fun h=> ?_,fun h=>⟨List.mem_cons_of_mem _ h,fun e=> ?_⟩⟩) hp.2 fun b hb=> ?_
  ·grind
  ·grind
  ·obtain ⟨b1,b2,b4,b5⟩:=hf b (List.mem_cons_of_mem _ hb)
   have hne:b.proc.toNat≠a.proc.toNat:=fun e=>hp.1 (List.mem_map.2 ⟨b,hb,by omega⟩)
   have e:(toldS c s a.proc.toNat v).proc b.proc.toNat=s.proc b.proc.toNat:=zau hne
   grind
theorem Good.endLocks (g:Good c fl s No (fun q=>q=p) T) (hi:pOf c p<nP c) (hps:(s.proc p).state≠3):Good c fl (((zlh p (s.part (pOf c p))).2).foldl zck (s.setI (pOf c p) (zlh p (s.part (pOf c p))).1)) No (fun q=>q=p) T/\
  (∀i,i<nP c->∀(k:Nat),((s.setI (pOf c p) (zlh p (s.part (pOf c p))).1).part i).owners[k]?≠some (p:Int))/\∀i,i<nP c->∀(k:Nat) q,((s.setI (pOf c p) (zlh p (s.part (pOf c p))).1).part i).queues[k]? =some q->(p:Int)∉q:=by
 have pm:=g.part _ hi
 have hlen:(s.part (pOf c p)).owners.length=((s.part (pOf c p)).queues.map (zaf fun z=>decide (z=(p:Int)))).length:=by
  have:=pm.ownl
  have:=pm.quel
  grind
 obtain ⟨L1,L2,H,HG,HP⟩:=zoo1 (p:=(p:Int)) hlen
 have hother:∀ {z:Int} {q:List Int} {k:Nat},(s.part (pOf c p)).queues[k]? =some q->z∈q->z≠(p:Int)->0<=z/\z.toNat<nQ c/\pOf c z.toNat=pOf c p/\z.toNat≠p/\(s.proc z.toNat).state=3/\∃n,insX c z.toNat (s.proc z.toNat)=some n/\n.op=29/\n.imm=(k:Int):=fun {z q k} hq hz hne=>by
  obtain ⟨a1,a2,a3,a4,a5⟩:=(g.que _ hi k q hq).2.1 z hz
  grind
 have hdrop:∀ {k:Nat} {q:List Int},((s.part (pOf c p)).queues.map (zaf fun z=>decide (z=(p:Int))))[k]? =some q->∃q0,(s.part (pOf c p)).queues[k]? =some q0/\q=zaf (fun z=>decide (z=(p:Int))) q0:=fun {k q} h=>by
  grind
 have hnotp:∀ {k:Nat} {q0:List Int} {z:Int},(s.part (pOf c p)).queues[k]? =some q0->z∈zaf (fun z=>decide (z=(p:Int))) q0->z≠(p:Int):=fun {k q0 z} hq hz=>by
  have nd:=(g.que _ hi k q0 hq).1
  exact zpf (g:=fun z=>z) (by simpa using nd) z hz
 have hdist:∀(j k:Nat) (z:Int) (a b:List Int),((s.part (pOf c p)).queues.map (zaf fun z=>decide (z=(p:Int))))[j]? =some a->((s.part (pOf c p)).queues.map (zaf fun z=>decide (z=(p:Int))))[k]? =some b->z∈a->z∈b->j=k:=by
  intro j k z a b ha hb hza hzb
  obtain ⟨a0,ha0,rfl⟩:=hdrop ha
  obtain ⟨b0,hb0,rfl⟩:=hdrop hb
  have hne:=hnotp ha0 hza
  obtain ⟨_,_,_,_,_,n1,e1,_,e3⟩:=hother ha0 (dropFirst_sub.subset hza) hne
  obtain ⟨_,_,_,_,_,n2,f1,_,f3⟩:=hother hb0 (dropFirst_sub.subset hzb) hne
  grind
 have hgiven:∀a∈(zca (p:Int) (s.part (pOf c p)).owners ((s.part (pOf c p)).queues.map (zaf fun z=>decide (z=(p:Int))))).2.2,a= -1\/∃(k:Nat) (q0 r:List Int),(s.part (pOf c p)).owners[k]? =some (p:Int)/\(s.part (pOf c p)).queues[k]? =some q0/\zaf (fun z=>decide (z=(p:Int))) q0=a::r:=fun a ha=>by
  grind
 have HP:=HP hdist
 have hgetO:∀ {k:Nat} {q0:List Int},(s.part (pOf c p)).queues[k]? =some q0->∃o,(s.part (pOf c p)).owners[k]? =some o:=fun {k q0} h=>by
  have h1:=(List.getElem?_eq_some_iff.1 h).1
  rw [List.length_map] at hlen
  exact ⟨_,List.getElem?_eq_getElem (by omega)⟩
 have hgetQ:∀ {k:Nat} {q0:List Int},(s.part (pOf c p)).queues[k]? =some q0->((s.part (pOf c p)).queues.map (zaf fun z=>decide (z=(p:Int))))[k]? =some (zaf (fun z=>decide (z=(p:Int))) q0):=fun {k q0} h=>by grind
 have eY:zlh p (s.part (pOf c p))=({s.part (pOf c p) with owners:=(zca (p:Int) (s.part (pOf c p)).owners ((s.part (pOf c p)).queues.map (zaf fun z=>decide (z=(p:Int))))).1,queues:=(zca (p:Int) (s.part (pOf c p)).owners ((s.part (pOf c p)).queues.map (zaf fun z=>decide (z=(p:Int))))).2.1},(zca (p:Int) (s.part (pOf c p)).owners ((s.part (pOf c p)).queues.map (zaf fun z=>decide (z=(p:Int))))).2.2):=rfl
 rw [eY]
 dsimp only
 generalize zca (p:Int) (s.part (pOf c p)).owners ((s.part (pOf c p)).queues.map (zaf fun z=>decide (z=(p:Int))))=R at*
 have hback:∀(k:Nat) q',R.2.1[k]? =some q'->∃q0 o,(s.part (pOf c p)).queues[k]? =some q0/\(s.part (pOf c p)).owners[k]? =some o/\((o≠(p:Int)/\R.1[k]? =some o/\q'=zaf (fun z=>decide (z=(p:Int))) q0)\/(o=(p:Int)/\zaf (fun z=>decide (z=(p:Int))) q0=[]/\R.1[k]? =some (-1)/\q'=[])\/(o=(p:Int)/\∃a,zaf (fun z=>decide (z=(p:Int))) q0=a::q'/\R.1[k]? =some a/\a∈R.2.2)):=fun k q' h=>by
  have h1:=(List.getElem?_eq_some_iff.1 h).1
  rw [L2,List.length_map] at h1
  have e1:=List.getElem?_eq_getElem h1
  obtain ⟨o,e2⟩:=hgetO e1
  refine ⟨_,o,e1,e2,?_⟩
  rcases H k o _ e2 (hgetQ e1) with ⟨a,b,d⟩ | ⟨a,b,d,f⟩ | ⟨a,x,r,b,d,f,y⟩
  ·rw [h] at d;exact .inl ⟨a,b,Option.some.inj d⟩
  ·rw [h] at f;exact .inr (.inl ⟨a,b,d,Option.some.inj f⟩)
  grind
 have hsub:∀(k:Nat) q',R.2.1[k]? =some q'->∃q0,(s.part (pOf c p)).queues[k]? =some q0/\q'.Sublist (zaf (fun z=>decide (z=(p:Int))) q0):=fun k q' h=>by
  obtain ⟨q0,o,e1,e2,h3⟩:=hback k q' h
  refine ⟨q0,e1,?_⟩
  rcases h3 with ⟨_,_,e⟩ | ⟨_,_,_,e⟩ | ⟨_,a,e,_⟩
  ·rw [e];exact List.Sublist.refl _
  ·rw [e];exact List.nil_sublist _
  grind
 have hownAt:∀(k:Nat) o',R.1[k]? =some o'->o'= -1\/(o'≠(p:Int)/\((s.part (pOf c p)).owners[k]? =some o'\/∃q0,(s.part (pOf c p)).queues[k]? =some q0/\o'∈q0)):=fun k o' h=>by
  have h1:=(List.getElem?_eq_some_iff.1 h).1
  rw [L1] at h1
  have hq1:k<(s.part (pOf c p)).queues.length:=by grind
  have e1:=List.getElem?_eq_getElem hq1
  have e2:=List.getElem?_eq_getElem h1
  rcases H k _ _ e2 (hgetQ e1) with ⟨a,b,d⟩ | ⟨a,b,d,f⟩ | ⟨a,x,r,b,d,f,y⟩
  ·grind
  ·grind
  ·rw [h] at d;cases d
   have hx:o'∈zaf (fun z=>decide (z=(p:Int))) (s.part (pOf c p)).queues[k]:=by rw [b];exact List.mem_cons_self ..
   exact .inr ⟨hnotp e1 hx,.inr ⟨_,e1,dropFirst_sub.subset hx⟩⟩
 have g3:Good c fl (s.setI (pOf c p) {s.part (pOf c p) with owners:=R.1,queues:=R.2.1}) (fun q=>(q:Int)∈R.2.2) (fun q=>q=p) T:=by
  refine g.locks ⟨pm.cur,pm.logl,pm.log,pm.lost,pm.forb,pm.full,by show (R.1.length:Int)=_;rw [L1];exact pm.ownl,by show (R.2.1.length:Int)=_;rw [L2,List.length_map];exact pm.quel⟩ (fun k o' h=> ?_) (fun k q' h=> ?_) (fun k q0 h=> ?_) (fun q hq=>by rw [hq];exact hps) (fun _ h=>h.elim) fun q h=>.inr ?_
  ·rcases hownAt k o' h with h1 | ⟨h1,h2 | ⟨q0,h2,h3⟩⟩
   ·exact .inl h1
   ·exact g.own _ hi k o' h2
   ·obtain ⟨a1,a2,a3,a4,a5,_⟩:=hother h2 h3 h1
    refine .inr ⟨a1,a2,a3,.inl ?_⟩
    rw [livesB_iff]
    omega
  ·have h:R.2.1[k]? =some q':=h
   obtain ⟨q0,o,e1,e2,h3⟩:=hback k q' h
   obtain ⟨q1,f1,f2⟩:=hsub k q' h
   rw [e1] at f1
   cases f1
   obtain ⟨d1,d2,d3⟩:=g.que _ hi k q0 e1
   refine ⟨q0,e1,f2.trans dropFirst_sub,fun hne=> ?_,fun z hz hX=> ?_⟩
   ·show ∃o,R.1[k]? =some o/\o≠ -1/\o∉q'
    rcases h3 with ⟨x1,x2,x3⟩ | ⟨x1,x2,x3,x4⟩ | ⟨x1,a,x2,x3,x4⟩
    ·have hq0:q0≠ []:=fun h=>hne (List.eq_nil_of_sublist_nil (h▸f2.trans dropFirst_sub))
     obtain ⟨o1,y1,y2,y3⟩:=d3 hq0
     rw [e2] at y1
     cases y1
     exact ⟨o,x2,y2,fun hm=>y3 ((f2.trans dropFirst_sub).subset hm)⟩
    ·grind
    ·have ha:a∈zaf (fun z=>decide (z=(p:Int))) q0:=by rw [x2];exact List.mem_cons_self ..
     have:=(hother e1 (dropFirst_sub.subset ha) (hnotp e1 ha)).1
     refine ⟨a,x3,by omega,fun hm=> ?_⟩
     have nd:=d1.sublist (dropFirst_sub (f:=fun z=>decide (z=(p:Int))))
     grind
   ·have hz1:=f2.subset hz
    have hzp:=hnotp e1 hz1
    have hzo:=hother e1 (dropFirst_sub.subset hz1) hzp
    have ez:((z.toNat:Nat):Int)=z:=by omega
    have hX:((z.toNat:Nat):Int)∈R.2.2:=hX
    rw [ez] at hX
    rcases hgiven z hX with h5 | ⟨k2,q2,r2,y1,y2,y3⟩
    ·omega
    ·have hk:=hdist k k2 z _ _ (hgetQ e1) (hgetQ y2) hz1 (by grind)
     subst hk
     rw [e1] at y2
     cases y2
     rw [e2] at y1
     cases y1
     rcases h3 with ⟨x1,_⟩ | ⟨_,x2,_⟩ | ⟨x1,a,x2,x3,x4⟩
     ·exact x1 rfl
     ·grind
     ·rw [x2] at y3
      cases y3
      have nd:=d1.sublist (dropFirst_sub (f:=fun z=>decide (z=(p:Int))))
      grind
  ·obtain ⟨o,e2⟩:=hgetO h
   have key:∀z∈q0,z=(p:Int)\/z∈zaf (fun z=>decide (z=(p:Int))) q0:=fun z hz=>by
    by_cases e:z=(p:Int)
    ·exact .inl e
    ·exact .inr (zst hz (decide_eq_false e))
   show ∃q',R.2.1[k]? =some q'/\_
   rcases H k o _ e2 (hgetQ h) with ⟨a,b,d⟩ | ⟨a,b,d,f⟩ | ⟨a,x,r,b,d,f,y⟩
   ·refine ⟨_,d,fun z hz=> ?_⟩
    rcases key z hz with h1 | h1
    ·exact .inr (.inr (by omega))
    ·exact .inl h1
   ·refine ⟨_,f,fun z hz=> ?_⟩
    grind
   ·refine ⟨_,f,fun z hz=> ?_⟩
    rcases key z hz with h1 | h1
    ·exact .inr (.inr (by omega))
    ·have hz0:=(hother h (dropFirst_sub.subset h1) (hnotp h h1)).1
     rw [b] at h1
     rcases List.mem_cons.1 h1 with rfl | h1
     ·refine .inr (.inl ?_)
      show ((z.toNat:Nat):Int)∈R.2.2
      rw [show ((z.toNat:Nat):Int)=z by omega]
      exact y
     ·exact .inl h1
  ·have h:(q:Int)∈R.2.2:=h
   rcases hgiven _ h with h1 | ⟨k,q0,r,e1,e2,e3⟩
   ·omega
   ·have hm:(q:Int)∈zaf (fun z=>decide (z=(p:Int))) q0:=by rw [e3];exact List.mem_cons_self ..
    have ho:=hother e2 (dropFirst_sub.subset hm) (hnotp e2 hm)
    rw [Int.toNat_natCast] at ho
    omega
 refine ⟨Good.givens g3 HP fun a ha=> ?_,fun i hi' k h=> ?_,fun i hi' k q h hm=> ?_⟩
 ·rcases hgiven a ha with h | ⟨k,q0,r,e1,e2,e3⟩
  ·exact .inl h
  ·have hm:a∈zaf (fun z=>decide (z=(p:Int))) q0:=by rw [e3];exact List.mem_cons_self ..
   obtain ⟨a1,a2,a3,a4,a5,n,a6,_⟩:=hother e2 (dropFirst_sub.subset hm) (hnotp e2 hm)
   exact .inr ⟨a1,a2,a4,by show (s.proc a.toNat).state≠4;omega,n,a6⟩
 ·by_cases e:i=pOf c p
  ·subst e
   rw [zme] at h
   grind
  ·rw [znm e] at h
   rcases g.own i hi' k _ h with h1 | ⟨_,_,h1,_⟩
   ·omega
   grind
 ·by_cases e:i=pOf c p
  ·subst e
   rw [zme] at h
   obtain ⟨q0,e1,e2⟩:=hsub k q h
   grind
  ·rw [znm e] at h
   have:=((g.que i hi' k q h).2.1 _ hm).2.2.1
   grind
end
section
variable {c:PCfg} {fl:Nat->Nat->Bool} {s:MS} {T:Int} {p:Nat} {X Z:Nat->Prop}
theorem zop1 :∀ {l:List Int} {s:MS},(∀a∈l,a≠(p:Int))->((l.foldl zck s).proc p)=s.proc p
 | [],_,_=>rfl
 | a::l,s,h=>by
  rw [List.foldl_cons,zop1 fun b hb=>h b (List.mem_cons_of_mem _ hb)]
  unfold zck
  split
  ·have:=h a (List.mem_cons_self ..)
   exact zau (by omega)
  ·rfl
theorem zoq1 {q:Nat}:∀ {l:List Int} {s:MS},((l.foldl zck s).proc q).lanes=(s.proc q).lanes/\(l.foldl zck s).part=s.part
 | [],_=>⟨rfl,rfl⟩
 | a::l,s=>by
  have h:=zoq1 (q:=q) (l:=l) (s:=zck s a)
  have h2:((zck s a).proc q).lanes=(s.proc q).lanes/\(zck s a).part=s.part:=by
   unfold zck
   split
   ·unfold goesS
    refine ⟨?_,rfl⟩
    by_cases e:q=a.toNat
    ·subst e;rw [zaj];rfl
    ·rw [zau e]
   ·exact ⟨rfl,rfl⟩
  grind
theorem Good.empty (g:Good c fl s No (fun q=>q=p) T) (hp:p<nQ c) (hst:(s.proc p).state=5\/(s.proc p).state=6) (hno:∀i,i<nP c->∀(k:Nat),(s.part i).owners[k]?≠some (p:Int)) (hnq:∀i,i<nP c->∀(k:Nat) q,(s.part i).queues[k]? =some q->(p:Int)∉q)
  (hnw:∀r,r<nQ c->∀l∈(s.proc r).lanes,∀w∈l.waiters,w.proc≠(p:Int)):Good c fl (end6 (end5 s p) p) (fun q=>(q:Int)∈(((s.proc p).lanes.flatMap (·.waiters)).map (·.proc))) No T:=by
 have hat:(end6 (end5 s p) p).proc p={s.proc p with timer:=0,wake:=0,lanes:=(s.proc p).lanes.map endLX}:=by
  unfold end6 end5
  rw [zaj,zaj]
 have hne:∀r,r≠p->(end6 (end5 s p) p).proc r=s.proc r:=fun r e=>by
  unfold end6 end5
  rw [zau e,zau e]
 have hpart:(end6 (end5 s p) p).part=s.part:=rfl
 have htick:(end6 (end5 s p) p).tick=s.tick:=rfl
 have hX:∀q:Nat,(q:Int)∈(((s.proc p).lanes.flatMap (·.waiters)).map (·.proc))->q≠p/\(s.proc q).state=2/\∃n,insX c q (s.proc q)=some n/\n.op=24/\regR (s.proc q).regs n.b=(p:Int):=by
  intro q h
  obtain ⟨w,hw,e⟩:=List.mem_map.1 h
  obtain ⟨l,hl,hwl⟩:=List.mem_flatMap.1 hw
  obtain ⟨i,hi,he⟩:=List.getElem_of_mem hl
  have hg:(s.proc p).lanes[i]? =some l:=by rw [List.getElem?_eq_getElem hi,he]
  obtain ⟨a1,a2,a3,a4,a5⟩:=(g.lan p hp i l hg).2.2 w hwl
  grind
 generalize end6 (end5 s p) p=s' at*
 refine ⟨by rw [htick];exact g.tick,fun i hi=>by rw [hpart];exact g.part i hi,fun r hr=> ?_,fun i hi k o h=> ?_,fun i hi k q h=> ?_,fun r hr i l h=> ?_,fun r hr hx h=> ?_,fun r hr hx h=> ?_⟩
 ·rw [htick]
  have pm:=g.proc r hr
  have ht:=g.tick
  by_cases e:r=p
  ·subst e
   rw [hat]
   refine ⟨pm.st,pm.pc,by show (List.map _ _).length=_;rw [List.length_map];exact pm.lnl,by show 0<=(s.proc r).cursor/\(s.proc r).cursor<((List.map _ _).length:Int);rw [List.length_map];exact pm.cur,by show (0:Int)<=0/\(0:Int)<=_;omega,by show (0:Int)<=0/\(0:Int)<=_;omega,.inr ⟨fun h=>absurd h (Int.lt_irrefl 0),fun h=> ?_⟩,fun h=>⟨.inr rfl,(pm.dead h).2⟩,fun i l h=> ?_,fun h=> ?_,fun h=> ?_,fun h=> ?_,fun h=> ?_,pm.regs⟩
   ·have h:(s.proc r).state=4:=h;omega
   ·have h:((s.proc r).lanes.map endLX)[i]? =some l:=h
    rw [List.getElem?_map] at h
    cases e:(s.proc r).lanes[i]? with
    | none=>rw [e] at h;cases h
    | some l0=>
     rw [e] at h
     cases h
     exact pm.lan i l0 e
   ·have h:(s.proc r).state=1:=h;omega
   ·have h:(s.proc r).state=2:=h;omega
   ·have h:(s.proc r).state=3:=h;omega
   grind
  ·rw [hne r e]
   exact ⟨pm.st,pm.pc,pm.lnl,pm.cur,pm.tim,pm.wak,.inr (pm.slp.resolve_left e),fun h=>⟨.inr ((pm.dead h).1.resolve_left e),(pm.dead h).2⟩,pm.lan,pm.recv,pm.snd,pm.lck,pm.slpi,pm.regs⟩
 ·rw [hpart] at h
  rcases g.own i hi k o h with h1 | ⟨h1,h2,h3,h4⟩
  ·exact .inl h1
  grind
 ·rw [hpart] at h ⊢
  obtain ⟨b1,b2,b3⟩:=g.que i hi k q h
  refine ⟨b1,fun z hz=> ?_,b3⟩
  obtain ⟨a1,a2,a3,a4,a5⟩:=b2 z hz
  have hzp:z.toNat≠p:=fun e=>hnq i hi k q h (by rw [show (p:Int)=z by clear a5;omega];exact hz)
  have a5:=a5.resolve_left hzp
  refine ⟨a1,a2,a3,fun hx=> ?_,.inr ?_⟩
  ·have:=(hX _ hx).2.1
   have h9:=a5.1
   clear a5
   omega
  grind
 ·by_cases e:r=p
  ·subst e
   rw [hat] at h
   have h:((s.proc r).lanes.map endLX)[i]? =some l:=h
   rw [List.getElem?_map] at h
   cases e:(s.proc r).lanes[i]? with
   | none=>grind
   | some l0=>
    rw [e] at h
    cases h
    exact ⟨List.Pairwise.nil,fun h=>absurd rfl h,fun w hw=>by cases hw⟩
  ·rw [hne r e] at h
   obtain ⟨b1,b2,b3⟩:=g.lan r hr i l h
   refine ⟨b1,fun hw=> ?_,fun w hw=> ?_⟩
   ·grind
   ·obtain ⟨a1,a2,a3,a4,a5⟩:=b3 w hw
    have hwp:=hnw r hr l (List.mem_of_getElem? h) w hw
    have hwp:w.proc.toNat≠p:=fun e=>hwp (by clear a5;omega)
    obtain ⟨c1,n,c2,c3,c4,c5⟩:=a5.resolve_left hwp
    refine ⟨a1,a2,a3,fun hx=> ?_,.inr ?_⟩
    ·obtain ⟨_,_,n',d1,_,d2⟩:=hX _ hx
     rw [c2] at d1
     cases d1
     rw [c4] at d2
     clear a5
     omega
    grind
 ·have hrp:r≠p:=fun e=>by grind
  rw [hne r hrp] at h
  rw [hpart]
  exact g.in3 r hr (fun h=>h) h
 ·have hrp:r≠p:=fun e=>by subst e;rw [hat] at h;have h:(s.proc r).state=2:=h;omega
  rw [hne r hrp] at h
  obtain ⟨r',h1,l,h2,w,h3,h4⟩:=g.in2 r hr (fun h=>h) h
  have hr':r'≠p:=fun e=>by
   subst e
   refine hx ?_
   show (r:Int)∈_
   exact List.mem_map.2 ⟨w,List.mem_flatMap.2 ⟨l,List.mem_of_getElem? h2,h3⟩,h4⟩
  grind
theorem Good.ends (m:CfgM c) (g:Good c fl s No No T) {st:Int} (hst:st=5\/st=6) (hp:p<nQ c):Good c fl (endS c s p st) No No T:=by
 have hi:=m.pOf_lt (p:=p)
 rw [zut1]
 have g1:=g.dying (st:=st) hst hp
 have e1:((end1 s p st).proc p).state=st:=by unfold end1;rw [zaj]
 obtain ⟨g2,hw2⟩:=Good.leave (p:=p) (s:=end1 s p st) (L:=ofI c (pOf c p)) g1 ⟨by rw [e1];omega,by rw [e1];omega⟩ fun q=>ofI_mem
 have g2:Good c fl (end2 c s p st) No (fun q=>q=p) T:=g2
 have hw2:∀r,r<nQ c->∀l∈((end2 c s p st).proc r).lanes,∀w∈l.waiters,w.proc≠(p:Int):=hw2
 have e2:((end2 c s p st).proc p).state=st:=by
  show (if p∈ofI c (pOf c p) then zoq p ((end1 s p st).proc p) else (end1 s p st).proc p).state=st
  split<;>exact e1
 obtain ⟨g4,hno,hnq⟩:=g2.endLocks hi (by rw [e2];omega)
 have g4:Good c fl (end4 c (end2 c s p st) p) No (fun q=>q=p) T:=g4
 have hk:=fun q=>zoq1 (q:=q) (l:=(zlh p ((end2 c s p st).part (pOf c p))).2) (s:=end3 c (end2 c s p st) p)
 have hpart4:(end4 c (end2 c s p st) p).part=(end3 c (end2 c s p st) p).part:=(hk 0).2
 have hlan4:∀q,((end4 c (end2 c s p st) p).proc q).lanes=((end2 c s p st).proc q).lanes:=fun q=>(hk q).1
 have hself:(end4 c (end2 c s p st) p).proc p=(end2 c s p st).proc p:=by
  refine zop1 (s:=end3 c (end2 c s p st) p) fun a ha=> ?_
  have hlen:((end2 c s p st).part (pOf c p)).owners.length=(((end2 c s p st).part (pOf c p)).queues.map (zaf fun z=>decide (z=(p:Int)))).length:=by
   have:=(g2.part _ hi).ownl
   have:=(g2.part _ hi).quel
   grind
  rcases (zoo1 (p:=(p:Int)) hlen).2.2.2.1 a ha with h | ⟨k,r,h1,h2⟩
  ·omega
  ·intro e
   rw [List.getElem?_map] at h2
   cases e3:((end2 c s p st).part (pOf c p)).queues[k]? with
   | none=>grind
   | some q0=>
    rw [e3] at h2
    have h2:=Option.some.inj h2
    have nd:=(g2.que _ hi k q0 e3).1
    exact zpf (g:=fun z=>z) (by simpa using nd) a (by grind) e
 have hst4:((end4 c (end2 c s p st) p).proc p).state=5\/((end4 c (end2 c s p st) p).proc p).state=6:=by grind
 generalize end4 c (end2 c s p st) p=s4 at*
 have g6:=g4.empty hp hst4 (fun i hi k=>by rw [hpart4];exact hno i hi k) (fun i hi k q h=>by rw [hpart4] at h;exact hnq i hi k q h) fun r hr l hl=>by grind
 have e7:end7 c (end5 s4 p) p=((s4.proc p).lanes.flatMap (·.waiters)).foldl (fun s w=>toldS c s w.proc.toNat 2) (end6 (end5 s4 p) p):=by
  unfold end7
  have:((end5 s4 p).proc p).lanes=(s4.proc p).lanes:=by unfold end5;rw [zaj]
  rw [this]
 rw [e7]
 refine Good.tolds g6 ?_ fun w hw=> ?_
 · -- who waits stands in one lane alone
  have key:∀(ls:List PLane) (j:Nat),(∀(i:Nat) l,ls[i]? =some l->(l.waiters.map (·.proc)).Nodup/\(l.waiters≠ []->i=j))->((ls.flatMap (·.waiters)).map (·.proc)).Nodup:=by
   intro ls
   induction ls with
   | nil=>intro j _;exact List.Pairwise.nil
   | cons a ls ih=>
    intro j h
    rw [List.flatMap_cons,List.map_append]
    obtain ⟨h1,h2⟩:=h 0 a rfl
    by_cases e:a.waiters=[]
    ·rw [e]
     cases j with
     | zero=>
      have:ls.flatMap (·.waiters)=[]:=by
       rw [List.flatMap_eq_nil_iff]
       intro l hl
       obtain ⟨i,hi,he⟩:=List.getElem_of_mem hl
       by_cases e2:l.waiters=[]
       ·exact e2
       ·have:=(h (i+1) l (by simp [List.getElem?_eq_getElem hi,he])).2 e2
        omega
      rw [this]
      exact List.Pairwise.nil
     | succ j=>
      refine ih j fun i l hl=> ?_
      obtain ⟨h3,h4⟩:=h (i+1) l (by simpa using hl)
      exact ⟨h3,fun hne=>by have:=h4 hne;omega⟩
    ·have hj:=h2 e
     subst hj
     have:ls.flatMap (·.waiters)=[]:=by
      rw [List.flatMap_eq_nil_iff]
      intro l hl
      obtain ⟨i,hi,he⟩:=List.getElem_of_mem hl
      by_cases e2:l.waiters=[]
      ·exact e2
      ·have:=(h (i+1) l (by simp [List.getElem?_eq_getElem hi,he])).2 e2
       omega
     rw [this]
     simpa using h1
  refine key _ (pOf c p) fun i l hl=> ?_
  obtain ⟨b1,b2,b3⟩:=g4.lan p hp i l hl
  grind
 ·obtain ⟨l,hl,hwl⟩:=List.mem_flatMap.1 hw
  obtain ⟨i,hi2,he⟩:=List.getElem_of_mem hl
  have hg:(s4.proc p).lanes[i]? =some l:=by rw [List.getElem?_eq_getElem hi2,he]
  obtain ⟨a1,a2,a3,a4,a5⟩:=(g4.lan p hp i l hg).2.2 w hwl
  have hwp:=hw2 p hp l (by rw [hlan4] at hl;exact hl) w hwl
  have hne:w.proc.toNat≠p:=fun e=>hwp (by clear a5;omega)
  obtain ⟨c1,n,c2,_⟩:=a5.resolve_left hne
  have e:(end6 (end5 s4 p) p).proc w.proc.toNat=s4.proc w.proc.toNat:=by
   unfold end6 end5
   rw [zau hne,zau hne]
  grind
end
section
variable {c:PCfg} {fl:Nat->Nat->Bool} {s:MS} {T:Int} {p:Nat} {t:Int} {x:PProcess} {z:Prop}
theorem Good.out (m:CfgM c) (g:Good c fl s No No T) {v:Int} (hp:p<nQ c) (ht:T=s.tick+1):Good c fl (outS c s p v) No No T:=by
 have hi:=m.pOf_lt (p:=p)
 have pm:=g.part _ hi
 have h0:=g.tick
 unfold outS
 dsimp only
 by_cases h:((s.part (pOf c p)).log.length:Int)<c.log
 ·rw [if_pos h]
  refine g.parts ⟨pm.cur,by grind,⟨?_,fun e he=> ?_⟩,pm.lost,pm.forb,fun hl=> ?_,pm.ownl,pm.quel⟩ rfl rfl
  ·show ((s.part (pOf c p)).log++ [_]).Pairwise _
   rw [List.pairwise_append]
   refine ⟨pm.log.1,List.pairwise_singleton _ _,fun a ha b hb=> ?_⟩
   have:=pm.log.2 a ha
   grind
  ·have he:e∈(s.part (pOf c p)).log++ [⟨s.tick,(p:Int),v⟩]:=he
   rcases List.mem_append.1 he with he | he
   ·exact pm.log.2 e he
   grind
  ·have hl:0<(s.part (pOf c p)).lost:=hl
   have:=pm.full hl
   omega
 ·rw [if_neg h]
  exact g.parts ⟨pm.cur,pm.logl,pm.log,zgj1 pm.lost,pm.forb,fun _=>by grind,pm.ownl,pm.quel⟩ rfl rfl
theorem zww :x.put x.core=x:=rfl
theorem ProcM.sleep (pm:ProcM c fl t p z x) (h0:x.state=0) {n:PIns} (hn:insX c p x=some n) (ho:n.op=28) {w:Int} (hw:0<w/\w<=t+1099511627776):ProcM c fl t p z {x with state:=4,wake:=w} where
 st:=by simp
 pc:=pm.pc
 lnl:=pm.lnl
 cur:=pm.cur
 tim:=pm.tim
 wak:=by grind
 slp:=.inr ⟨fun _=>rfl,fun _=>hw.1⟩
 dead:=fun h=>by grind
 lan:=pm.lan
 recv:=fun h=>by grind
 snd:=fun h=>by grind
 lck:=fun h=>by grind
 slpi:=fun _=>⟨n,hn,ho⟩
 regs:=pm.regs
theorem ProcM.timer (pm:ProcM c fl t p z x) (h0:x.state=0) {w:Int} (hw:0<=w/\w<=t+1099511627776):ProcM c fl t p z {x with fired:=false,timer:=w} where
 st:=pm.st
 pc:=pm.pc
 lnl:=pm.lnl
 cur:=pm.cur
 tim:=hw
 wak:=pm.wak
 slp:=pm.slp
 dead:=fun h=>by grind
 lan:=pm.lan
 recv:=fun h=>by grind
 snd:=pm.snd
 lck:=pm.lck
 slpi:=pm.slpi
 regs:=pm.regs
theorem Good.do_ {D:Int->Int->Int->Int} (m:CfgM c) (g:Good c fl s No No T) (hp:p<nQ c) (h0:(s.proc p).state=0) (ht:T=s.tick+1):Good c fl (doS c D fl s p) No No T:=by
 have pm:=g.proc p hp
 have htk:=g.tick
 have oo:Out s No No p:=zkb ⟨by omega,by omega⟩
 have hself:s.setP p (s.proc p)=s:=by unfold MS.setP;rw [zlg]
 have hrdy:∀ {y:PProcess},y.state=0\/y.state=4->(zcv (s.proc p)=true->zcv y=true):=fun {y} hy _=>by rw [livesB_iff];omega
 unfold doS
 dsimp only
 rcases zur1 (D:=D) (l:=zcj c p) (k:=(s.proc p).core) (tk:=s.tick) (self:=(p:Int)) with ⟨e1,e2⟩ | ⟨n,hn,hw,⟨_,e⟩ | ⟨w,st,hwt,e⟩⟩
 ·rw [e1,if_pos rfl,e2,zww,hself]
  exact g.ends m (.inl rfl) hp
 ·rw [e]
  dsimp only
  rw [if_neg (by omega),if_neg (by omega),if_neg (by omega),if_neg (by omega),if_neg (by omega),if_neg (by omega),if_neg (by omega),if_neg (by omega),if_neg (by omega)]
  have hr:=zxj1 (D:=D) (tk:=s.tick) (self:=(p:Int)) hn hw pm.regs
  exact znr (g.core oo pm rfl h0 hr.1 hr.2)
 ·rw [e]
  dsimp only
  have hins:insX c p (s.proc p)=some n:=hn
  have hlt:=zaa1 hins
  have gn:Good c fl (s.setP p ((s.proc p).put (nextC (s.proc p).core))) No No T:=znr (g.core oo pm rfl h0 ⟨by show 0<=(s.proc p).pc+1;omega,by show (s.proc p).pc+1<=_;omega⟩ pm.regs)
  have hmn:∀v:Int,0<v->0<mnI v 1099511627776/\mnI v 1099511627776<=1099511627776:=fun v hv=>by unfold mnI;split<;>omega
  rcases zxi1 hwt with ⟨a,b⟩ | ⟨o,a,b⟩ | ⟨o,a,b⟩ | ⟨o,a,b⟩ | ⟨a,b⟩ | ⟨o,a,b⟩ | ⟨o,a,d,b⟩ | ⟨o,a,d,b⟩ | ⟨a,b⟩
  ·rw [if_pos a,b]
   simp only [if_true]
   rw [zww,hself]
   exact g.ends m (.inl rfl) hp
  ·rw [a,b]
   dsimp only
   rw [if_neg (by omega),if_pos rfl]
   simp only [if_true]
   rw [zww,hself]
   exact g.send m hp h0 hins o rfl rfl
  ·rw [if_neg (by omega),if_neg (by omega),if_pos a,b]
   simp only [if_true]
   rw [zww,hself]
   exact g.take m hp h0 hins fun _=>o
  ·rw [if_neg (by omega),if_neg (by omega),if_neg (by omega),if_pos a,b]
   simp only [if_true]
   rw [zww,hself]
   exact g.take m hp h0 hins fun h=>by cases h
  ·rw [if_neg (by omega),if_neg (by omega),if_neg (by omega),if_neg (by omega),if_pos a,b]
   simp only [Bool.false_eq_true,if_false]
   rw [zaj]
   have oo1:Out (s.setP p ((s.proc p).put (nextC (s.proc p).core))) No No p:=zkb (by rw [zaj];exact ⟨by show (s.proc p).state≠2;omega,by show (s.proc p).state≠3;omega⟩)
   have pm1:=gn.proc p hp
   rw [zaj] at pm1
   have htim:0<=(if 0<w.value then s.tick+mnI w.value 1099511627776 else 0)/\(if 0<w.value then s.tick+mnI w.value 1099511627776 else 0)<=s.tick+1099511627776:=by
    grind
   refine znr (gn.run oo1 (pm1.timer h0 htim) ⟨by show (s.proc p).state≠2;omega,by show (s.proc p).state≠3;omega⟩ (by rw [zaj]) fun _=> ?_)
   rw [livesB_iff]
   exact ⟨by show (s.proc p).state≠5;omega,by show (s.proc p).state≠6;omega⟩
  ·rw [if_neg (by omega),if_neg (by omega),if_neg (by omega),if_neg (by omega),if_neg (by omega),if_pos a,b]
   simp only [if_true]
   rw [zww,hself]
   have hmx:0<mxI w.value 1:=by unfold mxI;split<;>omega
   have:=hmn _ hmx
   refine znr (g.run oo (pm.sleep h0 hins o (w:=s.tick+mnI (mxI w.value 1) 1099511627776) ⟨by omega,by omega⟩) ⟨by show (4:Int)≠2;omega,by show (4:Int)≠3;omega⟩ rfl fun _=> ?_)
   grind
  ·rw [if_neg (by omega),if_neg (by omega),if_neg (by omega),if_neg (by omega),if_neg (by omega),if_neg (by omega),if_pos a,b]
   simp only [if_true]
   rw [zww,hself]
   exact g.lock m hp h0 hins o d.symm
  ·rw [if_neg (by omega),if_neg (by omega),if_neg (by omega),if_neg (by omega),if_neg (by omega),if_neg (by omega),if_neg (by omega),if_pos a,b]
   simp only [Bool.false_eq_true,if_false]
   have hwl:=zau1 (m.ins hins).1 (.inr o)
   exact gn.unlock m hp (by rw [d];exact hwl)
  ·rw [if_neg (by omega),if_neg (by omega),if_neg (by omega),if_neg (by omega),if_neg (by omega),if_neg (by omega),if_neg (by omega),if_neg (by omega),if_pos a,b]
   simp only [Bool.false_eq_true,if_false]
   exact gn.out m hp ht
end
section
variable {c:PCfg} {fl:Nat->Nat->Bool} {s:MS} {T:Int} {p:Nat} {t:Int} {x:PProcess} {z:Prop}
theorem zkj2 {to v:Int}:(sendS c fl s p to v).tick=s.tick:=by
 unfold sendS
 repeat' split
 all_goals rfl
theorem zro1 {a:Int}:(zck s a).tick=s.tick:=by unfold zck;split<;>rfl
theorem zor1 :∀ {l:List Int} {s:MS},(l.foldl zck s).tick=s.tick
 | [],_=>rfl
 | a::l,s=>by rw [List.foldl_cons,zor1,zro1]
theorem zrp1 {v:Int}:∀ {l:List zdi} {s:MS},(l.foldl (fun s w=>toldS c s w.proc.toNat v) s).tick=s.tick
 | [],_=>rfl
 | a::l,s=>by rw [List.foldl_cons,zrp1];rfl
theorem zxr1 {b:Bool}:(takeS c s p b).tick=s.tick:=by
 unfold takeS
 dsimp only
 repeat' split
 all_goals rfl
theorem zkk2 {n:Int}:(lockS c s p n).tick=s.tick:=by
 unfold lockS
 dsimp only
 split<;>rfl
theorem zaw2 {n:Int}:(zuo c s p n).tick=s.tick:=by
 unfold zuo
 dsimp only
 split
 ·split
  ·rfl
  ·exact zro1
 ·rfl
theorem zdt2 {st:Int}:(endS c s p st).tick=s.tick:=by
 rw [zut1]
 unfold end7
 rw [zrp1]
 show (end4 c (end2 c s p st) p).tick=_
 unfold end4
 rw [zor1]
 rfl
theorem zkl2 {D:Int->Int->Int->Int}:(doS c D fl s p).tick=s.tick:=by
 unfold doS
 dsimp only
 split
 ·exact zdt2
 split
 ·exact zkj2
 split
 ·exact zxr1
 split
 ·exact zxr1
 split
 ·rfl
 split
 ·rfl
 split
 ·exact zkk2
 split
 ·exact zaw2
 split
 ·rfl
 ·rfl
theorem Good.widen {X Z:Nat->Prop} {T':Int} (g:Good c fl s X Z T) (h:T<=T'):Good c fl s X Z T':=
 ⟨g.tick,fun i hi=>by
  have pm:=g.part i hi
  exact ⟨pm.cur,pm.logl,⟨pm.log.1,fun e he=>by have:=pm.log.2 e he;omega⟩,pm.lost,pm.forb,pm.full,pm.ownl,pm.quel⟩,g.proc,g.own,g.que,g.lan,g.in3,g.in2⟩
theorem Good.due1 (g:Good c fl s No No T) (hp:p<nQ c):Good c fl (s.setP p (dueX s.tick (s.proc p))) No No T:=by
 have htk:=g.tick
 have hself:s.setP p (s.proc p)=s:=by unfold MS.setP;rw [zlg]
 have g1:Good c fl (s.setP p (if 0<(s.proc p).wake/\(s.proc p).wake<=s.tick then {s.proc p with wake:=0,state:=0,pc:=(s.proc p).pc+1} else s.proc p)) No No T:=by
  by_cases h:0<(s.proc p).wake/\(s.proc p).wake<=s.tick
  ·rw [if_pos h]
   have pm:=g.proc p hp
   have h4:=(pm.slp.resolve_left (fun h=>h)).1 h.1
   obtain ⟨n,hn,_⟩:=pm.slpi h4
   have hlt:=zaa1 hn
   refine znr (g.run (zkb ⟨by omega,by omega⟩) ⟨by show (0:Int)<=0/\(0:Int)<=6;omega,by show 0<=(s.proc p).pc+1/\(s.proc p).pc+1<=_;omega,pm.lnl,pm.cur,pm.tim,by show (0:Int)<=0/\(0:Int)<=_;omega,.inr ⟨fun h=>absurd h (Int.lt_irrefl 0),fun h=>by have h:(0:Int)=4:=h;omega⟩,fun h=>by have h:(0:Int)=5\/(0:Int)=6:=h;omega,pm.lan,fun h=>by have h:(0:Int)=1:=h;omega,fun h=>by have h:(0:Int)=2:=h;omega,fun h=>by have h:(0:Int)=3:=h;omega,fun h=>by have h:(0:Int)=4:=h;omega,pm.regs⟩ ⟨by show (0:Int)≠2;omega,by show (0:Int)≠3;omega⟩ rfl fun _=>rfl)
  ·rw [if_neg h,hself];exact g
 generalize hy:(if 0<(s.proc p).wake/\(s.proc p).wake<=s.tick then ({s.proc p with wake:=0,state:=0,pc:=(s.proc p).pc+1}:PProcess) else s.proc p)=y at g1
 have e:dueX s.tick (s.proc p)=if 0<y.timer/\y.timer<=s.tick then {y with timer:=0,fired:=true,state:=if y.state=1 then 0 else y.state} else y:=by
  unfold dueX
  dsimp only
  rw [hy]
 rw [e]
 by_cases h:0<y.timer/\y.timer<=s.tick
 ·rw [if_pos h]
  have pm:=g1.proc p hp
  rw [zaj] at pm
  have hst:(if y.state=1 then (0:Int) else y.state)=y.state\/(y.state=1/\(if y.state=1 then (0:Int) else y.state)=0):=by
   by_cases h:y.state=1
   ·right;exact ⟨h,if_pos h⟩
   ·left;exact if_neg h
  have hcases:∀ {m:Int},m≠0->(if y.state=1 then (0:Int) else y.state)=m->y.state=m/\y.state≠1:=fun {m} hm h=>by
   by_cases h1:y.state=1
   ·rw [if_pos h1] at h;exact absurd h.symm hm
   ·rw [if_neg h1] at h;exact ⟨h,h1⟩
  have hb:=pm.st
  have g2:=g1.lanes (p:=p) (x':={y with timer:=0,fired:=true,state:=if y.state=1 then 0 else y.state}) (X':=No)
   ⟨by show 0<=(if y.state=1 then (0:Int) else y.state)/\(if y.state=1 then (0:Int) else y.state)<=6;split<;>omega,pm.pc,pm.lnl,pm.cur,by show (0:Int)<=0/\(0:Int)<=_;have:(s.setP p y).tick=s.tick:=rfl;omega,pm.wak,
    pm.slp.imp (fun h=>h) fun h2=>⟨fun h3=>by
     have:=h2.1 h3
     show (if y.state=1 then (0:Int) else y.state)=4
     rw [if_neg (by omega)];exact this,fun h3=>h2.2 (hcases (by decide) h3).1⟩,
    fun h3=>by
     have h3:(if y.state=1 then (0:Int) else y.state)=5\/(if y.state=1 then (0:Int) else y.state)=6:=h3
     have h4:y.state=5\/y.state=6:=h3.imp (fun h=>(hcases (by decide) h).1) fun h=>(hcases (by decide) h).1
     have:=(pm.dead h4).1.resolve_left (fun h=>h)
     omega,
    pm.lan,fun h3=>absurd (hcases (by decide) h3).1 (hcases (by decide) h3).2,fun h3=>pm.snd (hcases (by decide) h3).1,fun h3=>pm.lck (hcases (by decide) h3).1,fun h3=>pm.slpi (hcases (by decide) h3).1,pm.regs⟩
   (by rw [zaj];exact hst) (by rw [zaj]) (by rw [zaj]) (by rw [zaj]) (fun i l l' e1 e2=>by
    rw [zaj] at e1
    have e2:y.lanes[i]? =some l':=e2
    rw [e1] at e2
    cases e2
    refine ⟨List.Sublist.refl _,fun hne=> ?_,fun w hw=>.inl hw⟩
    exact ((g1.lan p hp i l (by rw [zaj];exact e1)).2.1 hne).2.2) hp (fun _ h=>h) (fun _ h=>h.elim)
  rw [zkv] at g2
  exact g2
 grind
def dueL (s:MS) (l:List Nat):MS:=⟨s.tick,s.part,fun q=>if q∈l then dueX s.tick (s.proc q) else s.proc q⟩
theorem Good.dues (g:Good c fl s No No T):∀(l:List Nat),(∀q∈l,q<nQ c)->l.Nodup->Good c fl (dueL s l) No No T
 | [],_,_=>by
  have e:dueL s []=s:=by unfold dueL;simp
  rw [e];exact g
 | q::l,h,hnd=>by
  rw [List.nodup_cons] at hnd
  have g1:=g.dues l (fun r hr=>h r (List.mem_cons_of_mem _ hr)) hnd.2
  have g2:=g1.due1 (p:=q) (h q (List.mem_cons_self ..))
  have e1:(dueL s l).proc q=s.proc q:=if_neg hnd.1
  have e:(dueL s l).setP q (dueX (dueL s l).tick ((dueL s l).proc q))=dueL s (q::l):=by
   rw [e1]
   unfold dueL MS.setP
   congr 1
   funext r
   unfold fset
   by_cases e:r=q
   ·subst e
    rw [if_pos rfl,if_pos (by simp)]
   ·rw [if_neg e]
    show (if r∈l then dueX s.tick (s.proc r) else s.proc r)=_
    by_cases e2:r∈l
    ·rw [if_pos e2,if_pos (by simp [e2])]
    ·rw [if_neg e2,if_neg (by simp [e2,e])]
  grind
theorem Good.due (g:Good c fl s No No T) {i:Nat}:Good c fl (dueS c s i) No No T:=by
 have h:=g.dues (ofI c i) (fun q hq=>(ofI_mem.1 hq).1) zxk1
 have e:dueL s (ofI c i)=dueS c s i:=by
  unfold dueL dueS
  congr 1
  funext q
  by_cases h:q<nQ c/\pOf c q=i
  ·rw [if_pos h,if_pos (ofI_mem.2 h)]
  ·rw [if_neg h,if_neg fun h2=>h (ofI_mem.1 h2)]
 grind
theorem zgk2 {i a:Nat} (h:pickI c s i=some a):a<(ofI c i).length/\(s.proc ((ofI c i).getD a 0)).state=0:=by
 unfold pickI at h
 have h1:=List.find?_some h
 have h2:=List.mem_of_find?_eq_some h
 obtain ⟨k,hk,e⟩:=List.mem_map.1 h2
 have hk:=List.mem_range.1 hk
 refine ⟨?_,of_decide_eq_true h1⟩
 rw [<-e]
 exact Nat.mod_lt _ (by omega)
theorem Good.turn {D:Int->Int->Int->Int} (m:CfgM c) (g:Good c fl s No No T) {i a:Nat} (hi:i<nP c) (ht:T=s.tick+1) (h:pickI c s i=some a):Good c fl (turnS c D fl s i a) No No T:=by
 obtain ⟨h1,h2⟩:=zgk2 h
 unfold turnS
 have pm:=g.part i hi
 have g1:Good c fl (s.setI i {s.part i with cursor:=((a+1:Nat):Int)%((ofI c i).length:Int)}) No No T:=by
  refine g.parts ⟨?_,pm.logl,pm.log,pm.lost,pm.forb,pm.full,pm.ownl,pm.quel⟩ rfl rfl
  have e1:=Int.emod_nonneg ((a+1:Nat):Int) (show ((ofI c i).length:Int)≠0 by omega)
  have e2:=Int.emod_lt_of_pos ((a+1:Nat):Int) (show (0:Int)<((ofI c i).length:Int) by omega)
  grind
 have hm:(ofI c i).getD a 0∈ofI c i:=by
  grind
 exact g1.do_ m (ofI_mem.1 hm).1 h2 ht
theorem Good.turns {D:Int->Int->Int->Int} (m:CfgM c) {i:Nat} (hi:i<nP c):∀(n:Nat) {s:MS},Good c fl s No No T->T=s.tick+1->Good c fl (zix c D fl i n s) No No T/\(zix c D fl i n s).tick=s.tick
 | 0,s,g,_=>⟨g,rfl⟩
 | n+1,s,g,ht=>by
  unfold zix
  cases h:pickI c s i with
  | none=>exact ⟨g,rfl⟩
  | some a=>
   have et:(turnS c D fl s i a).tick=s.tick:=zkl2
   have:=Good.turns (D:=D) m hi n (g.turn (D:=D) m hi ht h) (by rw [et];exact ht)
   grind
theorem CfgM.ownerI_lt (m:CfgM c) {t:Int}:zds c t<nP c:=by
 unfold zds
 have h:=m.table
 have hlen:0<c.table.length:=List.length_pos_iff.2 h.1
 have hlt:t.toNat%c.table.length<c.table.length:=Nat.mod_lt _ hlen
 have:c.table.getD (t.toNat%c.table.length) 0=c.table[t.toNat%c.table.length]:=by simp [List.getD,List.getElem?_eq_getElem hlt]
 rw [this]
 have:=h.2.2 _ (List.getElem_mem hlt)
 omega
theorem ProcM.later (pm:ProcM c fl t p z x) {t':Int} (h:t<=t'):ProcM c fl t' p z x:=
 ⟨pm.st,pm.pc,pm.lnl,pm.cur,by have:=pm.tim;omega,by have:=pm.wak;omega,pm.slp,pm.dead,pm.lan,pm.recv,pm.snd,pm.lck,pm.slpi,pm.regs⟩
theorem Good.tick_ {D:Int->Int->Int->Int} (m:CfgM c) (g:Good c fl s No No s.tick):Good c fl (tickS c D fl s) No No (tickS c D fl s).tick:=by
 have g1:=(g.widen (T':=s.tick+1) (by omega)).due (i:=zds c s.tick)
 obtain ⟨g2,e2⟩:=Good.turns (D:=D) m (m.ownerI_lt (t:=s.tick)) c.fuel.toNat g1 rfl
 have e2:(zix c D fl (zds c s.tick) c.fuel.toNat (dueS c s (zds c s.tick))).tick=s.tick:=e2
 have h0:=g2.tick
 unfold tickS
 dsimp only
 rw [e2]
 exact ⟨by grind,g2.part,fun q hq=>(g2.proc q hq).later (by grind),g2.own,g2.que,g2.lan,g2.in3,g2.in2⟩
theorem zos1 {v:Int} (h:ztg c s v=0):0<=v/\v.toNat<nQ c/\zcv (s.proc v.toNat)=true:=by
 unfold ztg at h
 grind
theorem Good.inject (g:Good c fl s No No T) {q v:Int}:Good c fl (zoa c s q v).1 No No T:=by
 unfold zoa
 by_cases h:ztg c s q≠0
 ·grind
 rw [if_neg h]
 obtain ⟨h1,h2,h3⟩:=zos1 (Classical.not_not.1 h)
 have hln:∀l,(s.proc q.toNat).lanes[nP c]? =some l->(l.values.length:Int)<=c.lane/\Cnt l.taken/\Cnt l.dropped:=fun l hl=>by
  have:=(g.proc _ h2).lan _ l hl
  grind
 by_cases hf:fullX c (s.proc q.toNat) (nP c)=true
 ·rw [if_pos hf]
  exact g.lane h2 (i:=nP c) (f:=missL) (fun l hl=>⟨(hln l hl).1,(hln l hl).2.1,zgj1 (hln l hl).2.2,fun _ h=>by omega⟩) (fun l hl=>⟨rfl,fun _=>rfl⟩) false fun _ l hl=>hl
 ·rw [if_neg hf]
  have hnf:∀l,(s.proc q.toNat).lanes[nP c]? =some l->(l.values.length:Int)<c.lane:=fun l hl=>by
   unfold fullX at hf
   grind
  exact g.lane h2 (i:=nP c) (f:=inL v) (fun l hl=>⟨by
   show ((l.values++ [v]).length:Int)<=_
   grind,(hln l hl).2.1,(hln l hl).2.2,fun _ h=>by omega⟩) (fun l hl=>⟨rfl,fun hne=>by
   have:=((g.lan _ h2 _ l hl).2.1 hne).2.2
   grind⟩) true fun h=>by cases h
theorem Good.kill (m:CfgM c) (g:Good c fl s No No T) {q:Int}:Good c fl (killS c s q).1 No No T:=by
 unfold killS
 by_cases h:ztg c s q≠0
 ·grind
 rw [if_neg h]
 exact g.ends m (.inr rfl) (zos1 (Classical.not_not.1 h)).2.1
theorem zax2 {q v:Int}:(zoa c s q v).1.tick=s.tick:=by
 unfold zoa
 split
 ·rfl
 ·split<;>rfl
theorem zkm2 {q:Int}:(killS c s q).1.tick=s.tick:=by
 unfold killS
 split
 ·rfl
 ·exact zdt2
theorem Good.first (m:CfgM c):Good c fl (zth c) No No (zth c).tick where
 tick:=Int.le_refl _
 part:=fun i hi=>by
  have h1:=m.locks
  have h2:=m.log
  refine ⟨⟨Int.le_refl _,fun h=>absurd h (Int.lt_irrefl 0)⟩,by show ((0:Nat):Int)<=c.log;omega,⟨List.Pairwise.nil,fun e he=>by cases he⟩,⟨Int.le_refl _,by show (0:Int)<=65535;omega⟩,⟨Int.le_refl _,by show (0:Int)<=65535;omega⟩,fun h=>absurd h (Int.lt_irrefl 0),?_,?_⟩
  ·show ((List.replicate c.locks.toNat (-1:Int)).length:Int)=_
   grind
  ·show ((List.replicate c.locks.toNat ([]:List Int)).length:Int)=_
   grind
 proc:=fun p hp=>by
  refine ⟨by show (0:Int)<=0/\(0:Int)<=6;omega,by show (0:Int)<=0/\(0:Int)<=_;omega,List.length_replicate ..,?_,by show (0:Int)<=0/\(0:Int)<=0+1099511627776;omega,by show (0:Int)<=0/\(0:Int)<=0+1099511627776;omega,.inr ⟨fun h=>absurd h (Int.lt_irrefl 0),fun h=>by have h:(0:Int)=4:=h;omega⟩,fun h=>by have h:(0:Int)=5\/(0:Int)=6:=h;omega,fun i l h=> ?_,fun h=>by have h:(0:Int)=1:=h;omega,fun h=>by have h:(0:Int)=2:=h;omega,fun h=>by have h:(0:Int)=3:=h;omega,fun h=>by have h:(0:Int)=4:=h;omega,List.length_replicate ..⟩
  ·show (0:Int)<=0/\(0:Int)<((List.replicate (nP c+1) _).length:Int)
   simp
  ·have h:(List.replicate (nP c+1) (⟨[],[],0,0⟩:PLane))[i]? =some l:=h
   have hl:=List.eq_of_mem_replicate (List.mem_of_getElem? h)
   subst hl
   have:=m.lane
   refine ⟨by show ((0:Nat):Int)<=_;omega,⟨Int.le_refl _,by show (0:Int)<=65535;omega⟩,⟨Int.le_refl _,by show (0:Int)<=65535;omega⟩,fun h=> ?_⟩
   rcases h with h | h | h
   ·exact absurd rfl h
   ·exact absurd h (Int.lt_irrefl 0)
   grind
 own:=fun i hi k o h=>by
  have h:(List.replicate c.locks.toNat (-1:Int))[k]? =some o:=h
  grind
 que:=fun i hi k q h=>by
  have h:(List.replicate c.locks.toNat ([]:List Int))[k]? =some q:=h
  grind
 lan:=fun r hr i l h=>by
  have h:(List.replicate (nP c+1) (⟨[],[],0,0⟩:PLane))[i]? =some l:=h
  grind
 in3:=fun p hp _ h=>by have h:(0:Int)=3:=h;omega
 in2:=fun p hp _ h=>by have h:(0:Int)=2:=h;omega
end
section
variable {c:PCfg} {fl:Nat->Nat->Bool} {s:MS} {T:Int}
theorem Good.sane (m:CfgM c) (g:Good c fl s No No T):Sane c s where
 proc:=fun p hp=>by
  have pm:=g.proc p hp
  have hl:=m.code_len (p:=p)
  have hlane:=m.lane
  have hq:=m.procs
  refine ⟨by have:=pm.pc;omega,pm.lnl,pm.cur,fun l hm=> ?_⟩
  obtain ⟨i,hi,he⟩:=List.getElem_of_mem hm
  have hg:(s.proc p).lanes[i]? =some l:=by grind
  obtain ⟨a1,a2,a3,_⟩:=pm.lan i l hg
  obtain ⟨b1,b2,b3⟩:=g.lan p hp i l hg
  have hwho:∀w∈l.waiters,0<=w.proc/\w.proc<(nQ c:Int):=fun w hw=>by
   obtain ⟨c1,c2,_⟩:=b3 w hw
   omega
  have hshort:=zgc1 (nQ c) (l.waiters.map (·.proc)) b1 fun x hx=>by
   grind
  rw [List.length_map] at hshort
  exact ⟨by omega,by omega,a2,a3,b1,hwho⟩
 part:=fun i hi=>by
  have pm:=g.part i hi
  have h1:=m.log
  have h2:=m.locks
  have h3:=m.procs
  have h4:(ofI c i).length<=nQ c:=by
   have h1:(ofI c i).length<=(List.range (nQ c)).length:=List.length_filter_le ..
   grind
  have hq:∀q∈(s.part i).queues,q.Nodup/\∀z∈q,0<=z/\z<(nQ c:Int):=fun q hm=>by
   obtain ⟨k,hk,he⟩:=List.getElem_of_mem hm
   have hg:(s.part i).queues[k]? =some q:=by rw [List.getElem?_eq_getElem hk,he]
   obtain ⟨b1,b2,_⟩:=g.que i hi k q hg
   exact ⟨b1,fun z hz=>by obtain ⟨c1,c2,_⟩:=b2 z hz;omega⟩
  refine ⟨⟨pm.cur.1,?_⟩,by have:=pm.logl;omega,pm.lost,pm.forb,by have:=pm.ownl;have:=pm.quel;omega,pm.quel,⟨by have:=pm.quel;omega,fun q hm=> ?_⟩,hq⟩
  ·by_cases h:0<(s.part i).cursor
   ·have:=pm.cur.2 h;omega
   ·omega
  ·have:=zgc1 (nQ c) q (hq q hm).1 (hq q hm).2
   omega
theorem zof2 {i t:Nat} (ht:t<(ofI c i).length) (hno:∀k,k<t->(s.proc ((ofI c i).getD (((s.part i).cursor.toNat+k)%(ofI c i).length) 0)).state≠0) (h:(s.proc ((ofI c i).getD (((s.part i).cursor.toNat+t)%(ofI c i).length) 0)).state=0):
  pickI c s i=some (((s.part i).cursor.toNat+t)%(ofI c i).length):=by
 unfold pickI
 have e:List.range (ofI c i).length=List.range t++(t::(List.range (ofI c i).length).drop (t+1)):=by
  have h1:(List.range (ofI c i).length)[t]? =some t:=List.getElem?_range ht
  obtain ⟨h2,h3⟩:=List.getElem?_eq_some_iff.1 h1
  have h4:List.take t (List.range (ofI c i).length)=List.range t:=by rw [List.take_range,Nat.min_eq_left (by omega)]
  calc List.range (ofI c i).length=(List.range (ofI c i).length).take t++(List.range (ofI c i).length).drop t:=(List.take_append_drop t _).symm
   _=_:=by rw [h4,List.drop_eq_getElem_cons h2,h3]
 grind
theorem zog2 {i:Nat} (hno:∀k,k<(ofI c i).length->(s.proc ((ofI c i).getD (((s.part i).cursor.toNat+k)%(ofI c i).length) 0)).state≠0):pickI c s i=none:=by
 unfold pickI
 grind
theorem zay2 {D:Int->Int->Int->Int} {i a n:Nat} (h:pickI c s i=some a):zix c D fl i (n+1) s=zix c D fl i n (turnS c D fl s i a):=by
 have e:zix c D fl i (n+1) s=(match pickI c s i with
  | none=>s
  | some a=>zix c D fl i n (turnS c D fl s i a)):=rfl
 rw [e,h]
theorem Good.noWait (g:Good c fl s No No T) {p:Nat} (h0:(s.proc p).state=0):(∀q,q<nQ c->∀l∈(s.proc q).lanes,∀z∈l.waiters,z.proc≠(p:Int))/\∀i,i<nP c->∀q∈(s.part i).queues,(p:Int)∉q:=by
 have oo:Out s No No p:=zkb ⟨by omega,by omega⟩
 refine ⟨fun q hq l hl w hw e=> ?_,fun i hi q hq hm=> ?_⟩
 ·obtain ⟨i,hi,he⟩:=List.getElem_of_mem hl
  have hg:(s.proc q).lanes[i]? =some l:=by grind
  exact ((g.lan q hq i l hg).2.2 w hw).out oo (by omega)
 ·obtain ⟨k,hk,he⟩:=List.getElem_of_mem hq
  have hg:(s.part i).queues[k]? =some q:=by rw [List.getElem?_eq_getElem hk,he]
  exact ((g.que i hi k q hg).2.1 _ hm).out oo (by omega)
end
section
variable {h0 h1 k:Hp} {K:MK} {pm:Addr} {s:MS} {tm:Nat->Nat->Int}
theorem zoh2 {p:Int} {Q:Int->Hp->Prop} (m:MkOk h0 K) (mc:CfgM K.c) (o:Has h0 (MachA K pm s tm) k) (sa:Sane K.c s) (td:Tied K.c tm s) (hk:∀tm' k',Has h0 (MachA K pm (killS K.c s p).1 tm') k'->Tied K.c tm' (killS K.c s p).1->Q (killS K.c s p).2 k'):zdv Tryz.prog (some pm) p Q k:=by
 unfold zdv
 refine zja (zxm1 m o ?_)
 unfold killS at hk
 by_cases h:ztg K.c s p≠0
 ·grind
 rw [if_neg (by simpa using h)]
 rw [if_neg h] at hk
 obtain ⟨r1,hq,r3⟩:=zos1 (Classical.not_not.1 h)
 have et:((p.toNat:Nat):Int)=p:=by omega
 obtain ⟨g1,g2⟩:=m.ptr o hq
 rw [et] at g1 g2
 refine zab (o.rec1.ld (shf:=shSl) K.x.procs rfl ⟨g1,some (K.p p.toNat),g2,?_⟩)
 exact zjy (zdo2 m mc o sa hq fun k' o'=>hk _ k' o' (td.ended hq))
theorem zxs1 {t:Int} {Q:Int->Hp->Prop} (m:MkOk k K) (mc:CfgM K.c) (h00:0<=t) (hq:Q (zds K.c t:Int) k):zkl Tryz.prog (some K.sl) t Q k:=by
 unfold zkl
 obtain ⟨sl,n,e1,e2⟩:=m.s2
 have htab:=mc.table
 have hlen:=e2.1
 have hpos:0<K.c.table.length:=List.length_pos_iff.2 htab.1
 have ld:∀ {K':Sl->Prop},K' sl->LdW none shSl k (K.sl.add 0) K':=fun {K'} hK=>⟨sl,fun j v hv=>by
  cases j with
  | zero=>
   have:=e1 0 v (by simpa [zac,Sl.v] using hv)
   rw [zmr]
   exact this
  | succ j=>simp [zac] at hv,hK⟩
 rw [if_neg (by simp;omega)]
 refine zab (ld (zab (ld ⟨by omega,?_⟩)))
 have em:Int.tmod t ((sl.len:Nat):Int)=((t.toNat%K.c.table.length:Nat):Int):=by
  rw [Int.tmod_eq_emod_of_nonneg h00,hlen,Int.natCast_emod]
  congr 1
  omega
 rw [em]
 have hlt:t.toNat%K.c.table.length<K.c.table.length:=Nat.mod_lt _ hpos
 refine Rs.get (sh:=shInt .i64) e2 (fun _=>rfl) (by omega) (by omega) (by omega) fun (x:Int) hx=> ?_
 rw [Int.toNat_natCast] at hx
 unfold zds at hq
 have e5:K.c.table.getD (t.toNat%K.c.table.length) 0=x:=by simp [List.getD,hx]
 rw [e5] at hq
 have:=htab.2.2 x (List.mem_of_getElem? hx)
 grind
theorem zoi2 {Q:Int->Hp->Prop} (tk:zlj1) (m:MkOk h0 K) (mc:CfgM K.c) (o:Has h0 (MachA K pm s tm) k) (g:Good K.c (flC K.c) s No No s.tick) (ht:s.tick<4611686018427387904) (td:Tied K.c tm s)
  (hk:∀tm' k',Has h0 (MachA K pm (tickS K.c cpuD (flC K.c) s) tm') k'->Tied K.c tm' (tickS K.c cpuD (flC K.c) s)->Q (zds K.c s.tick:Int) k'):zdw Tryz.prog (some pm) Q k:=by
 unfold zdw
 have h00:=g.tick
 have hfuel:=mc.fuel
 have hi:=mc.ownerI_lt (t:=s.tick)
 have hprocs:=mc.procs
 refine zab (o.rec1.ld (shf:=shPtr) K.x.slots rfl ?_)
 refine zab (o.rec1.ld (shf:=shInt .i64) s.tick rfl ?_)
 rw [m.s1]
 refine zyk (zxs1 (m.mono o.le) mc h00 ?_)
 have etick:tickS K.c cpuD (flC K.c) s=⟨(zix K.c cpuD (flC K.c) (zds K.c s.tick) K.c.fuel.toNat (dueS K.c s (zds K.c s.tick))).tick+1,(zix K.c cpuD (flC K.c) (zds K.c s.tick) K.c.fuel.toNat (dueS K.c s (zds K.c s.tick))).part,(zix K.c cpuD (flC K.c) (zds K.c s.tick) K.c.fuel.toNat (dueS K.c s (zds K.c s.tick))).proc⟩:=rfl
 rw [etick] at hk
 generalize zds K.c s.tick=i at*
 obtain ⟨g1,g2⟩:=m.ptrI o hi
 refine zab (o.rec1.ld (shf:=shSl) K.x.parts rfl ⟨g1,some (K.q i),g2,?_⟩)
 have gd:=(g.widen (T':=s.tick+1) (by omega)).due (i:=i)
 refine ztx (zrk2 m mc o (g.sane mc) hi td fun tm1 k1 o1 td1=> ?_)
 have efuel:K.x.c_Fuel=K.c.fuel:=m.cfg.fuel
 have et1:(dueS K.c s i).tick=s.tick:=rfl
 generalize dueS K.c s i=s1 at*
 refine zab ?_
 rw [zmr]
 refine o1.rec1.ld (shf:=shInt .i64) K.x.c_Fuel rfl ?_
 rw [efuel]
 obtain ⟨gfin,tfin⟩:=Good.turns (D:=cpuD) mc hi K.c.fuel.toNat gd (by rw [et1])
 refine JoinW0.intro (fun k'=>∃tm',Has h0 (MachA K pm (zix K.c cpuD (flC K.c) i K.c.fuel.toNat s1) tm') k'/\Tied K.c tm' (zix K.c cpuD (flC K.c) i K.c.fuel.toNat s1)) ?_ ?_
 ·refine LoopW1.intro (fun (t:Int) k'=>0<=t/\t<=K.c.fuel/\∃s' tm',Has h0 (MachA K pm s' tm') k'/\Tied K.c tm' s'/\Good K.c (flC K.c) s' No No (s.tick+1)/\s'.tick=s.tick/\zix K.c cpuD (flC K.c) i (K.c.fuel-t).toNat s'=zix K.c cpuD (flC K.c) i K.c.fuel.toNat s1) (fun t _=>(K.c.fuel-t).toNat) ⟨by omega,by omega,s1,tm1,o1,td1,gd,et1,by rw [Int.sub_zero]⟩ ?_
  rintro t k' ⟨t0,t1,s',tm',o',td',g',ek',efin⟩
  by_cases h:t<K.c.fuel
  ·rw [if_pos (decide_eq_true h)]
   have hown:=(m.own i hi).mono o'.le
   have hol:=hown.1
   rw [List.length_map] at hol
   have hfew:(ofI K.c i).length<=1000:=by
    have h1:(ofI K.c i).length<=(List.range (nQ K.c)).length:=List.length_filter_le ..
    grind
   have en:(K.c.fuel-t).toNat=(K.c.fuel-(t+1)).toNat+1:=by omega
   rw [en] at efin
   have si:=(g'.sane mc).part i hi
   have hcur:=si.cur
   obtain ⟨h3,x,lp,wp,l3,hx,ox,_⟩:=o'.partR hi
   have ep:x.procs=K.own i:=hx.1
   have ec:x.cursor=(s'.part i).cursor:=hx.2.1
   refine zab (ox.ld (shf:=shSl) x.procs rfl ?_)
   rw [ep]
   refine LoopW1.intro (fun (j:Int) k2=>k2=k'/\0<=j/\j<=((ofI K.c i).length:Int)/\∀kk,kk<j.toNat->(s'.proc ((ofI K.c i).getD (((s'.part i).cursor.toNat+kk)%(ofI K.c i).length) 0)).state≠0) (fun j _=>((ofI K.c i).length-j).toNat) ⟨rfl,by omega,by omega,fun kk hkk=>by omega⟩ ?_
   rintro j _ ⟨rfl,j0,j1,hno⟩
   by_cases hj:j<((ofI K.c i).length:Int)
   ·rw [if_pos (decide_eq_true (by omega))]
    refine zab (ox.ld (shf:=shInt .i64) x.cursor rfl ?_)
    refine zab (ox.ld (shf:=shSl) x.procs rfl ?_)
    rw [ep,ec]
    have hat:Int.tmod (IntKind.wrap .i64 ((s'.part i).cursor+j)) (((K.own i).len:Nat):Int)=((((s'.part i).cursor.toNat+j.toNat)%(ofI K.c i).length:Nat):Int):=by
     rw [wrap64 (by omega) (by omega),Int.tmod_eq_emod_of_nonneg (by omega),hol,Int.natCast_emod]
     grind
    rw [hat]
    have hlt:((s'.part i).cursor.toNat+j.toNat)%(ofI K.c i).length<(ofI K.c i).length:=Nat.mod_lt _ (by omega)
    refine ⟨by omega,?_⟩
    refine zab (o'.rec1.ld (shf:=shSl) K.x.procs rfl ?_)
    refine zab (ox.ld (shf:=shSl) x.procs rfl ?_)
    rw [ep]
    generalize ha:((s'.part i).cursor.toNat+j.toNat)%(ofI K.c i).length=a at hlt ⊢
    refine Rs.get (sh:=shInt .i64) hown (fun _=>rfl) (by omega) (by omega) (by grind) fun (q':Int) hq'=> ?_
    rw [Int.toNat_natCast,List.getElem?_map] at hq'
    have hget:=List.getElem?_eq_getElem hlt
    rw [hget] at hq'
    have hq':((ofI K.c i)[a]:Int)=q':=Option.some.inj hq'
    have egd:(ofI K.c i).getD a 0=(ofI K.c i)[a]:=by grind
    have hqm:(ofI K.c i)[a]∈ofI K.c i:=List.getElem_mem hlt
    rw [<-egd] at hq' hqm
    generalize hqq:(ofI K.c i).getD a 0=q at hq' hqm
    subst hq'
    obtain ⟨hq,hpq⟩:=ofI_mem.1 hqm
    obtain ⟨g5,g6⟩:=m.ptr o' hq
    refine ⟨g5,some (K.p q),g6,?_⟩
    obtain ⟨h4,z,ad,l4,hz,oz,_⟩:=o'.procR hq
    refine zab (oz.ld (shf:=shInt .i64) z.state rfl ?_)
    have est:z.state=(s'.proc q).state:=hz.2.2.2.1
    rw [est]
    by_cases hs:(s'.proc q).state=0
    ·rw [if_pos (by rw [hs];rfl)]
     refine zab (ox.ld (shf:=shSl) x.procs rfl ?_)
     rw [ep]
     have hcv:Int.tmod (IntKind.wrap .i64 (((a:Nat):Int)+1)) (((K.own i).len:Nat):Int)=((a+1:Nat):Int)%((ofI K.c i).length:Int):=by
      rw [wrap64 (by omega) (by omega),Int.tmod_eq_emod_of_nonneg (by omega),hol]
      congr 1
     rw [hcv]
     refine ⟨by omega,?_⟩
     have hpick:pickI K.c s' i=some a:=by
      have:=zof2 (c:=K.c) (s:=s') (i:=i) (t:=j.toNat) (by omega) hno (by grind)
      rwa [ha] at this
     obtain ⟨h6,x6,lp6,wp6,l6,hx6,ox6,put6⟩:=o'.partR hi
     refine zab (ox6.st (⟨x6.procs,((a+1:Nat):Int)%((ofI K.c i).length:Int),x6.log,x6.lost,x6.forbidden,x6.locks,x6.wheel⟩:S_machine_part) (by show 1+1<=7;omega) rfl fun k3 o3=> ?_)
     have o4:=put6 (⟨x6.procs,((a+1:Nat):Int)%((ofI K.c i).length:Int),x6.log,x6.lost,x6.forbidden,x6.locks,x6.wheel⟩:S_machine_part) {s'.part i with cursor:=((a+1:Nat):Int)%((ofI K.c i).length:Int)} _ ⟨hx6.1,rfl,hx6.2.2⟩ rfl rfl rfl rfl o3
     have pm':=g'.part i hi
     have gc:Good K.c (flC K.c) (s'.setI i {s'.part i with cursor:=((a+1:Nat):Int)%((ofI K.c i).length:Int)}) No No (s.tick+1):=by
      refine g'.parts ⟨⟨Int.emod_nonneg _ (by omega),fun _=>Int.emod_lt_of_pos _ (by omega)⟩,pm'.logl,pm'.log,pm'.lost,pm'.forb,pm'.full,pm'.ownl,pm'.quel⟩ rfl rfl
     obtain ⟨nw1,nw2⟩:=gc.noWait (p:=q) hs
     have gt:=g'.turn (D:=cpuD) mc hi (by rw [ek']) hpick
     have ett:(turnS K.c cpuD (flC K.c) s' i a).tick=s'.tick:=zkl2
     have eturn:turnS K.c cpuD (flC K.c) s' i a=doS K.c cpuD (flC K.c) (s'.setI i {s'.part i with cursor:=((a+1:Nat):Int)%((ofI K.c i).length:Int)}) q:=by unfold turnS;rw [hqq]
     refine zsr (zoc2 tk m mc o4 (gc.sane mc) hq (by show 0<=s'.tick/\s'.tick<=_;rw [ek'];omega) (gc.proc q hq).regs nw1 (nw2 _ (by rw [hpq];exact hi)) (td'.keep rfl) fun tm5 k5 o5 td5=> ?_)
     rw [<-eturn] at o5 td5
     rw [wrap64 (by omega) (by omega)]
     refine ⟨⟨by omega,by omega,_,tm5,o5,td5,gt,by omega,?_⟩,by omega⟩
     rw [<-efin]
     exact (zay2 hpick).symm
    ·rw [if_neg (by simpa using hs),wrap64 (by omega) (by omega)]
     grind
   ·rw [if_neg (fun e=>hj (by have:=of_decide_eq_true e;omega))]
    have hnone:=zog2 (c:=K.c) (s:=s') (i:=i) fun kk hkk=>hno kk (by omega)
    have e2:zix K.c cpuD (flC K.c) i ((K.c.fuel-(t+1)).toNat+1) s'=s':=by
     unfold zix;rw [hnone]
    grind
  ·rw [if_neg (fun e=>h (of_decide_eq_true e))]
   have e0:(K.c.fuel-t).toNat=0:=by omega
   rw [e0] at efin
   have efin:s'=_:=efin
   grind
 ·rintro k2 ⟨tm2,o2,td2⟩
  rw [et1] at tfin
  generalize zix K.c cpuD (flC K.c) i K.c.fuel.toNat s1=s2 at*
  refine zab (o2.rec1.ld (shf:=shInt .i64) s2.tick rfl ?_)
  obtain ⟨h7,l7,o7,_,put7⟩:=o2.fst
  rw [wrap64 (by omega) (by omega)]
  refine zab (o7.st (tickX K.x (s2.tick+1)) (by show 9+1<=12;omega) rfl fun k3 o3=> ?_)
  exact hk tm2 k3 (put7 _ _ o3) td2
end
section
variable {c:PCfg} {fl:Nat->Nat->Bool} {s:MS} {T:Int}
theorem list_part {i:Nat} {x:PPart}:(s.list c).parts[i]? =some x↔i<nP c/\x=s.part i:=by
 show ((List.range (nP c)).map s.part)[i]? =some x↔_
 rw [List.getElem?_map]
 by_cases h:i<nP c
 ·rw [List.getElem?_range h]
  constructor
  ·intro e;exact ⟨h,(Option.some.inj e).symm⟩
  ·rintro ⟨_,rfl⟩;rfl
 ·rw [List.getElem?_eq_none (by rw [List.length_range];omega)]
  constructor
  ·intro e;cases e
  ·intro e;exact absurd e.1 h
theorem list_proc {i:Nat} {x:PProcess}:(s.list c).procs[i]? =some x↔i<nQ c/\x=s.proc i:=by
 show ((List.range (nQ c)).map s.proc)[i]? =some x↔_
 rw [List.getElem?_map]
 by_cases h:i<nQ c
 ·rw [List.getElem?_range h]
  constructor
  ·intro e;exact ⟨h,(Option.some.inj e).symm⟩
  ·rintro ⟨_,rfl⟩;rfl
 ·rw [List.getElem?_eq_none (by rw [List.length_range];omega)]
  constructor
  ·intro e;cases e
  ·intro e;exact absurd e.1 h
theorem zke (m:CfgM c) {p:Nat} (hp:p<nQ c):∃y,c.procs[p]? =some y/\y.part=(pOf c p:Int)/\y.code=zcj c p:=by
 have h:=List.getElem?_eq_getElem (show p<c.procs.length from hp)
 refine ⟨_,h,?_,?_⟩
 ·have:=m.part _ (List.mem_of_getElem? h)
  unfold pOf
  rw [h]
  simp
  omega
 ·unfold zcj
  rw [h]
  rfl
theorem zot1 {y:PProc} {p:Nat} {x:PProcess} (h:y.code=zcj c p):insP y x.pc=insX c p x:=by unfold insP insX insL;rw [h]
theorem zoo (m:CfgM c) {p:Int} {i:Nat}:ofP c p i↔0<=p/\p.toNat<nQ c/\pOf c p.toNat=i:=by
 unfold ofP
 constructor
 ·rintro ⟨h1,y,h2,h3⟩
  have hp:p.toNat<nQ c:=(List.getElem?_eq_some_iff.1 h2).1
  obtain ⟨y',e1,e2,_⟩:=zke m hp
  rw [h2] at e1
  cases e1
  exact ⟨h1,hp,by omega⟩
 ·rintro ⟨h1,h2,h3⟩
  obtain ⟨y',e1,e2,_⟩:=zke m h2
  exact ⟨h1,y',e1,by rw [e2,h3]⟩
theorem zkn2 (m:CfgM c) {i:Nat}:manyP c i=(ofI c i).length:=by
 have e:c.procs=(List.range c.procs.length).map fun q=>c.procs.getD q ⟨0,[]⟩:=by
  refine List.ext_getElem? fun j=> ?_
  rw [List.getElem?_map]
  by_cases h:j<c.procs.length
  ·rw [List.getElem?_range h,List.getElem?_eq_getElem h]
   simp [List.getD,List.getElem?_eq_getElem h]
  ·rw [List.getElem?_eq_none (by omega),List.getElem?_eq_none (by rw [List.length_range];omega)]
   rfl
 unfold manyP ofI
 rw [e,List.filter_map,List.length_map]
 congr 1
 refine List.filter_congr fun q hq=> ?_
 have hq:q<nQ c:=List.mem_range.1 hq
 obtain ⟨y,e1,e2,_⟩:=zke m hq
 have e3:c.procs.getD q ⟨0,[]⟩=y:=by simp [List.getD,e1]
 show decide ((c.procs.getD q ⟨0,[]⟩).part=(i:Int))=decide (pOf c q=i)
 rw [e3,e2]
 by_cases h:pOf c q=i
 ·rw [decide_eq_true h,decide_eq_true (by omega)]
 ·rw [decide_eq_false h,decide_eq_false (by omega)]
theorem zpn2 (m:CfgM c) {i:Nat} {st:zbi} (ht:st.tick=T):∀ {l:List zfc1} {last:Int},l.Pairwise (fun a b=>a.tick<=b.tick)->(∀e∈l,last<=e.tick/\e.tick<T/\0<=e.proc/\e.proc.toNat<nQ c/\pOf c e.proc.toNat=i)->LogG c st i last l
 | [],_,_,_=>trivial
 | e::r,last,h,hh=>by
  obtain ⟨h1,h2⟩:=List.pairwise_cons.1 h
  obtain ⟨a1,a2,a3⟩:=hh e (List.mem_cons_self ..)
  refine ⟨a1,by rw [ht];exact a2,(zoo m).2 a3,zpn2 m ht h2 fun e' he'=>⟨h1 e' he',(hh e' (List.mem_cons_of_mem _ he')).2⟩⟩
theorem zxt1 {l:List Int} {z:Int} (nd:l.Nodup) (h:z∈l):l.countP (fun y=>decide (y=z))=1:=by
 induction l with
 | nil=>cases h
 | cons a l ih=>
  rw [List.nodup_cons] at nd
  rw [List.countP_cons]
  rcases List.mem_cons.1 h with rfl | h
  ·have:l.countP (fun y=>decide (y=z))=0:=by
    rw [List.countP_eq_zero]
    intro y hy
    simp
    exact fun e=>nd.1 (e▸hy)
   rw [this]
   simp
  ·rw [ih nd.2 h]
   have:a≠z:=fun e=>nd.1 (e▸h)
   simp [this]
theorem zpi {l:List Int} {z:Int} (h:z∉l):l.countP (fun y=>decide (y=z))=0:=by
 rw [List.countP_eq_zero]
 intro y hy
 simp
 exact fun e=>h (e▸hy)
theorem zou1 {p:Int} {x:PPart} (h:∀q∈x.queues,p∉q):cntQ p x=0:=by
 unfold cntQ
 rw [List.sum_eq_zero_iff_forall_eq_nat]
 intro y hy
 obtain ⟨q,hq,rfl⟩:=List.mem_map.1 hy
 exact zpi (h q hq)
theorem zov1 {p:Int} {l:PLane}:cntW p l=(l.waiters.map (·.proc)).countP fun y=>decide (y=p):=by
 unfold cntW
 rw [List.countP_map]
 rfl
theorem zow1 {p:Int} {x:PProcess} (h:∀l∈x.lanes,∀w∈l.waiters,w.proc≠p):cntL p x=0:=by
 unfold cntL
 rw [List.sum_eq_zero_iff_forall_eq_nat]
 intro y hy
 obtain ⟨l,hl,rfl⟩:=List.mem_map.1 hy
 rw [zov1]
 refine zpi fun hm=> ?_
 obtain ⟨w,hw,e⟩:=List.mem_map.1 hm
 exact h l hl w hw e
end
section
variable {c:PCfg} {fl:Nat->Nat->Bool} {s:MS} {T:Int}
theorem zxu1 {i:Nat} (h:i<nP c):(s.list c).parts[i]? =some (s.part i):=list_part.2 ⟨h,rfl⟩
theorem zgo1 {i:Nat} (h:i<nQ c):(s.list c).procs[i]? =some (s.proc i):=list_proc.2 ⟨h,rfl⟩
theorem zrm2 {p:Int} (h:p.toNat<nQ c) {q:PProcess->Prop} (hq:q (s.proc p.toNat)):stP (s.list c) p q:=⟨_,zgo1 h,hq⟩
theorem at_of (m:CfgM c) {p:Int} (h:p.toNat<nQ c) {n:PIns} (hn:insX c p.toNat (s.proc p.toNat)=some n) {q:PProcess->PIns->Prop} (hq:q (s.proc p.toNat) n):atP c (s.list c) p q:=by
 obtain ⟨y,e1,e2,e3⟩:=zke m h
 exact ⟨_,y,n,zgo1 h,e1,by rw [zot1 e3];exact hn,hq⟩
theorem zko2 {r:List Int} {i v:Int} (hr:r.length=8) (hi:0<=i/\i<8) (h:regR r i=v):r[i.toNat]? =some v:=by
 have hl:i.toNat<r.length:=by omega
 rw [List.getElem?_eq_getElem hl,<-h]
 unfold regR
 grind
theorem Good.waits (m:CfgM c) (g:Good c fl s No No T):zpg2 c (s.list c):=by
 refine ⟨fun i x hx k q hq p hp=> ?_,fun r x y hx hy i l hl w hw=> ?_,fun p x hx=> ?_⟩
 ·obtain ⟨hi,rfl⟩:=list_part.1 hx
  obtain ⟨b1,b2,b3⟩:=g.que i hi k q hq
  obtain ⟨a1,a2,a3,_,a5⟩:=b2 p hp
  obtain ⟨a5,n,a6,a7,a8⟩:=a5.resolve_left (fun h=>h)
  obtain ⟨o,e1,e2,e3⟩:=b3 (List.ne_nil_of_mem hp)
  refine ⟨(zoo m).2 ⟨a1,a2,a3⟩,at_of m a2 a6 ⟨a5,a8⟩,o,e1,?_,fun e=>e3 (e▸hp)⟩
  rcases g.own i hi k o e1 with h | h
  ·exact absurd h e2
  ·exact h.1
 ·obtain ⟨hr,rfl⟩:=list_proc.1 hx
  obtain ⟨y',f1,f2,f3⟩:=zke m hr
  rw [hy] at f1
  cases f1
  obtain ⟨b1,b2,b3⟩:=g.lan r hr i l hl
  obtain ⟨c1,c2,c3⟩:=b2 (List.ne_nil_of_mem hw)
  obtain ⟨a1,a2,a3,_,a5⟩:=b3 w hw
  obtain ⟨a5,n,a6,a7,a8,a9⟩:=a5.resolve_left (fun h=>h)
  have hlv:=livesB_iff.1 (c2.resolve_right (fun h=>h))
  have hregs:=(g.proc _ a2).regs
  have hws:=zgd2 (m.ins a6).1 a7
  exact ⟨by rw [f2,c1],(zoo m).2 ⟨a1,a2,a3⟩,hlv,c3,at_of m a2 a6 ⟨a5,a7,zko2 hregs hws.2.1 a8,zko2 hregs hws.2.2 a9⟩⟩
 ·obtain ⟨hp,rfl⟩:=list_proc.1 hx
  have hq1:((s.list c).parts.map (cntQ (p:Int))).sum=if (s.proc p).state=3 then 1 else 0:=by
   by_cases h3:(s.proc p).state=3
   ·rw [if_pos h3]
    obtain ⟨k,q,e1,e2⟩:=g.in3 p hp (fun h=>h) h3
    have hi:=m.pOf_lt (p:=p)
    rw [zfd1 (cntQ (p:Int)) _ (pOf c p) fun j x hx hne=> ?_,zxu1 hi]
    ·show cntQ (p:Int) (s.part (pOf c p))=1
     unfold cntQ
     rw [zfd1 _ _ k fun j q' hq' hne=> ?_,e1]
     ·exact zxt1 (g.que _ hi k q e1).1 e2
     ·refine zpi fun hm=> ?_
      obtain ⟨_,_,_,_,a5⟩:=(g.que _ hi j q' hq').2.1 _ hm
      obtain ⟨_,n1,a6,_,a8⟩:=a5.resolve_left (fun h=>h)
      obtain ⟨_,_,_,_,b5⟩:=(g.que _ hi k q e1).2.1 _ e2
      obtain ⟨_,n2,b6,_,b8⟩:=b5.resolve_left (fun h=>h)
      rw [a6] at b6
      cases b6
      omega
    ·obtain ⟨hj,rfl⟩:=list_part.1 hx
     refine zou1 fun q' hq' hm=> ?_
     obtain ⟨k',hk',he⟩:=List.getElem_of_mem hq'
     have hg:(s.part j).queues[k']? =some q':=by rw [List.getElem?_eq_getElem hk',he]
     have:=((g.que j hj k' q' hg).2.1 _ hm).2.2.1
     rw [Int.toNat_natCast] at this
     exact hne this.symm
   ·rw [if_neg h3,List.sum_eq_zero_iff_forall_eq_nat]
    intro y hy
    obtain ⟨x,hx,rfl⟩:=List.mem_map.1 hy
    obtain ⟨j,hj,he⟩:=List.getElem_of_mem hx
    have hgx:(s.list c).parts[j]? =some x:=by rw [List.getElem?_eq_getElem hj,he]
    obtain ⟨hj,rfl⟩:=list_part.1 hgx
    refine zou1 fun q' hq' hm=> ?_
    obtain ⟨k',hk',he⟩:=List.getElem_of_mem hq'
    have hg:(s.part j).queues[k']? =some q':=by rw [List.getElem?_eq_getElem hk',he]
    obtain ⟨_,_,_,_,a5⟩:=(g.que j hj k' q' hg).2.1 _ hm
    have:=(a5.resolve_left (fun h=>h)).1
    rw [Int.toNat_natCast] at this
    exact h3 this
  have hq2:((s.list c).procs.map (cntL (p:Int))).sum=if (s.proc p).state=2 then 1 else 0:=by
   by_cases h2:(s.proc p).state=2
   ·rw [if_pos h2]
    obtain ⟨r,hr,l,e1,w,e2,e3⟩:=g.in2 p hp (fun h=>h) h2
    obtain ⟨d1,d2,d3⟩:=g.lan r hr _ l e1
    obtain ⟨_,_,_,_,b5⟩:=d3 w e2
    obtain ⟨_,n2,b6,_,b8,_⟩:=b5.resolve_left (fun h=>h)
    rw [e3,Int.toNat_natCast] at b6 b8
    rw [zfd1 (cntL (p:Int)) _ r fun j x hx hne=> ?_,zgo1 hr]
    ·show cntL (p:Int) (s.proc r)=1
     unfold cntL
     rw [zfd1 _ _ (pOf c p) fun j l' hl' hne=> ?_,e1]
     ·show cntW (p:Int) l=1
      rw [zov1]
      exact zxt1 d1 (List.mem_map.2 ⟨w,e2,e3⟩)
     ·rw [zov1]
      refine zpi fun hm=> ?_
      obtain ⟨w',hw',e'⟩:=List.mem_map.1 hm
      have:=((g.lan r hr j l' hl').2.2 w' hw').2.2.1
      rw [e',Int.toNat_natCast] at this
      exact hne this.symm
    ·obtain ⟨hj,rfl⟩:=list_proc.1 hx
     refine zow1 fun l' hl' w' hw' e'=> ?_
     obtain ⟨k',hk',he⟩:=List.getElem_of_mem hl'
     have hg:(s.proc j).lanes[k']? =some l':=by rw [List.getElem?_eq_getElem hk',he]
     obtain ⟨_,_,_,_,a5⟩:=(g.lan j hj k' l' hg).2.2 w' hw'
     obtain ⟨_,n1,a6,_,a8,_⟩:=a5.resolve_left (fun h=>h)
     rw [e',Int.toNat_natCast] at a6 a8
     rw [a6] at b6
     cases b6
     omega
   ·rw [if_neg h2,List.sum_eq_zero_iff_forall_eq_nat]
    intro y hy
    obtain ⟨x,hx,rfl⟩:=List.mem_map.1 hy
    obtain ⟨j,hj,he⟩:=List.getElem_of_mem hx
    have hgx:(s.list c).procs[j]? =some x:=by rw [List.getElem?_eq_getElem hj,he]
    obtain ⟨hj,rfl⟩:=list_proc.1 hgx
    refine zow1 fun l' hl' w' hw' e'=> ?_
    obtain ⟨k',hk',he⟩:=List.getElem_of_mem hl'
    have hg:(s.proc j).lanes[k']? =some l':=by rw [List.getElem?_eq_getElem hk',he]
    obtain ⟨_,_,_,_,a5⟩:=(g.lan j hj k' l' hg).2.2 w' hw'
    have:=(a5.resolve_left (fun h=>h)).1
    rw [e',Int.toNat_natCast] at this
    exact h2 this
  grind
theorem Good.may (m:CfgM c) (g:Good c fl s No No s.tick) (ht:s.tick<=4611686018427387904):MayG c (s.list c) fun i y=>fl i y.toNat=true:=by
 refine ⟨⟨⟨g.tick,ht⟩,?_,?_⟩,fun i x hx=> ?_,fun p x y hx hy=> ?_,g.waits m⟩
 ·show ((List.range (nP c)).map s.part).length=_
  rw [List.length_map,List.length_range]
  rfl
 ·show ((List.range (nQ c)).map s.proc).length=_
  rw [List.length_map,List.length_range]
  rfl
 ·obtain ⟨hi,rfl⟩:=list_part.1 hx
  have pm:=g.part i hi
  refine ⟨⟨pm.cur.1,by rw [zkn2 m];exact pm.cur.2,pm.logl⟩,zpn2 m rfl pm.log.1 fun e he=>pm.log.2 e he,pm.lost,pm.forb,pm.full,pm.ownl,pm.quel,fun p hp hne=> ?_⟩
  obtain ⟨k,hk,he⟩:=List.getElem_of_mem hp
  have hg:(s.part i).owners[k]? =some p:=by grind
  rcases g.own i hi k p hg with h | ⟨a1,a2,a3,a4⟩
  ·exact absurd h hne
  ·exact ⟨(zoo m).2 ⟨a1,a2,a3⟩,zrm2 a2 (livesB_iff.1 (a4.resolve_right (fun h=>h)))⟩
 ·obtain ⟨hp,rfl⟩:=list_proc.1 hx
  obtain ⟨y',f1,f2,f3⟩:=zke m hp
  rw [hy] at f1
  cases f1
  have pm:=g.proc p hp
  have ei:insP y (s.proc p).pc=insX c p (s.proc p):=zot1 f3
  refine ⟨pm.st,by rw [f3];exact pm.pc,pm.lnl,pm.cur,pm.tim,pm.wak,pm.slp.resolve_left (fun h=>h),fun h=>⟨(pm.dead h).1.resolve_left (fun h=>h),(pm.dead h).2⟩,fun i l hl=> ?_,fun h=> ?_,fun h=> ?_,fun h=> ?_,fun h=> ?_⟩
  ·obtain ⟨a1,a2,a3,a4⟩:=pm.lan i l hl
   refine ⟨a1,a2,a3,fun hu hi=> ?_⟩
   rw [f2]
   show fl i ((pOf c p:Nat):Int).toNat=true
   rw [Int.toNat_natCast]
   exact a4 hu hi
  ·rw [ei];exact pm.recv h
  ·rw [ei];exact pm.snd h
  ·rw [ei];exact pm.lck h
  ·rw [ei];exact pm.slpi h
end
abbrev PRow (l:Sl) (xs:List PPart):Asn:=AsA (RowsO.ok (sh:=sh_api_Part) (sz:=6) zwz1) l xs
abbrev XRow (l:Sl) (xs:List PProcess):Asn:=AsA (RowsO.ok (sh:=sh_api_Process) (sz:=15) zzu) l xs
section
variable {h0 h1 k:Hp} {K:MK} {pm:Addr} {s:MS} {tm:Nat->Nat->Int}
def toE (e:zfc1):S_api_Entry:=⟨e.tick,e.proc,e.value⟩
theorem zxv1 {i:Nat} {Ps:Sl} {ps:List PPart} {rest:Sl->Hp->Prop} (mc:CfgM K.c) (o:Has h0 ((MachA K pm s tm).star (PRow Ps ps)) k) (sa:Sane K.c s) (hi:i<nP K.c) (hps:ps.length<=1000)
  (hk:∀l' k',Has h0 ((MachA K pm s tm).star (PRow l' (ps++ [s.part i]))) k'->rest l' k'):
 NilW none (some (K.q i)) fun p2=>
 LdW none shPtr k (Addr.add p2 5) fun x3=>
 Call2 Tryz.prog zfl [(.pointer x3)] shSl shSl (fun r r1 h2=>
 NilW none (some (K.q i)) fun p3=>
 LdW none (shInt .i64) h2 (Addr.add p3 1) fun x4=>
 NilW none (some (K.q i)) fun p4=>
 LdW none shSl h2 (Addr.add p4 2) fun x5=>
 NilW none (some (K.q i)) fun p5=>
 LdW none (shInt .i64) h2 (Addr.add p5 3) fun x6=>
 NilW none (some (K.q i)) fun p6=>
 LdW none (shInt .i64) h2 (Addr.add p6 4) fun x7=>
 CallT Tryz.prog zaw [x5.v] shSl (fun r2 h3=>
 ((True/\((LdIs h3 (Addr.add p3 1) [(.int .i64 x4)])/\((LdIs h3 (Addr.add p5 3) [(.int .i64 x6)])/\((LdIs h3 (Addr.add p6 4) [(.int .i64 x7)])/\True))))/\NewW [(.int .i64 x4),r2.v,(.int .i64 x6),(.int .i64 x7),r.v,r1.v] (fun a h4=>
 ((True/\True)/\zai 6 96 [(.int .i64 (0:Int)),(.slice none 0 0),(.int .i64 (0:Int)),(.int .i64 (0:Int)),(.slice none 0 0),(.slice none 0 0)] ⟨Ps.base,Ps.len,Ps.cap⟩ ⟨(some a),1,1⟩ (fun r3 h5=>
 rest r3 h5) h4)) h3)) h2) k:=by
  have si:=sa.part i hi
  obtain ⟨hA,lA,oM,_,putM⟩:=o.fst
  obtain ⟨h3,x4,lp4,wp4,l4,hx4,ox4,ol,putl⟩:=oM.partL hi
  have el:x4.locks=some lp4:=hx4.2.2.2.2.1
  refine zab (ox4.ld (shf:=shPtr) x4.locks rfl ?_)
  rw [el]
  refine zyj (zga2 ol ⟨by have:=si.few.1;omega,si.few.2⟩ si.ownl fun ro rq k2 o2=> ?_)
  have o3:Has hA ((MachA K pm s tm).star ((VRow ro (s.part i).owners).star (QRow rq (s.part i).queues))) k2:=o2.carry fun k' o'=>by
   have h4:=putl _ _ k' o'
   have e:s.setI i {s.part i with owners:=(s.part i).owners,queues:=(s.part i).queues}=s:=zol1
   rwa [e] at h4
  obtain ⟨hB,lB,oM3,⟨F3,fr3,ff3⟩,putB⟩:=o3.fst
  obtain ⟨h6,x,lp,wp,l6,hx,ox,olog,_⟩:=oM3.partG hi
  refine zab (ox.ld (shf:=shInt .i64) x.cursor rfl ?_)
  refine zab (ox.ld (shf:=shSl) x.log rfl ?_)
  refine zab (ox.ld (shf:=shInt .i64) x.lost rfl ?_)
  refine zab (ox.ld (shf:=shInt .i64) x.forbidden rfl ?_)
  refine zdk ?_
  unfold zcf
  have hlogl:=si.logl
  refine zka (tb_ok.und 112 ty112 rfl) (olog.srw (fun _=>rfl)) (by decide) (fun _=>rfl) (fun _=>rfl) rfl ⟨by omega,by omega⟩ fun vl k3 hl3 n3=> ?_
  have oxk:=ox.grow hl3
  refine ⟨⟨trivial,oxk.ldis (n:=1) rfl,oxk.ldis (n:=1) rfl,oxk.ldis (n:=1) rfl,trivial⟩,?_⟩
  have b1:Has k2 (AsA (RowsO.ok (sh:=sh_api_Entry) (sz:=3) (PureO.ok fun x p=>zoc1 x=p)) vl (s.part i).log) k3:=n3.pureRows (f:=toE) (fun _=>rfl) fun _=>rfl
  have oAll:=o3.beside b1
  have oRow:Has hA ((MachA K pm s tm).star (AsA zwz1 (⟨x.cursor,vl,x.lost,x.forbidden,ro,rq⟩:S_api_Part) (s.part i))) k3:=by
   obtain ⟨hC,lC,oM4,_,_⟩:=oAll.assoc.fst
   refine oAll.assoc.map fun kk F hF=> ?_
   refine zpn (fun _ h=>h) (fun F' h=> ?_) hF
   obtain ⟨F1,F2,e,d,⟨F4,F5,e',d',⟨B2,r2,nd2,e2⟩,⟨B3,r3,nd3,e3⟩⟩,⟨B1,r1,nd1,e1⟩⟩:=h
   refine ⟨B1++(B2++B3),⟨B1,B2,B3,rfl,r1,r2,r3,hx.2.1,hx.2.2.1,hx.2.2.2.1⟩,?_,fun b=> ?_⟩
   ·rw [List.nodup_append,List.nodup_append]
    refine ⟨nd1,⟨nd2,nd3,fun a ha b hb hab=> ?_⟩,fun a ha b hb hab=> ?_⟩
    ·subst hab;exact d' a ((e2 a).2 ha) ((e3 a).2 hb)
    ·subst hab
     rcases List.mem_append.1 hb with hb | hb
     ·exact d a ((e' a).2 (.inl ((e2 a).2 hb))) ((e1 a).2 ha)
     ·exact d a ((e' a).2 (.inr ((e3 a).2 hb))) ((e1 a).2 ha)
   ·rw [e b,e' b,e1 b,e2 b,e3 b,List.mem_append,List.mem_append]
    constructor
    ·rintro ((h | h) | h)
     ·exact .inr (.inl h)
     ·exact .inr (.inr h)
     ·exact .inl h
    ·rintro (h | h | h)
     ·exact .inr h
     ·exact .inl (.inl h)
     ·exact .inl (.inr h)
  have oF:=(putM _ _ oRow).assoc
  obtain ⟨hD,lD,oD,_,putD⟩:=oF.snd
  have key:=oD.comm.row (cs:=[(.int .i64 x.cursor),vl.v,(.int .i64 x.lost),(.int .i64 x.forbidden),ro.v,rq.v]) (zero:=[(.int .i64 (0:Int)),(.slice none 0 0),(.int .i64 (0:Int)),(.int .i64 (0:Int)),(.slice none 0 0),(.slice none 0 0)]) (bytes:=96) rfl (fun _=>rfl) (fun _=>rfl) rfl ⟨by omega,by omega⟩ (K:=rest) fun l' k' o'=>hk l' k' (putD _ _ o')
  exact fun b t hb=>⟨⟨trivial,trivial⟩,key b t hb⟩
theorem zxw1 {c:PCfg} {p:Nat} (hp:p<nQ c):zhr c s (pOf c p) (2*p)=(s.proc p).timer:=by
 unfold zhr
 grind
theorem zaz2 {c:PCfg} {p:Nat} (hp:p<nQ c):zhr c s (pOf c p) (2*p+1)=(s.proc p).wake:=by
 unfold zhr
 grind
theorem zxx1 {p:Nat} {Ps:Sl} {ps:List PProcess} {rest:Sl->Hp->Prop} (m:MkOk h0 K) (mc:CfgM K.c) (o:Has h0 ((MachA K pm s tm).star (XRow Ps ps)) k) (sa:Sane K.c s) (td:Tied K.c tm s) (hp:p<nQ K.c) (hps:ps.length<=1000)
  (hk:∀l' k',Has h0 ((MachA K pm s tm).star (XRow l' (ps++ [s.proc p]))) k'->rest l' k'):
 NilW none (some (K.p p)) fun p3=>
 LdW none shPtr k (Addr.add p3 14) fun x4=>
 Call2 Tryz.prog zin [(.pointer x4)] shSl (shInt .i64) (fun r r1 h3=>
 NilW none (some pm) fun p4=>
 LdW none shSl h3 (Addr.add p4 10) fun x5=>
 NilW none (some (K.p p)) fun p5=>
 LdW none (shInt .i64) h3 (Addr.add p5 1) fun x6=>
 ((InB x5.base x5.len x6)/\LdW none shPtr h3 (sat x5.base 1 x6) fun x7=>
 NilW none x7 fun p6=>
 LdW none shPtr h3 (Addr.add p6 6) fun x8=>
 CallT Tryz.prog zbs [(.int .i64 (p:Int))] (shInt .i64) (fun r2 h4=>
 (((LdIs h4 (Addr.add p4 10) [x5.v])/\((LdIs h4 (Addr.add p5 1) [(.int .i64 x6)])/\((LdIs h4 (sat x5.base 1 x6) [(.pointer x7)])/\((LdIs h4 (Addr.add p6 6) [(.pointer x8)])/\True))))/\Call2 Tryz.prog zdr [(.pointer x8),(.int .i64 r2)] (shInt .i64) zae (fun r3 r4 h5=>
 NilW none (some pm) fun p7=>
 LdW none shSl h5 (Addr.add p7 10) fun x9=>
 NilW none (some (K.p p)) fun p8=>
 LdW none (shInt .i64) h5 (Addr.add p8 1) fun x10=>
 ((InB x9.base x9.len x10)/\LdW none shPtr h5 (sat x9.base 1 x10) fun x11=>
 NilW none x11 fun p9=>
 LdW none shPtr h5 (Addr.add p9 6) fun x12=>
 CallT Tryz.prog zcl [(.int .i64 (p:Int))] (shInt .i64) (fun r5 h6=>
 (((LdIs h6 (Addr.add p7 10) [x9.v])/\((LdIs h6 (Addr.add p8 1) [(.int .i64 x10)])/\((LdIs h6 (sat x9.base 1 x10) [(.pointer x11)])/\((LdIs h6 (Addr.add p9 6) [(.pointer x12)])/\True))))/\Call2 Tryz.prog zdr [(.pointer x12),(.int .i64 r5)] (shInt .i64) zae (fun r6 r7 h7=>
 NilW none (some (K.p p)) fun p10=>
 LdW none (shInt .i64) h7 (Addr.add p10 3) fun x13=>
 NilW none (some (K.p p)) fun p11=>
 LdW none (shInt .i64) h7 (Addr.add (Addr.add p11 4) 0) fun x14=>
 NilW none (some (K.p p)) fun p12=>
 LdW none zej h7 (Addr.add (Addr.add p12 4) 1) fun x15=>
 NilW none (some (K.p p)) fun p13=>
 LdW none zae h7 (Addr.add p13 13) fun x16=>
 NewW [(.int .i64 x13),(.int .i64 x14),(.int .i64 x15.a0),(.int .i64 x15.a1),(.int .i64 x15.a2),(.int .i64 x15.a3),(.int .i64 x15.a4),(.int .i64 x15.a5),(.int .i64 x15.a6),(.int .i64 x15.a7),(.int .i64 r1),(.int .i64 r3),(.bool x16),(.int .i64 r6),r.v] (fun a h8=>
 ((True/\True)/\zai 15 136 [(.int .i64 (0:Int)),(.int .i64 (0:Int)),(.int .i64 (0:Int)),(.int .i64 (0:Int)),(.int .i64 (0:Int)),(.int .i64 (0:Int)),(.int .i64 (0:Int)),(.int .i64 (0:Int)),(.int .i64 (0:Int)),(.int .i64 (0:Int)),(.int .i64 (0:Int)),(.int .i64 (0:Int)),(.bool false),(.int .i64 (0:Int)),(.slice none 0 0)] ⟨Ps.base,Ps.len,Ps.cap⟩ ⟨(some a),1,1⟩ (fun r8 h9=>
 rest r8 h9) h8)) h7) h6)) h5)) h4)) h3)) k:=by
  have hi:pOf K.c p<nP K.c:=mc.pOf_lt
  have hprocs:=mc.procs
  have hparts:=mc.parts
  have sp:=sa.proc p hp
  have hlen:=sp.len
  obtain ⟨hA,lA,oM,_,putM⟩:=o.fst
  obtain ⟨h1,z,a,l1,hz,oz,oq,put⟩:=oM.procQ hp
  have epo:z.post=some a:=hz.2.2.2.2.2.2
  refine zab (oz.ld (shf:=shPtr) z.post rfl ?_)
  rw [epo]
  refine zbq1 (zjl2 oq ⟨by omega,fun l hl=>⟨(sp.lan l hl).waiters,by have:=(sp.lan l hl).values;omega⟩⟩ fun rl k2 o2=> ?_)
  have o3:Has hA ((MachA K pm s tm).star (LRow rl (s.proc p).lanes)) k2:=o2.carry fun k' o'=>by
   have h4:=put _ _ k' o'
   have e:s.setP p {s.proc p with lanes:=(s.proc p).lanes,cursor:=(s.proc p).cursor}=s:=zxl1
   rwa [e] at h4
  obtain ⟨hB,lB,oB,_,_⟩:=o3.fst
  have mB:=m.mono (Hp.le_trans lA lB)
  obtain ⟨h2,z2,a2,l2,hz2,oz2,_⟩:=oB.procR hp
  obtain ⟨g1,g2⟩:=mB.ptrI oB hi
  obtain ⟨h7,x7,lp7,wp7,l7,hx7,ox7,ow,_⟩:=oB.partW hi
  have ewh:x7.wheel=some wp7:=hx7.2.2.2.2.2
  have epa:z2.part=(pOf K.c p:Int):=hz2.2.1
  refine zab (oB.rec1.ld (shf:=shSl) K.x.parts rfl ?_)
  refine zab (oz2.ld (shf:=shInt .i64) z2.part rfl ?_)
  have ldp:=oz2.ldis (off:=1) (n:=1) (vs:=[.int .i64 z2.part]) rfl
  rw [epa] at ldp ⊢
  refine ⟨g1,some (K.q (pOf K.c p)),g2,?_⟩
  refine zab (ox7.ld (shf:=shPtr) x7.wheel rfl ?_)
  refine zeg (zlk1 (by omega) ?_)
  refine ⟨⟨oB.rec1.ldis (n:=1) rfl,ldp,g2,ox7.ldis (n:=1) rfl,trivial⟩,?_⟩
  rw [ewh]
  refine zot (zdg2 ow fun b1=> ?_)
  refine zab (oB.rec1.ld (shf:=shSl) K.x.parts rfl ?_)
  refine zab (oz2.ld (shf:=shInt .i64) z2.part rfl ?_)
  rw [epa]
  refine ⟨g1,some (K.q (pOf K.c p)),g2,?_⟩
  refine zab (ox7.ld (shf:=shPtr) x7.wheel rfl ?_)
  refine zeh (zll1 (by omega) ?_)
  refine ⟨⟨oB.rec1.ldis (n:=1) rfl,ldp,g2,ox7.ldis (n:=1) rfl,trivial⟩,?_⟩
  rw [ewh]
  refine zot (zdg2 ow fun b2=> ?_)
  rw [td _ _ hi,td _ _ hi,zxw1 hp,zaz2 hp]
  refine zab (oz2.ld (shf:=shInt .i64) z2.state rfl (zab ?_))
  rw [zmr]
  refine oz2.ld (shf:=shInt .i64) z2.core_PC rfl (zab ?_)
  rw [zmr]
  refine oz2.ld (shf:=zej) (rowOf (coreX z2)) rfl (zab ?_)
  refine oz2.ld (shf:=zae) z2.fired rfl ?_
  have ecore:zaz (coreX z2)=(s.proc p).core:=hz2.2.2.2.2.1
  have oRow:Has hA ((MachA K pm s tm).star (AsA zzu (⟨z2.state,z2.core_PC,z2.core_Regs_0,z2.core_Regs_1,z2.core_Regs_2,z2.core_Regs_3,z2.core_Regs_4,z2.core_Regs_5,z2.core_Regs_6,z2.core_Regs_7,(s.proc p).cursor,(s.proc p).timer,z2.fired,(s.proc p).wake,rl⟩:S_api_Process) (s.proc p))) k2:=by
   refine o3.map fun kk F hF=> ?_
   refine zpn (fun _ h=>h) (fun F' h=> ?_) hF
   obtain ⟨B,r,nd,e⟩:=h
   exact ⟨B,⟨r,hz2.2.2.2.1,congrArg Core.pc ecore,congrArg Core.regs ecore,rfl,rfl,hz2.2.2.2.2.2.1,rfl⟩,nd,e⟩
  have oF:=(putM _ _ oRow).assoc
  obtain ⟨hD,lD,oD,_,putD⟩:=oF.snd
  have key:=oD.comm.row (cs:=[(.int .i64 z2.state),(.int .i64 z2.core_PC),(.int .i64 z2.core_Regs_0),(.int .i64 z2.core_Regs_1),(.int .i64 z2.core_Regs_2),(.int .i64 z2.core_Regs_3),(.int .i64 z2.core_Regs_4),(.int .i64 z2.core_Regs_5),(.int .i64 z2.core_Regs_6),(.int .i64 z2.core_Regs_7),(.int .i64 (s.proc p).cursor),(.int .i64 (s.proc p).timer),(.bool z2.fired),(.int .i64 (s.proc p).wake),rl.v]) (zero:=[(.int .i64 (0:Int)),(.int .i64 (0:Int)),(.int .i64 (0:Int)),(.int .i64 (0:Int)),(.int .i64 (0:Int)),(.int .i64 (0:Int)),(.int .i64 (0:Int)),(.int .i64 (0:Int)),(.int .i64 (0:Int)),(.int .i64 (0:Int)),(.int .i64 (0:Int)),(.int .i64 (0:Int)),(.bool false),(.int .i64 (0:Int)),(.slice none 0 0)]) (bytes:=136) rfl (fun _=>rfl) (fun _=>rfl) rfl ⟨by omega,by omega⟩ (K:=rest) fun l' k' o'=>hk l' k' (putD _ _ o')
  exact fun b t hb=>⟨⟨trivial,trivial⟩,key b t hb⟩
end
section
variable {h0 h1 k:Hp} {K:MK} {pm:Addr} {s:MS} {tm:Nat->Nat->Int}
theorem zrq1 {α:Type} {f:Nat->α} {t:Int} (h:0<=t):(List.range (t+1).toNat).map f=(List.range t.toNat).map f++ [f t.toNat]:=by
 rw [show (t+1).toNat=t.toNat+1 by omega,List.range_succ,List.map_append]
 rfl
theorem zkp2 {Q:S_api_State->Hp->Prop} (m:MkOk h0 K) (mc:CfgM K.c) (o:Has h0 (MachA K pm s tm) k) (sa:Sane K.c s) (td:Tied K.c tm s)
  (hq:∀r k',Has h0 ((MachA K pm s tm).star (AsA zqi2 r (s.list K.c))) k'->Q r k'):zdn Tryz.prog (some pm) Q k:=by
 unfold zdn
 have hprocs:=mc.procs
 have hparts:=mc.parts
 have hpl:=m.partsLen
 have hql:=m.procsLen
 refine zab (o.rec1.ld (shf:=shInt .i64) s.tick rfl ?_)
 refine zab (o.rec1.ld (shf:=shSl) K.x.parts rfl ?_)
 have nil1:Has k (PRow (⟨none,0,0⟩:Sl) ([]:List PPart)) k:=Has.noRows (okQ:=zwz1) (Hp.le_refl _)
 refine LoopW2.intro (fun (t:Int) (st:S_api_State) k'=>0<=t/\t<=(nP K.c:Int)/\st.Tick=s.tick/\st.Procs=⟨none,0,0⟩/\Has h0 ((MachA K pm s tm).star (PRow st.Parts ((List.range t.toNat).map s.part))) k') (fun t _ _=>(nP K.c-t).toNat) ⟨by omega,by omega,rfl,rfl,by simpa using o.beside nil1⟩ ?_
 rintro t st k1 ⟨t0,t1,et,ep,o1⟩
 by_cases h:t<(nP K.c:Int)
 ·rw [if_pos (decide_eq_true (by omega))]
  have hi:t.toNat<nP K.c:=by omega
  have etn:((t.toNat:Nat):Int)=t:=by omega
  obtain ⟨g1,g2⟩:=m.ptrI (Has.left o1) hi
  rw [etn] at g1 g2
  refine ⟨g1,some (K.q t.toNat),g2,?_⟩
  refine zxv1 (Ps:=st.Parts) (ps:=(List.range t.toNat).map s.part) mc o1 sa hi (by rw [List.length_map,List.length_range];omega) fun l' k' o'=> ?_
  rw [wrap64 (by omega) (by omega)]
  refine ⟨⟨by omega,by omega,et,ep,?_⟩,by omega⟩
  rw [zrq1 t0]
  exact o'
 ·rw [if_neg (fun e=>h (by have:=of_decide_eq_true e;omega))]
  have etn:t.toNat=nP K.c:=by omega
  rw [etn] at o1
  obtain ⟨hA,lA,oA,hP,putA⟩:=o1.fst
  have mA:=m.mono lA
  refine zab (oA.rec1.ld (shf:=shSl) K.x.procs rfl ?_)
  have nil2:Has k1 (XRow (⟨none,0,0⟩:Sl) ([]:List PProcess)) k1:=Has.noRows (okQ:=zzu) (Hp.le_refl _)
  refine LoopW2.intro (fun (j:Int) (s1:S_api_State) k'=>0<=j/\j<=(nQ K.c:Int)/\s1.Tick=s.tick/\s1.Parts=st.Parts/\Has hA ((MachA K pm s tm).star (XRow s1.Procs ((List.range j.toNat).map s.proc))) k') (fun j _ _=>(nQ K.c-j).toNat) ⟨by omega,by omega,et,rfl,by rw [ep];simpa using oA.beside nil2⟩ ?_
  rintro j s1 k2 ⟨j0,j1,et1,ep1,o2⟩
  by_cases hj:j<(nQ K.c:Int)
  ·rw [if_pos (decide_eq_true (by omega))]
   have hi:j.toNat<nQ K.c:=by omega
   have etj:((j.toNat:Nat):Int)=j:=by omega
   obtain ⟨g1,g2⟩:=mA.ptr (Has.left o2) hi
   rw [etj] at g1 g2
   refine ⟨g1,some (K.p j.toNat),g2,?_⟩
   have key:=zxx1 (Ps:=s1.Procs) (ps:=(List.range j.toNat).map s.proc) (rest:=fun r8 h9=>(0<=IntKind.wrap .i64 (j+1)/\IntKind.wrap .i64 (j+1)<=(nQ K.c:Int)/\s1.Tick=s.tick/\s1.Parts=st.Parts/\Has hA ((MachA K pm s tm).star (XRow r8 ((List.range (IntKind.wrap .i64 (j+1)).toNat).map s.proc))) h9)/\(nQ K.c-IntKind.wrap .i64 (j+1)).toNat<(nQ K.c-j).toNat) mA mc o2 sa td hi (by rw [List.length_map,List.length_range];omega) fun l' k' o'=>by
    rw [wrap64 (by omega) (by omega)]
    refine ⟨⟨by omega,by omega,et1,ep1,?_⟩,by omega⟩
    rw [zrq1 j0]
    exact o'
   rw [etj] at key
   exact key
  ·rw [if_neg (fun e=>hj (by have:=of_decide_eq_true e;omega))]
   have etj:j.toNat=nQ K.c:=by omega
   rw [etj] at o2
   refine hq s1 k2 ?_
   have o3:=(putA _ _ o2).assoc
   refine o3.map fun kk F hF=> ?_
   refine zpn (fun _ h=>h) (fun F' h=> ?_) hF
   obtain ⟨F1,F2,e,d,⟨B2,r2,nd2,e2⟩,⟨B1,r1,nd1,e1⟩⟩:=h
   refine ⟨B1++B2,⟨B1,B2,rfl,by rw [ep1];exact r1,r2,et1⟩,?_,fun b=> ?_⟩
   ·rw [List.nodup_append]
    exact ⟨nd1,nd2,fun a ha b hb hab=>by subst hab;exact d a ((e2 a).2 hb) ((e1 a).2 ha)⟩
   ·rw [e b,e1 b,e2 b,List.mem_append]
    exact ⟨fun h=>h.symm,fun h=>h.symm⟩
end
theorem lsOk {α β:Type} {R:α->β->Hp->List Nat->Prop} (ok:AsOk R):AsOk (LsO R):=⟨fun o hs=>LsO.same ok o hs,fun o=>LsO.known ok o⟩
abbrev eQ :S_api_Proc->List Value:=fun x=>zac (sh_api_Proc.enc x)
section
variable {α:Type} {h:Hp} {sz:Nat} {enc:α->List Value} {l:Sl} {xs:List α}
theorem zoj2 {b o:Nat} {i:Int}:sat (some ⟨b,o,none⟩) sz i=⟨b,o+i.toNat*sz,none⟩:=by unfold sat;rw [Option.getD_some,zbh]
theorem OwnF.putC {F:List Nat} (o:OwnF h sz enc l xs F) (henc:∀x,(enc x).length=sz) {i:Nat} {x x':α} (hx:xs[i]? =some x) {off:Nat} {new:List Value} (hoff:off+new.length<=sz) (hn:enc x'=(enc x).take off++new++(enc x).drop (off+new.length))
  {K:Hp->Prop} (hk:∀h',OwnF h' sz enc l (xs.set i x') F->Mv F h F h'->K h'):StW h ((sat l.base sz (i:Int)).add off) new K:=by
 have hi:i<xs.length:=by
  grind
 obtain ⟨o1,o2,o3⟩:=o
 rcases o3 with ⟨_,e2,_⟩ | ⟨b,cs,e1,rfl,kb,e4,e5⟩
 ·omega
 ·rw [e1,zoj2,zbh,show ((i:Int)).toNat=i from rfl,Nat.zero_add]
  have hmul:i*sz+sz<=l.len*sz:=by
   have:=Nat.mul_le_mul_right sz (show i+1<=l.len by omega)
   grind
  have hmul2:l.len*sz<=l.cap*sz:=Nat.mul_le_mul_right sz o2
  refine zmt kb (by rw [e4];omega) fun h' m' k'=> ?_
  refine hk h' ⟨by simp [o1],o2,.inr ⟨b,_,e1,rfl,k',?_,?_⟩⟩ m'
  ·grind
  ·have t1:cs.take (i*sz)=(xs.take i).flatMap enc:=by
    rw [znt henc,<-e5,List.take_take];congr 1;omega
   have t2:(cs.drop (i*sz+sz)).take (l.len*sz-(i*sz+sz))=(xs.drop (i+1)).flatMap enc:=by
    rw [zlf henc,<-e5,Nat.add_mul,Nat.one_mul,List.drop_take]
   have t3:(cs.drop (i*sz)).take sz=enc x:=by
    have h2:(xs.drop i).flatMap enc=enc x++(xs.drop (i+1)).flatMap enc:=by
     rw [List.drop_eq_getElem_cons hi,List.flatMap_cons]
     rw [List.getElem?_eq_getElem hi] at hx
     rw [Option.some.inj hx]
    have h3:(xs.drop i).flatMap enc=(cs.drop (i*sz)).take (l.len*sz-i*sz):=by
     rw [zlf henc,<-e5,List.drop_take]
    rw [h3] at h2
    have h4:=congrArg (List.take sz) h2
    grind
   have hcs:cs=cs.take (i*sz)++(enc x++cs.drop (i*sz+sz)):=by
    rw [<-t3,<-List.drop_drop,List.take_append_drop,List.take_append_drop]
   have hl0:(cs.take (i*sz)).length=i*sz:=by rw [List.length_take];omega
   have hle:(enc x).length=sz:=henc x
   have d1:cs.take (i*sz+off)=cs.take (i*sz)++(enc x).take off:=by
    conv=>lhs;rw [hcs]
    rw [List.take_append,hl0,List.take_of_length_le (by omega),List.take_append,hle,show i*sz+off-i*sz=off by omega,show off-sz=0 by omega,List.take_zero,List.append_nil]
   have d2:cs.drop (i*sz+off+new.length)=(enc x).drop (off+new.length)++cs.drop (i*sz+sz):=by
    conv=>lhs;rw [hcs]
    rw [List.drop_append,hl0,List.drop_eq_nil_of_le (by omega),List.nil_append,List.drop_append,hle,show i*sz+off+new.length-i*sz=off+new.length by omega,show off+new.length-sz=0 by omega,List.drop_zero]
   rw [d1,d2,show cs.take (i*sz)++(enc x).take off++new++((enc x).drop (off+new.length)++cs.drop (i*sz+sz))=(cs.take (i*sz)++enc x')++cs.drop (i*sz+sz) by rw [hn];simp]
   rw [zmo1 x' hi]
   have hl1:(cs.take (i*sz)++enc x').length=i*sz+sz:=by
    grind
   rw [List.take_append,hl1,t2,List.take_of_length_le (by omega),t1]
   simp
end
section
variable {h0 k:Hp}
theorem Has.oput {α:Type} {sz:Nat} {enc:α->List Value} {l:Sl} {xs:List α} (o:Has h0 (OwnA sz enc l xs) k) (henc:∀x,(enc x).length=sz) {i:Nat} {x x':α} (hx:xs[i]? =some x) {off:Nat} {new:List Value} (hoff:off+new.length<=sz) (hn:enc x'=(enc x).take off++new++(enc x).drop (off+new.length))
  {K:Hp->Prop} (hk:∀k',Has h0 (OwnA sz enc l (xs.set i x')) k'->K k'):StW k ((sat l.base sz (i:Int)).add off) new K:=by
 obtain ⟨hl,F,⟨B,h,e⟩,hf⟩:=o
 refine h.putC henc hx hoff hn fun k' h' m=>hk k' ⟨fun b ob eb=>m.keep b ob (hl b ob eb) fun hb=> ?_,F,⟨B,h',e⟩,hf⟩
 grind
theorem Has.ownRw {α:Type} {sz:Nat} {enc:α->List Value} {l:Sl} {xs:List α} (o:Has h0 (OwnA sz enc l xs) k) (henc:∀x,(enc x).length=sz):Rw k sz enc l xs:=by
 obtain ⟨hl,F,⟨B,h,e⟩,hf⟩:=o
 exact h.rw henc
theorem Has.rowsOf {γ:Type} {sh:Shape} {sz:Nat} {Q:sh.T->γ->Hp->List Nat->Prop} {okQ:AsOk Q} {l:Sl} {xs:List sh.T} {ps:List γ} (o:Has h0 ((OwnA sz (fun x=>zac (sh.enc x)) l xs).star (AsA (lsOk okQ) xs ps)) k):Has h0 (AsA (RowsO.ok (sh:=sh) (sz:=sz) okQ) l ps) k:=by
 refine o.map fun kk F h=> ?_
 obtain ⟨F1,F2,e,d,⟨B1,o1,e1⟩,⟨B2,o2,nd2,e2⟩⟩:=h
 refine ⟨B1++B2,⟨xs,B1,B2,rfl,o1,o2⟩,?_,fun b=> ?_⟩
 ·rw [List.nodup_append]
  exact ⟨o1.nodup,nd2,fun a ha b hb hab=>by subst hab;exact d a ((e1 a).2 ha) ((e2 a).2 hb)⟩
 grind
theorem zkq2 {x:S_api_Config} {c:PCfg} {Q:S_api_Config->Hp->Prop} (a:CfgAt k x c) (hl:c.labels.length<=1000) (ht:c.table.length<=1000) (hp:c.procs.length<=1000) (hc:∀y∈c.procs,y.code.length<=1000)
  (hq:∀r k',Has k ((AsA okUs r.Labels c.labels).star ((AsA okIs r.Table c.table).star (AsA okProcs r.Procs c.procs))) k'->r.Fuel=c.fuel->r.Lane=c.lane->r.Locks=c.locks->r.Log=c.log->Q r k'):zog Tryz.prog x Q k:=by
 unfold zog
 refine zfe ?_
 unfold zcd
 refine zka (enc:=fun x:Int=>zac ((shInt .u64).enc x)) (tb_ok.und 22 ty22 rfl) a.labels (by decide) (fun _=>rfl) (fun _=>rfl) rfl ⟨by omega,by omega⟩ fun ll k1 l1 n1=> ?_
 refine ⟨⟨trivial,trivial,trivial⟩,?_⟩
 have a1:=a.mono l1
 refine zcz ?_
 unfold zbp
 refine zka (enc:=fun x:Int=>zac ((shInt .i64).enc x)) (tb_ok.und 23 ty23 rfl) a1.table (by decide) (fun _=>rfl) (fun _=>rfl) rfl ⟨by omega,by omega⟩ fun lt k2 l2 n2=> ?_
 refine ⟨⟨trivial,trivial⟩,?_⟩
 have a2:=a1.mono l2
 obtain ⟨ps,hps,hall⟩:=a2.procs
 have hpl:ps.length=c.procs.length:=hall.len
 refine zkr ?_
 unfold zet
 refine zka (enc:=eQ) (tb_ok.und 24 ty24 rfl) hps (by decide) (fun _=>rfl) (fun _=>rfl) rfl ⟨by omega,by omega⟩ fun lp k3 l3 n3=> ?_
 have hlen:=(n3.ownRw (fun _=>rfl)).1
 have nil:Has k3 (AsA (lsOk zrm1) ([]:List S_api_Proc) ([]:List PProc)) k3:=Has.ofAs (B:=[]) (Hp.le_refl _) rfl .nil fun _ h=>by cases h
 refine LoopW1.intro (fun (t:Int) k'=>0<=t/\t<=(ps.length:Int)/\∃qs:List S_api_Proc,qs.length=t.toNat/\Has k2 ((OwnA 2 eQ lp (qs++ps.drop t.toNat)).star (AsA (lsOk zrm1) qs (c.procs.take t.toNat))) k') (fun t _=>(ps.length-t).toNat) ⟨by omega,by omega,[],rfl,by simpa using n3.beside nil⟩ ?_
 rintro t k' ⟨t0,t1,qs,eqs,o⟩
 by_cases h:t<(ps.length:Int)
 ·rw [if_pos (decide_eq_true (by omega))]
  have hi:t.toNat<ps.length:=by omega
  have etn:((t.toNat:Nat):Int)=t:=by omega
  obtain ⟨h5,l5,oO,_,putO⟩:=o.fst
  have hrow:(qs++ps.drop t.toNat)[t.toNat]? =some ps[t.toNat]:=by
   grind
  obtain ⟨pc,hpc,epart,is,his,him⟩:=hall.get (i:=t.toNat) (List.getElem?_eq_getElem hi)
  generalize ps[t.toNat]=y at hrow his epart
  have hil:is.length<=1000:=by
   grind
  refine Rs.get (sh:=sh_api_Proc) (oO.ownRw (fun _=>rfl)) (fun _=>rfl) (by omega) t0 (by rw [List.length_append,List.length_drop];omega) fun (y':S_api_Proc) hy'=> ?_
  rw [hrow] at hy'
  cases hy'
  refine zma ?_
  unfold zfi
  refine zka (enc:=fun x=>zac (sh_api_Ins.enc x)) (tb_ok.und 48 ty48 rfl) (Rw.mono o.le his) (by decide) (fun _=>rfl) (fun _=>rfl) rfl ⟨by omega,by omega⟩ fun lc k6 l6 n6=> ?_
  have hA:∀l:List S_api_Ins,All2 (fun x p=>insOf x=p) l (l.map insOf):=fun l=>by
   induction l with
   | nil=>trivial
   | cons a r ih=>exact ⟨rfl,ih⟩
  have oI:Has k' (AsA okIns lc pc.code) k6:=by
   rw [<-him]
   obtain ⟨hle,F,⟨B,hB,e⟩,hf⟩:=n6
   exact Has.ofAs hle ⟨is,B,[],by simp,hB,zuj1 (hA is)⟩ hB.nodup fun b hb=>hf b ((e b).2 hb)
  have oA:=(o.beside oI).assoc
  obtain ⟨h7,l7,oW,_,putW⟩:=oA.fst
  have hInB:=(Rs.get (sh:=sh_api_Proc) (K:=fun _=>True) (oW.ownRw (fun _=>rfl)) (fun _=>rfl) (by omega) t0 (by rw [List.length_append,List.length_drop];omega) fun _ _=>trivial).1
  refine ⟨⟨trivial,trivial⟩,hInB,?_⟩
  have key:=oW.oput (i:=t.toNat) (x':=(⟨y.Part,lc⟩:S_api_Proc)) (off:=1) (new:=[lc.v]) (fun _=>rfl) hrow (by simp) rfl
   (K:=fun h6=>(0<=IntKind.wrap .i64 (t+1)/\IntKind.wrap .i64 (t+1)<=(ps.length:Int)/\∃qs:List S_api_Proc,qs.length=(IntKind.wrap .i64 (t+1)).toNat/\Has k2 ((OwnA 2 eQ lp (qs++ps.drop (IntKind.wrap .i64 (t+1)).toNat)).star (AsA (lsOk zrm1) qs (c.procs.take (IntKind.wrap .i64 (t+1)).toNat))) h6)/\(ps.length-IntKind.wrap .i64 (t+1)).toNat<(ps.length-t).toNat) fun k8 o8=> ?_
  ·grind
  ·rw [wrap64 (by omega) (by omega)]
   refine ⟨⟨by omega,by omega,qs++ [⟨y.Part,lc⟩],by rw [List.length_append,eqs,List.length_singleton];omega,?_⟩,by omega⟩
   have e1:(t+1).toNat=t.toNat+1:=by omega
   have e2:(qs++ps.drop t.toNat).set t.toNat (⟨y.Part,lc⟩:S_api_Proc)=(qs++ [⟨y.Part,lc⟩])++ps.drop (t.toNat+1):=by
    rw [List.set_append_right _ _ (by omega),eqs,Nat.sub_self,List.drop_eq_getElem_cons hi,List.set_cons_zero,List.append_assoc]
    rfl
   rw [e2] at o8
   have e3:c.procs.take (t.toNat+1)=c.procs.take t.toNat++ [pc]:=by rw [List.take_add_one,hpc];rfl
   rw [e1,e3]
   refine (putW _ _ o8).map fun kk F hF=>zpn (fun _ h=>h) (fun F' h=> ?_) hF
   obtain ⟨F1,F2,e,d,⟨B1,r1,nd1,f1⟩,⟨B2,r2,nd2,f2⟩⟩:=h
   refine ⟨B1++B2,LsO.snoc (R:=ProcO) (a:=(⟨y.Part,lc⟩:S_api_Proc)) (b:=pc) (B':=B2) ⟨epart,r2⟩ r1,?_,fun b=> ?_⟩
   ·rw [List.nodup_append]
    exact ⟨nd1,nd2,fun a ha b hb hab=>by subst hab;exact d a ((f1 a).2 ha) ((f2 a).2 hb)⟩
   grind
 ·rw [if_neg (fun e=>h (by grind))]
  have e1:t.toNat=ps.length:=by omega
  rw [e1,List.drop_length,List.append_nil,hpl,List.take_length] at o
  have o1:=o.rowsOf (sh:=sh_api_Proc) (okQ:=zrm1)
  have oU:Has k (AsA okUs ll c.labels) k1:=n1.pureRows (f:=fun x=>x) (fun _=>rfl) fun _=>rfl
  have oI:Has k1 (AsA okIs lt c.table) k2:=n2.pureRows (f:=fun x=>x) (fun _=>rfl) fun _=>rfl
  exact hq _ k' ((oU.beside oI).beside o1).assoc a.fuel a.lane a.locks a.log
end
section
variable {h0 k:Hp} {K:MK} {pm:Addr} {s:MS} {tm:Nat->Nat->Int}
theorem cfgOf {r:S_api_Config} {c:PCfg} (o:Has h0 ((AsA okUs r.Labels c.labels).star ((AsA okIs r.Table c.table).star (AsA okProcs r.Procs c.procs))) k) (e1:r.Fuel=c.fuel) (e2:r.Lane=c.lane) (e3:r.Locks=c.locks) (e4:r.Log=c.log):Has h0 (AsA okCfg r c) k:=by
 refine o.map fun kk F h=> ?_
 obtain ⟨F1,F2,e,d,⟨B1,r1,nd1,f1⟩,⟨F3,F4,e',d',⟨B2,r2,nd2,f2⟩,⟨B3,r3,nd3,f3⟩⟩⟩:=h
 refine ⟨B1++(B2++B3),⟨B1,B2,B3,rfl,r1,r2,r3,e1,e2,e3,e4⟩,?_,fun b=> ?_⟩
 ·rw [List.nodup_append,List.nodup_append]
  refine ⟨nd1,⟨nd2,nd3,fun a ha b hb hab=> ?_⟩,fun a ha b hb hab=> ?_⟩
  ·subst hab;exact d' a ((f2 a).2 ha) ((f3 a).2 hb)
  ·subst hab
   rcases List.mem_append.1 hb with hb | hb
   ·exact d a ((f1 a).2 ha) ((e' a).2 (.inl ((f2 a).2 hb)))
   ·exact d a ((f1 a).2 ha) ((e' a).2 (.inr ((f3 a).2 hb)))
 ·rw [e b,e' b,f1 b,f2 b,f3 b,List.mem_append,List.mem_append]
end
def part0 :PPart:=⟨0,[],0,0,[],[]⟩
def proc0 :PProcess:=⟨0,0,[],0,0,false,0,[]⟩
def msOf (t:zbi):MS:=⟨t.tick,fun i=>t.parts.getD i part0,fun p=>t.procs.getD p proc0⟩
theorem zcm1 {l:List Int} (h:∀z∈l,l.countP (fun y=>decide (y=z))<=1):l.Nodup:=by
 induction l with
 | nil=>simp
 | cons a l ih=>
  rw [List.nodup_cons]
  refine ⟨fun hm=> ?_,ih fun z hz=> ?_⟩
  ·have h1:=h a (List.mem_cons_self ..)
   rw [List.countP_cons] at h1
   have:0<l.countP (fun y=>decide (y=a)):=List.countP_pos_iff.2 ⟨a,hm,by simp⟩
   simp at h1
   exact absurd hm (by
    intro hm
    have:=h1 a hm
    exact this rfl)
  grind
theorem zdu2 {α:Type} {f:α->Nat} {l:List α} {a:α} (h:a∈l):f a<=(l.map f).sum:=by
 induction l with
 | nil=>cases h
 | cons b l ih=>
  grind
theorem zlm1 {α:Type} {f:α->Nat} {l:List α} (h:(l.map f).sum≠0):∃a∈l,f a≠0:=by
 refine Classical.byContradiction fun hn=>h ?_
 rw [List.sum_eq_zero_iff_forall_eq_nat]
 grind
section
variable {c:PCfg} {fl:Nat->Nat->Bool} {t:zbi}
theorem zox1 (hp:t.parts.length=nP c) (hq:t.procs.length=nQ c):(msOf t).list c=t:=by
 have e1:(List.range (nP c)).map (msOf t).part=t.parts:=by
  refine List.ext_getElem? fun j=> ?_
  rw [List.getElem?_map]
  by_cases h:j<nP c
  ·rw [List.getElem?_range h,List.getElem?_eq_getElem (by omega)]
   simp [msOf,List.getD,List.getElem?_eq_getElem (show j<t.parts.length by omega)]
  grind
 have e2:(List.range (nQ c)).map (msOf t).proc=t.procs:=by
  refine List.ext_getElem? fun j=> ?_
  rw [List.getElem?_map]
  by_cases h:j<nQ c
  ·rw [List.getElem?_range h,List.getElem?_eq_getElem (by omega)]
   simp [msOf,List.getD,List.getElem?_eq_getElem (show j<t.procs.length by omega)]
  grind
 unfold MS.list
 rw [e1,e2]
 rfl
theorem zdv2 (m:CfgM c) {i:Nat} {st:zbi}:∀ {l:List zfc1} {last:Int},LogG c st i last l->l.Pairwise (fun a b=>a.tick<=b.tick)/\∀e∈l,last<=e.tick/\e.tick<st.tick/\0<=e.proc/\e.proc.toNat<nQ c/\pOf c e.proc.toNat=i
 | [],_,_=>⟨List.Pairwise.nil,fun e h=>by cases h⟩
 | e::r,last,h=>by
  obtain ⟨h1,h2,h3,h4⟩:=h
  obtain ⟨a,b⟩:=zdv2 m h4
  refine ⟨List.pairwise_cons.2 ⟨fun e' he'=>(b e' he').1,a⟩,fun e' he'=> ?_⟩
  rcases List.mem_cons.1 he' with rfl | he'
  ·exact ⟨h1,h2,(zoo m).1 h3⟩
  grind
theorem zkr2 (m:CfgM c) (h:MayG c t fun i y=>fl i y.toNat=true) (hr:∀x∈t.procs,x.regs.length=8):Good c fl (msOf t) No No t.tick:=by
 obtain ⟨⟨hT,hp,hq⟩,hP,hQ,hW1,hW2,hW3⟩:=h
 have hlist:=zox1 (c:=c) (t:=t) hp hq
 have gp:∀ {i},i<nP c->t.parts[i]? =some ((msOf t).part i):=fun {i} hi=>by
  have:=zxu1 (c:=c) (s:=msOf t) hi
  grind
 have gq:∀ {i},i<nQ c->t.procs[i]? =some ((msOf t).proc i):=fun {i} hi=>by
  have:=zgo1 (c:=c) (s:=msOf t) hi
  grind
 have gst:∀ {p:Int} {q:PProcess->Prop},stP t p q->p.toNat<nQ c->q ((msOf t).proc p.toNat):=fun {p q} h hp=>by
  obtain ⟨x,e1,e2⟩:=h
  grind
 have gat:∀ {p:Int} {q:PProcess->PIns->Prop},atP c t p q->p.toNat<nQ c->∃n,insX c p.toNat ((msOf t).proc p.toNat)=some n/\q ((msOf t).proc p.toNat) n:=fun {p q} h hp=>by
  obtain ⟨x,y,n,e1,e2,e3,e4⟩:=h
  rw [gq hp] at e1
  cases e1
  obtain ⟨y',f1,f2,f3⟩:=zke m hp
  rw [e2] at f1
  cases f1
  exact ⟨n,by rw [<-zot1 f3];exact e3,e4⟩
 have hin3:∀p,p<nQ c->∀j,j<nQ c->∀(i:Nat) l,((msOf t).proc j).lanes[i]? =some l->∀w∈l.waiters,w.proc=(p:Int)->((msOf t).proc p).state=2:=fun p hp j hj i l hl w hw e=>by
  obtain ⟨y,f1,f2,f3⟩:=zke m hj
  have h5:=(hW2 j _ y (gq hj) f1 i l hl w hw).2.2.2.2
  obtain ⟨n,_,h6,_⟩:=gat h5 (by omega)
  rw [e,Int.toNat_natCast] at h6
  exact h6
 have hin2:∀p,p<nQ c->∀j,j<nP c->∀q∈((msOf t).part j).queues,(p:Int)∈q->((msOf t).proc p).state=3:=fun p hp j hj q hq' hm=>by
  obtain ⟨k,hk,he⟩:=List.getElem_of_mem hq'
  have hg:((msOf t).part j).queues[k]? =some q:=by grind
  obtain ⟨n,_,h6,_⟩:=gat (hW1 j _ (gp hj) k q hg _ hm).2.1 (by omega)
  rw [Int.toNat_natCast] at h6
  exact h6
 refine ⟨hT.1,fun i hi=> ?_,fun p hp'=> ?_,fun i hi k o ho=> ?_,fun i hi k q hqk=> ?_,fun r hr' i l hl=> ?_,fun p hp' _ h3=> ?_,fun p hp' _ h2=> ?_⟩
 ·obtain ⟨⟨a1,a2,a3⟩,a4,a5,a6,a7,a8,a9,_⟩:=hP i _ (gp hi)
  obtain ⟨b1,b2⟩:=zdv2 m a4
  exact ⟨⟨a1,by rw [zkn2 m] at a2;exact a2⟩,a3,⟨b1,b2⟩,a5,a6,a7,a8,a9⟩
 ·obtain ⟨y,f1,f2,f3⟩:=zke m hp'
  obtain ⟨a1,a2,a3,a4,a5,a6,a7,a8,a9,b1,b2,b3,b4⟩:=hQ p _ y (gq hp') f1
  rw [zot1 f3] at b1 b2 b3 b4
  rw [f3] at a2
  refine ⟨a1,a2,a3,a4,a5,a6,.inr a7,fun h=>⟨.inr (a8 h).1,(a8 h).2⟩,fun i l hl=> ?_,b1,b2,b3,b4,hr _ (List.mem_of_getElem? (gq hp'))⟩
  obtain ⟨c1,c2,c3,c4⟩:=a9 i l hl
  refine ⟨c1,c2,c3,fun hu hi=> ?_⟩
  have:=c4 hu hi
  rw [f2] at this
  have this:fl i ((pOf c p:Nat):Int).toNat=true:=this
  rwa [Int.toNat_natCast] at this
 ·by_cases e:o= -1
  ·exact .inl e
  ·obtain ⟨b1,b2⟩:=(hP i _ (gp hi)).2.2.2.2.2.2.2 o (List.mem_of_getElem? ho) e
   obtain ⟨c1,c2,c3⟩:=(zoo m).1 b1
   exact .inr ⟨c1,c2,c3,.inl (livesB_iff.2 (gst b2 c2))⟩
 ·have hall:=hW1 i _ (gp hi) k q hqk
  refine ⟨zcm1 fun z hz=> ?_,fun z hz=> ?_,fun hne=> ?_⟩
  ·obtain ⟨c1,c2,c3⟩:=(zoo m).1 (hall z hz).1
   have h3:=hW3 z.toNat _ (gq c2)
   rw [show ((z.toNat:Nat):Int)=z by omega] at h3
   have h4:q.countP (fun y=>decide (y=z))<=cntQ z ((msOf t).part i):=zdu2 (f:=fun q:List Int=>q.countP (fun y=>decide (y=z))) (List.mem_of_getElem? hqk)
   have h5:cntQ z ((msOf t).part i)<=(t.parts.map (cntQ z)).sum:=zdu2 (List.mem_of_getElem? (gp hi))
   split at h3<;>omega
  ·obtain ⟨c1,c2,c3⟩:=(zoo m).1 (hall z hz).1
   obtain ⟨n,e1,e2,e3⟩:=gat (hall z hz).2.1 c2
   obtain ⟨y,f1,f2,f3⟩:=zke m c2
   have h5:=(hQ z.toNat _ y (gq c2) f1).2.2.2.2.2.2.2.2.2.2.2.1 e2
   obtain ⟨n',g1,g2⟩:=h5
   rw [zot1 f3,e1] at g1
   cases g1
   exact ⟨c1,c2,c3,fun h=>h,.inr ⟨e2,n,e1,g2,e3⟩⟩
  ·cases q with
   | nil=>grind
   | cons a r=>
    obtain ⟨o,e1,e2,e3⟩:=(hall a (List.mem_cons_self ..)).2.2
    refine ⟨o,e1,by omega,fun hm=> ?_⟩
    grind
 ·obtain ⟨y,f1,f2,f3⟩:=zke m hr'
  have hall:=hW2 r _ y (gq hr') f1 i l hl
  refine ⟨zcm1 fun z hz=> ?_,fun hne=> ?_,fun w hw=> ?_⟩
  ·obtain ⟨w,hw,rfl⟩:=List.mem_map.1 hz
   obtain ⟨c1,c2,c3⟩:=(zoo m).1 (hall w hw).2.1
   have h3:=hW3 w.proc.toNat _ (gq c2)
   rw [show ((w.proc.toNat:Nat):Int)=w.proc by omega] at h3
   have h4:cntW w.proc l<=cntL w.proc ((msOf t).proc r):=zdu2 (List.mem_of_getElem? hl)
   have h5:cntL w.proc ((msOf t).proc r)<=(t.procs.map (cntL w.proc)).sum:=zdu2 (List.mem_of_getElem? (gq hr'))
   rw [zov1] at h4
   split at h3<;>omega
  ·cases hws:l.waiters with
   | nil=>grind
   | cons a ws=>
    obtain ⟨e1,_,e3,e4,_⟩:=hall a (by grind)
    exact ⟨by omega,.inl (livesB_iff.2 e3),e4⟩
  ·obtain ⟨e1,e2,_,_,e5⟩:=hall w hw
   obtain ⟨c1,c2,c3⟩:=(zoo m).1 e2
   obtain ⟨n,g1,g2,g3,g4,g5⟩:=gat e5 c2
   exact ⟨c1,c2,c3,fun h=>h,.inr ⟨g2,n,g1,g3,by simp [regR,List.getD,g4],by simp [regR,List.getD,g5]⟩⟩
 ·have h4:=hW3 p _ (gq hp')
  rw [if_pos (.inl h3)] at h4
  have h5:(t.procs.map (cntL (p:Int))).sum=0:=by
   rw [List.sum_eq_zero_iff_forall_eq_nat]
   intro y hy
   obtain ⟨x,hx,rfl⟩:=List.mem_map.1 hy
   obtain ⟨j,hj,he⟩:=List.getElem_of_mem hx
   have hj':j<nQ c:=by have:t.procs.length=nQ c:=hq;omega
   have e:x=(msOf t).proc j:=by
    have h1:=gq hj'
    rw [List.getElem?_eq_getElem hj,he] at h1
    exact Option.some.inj h1
   subst e
   refine zow1 fun l hl w hw ew=> ?_
   obtain ⟨i,hi,he2⟩:=List.getElem_of_mem hl
   have:=hin3 p hp' j hj' i l (by rw [List.getElem?_eq_getElem hi,he2]) w hw ew
   omega
  have h6:(t.parts.map (cntQ (p:Int))).sum≠0:=by omega
  obtain ⟨x,hx,hx0⟩:=zlm1 h6
  obtain ⟨j,hj,he⟩:=List.getElem_of_mem hx
  have hj':j<nP c:=by have:t.parts.length=nP c:=hp;omega
  have e:x=(msOf t).part j:=by
   have h1:=gp hj'
   rw [List.getElem?_eq_getElem hj,he] at h1
   exact Option.some.inj h1
  subst e
  obtain ⟨q,hq',hq0⟩:=zlm1 hx0
  obtain ⟨k,hk,he2⟩:=List.getElem_of_mem hq'
  have hg:((msOf t).part j).queues[k]? =some q:=by rw [List.getElem?_eq_getElem hk,he2]
  have hm:(p:Int)∈q:=Classical.byContradiction fun hn=>hq0 (zpi hn)
  have h7:=((zoo m).1 (hW1 j _ (gp hj') k q hg _ hm).1).2.2
  rw [Int.toNat_natCast] at h7
  grind
 ·have h4:=hW3 p _ (gq hp')
  rw [if_pos (.inr h2)] at h4
  have h5:(t.parts.map (cntQ (p:Int))).sum=0:=by
   rw [List.sum_eq_zero_iff_forall_eq_nat]
   intro y hy
   obtain ⟨x,hx,rfl⟩:=List.mem_map.1 hy
   obtain ⟨j,hj,he⟩:=List.getElem_of_mem hx
   have hj':j<nP c:=by have:t.parts.length=nP c:=hp;omega
   have e:x=(msOf t).part j:=by
    have h1:=gp hj'
    rw [List.getElem?_eq_getElem hj,he] at h1
    exact Option.some.inj h1
   subst e
   refine zou1 fun q hq' hm=> ?_
   have:=hin2 p hp' j hj' q hq' hm
   omega
  have h6:(t.procs.map (cntL (p:Int))).sum≠0:=by omega
  obtain ⟨x,hx,hx0⟩:=zlm1 h6
  obtain ⟨j,hj,he⟩:=List.getElem_of_mem hx
  have hj':j<nQ c:=by have:t.procs.length=nQ c:=hq;omega
  have e:x=(msOf t).proc j:=by
   have h1:=gq hj'
   rw [List.getElem?_eq_getElem hj,he] at h1
   exact Option.some.inj h1
  subst e
  obtain ⟨l,hl',hl0⟩:=zlm1 hx0
  obtain ⟨i,hi,he2⟩:=List.getElem_of_mem hl'
  have hg:((msOf t).proc j).lanes[i]? =some l:=by rw [List.getElem?_eq_getElem hi,he2]
  rw [zov1] at hl0
  have hm:(p:Int)∈l.waiters.map (·.proc):=Classical.byContradiction fun hn=>hl0 (zpi hn)
  obtain ⟨w,hw,e⟩:=List.mem_map.1 hm
  obtain ⟨y,f1,f2,f3⟩:=zke m hj'
  have h7:=((zoo m).1 (hW2 j _ y (gq hj') f1 i l hg w hw).2.1).2.2
  rw [e,Int.toNat_natCast] at h7
  grind
end
def joinH (h' h1 k:Hp):Hp:=fun b=>match h' b with | some ob=>some ob | none=>if h1 b=none then k b else none
theorem zrr1 {h' h1 k:Hp} {b:Nat} {ob:Obj} (e:h' b=some ob):joinH h' h1 k b=some ob:=by unfold joinH;rw [e]
theorem zji1 {h' h1 k:Hp} {b:Nat} (e:h' b=none):joinH h' h1 k b=if h1 b=none then k b else none:=by unfold joinH;rw [e]
theorem zgl2 {P:Program} {g:FuncId} {args:List Value} {K0 K:Value->Hp->Prop} {h1 k:Hp} {A:Asn} (o:Has h1 A k) (hc:CallE P g args K0 h1) (hk:∀v h1' k',K0 v h1'->Has h1' A k'->K v k'):CallE P g args K k:=by
 intro w hs
 refine (hc w (hs.mono o.le)).mono ?_
 rintro e w' ⟨v,h1',rfl,k0,st⟩
 obtain ⟨hl,F,a,hf⟩:=o
 have key:∀b,F b->h1' b=none/\w'.heap[b]? =w.heap[b]?:=fun b hb=>by
  cases e:k b with
  | none=>exact absurd e (A.known a b hb)
  | some ob=>
   have:=st.keep b (hs.lt e) (hf b hb)
   grind
 refine ⟨v,joinH h1' h1 k,rfl,hk v h1' _ k0 ⟨fun b ob e=>zrr1 e,F,A.same a fun b hb=> ?_,fun b hb=>(key b hb).1⟩,?_⟩
 ·rw [zji1 (key b hb).1,if_pos (hf b hb)]
 ·refine ⟨fun b ob e=> ?_,st.size,fun b hb hn=> ?_,st.os,st.tape,st.output⟩
  ·cases e1:h1' b with
   | some o'=>rw [zrr1 e1] at e;cases e;exact st.sub b _ e1
   | none=>
    rw [zji1 e1] at e
    by_cases e2:h1 b=none
    ·rw [if_pos e2] at e
     rw [(st.keep b (hs.lt e) e2).1]
     exact hs b ob e
    grind
  ·have e2:h1 b=none:=zbz hl hn
   obtain ⟨q1,q2⟩:=st.keep b hb e2
   exact ⟨q1,by rw [zji1 q2,if_pos e2];exact hn⟩
theorem zjj1 {P:Program} {g:FuncId} {args:List Value} {sh:Shape} {K0 K:sh.T->Hp->Prop} {h1 k:Hp} {A:Asn} (o:Has h1 A k) (hc:CallT P g args sh K0 h1) (hk:∀x h1' k',K0 x h1'->Has h1' A k'->K x k'):CallT P g args sh K k:=
 zgl2 o hc fun _ h1' k' ⟨x,e,h⟩ o'=>⟨x,e,hk x h1' k' h o'⟩
theorem zrs1 {P:Program} {g:FuncId} {args:List Value} {s1 s2 s3:Shape} {K0 K:s1.T->s2.T->s3.T->Hp->Prop} {h1 k:Hp} {A:Asn} (o:Has h1 A k) (hc:Call3 P g args s1 s2 s3 K0 h1) (hk:∀x y z h1' k',K0 x y z h1'->Has h1' A k'->K x y z k'):Call3 P g args s1 s2 s3 K k:=
 zjj1 o hc fun p h1' k' h o'=>hk p.1 p.2.1 p.2.2 h1' k' h o'
theorem zba2 {c:PCfg} (h:(cfgE c).1=0):CfgM c:=by
 obtain ⟨e1,e2,e3,e4,e5,e6,e7,e8,e9,e10,e11⟩:=cfgP_zero.1 h
 obtain ⟨l1,l2,l3⟩:=mayP_zero.1 e1
 have:=List.length_pos_iff.2 l1
 have:=List.length_pos_iff.2 e9
 refine ⟨⟨by unfold nP;omega,by unfold nP;omega⟩,⟨e2,e3,fun i hi=>by have:=e4 i hi;unfold nP;omega⟩,e5,e6,e7,e8,⟨by unfold nQ;omega,by unfold nQ;omega⟩,fun y hy=>by have:=(e11 y hy).1;unfold nP;omega,fun y hy=>(zrj1 e7).1 (e11 y hy).2⟩
section
variable {h0 k:Hp}
theorem Has.slMap {α β:Type} {sz:Nat} {enc:α->List Value} {enc':β->List Value} {l:Sl} {xs:List α} (f:α->β) (he:∀x,enc x=enc' (f x)) (o:Has h0 (SlA sz enc l xs) k):Has h0 (SlA sz enc' l (xs.map f)) k:=by
 refine o.map fun kk F h=> ?_
 obtain ⟨h1,h2,h3⟩:=h
 refine ⟨by grind,h2,h3.imp id ?_⟩
 rintro ⟨b,off,cs,e1,e2,e3,e4,e5⟩
 refine ⟨b,off,cs,e1,e2,e3,e4,by rw [e5,List.flatMap_map];congr 1;grind⟩
theorem zxy1 {h:Hp} {t:Sl} {xs:List Int} {n:Int} {Q:Option Addr->Int->Int->Hp->Prop} (r:Is h t xs) (h1:1<=n) (h8:n<=8) (hne:xs≠ []) (hl:xs.length<=64) (hall:∀x∈xs,0<=x/\x<n)
  (hq:∀p i s h',h<=h'->LdIs h' p [s.v,.int .i64 n]->Is h' s xs->Q (some p) 0 i h'):zpx Tryz.prog t n Q h:=by
 unfold zpx
 have hlen:=r.1
 have hpos:0<xs.length:=List.length_pos_iff.2 hne
 intro b ty hn
 have hle:=zcu (o:=.cells (#[Value.int .i64 n]) ty (0,0)) hn
 have hld:LdIs (h.set b (.cells (#[Value.int .i64 n]) ty (0,0))) ⟨b,0,none⟩ [.int .i64 n]:=zul (cs:=[Value.int .i64 n])
 refine ld_at (sh:=shInt .i64) n hld ?_
 refine ⟨n,fun _=>hld,?_⟩
 refine letW (letW ?_)
 rw [if_neg (by simp;omega),if_neg (by simp;omega)]
 have hany:(xs.any fun x=>decide (x<0) || decide (x>=n))=false:=by
  grind
 refine zgq (f:=⟨zlm, #[], #[.pointer (some ⟨b,0,none⟩)]⟩) (zjx1 (p:=fun x=>decide (x<0) || decide (x>=n)) (Rw.mono hle r) (by omega) (fun x _ k K hk hK=> ?_) fun i h' hle' hi=> ?_)
 ·refine zhq (g:=zlm) rfl (zxc ?_)
  unfold zvd
  refine ⟨n,fun _=>zbl hk hld,letW (hK k hk)⟩
 ·dsimp only
  rw [hany] at hi
  rw [if_neg (fun e=>by grind)]
  refine ld_at (sh:=shInt .i64) n (zbl hle' hld) ?_
  refine zcz ?_
  unfold zbp
  refine zka (enc:=fun x:Int=>zac ((shInt .i64).enc x)) (tb_ok.und 23 ty23 rfl) (Rw.mono (Hp.le_trans hle hle') r) (by decide) (fun _=>rfl) (fun _=>rfl) rfl ⟨by omega,by omega⟩ fun out h2 hle2 ho=> ?_
  refine ⟨⟨zbl (Hp.le_trans hle' hle2) hld,trivial⟩,?_⟩
  intro b2 t2 hn2
  exact hq _ _ out _ (Hp.le_trans (Hp.le_trans hle hle') (Hp.le_trans hle2 (zcu hn2))) (zul (cs:=[out.v,.int .i64 n])) (Rw.mono (zcu hn2) (ho.ownRw fun _=>rfl))
abbrev Six (R F G S T U:Asn):Asn:=(R.star (F.star G)).star (S.star (T.star U))
variable {R F G S T U:Asn}
theorem Has.sR (o:Has h0 (Six R F G S T U) k):∃h1,h0<=h1/\Has h1 R k/\∀R' k',Has h1 R' k'->Has h0 (Six R' F G S T U) k':=by
 obtain ⟨h1,a,b,_,c⟩:=o.fst
 obtain ⟨h2,a2,b2,c2⟩:=b.f1
 exact ⟨h2,Hp.le_trans a a2,b2,fun _ _ o'=>c _ _ (c2 _ _ o')⟩
theorem Has.sF (o:Has h0 (Six R F G S T U) k):∃h1,h0<=h1/\Has h1 F k/\∀F' k',Has h1 F' k'->Has h0 (Six R F' G S T U) k':=by
 obtain ⟨h1,a,b,_,c⟩:=o.fst
 obtain ⟨h2,a2,b2,c2⟩:=b.f2
 exact ⟨h2,Hp.le_trans a a2,b2,fun _ _ o'=>c _ _ (c2 _ _ o')⟩
theorem Has.sG (o:Has h0 (Six R F G S T U) k):∃h1,h0<=h1/\Has h1 G k/\∀G' k',Has h1 G' k'->Has h0 (Six R F G' S T U) k':=by
 obtain ⟨h1,a,b,_,c⟩:=o.fst
 obtain ⟨h2,a2,b2,c2⟩:=b.f3
 exact ⟨h2,Hp.le_trans a a2,b2,fun _ _ o'=>c _ _ (c2 _ _ o')⟩
theorem Has.sS (o:Has h0 (Six R F G S T U) k):∃h1,h0<=h1/\Has h1 S k/\∀S' k',Has h1 S' k'->Has h0 (Six R F G S' T U) k':=by
 obtain ⟨h1,a,b,_,c⟩:=o.snd
 obtain ⟨h2,a2,b2,c2⟩:=b.f1
 exact ⟨h2,Hp.le_trans a a2,b2,fun _ _ o'=>c _ _ (c2 _ _ o')⟩
theorem Has.sT (o:Has h0 (Six R F G S T U) k):∃h1,h0<=h1/\Has h1 T k/\∀T' k',Has h1 T' k'->Has h0 (Six R F G S T' U) k':=by
 obtain ⟨h1,a,b,_,c⟩:=o.snd
 obtain ⟨h2,a2,b2,c2⟩:=b.f2
 exact ⟨h2,Hp.le_trans a a2,b2,fun _ _ o'=>c _ _ (c2 _ _ o')⟩
theorem Has.sU (o:Has h0 (Six R F G S T U) k):∃h1,h0<=h1/\Has h1 U k/\∀U' k',Has h1 U' k'->Has h0 (Six R F G S T U') k':=by
 obtain ⟨h1,a,b,_,c⟩:=o.snd
 obtain ⟨h2,a2,b2,c2⟩:=b.f3
 exact ⟨h2,Hp.le_trans a a2,b2,fun _ _ o'=>c _ _ (c2 _ _ o')⟩
def PartP (q:Addr) (own:Sl) (n:Nat) (y:PPart) (tm:Nat->Int):Asn:=.some_ fun x:S_machine_part=>.some_ fun lp:Addr=>.some_ fun wp:Addr=>
 ((RecA zbr q x).star ((SlA 3 eEn x.log y.log).star ((zfj lp y.owners y.queues).star (zqr wp tm (2*n))))).star (.fact (x.procs=own/\x.cursor=y.cursor/\x.lost=y.lost/\x.forbidden=y.forbidden/\x.locks=some lp/\x.wheel=some wp))
def ProcP (q:Addr) (p i:Nat) (code:Sl) (room:Int) (y:PProcess):Asn:=.some_ fun z:S_machine_proc=>.some_ fun a:Addr=>
 ((RecA sh_machine_proc q z).star (PostA a room y.lanes y.cursor)).star (.fact (z.id_=(p:Int)/\z.part=(i:Int)/\z.code=code/\z.state=y.state/\zaz (coreX z)=y.core/\z.fired=y.fired/\z.post=some a))
theorem Has.ofPart {q lp wp:Addr} {x:S_machine_part} {n:Nat} {y:PPart} {tm:Nat->Int} (o:Has h0 ((((zfj lp y.owners y.queues).star (SlA 3 eEn x.log y.log)).star (zqr wp tm (2*n))).star (RecA zbr q x)) k)
  (e:x.cursor=y.cursor/\x.lost=y.lost/\x.forbidden=y.forbidden/\x.locks=some lp/\x.wheel=some wp):Has h0 (PartP q x.procs n y tm) k:=by
 refine Has.ex.2 ⟨x,Has.ex.2 ⟨lp,Has.ex.2 ⟨wp,Has.withFact ?_ ⟨rfl,e⟩⟩⟩⟩
 refine o.map fun kk F h=> ?_
 exact zpn (fun _ h=>h) (fun _ h=>ztf (zpn (fun _ h=>zte h) (fun _ h=>h) h)) (zte h)
theorem Has.ofProc {q a:Addr} {z:S_machine_proc} {room:Int} {p i:Nat} {y:PProcess} (o:Has h0 ((PostA a room y.lanes y.cursor).star (RecA sh_machine_proc q z)) k)
  (e:z.id_=(p:Int)/\z.part=(i:Int)/\z.state=y.state/\zaz (coreX z)=y.core/\z.fired=y.fired/\z.post=some a):Has h0 (ProcP q p i z.code room y) k:=
 Has.ex.2 ⟨z,Has.ex.2 ⟨a,Has.withFact o.comm ⟨e.1,e.2.1,rfl,e.2.2⟩⟩⟩
theorem zxz1 {q:Addr} {own:Sl} {n id:Nat} {y:PPart} {tm:Nat->Int} {v:Int} {g:FuncId} {args:List Value} {K:Hp->Prop} (o:Has h0 (PartP q own n y tm) k) (hn:n<=1000) (hid:id<2*n) (hz:tm id=0) (hv:0<=v)
  (hc:∀ {Q:Int->Hp->Prop},Q (id:Int) k->CallT Tryz.prog g args (shInt .i64) Q k) (hk:∀k',Has h0 (PartP q own n y (fset tm id v)) k'->K k'):
  (if (decide (v>(0:Int)))=true then
 NilW none (some q) fun p8=>
 LdW none shPtr k (Addr.add p8 6) fun x7=>
 CallT Tryz.prog g args (shInt .i64) (fun r11 h17=>
 (((LdIs h17 (Addr.add p8 6) [(.pointer x7)])/\(True/\True))/\CallT Tryz.prog zbg [(.pointer x7),(.int .i64 r11),(.int .i64 v)] (shInt .i64) (fun r12 h18=>
 K h18) h17)) k
 else
 K k):=by
 by_cases h:v>0
 ·rw [if_pos (decide_eq_true h)]
  obtain ⟨x,o⟩:=Has.ex.1 o
  obtain ⟨lp,o⟩:=Has.ex.1 o
  obtain ⟨wp,o⟩:=Has.ex.1 o
  obtain ⟨o,e⟩:=o.noFact
  refine zab ((Has.left o).ld (shf:=shPtr) x.wheel rfl ?_)
  refine hc ⟨⟨(Has.left o).ldis (off:=6) (n:=1) (vs:=[.pointer x.wheel]) rfl,trivial,trivial⟩,?_⟩
  obtain ⟨h1,l1,o1,_,put⟩:=o.snd
  obtain ⟨h2,l2,o2,put2⟩:=o1.f3
  rw [e.2.2.2.2.2]
  refine zjs (zun1 o2 (by omega) hid h fun k' o'=>hk k' ?_)
  exact Has.ex.2 ⟨x,Has.ex.2 ⟨lp,Has.ex.2 ⟨wp,(put _ _ (put2 _ _ o')).withFact e⟩⟩⟩
 ·rw [if_neg (by simpa using h)]
  have:v=0:=by omega
  subst this
  rw [show fset tm id 0=tm from funext fun j=>by unfold fset;split<;>simp_all] at hk
  exact hk k o
def ofJ (c:PCfg) (i j:Nat):List Nat:=(List.range j).filter fun q=>decide (pOf c q=i)
theorem zdw2 {c:PCfg} {i j:Nat}:ofJ c i (j+1)=if pOf c j=i then ofJ c i j++ [j] else ofJ c i j:=by
 unfold ofJ
 rw [List.range_succ,List.filter_append]
 grind
end
structure LayV (c:PCfg) (t:zbi):Prop where
 parts:t.parts.length=nP c
 procs:t.procs.length=nQ c
 part:∀x∈t.parts,zpk2 x.owners x.queues/\x.log.length<=4096
 proc:∀x∈t.procs,x.lanes.length=nP c+1/\(0<=x.cursor/\x.cursor<x.lanes.length)/\(∀l∈x.lanes,LnV c.lane l)/\0<=x.timer/\0<=x.wake
section
variable {h0 h1 k:Hp} {c:PCfg} {t:zbi}
abbrev zdx2 (c:PCfg) (t:zbi) (pts:List Addr) (own:Nat->Sl) (tm:Nat->Nat->Int) (i:Nat):Asn:=Asn.first (fun i=>PartP (pts.getD i a0) (own i) (nQ c) (t.parts.getD i part0) (tm i)) i
abbrev zks2 (c:PCfg) (t:zbi) (prs:List Addr) (code:Nat->Sl) (j:Nat):Asn:=Asn.first (fun p=>ProcP (prs.getD p a0) p (pOf c p) (code p) c.lane (t.procs.getD p proc0)) j
abbrev ownF (c:PCfg) (own:Nat->Sl) (j i:Nat):Asn:=Asn.first (fun i=>SlA 1 eNum (own i) ((ofJ c i j).map fun (q:Nat)=>(q:Int))) i
abbrev LaidA (c:PCfg) (t:zbi) (pm:Addr) (x:S_machine_Machine) (pts prs:List Addr) (own code:Nat->Sl) (i j:Nat) (tm:Nat->Nat->Int):Asn:=
 Six (RecA zed pm x) (zdx2 c t pts own tm i) (zks2 c t prs code j) (SlA 1 eP x.parts pts) (SlA 1 eP x.procs prs) (ownF c own j i)
def zua (x:S_machine_Machine) (l:Sl):S_machine_Machine:={x with parts:=l}
def zcn1 (x:S_machine_Machine) (l:Sl):S_machine_Machine:={x with procs:=l}
variable {pm:Addr} {x:S_machine_Machine} {pts prs:List Addr} {own code:Nat->Sl} {tm:Nat->Nat->Int}
theorem zdy2 {α:Type} {l:List α} {a d:α} {i:Nat} (h:i=l.length):(l++ [a]).getD i d=a:=by grind
theorem zgm2 {s:S_api_State} {i:Nat} {Q:Hp->Prop} (b:StateAt h0 s t) (v:LayV c t) (mc:CfgM c) (hi:i<nP c) (hp:pts.length=i) (ex:x.procs=⟨none,0,0⟩)
  (o:Has h0 (LaidA c t pm x pts [] (fun _=>⟨none,0,0⟩) code i 0 (fun _ _=>0)) k)
  (hk:∀l a k',Has h0 (LaidA c t pm (zua x l) (pts++ [a]) [] (fun _=>⟨none,0,0⟩) code (i+1) 0 (fun _ _=>0)) k'->Q k'):
  ((InB s.Parts.base s.Parts.len (i:Int))/\LdW none sh_api_Part k (sat s.Parts.base 6 (i:Int)) fun x=>
 Call2 Tryz.prog zuv [x.Owners.v,x.Queues.v] shPtr (shInt .i64) (fun r7 r8 h8=>
 NilW none (some pm) fun p2=>
 LdW none shSl h8 (Addr.add p2 10) fun x1=>
 CallT Tryz.prog zaw [x.Log.v] shSl (fun r9 h9=>
 (((LdIs h9 (Addr.add p2 10) [x1.v])/\(True/\(True/\(True/\True))))/\CallT Tryz.prog zcz1 [] shPtr (fun r10 h10=>
 (((LdIs h10 (Addr.add p2 10) [x1.v])/\(True/\(True/\(True/\True))))/\NewW [(.slice none 0 0),(.int .i64 x.Cursor),r9.v,(.int .i64 x.Lost),(.int .i64 x.Forbidden),(.pointer r7),(.pointer r10)] (fun a1 h11=>
 (((LdIs h11 (Addr.add p2 10) [x1.v])/\True)/\NewW [(.pointer (some a1))] (fun a2 h12=>
 (((LdIs h12 (Addr.add p2 10) [x1.v])/\True)/\zai 1 8 [(.pointer none)] x1 ⟨(some a2),1,1⟩ (fun r11 h13=>
 NilW none (some pm) fun p3=>
 StW h13 (Addr.add p3 10) [r11.v] (fun h14=>
 Q h14)) h12)) h11)) h10)) h9)) h8) k):=by
 obtain ⟨ps,hps,hall⟩:=b.parts
 have hpl:=hall.len
 have e1:=v.parts
 have hparts:=mc.parts
 refine Rs.get (sh:=sh_api_Part) (Rw.mono o.le hps) (fun _=>rfl) (by omega) (by omega) (by omega) fun (y:S_api_Part) hy=> ?_
 rw [Int.toNat_natCast] at hy
 obtain ⟨z,hz,hat⟩:=hall.get hy
 have hzm:=List.mem_of_getElem? hz
 obtain ⟨lv,ll⟩:=v.part z hzm
 have at1:=hat.mono o.le
 obtain ⟨qs,hqs,hq2⟩:=at1.queues
 refine zqa1 (znf2 lv at1.owners hqs hq2 fun lp k2 l2 o2=> ?_)
 have on:=o.grow l2
 obtain ⟨g1,m1,oR,putR⟩:=on.sR
 refine zab (oR.ld (shf:=shSl) x.parts rfl ?_)
 have at2:=at1.mono l2
 obtain ⟨es,hes,hm⟩:=at2.log
 have hel:es.length=z.log.length:=by grind
 refine zdk ?_
 unfold zcf
 refine zka (enc:=fun x=>zac (sh_api_Entry.enc x)) (tb_ok.und 112 ty112 rfl) hes (by decide) (fun _=>rfl) (fun _=>rfl) rfl ⟨by omega,by omega⟩ fun ll k3 l3 o3=> ?_
 refine ⟨⟨(oR.grow l3).ldis (off:=10) (n:=1) (vs:=[x.parts.v]) rfl,trivial,trivial,trivial,trivial⟩,?_⟩
 have o3:Has k2 (SlA 3 eEn ll z.log) k3:=by
  rw [<-hm]
  exact o3.ownSl.slMap zoc1 fun _=>rfl
 refine zqb1 (znm2 (n:=2*nQ c) fun wp k4 l4 o4=> ?_)
 refine ⟨⟨((oR.grow l3).grow l4).ldis (off:=10) (n:=1) (vs:=[x.parts.v]) rfl,trivial,trivial,trivial,trivial⟩,?_⟩
 refine zjr1 (sh:=zbr) (⟨⟨none,0,0⟩,y.Cursor,ll,y.Lost,y.Forbidden,some lp,some wp⟩:S_machine_part) rfl fun q k5 l5 o5=> ?_
 refine ⟨⟨(((oR.grow l3).grow l4).grow l5).ldis (off:=10) (n:=1) (vs:=[x.parts.v]) rfl,trivial⟩,?_⟩
 have oN:Has k (PartP q ⟨none,0,0⟩ (nQ c) z (fun _=>0)) k5:=Has.ofPart (x:=(⟨⟨none,0,0⟩,y.Cursor,ll,y.Lost,y.Forbidden,some lp,some wp⟩:S_machine_part)) (((o2.beside o3).beside o4).beside o5) ⟨hat.cursor,hat.lost,hat.forbidden,rfl,rfl⟩
 obtain ⟨g2,m2,oF,putF⟩:=o.sF
 have oA:=putF _ _ (oF.beside oN)
 refine newSl (enc:=eP) (xs:=[q]) rfl (fun _=>rfl) fun a2 k6 l6 o6=> ?_
 obtain ⟨g3,m3,oR6,_⟩:=(oA.grow l6).sR
 refine ⟨⟨oR6.ldis (off:=10) (n:=1) (vs:=[x.parts.v]) rfl,trivial⟩,?_⟩
 obtain ⟨g4,m4,oS,putS⟩:=(oA.grow l6).sS
 refine oS.app (o6.srw fun _=>rfl) (fun _=>rfl) (fun _=>rfl) rfl ⟨by rw [hp,List.length_singleton];omega,by rw [hp,List.length_singleton];omega⟩ fun l' k7 o7=> ?_
 have oB:=putS _ _ o7
 obtain ⟨g5,m5,oR7,putR7⟩:=oB.sR
 refine zab (oR7.st (zua x l') (off:=10) (new:=[l'.v]) (by show 10+1<=12;omega) rfl fun k8 o8=>hk l' q k8 ?_)
 have oC:=putR7 _ _ o8
 obtain ⟨g6,m6,oU,putU⟩:=oC.sU
 have oD:=putU _ _ (oU.beside (Has.nilSl (sz:=1) (enc:=eNum) (Hp.le_refl _)))
 refine cast ?_ oD
 congr 1
 have eF:(zdx2 c t pts (fun _=>⟨none,0,0⟩) (fun _ _=>0) i).star (PartP q ⟨none,0,0⟩ (nQ c) z fun _=>0)=zdx2 c t (pts++ [q]) (fun _=>⟨none,0,0⟩) (fun _ _=>0) (i+1):=by
  show _=(Asn.first (fun i=>PartP ((pts++ [q]).getD i a0) ⟨none,0,0⟩ (nQ c) (t.parts.getD i part0) fun _=>0) i).star (PartP ((pts++ [q]).getD i a0) ⟨none,0,0⟩ (nQ c) (t.parts.getD i part0) fun _=>0)
  rw [zdy2 hp.symm,zhm hz]
  congr 1
  exact zci fun j hj=>by grind
 rw [eF]
 rfl
theorem zgn2 {s:S_api_State} {co:S_api_Config} {j:Nat} {ci:List S_api_Proc} {Q:Hp->Prop} (b:StateAt h0 s t) (v:LayV c t) (mc:CfgM c) (hj:j<nQ c) (hp:prs.length=j) (hpt:pts.length=nP c)
  (elane:co.Lane=c.lane) (hci:Rs h0 sh_api_Proc 2 x.c_Procs ci) (hca:All2 (ProcAt h0) ci c.procs) (hcode:∀(p:Nat) y,ci[p]? =some y->code p=y.Code)
  (htm:∀i id,i<nP c->tm i id=if id / 2<j then zhr c (msOf t) i id else 0)
  (o:Has h0 (LaidA c t pm x pts prs own code (nP c) j tm) k)
  (hk:∀l a own' tm' k',(∀i id,i<nP c->tm' i id=if id / 2<j+1 then zhr c (msOf t) i id else 0)->Has h0 (LaidA c t pm (zcn1 x l) pts (prs++ [a]) own' code (nP c) (j+1) tm') k'->Q k'):
  ((InB s.Procs.base s.Procs.len (j:Int))/\LdW none sh_api_Process k (sat s.Procs.base 15 (j:Int)) fun x=>
 NilW none (some pm) fun p2=>
 LdW none shSl k (Addr.add (Addr.add p2 0) 6) fun x1=>
 ((InB x1.base x1.len (j:Int))/\LdW none sh_api_Proc k (sat x1.base 2 (j:Int)) fun x2=>
 Call2 Tryz.prog zap1 [(.int .i64 co.Lane),x.Lanes.v,(.int .i64 x.Cursor)] shPtr (shInt .i64) (fun r7 r8 h9=>
 NilW none (some pm) fun p3=>
 LdW none shSl h9 (Addr.add p3 11) fun x3=>
 NewW [(.int .i64 (j:Int)),(.int .i64 x2.Part),x2.Code.v,(.int .i64 x.State),(.int .i64 x.PC),(.int .i64 x.Regs_0),(.int .i64 x.Regs_1),(.int .i64 x.Regs_2),(.int .i64 x.Regs_3),(.int .i64 x.Regs_4),(.int .i64 x.Regs_5),(.int .i64 x.Regs_6),(.int .i64 x.Regs_7),(.bool x.Fired),(.pointer r7)] (fun a1 h10=>
 (((LdIs h10 (Addr.add p3 11) [x3.v])/\True)/\NewW [(.pointer (some a1))] (fun a2 h11=>
 (((LdIs h11 (Addr.add p3 11) [x3.v])/\True)/\zai 1 8 [(.pointer none)] x3 ⟨(some a2),1,1⟩ (fun r9 h12=>
 NilW none (some pm) fun p4=>
 StW h12 (Addr.add p4 11) [r9.v] (fun h13=>
 NilW none (some pm) fun p5=>
 LdW none shSl h13 (Addr.add p5 10) fun x4=>
 ((InB x4.base x4.len x2.Part)/\LdW none shPtr h13 (sat x4.base 1 x2.Part) fun x5=>
 NilW none x5 fun p6=>
 LdW none shSl h13 (Addr.add p6 0) fun x6=>
 NewW [(.int .i64 (j:Int))] (fun a3 h14=>
 zai 1 8 [(.int .i64 (0:Int))] x6 ⟨(some a3),1,1⟩ (fun r10 h15=>
 NilW none x5 fun p7=>
 StW h15 (Addr.add p7 0) [r10.v] (fun h16=>
 JoinW0 (fun k1=>
 (if (decide (x.Timer>(0:Int)))=true then
 NilW none x5 fun p8=>
 LdW none shPtr h16 (Addr.add p8 6) fun x7=>
 CallT Tryz.prog zbs [(.int .i64 (j:Int))] (shInt .i64) (fun r11 h17=>
 (((LdIs h17 (Addr.add p8 6) [(.pointer x7)])/\(True/\True))/\CallT Tryz.prog zbg [(.pointer x7),(.int .i64 r11),(.int .i64 x.Timer)] (shInt .i64) (fun r12 h18=>
 k1 h18) h17)) h16
 else
 k1 h16))
 (fun h17=>
 (if (decide (x.Wake>(0:Int)))=true then
 NilW none x5 fun p8=>
 LdW none shPtr h17 (Addr.add p8 6) fun x7=>
 CallT Tryz.prog zcl [(.int .i64 (j:Int))] (shInt .i64) (fun r11 h18=>
 (((LdIs h18 (Addr.add p8 6) [(.pointer x7)])/\(True/\True))/\CallT Tryz.prog zbg [(.pointer x7),(.int .i64 r11),(.int .i64 x.Wake)] (shInt .i64) (fun r12 h19=>
 Q h19) h18)) h17
 else
 Q h17)))) h14) h13))) h11)) h10)) h9) k)):=by
 obtain ⟨ps,hps,hall⟩:=b.procs
 have hpl:=hall.len
 have e1:=v.procs
 have hparts:=mc.parts
 have hprocs:=mc.procs
 refine Rs.get (sh:=sh_api_Process) (Rw.mono o.le hps) (fun _=>rfl) (by omega) (by omega) (by omega) fun (y:S_api_Process) hy=> ?_
 rw [Int.toNat_natCast] at hy
 obtain ⟨z,hz,hat⟩:=hall.get hy
 have hzm:=List.mem_of_getElem? hz
 obtain ⟨v1,v2,v3,v4,v5⟩:=v.proc z hzm
 obtain ⟨g1,m1,oR,putR⟩:=o.sR
 refine zab (oR.ld (shf:=shSl) x.c_Procs (off:=6) rfl ?_)
 have hcl:=hca.len
 have hnq:nQ c=c.procs.length:=rfl
 refine Rs.get (sh:=sh_api_Proc) (Rw.mono o.le hci) (fun _=>rfl) (by omega) (by omega) (by omega) fun (cy:S_api_Proc) hcy=> ?_
 rw [Int.toNat_natCast] at hcy
 obtain ⟨cz,hcz,cpart,_⟩:=hca.get hcy
 have hczm:=List.mem_of_getElem? hcz
 have hpart:=mc.part cz hczm
 have epOf:pOf c j=cz.part.toNat:=by unfold pOf;rw [hcz];rfl
 have ecode:=hcode j cy hcy
 rw [cpart]
 have at1:=hat.mono o.le
 obtain ⟨ls,hls,hla⟩:=at1.lanes
 have hlan:=mc.lane
 rw [elane,hat.cursor]
 refine ztx1 (zqn2 hlan (by omega) v2 hls hla v3 fun a k2 l2 o2=> ?_)
 refine zab ((oR.grow l2).ld (shf:=shSl) x.procs rfl ?_)
 refine zjr1 (sh:=sh_machine_proc) (⟨(j:Int),cz.part,cy.Code,y.State,y.PC,y.Regs_0,y.Regs_1,y.Regs_2,y.Regs_3,y.Regs_4,y.Regs_5,y.Regs_6,y.Regs_7,y.Fired,some a⟩:S_machine_proc) rfl fun q k3 l3 o3=> ?_
 refine ⟨⟨((oR.grow l2).grow l3).ldis (off:=11) (n:=1) (vs:=[x.procs.v]) rfl,trivial⟩,?_⟩
 have ecore:zaz (coreX (⟨(j:Int),cz.part,cy.Code,y.State,y.PC,y.Regs_0,y.Regs_1,y.Regs_2,y.Regs_3,y.Regs_4,y.Regs_5,y.Regs_6,y.Regs_7,y.Fired,some a⟩:S_machine_proc))=z.core:=by
  show (⟨y.PC,[y.Regs_0,y.Regs_1,y.Regs_2,y.Regs_3,y.Regs_4,y.Regs_5,y.Regs_6,y.Regs_7]⟩:Core)=⟨z.pc,z.regs⟩
  rw [hat.pc,hat.regs]
 have oN:Has k (ProcP q j (pOf c j) (code j) c.lane z) k3:=by
  rw [ecode]
  exact Has.ofProc (z:=(⟨(j:Int),cz.part,cy.Code,y.State,y.PC,y.Regs_0,y.Regs_1,y.Regs_2,y.Regs_3,y.Regs_4,y.Regs_5,y.Regs_6,y.Regs_7,y.Fired,some a⟩:S_machine_proc)) (o2.beside o3) ⟨rfl,by grind,hat.state,ecore,hat.fired,rfl⟩
 obtain ⟨g2,m2,oG,putG⟩:=o.sG
 have oA:=putG _ _ (oG.beside oN)
 refine newSl (enc:=eP) (xs:=[q]) rfl (fun _=>rfl) fun a2 k4 l4 o4=> ?_
 obtain ⟨g3,m3,oR4,_⟩:=(oA.grow l4).sR
 refine ⟨⟨oR4.ldis (off:=11) (n:=1) (vs:=[x.procs.v]) rfl,trivial⟩,?_⟩
 obtain ⟨g4,m4,oT,putT⟩:=(oA.grow l4).sT
 refine oT.app (o4.srw fun _=>rfl) (fun _=>rfl) (fun _=>rfl) rfl ⟨by rw [hp,List.length_singleton];omega,by rw [hp,List.length_singleton];omega⟩ fun l' k5 o5=> ?_
 have oB:=putT _ _ o5
 obtain ⟨g5,m5,oR5,putR5⟩:=oB.sR
 refine zab (oR5.st (zcn1 x l') (off:=11) (new:=[l'.v]) (by show 11+1<=12;omega) rfl fun k6 o6=> ?_)
 have oC:=putR5 _ _ o6
 obtain ⟨g6,m6,oR6,putR6⟩:=oC.sR
 refine zab (oR6.ld (shf:=shSl) x.parts rfl ?_)
 have hi:pOf c j<nP c:=by omega
 obtain ⟨g7,m7,oS,_⟩:=oC.sS
 have rs:Rs k6 shPtr 1 x.parts (pts.map some):=(oS.srw (fun _=>rfl)).map (f:=some) (enc:=fun x=>zac (shPtr.enc x))
 refine rs.get (fun _=>rfl) (by omega) (by omega) (by grind) fun (w:Option Addr) hw=> ?_
 have ew:w=some (pts.getD (pOf c j) a0):=by
  grind
 subst ew
 obtain ⟨g8,m8,oF,putF⟩:=oC.sF
 obtain ⟨g9,m9,oP,_,putP⟩:=oF.one hi
 obtain ⟨px,oP⟩:=Has.ex.1 oP
 obtain ⟨lp,oP⟩:=Has.ex.1 oP
 obtain ⟨wp,oP⟩:=Has.ex.1 oP
 obtain ⟨oP,eP⟩:=oP.noFact
 refine zab ((Has.left oP).ld (shf:=shSl) (off:=0) px.procs rfl ?_)
 rw [eP.1]
 obtain ⟨g10,m10,oU,putU⟩:=oC.sU
 obtain ⟨g11,m11,oO,_,putO⟩:=oU.one hi
 have hlo:((ofJ c (pOf c j) j).map fun (q:Nat)=>(q:Int)).length<=j:=by
  rw [List.length_map]
  exact Nat.le_trans (List.length_filter_le ..) (by simp)
 refine oO.push (e:=(j:Int)) rfl (fun _=>rfl) (fun _=>rfl) rfl ⟨by omega,by omega⟩ fun lo k7 o7=> ?_
 have oD:=putU _ _ (putO _ _ o7)
 obtain ⟨g12,m12,oF2,putF2⟩:=oD.sF
 obtain ⟨g13,m13,oP2,_,putP2⟩:=oF2.one hi
 obtain ⟨px2,oP2⟩:=Has.ex.1 oP2
 obtain ⟨lp2,oP2⟩:=Has.ex.1 oP2
 obtain ⟨wp2,oP2⟩:=Has.ex.1 oP2
 obtain ⟨oP2,eP2⟩:=oP2.noFact
 obtain ⟨g14,m14,oPR,_,putPR⟩:=oP2.fst
 refine zab (oPR.st ({px2 with procs:=lo}:S_machine_part) (off:=0) (new:=[lo.v]) (by show 0+1<=7;omega) rfl fun k8 o8=> ?_)
 have oQ:Has g13 (PartP (pts.getD (pOf c j) a0) lo (nQ c) (t.parts.getD (pOf c j) part0) (tm (pOf c j))) k8:=Has.ex.2 ⟨_,Has.ex.2 ⟨lp2,Has.ex.2 ⟨wp2,(putPR _ _ o8).withFact ⟨rfl,eP2.2⟩⟩⟩⟩
 have eti:=htm (pOf c j)
 refine JoinW0.direct ?_
 rw [hat.timer]
 refine zxz1 (id:=2*j) oQ (by omega) (by omega) (by grind) v4 (fun h=>zeg (by unfold zlt;rw [wrap64 (by omega) (by omega)];grind)) fun k9 o9=> ?_
 rw [hat.wake]
 refine zxz1 (id:=2*j+1) o9 (by omega) (by omega) (by rw [zbq (by omega),eti _ hi,if_neg (by omega)]) v5 (fun h=>zeh (by unfold zlu;rw [show IntKind.wrap .i64 (2*(j:Int))=2*(j:Int) from wrap64 (by omega) (by omega),wrap64 (by omega) (by omega)];grind)) fun k10 o10=> ?_
 have oE:=putF2 _ _ (putP2 _ _ o10)
 have etime:(msOf t).proc j=z:=zhm hz
 refine hk l' q (fset own (pOf c j) lo) (fset tm (pOf c j) (fset (fset (tm (pOf c j)) (2*j) z.timer) (2*j+1) z.wake)) k10 (fun i id hi'=> ?_) ?_
 ·by_cases e:i=pOf c j
  ·subst e
   rw [zbx]
   by_cases e2:id=2*j+1
   ·subst e2
    rw [zbx,if_pos (by omega)]
    unfold zhr
    rw [show (2*j+1) / 2=j by omega,if_pos ⟨hj,rfl⟩,if_neg (by omega),etime]
   ·rw [zbq e2]
    by_cases e3:id=2*j
    ·subst e3
     rw [zbx,if_pos (by omega)]
     unfold zhr
     rw [show (2*j) / 2=j by omega,if_pos ⟨hj,rfl⟩,if_pos (by omega),etime]
    ·rw [zbq e3,htm _ _ hi']
     omega
  ·rw [zbq e,htm _ _ hi']
   by_cases e4:id / 2<j
   ·omega
   ·rw [if_neg e4]
    split
    ·unfold zhr
     rw [if_neg ?_]
     rintro ⟨_,e5⟩
     exact e (by rw [<-e5];congr 1;omega)
    ·rfl
 ·refine cast ?_ oE
  congr 1
  have eG:(zks2 c t prs code j).star (ProcP q j (pOf c j) (code j) c.lane z)=zks2 c t (prs++ [q]) code (j+1):=by
   show _=(Asn.first (fun p=>ProcP ((prs++ [q]).getD p a0) p (pOf c p) (code p) c.lane (t.procs.getD p proc0)) j).star (ProcP ((prs++ [q]).getD j a0) j (pOf c j) (code j) c.lane (t.procs.getD j proc0))
   rw [zdy2 hp.symm,zhm hz]
   congr 1
   exact zci fun j hj=>by grind
  have eU:Asn.first (fset (fun i=>SlA 1 eNum (own i) ((ofJ c i j).map fun (q:Nat)=>(q:Int))) (pOf c j) (SlA 1 eNum lo ((ofJ c (pOf c j) j).map (fun (q:Nat)=>(q:Int))++ [(j:Int)]))) (nP c)=ownF c (fset own (pOf c j) lo) (j+1) (nP c):=by
   refine zci fun i hi=> ?_
   by_cases e:i=pOf c j
   ·subst e;rw [zbx,zbx,zdw2,if_pos rfl,List.map_append];rfl
   ·rw [zbq e,zbq e,zdw2,if_neg (Ne.symm e)]
  have eF:Asn.first (fset (fun i=>PartP (pts.getD i a0) (own i) (nQ c) (t.parts.getD i part0) (tm i)) (pOf c j) (PartP (pts.getD (pOf c j) a0) lo (nQ c) (t.parts.getD (pOf c j) part0) (fset (fset (tm (pOf c j)) (2*j) z.timer) (2*j+1) z.wake))) (nP c)=zdx2 c t pts (fset own (pOf c j) lo) (fset tm (pOf c j) (fset (fset (tm (pOf c j)) (2*j) z.timer) (2*j+1) z.wake)) (nP c):=by
   refine zci fun i hi=> ?_
   by_cases e:i=pOf c j
   ·subst e;rw [zbx,zbx,zbx]
   ·rw [zbq e,zbq e,zbq e]
  rw [eG,eU,eF]
  rfl
theorem zrn2 {x:S_api_Config} {s:S_api_State} {Q:Option Addr->Hp->Prop} (a:CfgAt k x c) (b:StateAt k s t) (hu:∀l∈c.labels,InU l) (he:(cfgE c).1=0) (v:LayV c t)
  (hq:∀K pm tm h1 k',K.c=c->MkOk h1 K->k<=h1->Has h1 (MachA K pm (msOf t) tm) k'->Tied c tm (msOf t)->Q (some pm) k'):zrt Tryz.prog x s Q k:=by
 have mc:=zba2 he
 have hm:(mayP c.labels).1=0:=by
  unfold cfgE at he
  exact (cfgP_zero.1 he).1
 unfold zrt
 have hparts:=mc.parts
 have hprocs:=mc.procs
 have htab:=mc.table
 have hlab:nP c=c.labels.length:=rfl
 have hpro:nQ c=c.procs.length:=rfl
 refine zei1 (zkq2 a (by omega) (by omega) (by omega) (fun y hy=>by have:=(mc.code y hy).1;omega) fun r k1 o1 e1 e2 e3 e4=> ?_)
 refine ⟨⟨trivial,trivial⟩,?_⟩
 obtain ⟨B,hB,_⟩:=(cfgOf o1 e1 e2 e3 e4).as_
 have l1:=o1.le
 have ar:CfgAt k1 r c:=hB.rd
 have a1:=a.mono l1
 have hll:x.Labels.len=c.labels.length:=a.labels.1
 refine zjr1 (sh:=zed) (⟨r.Labels,r.Table,r.Fuel,r.Lane,r.Locks,r.Log,r.Procs,none,none,s.Tick,⟨none,0,0⟩,⟨none,0,0⟩⟩:S_machine_Machine) rfl fun pm k2 l2 o2=> ?_
 refine zrs1 (s1:=shPtr) (s2:=shInt .i64) (s3:=shInt .i64) (K0:=fun p _ _ h'=>k1<=h'/\∃tp,p=some tp/\Tab h' tp c.labels) o2 (zpz1 (zqh2 a1.labels (fun e=>absurd hm e) fun _ tp h' l' ht=>⟨l',tp,rfl,ht⟩)) ?_
 rintro r1 r2 r3 h3 k3 ⟨l3,tp,rfl,hT⟩ o3
 refine zab (o3.st (⟨r.Labels,r.Table,r.Fuel,r.Lane,r.Locks,r.Log,r.Procs,some tp,none,s.Tick,⟨none,0,0⟩,⟨none,0,0⟩⟩:S_machine_Machine) (off:=7) (new:=[.pointer (some tp)]) (by show 7+1<=12;omega) rfl fun k4 o4=> ?_)
 have a3:=a1.mono l3
 refine zrs1 (s1:=shPtr) (s2:=shInt .i64) (s3:=shInt .i64) (K0:=fun p _ _ h'=>h3<=h'/\∃sp,p=some sp/\∃(sl:Sl) (n:Int),LdIs h' sp [sl.v,.int .i64 n]/\Is h' sl c.table) o4 (zcj1 (zxy1 a3.table (n:=(x.Labels.len:Int)) (by omega) (by omega) htab.1 htab.2.1 (fun i hi=>by grind) fun sp i sl h' l' hl hs=>⟨l',sp,rfl,sl,_,hl,hs⟩)) ?_
 rintro r4 r5 r6 h5 k5 ⟨l5,sp,rfl,sl,sn,hL,hS⟩ o5
 refine zab (o5.st (⟨r.Labels,r.Table,r.Fuel,r.Lane,r.Locks,r.Log,r.Procs,some tp,some sp,s.Tick,⟨none,0,0⟩,⟨none,0,0⟩⟩:S_machine_Machine) (off:=8) (new:=[.pointer (some sp)]) (by show 8+1<=12;omega) rfl fun k6 o6=> ?_)
 have l15:k1<=h5:=Hp.le_trans l3 l5
 have b5:StateAt h5 s t:=b.mono (Hp.le_trans l1 l15)
 have ar5:=ar.mono l15
 obtain ⟨ci,hci,hca⟩:=ar5.procs
 obtain ⟨code,hcode⟩:∃code:Nat->Sl,∀(p:Nat) y,ci[p]? =some y->code p=y.Code:=⟨fun p=>((ci[p]?).map (·.Code)).getD ⟨none,0,0⟩,fun p y h=>by grind⟩
 obtain ⟨X,hX⟩:∃X:S_machine_Machine,X=⟨r.Labels,r.Table,r.Fuel,r.Lane,r.Locks,r.Log,r.Procs,some tp,some sp,s.Tick,⟨none,0,0⟩,⟨none,0,0⟩⟩:=⟨_,rfl⟩
 rw [<-hX] at o6
 have hcl:=hca.len
 have st0:Has h5 (LaidA c t pm X [] [] (fun _=>⟨none,0,0⟩) code 0 0 (fun _ _=>0)) k6:=by
  have f1:Has k6 (Asn.fact True) k6:=Has.fact trivial (Hp.le_refl _)
  have n1:Has k6 (SlA 1 eP X.parts []) k6:=by rw [hX];exact Has.nilSl (Hp.le_refl _)
  have n2:Has k6 (SlA 1 eP X.procs []) k6:=by grind
  exact (o6.beside (f1.beside f1)).beside (n1.beside (n2.beside f1))
 obtain ⟨ps,hps,hall⟩:=b5.parts
 obtain ⟨qs,hqs,hqall⟩:=b5.procs
 have e5:=hall.len
 have e6:=hqall.len
 have e7:=v.parts
 have e8:=v.procs
 have e9:s.Parts.len=ps.length:=hps.1
 have e10:s.Procs.len=qs.length:=hqs.1
 refine LoopW1.intro (fun (i:Int) k'=>0<=i/\i<=(nP c:Int)/\∃(l:Sl) (pts:List Addr),pts.length=i.toNat/\Has h5 (LaidA c t pm (zua X l) pts [] (fun _=>⟨none,0,0⟩) code i.toNat 0 (fun _ _=>0)) k') (fun i _=>(nP c-i).toNat) ⟨by omega,by omega,X.parts,[],rfl,st0⟩ ?_
 rintro i k7 ⟨i0,i1,l,pts,hp,o⟩
 by_cases h:i<(nP c:Int)
 ·rw [if_pos (decide_eq_true (by omega))]
  have etn:((i.toNat:Nat):Int)=i:=by omega
  have key:=zgm2 (x:=zua X l) (i:=i.toNat) (Q:=fun k'=>(0<=IntKind.wrap .i64 (i+1)/\IntKind.wrap .i64 (i+1)<=(nP c:Int)/\∃(l:Sl) (pts:List Addr),pts.length=(IntKind.wrap .i64 (i+1)).toNat/\Has h5 (LaidA c t pm (zua X l) pts [] (fun _=>⟨none,0,0⟩) code (IntKind.wrap .i64 (i+1)).toNat 0 (fun _ _=>0)) k')/\(nP c-IntKind.wrap .i64 (i+1)).toNat<(nP c-i).toNat) b5 v mc (by omega) hp (by rw [hX];rfl) o fun l' a' k' o'=>by
   rw [wrap64 (by omega) (by omega)]
   refine ⟨⟨by omega,by omega,l',pts++ [a'],by rw [List.length_append,List.length_singleton];omega,?_⟩,by omega⟩
   rw [show (i+1).toNat=i.toNat+1 by omega]
   exact o'
  grind
 ·rw [if_neg (fun e=>h (by grind))]
  have ei:i.toNat=nP c:=by omega
  rw [ei] at o hp
  refine LoopW1.intro (fun (j:Int) k'=>0<=j/\j<=(nQ c:Int)/\∃(l2:Sl) (prs:List Addr) (own:Nat->Sl) (tm:Nat->Nat->Int),prs.length=j.toNat/\(∀i id,i<nP c->tm i id=if id / 2<j.toNat then zhr c (msOf t) i id else 0)/\Has h5 (LaidA c t pm (zcn1 (zua X l) l2) pts prs own code (nP c) j.toNat tm) k') (fun j _=>(nQ c-j).toNat) ⟨by omega,by omega,X.procs,[],fun _=>⟨none,0,0⟩,fun _ _=>0,rfl,fun _ _ _=>(by simp),o⟩ ?_
  rintro j k8 ⟨j0,j1,l2,prs,own,tm,hpr,htm,o⟩
  by_cases hj:j<(nQ c:Int)
  ·rw [if_pos (decide_eq_true (by omega))]
   have etn:((j.toNat:Nat):Int)=j:=by omega
   refine JoinW0.direct ?_
   have key:=zgn2 (x:=zcn1 (zua X l) l2) (j:=j.toNat) (Q:=fun k'=>(0<=IntKind.wrap .i64 (j+1)/\IntKind.wrap .i64 (j+1)<=(nQ c:Int)/\∃(l2:Sl) (prs:List Addr) (own:Nat->Sl) (tm:Nat->Nat->Int),prs.length=(IntKind.wrap .i64 (j+1)).toNat/\(∀i id,i<nP c->tm i id=if id / 2<(IntKind.wrap .i64 (j+1)).toNat then zhr c (msOf t) i id else 0)/\Has h5 (LaidA c t pm (zcn1 (zua X l) l2) pts prs own code (nP c) (IntKind.wrap .i64 (j+1)).toNat tm) k')/\(nQ c-IntKind.wrap .i64 (j+1)).toNat<(nQ c-j).toNat) b5 v mc (by omega) hpr hp a.lane (by rw [hX];exact hci) hca hcode htm o fun l' a' own' tm' k' ht' o'=>by
    rw [wrap64 (by omega) (by omega),show (j+1).toNat=j.toNat+1 by omega]
    exact ⟨⟨by omega,by omega,l',prs++ [a'],own',tm',by grind,ht',o'⟩,by omega⟩
   rw [etn] at key
   exact key
  ·rw [if_neg (fun e=>hj (by grind))]
   have ej:j.toNat=nQ c:=by omega
   rw [ej] at o hpr htm
   obtain ⟨h9,l9,o9,⟨F2,hF2,hn2⟩,_⟩:=o.fst
   have oB:Has h5 ((SlA 1 eP (zcn1 (zua X l) l2).parts pts).star ((SlA 1 eP (zcn1 (zua X l) l2).procs prs).star (ownF c own (nQ c) (nP c)))) h9:=⟨l9,F2,hF2,hn2⟩
   have ar9:=ar5.mono l9
   have hins:∀p:Nat,∃is:List S_api_Ins,∀y,ci[p]? =some y->InsS h9 y.Code is/\is.map insOf=zcj c p:=fun p=>by
    cases hy:ci[p]? with
    | none=>simp
    | some y=>
     obtain ⟨cz,hcz,_,is,h1,h2⟩:=hca.get hy
     refine ⟨is,fun y' e=> ?_⟩
     cases e
     exact ⟨Rw.mono l9 h1,by rw [h2];unfold zcj;rw [hcz];rfl⟩
   obtain ⟨ins,hins⟩:=Classical.axiomOfChoice hins
   refine hq ⟨c,zcn1 (zua X l) l2,tp,sp,pts,prs,own,code,ins⟩ pm tm h9 k8 rfl ?_ (Hp.le_trans (Hp.le_trans l1 l15) l9) ?_ (fun i id hi=> ?_)
   ·refine ⟨he,hu,?_,by rw [hX];rfl,hT.mono (Hp.le_trans l5 l9),by rw [hX];rfl,⟨sl,sn,zbl l9 hL,Rw.mono l9 hS⟩,hp,(oB.left.srw fun _=>rfl).map (f:=some) (enc:=fun x=>zac (shPtr.enc x)),hpr,(oB.right.left.srw fun _=>rfl).map (f:=some) (enc:=fun x=>zac (shPtr.enc x)),fun i hi=> ?_,fun p hp=> ?_,fun p hp=>mc.pOf_lt⟩
    ·rw [hX];exact ar9
    ·exact ((oB.right.right.at_ hi).srw fun _=>rfl)
    ·have hp':p<ci.length:=by
      have:p<nQ c:=hp
      omega
     have hy:=List.getElem?_eq_getElem hp'
     grind
   ·have et:tickX (zcn1 (zua X l) l2) (msOf t).tick=zcn1 (zua X l) l2:=by
     have e:X.tick=(msOf t).tick:=by rw [hX];exact b.tick
     rw [<-e]
     rfl
    unfold MachA
    dsimp only
    rw [et]
    exact o9
   ·rw [htm i id hi]
    split
    ·rfl
    ·unfold zhr
     omega
end
section
variable {c:PCfg} {fl:Nat->Nat->Bool} {t:zbi} {T:Int}
theorem zro2 (m:CfgM c) (g:Good c fl (msOf t) No No T) (hp:t.parts.length=nP c) (hq:t.procs.length=nQ c):LayV c t:=by
 have sa:=g.sane m
 have gp:∀i x,t.parts[i]? =some x->i<nP c/\(msOf t).part i=x:=fun i x h=>⟨by grind,zhm h⟩
 have gq:∀i x,t.procs[i]? =some x->i<nQ c/\(msOf t).proc i=x:=fun i x h=>⟨by grind,zhm h⟩
 have hlocks:=m.locks
 refine ⟨hp,hq,fun x hx=> ?_,fun x hx=> ?_⟩
 ·obtain ⟨i,hi⟩:=List.mem_iff_getElem?.1 hx
  obtain ⟨hi1,rfl⟩:=gp i x hi
  have sp:=sa.part i hi1
  have pm:=g.part i hi1
  refine ⟨⟨⟨sp.ownl,by have:=pm.ownl;omega⟩,fun o ho=> ?_,fun k o q ho hq'=> ?_,fun k1 k2 q q' h1 h2 hlt z hz hz'=> ?_⟩,sp.logl⟩
  ·obtain ⟨k,hk⟩:=List.mem_iff_getElem?.1 ho
   rcases g.own i hi1 k o hk with h | h<;>omega
  ·obtain ⟨g1,g2,g3⟩:=g.que i hi1 k q hq'
   refine ⟨sp.few.2 q (List.mem_of_getElem? hq'),fun e=> ?_,fun z hz=>⟨(g2 z hz).1,fun e=> ?_⟩,g1⟩
   ·grind
   ·obtain ⟨o',h1,_,h3⟩:=g3 (List.ne_nil_of_mem hz)
    grind
  ·have q1:=(g.que i hi1 k1 q h1).2.1 z hz'
   have q2:=(g.que i hi1 k2 q' h2).2.1 z hz
   rcases q1.2.2.2.2 with h | ⟨_,n1,a1,_,a3⟩
   ·exact h
   ·rcases q2.2.2.2.2 with h | ⟨_,n2,b1,_,b3⟩
    ·exact h
    grind
 ·obtain ⟨p,hp'⟩:=List.mem_iff_getElem?.1 hx
  obtain ⟨hp1,rfl⟩:=gq p x hp'
  have sp:=sa.proc p hp1
  have pm:=g.proc p hp1
  refine ⟨sp.len,sp.cur,fun l hl=> ?_,pm.tim.1,pm.wak.1⟩
  obtain ⟨i,hi⟩:=List.mem_iff_getElem?.1 hl
  have sl:=sp.lan l hl
  exact ⟨(pm.lan i l hi).1,fun hne=>((g.lan p hp1 i l hi).2.1 hne).2.2,sl.taken,sl.dropped,sl.nd,sl.waiters⟩
end
section
variable {h:Hp}
theorem zbb2 {P:Program} {n:Int} {Q:Int->Int->Hp->Prop} (hn:0<=n/\n<=8) (hq:Q 0 n h):znh P 1 n Q h:=by
 unfold znh
 have:n=0\/n=1\/n=2\/n=3\/n=4\/n=5\/n=6\/n=7\/n=8:=by omega
 refine ⟨by decide,by decide,by decide,by decide,by decide,?_⟩
 rcases this with rfl | rfl | rfl | rfl | rfl | rfl | rfl | rfl | rfl<;>exact hq
theorem zerosL_one {v:Value}:∀ {n:Nat},zap [v] n=List.replicate n v
 | 0=>rfl
 | n+1=>by
  unfold zap
  simp
theorem zep1 :∀ {n:Nat} {v:Int},zax (List.replicate n (Value.int .i64 v))=true
 | 0,_=>rfl
 | n+1,v=>by
  rw [List.replicate_succ]
  show (zax [Value.int .i64 v]&&zax (List.replicate n (Value.int .i64 v)))=true
  rw [zep1];rfl
theorem zkt2 {a:Addr} {v n:Int} {Q:Sl->Hp->Prop} (hx:LdIs h a [.int .i64 v]) (hn:0<=n/\n<=8) (hq:∀l h',h<=h'->Is h' l (List.replicate n.toNat v)->Q l h'):zfz Tryz.prog ⟨some a,1,1⟩ n Q h:=by
 unfold zfz
 refine JoinW0.direct ?_
 rw [if_neg (by simp;omega)]
 refine zfv1 ?_
 unfold zzf
 refine zbw1 ?_
 rw [show IntKind.wrap .u64 (((⟨some a,1,1⟩:Sl).len:Nat):Int)=1 from rfl,show IntKind.wrap .u64 n=n from wrapU ⟨by omega,by omega⟩]
 refine zbb2 hn (JoinW0.direct ?_)
 refine letW ?_
 rw [show (decide ((0:Int)>0) || decide (n>9223372036854775807))=false by simp;omega,if_neg (by decide)]
 obtain ⟨m,rfl⟩:∃m:Nat,n=(m:Int):=⟨n.toNat,by omega⟩
 rw [wrap64 (by omega) (by omega)]
 rw [Int.toNat_natCast] at hq
 refine ⟨⟨by omega,by omega,by omega,by omega⟩,fun b ty hb=> ?_⟩
 rw [Int.toNat_natCast,zerosL_one]
 have l1:=zcu (o:=.cells (List.replicate m (Value.int .i64 0)).toArray ty (0,0)) hb
 have kb:Blk (h.set b (.cells (List.replicate m (Value.int .i64 0)).toArray ty (0,0))) b (List.replicate m (Value.int .i64 0)):=⟨ty,zbw⟩
 have keep:∀ {k k':Hp},h<=k->Mv [b] k [b] k'->h<=k':=fun hl m c ob e=>m.keep c ob (hl c ob e) fun hc=>by grind
 refine zpo (sz:=1) kb (x:=⟨some a,1,1⟩) (n:=min 1 m) (new:=List.replicate (min 1 m) (Value.int .i64 v)) rfl ⟨by simp,?_⟩ zep1 (by simp;omega) fun k1 m1 kb1=> ?_
 ·by_cases e:m=0
  ·omega
  ·refine .inr ⟨a,rfl,?_⟩
   rw [show min 1 m=1 by omega]
   exact zbl l1 hx
 ·refine LoopW1.intro (fun (i:Int) k'=>∃j:Nat,i=(j:Int)/\j<=m/\(1<=j\/m=0)/\h<=k'/\Blk k' b (List.replicate j (Value.int .i64 v)++List.replicate (m-j) (Value.int .i64 0))) (fun i _=>(m-i).toNat) ⟨min 1 m,rfl,by omega,by omega,keep l1 m1,by simpa using kb1⟩ ?_
  rintro i k2 ⟨j,rfl,j1,j2,l2,kb2⟩
  by_cases hj:j<m
  ·rw [if_pos (decide_eq_true (by grind))]
   refine ⟨⟨by omega,by grind⟩,letW ⟨⟨by omega,by grind⟩,letW ?_⟩⟩
   rw [Int.toNat_natCast]
   dsimp only
   rw [zim (by omega),zph2,Nat.zero_add,Nat.mul_one]
   refine zpo (sz:=1) kb2 (n:=min j (m-j)) (new:=List.replicate (min j (m-j)) (Value.int .i64 v)) rfl ?_ zep1 (by simp;omega) fun k3 m3 kb3=> ?_
   ·refine kb2.rd (by simp) ?_
    grind
   ·rw [wrap64 (by omega) (by omega)]
    refine ⟨⟨j+min j (m-j),by omega,by omega,by omega,keep l2 m3,cast (congrArg (Blk k3 b) ?_) kb3⟩,by omega⟩
    rw [List.take_append_of_le_length (by simp),List.take_of_length_le (by simp),List.drop_append,List.drop_eq_nil_of_le (by simp),List.nil_append,List.drop_replicate,List.length_replicate,List.replicate_append_replicate]
    congr 2;omega
  ·rw [if_neg (fun e=>hj (by grind))]
   have:j=m:=by omega
   subst this
   refine hq _ k2 l2 ⟨by simp,by rw [List.flatMap_replicate];show (zap [Value.int .i64 v] j).length=_;rw [zerosL_one];simp,?_⟩
   by_cases e:j=0
   ·grind
   ·refine .inr ⟨⟨b,0,none⟩,rfl,?_⟩
    rw [Nat.sub_self] at kb2
    refine kb2.ldIs (off:=0) (n:=j) ?_
    rw [List.drop_zero,List.replicate_zero,List.append_nil,List.take_of_length_le (by simp),List.flatMap_replicate]
    exact zerosL_one.symm
end
section
variable {h0 h1 k:Hp} {A:Asn}
theorem zoy1 {h:Hp} {b c:Nat} {ob:Obj} (hne:c≠b):(h.set b ob) c=h c:=by simp [Hp.set,hne]
theorem zoz1 {cs:List Value} {K:Addr->Hp->Prop} (o:Has h1 A k) (hk:∀a h1' k',h1<=h1'->LdIs h1' a cs->Has h1' A k'->K a k'):NewW cs K k:=by
 intro b t hb
 obtain ⟨hl,F,a,hf⟩:=o
 have hb1:h1 b=none:=zbz hl hb
 refine hk _ (h1.set b (.cells cs.toArray t (0,0))) _ (zcu hb1) zul ⟨fun c ob e=> ?_,F,A.same a fun c hc=> ?_,fun c hc=> ?_⟩
 ·by_cases e2:c=b
  ·subst e2;rw [zbw] at e ⊢;exact e
  ·rw [zoy1 e2] at e ⊢;exact hl c ob e
 ·have:c≠b:=fun e=>A.known a c hc (by rw [e];exact hb)
  exact zoy1 this
 ·have:c≠b:=fun e=>A.known a c hc (by rw [e];exact hb)
  rw [zoy1 this];exact hf c hc
theorem zrt1 {α:Type} {sz bytes:Nat} {enc:α->List Value} {zero:List Value} {z:α} {n:Int} {K:Sl->Hp->Prop} (o:Has h1 A k) (hz:zero=enc z) (henc:∀x,(enc x).length=sz) (hn:0<=n/\n<=1000) (hb:bytes<=1000)
  (hk:∀l h1' k',h1<=h1'->Rw h1' sz enc l (List.replicate n.toNat z)->Has h1' A k'->K l k'):MakeW bytes zero n n K k:=by
 have hm:n.toNat*bytes<=1000*1000:=Nat.mul_le_mul (by omega) hb
 refine ⟨⟨by omega,by omega,by omega,by omega⟩,fun b t hb=> ?_⟩
 refine zoz1 (cs:=zap zero n.toNat) (K:=fun a k'=>K ⟨some a,n.toNat,n.toNat⟩ k') o (fun a h1' k' l hld o'=>hk _ h1' k' l ⟨by simp,?_,.inr ⟨a,rfl,?_⟩⟩ o') b t hb
 ·rw [List.flatMap_replicate,List.length_flatten,List.map_replicate,henc,List.sum_replicate_nat,List.length_replicate]
 ·rw [List.flatMap_replicate,<-hz]
  exact hld
theorem zuv1 {α:Type} {sz bytes:Nat} {enc:α->List Value} {zero:List Value} {z:α} {n:Int} {K:Sl->Hp->Prop} (hz:zero=enc z) (henc:∀x,(enc x).length=sz) (hn:0<=n/\n<=1000) (hb:bytes<=1000)
  (hk:∀l k',k<=k'->Has k (OwnA sz enc l (List.replicate n.toNat z)) k'->K l k'):MakeW bytes zero n n K k:=by
 have hm:n.toNat*bytes<=1000*1000:=Nat.mul_le_mul (by omega) hb
 refine ⟨⟨by omega,by omega,by omega,by omega⟩,fun b t hb=> ?_⟩
 have e:(List.replicate n.toNat z).flatMap enc=zap zero n.toNat:=by rw [List.flatMap_replicate,hz];rfl
 have el:(zap zero n.toNat).length=n.toNat*sz:=by
  rw [<-e,List.flatMap_replicate,List.length_flatten,List.map_replicate,henc,List.sum_replicate_nat]
 refine hk _ _ (zcu hb) ⟨zcu hb,fun c=>c=b,⟨[b],⟨by rw [List.length_replicate],Nat.le_refl _,.inr ⟨b,zap zero n.toNat,rfl,rfl,⟨t,zbw⟩,el,?_⟩⟩,fun c=>by simp⟩,fun c hc=>by rw [hc];exact hb⟩
 grind
end
abbrev eX :S_api_Part->List Value:=fun x=>zac (sh_api_Part.enc x)
abbrev eY :S_api_Process->List Value:=fun x=>zac (sh_api_Process.enc x)
def zX :S_api_Part:=⟨0,⟨none,0,0⟩,0,0,⟨none,0,0⟩,⟨none,0,0⟩⟩
def zY :S_api_Process:=⟨0,0,0,0,0,0,0,0,0,0,0,0,false,0,⟨none,0,0⟩⟩
def zL :S_api_Lane:=⟨⟨none,0,0⟩,⟨none,0,0⟩,0,0⟩
def zya1 (locks:Int):PPart:=⟨0,[],0,0,List.replicate locks.toNat (-1),List.replicate locks.toNat []⟩
def zyb1 (n:Nat):PProcess:=⟨0,0,List.replicate 8 0,0,0,false,0,List.replicate n ⟨[],[],0,0⟩⟩
theorem zuw1 {α β:Type} {R:α->β->Prop} {a:α} {b:β} (h:R a b):∀ {n:Nat},All2 R (List.replicate n a) (List.replicate n b)
 | 0=>trivial
 | n+1=>⟨h,zuw1 h⟩
theorem zpa1 {α β:Type} {R:α->β->Prop} {a:α} {b:β} (h:R a b):∀ {l:List α} {m:List β},All2 R l m->All2 R (l++ [a]) (m++ [b])
 | [],[],_=>⟨h,trivial⟩
 | _::_,_::_,k=>⟨k.1,zpa1 h k.2⟩
section
variable {h0 hb k:Hp} {r r1:Sl} {i:Nat}
theorem Has.inB {sz:Nat} {sh:Shape} {l:Sl} {xs:List sh.T} (o:Has h0 (OwnA sz (fun x=>zac (sh.enc x)) l xs) k) (henc:∀x,(zac (sh.enc x)).length=sz) (hs:0<sz) (hi:i<xs.length):InB l.base l.len (i:Int):=
 (Rs.get (sh:=sh) (K:=fun _=>True) (o.ownRw henc) henc hs (by omega) (by omega) fun _ _=>trivial).1
theorem zyc1 {rows:List S_api_Part} {locks:Int} {K:Hp->Prop} {B:Asn} (o:Has hb ((OwnA 6 eX r rows).star B) k) (hi:rows[i]? =some zX) (hl:0<=locks/\locks<=8)
  (hk:∀x hb' k',hb<=hb'->PartAt hb' x (zya1 locks)->Has hb' ((OwnA 6 eX r (rows.set i x)).star B) k'->K k'):
  (NewW [(.int .i64 (-1:Int))] (fun a h4=>
 ((True/\(True/\(True/\(True/\True))))/\(CallT Tryz.prog zag [(.slice (some a) 1 1),(.int .i64 locks)] shSl (fun r2 h5=>
 ((True/\(True/\(True/\True)))/\((InB r.base r.len (i:Int))/\(MakeW 24 [(.slice none 0 0)] locks locks (fun r3 h6=>
 ((True/\(True/\True))/\StW h6 (Addr.add (sat r.base 6 (i:Int)) 4) [r2.v] (fun h7=>
 ((True/\True)/\((InB r.base r.len (i:Int))/\StW h7 (Addr.add (sat r.base 6 (i:Int)) 5) [r3.v] (fun h8=>
 K h8)))))) h5/\StW h5 (Addr.add (sat r.base 6 (i:Int)) 4) [r2.v] (fun h6=>
 ((True/\(True/\True))/\MakeW 24 [(.slice none 0 0)] locks locks (fun r3 h7=>
 ((True/\(True/\True))/\((InB r.base r.len (i:Int))/\StW h7 (Addr.add (sat r.base 6 (i:Int)) 5) [r3.v] (fun h8=>
 K h8)))) h6)))))) h4/\MakeW 24 [(.slice none 0 0)] locks locks (fun r2 h5=>
 ((True/\(True/\(True/\True)))/\CallT Tryz.prog zag [(.slice (some a) 1 1),(.int .i64 locks)] shSl (fun r3 h6=>
 ((True/\(True/\(True/\True)))/\((InB r.base r.len (i:Int))/\StW h6 (Addr.add (sat r.base 6 (i:Int)) 4) [r3.v] (fun h7=>
 ((True/\(True/\True))/\((InB r.base r.len (i:Int))/\StW h7 (Addr.add (sat r.base 6 (i:Int)) 5) [r2.v] (fun h8=>
 K h8))))))) h5)) h4))) k/\MakeW 24 [(.slice none 0 0)] locks locks (fun r2 h4=>
 ((True/\(True/\(True/\True)))/\NewW [(.int .i64 (-1:Int))] (fun a h5=>
 ((True/\(True/\(True/\(True/\True))))/\CallT Tryz.prog zag [(.slice (some a) 1 1),(.int .i64 locks)] shSl (fun r3 h6=>
 ((True/\(True/\(True/\True)))/\((InB r.base r.len (i:Int))/\StW h6 (Addr.add (sat r.base 6 (i:Int)) 4) [r3.v] (fun h7=>
 ((True/\(True/\True))/\((InB r.base r.len (i:Int))/\StW h7 (Addr.add (sat r.base 6 (i:Int)) 5) [r2.v] (fun h8=>
 K h8))))))) h5)) h4)) k):=by
 have hi':i<rows.length:=(List.getElem?_eq_some_iff.1 hi).1
 have fin:∀ {hb' k':Hp} {l2 l3:Sl},hb<=hb'->Is hb' l2 (List.replicate locks.toNat (-1))->Rw hb' 1 (fun x=>zac (shSl.enc x)) l3 (List.replicate locks.toNat (⟨none,0,0⟩:Sl))->Has hb' ((OwnA 6 eX r ((rows.set i {zX with Owners:=l2}).set i {zX with Owners:=l2,Queues:=l3})).star B) k'->K k':=fun {hb' k' l2 l3} hl h2 h3 o'=>by
  rw [List.set_set] at o'
  exact hk _ hb' k' hl ⟨rfl,⟨[],Rw.nil rfl,rfl⟩,rfl,rfl,h2,_,h3,zuw1 (Rw.nil rfl)⟩ o'
 have st4:∀ {hb' k':Hp} {l2:Sl} {K':Hp->Prop},Has hb' ((OwnA 6 eX r rows).star B) k'->(∀k'',Has hb' ((OwnA 6 eX r (rows.set i {zX with Owners:=l2})).star B) k''->K' k'')->StW k' ((sat r.base 6 (i:Int)).add 4) [l2.v] K':=fun {hb' k' l2 K'} o' hk'=>by
  obtain ⟨h2,_,oO,_,put⟩:=o'.fst
  exact oO.oput (i:=i) (x':={zX with Owners:=l2}) (off:=4) (new:=[l2.v]) (fun _=>rfl) hi (by simp) rfl fun k'' o''=>hk' k'' (put _ _ o'')
 have st5:∀ {hb' k':Hp} {l2 l3:Sl} {K':Hp->Prop},Has hb' ((OwnA 6 eX r (rows.set i {zX with Owners:=l2})).star B) k'->(∀k'',Has hb' ((OwnA 6 eX r ((rows.set i {zX with Owners:=l2}).set i {zX with Owners:=l2,Queues:=l3})).star B) k''->K' k'')->StW k' ((sat r.base 6 (i:Int)).add 5) [l3.v] K':=fun {hb' k' l2 l3 K'} o' hk'=>by
  obtain ⟨h2,_,oO,_,put⟩:=o'.fst
  exact oO.oput (i:=i) (x:={zX with Owners:=l2}) (x':={zX with Owners:=l2,Queues:=l3}) (off:=5) (new:=[l3.v]) (fun _=>rfl) (List.getElem?_set_self hi') (by simp) rfl fun k'' o''=>hk' k'' (put _ _ o'')
 have inB:∀ {hb' k':Hp} {rows':List S_api_Part},rows'.length=rows.length->Has hb' ((OwnA 6 eX r rows').star B) k'->InB r.base r.len (i:Int):=fun e o'=>(Has.left o').inB (sh:=sh_api_Part) (fun _=>rfl) (by decide) (by omega)
 have mk:∀ {hb' k':Hp} {A':Asn} {K':Sl->Hp->Prop},Has hb' A' k'->(∀l h1' k',hb'<=h1'->Rw h1' 1 (fun x=>zac (shSl.enc x)) l (List.replicate locks.toNat (⟨none,0,0⟩:Sl))->Has h1' A' k'->K' l k')->MakeW 24 [(.slice none 0 0)] locks locks K' k':=fun o' hk'=>zrt1 (z:=(⟨none,0,0⟩:Sl)) (enc:=fun x=>zac (shSl.enc x)) o' rfl (fun _=>rfl) (by omega) (by omega) hk'
 have rep:∀ {hb' k':Hp} {A':Asn} {a:Addr} {K':Sl->Hp->Prop},Has hb' A' k'->LdIs hb' a [.int .i64 (-1)]->(∀l h1' k',hb'<=h1'->Is h1' l (List.replicate locks.toNat (-1))->Has h1' A' k'->K' l k')->CallT Tryz.prog zag [(.slice (some a) 1 1),(.int .i64 locks)] shSl K' k':=fun {hb' k' A' a K'} o' ha hk'=>by
  refine zjj1 (sh:=shSl) (K0:=fun l h'=>hb'<=h'/\Is h' l (List.replicate locks.toNat (-1))) o' (zqz (x:=⟨some a,1,1⟩) (zkt2 ha hl fun l h' hl' hi'=>⟨hl',hi'⟩)) ?_
  grind
 refine ⟨?_,?_⟩
 ·refine zoz1 o fun a hb1 k1 l1 ha o1=> ?_
  refine ⟨⟨trivial,trivial,trivial,trivial,trivial⟩,?_,?_⟩
  ·refine rep o1 ha fun l2 hb2 k2 l2' h2 o2=> ?_
   refine ⟨⟨trivial,trivial,trivial,trivial⟩,inB rfl o2,?_,?_⟩
   ·refine mk o2 fun l3 hb3 k3 l3' h3 o3=> ?_
    refine ⟨⟨trivial,trivial,trivial⟩,st4 o3 fun k4 o4=>⟨⟨trivial,trivial⟩,inB (by simp) o4,st5 o4 fun k5 o5=>fin (Hp.le_trans l1 (Hp.le_trans l2' l3')) (Rw.mono l3' h2) h3 o5⟩⟩
   ·refine st4 o2 fun k3 o3=>⟨⟨trivial,trivial,trivial⟩,?_⟩
    refine mk o3 fun l3 hb4 k4 l4' h3 o4=> ?_
    exact ⟨⟨trivial,trivial,trivial⟩,inB (by simp) o4,st5 o4 fun k5 o5=>fin (Hp.le_trans l1 (Hp.le_trans l2' l4')) (Rw.mono l4' h2) h3 o5⟩
  ·refine mk o1 fun l3 hb2 k2 l2' h3 o2=> ?_
   refine ⟨⟨trivial,trivial,trivial,trivial⟩,?_⟩
   refine rep o2 (zbl l2' ha) fun l2 hb3 k3 l3' h2 o3=> ?_
   exact ⟨⟨trivial,trivial,trivial,trivial⟩,inB rfl o3,st4 o3 fun k4 o4=>⟨⟨trivial,trivial,trivial⟩,inB (by simp) o4,st5 o4 fun k5 o5=>fin (Hp.le_trans l1 (Hp.le_trans l2' l3')) h2 (Rw.mono l3' h3) o5⟩⟩
 ·refine mk o fun l3 hb1 k1 l1 h3 o1=> ?_
  refine ⟨⟨trivial,trivial,trivial,trivial⟩,?_⟩
  refine zoz1 o1 fun a hb2 k2 l2' ha o2=> ?_
  refine ⟨⟨trivial,trivial,trivial,trivial,trivial⟩,?_⟩
  refine rep o2 ha fun l2 hb3 k3 l3' h2 o3=> ?_
  exact ⟨⟨trivial,trivial,trivial,trivial⟩,inB rfl o3,st4 o3 fun k4 o4=>⟨⟨trivial,trivial,trivial⟩,inB (by simp) o4,st5 o4 fun k5 o5=>fin (Hp.le_trans l1 (Hp.le_trans l2' l3')) h2 (Rw.mono l3' (Rw.mono l2' h3)) o5⟩⟩
theorem zyd1 {rows:List S_api_Process} {n:Int} {K:Hp->Prop} {B:Asn} (o:Has hb (B.star (OwnA 15 eY r1 rows)) k) (hi:rows[i]? =some zY) (hn:1<=n/\n<=100)
  (hk:∀x hb' k',hb<=hb'->ProcessAt hb' x (zyb1 n.toNat)->Has hb' (B.star (OwnA 15 eY r1 (rows.set i x))) k'->K k'):
  MakeW 64 [(.slice none 0 0),(.slice none 0 0),(.int .i64 (0:Int)),(.int .i64 (0:Int))] n n (fun r2 h5=>
 ((True/\True)/\((InB r1.base r1.len (i:Int))/\StW h5 (Addr.add (sat r1.base 15 (i:Int)) 14) [r2.v] (fun h6=>
 K h6)))) k:=by
 have hi':i<rows.length:=(List.getElem?_eq_some_iff.1 hi).1
 refine zrt1 (sz:=4) (z:=zL) (enc:=fun x=>zac (sh_api_Lane.enc x)) o rfl (fun _=>rfl) (by omega) (by omega) fun l hb1 k1 l1 h1 o1=> ?_
 refine ⟨⟨trivial,trivial⟩,(Has.right o1).inB (sh:=sh_api_Process) (fun _=>rfl) (by decide) hi',?_⟩
 obtain ⟨h2,_,oO,_,put⟩:=o1.snd
 refine oO.oput (i:=i) (x':={zY with Lanes:=l}) (off:=14) (new:=[l.v]) (fun _=>rfl) hi (by simp) rfl fun k2 o2=>hk _ hb1 k2 l1 ⟨rfl,rfl,rfl,rfl,rfl,rfl,rfl,_,h1,zuw1 ⟨Rw.nil rfl,⟨[],Rw.nil rfl,rfl⟩,rfl,rfl⟩⟩ (put _ _ o2)
theorem zgp1 {x:S_api_Config} {c:PCfg} {Q:S_api_State->Hp->Prop} (a:CfgAt h0 x c) (mc:CfgM c) (o:Has h0 ((OwnA 6 eX r (List.replicate (nP c) zX)).star (OwnA 15 eY r1 (List.replicate (nQ c) zY))) k)
  (hq:∀y k',h0<=k'->StateAt k' y ((zth c).list c)->Q y k'):LoopW1 (α1:=Int) (fun again t18 h3=>
 (if (decide (t18<((r.len:Nat):Int)))=true then
 JoinW0 (fun k=>
 (NewW [(.int .i64 (-1:Int))] (fun a h4=>
 ((True/\(True/\(True/\(True/\True))))/\(CallT Tryz.prog zag [(.slice (some a) 1 1),(.int .i64 x.Locks)] shSl (fun r2 h5=>
 ((True/\(True/\(True/\True)))/\((InB r.base r.len t18)/\(MakeW 24 [(.slice none 0 0)] x.Locks x.Locks (fun r3 h6=>
 ((True/\(True/\True))/\StW h6 (Addr.add (sat r.base 6 t18) 4) [r2.v] (fun h7=>
 ((True/\True)/\((InB r.base r.len t18)/\StW h7 (Addr.add (sat r.base 6 t18) 5) [r3.v] (fun h8=>
 k h8)))))) h5/\StW h5 (Addr.add (sat r.base 6 t18) 4) [r2.v] (fun h6=>
 ((True/\(True/\True))/\MakeW 24 [(.slice none 0 0)] x.Locks x.Locks (fun r3 h7=>
 ((True/\(True/\True))/\((InB r.base r.len t18)/\StW h7 (Addr.add (sat r.base 6 t18) 5) [r3.v] (fun h8=>
 k h8)))) h6)))))) h4/\MakeW 24 [(.slice none 0 0)] x.Locks x.Locks (fun r2 h5=>
 ((True/\(True/\(True/\True)))/\CallT Tryz.prog zag [(.slice (some a) 1 1),(.int .i64 x.Locks)] shSl (fun r3 h6=>
 ((True/\(True/\(True/\True)))/\((InB r.base r.len t18)/\StW h6 (Addr.add (sat r.base 6 t18) 4) [r3.v] (fun h7=>
 ((True/\(True/\True))/\((InB r.base r.len t18)/\StW h7 (Addr.add (sat r.base 6 t18) 5) [r2.v] (fun h8=>
 k h8))))))) h5)) h4))) h3/\MakeW 24 [(.slice none 0 0)] x.Locks x.Locks (fun r2 h4=>
 ((True/\(True/\(True/\True)))/\NewW [(.int .i64 (-1:Int))] (fun a h5=>
 ((True/\(True/\(True/\(True/\True))))/\CallT Tryz.prog zag [(.slice (some a) 1 1),(.int .i64 x.Locks)] shSl (fun r3 h6=>
 ((True/\(True/\(True/\True)))/\((InB r.base r.len t18)/\StW h6 (Addr.add (sat r.base 6 t18) 4) [r3.v] (fun h7=>
 ((True/\(True/\True))/\((InB r.base r.len t18)/\StW h7 (Addr.add (sat r.base 6 t18) 5) [r2.v] (fun h8=>
 k h8))))))) h5)) h4)) h3))
 (fun h4=>
 again (IntKind.wrap .i64 (t18+(1:Int))) h4)
 else
 LoopW1 (α1:=Int) (fun again1 t42 h4=>
 (if (decide (t42<((r1.len:Nat):Int)))=true then
 MakeW 64 [(.slice none 0 0),(.slice none 0 0),(.int .i64 (0:Int)),(.int .i64 (0:Int))] (IntKind.wrap .i64 (((x.Labels.len:Nat):Int)+(1:Int))) (IntKind.wrap .i64 (((x.Labels.len:Nat):Int)+(1:Int))) (fun r2 h5=>
 ((True/\True)/\((InB r1.base r1.len t42)/\StW h5 (Addr.add (sat r1.base 15 t42) 14) [r2.v] (fun h6=>
 again1 (IntKind.wrap .i64 (t42+(1:Int))) h6)))) h4
 else
 Q ⟨(0:Int),r,r1⟩ h4)) (0:Int) h3)) (0:Int) k:=by
 have hparts:=mc.parts
 have hprocs:=mc.procs
 have hlab:nP c=c.labels.length:=rfl
 have hll:x.Labels.len=c.labels.length:=a.labels.1
 have er:r.len=nP c:=by have:=(Has.left o).ownSl.slen;grind
 have er1:r1.len=nQ c:=by have:=(Has.right o).ownSl.slen;grind
 refine LoopW1.intro (fun (t:Int) k'=>0<=t/\t<=(nP c:Int)/\∃hb done,h0<=hb/\All2 (PartAt hb) done (List.replicate t.toNat (zya1 c.locks))/\Has hb ((OwnA 6 eX r (done++List.replicate (nP c-t.toNat) zX)).star (OwnA 15 eY r1 (List.replicate (nQ c) zY))) k') (fun t _=>(nP c-t).toNat) ⟨by omega,by omega,h0,[],Hp.le_refl _,trivial,by simpa using o⟩ ?_
 rintro t k1 ⟨t0,t1,hb,done,lb,hd,o1⟩
 have hdl:=hd.len
 rw [List.length_replicate] at hdl
 by_cases h:t<(nP c:Int)
 ·rw [if_pos (decide_eq_true (by omega))]
  have etn:((t.toNat:Nat):Int)=t:=by omega
  refine JoinW0.direct ?_
  have hrow:(done++List.replicate (nP c-t.toNat) zX)[t.toNat]? =some zX:=by
   grind
  rw [a.locks]
  have key:=zyc1 (i:=t.toNat) (r:=r) (K:=fun k'=>(0<=IntKind.wrap .i64 (t+1)/\IntKind.wrap .i64 (t+1)<=(nP c:Int)/\∃hb done,h0<=hb/\All2 (PartAt hb) done (List.replicate (IntKind.wrap .i64 (t+1)).toNat (zya1 c.locks))/\Has hb ((OwnA 6 eX r (done++List.replicate (nP c-(IntKind.wrap .i64 (t+1)).toNat) zX)).star (OwnA 15 eY r1 (List.replicate (nQ c) zY))) k')/\(nP c-IntKind.wrap .i64 (t+1)).toNat<(nP c-t).toNat) o1 hrow mc.locks fun y hb' k' l' hy o'=>by
   rw [wrap64 (by omega) (by omega),show (t+1).toNat=t.toNat+1 by omega]
   refine ⟨⟨by omega,by omega,hb',done++ [y],Hp.le_trans lb l',?_,?_⟩,by omega⟩
   ·rw [List.replicate_succ']
    exact zpa1 hy (hd.imp fun _ _ e=>e.mono l')
   ·rw [List.set_append_right _ _ (by omega),hdl,Nat.sub_self,show nP c-t.toNat=(nP c-(t.toNat+1))+1 by omega,List.replicate_succ,List.set_cons_zero] at o'
    grind
  rw [etn] at key
  exact key
 ·rw [if_neg (fun e=>h (by grind))]
  have etn:t.toNat=nP c:=by omega
  rw [etn,Nat.sub_self,List.replicate_zero,List.append_nil] at o1
  rw [etn] at hd
  refine LoopW1.intro (fun (j:Int) k'=>0<=j/\j<=(nQ c:Int)/\∃hb2 done2,hb<=hb2/\All2 (ProcessAt hb2) done2 (List.replicate j.toNat (zyb1 (nP c+1)))/\Has hb2 ((OwnA 6 eX r done).star (OwnA 15 eY r1 (done2++List.replicate (nQ c-j.toNat) zY))) k') (fun j _=>(nQ c-j).toNat) ⟨by omega,by omega,hb,[],Hp.le_refl _,trivial,by simpa using o1⟩ ?_
  rintro j k2 ⟨j0,j1,hb2,done2,lb2,hd2,o2⟩
  have hdl2:=hd2.len
  rw [List.length_replicate] at hdl2
  by_cases hj:j<(nQ c:Int)
  ·rw [if_pos (decide_eq_true (by omega))]
   have etj:((j.toNat:Nat):Int)=j:=by omega
   have hrow:(done2++List.replicate (nQ c-j.toNat) zY)[j.toNat]? =some zY:=by
    rw [List.getElem?_append_right (by omega),hdl2,Nat.sub_self,List.getElem?_replicate,if_pos (by omega)]
   rw [wrap64 (n:=(x.Labels.len:Int)+1) (by omega) (by omega)]
   have en:((x.Labels.len:Int)+1).toNat=nP c+1:=by omega
   have key:=zyd1 (i:=j.toNat) (r1:=r1) (n:=(x.Labels.len:Int)+1) (K:=fun k'=>(0<=IntKind.wrap .i64 (j+1)/\IntKind.wrap .i64 (j+1)<=(nQ c:Int)/\∃hb2 done2,hb<=hb2/\All2 (ProcessAt hb2) done2 (List.replicate (IntKind.wrap .i64 (j+1)).toNat (zyb1 (nP c+1)))/\Has hb2 ((OwnA 6 eX r done).star (OwnA 15 eY r1 (done2++List.replicate (nQ c-(IntKind.wrap .i64 (j+1)).toNat) zY))) k')/\(nQ c-IntKind.wrap .i64 (j+1)).toNat<(nQ c-j).toNat) o2 hrow (by omega) fun y hb' k' l' hy o'=>by
    rw [wrap64 (by omega) (by omega),show (j+1).toNat=j.toNat+1 by omega]
    refine ⟨⟨by omega,by omega,hb',done2++ [y],Hp.le_trans lb2 l',?_,?_⟩,by omega⟩
    ·rw [List.replicate_succ']
     rw [en] at hy
     exact zpa1 hy (hd2.imp fun _ _ e=>e.mono l')
    ·rw [List.set_append_right _ _ (by omega),hdl2,Nat.sub_self,show nQ c-j.toNat=(nQ c-(j.toNat+1))+1 by omega,List.replicate_succ,List.set_cons_zero] at o'
     rw [List.append_assoc]
     exact o'
   grind
  ·rw [if_neg (fun e=>hj (by grind))]
   have etj:j.toNat=nQ c:=by omega
   rw [etj,Nat.sub_self,List.replicate_zero,List.append_nil] at o2
   rw [etj] at hd2
   have lk:=o2.le
   refine hq _ k2 (Hp.le_trans lb (Hp.le_trans lb2 lk)) ⟨rfl,⟨done,(Has.left o2).ownRw fun _=>rfl,?_⟩,done2,(Has.right o2).ownRw fun _=>rfl,?_⟩
   ·have e:((zth c).list c).parts=List.replicate (nP c) (zya1 c.locks):=by
     show (List.range (nP c)).map (fun _=>zya1 c.locks)=_
     rw [List.map_const',List.length_range]
    rw [e]
    exact hd.imp fun _ _ e=>e.mono (Hp.le_trans lb2 lk)
   ·have e:((zth c).list c).procs=List.replicate (nQ c) (zyb1 (nP c+1)):=by
     show (List.range (nQ c)).map (fun _=>zyb1 (nP c+1))=_
     rw [List.map_const',List.length_range]
    rw [e]
    exact hd2.imp fun _ _ e=>e.mono lk
theorem zok2 {x:S_api_Config} {c:PCfg} {Q:S_api_State->Hp->Prop} (a:CfgAt k x c) (mc:CfgM c) (hq:∀y k',k<=k'->StateAt k' y ((zth c).list c)->Q y k'):zpv Tryz.prog x Q k:=by
 unfold zpv
 have hparts:=mc.parts
 have hprocs:=mc.procs
 have hlab:nP c=c.labels.length:=rfl
 have hpro:nQ c=c.procs.length:=rfl
 have hll:x.Labels.len=c.labels.length:=a.labels.1
 obtain ⟨ps,hps,hall⟩:=a.procs
 have hpl:=hall.len
 have hpp:x.Procs.len=ps.length:=hps.1
 refine ⟨?_,?_⟩
 ·refine zuv1 (sz:=6) (z:=zX) (enc:=eX) rfl (fun _=>rfl) (by omega) (by omega) fun l k1 l1 o1=>⟨⟨trivial,trivial⟩,?_⟩
  refine zuv1 (sz:=15) (z:=zY) (enc:=eY) rfl (fun _=>rfl) (by omega) (by omega) fun l2 k2 l2' o2=> ?_
  rw [show ((x.Labels.len:Int)).toNat=nP c by omega] at o1
  rw [show ((x.Procs.len:Int)).toNat=nQ c by omega] at o2
  exact zgp1 a mc (o1.beside o2) hq
 ·refine zuv1 (sz:=15) (z:=zY) (enc:=eY) rfl (fun _=>rfl) (by omega) (by omega) fun l2 k1 l1 o1=>⟨⟨trivial,trivial⟩,?_⟩
  refine zuv1 (sz:=6) (z:=zX) (enc:=eX) rfl (fun _=>rfl) (by omega) (by omega) fun l k2 l2' o2=>⟨⟨trivial,trivial⟩,?_⟩
  rw [show ((x.Labels.len:Int)).toNat=nP c by omega] at o2
  rw [show ((x.Procs.len:Int)).toNat=nQ c by omega] at o1
  exact zgp1 a mc (o1.beside o2).comm hq
end
end Lf
namespace Go.Proofs
open Go.RowKit Go.Shelf
attribute [local go_sem] Oper.semAt_some
def tkNum (cur len:Int) (j:Nat):Int:=(wrap64 (cur+(j:Int))).tmod len
abbrev TkN (len:Nat):={x:Int // 0<=x/\x<(len:Int)}
def zad1 {α:Type} (num:Nat->α) (k:Nat):List α:=(List.range k).map num
theorem tkUpto_succ {α:Type} {num:Nat->α} {k:Nat}:zad1 num (k+1)=zad1 num k++ [num k]:=by simp [zad1,List.range_succ]
theorem zux1 {α:Type} {num:Nat->α} {k:Nat}:(zad1 num k).length=k:=by simp [zad1]
set_option maxHeartbeats 2000000 in
theorem zku2 (n:Nat) (hn:1<=n) (l A A1:Nat) (cur:Int) (len:Nat) (hlen:0<len) (hl2:len<=1000) (num:Nat->TkN len) (hnum:∀j,j<len->tkNum cur len j=(num j).1) (Kp:World->World->Prop) (hkp:∀W W',Kp W W'->W'.cell? ⟨A,0,none⟩=W.cell? ⟨A,0,none⟩/\W'.cell? ⟨A1,0,none⟩=W.cell? ⟨A1,0,none⟩) (J Jx:List (TkN len)->World->Prop)
  (hY:∀pre x W,J pre W->pre.length<len->YieldAt Fence.wide (n-1) Tryz.prog l #[.int .i64 x.1] W fun e W'=>
   (e=.returned (.bool true)/\J (pre++ [x]) W'/\Kp W W')\/(e=.returned (.bool false)/\Jx (pre++ [x]) W'))
  (W:World) (hA:W.cell? ⟨A,0,none⟩=some (.int .i64 cur)) (hA1:W.cell? ⟨A1,0,none⟩=some (.int .i64 (len:Int))) (h0:J [] W):
  CallsIn Fence.wide n Tryz.prog 242 #[.func (.yield l) #[] #[],.pointer (some ⟨A1,0,none⟩),.pointer (some ⟨A,0,none⟩)] W fun e W'=>(∃v,e=.returned v)/\
   ((∃ys,ys=zad1 num len/\J ys W')\/(∃pre,(∃k,k<=len/\pre=zad1 num k)/\Jx pre W')):=by
 refine callsIn_of_wp Tryz.func242 rfl trivial ?_ rfl
 simp only [Tryz.ntmps242,List.size_toArray,List.length_cons,List.length_nil,Nat.reduceAdd,Nat.reduceSub,Array.replicate_succ,Array.replicate_zero,List.push_toArray,List.append_toArray,List.nil_append,List.cons_append]
 gi_wp2
 gi_loopw [6] (fun i wr=>∃k:Nat,k<=len/\i=.int .i64 (k:Int)/\J (zad1 num k) wr/\wr.cell? ⟨A,0,none⟩=some (.int .i64 cur)/\wr.cell? ⟨A1,0,none⟩=some (.int .i64 (len:Int)))
  (fun i _=>len-(intOf i).toNat)
 case atStart=>exact ⟨0,Nat.zero_le _,rfl,h0,hA,hA1⟩
 case round=>
  obtain ⟨k,hk,rfl,hJs,hcA,hcA1⟩:=hrel
  by_cases hlt:k<len
  ·obtain ⟨fn,tmps,assign,body,hy,hR⟩:=hY _ (num k) wr hJs (by rw [zux1];exact hlt)
   rw [<-hnum k hlt] at hy
   unfold tkNum at hy
   gi_wp2
   refine hR.mono ?_
   rintro e W3 (⟨rfl,hJ3,hk3⟩ | ⟨rfl,hJx3⟩)
   ·gi_wp2
    go_roundw
    case rel=>exact ⟨k+1,by omega,by simp,by rw [tkUpto_succ];exact hJ3,(hkp _ _ hk3).1.trans hcA,(hkp _ _ hk3).2.trans hcA1⟩
    case measure=>simp [intOf];omega
   ·gi_wp2
    refine bodyPost_ret (results_none rfl _ _ _) rfl ?_
    exact ⟨⟨_,rfl⟩,.inr ⟨_,⟨k+1,by omega,tkUpto_succ.symm⟩,hJx3⟩⟩
  ·obtain rfl:k=len:=by omega
   gi_wp2
   go_end0
   exact ⟨⟨_,rfl⟩,.inl ⟨_,rfl,hJs⟩⟩
end Go.Proofs
namespace Lf
open Go Go.Proofs
noncomputable def takeTail :Code:=match zvi1 Tryz.f209 with
 | .seq _ (.scope (.seq _ (.seq _ (.seq _ t))))=>t
 | _=>.skip
def takeP :List Nat:=[1,3,4]
def takeA :Ann:=.sq .tt (.sq (.rg [(0,[]),(1,[]),(2,[]),(3,[]),(4,[]),(5,[]),(6,[]),(7,[]),(8,[]),(9,[]),(10,[]),(11,[])]) (.sq (.rg [(0,[]),(1,[]),(2,[]),(3,[]),(4,[]),(5,[]),(6,[]),(7,[]),(8,[]),(9,[]),(10,[]),(11,[]),(12,[]),(13,[]),(14,[]),(15,[]),(16,[])]) (.sq (.rg [(0,[]),(1,[]),(2,[]),(3,[]),(4,[]),(5,[]),(6,[2]),(7,[]),(8,[]),(9,[])]) .tt)))
noncomputable def takeC :Ctx:=⟨Tryz.prog,tb,takeP⟩
def takeSt (p:Option Addr) (lane:Int):St where
 f:=fun t=>match t with
  | 1=>some (.box 1 0,[])
  | 2=>some (.v (.int .i64 0),[])
  | 3=>some (.box 3 0,[])
  | 4=>some (.box 4 0,[])
  | 5=>some (.v (.bool false),[])
  | 6=>some (.v (.int .i64 0),[])
  | _=>none
 m:=fun k=>match k with
  | 1=>some [.pointer p]
  | 3=>some [.int .i64 lane]
  | 4=>some [.int .i64 0,.int .i64 0]
  | _=>none
noncomputable def takeE (K:(shRes tb Tryz.f209.resultTypes.toList).T->Hp->Prop):Env:=fun e s h=>match e with
 | .nrm | .ret=>retW takeC s h Tryz.f209.results.toList Tryz.f209.resultTypes.toList K
 | _=>False
noncomputable def takeX (p:Option Addr) (lane:Int) (K:(shRes tb Tryz.f209.resultTypes.toList).T->Hp->Prop) (h:Hp):Prop:=
 liftM takeC takeTail .full takeA takeP (takeSt p lane) (takeE K) h
end Lf
namespace Go.Proofs
open Go.RowKit Go.Shelf
attribute [local go_sem] Oper.semAt_some
theorem zav1 {w:World} {o:Obj} {b:Nat}:(w.alloc o).heap[b]? =if b=w.heap.size then some o else w.heap[b]?:=by
 show (w.heap.push o)[b]? =_
 grind
theorem zbc2 {W:World} {b i:Nat} {cs:Array Value} {t:TypeId} (h:W.heap[b]? =some (.cells cs t (0,0))):W.cell? ⟨b,i,none⟩=cs[i]?:=by
 simp [World.cell?,h]
theorem zgq1 {W W':World} {b i:Nat} (h:W'.heap[b]? =W.heap[b]?):W'.cell? ⟨b,i,none⟩=W.cell? ⟨b,i,none⟩:=by simp [World.cell?,h]
structure TkG (B c:Nat) (W2:World) (v:Int) (W:World):Prop where
 same:∀b,b<B->b≠c->W.heap[b]? =W2.heap[b]?
 box:W.heap[c]? =some (.cells #[.int .i64 v] 3)
 size:B<=W.heap.size
 os:W.os=W2.os
 tape:W.tape=W2.tape
 output:W.output=W2.output
theorem TkG.grown {B c:Nat} {W2 W W':World} {v:Int} {row:Option Nat} (g:TkG B c W2 v W) (hc:c<B) (hg:W.grownBy W' row) (hr:∀r,row=some r->B<=r/\∃o:Obj,W.heap[r]? =some o/\o.isCells=false):TkG B c W2 v W':=by
 have key:∀b,b<B->W'.heap[b]? =W.heap[b]?:=fun b hb=>hg.block b (Nat.lt_of_lt_of_le hb g.size) fun e=>by grind
 exact ⟨fun b hb hne=>(key b hb).trans (g.same b hb hne),(key c hc).trans g.box,Nat.le_trans g.size hg.size,hg.os.trans g.os,hg.tape.trans g.tape,hg.output.trans g.output⟩
theorem zst2 {n:Nat} {β:Nat->Nat} {s:Lf.St} {a:Act} {h:Lf.Hp} {w:World} {D:Nat} (r:Lf.Rel n β s a h w) (hd:h D=none) (ho:w.heap[D]? =some (.deferred (some []))) (o:Obj):Lf.Rel n β s a h (w.putObj D o) where
 sz:=r.sz
 sub:=fun b ob e=>by
  have hne:b≠D:=fun e2=>by grind
  rw [World.putObj_heap_other hne];exact r.sub b ob e
 lt:=r.lt
 chain:=r.chain
 cur:=r.cur
 und:=r.und
 box:=fun k cs e hl=>by
  obtain ⟨h1,ct,h2⟩:=r.box k cs e hl
  have hne:β k≠D:=fun e2=>by grind
  exact ⟨h1,ct,by rw [World.putObj_heap_other hne];exact h2⟩
 inj:=r.inj
 nrefm:=r.nrefm
 nref:=r.nref
abbrev zkv2 (p:Addr) (w:World) (x7 x8 x9 x10:Value):Array Value:= #[Value.pointer (some p),Value.pointer (some {block:=w.heap.size,off:=0}),Value.int IntKind.i64 0,Value.pointer (some {block:=w.heap.size+1,off:=0}),Value.pointer (some {block:=w.heap.size+1+1,off:=0}),Value.bool false,Value.int IntKind.i64 0,x7,x8,x9,x10,undef,undef,undef,undef,undef,undef,undef,undef,undef,undef,undef,undef,undef,undef,undef,undef,undef,undef,undef,undef,undef,undef,undef,undef,undef,undef,undef,undef,undef,undef,undef,undef,undef,undef,undef,undef,undef,undef,undef,undef,undef,undef]
theorem zrp2 {k:Lf.Hp} {p:Addr} {w W:World} {D:Nat} {v:Int} {x7 x8 x9 x10:Value} {K:(Lf.shRes Lf.tb Tryz.f209.resultTypes.toList).T->Lf.Hp->Prop} (hs:Lf.Sub k w)
  (bb:Below w.heap.size w W) (b0:W.heap[w.heap.size]? =some (.cells #[.pointer (some p)] 138)) (b1:W.heap[w.heap.size+1]? =some (.cells #[.int .i64 v] 3)) (b2:W.heap[w.heap.size+2]? =some (.cells #[.int .i64 0,.int .i64 0] 191))
  (hD:w.heap.size+3<=D) (hK:W.heap[D]? =some (.deferred (some []))) (ht:Lf.takeX (some p) v K k):
  Lf.takeTail.wp Tryz.prog (Exit.noGoto (bodyPostM Fence.wide 3 Tryz.prog Tryz.f209 fun e w'=>∃u h',e=.returned u/\(∃x,u=(Lf.shRes Lf.tb Tryz.f209.resultTypes.toList).enc x/\K x h')/\Lf.Step k h' w w'))
   {tmps:=zkv2 p w x7 x8 x9 x10,defers:=[{target:=.collected D,args:= #[]}]} W:=by
 have ksub:Lf.Sub k W:=fun b o e=>(bb.block b (hs.lt e)).trans (hs b o e)
 have knone:∀b,w.heap.size<=b->k b=none:=fun b hb=>by
  cases e:k b with
  | none=>rfl
  | some o=>have:=hs.lt e;omega
 have hrel:Lf.Rel 53 (fun k=>if k=1 then w.heap.size else if k=3 then w.heap.size+1 else w.heap.size+2) (Lf.takeSt (some p) v) {tmps:=zkv2 p w x7 x8 x9 x10,defers:=[{target:=.collected D,args:= #[]}]} k W:=by
  have slot:∀(t:Nat) (l:Lf.LV) (c:Lf.Chain),(Lf.takeSt (some p) v).f t=some (l,c)->c=[]/\(t=1/\l=.box 1 0\/t=2/\l=.v (.int .i64 0)\/t=3/\l=.box 3 0\/t=4/\l=.box 4 0\/t=5/\l=.v (.bool false)\/t=6/\l=.v (.int .i64 0)):=fun t l c e=>by
   unfold Lf.takeSt at e
   dsimp only at e
   split at e<;>cases e<;>simp
  have cell:∀(k:Nat) (cs:List Value),(Lf.takeSt (some p) v).m k=some cs->k=1/\cs=[.pointer (some p)]\/k=3/\cs=[.int .i64 v]\/k=4/\cs=[.int .i64 0,.int .i64 0]:=fun k cs e=>by
   unfold Lf.takeSt at e
   dsimp only at e
   split at e<;>cases e<;>simp
  refine ⟨rfl,ksub,fun t l c e=> ?_,fun t l c e q hq=> ?_,fun t l c e _ _=> ?_,fun t l c e _ hh=> ?_,fun k' cs e _=> ?_,fun k1 k2 e1 e2 _ _ he=> ?_,fun _ e=>e.elim,fun _ e=>e.elim⟩
  ·grind
  ·grind
  ·obtain ⟨_,h | h | h | h | h | h⟩:=slot t l c e<;>obtain ⟨rfl,rfl⟩:=h<;>exact ⟨rfl,fun _ _ _=>trivial⟩
  ·rw [(slot t l c e).1] at hh
   exact absurd (Lf.holds_nil _) hh
  ·grind
  ·have c1:k1=1\/k1=3\/k1=4:=by
    cases e:(Lf.takeSt (some p) v).m k1 with
    | none=>exact absurd e e1
    | some cs=>rcases cell k1 cs e with h | h | h<;>simp [h.1]
   have c2:k2=1\/k2=3\/k2=4:=by
    cases e:(Lf.takeSt (some p) v).m k2 with
    | none=>exact absurd e e2
    | some cs=>rcases cell k2 cs e with h | h | h<;>simp [h.1]
   grind
 have hpriv:∀k'∈Lf.takeP,∀b,b<w.heap.size\/w.heap.size+3<=b->(if k'=1 then w.heap.size else if k'=3 then w.heap.size+1 else w.heap.size+2)≠b:=fun k' _ b hb e=>by
  grind
 refine Lf.lift_sound Lf.tb_ok Lf.takeTail Lf.takeA Lf.takeP _ _ k (Lf.allLt_mem (n:=53) (by kernel_rfl)) ht _ _ W hrel _ fun e s' h' β' a' w' he hr' sg=> ?_
 have dlt:D<W.heap.size:=Lf.heap_lt hK
 have dn:k D=none:=knone D (by omega)
 have kD:w'.heap[D]? =some (.deferred (some [])):=(sg.keep D dlt dn fun k' hk _=>hpriv k' hk D (.inr hD)).trans hK
 have hD':h' D=none:=sg.unk D dlt dn fun k' hk _=>hpriv k' hk D (.inr hD)
 have fin:Lf.retW Lf.takeC s' h' Tryz.f209.results.toList Tryz.f209.resultTypes.toList K->LeavesInM Fence.wide 3 Tryz.prog Tryz.f209 a'.tmps (fun e w'=>∃u h',e=.returned u/\(∃x,u=(Lf.shRes Lf.tb Tryz.f209.resultTypes.toList).enc x/\K x h')/\Lf.Step k h' w w') a'.defers .returning w':=fun hret=>by
  rw [sg.defers]
  refine ⟨by simp,.inl ⟨_,_,rfl,run_takeDeferred kD,?_⟩⟩
  have hr2:=zst2 hr' hD' kD (.deferred none)
  obtain ⟨x,vs,hk,hrun,hval⟩:=Lf.retW_run Lf.tb_ok hr2 hret
  refine ⟨_,Lf.results_run hrun,_,h',rfl,⟨x,hval,hk⟩,hr2.sub,?_,fun b hb hn=> ?_,?_,?_,?_⟩
  ·have:=sg.size
   have:=bb.size
   simp
   omega
  ·have hlt:b<W.heap.size:=Nat.lt_of_lt_of_le hb bb.size
   refine ⟨?_,sg.unk b hlt hn fun k' hk _=>hpriv k' hk b (.inl hb)⟩
   rw [World.putObj_heap_other (by omega),sg.keep b hlt hn fun k' hk _=>hpriv k' hk b (.inl hb)]
   exact bb.block b hb
  ·exact sg.os.trans bb.os
  ·exact sg.tape.trans bb.tape
  ·exact sg.output.trans bb.output
 cases e with
 | nrm=>exact fin he
 | ret=>exact fin he
 | ext i=>exact he.elim
 | gto i=>exact he.elim
end Go.Proofs
namespace Go.Proofs
open Go.RowKit Go.Shelf
attribute [local go_sem] Oper.semAt_some
theorem zrq2 {W:World} {b i:Nat} {cs:Array Value} {t:TypeId} (h:W.heap[b]? =some (.cells cs t (0,0))):W.frozen? ⟨b,i,none⟩=false:=by
 simp [World.frozen?,h]
theorem zye1 {W:World} {b c i:Nat} {v:Value} (h:b≠c):(W.setCell ⟨c,i,none⟩ v).heap[b]? =W.heap[b]?:=by
 show (W.heap.modify c _)[b]? =_
 grind
theorem zbd2 {W:World} {c:Nat} {u v:Value} {t:TypeId} (h:W.heap[c]? =some (.cells #[u] t (0,0))):(W.setCell ⟨c,0,none⟩ v).heap[c]? =some (.cells #[v] t (0,0)):=by
 show (W.heap.modify c _)[c]? =_
 grind
set_option maxHeartbeats 4000000 in
theorem zrr2 {k:Lf.Hp} {pb:Nat} {cursor:Int} {len:Nat} {ptr:Nat->Addr} {vals:Nat->Nat} {w:World} {Kq:(Lf.shRes Lf.tb Tryz.f209.resultTypes.toList).T->Lf.Hp->Prop} (hs:Lf.Sub k w)
  (hl:0<len/\len<=1000) (num:Nat->TkN len) (hnum:∀j,j<len->tkNum cursor len j=(num j).1)
  (hround:∀W,Lf.Sub k W->Calls Tryz.prog 231 #[.pointer (some ⟨pb,0,none⟩)] W fun e W'=>∃A A1:Nat,e=.returned (.func (.func 242) #[] #[.pointer (some ⟨A1,0,none⟩),.pointer (some ⟨A,0,none⟩)])/\(W.heap.size<=A/\A<W'.heap.size)/\(W.heap.size<=A1/\A1<W'.heap.size)/\
   W'.cell? ⟨A,0,none⟩=some (.int .i64 cursor)/\W'.cell? ⟨A1,0,none⟩=some (.int .i64 (len:Int))/\Below W.heap.size W W')
  (lb:Nat) (lo lc:Nat) (hlane:∀W,Lf.Sub k W->W.cell? ⟨pb,0,none⟩=some (.slice (some ⟨lb,lo,none⟩) len lc))
  (hptr:∀j,j<len->∀W,Lf.Sub k W->W.cell? ⟨lb,lo+j,none⟩=some (.pointer (some (ptr j))))
  (hlen:∀j,j<len->∀W,Lf.Sub k W->Calls Tryz.prog 232 #[.pointer (some (ptr j))] W fun e W'=>e=.returned (.int .i64 (vals j:Int))/\Below W.heap.size W W')
  (hno:(∀j,j<len->vals (num j).1.toNat=0)->Lf.takeX (some ⟨pb,0,none⟩) (-1) Kq k)
  (hyes:∀j,j<len->(∀i,i<j->vals (num i).1.toNat=0)->vals (num j).1.toNat≠0->Lf.takeX (some ⟨pb,0,none⟩) (num j).1 Kq k):
  Calls Tryz.prog 209 #[.pointer (some ⟨pb,0,none⟩)] w (fun e w'=>∃u h',e=.returned u/\(∃x,u=(Lf.shRes Lf.tb Tryz.f209.resultTypes.toList).enc x/\Kq x h')/\Lf.Step k h' w w'):=by
 refine callsIn_wide.1 (callsIn_of_wp_marks (n:=3) Tryz.func209 rfl trivial ?_ rfl)
 simp only [Tryz.ntmps209,List.size_toArray,List.length_cons,List.length_nil,Nat.reduceAdd,Nat.reduceSub,Array.replicate_succ,Array.replicate_zero,List.push_toArray,List.append_toArray,List.nil_append,List.cons_append]
 gi_wp2
 refine (show ∀T,T=Lf.takeTail->Code.wpIn Fence.wide 3 Tryz.prog (Code.scope (Code.seq _ (Code.seq _ (Code.seq (Code.seq _ (Code.block _ (Code.rangeFunc _ _ _ _))) T)))) _ _ _ from fun T hT=> ?_) _ rfl
 refine wpIn_wide.2 (wp_scope_straight ((wpIn_wide (n:=3)).1 (wpIn_seq_k fun K1 hK1=> ?_)))
 gi_wp2
 rename_i K hK
 refine wpIn_wide.2 (wp_label (hK _ _ ?_))
 clear hK
 have hsz:(((w.alloc (Obj.cells #[Value.pointer (some ⟨pb,0,none⟩)] 138)).alloc (Obj.cells #[Value.int IntKind.i64 (-1)] 3)).alloc (Obj.cells #[Value.int IntKind.i64 0,Value.int IntKind.i64 0] 191)).heap.size=w.heap.size+3:=by simp
 obtain ⟨W0,hW0⟩:∃W0,((w.alloc (Obj.cells #[Value.pointer (some ⟨pb,0,none⟩)] 138)).alloc (Obj.cells #[Value.int IntKind.i64 (-1)] 3)).alloc (Obj.cells #[Value.int IntKind.i64 0,Value.int IntKind.i64 0] 191)=W0:=⟨_,rfl⟩
 have b0:W0.heap[w.heap.size]? =some (.cells #[Value.pointer (some ⟨pb,0,none⟩)] 138):=by
  rw [<-hW0,zav1,if_neg (by simp;omega),zav1,if_neg (by simp),zav1,if_pos rfl]
 have b1:W0.heap[w.heap.size+1]? =some (.cells #[Value.int IntKind.i64 (-1)] 3):=by
  rw [<-hW0,zav1,if_neg (by simp),zav1,if_pos (by simp)]
 have b2:W0.heap[w.heap.size+2]? =some (.cells #[Value.int IntKind.i64 0,Value.int IntKind.i64 0] 191):=by
  rw [<-hW0,zav1,if_pos (by simp)]
 have bo:Below w.heap.size w W0:=by
  rw [<-hW0]
  exact (((Below.refl _ w).alloc (Nat.le_refl _) _).alloc (by simp) _).alloc (by simp;omega) _
 rw [hW0] at hsz ⊢
 have c0:W0.cell? ⟨w.heap.size,0,none⟩=some (.pointer (some ⟨pb,0,none⟩)):=zbc2 b0
 have hs0:Lf.Sub k W0:=fun b o e=>(bo.block b (hs.lt e)).trans (hs b o e)
 have hr:=hround W0 hs0
 refine wpIn_seq_k fun K hK=> ?_
 gi_wp2_with (refine ⟨trivial,?_⟩;gi_at_call 231;refine (callsIn_wide.2 hr).mono ?_;rintro e W2 ⟨A,A1,rfl,hA,hA1,hcA,hcA1,hB⟩)
 clear hr hround
 have cB:w.heap.size+1<W2.heap.size:=by omega
 have w0:W2.heap[w.heap.size]? =some (.cells #[Value.pointer (some ⟨pb,0,none⟩)] 138):=(hB.block _ (by omega)).trans b0
 have w1:W2.heap[w.heap.size+1]? =some (.cells #[Value.int IntKind.i64 (-1)] 3):=(hB.block _ (by omega)).trans b1
 have w2:W2.heap[w.heap.size+2]? =some (.cells #[Value.int IntKind.i64 0,Value.int IntKind.i64 0] 191):=(hB.block _ (by omega)).trans b2
 have ww:Below w.heap.size w W2:=bo.trans (hB.mono (by omega))
 have subG:∀ {v W},TkG W2.heap.size (w.heap.size+1) W2 v W->Lf.Sub k W/\Below w.heap.size w W/\W.heap[w.heap.size]? =some (.cells #[Value.pointer (some ⟨pb,0,none⟩)] 138)/\W.heap[w.heap.size+2]? =some (.cells #[Value.int IntKind.i64 0,Value.int IntKind.i64 0] 191):=fun {v W} g=>by
  have hb:Below w.heap.size w W:=⟨g.os.trans ww.os,g.tape.trans ww.tape,g.output.trans ww.output,by have:=g.size;omega,fun b hb=>(g.same b (by omega) (by omega)).trans (ww.block b hb)⟩
  exact ⟨fun b o e=>(hb.block b (hs.lt e)).trans (hs b o e),hb,(g.same _ (by omega) (by omega)).trans w0,(g.same _ (by omega) (by omega)).trans w2⟩
 have tail:∀ {v W D} {x7 x8 x9 x10:Value},TkG W2.heap.size (w.heap.size+1) W2 v W->W2.heap.size<=D->W.heap[D]? =some (.deferred (some []))->Lf.takeX (some ⟨pb,0,none⟩) v Kq k->
   K {tmps:=zkv2 ⟨pb,0,none⟩ w x7 x8 x9 x10,defers:=[{target:=.collected D,args:= #[]}]} W:=fun {v W D x7 x8 x9 x10} g hD hK2 ht=>by
  obtain ⟨q1,q2,q3,q4⟩:=subG g
  refine hK _ _ (wpIn_wide.2 ?_)
  rw [hT]
  exact zrp2 hs q2 q3 g.box q4 (by omega) hK2 ht
 refine wpIn_rangeFunc_ownF (α:=TkN len) rfl (by decide) (gf:=242) (lb:= #[Value.pointer (some ⟨A1,0,none⟩),Value.pointer (some ⟨A,0,none⟩)]) rfl trivial (enters_of Tryz.func242 (by kernel_rfl) rfl)
  (encs:=fun x=> #[.int .i64 x.1]) (Kp:=fun W W'=>W'.cell? ⟨A,0,none⟩=W.cell? ⟨A,0,none⟩/\W'.cell? ⟨A1,0,none⟩=W.cell? ⟨A1,0,none⟩)
  (S:=fun ys=>ys=zad1 num len) (Sp:=fun pre=>∃k,k<=len/\pre=zad1 num k) (N:=len) (w0:=W2)
  (fun l J Jx W hW _ _ hY h0=>zku2 2 (by decide) l A A1 cursor len hl.1 hl.2 num hnum _ (fun _ _ h=>h) J Jx hY W ((hW.cell (p:=⟨A,0,none⟩) hA.2).trans hcA) ((hW.cell (p:=⟨A1,0,none⟩) hA1.2).trans hcA1) h0)
  (fun h1 h2=>⟨h2.1.trans h1.1,h2.2.trans h1.2⟩)
  (fun W l o o' hl2 _ _ _=>⟨zgq1 (World.putObj_heap_other (by omega)),zgq1 (World.putObj_heap_other (by omega))⟩)
  (Below.refl _ _) (fun _=>rfl)
  (fun pre W=>TkG W2.heap.size (w.heap.size+1) W2 (-1) W/\∀y∈pre,vals y.1.toNat=0)
  (fun c pre W=>c=.exit 0/\∃pre' x,pre=pre'++ [x]/\(∀y∈pre',vals y.1.toNat=0)/\vals x.1.toNat≠0/\TkG W2.heap.size (w.heap.size+1) W2 x.1 W)
  (fun s A B row hs hg hr=>⟨hs.1.grown cB hg hr,hs.2⟩)
  (fun c s A B row hs hg hr=>by
   obtain ⟨e,pre',x,h1,h2,h3,h4⟩:=hs
   exact ⟨e,pre',x,h1,h2,h3,h4.grown cB hg hr⟩)
  ⟨⟨fun _ _ _=>rfl,w1,Nat.le_refl _,rfl,rfl,rfl⟩,fun y hy=>by cases hy⟩
  (fun x=>{tmps:= #[Value.pointer (some ⟨pb,0,none⟩),Value.pointer (some ⟨w.heap.size,0,none⟩),Value.int IntKind.i64 0,Value.pointer (some ⟨w.heap.size+1,0,none⟩),Value.pointer (some ⟨w.heap.size+1+1,0,none⟩),Value.bool false,Value.int IntKind.i64 0,.int .i64 x.1,Value.pointer (some ⟨pb,0,none⟩),Value.func (Fn.func 242) #[] #[Value.pointer (some ⟨A1,0,none⟩),Value.pointer (some ⟨A,0,none⟩)],.int .i64 x.1,undef,undef,undef,undef,undef,undef,undef,undef,undef,undef,undef,undef,undef,undef,undef,undef,undef,undef,undef,undef,undef,undef,undef,undef,undef,undef,undef,undef,undef,undef,undef,undef,undef,undef,undef,undef,undef,undef,undef,undef,undef,undef],defers:=[]})
  ?assign ?body ?done ?stop
 case assign=>
  intro l x W K hK
  gi_wp2
  exact hK
 case body=>
  rintro l pre x W ⟨g,hz⟩ _
  obtain ⟨q1,q2,q3,q4⟩:=subG g
  have d0:W.cell? ⟨w.heap.size,0,none⟩=some (.pointer (some ⟨pb,0,none⟩)):=zbc2 q3
  have d1:W.cell? ⟨pb,0,none⟩=some (.slice (some ⟨lb,lo,none⟩) len lc):=hlane W q1
  have xl:x.1.toNat<len:=by have:=x.2;omega
  have x0:=x.2
  have d2:W.cell? ⟨lb,lo+x.1.toNat,none⟩=some (.pointer (some (ptr x.1.toNat))):=hptr _ xl W q1
  have hc:=hlen _ xl W q1
  by_cases hv:vals x.1.toNat=0
  ·rw [hv] at hc
   gi_wp2_with (refine ⟨trivial,?_⟩;gi_at_call 232;refine (CallsIn.inRound l (callsIn_wide.2 hc)).mono ?_;rintro e W3 ⟨rfl,hB3⟩)
   have hlt:∀b o,W.heap[b]? =some o->W3.heap[b]? =some o:=fun b o e=>(hB3.block b (Lf.heap_lt e)).trans e
   have gsz:=g.size
   refine ⟨⟨hB3.size,fun b o e _=>hlt b o e⟩,⟨zgq1 (hB3.block _ (by omega)),zgq1 (hB3.block _ (by omega))⟩,⟨fun b hb hne=>(hB3.block b (by omega)).trans (g.same b hb hne),hlt _ _ g.box,Nat.le_trans g.size hB3.size,hB3.os.trans g.os,hB3.tape.trans g.tape,hB3.output.trans g.output⟩,fun y hy=> ?_⟩
   grind
  ·have hv2:0<vals x.1.toNat:=Nat.pos_of_ne_zero hv
   gi_wp2_with (refine ⟨trivial,?_⟩;gi_at_call 232;refine (CallsIn.inRound l (callsIn_wide.2 hc)).mono ?_;rintro e W3 ⟨rfl,hB3⟩;have hb3:=(hB3.block _ (Lf.heap_lt g.box)).trans g.box;have hcb:W3.cell? ⟨w.heap.size+1,0,none⟩=some (.int .i64 (-1)):=zbc2 hb3;have hfb:W3.frozen? ⟨w.heap.size+1,0,none⟩=false:=zrq2 hb3)
   have gsz:=g.size
   refine ⟨⟨Nat.le_trans hB3.size (KeepsOthers.setCell _ _ _).size,fun b o e ho=>(KeepsOthers.setCell _ _ _).same b o ((hB3.block b (Lf.heap_lt e)).trans e) ho⟩,rfl,pre,x,rfl,hz,hv,?_⟩
   have hset:(W3.setCell ⟨w.heap.size+1,0,none⟩ (.int .i64 x.1))=(W3.setCell ⟨w.heap.size+1,0,none⟩ (.int .i64 x.1)):=rfl
   refine ⟨fun b hb hne=> ?_,?_,?_,hB3.os.trans g.os,hB3.tape.trans g.tape,hB3.output.trans g.output⟩
   ·rw [zye1 hne]
    exact (hB3.block b (by omega)).trans (g.same b hb hne)
   ·exact zbd2 hb3
   ·exact Nat.le_trans g.size (Nat.le_trans hB3.size (KeepsOthers.setCell _ _ _).size)
 case done=>
  rintro D ys W hD rfl ⟨g,hz⟩ hK2
  gi_wp2
  refine tail (x7:=undef) (x8:=Value.pointer (some ⟨pb,0,none⟩)) (x9:=Value.func (Fn.func 242) #[] #[Value.pointer (some ⟨A1,0,none⟩),Value.pointer (some ⟨A,0,none⟩)]) (x10:=undef) g hD hK2 (hno fun j hj=>hz _ ?_)
  exact List.mem_map.2 ⟨j,List.mem_range.2 hj,rfl⟩
 case stop=>
  rintro D c pre W hD hSp ⟨rfl,pre',x,h1,h2,h3,g⟩ hK2
  gi_wp2
  obtain ⟨k1,hk1,e1⟩:=hSp
  rw [h1] at e1
  cases k1 with
  | zero=>simp [zad1] at e1
  | succ j=>
   rw [tkUpto_succ] at e1
   obtain ⟨e2,e3⟩:=List.append_inj' e1 rfl
   have e3:x=num j:=by simpa using e3
   refine tail (x7:=undef) (x8:=Value.pointer (some ⟨pb,0,none⟩)) (x9:=Value.func (Fn.func 242) #[] #[Value.pointer (some ⟨A1,0,none⟩),Value.pointer (some ⟨A,0,none⟩)]) (x10:=undef) g hD hK2 ?_
   rw [e3]
   refine hyes j (by omega) (fun i hi=> ?_) (by grind)
   exact h2 _ (by rw [e2];exact List.mem_map.2 ⟨i,List.mem_range.2 hi,rfl⟩)
end Go.Proofs
namespace Lf
open Go Go.Proofs Go.RowKit
def zkw2 (P:Program) (p:Option Addr) (lane:Int) (Q:(Int->(Int->(S_api_Waiter->(Bool->(Int->(Hp->Prop))))))) (h:Hp):Prop:=
 (if (decide (lane<(0:Int)))=true then
 Q (0:Int) (0:Int) ⟨(0:Int),(0:Int)⟩ false (21:Int) h
 else
 NilW none p fun p1=>
 LdW none shSl h (Addr.add p1 0) fun x=>
 (((x.len:Nat):Int)≠(0:Int)/\NilW none p fun p2=>
 StW h (Addr.add p2 1) [(.int .i64 (Int.tmod (IntKind.wrap .i64 (lane+(1:Int))) ((x.len:Nat):Int)))] (fun h1=>
 NilW none p fun p3=>
 LdW none shSl h1 (Addr.add p3 0) fun x1=>
 ((InB x1.base x1.len lane)/\LdW none shPtr h1 (sat x1.base 1 lane) fun x2=>
 Call4 P zof [(.pointer x2)] (shInt .i64) sh_api_Waiter zae (shInt .i64) (fun r r1 r2 r3 h2=>
 ((True/\True)/\Q r lane r1 r2 r3 h2)) h1))))
theorem zkx2 (p:Option Addr) (lane:Int) (Q:Int->Int->S_api_Waiter->Bool->Int->Hp->Prop) (h:Hp):takeX p lane (fun x h'=>Q x.1 x.2.1 x.2.2.1 x.2.2.2.1 x.2.2.2.2 h') h=zkw2 Tryz.prog p lane Q h:=by kernel_rfl
section
variable {h0 k:Hp}
theorem zdz2 {h:Hp} {a:Addr} {cs:List Value} {i:Nat} {v:Value} (l:LdIs h a cs) (e:cs[i]? =some v):hcell h (a.add i)=some v:=l i v e
theorem zbe2 {P:Program} {g:FuncId} {args:List Value} {sh:Shape} {K:sh.T->Hp->Prop} {w:World} (hs:Sub k w) (hc:CallT P g args sh (fun x h'=>h'=k/\K x h') k):Calls P g args.toArray w fun e w'=>∃x,e=.returned (sh.enc x)/\K x k/\Below w.heap.size w w':=by
 refine (hc w hs).mono ?_
 rintro e w' ⟨v,h',rfl,⟨x,rfl,rfl,hk⟩,st⟩
 refine ⟨x,rfl,hk,st.os,st.tape,st.output,st.size,fun b hb=> ?_⟩
 cases e:h' b with
 | none=>exact (st.keep b hb e).1
 | some o=>rw [st.sub b o e,hs b o e]
theorem zuy1 {α:Type} {l:List α} {i:Nat} {d:α} (h:i<l.length):l[i]? =some (l.getD i d):=by
 grind
theorem zpb1 {α:Type} {f:α->Value}:∀ {l:List α},l.flatMap (fun a=> [f a])=l.map f
 | []=>rfl
 | a::r=>by rw [List.flatMap_cons,zpb1,List.map_cons];rfl
theorem zky2 {α:Type} {n:Nat} {f:Nat->α} {q:α->Bool} (h:∀j,j<n->q (f j)=false):((List.range n).map f).find? q=none:=by
 grind
theorem zkz2 {α:Type} {n:Nat} {f:Nat->α} {q:α->Bool} {j:Nat} (hj:j<n) (h:∀i,i<j->q (f i)=false) (h2:q (f j)=true):((List.range n).map f).find? q=some (f j):=by
 have e:List.range n=List.range j++j::(List.range (n-j-1)).map (fun i=>j+1+i):=by
  rw [show n=j+(1+(n-j-1)) by omega,List.range_add,List.range_add]
  simp [Nat.add_assoc]
 grind
theorem zol2 :zlj1:=by
 intro h0 k p room cursor ls Q o hl hcur hno hyes
 obtain ⟨x,ptrs,e1,e2,oB⟩:=o.postX
 obtain ⟨pb,rfl,hblk,hpn⟩:=(Has.left oB).rec_
 have hlen:=oB.right.left.slen
 have hsrw:Rw k 1 eP x.lanes ptrs:=oB.right.left.srw fun _=>rfl
 have hpos:0<ls.length:=by omega
 obtain ⟨lb,lo,hbase,hldl⟩:∃lb lo,x.lanes.base=some ⟨lb,lo,none⟩/\LdIs k ⟨lb,lo,none⟩ (ptrs.flatMap eP):=by
  obtain ⟨_,F,⟨q1,q2,q3⟩,_⟩:=oB.right.left
  rcases q3 with ⟨h,_⟩ | ⟨b,off,cs,h1,_⟩
  ·omega
  ·rcases hsrw.2.2 with h | ⟨a,h3,h4⟩
   ·omega
   grind
 have hflat:∀j,j<ls.length->(ptrs.flatMap eP)[j]? =some (.pointer (some (ptrs.getD j a0))):=fun j hj=>by
  rw [show ptrs.flatMap eP=ptrs.map fun a=>Value.pointer (some a) from zpb1,List.getElem?_map,zuy1 (d:=a0) (by omega)]
  rfl
 have hrec:Has h0 (RecA zrl ⟨pb,0,none⟩ x) k:=Has.left oB
 have hlane0:hcell k ⟨pb,0,none⟩=some x.lanes.v:=zdz2 (i:=0) (hrec.ldis (off:=0) (n:=2) (vs:=[x.lanes.v,.int .i64 x.cursor]) rfl) rfl
 have hp0:Has h0 (PostA ⟨pb,0,none⟩ room ls cursor) k:=oB.ofPost e1 e2
 let num:Nat->TkN ls.length:=fun j=>⟨(((cursor.toNat+j)%ls.length:Nat):Int),by omega,by have:=Nat.mod_lt (cursor.toNat+j) hpos;omega⟩
 let vals:Nat->Nat:=fun j=>(ls.getD j laneZ).values.length
 have hfirst:∀j,j<ls.length->((match ls[(cursor.toNat+j)%ls.length]? with | some x=> !x.values.isEmpty | none=>false)=true↔vals (num j).1.toNat≠0):=fun j hj=>by
  have hlt:=Nat.mod_lt (cursor.toNat+j) hpos
  grind
 have key:CallE Tryz.prog zod [.pointer (some ⟨pb,0,none⟩)] (fun v h'=>∃x,v=(shRes tb Tryz.f209.resultTypes.toList).enc x/\(fun (x:(zbl2 (shInt .i64) (shInt .i64) sh_api_Waiter zae (shInt .i64)).T) h'=>Q x.1 x.2.1 x.2.2.1 x.2.2.2.1 x.2.2.2.2 h') x h') k:=by
  intro w hs
  refine zrr2 (len:=ls.length) (cursor:=cursor) (ptr:=fun j=>ptrs.getD j a0) (vals:=vals) (num:=num) hs ⟨hpos,by omega⟩ (fun j hj=> ?_) (fun W hW=> ?_) lb lo x.lanes.cap (fun W hW=> ?_) (fun j hj W hW=> ?_) (fun j hj W hW=> ?_) (fun hz=> ?_) (fun j hj hz hv=> ?_)
  ·show (Go.RowKit.wrap64 (cursor+(j:Int))).tmod (ls.length:Int)=(((cursor.toNat+j)%ls.length:Nat):Int)
   have:Go.RowKit.wrap64 (cursor+(j:Int))=((cursor.toNat+j:Nat):Int):=by
    unfold Go.RowKit.wrap64
    omega
   rw [this]
   rfl
  ·refine (show CallT Tryz.prog zto [shPtr.enc (some ⟨pb,0,none⟩)] shFn (fun v h'=>k<=h'/\∃A A1:Nat,k A=none/\k A1=none/\v=⟨242, #[], #[.pointer (some ⟨A1,0,none⟩),.pointer (some ⟨A,0,none⟩)]⟩/\LdIs h' ⟨A,0,none⟩ [.int .i64 cursor]/\LdIs h' ⟨A1,0,none⟩ [.int .i64 (ls.length:Int)]) k from ?_) W hW |>.mono ?_
   ·refine zby1 ?_
    unfold ztq
    refine zab (hrec.ld (shf:=shInt .i64) x.cursor (off:=1) rfl ?_)
    refine zab (hrec.ld (shf:=shSl) x.lanes (off:=0) rfl ?_)
    intro b ty hn
    have l1:=zcu (o:=.cells #[Value.int .i64 0] ty (0,0)) hn
    have hb:Blk (k.set b (.cells #[Value.int .i64 0] ty (0,0))) b [.int .i64 0]:=⟨ty,zbw⟩
    refine ⟨⟨zbl l1 (hrec.ldis (off:=1) (n:=1) (vs:=[.int .i64 x.cursor]) rfl),zbl l1 (hrec.ldis (off:=0) (n:=1) (vs:=[x.lanes.v]) rfl),trivial⟩,?_⟩
    refine zmt hb (off:=0) (new:=[.int .i64 x.cursor]) (by simp) fun h2 m hb2=> ?_
    have l2:k<=h2:=fun c ob e=>m.keep c ob (l1 c ob e) fun hc=>by grind
    refine ⟨⟨zbl l2 (hrec.ldis (off:=0) (n:=1) (vs:=[x.lanes.v]) rfl),trivial⟩,?_⟩
    intro b2 ty2 hn2
    have l3:=zcu (o:=.cells #[Value.int .i64 ((x.lanes.len:Nat):Int)] ty2 (0,0)) hn2
    refine ⟨Hp.le_trans l2 l3,b,b2,hn,zbz l2 hn2,rfl,zbl l3 ?_,?_⟩
    ·rw [<-e1]
     exact hb2.ldIs (off:=0) (n:=1) rfl
    ·have:=zul (h:=h2) (b:=b2) (t:=ty2) (cs:=[Value.int .i64 ((x.lanes.len:Nat):Int)])
     grind
   ·rintro e W' ⟨v,h',rfl,⟨fv,rfl,kl,A,A1,nA,nA1,rfl,lA,lA1⟩,st⟩
    have cA:∃o,h' A=some o:=by
     have:=lA 0 _ rfl
     cases e:h' A with
     | some o=>simp
     | none=>simp [hcell,e,Addr.add] at this
    have cA1:∃o,h' A1=some o:=by
     have:=lA1 0 _ rfl
     cases e:h' A1 with
     | some o=>simp
     | none=>simp [hcell,e,Addr.add] at this
    obtain ⟨oA,cA⟩:=cA
    obtain ⟨oA1,cA1⟩:=cA1
    refine ⟨A,A1,rfl,⟨Nat.le_of_not_lt fun hlt=> ?_,st.sub.lt cA⟩,⟨Nat.le_of_not_lt fun hlt=> ?_,st.sub.lt cA1⟩,zhv st.sub (lA 0 _ rfl),zhv st.sub (lA1 0 _ rfl),st.os,st.tape,st.output,st.size,fun b hb=> ?_⟩
    ·have:=(st.keep A hlt nA).2;grind
    ·have:=(st.keep A1 hlt nA1).2;grind
    ·cases e:k b with
     | none=>exact (st.keep b hb e).1
     | some o=>rw [st.sub b o (kl b o e),hW b o e]
  ·rw [zhv hW hlane0]
   show some (Value.slice x.lanes.base x.lanes.len x.lanes.cap)=_
   grind
  ·have:=zdz2 hldl (hflat j hj)
   rw [zbh] at this
   exact zhv hW this
  ·obtain ⟨h1,l1,oL,_⟩:=oB.lane1 (zuy1 (d:=laneZ) hj)
   refine (zbe2 (sh:=shInt .i64) (K:=fun r _=>r=((ls.getD j laneZ).values.length:Int)) hW (zga1 (zsj2 oL ⟨rfl,rfl⟩))).mono ?_
   grind
  ·refine Eq.mpr (zkx2 (some ⟨pb,0,none⟩) (-1) Q k) ?_
   unfold zkw2
   rw [if_pos (by decide)]
   refine hno (zky2 fun j hj=> ?_) k hp0
   have:=hfirst j hj
   rw [hz j hj] at this
   exact Bool.eq_false_iff.2 fun e=>this.1 e rfl
  ·refine Eq.mpr (zkx2 (some ⟨pb,0,none⟩) (num j).1 Q k) ?_
   unfold zkw2
   have hx0:=(num j).2
   rw [if_neg (by simp;omega)]
   have hf:zcg1 cursor ls=some (num j).1.toNat:=by
    unfold zcg1
    rw [zkz2 hj (fun i hi=> ?_) ((hfirst j hj).2 hv)]
    ·show some ((cursor.toNat+j)%ls.length)=some ((((cursor.toNat+j)%ls.length:Nat):Int)).toNat
     rw [Int.toNat_natCast]
    ·have:=hfirst i (by omega)
     rw [hz i hi] at this
     exact Bool.eq_false_iff.2 fun e=>this.1 e rfl
   generalize (num j).1=y at hx0 hf hv
   obtain ⟨i,rfl⟩:∃i:Nat,y=(i:Int):=⟨y.toNat,by omega⟩
   rw [Int.toNat_natCast] at hf hv
   have hi:i<ls.length:=by omega
   refine zab (hrec.ld (shf:=shSl) x.lanes (off:=0) rfl ⟨by omega,?_⟩)
   obtain ⟨g1,_,oR,put⟩:=oB.f1
   have etm:Int.tmod (IntKind.wrap .i64 ((i:Int)+1)) ((x.lanes.len:Nat):Int)=((i+1:Nat):Int)%(ls.length:Int):=by
    rw [wrap64 (by omega) (by omega),hlen,e2]
    rfl
   rw [etm]
   refine zab (oR.st ({x with cursor:=((i+1:Nat):Int)%(ls.length:Int)}:S_post_Post) (off:=1) (new:=[.int .i64 (((i+1:Nat):Int)%(ls.length:Int))]) (by show 1+1<=2;omega) rfl fun k2 o2=> ?_)
   have oB2:=put _ _ o2
   refine zab (o2.ld (shf:=shSl) x.lanes (off:=0) rfl ?_)
   have oB3:Has h0 (PostB ⟨pb,0,none⟩ {x with cursor:=((i+1:Nat):Int)%(ls.length:Int)} ptrs room ls) k2:=oB2
   refine oB3.ptr e2 hi ?_
   obtain ⟨g2,_,oL,putL⟩:=oB3.lane1 (zuy1 (d:=laneZ) hi)
   have hget:=zuy1 (d:=laneZ) hi
   have hlm:=hl.2 _ (List.mem_of_getElem? hget)
   have hpost:∀ {l' k'},Has g2 (LaneA (ptrs.getD i a0) room l') k'->Has h0 (PostA ⟨pb,0,none⟩ room (ls.set i l') (((i+1:Nat):Int)%(ls.length:Int))) k':=fun o'=>(putL _ _ o').ofPost rfl (by rw [List.length_set];exact e2)
   refine zem1 (zmr2 oL hlm.1 hlm.2 (fun e=> ?_) (fun v vs k' e e' o'=>⟨⟨trivial,trivial⟩,?_⟩) fun v vs z zs k' e e' o'=>⟨⟨trivial,trivial⟩,?_⟩)
   ·exact absurd (congrArg List.length e) hv
   ·have:=hyes i _ v vs hf hget e k' (hpost o')
    rw [e'] at this
    exact this
   grind
 exact key
end
end Lf
namespace Lf
open Go Go.Proofs
theorem forI {len:Int} {n:Nat} (hn:len=(n:Int)) (hb:n<=4611686018427387904) (I:Nat->Hp->Prop) {B:(Int->Hp->Prop)->Int->Hp->Prop} {X:Int->Hp->Prop} {h0:Hp} (h00:I 0 h0)
  (hs:∀i:Nat,i<n->∀h,I i h->∀K:Int->Hp->Prop,(∀h',I (i+1) h'->K (IntKind.wrap .i64 ((i:Int)+1)) h')->B K (i:Int) h) (hx:∀h,I n h->X (n:Int) h):
  LoopW1 (fun again t h=>if decide (t<len)=true then B again t h else X t h) (0:Int) h0:=by
 refine LoopW1.intro (fun t h=>∃i:Nat,t=(i:Int)/\i<=n/\I i h) (fun t _=>(len-t).toNat) ⟨0,rfl,by omega,h00⟩ ?_
 rintro t h ⟨i,rfl,hi,hI⟩
 by_cases hlt:i<n
 ·rw [if_pos (decide_eq_true (by omega))]
  refine hs i hlt h hI _ fun h' hI'=> ?_
  rw [wrap64 (by omega) (by omega)]
  exact ⟨⟨i+1,by omega,by omega,hI'⟩,by omega⟩
 grind
section
variable {h:Hp} {c:PCfg} {s:zbi}
end
theorem zpc1 {α:Type} {l:List α} {i:Nat} {x:α} (h:l[i]? =some x):l.drop i=x::l.drop (i+1):=by
 obtain ⟨h1,rfl⟩:=List.getElem?_eq_some_iff.1 h
 simp
section
variable {h:Hp} {c:PCfg} {s:zbi}
end
def MayP (c:PCfg) (s:zbi):Prop:=MayG c s fun (i:Nat) q=>fl c.labels (i:Int) q=true
section
variable {h0 h:Hp} {b0:Nat} {bs:List UInt8}
theorem zrs2 {es:List (List UInt8)} {i:Nat} {e:List UInt8} (he:es[i]? =some e):(bs++(es.take i).flatten)++e=bs++(es.take (i+1)).flatten/\(bs++(es.take i).flatten).length+e.length<=bs.length+es.flatten.length:=by
 constructor
 ·rw [List.take_add_one,he];simp
 ·obtain ⟨hi,rfl⟩:=List.getElem?_eq_some_iff.1 he
  have:es.flatten=(es.take i).flatten++(es[i]++(es.drop (i+1)).flatten):=by
   have h:=congrArg List.flatten (List.take_append_drop i es)
   rw [List.flatten_append,List.drop_eq_getElem_cons hi,List.flatten_cons] at h
   exact h.symm
  rw [this]
  simp
  omega
end
theorem zuz1 {α:Type} {f:α->List UInt8} {B:Nat}:∀(l:List α),(∀x,(f x).length=B)->(l.map f).flatten.length=B*l.length
 | [],_=>by simp
 | x::l,hf=>by simp only [List.map_cons,List.flatten_cons,List.length_append,hf,zuz1 l hf,List.length_cons];rw [Nat.mul_add];omega
section
variable {h0 h:Hp} {b0:Nat} {bs:List UInt8} {Q:Hp->Prop}
end
theorem newB2 {h:Hp} {cs:List Value} {K:Addr->Hp->Prop} (hk:∀b h',h b=none->h<=h'->Blk h' b cs->K ⟨b,0,none⟩ h'):NewW cs K h:=fun b t hn=>hk b _ hn (zcu hn) ⟨t,zbw⟩
abbrev RS :Type:=Except (Int×Nat) Nat
def stepD {α:Type} (r:RS) (d:D α) (bs:List UInt8):Except (Int×Nat) (α×Nat):=match r with
 | .ok at_=>d bs at_
 | .error e=>.error e
def Cn {α:Type} (bs:List UInt8) (r:RS) (d:D α) (r1:RS) (x:α):Prop:=∀(β:Type) (f:α->D β),stepD r (D.bind d f) bs=stepD r1 (f x) bs
section
variable {α β:Type} {bs:List UInt8} {r r1 r2:RS}
theorem ziv {γ:Type} (d:D α) (g:α->D β) (f:β->D γ):D.bind (D.bind d g) f=D.bind d fun x=>D.bind (g x) f:=by
 funext b a
 unfold D.bind
 grind
theorem zom2 (x:α) (f:α->D β):D.bind (D.ret x) f=f x:=rfl
theorem Cn.ok {d:D α} {at_ at2:Nat} {x:α} (h:d bs at_=.ok (x,at2)):Cn bs (.ok at_) d (.ok at2) x:=fun β f=>by
 show D.bind d f bs at_=f x bs at2
 unfold D.bind
 rw [h]
theorem Cn.err {d:D α} {at_:Nat} {e:Int×Nat} {x:α} (h:d bs at_=.error e):Cn bs (.ok at_) d (.error e) x:=fun β f=>by
 show D.bind d f bs at_=.error e
 unfold D.bind
 rw [h]
theorem Cn.stay {d:D α} {e:Int×Nat} {x:α}:Cn bs (.error e) d (.error e) x:=fun β f=>rfl
theorem Cn.ret {x:α}:Cn bs r (D.ret x) r x:=fun β f=>by rw [zom2]
theorem Cn.seq {d:D α} {g:α->D β} {x:α} {y:β} (h1:Cn bs r d r1 x) (h2:Cn bs r1 (g x) r2 y):Cn bs r (D.bind d g) r2 y:=fun γ f=>by
 rw [ziv,h1,h2]
theorem Cn.done {d:D α} {x:α} (h:Cn bs r d r1 x):stepD r d bs=match r1 with | .ok at_=>.ok (x,at_) | .error e=>.error e:=by
 have:=h α D.ret
 have e:D.bind d D.ret=d:=by
  funext b a
  unfold D.bind D.ret
  grind
 rw [e] at this
 rw [this]
 cases r1<;>rfl
theorem Cn.map {d:D α} {g:α->β} {x:α} (h:Cn bs r d r1 x):Cn bs r (D.map g d) r1 (g x):=Cn.seq h Cn.ret
end
theorem zla2 (l:List UInt8) (b:UInt8):valB (l++ [b])=valB l+256^l.length*b.toNat:=by
 induction l with
 | nil=>simp [valB]
 | cons c l ih=>
  simp only [List.cons_append,valB,ih,List.length_cons,Nat.pow_succ]
  grind
theorem zrt2 {n c i:Nat} (hn:n<256^i) (hi:i<8) (hc:c<256):bitsI .or .u64 (n:Int) (shlI .u64 (IntKind.wrap .u64 (c:Int)) (8*(i:Int)))=((n+256^i*c:Nat):Int):=by
 have e2:(256:Nat)^i=2^(8*i):=by rw [show (256:Nat)=2^8 by rfl,<-Nat.pow_mul]
 have hp:256^i*256<=18446744073709551616:=by
  rw [<-Nat.pow_succ]
  exact Nat.pow_le_pow_right (by omega:256>0) (show i+1<=8 by omega)
 have hm:256^i*c+256^i<=256^i*256:=by
  have:=Nat.mul_le_mul_left (256^i) (show c+1<=256 by omega)
  omega
 have e1:IntKind.wrap .u64 (c:Int)=(c:Int):=wrapU ⟨by omega,by omega⟩
 have e3:shlI .u64 (c:Int) (8*(i:Int))=((256^i*c:Nat):Int):=by
  unfold shlI
  have:min (8*(i:Int)).toNat (IntKind.bits .u64)=8*i:=by
   show min _ 64=_
   omega
  rw [this,wrapU]
  ·rw [e2,Int.natCast_mul,Int.mul_comm];norm_cast
  grind
 rw [e1,e3]
 unfold bitsI
 have h1:InU (n:Int):=⟨by omega,by omega⟩
 have h2:InU ((256^i*c:Nat):Int):=⟨by omega,by omega⟩
 have h3:IntKind.bits .u64=64:=rfl
 dsimp only
 rw [h3,zge1 h1,zge1 h2,BitVec.toNat_or,Int.toNat_natCast,Int.toNat_natCast,BitVec.toNat_ofNat,BitVec.toNat_ofNat,Nat.mod_eq_of_lt (by omega),Nat.mod_eq_of_lt (by omega)]
 have h4:n ||| 256^i*c=n+256^i*c:=by
  rw [Nat.or_comm,e2,<-Nat.two_pow_add_eq_or_of_lt (by omega) c,Nat.add_comm]
 rw [h4,wrapU ⟨by omega,by omega⟩]
theorem zon2 {h:Hp} {y:Sl} {l:List UInt8} {K:Int->Hp->Prop} (hb:Bs h y l) (hl:l.length<=8) (hk:K (valB l:Int) h):
  LoopW2 (α1:=Int) (α2:=Int) (fun again n t h2=>(if (decide (t<((y.len:Nat):Int)))=true then ((InB y.base y.len t)/\LdW none (shInt .u8) h2 (sat y.base 1 t) fun x5=>
   ((0:Int)<=(IntKind.wrap .i64 ((8:Int)*t))/\again (bitsI .or .u64 n (shlI .u64 (IntKind.wrap .u64 x5) (IntKind.wrap .i64 ((8:Int)*t)))) (IntKind.wrap .i64 (t+(1:Int))) h2)) else K n h2)) (0:Int) (0:Int) h:=by
 have hyl:y.len=l.length:=hb.1
 refine LoopW2.intro (fun n t h'=>h'=h/\∃i:Nat,t=(i:Int)/\i<=l.length/\n=(valB (l.take i):Int)) (fun _ t _=>(l.length-t).toNat) ⟨rfl,0,rfl,by omega,rfl⟩ ?_
 rintro n t h' ⟨rfl,i,rfl,hi,rfl⟩
 by_cases hlt:i<l.length
 ·rw [if_pos (decide_eq_true (by omega))]
  obtain ⟨e1,x,hx,hld⟩:=Rw.read hb zda2 (by omega) (i:=(i:Int)) (by omega) (by omega)
  have hx:l[i]? =some x:=hx
  refine ⟨e1,(x.toNat:Int),hld,?_⟩
  rw [wrap64 (by omega) (by omega)]
  refine ⟨by omega,?_⟩
  have hv:=zsp1 (l.take i)
  have hti:(l.take i).length=i:=by rw [List.length_take];omega
  rw [hti] at hv
  rw [zrt2 hv (by omega) x.toNat_lt,wrap64 (by omega) (by omega)]
  refine ⟨⟨rfl,i+1,rfl,by omega,?_⟩,by omega⟩
  rw [List.take_add_one,hx]
  show _=((valB (l.take i++ [x]):Nat):Int)
  rw [zla2,hti]
 grind
def zco1 (bl:Sl) (at_ e pl:Int):List Value:=[bl.v,.int .i64 at_,.int .i64 e,.int .i64 pl]
def RSat (r:RS) (n at_ e pl:Int):Prop:=match r with
 | .ok a=>at_=(a:Int)/\e=0/\(a:Int)<=n
 | .error (er,p)=>e=er/\er≠0/\pl=(p:Int)
structure RAt (d h:Hp) (rb:Nat) (bl:Sl) (bs:List UInt8) (r:RS):Prop where
 le:d<=h
 out:d rb=none
 src:Bs d bl bs
 cap:bl.len<=bl.cap
 small:bs.length<=2097152
 blk:∃at_ e pl:Int,Blk h rb (zco1 bl at_ e pl)/\RSat r bs.length at_ e pl
section
variable {d h:Hp} {rb:Nat} {bl:Sl} {bs:List UInt8} {r:RS}
theorem RAt.mv (a:RAt d h rb bl bs r) {G G':List Nat} {h':Hp} (m:Mv G h G' h') (hr:rb∉G) (hd:∀c∈G,d c=none):RAt d h' rb bl bs r:=by
 obtain ⟨p,e,pl,k,hs⟩:=a.blk
 exact ⟨(m.le a.le hd).1,a.out,a.src,a.cap,a.small,p,e,pl,k.mv m hr,hs⟩
theorem RAt.grow (a:RAt d h rb bl bs r) {h':Hp} (hl:h<=h'):RAt d h' rb bl bs r:=a.mv (Mv.of_le [] hl) (by simp) (by simp)
theorem zru1 {P:Program} {at_ e pl:Int} (k:Blk h rb (zco1 bl at_ e pl)) {Q:Bool->Hp->Prop} (hq:Q (e !=0) h):ziq P (some ⟨rb,0,none⟩) Q h:=by
 unfold ziq
 exact zab (ld_at (sh:=shInt .i64) e (k.ldIs (off:=2) (n:=1) rfl) hq)
theorem RAt.bad {P:Program} (a:RAt d h rb bl bs r) {Q:Bool->Hp->Prop} (hq:∀b,(b=true↔∃e,r=.error e)->Q b h):ziq P (some ⟨rb,0,none⟩) Q h:=by
 obtain ⟨p,e,pl,k,hs⟩:=a.blk
 refine zru1 k (hq _ ?_)
 cases r with
 | ok n=>rw [hs.2.1];simp
 | error x=>obtain ⟨er,q⟩:=x;rw [hs.1];simpa using hs.2.1
theorem zeq1 {at_ e pl e1 p1:Int} (k:Blk h rb (zco1 bl at_ e pl)) {Q:Hp->Prop}
  (hk:∀h',Mv [rb] h [rb] h'->Blk h' rb (zco1 bl at_ (if e1≠0/\e=0 then e1 else e) (if e1≠0/\e=0 then p1 else pl))->Q h'):zlr Tryz.prog (some ⟨rb,0,none⟩) e1 p1 Q h:=by
 unfold zlr
 refine effI (fun b=>b=(e !=0)) false (fun _ hq=>zao (zru1 k (hq _ rfl))) fun b hb=>letW ?_
 by_cases h1:e1≠0
 ·have hb:b=(e !=0):=hb (by simpa using h1)
  subst hb
  by_cases h2:e=0
  ·rw [if_pos (by simp [h1,h2])]
   rw [if_pos ⟨h1,h2⟩,if_pos ⟨h1,h2⟩] at hk
   refine zab (zmt (b:=rb) (off:=2) k (by simp [zco1]) fun h2' m2 k2=>zab (zmt (b:=rb) (off:=3) k2 (by simp [zco1]) fun h3 m3 k3=>hk h3 (m2.trans m3) (by simpa [zco1] using k3)))
  ·rw [if_neg (by simp [h2])]
   rw [if_neg (fun hh=>h2 hh.2),if_neg (fun hh=>h2 hh.2)] at hk
   exact hk h (Mv.refl _ _) k
 ·rw [if_neg (by simp at h1;simp [h1])]
  rw [if_neg (fun hh=>h1 hh.1),if_neg (fun hh=>h1 hh.1)] at hk
  exact hk h (Mv.refl _ _) k
theorem zgr1 {k:Nat} {f:FnV} {Q:Int->Hp->Prop} (a:RAt d h rb bl bs r) (hk1:1<=k) (hk8:k<=8) (W:Nat->Int)
  (hw:∀n:Nat,n<256^k->∀K:Int->Hp->Prop,(∀h',h<=h'->K (W n) h')->CallV Tryz.prog tb (.func (.func f.g) f.first f.captured) [.int .u64 (n:Int)] (shInt .i64) K h)
  (hq:∀(v:Nat) r1 h',v<256^k->Mv [rb] h [rb] h'->RAt d h' rb bl bs r1->Cn bs r (D.must (D.num k) W) r1 v->Q (v:Int) h'):zjn Tryz.prog (some ⟨rb,0,none⟩) (k:Int) f Q h:=by
 unfold zjn
 obtain ⟨p,e,pl,kb,hs⟩:=a.blk
 have hlen:bl.len=bs.length:=a.src.1
 have hsm:=a.small
 have hpow:0<256^k:=Nat.pow_pos (by omega)
 refine zao (zru1 kb ?_)
 cases r with
 | error x=>
  obtain ⟨er,q⟩:=x
  rw [if_pos (by rw [hs.1];simpa using hs.2.1)]
  exact hq 0 _ h hpow (Mv.refl _ _) a Cn.stay
 | ok n=>
  obtain ⟨rfl,rfl,hn⟩:=hs
  have hn:n<=bs.length:=by omega
  rw [if_neg (by simp)]
  refine zab (ld_at (sh:=shSl) bl (kb.ldIs (off:=0) (n:=1) rfl) (zab (ld_at (sh:=shInt .i64) (n:Int) (kb.ldIs (off:=1) (n:=1) rfl) ?_)))
  rw [wrap64 (by omega) (by omega)]
  by_cases hsh:bs.length<n+k
  ·rw [if_pos (decide_eq_true (by omega))]
   refine zab (ld_at (sh:=shSl) bl (kb.ldIs (off:=0) (n:=1) rfl) (zbn (zeq1 kb fun h' m k'=> ?_)))
   rw [if_pos ⟨by decide,rfl⟩,if_pos ⟨by decide,rfl⟩] at k'
   refine hq 0 (.error (5,bs.length)) h' hpow m ⟨(m.le a.le fun c hc=>by rw [List.mem_singleton.1 hc];exact a.out).1,a.out,a.src,a.cap,a.small,_,_,_,k',rfl,by decide,by rw [hlen]⟩ (Cn.err ?_)
   unfold D.must D.num
   rw [if_pos hsh]
  ·rw [if_neg (fun e=>hsh (by have:=of_decide_eq_true e;omega))]
   refine zab (ld_at (sh:=shSl) bl (kb.ldIs (off:=0) (n:=1) rfl) (zab (ld_at (sh:=shInt .i64) (n:Int) (kb.ldIs (off:=1) (n:=1) rfl) (zab (ld_at (sh:=shInt .i64) (n:Int) (kb.ldIs (off:=1) (n:=1) rfl) ?_)))))
   have hcap:=a.cap
   rw [wrap64 (by omega) (by omega)]
   have hnk:(n:Int)<=(n:Int)+(k:Int):=by omega
   refine ⟨⟨by omega,hnk,by omega⟩,letW ?_⟩
   have e1:((n:Int)+(k:Int)).toNat=n+k:=by omega
   have e2:((n:Int)).toNat=n:=rfl
   rw [e1,e2]
   have hcut:=(Rw.mono a.le a.src).cut (a:=n) (b:=n+k) (c:=bl.cap) (n:=n+k-n) (m:=bl.cap-n) zda2 (by omega) (by omega) (by omega) rfl
   have e3:n+k-n=k:=by omega
   rw [e3] at hcut ⊢
   have hdl:((bs.drop n).take k).length=k:=by rw [List.length_take,List.length_drop];omega
   have hv:=zsp1 ((bs.drop n).take k)
   rw [hdl] at hv
   refine zon2 hcut (by omega) ?_
   refine zab (ld_at (sh:=shInt .i64) (n:Int) (kb.ldIs (off:=1) (n:=1) rfl) (hw _ hv _ fun h3 hle3=> ?_))
   have kb3:=kb.le hle3
   refine ⟨⟨kb3.ldIs (off:=1) (n:=1) rfl,trivial⟩,zbn (zeq1 kb3 fun h4 m4 kb4=> ?_)⟩
   refine zab (ld_at (sh:=shInt .i64) (n:Int) (kb4.ldIs (off:=1) (n:=1) rfl) (zab (zmt (b:=rb) (off:=1) kb4 (by simp [zco1]) fun h5 m5 kb5=> ?_)))
   have m:Mv [rb] h [rb] h5:=(Mv.of_le [rb] hle3).trans (m4.trans m5)
   have hd5:=(m.le a.le fun c hc=>by rw [List.mem_singleton.1 hc];exact a.out).1
   rw [wrap64 (by omega) (by omega)] at kb5
   simp only [zco1,List.take,List.drop,List.length_cons,List.length_nil,List.cons_append,List.nil_append] at kb5
   by_cases hW:W (valB ((bs.drop n).take k))=0
   ·simp only [ne_eq,hW,not_true_eq_false,false_and,if_false] at kb5
    refine hq _ (.ok (n+k)) h5 hv m ⟨hd5,a.out,a.src,a.cap,a.small,_,_,_,kb5,by push_cast;rfl,rfl,by omega⟩ (Cn.ok ?_)
    unfold D.must D.num
    rw [if_neg hsh]
    dsimp only
    rw [if_pos hW]
   ·simp only [ne_eq,hW,not_false_eq_true,and_self,if_true] at kb5
    refine hq _ (.error (W (valB ((bs.drop n).take k)),n)) h5 hv m ⟨hd5,a.out,a.src,a.cap,a.small,_,_,_,kb5,rfl,hW,rfl⟩ (Cn.err ?_)
    unfold D.must D.num
    rw [if_neg hsh]
    dsimp only
    rw [if_neg hW]
end
theorem zpo2 (k:Nat) (W:Int->Int):D.must (zD k) W=D.map toZ (D.must (D.num k) fun n=>W (toZ n)):=by
 funext b a
 cases hx:D.num k b a with
 | error e=>simp [D.must,zD,D.map,D.bind,hx]
 | ok x=>
  obtain ⟨n,a2⟩:=x
  by_cases h:W (toZ n)=0<;>simp [D.must,zD,D.map,D.bind,hx,h,D.ret]
section
variable {d h:Hp} {rb:Nat} {bl:Sl} {bs:List UInt8} {r:RS}
theorem zea2 {k:Nat} {f:FnV} {Q:Int->Hp->Prop} (a:RAt d h rb bl bs r) (hk1:1<=k) (hk8:k<=4) (W:Int->Int)
  (hw:∀n:Nat,n<256^k->∀h1,h<=h1->∀K:Int->Hp->Prop,(∀h',h1<=h'->K (W (n:Int)) h')->CallV Tryz.prog tb (.func (.func f.g) f.first f.captured) [.int .i64 (n:Int)] (shInt .i64) K h1)
  (hq:∀(v:Nat) r1 h',v<256^k->Mv [rb] h [rb] h'->RAt d h' rb bl bs r1->Cn bs r (D.must (zD k) W) r1 (v:Int)->Q (v:Int) h'):zna Tryz.prog (some ⟨rb,0,none⟩) (k:Int) f Q h:=by
 unfold zna
 have hpow:256^k<=4294967296:=Nat.pow_le_pow_right (by omega:256>0) hk8
 refine newB2 fun b h1 hn hle1 hB=> ?_
 refine zdo (wrong:=⟨zkh, #[], #[.pointer (some ⟨b,0,none⟩)]⟩) (zgr1 (a.grow hle1) hk1 (by omega) (fun n=>W (toZ n)) (fun n hn2 K hK=> ?_) fun v r1 h2 hv m a2 hc=> ?_)
 ·refine zhq (g:=zkh) rfl (zyl ?_)
  unfold zpz
  refine ld_at (sh:=shFn) f (hB.ldIs (off:=0) (n:=1) rfl) ?_
  rw [wrap64 (by omega) (by omega)]
  exact hw n hn2 h1 hle1 _ hK
 ·rw [wrap64 (by omega) (by omega)]
  refine hq v r1 h2 hv ((Mv.of_le [rb] hle1).trans m) a2 ?_
  rw [zpo2]
  exact hc.map
theorem zjk1 {most:Int} {Q:Int->Hp->Prop} (a:RAt d h rb bl bs r)
  (hq:∀(v:Nat) r1 h',v<256->Mv [rb] h [rb] h'->RAt d h' rb bl bs r1->Cn bs r (D.must (zD 1) (cntE most)) r1 (v:Int)->Q (v:Int) h'):zic Tryz.prog (some ⟨rb,0,none⟩) most Q h:=by
 unfold zic
 refine newB2 fun b h1 hn hle1 hB=> ?_
 refine zeu (wrong:=⟨zfn, #[], #[.pointer (some ⟨b,0,none⟩)]⟩) (zea2 (k:=1) (a.grow hle1) (by omega) (by omega) (cntE most) (fun n hn2 h2 hle2 K hK=> ?_) fun v r1 h2 hv m a2 hc=> ?_)
 ·refine zhq (g:=zfn) rfl (zqy ?_)
  unfold zlv
  exact ld_at (sh:=shInt .i64) most (zbl hle2 (hB.ldIs (off:=0) (n:=1) rfl)) (zso (zak2 (hK h2 (Hp.le_refl _))))
 ·exact hq v r1 h2 hv ((Mv.of_le [rb] hle1).trans m) a2 hc
theorem zlb2 {part:Int} {k:Nat} {Q:Int->Hp->Prop} (a:RAt d h rb bl bs r) (hk1:1<=k) (hk2:k<=2)
  (hq:∀(v:Nat) r1 h',v<256^k->Mv [rb] h [rb] h'->RAt d h' rb bl bs r1->Cn bs r (D.must (zD k) (zec part)) r1 (v:Int)->Q (v:Int) h'):zjk Tryz.prog (some ⟨rb,0,none⟩) part (k:Int) Q h:=by
 unfold zjk
 refine newB2 fun b h1 hn hle1 hB=> ?_
 refine zeu (wrong:=⟨zgy, #[], #[.pointer (some ⟨b,0,none⟩)]⟩) (zea2 (k:=k) (a.grow hle1) hk1 (by omega) (zec part) (fun n hn2 h2 hle2 K hK=> ?_) fun v r1 h2 hv m a2 hc=> ?_)
 ·refine zhq (g:=zgy) rfl (zsn ?_)
  unfold zmm
  exact ld_at (sh:=shInt .i64) part (zbl hle2 (hB.ldIs (off:=0) (n:=1) rfl)) (zxb (zwy1 (hK h2 (Hp.le_refl _))))
 ·exact hq v r1 h2 hv ((Mv.of_le [rb] hle1).trans m) a2 hc
def cfgL (x:S_api_Config):List Value:=zac (sh_api_Config.enc x)
theorem zkb1 {cb:Nat} {x:S_api_Config} {Q:Int->Hp->Prop} (a:RAt d h rb bl bs r) (kc:Blk h cb (cfgL x)) (hsm:x.Labels.len<=1099511627776)
  (hq:∀(v:Nat) r1 h',v<256->Mv [rb] h [rb] h'->RAt d h' rb bl bs r1->Cn bs r (D.must (zD 1) (rngE 0 ((x.Labels.len:Int)-1))) r1 (v:Int)->Q (v:Int) h'):zfy Tryz.prog (some ⟨rb,0,none⟩) (some ⟨cb,0,none⟩) Q h:=by
 unfold zfy
 refine newB2 fun b h1 hn hle1 hB=> ?_
 refine zeu (wrong:=⟨zek, #[], #[.pointer (some ⟨b,0,none⟩)]⟩) (zea2 (k:=1) (a.grow hle1) (by omega) (by omega) (rngE 0 ((x.Labels.len:Int)-1)) (fun n hn2 h2 hle2 K hK=> ?_) fun v r1 h2 hv m a2 hc=> ?_)
 ·refine zhq (g:=zek) rfl (zpe ?_)
  unfold zjv
  refine ld_at (sh:=shPtr) (some ⟨cb,0,none⟩) (zbl hle2 (hB.ldIs (off:=0) (n:=1) rfl)) (zab (ld_at (sh:=shSl) x.Labels (((kc.le hle1).le hle2).ldIs (off:=0) (n:=1) rfl) ?_))
  have hK:=hK h2 (Hp.le_refl _)
  unfold rngE at hK
  by_cases hlt:(n:Int)<(x.Labels.len:Int)
  ·rw [if_neg (by simp;omega)]
   rw [if_pos (by rw [within_true];omega)] at hK
   exact hK
  ·rw [if_pos (by simp;omega)]
   rw [if_neg (by rw [within_true];omega)] at hK
   exact hK
 ·exact hq v r1 h2 hv ((Mv.of_le [rb] hle1).trans m) a2 hc
end
structure CB (d h0:Hp) (rb cb:Nat) (bl:Sl) (bs:List UInt8) (k:Hp) (r:RS) (x:S_api_Config) (c:PCfg) (B:List Nat):Prop where
 base:d<=h0
 kr:h0 rb≠none
 kc:h0 cb≠none
 ne:rb≠cb
 dc:d cb=none
 keep:∀b o,h0 b=some o->b≠rb->b≠cb->k b=some o
 rd:RAt d k rb bl bs r
 blk:Blk k cb (cfgL x)
 own:CfgO x c k B
 nd:B.Nodup
 fresh:∀b∈B,h0 b=none
section
variable {d h0 k:Hp} {rb cb:Nat} {bl:Sl} {bs:List UInt8} {r:RS} {x:S_api_Config} {c:PCfg} {B:List Nat}
theorem CB.nr (s:CB d h0 rb cb bl bs k r x c B):rb∉B:=fun h=>s.kr (s.fresh rb h)
theorem CB.nc (s:CB d h0 rb cb bl bs k r x c B):cb∉B:=fun h=>s.kc (s.fresh cb h)
theorem CB.step (s:CB d h0 rb cb bl bs k r x c B) {k':Hp} {r1:RS} (m:Mv [rb] k [rb] k') (a:RAt d k' rb bl bs r1):CB d h0 rb cb bl bs k' r1 x c B where
 base:=s.base
 kr:=s.kr
 kc:=s.kc
 ne:=s.ne
 dc:=s.dc
 keep:=fun b o e h1 h2=>m.keep b o (s.keep b o e h1 h2) fun hb=>h1 (List.mem_singleton.1 hb)
 rd:=a
 blk:=s.blk.mv m fun hb=>s.ne (List.mem_singleton.1 hb).symm
 own:=okCfg.same s.own (zgz1 m (okCfg.known s.own) fun b hb e=>s.nr (by rw [<-List.mem_singleton.1 e];exact hb))
 nd:=s.nd
 fresh:=s.fresh
theorem CB.grow (s:CB d h0 rb cb bl bs k r x c B) {k':Hp} (hl:k<=k'):CB d h0 rb cb bl bs k' r x c B:=s.step (Mv.of_le [rb] hl) (s.rd.grow hl)
theorem CB.rebase (s:CB d h0 rb cb bl bs k r x c B):CB d (cutH k B) rb cb bl bs k r x c B where
 base:=zsl2 s.rd.le fun b hb=>by
  cases e:d b with
  | none=>rfl
  | some o=>
   have:=s.base b o e
   rw [s.fresh b hb] at this
   cases this
 kr:=fun e=>by
  rw [zoa1 s.nr] at e
  obtain ⟨p,q,t,kb,_⟩:=s.rd.blk
  exact kb.known e
 kc:=fun e=>by
  rw [zoa1 s.nc] at e
  exact s.blk.known e
 ne:=s.ne
 dc:=s.dc
 keep:=fun b o e _ _=>zsk2 b o e
 rd:=s.rd
 blk:=s.blk
 own:=s.own
 nd:=s.nd
 fresh:=fun b hb=>zmu2 hb
theorem CB.back (s:CB d h0 rb cb bl bs k r x c B) {k':Hp} {r':RS} {x':S_api_Config} {c':PCfg} {B':List Nat} (t:CB d (cutH k B) rb cb bl bs k' r' x' c' B'):CB d h0 rb cb bl bs k' r' x' c' B' where
 base:=s.base
 kr:=s.kr
 kc:=s.kc
 ne:=s.ne
 dc:=s.dc
 keep:=fun b o e h1 h2=>t.keep b o (by rw [zoa1 fun hb=>by rw [s.fresh b hb] at e;cases e];exact s.keep b o e h1 h2) h1 h2
 rd:=t.rd
 blk:=t.blk
 own:=t.own
 nd:=t.nd
 fresh:=fun b hb=>by
  cases e:h0 b with
  | none=>rfl
  | some o=>
   have h1:b≠rb:=fun h=>t.nr (h▸hb)
   have h2:b≠cb:=fun h=>t.nc (h▸hb)
   have h3:=t.fresh b hb
   have h4:b∉B:=fun hb=>by
    rw [s.fresh b hb] at e
    cases e
   rw [zoa1 h4,s.keep b o e h1 h2] at h3
   cases h3
theorem CB.fin (s:CB d h0 rb cb bl bs k r x c B) {k3:Hp} {x':S_api_Config} {c':PCfg} {B3:List Nat} {off:Nat} {v:Value} (keep3:∀b ob,k b=some ob->b∉B->k3 b=some ob) (own3:CfgO x' c' k3 B3) (nd3:B3.Nodup) (fr3:∀b∈B3,h0 b=none)
  (hoff:off<7) (hx:cfgL x'=(cfgL x).take off++ [v]++(cfgL x).drop (off+1)):
  (∀b o,h0 b=some o->b≠rb->b≠cb->k3 b=some o)/\Blk k3 cb (cfgL x)/\∀Kf:Hp->Prop,(∀k4,CB d h0 rb cb bl bs k4 r x' c' B3->Kf k4)->StW k3 ⟨cb,off,none⟩ [v] Kf:=by
 have hbk:Blk k3 cb (cfgL x):=by
  obtain ⟨t,e⟩:=s.blk
  exact ⟨t,keep3 cb _ e s.nc⟩
 have hkp:∀b o,h0 b=some o->b≠rb->b≠cb->k3 b=some o:=fun b o e h1 h2=>keep3 b o (s.keep b o e h1 h2) fun hb=>by rw [s.fresh b hb] at e;cases e
 refine ⟨hkp,hbk,fun Kf hK=> ?_⟩
 refine zmt hbk (by show off+1<=7;omega) fun k4 m4 hb4=>hK k4 ?_
 have hn3:cb∉B3:=fun h=>s.kc (fr3 cb h)
 have rd3:RAt d k3 rb bl bs r:=by
  obtain ⟨p,q,t,⟨ty,kb⟩,hs⟩:=s.rd.blk
  refine ⟨fun b o e=>keep3 b o (s.rd.le b o e) fun hb=> ?_,s.rd.out,s.rd.src,s.rd.cap,s.rd.small,p,q,t,⟨ty,keep3 rb _ kb s.nr⟩,hs⟩
  have:=s.base b o e
  rw [s.fresh b hb] at this;cases this
 exact {
  base:=s.base
  kr:=s.kr
  kc:=s.kc
  ne:=s.ne
  dc:=s.dc
  keep:=fun b o e h1 h2=>m4.keep b o (hkp b o e h1 h2) fun hb=>h2 (List.mem_singleton.1 hb)
  rd:=rd3.mv m4 (fun hb=>s.ne (List.mem_singleton.1 hb)) fun b hb=>by rw [List.mem_singleton.1 hb];exact s.dc
  blk:=by rw [hx];exact hb4
  own:=okCfg.same own3 (zgz1 m4 (okCfg.known own3) fun b hb e=>hn3 (by rw [<-List.mem_singleton.1 e];exact hb))
  nd:=nd3
  fresh:=fr3}
theorem CB.num (s:CB d h0 rb cb bl bs k r x c B) {x':S_api_Config} {c':PCfg} {off:Nat} {v:Value} (own':CfgO x c k B->CfgO x' c' k B) (hoff:off<7) (hx:cfgL x'=(cfgL x).take off++ [v]++(cfgL x).drop (off+1)) {Kf:Hp->Prop}
  (hK:∀k4,CB d h0 rb cb bl bs k4 r x' c' B->Kf k4):StW k ⟨cb,off,none⟩ [v] Kf:=
 (s.fin (fun _ _ e _=>e) (own' s.own) s.nd s.fresh hoff hx).2.2 Kf hK
end
end Lf
