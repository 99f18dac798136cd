/-
  Part 6 of the texts that the claim leans on.
-/
import Derived.ProofKit
import Derived.SizedLaws
import Derived.OpenShut
import Derived.Laws.IdiomStrings
import Derived.Test.YthlkklcbcdmegaaGreatMgMaStands4
set_option maxRecDepth 100000
namespace Lf
open Go Go.Proofs Tryz
structure CfgLe (c:PCfg):Prop where
 labels:c.labels.length<=140737488355328
 table:c.table.length<=140737488355328
 procs:c.procs.length<=140737488355328
 code:∀p∈c.procs,p.code.length<=140737488355328
structure zij2 (l:PLane):Prop where
 values:l.values.length<=140737488355328
 waiters:l.waiters.length<=140737488355328
structure StLe (s:zaz):Prop where
 parts:s.parts.length<=140737488355328
 procs:s.procs.length<=140737488355328
 log:∀x∈s.parts,x.log.length<=140737488355328/\x.owners.length<=140737488355328/\x.queues.length<=140737488355328/\∀q∈x.queues,q.length<=140737488355328
 lanes:∀x∈s.procs,x.lanes.length<=140737488355328/\∀l∈x.lanes,zij2 l
section
variable {h:Hp} {Q:Bool->Hp->Prop}
theorem zyj1 {a b:S_api_Lane} {l:PLane} (ra:LaneAt h a l) (rb:LaneAt h b l) (hn:zij2 l) (hq:Q true h):zes prog a b Q h:=by
 unfold zes
 obtain ⟨ws,hws,hwm⟩:=ra.waiters
 obtain ⟨us,hus,hum⟩:=rb.waiters
 have:ws=us:=zbj2 zvh1 (hwm.trans hum.symm)
 subst this
 have e1:a.Values.len=l.values.length:=ra.values.1
 have e2:b.Values.len=l.values.length:=rb.values.1
 have e3:a.Waiters.len=ws.length:=hws.1
 have e4:b.Waiters.len=ws.length:=hus.1
 have h1:=hn.values
 have h2:=hn.waiters
 rw [<-hwm,List.length_map] at h2
 refine letW (letW (letW ?_))
 rw [if_neg (by rw [e1,e2,e3,e4,ra.taken,rb.taken,ra.dropped,rb.dropped];simp)]
 refine forI (n:=l.values.length) (by omega) (by omega) (fun _ h'=>h'=h) rfl ?_ ?_
 ·rintro i hi k rfl K hK
  refine Rs.get (sh:=shInt .i64) ra.values (fun _=>rfl) (by omega) (i:=(i:Int)) (by omega) (by omega) fun (x:Int) hx=> ?_
  refine Rs.get (sh:=shInt .i64) rb.values (fun _=>rfl) (by omega) (i:=(i:Int)) (by omega) (by omega) fun (y:Int) hy=> ?_
  grind
 ·rintro k rfl
  refine forI (n:=ws.length) (by omega) (by omega) (fun _ h'=>h'=k) rfl ?_ ?_
  ·rintro i hi k2 rfl K hK
   refine Rs.get (sh:=sh_api_Waiter) hws (fun _=>rfl) (by omega) (by omega) (by omega) fun x hx=> ?_
   refine Rs.get (sh:=sh_api_Waiter) hus (fun _=>rfl) (by omega) (by omega) (by omega) fun y hy=> ?_
   rw [hx] at hy;cases hy
   refine ⟨false,zff1 [(⟨ "Proc",3,0,false, "", "",0⟩,.i64,x.Proc),(⟨ "Value",2,1,false, "", "",8⟩,.i64,x.Value_)]
    (tb_ok.und 149 ty149 rfl) (by kernel_rfl) (by kernel_rfl) (fun q hq=> ?_),?_⟩
   ·simp only [List.mem_cons,List.not_mem_nil,or_false] at hq
    rcases hq with rfl | rfl
    ·exact ⟨by simp,tb_ok.und 3 ty3 rfl,rfl⟩
    ·exact ⟨by simp,tb_ok.und 2 ty2 rfl,rfl⟩
   ·dsimp only
    rw [if_neg (by simp)]
    exact hK k2 rfl
  grind
theorem zbk2 {α β:Type} {R S:α->β->Prop} {xs ys:List α} {zs:List β} {i:Nat} {x y:α} (ha:All2 R xs zs) (hb:All2 S ys zs) (hx:xs[i]?=some x) (hy:ys[i]?=some y):∃z,zs[i]?=some z/\R x z/\S y z:=by
 obtain ⟨p,hp1,hp2⟩:=ha.get hx
 obtain ⟨q,hq1,hq2⟩:=hb.get hy
 grind
theorem znj1 {a b:S_api_Process} {p:PProcess} (ra:ProcessAt h a p) (rb:ProcessAt h b p) (hn:p.lanes.length<=140737488355328/\∀l∈p.lanes,zij2 l) (hq:Q true h):zdo prog a b Q h:=by
 unfold zdo
 obtain ⟨ls,hls,halll⟩:=ra.lanes
 obtain ⟨ms,hms,hallm⟩:=rb.lanes
 have e1:=halll.len
 have e2:=hallm.len
 have e3:a.Lanes.len=ls.length:=hls.1
 have e4:b.Lanes.len=ms.length:=hms.1
 have hr: [a.Regs_0,a.Regs_1,a.Regs_2,a.Regs_3,a.Regs_4,a.Regs_5,a.Regs_6,a.Regs_7]=[b.Regs_0,b.Regs_1,b.Regs_2,b.Regs_3,b.Regs_4,b.Regs_5,b.Regs_6,b.Regs_7]:=ra.regs.trans rb.regs.symm
 simp only [List.cons.injEq,and_true] at hr
 obtain ⟨r0,r1,r2,r3,r4,r5,r6,r7⟩:=hr
 refine letW ⟨false,fun _=> ?_,?_⟩
 ·rw [r0,r1,r2,r3,r4,r5,r6,r7]
  refine zvf1 (n:=8) (e:=2) (tb_ok.und 69 ty69 rfl) (by kernel_rfl) (tb_ok.und 2 ty2 rfl) (by kernel_rfl) (by kernel_rfl) fun j hj=> ?_
  match j,hj with
  | 0,_=>exact ⟨_,rfl⟩
  | 1,_=>exact ⟨_,rfl⟩
  | 2,_=>exact ⟨_,rfl⟩
  | 3,_=>exact ⟨_,rfl⟩
  | 4,_=>exact ⟨_,rfl⟩
  | 5,_=>exact ⟨_,rfl⟩
  | 6,_=>exact ⟨_,rfl⟩
  | 7,_=>exact ⟨_,rfl⟩
 refine letW (letW (letW (letW (letW (letW ?_)))))
 rw [if_neg (by rw [ra.state,rb.state,ra.pc,rb.pc,ra.cursor,rb.cursor,ra.timer,rb.timer,ra.fired,rb.fired,ra.wake,rb.wake,e3,e4,e1,e2];simp)]
 refine forI (n:=p.lanes.length) (by omega) (by omega) (fun _ h'=>h'=h) rfl ?_ ?_
 ·rintro i hi k rfl K hK
  refine Rs.get (sh:=sh_api_Lane) hls (fun _=>rfl) (by omega) (i:=(i:Int)) (by omega) (by omega) fun x hx=> ?_
  refine Rs.get (sh:=sh_api_Lane) hms (fun _=>rfl) (by omega) (i:=(i:Int)) (by omega) (by omega) fun y hy=> ?_
  obtain ⟨z,h1,h2,h3⟩:=zbk2 halll hallm hx hy
  refine zpk (zyj1 h2 h3 (hn.2 z (List.mem_of_getElem? h1)) ?_)
  rw [if_neg (by simp)]
  exact hK k rfl
 grind
theorem zyk1 {a b:S_api_Part} {p:PPart} (ra:PartAt h a p) (rb:PartAt h b p) (hn:p.log.length<=140737488355328/\p.owners.length<=140737488355328/\p.queues.length<=140737488355328/\∀q∈p.queues,q.length<=140737488355328) (hq:Q true h):zep prog a b Q h:=by
 unfold zep
 obtain ⟨es,hes,hem⟩:=ra.log
 obtain ⟨fs,hfs,hfm⟩:=rb.log
 have:es=fs:=zbj2 zmq1 (hem.trans hfm.symm)
 subst this
 obtain ⟨qs,hqs,hallq⟩:=ra.queues
 obtain ⟨us,hus,hallu⟩:=rb.queues
 have e1:=hallq.len
 have e2:=hallu.len
 have e3:a.Queues.len=qs.length:=hqs.1
 have e4:b.Queues.len=us.length:=hus.1
 have e5:a.Log.len=es.length:=hes.1
 have e6:b.Log.len=es.length:=hfs.1
 obtain ⟨n1,n2,n3,n4⟩:=hn
 rw [<-hem,List.length_map] at n1
 refine letW (letW (letW (letW ?_)))
 rw [if_neg (by rw [ra.cursor,rb.cursor,ra.lost,rb.lost,ra.forbidden,rb.forbidden,e3,e4,e5,e6,e1,e2];simp)]
 refine forI (n:=es.length) (by omega) (by omega) (fun _ h'=>h'=h) rfl ?_ ?_
 ·rintro i hi k rfl K hK
  refine Rs.get (sh:=sh_api_Entry) hes (fun _=>rfl) (by omega) (by omega) (by omega) fun x hx=> ?_
  refine Rs.get (sh:=sh_api_Entry) hfs (fun _=>rfl) (by omega) (by omega) (by omega) fun y hy=> ?_
  rw [hx] at hy;cases hy
  refine ⟨false,zff1 [(⟨ "Tick",2,0,false, "", "",0⟩,.i64,x.Tick),(⟨ "Proc",3,1,false, "", "",8⟩,.i64,x.Proc),(⟨ "Value",2,2,false, "", "",16⟩,.i64,x.Value_)]
   (tb_ok.und 68 ty68 rfl) (by kernel_rfl) (by kernel_rfl) (fun q hq=> ?_),?_⟩
  ·simp only [List.mem_cons,List.not_mem_nil,or_false] at hq
   rcases hq with rfl | rfl | rfl
   ·exact ⟨by simp,tb_ok.und 2 ty2 rfl,rfl⟩
   ·exact ⟨by simp,tb_ok.und 3 ty3 rfl,rfl⟩
   ·exact ⟨by simp,tb_ok.und 2 ty2 rfl,rfl⟩
  ·dsimp only
   rw [if_neg (by simp)]
   exact hK k rfl
 ·rintro k rfl
  refine forI (n:=p.queues.length) (by omega) (by omega) (fun _ h'=>h'=k) rfl ?_ ?_
  ·rintro i hi k2 rfl K hK
   refine Rs.get (sh:=shSl) hqs (fun _=>rfl) (by omega) (i:=(i:Int)) (by omega) (by omega) fun x hx=> ?_
   refine Rs.get (sh:=shSl) hus (fun _=>rfl) (by omega) (i:=(i:Int)) (by omega) (by omega) fun y hy=> ?_
   obtain ⟨z,h1,h2,h3⟩:=zbk2 hallq hallu hx hy
   refine zkp (zvg1 h2 h3 (n4 z (List.mem_of_getElem? h1)) ?_)
   rw [if_neg (by simp)]
   exact hK k2 rfl
  ·rintro k2 rfl
   exact zkp (zvg1 ra.owners rb.owners n2 hq)
theorem zik2 {a b:S_api_State} {s:zaz} (ra:StateAt h a s) (rb:StateAt h b s) (hn:StLe s) (hq:Q true h):zhz prog a b Q h:=by
 unfold zhz
 obtain ⟨ps,hps,hallp⟩:=ra.parts
 obtain ⟨us,hus,hallu⟩:=rb.parts
 obtain ⟨qs,hqs,hallq⟩:=ra.procs
 obtain ⟨vs,hvs,hallv⟩:=rb.procs
 have e1:=hallp.len
 have e2:=hallu.len
 have e3:=hallq.len
 have e4:=hallv.len
 have e5:a.Parts.len=ps.length:=hps.1
 have e6:b.Parts.len=us.length:=hus.1
 have e7:a.Procs.len=qs.length:=hqs.1
 have e8:b.Procs.len=vs.length:=hvs.1
 have n1:=hn.parts
 have n2:=hn.procs
 refine letW (letW ?_)
 rw [if_neg (by rw [ra.tick,rb.tick,e5,e6,e7,e8,e1,e2,e3,e4];simp)]
 refine forI (n:=s.parts.length) (by omega) (by omega) (fun _ h'=>h'=h) rfl ?_ ?_
 ·rintro i hi k rfl K hK
  refine Rs.get (sh:=sh_api_Part) hps (fun _=>rfl) (by omega) (i:=(i:Int)) (by omega) (by omega) fun x hx=> ?_
  refine Rs.get (sh:=sh_api_Part) hus (fun _=>rfl) (by omega) (i:=(i:Int)) (by omega) (by omega) fun y hy=> ?_
  obtain ⟨z,h1,h2,h3⟩:=zbk2 hallp hallu hx hy
  refine zpj (zyk1 h2 h3 (hn.log z (List.mem_of_getElem? h1)) ?_)
  grind
 ·rintro k rfl
  refine forI (n:=s.procs.length) (by omega) (by omega) (fun _ h'=>h'=k) rfl ?_ ?_
  ·rintro i hi k2 rfl K hK
   refine Rs.get (sh:=sh_api_Process) hqs (fun _=>rfl) (by omega) (i:=(i:Int)) (by omega) (by omega) fun x hx=> ?_
   refine Rs.get (sh:=sh_api_Process) hvs (fun _=>rfl) (by omega) (i:=(i:Int)) (by omega) (by omega) fun y hy=> ?_
   obtain ⟨z,h1,h2,h3⟩:=zbk2 hallq hallv hx hy
   refine zne (znj1 h2 h3 (hn.lanes z (List.mem_of_getElem? h1)) ?_)
   rw [if_neg (by simp)]
   exact hK k2 rfl
  grind
end
theorem Blk.rows {α:Type} {h:Hp} {b:Nat} {cs:List Value} {sz:Nat} {enc:α->List Value} (k:Blk h b cs) (xs:List α) {n m:Nat} (hc:cs=xs.flatMap enc) (hn:n=xs.length) (henc:∀x,(enc x).length=sz):Rw h sz enc ⟨some ⟨b,0,none⟩,n,m⟩ xs:=by
 refine ⟨hn,by rw [zap henc],.inr ⟨_,rfl,?_⟩⟩
 refine k.ldIs (off:=0) (n:=cs.length) ?_
 rw [List.drop_zero,List.take_length,hc]
end Lf
namespace Lf
open Go Go.ChangeShapes Go.WideShapes Go.ChangeAt Go.RowKit
def whole (W:World):Hp:=fun b=>W.heap[b]?
theorem zil2 (W:World):Sub (whole W) W:=fun _ _ e=>e
theorem zyl1 (W:World) (a:Addr):hcell (whole W) a=W.cell? a:=rfl
theorem zsa1 {W W':World} {h':Hp} (hle:whole W<=h') (st:Step (whole W) h' W W'):Below W.heap.size W W':=
  ⟨st.os,st.tape,st.output,st.size,fun k hk=>by
    cases e:W.heap[k]? with
    | some o=>exact st.sub _ _ (hle _ _ e)
    | none=>simp at e;omega⟩
theorem zfg1 {H:Type} {enc:TypeId×Value->H} {P:Program} (hl:laidOutB P=true) {W W':World} {sp:Nat->Bool} (hb:Below W.heap.size W W'):∀ {ts:List TypeId} {vs:List Value} {ds:List (DataW H)} {ps:List MemPlace},
    (∀t∈ts,P.readableRec t=true/\t<P.types.size)->DataW.TrodAll enc P W 0 (fun _=>true) true ts vs ds ps->(∀x∈ps,x.block<W.heap.size)->(∀x∈ps,sp x.block=true)->DataW.TrodAll enc P W' 0 sp true ts vs ds ps
  | [],_,_,_,_,h,_,_=>by
    obtain ⟨rfl,rfl,rfl⟩:=trodAll_nil h
    exact trodAll_mk0
  | t::ts,_,_,_,hr,h,hlt,hs=>by
    obtain ⟨v,vs,d,ds,p,q,rfl,rfl,rfl,h1,h2⟩:=trodAll_cons h
    obtain ⟨hr1,hr2⟩:=hr t (List.mem_cons_self ..)
    exact ⟨p,q,WideElems.Trod_stays hl hr1 hr2 h1 (fun x hx=>hb.same (hlt x (List.mem_append_left _ hx))) (fun x hx=>hs x (List.mem_append_left _ hx)),
      zfg1 hl hb (fun t ht=>hr t (List.mem_cons_of_mem _ ht)) h2 (fun x hx=>hlt x (List.mem_append_right _ hx)) (fun x hx=>hs x (List.mem_append_right _ hx)),rfl⟩
theorem zll2 {H:Type} {enc:TypeId×Value->H} {P:Program} {f:Func} {s:ChangeSpec} {W W':World} {h':Hp} {args:Array Value} {ds gs:List (DataW H)} {before:List MemPlace} {t:TypeId} (hl:laidOutB P=true)
    (hrd:∀t∈f.params.toList,P.readableRec t=true/\t<P.types.size) (hvars:s.vars=[]) (hres:f.resultTypes= #[t]) (ht:P.underlying t=some .bool)
    (hfn:gs=[]->s.fn H (ds++gs)={results:=[.lit (.bool true)],args:=ds}) (hW:DataW.Whole enc P f.params.toList s.vars false W args.toList ds gs before) (hle:whole W<=h') (st:Step (whole W) h' W W'):
    s.post enc P f false true false false W args (.bool true) W':=by
  have hb:=zsa1 hle st
  have hlt:∀p∈before,p.block<W.heap.size:=fun p hp=>hW.lt p hp
  have hW':=hW
  obtain ⟨p,q,hA,hV,rfl,hfz,hnd⟩:=hW'
  rw [hvars] at hV
  obtain ⟨rfl,rfl⟩:=trodVars_none hV
  rw [List.append_nil] at hlt
  have hsp:=hfn rfl
  refine ⟨ds,[],p++ [],[],p,[],hW,?_,?_,?_,Below.frame hb _,fun e=>(by cases e)⟩
  · rw [hsp,hres]
    exact trodAll_mk1 (shut_bool ht true)
  · rw [hsp]
    exact zfg1 hl hb hrd hA hlt (fun x hx=>by grind)
  · rw [hsp,hvars]
    exact rfl
theorem law_liftedS {H:Type} {enc:TypeId×Value->H} {C:Checked} {os:Os} {f:FuncId} {fn:Func} {s:ChangeSpec} {t:TypeId} (own:ownKnob C.prog.godebug=none) (started:os.Started) (noInit:C.prog.inits.idxOf? f=none) (hf:C.prog.funcs[f]?=some fn)
    (witness:∃(w:World) (tape:Tape) (i:Input),w.os=os/\(w.forCall tape i).Shaped C.prog/\i.vars=[]/\Input.okWide C.prog (w.forCall tape i) .any w.heap.size f i/\
      s.pre6 enc C.prog fn [] false (w.forCall tape i).memory i.args/\({}:Assume).holds C.prog (lone (Frame.enter C.prog f i.args .normal) [] (w.forCall tape i)))
    (hl:laidOutB C.prog=true) (hrd:∀t∈fn.params.toList,C.prog.readableRec t=true/\t<C.prog.types.size) (hvars:s.vars=[]) (hres:fn.resultTypes= #[t]) (ht:C.prog.underlying t=some .bool)
    (walk:∀(W:World) (base:Nat) (args:Array Value) (ds:List (DataW H)) (p:List MemPlace),(∀(j:Nat) t v,fn.params[j]?=some t->args[j]?=some v->Value.okWide C.prog W .any base t v)->DataW.TrodAll enc C.prog W 0 (fun _=>true) true fn.params.toList args.toList ds p->
      (DataW.weightsEach C.prog fn.params.toList ds).all (· <=reachBytes)=true->
      s.fn H ds={results:=[.lit (.bool true)],args:=ds}/\CallT C.prog f args.toList zad (fun r h'=>r=true/\whole W<=h') (whole W)):
    ReturnsInHanded {} C os f .any (s.pre6 enc C.prog fn [] false) (s.post enc C.prog fn false true false false):=by
  refine returnsInHanded_of_change_sized own started noInit hf witness ?_
  intro W base args ds gs before hval hW hcnd hsz _
  have hW':=hW
  obtain ⟨p,q,hA,hV,_,hfz,hnd⟩:=hW'
  have hgs:gs=[]:=by
    rw [hvars] at hV
    exact (trodVars_none hV).1
  subst hgs
  have hvt:s.plain.varTypes C.prog=[]:=by
    unfold ChangeSpec.plain DataSpec.varTypes
    rw [hvars]
    rfl
  rw [hvt,List.append_nil,List.append_nil] at hsz
  obtain ⟨hsp,hc⟩:=walk W base args ds p hval hA hsz
  have hc':=hc W (zil2 W)
  simp only [Array.toArray_toList] at hc'
  refine hc'.mono fun e W' hh=> ?_
  obtain ⟨v,h',rfl,⟨x,rfl,rfl,hle⟩,hst⟩:=hh
  exact ⟨_,rfl,zll2 hl hrd hvars hres ht (fun e=>by rw [e,List.append_nil];exact hsp) hW hle hst⟩
theorem zpc2 {x:Int} (h:(Lit.int .u64 x).wf=true):0<=x/\x<18446744073709551616:=by
  simp [Lit.wf,IntKind.min,IntKind.max,IntKind.signed,IntKind.bits] at h
  omega
theorem zpd2 {x:Int} (h:(Lit.int .i64 x).wf=true): -9223372036854775808<=x/\x<=9223372036854775807:=by
  simp [Lit.wf,IntKind.min,IntKind.max,IntKind.signed,IntKind.bits] at h
  omega
end Lf
namespace Lf
open Go Go.Proofs Go.ChangeShapes Go.WideShapes Go.ChangeAt Go.RowKit
section
variable {H:Type} {enc:TypeId×Value->H} {P:Program} {W:World}
def Lits (enc:TypeId×Value->H) (P:Program) (W:World) (t:TypeId) (R:List Value->Prop):Prop:=
 ∀fuel cs y,DataW.trod enc P W 0 (fun _=>true) true fuel t cs=some y->(DataW.weights P t y.1).all (· <=reachBytes)=true->R cs
theorem zsb1 {t:TypeId} {k:IntKind} (ht:P.underlying t=some (.int k)):Lits enc P W t fun cs=>∃n,cs=[.int k n]/\(Lit.int k n).wf=true:=fun fuel cs y h _=>by
 obtain ⟨n,h1,_,h2⟩:=DataW.trod_int ht h
 grind
theorem zym1 {l m:List Nat} {p:Nat->Bool} (h:(l++m).all p=true):l.all p=true/\m.all p=true:=by
 grind
theorem wAll {e:TypeId}:∀ {l:List (DataW H)} {d:DataW H},d∈l->(DataW.weightsAll P e l).all (· <=reachBytes)=true->(DataW.weights P e d).all (· <=reachBytes)=true
 | d::r,d',hm,h=>by
  rw [DataW.weightsAll] at h
  obtain ⟨h1,h2⟩:=zym1 h
  rcases List.mem_cons.1 hm with rfl | hm
  ·exact h1
  ·exact wAll hm h2
theorem wEach :∀ {ts:List TypeId} {ds:List (DataW H)} {i:Nat} {t:TypeId} {d:DataW H},ts[i]?=some t->ds[i]?=some d->(DataW.weightsEach P ts ds).all (· <=reachBytes)=true->(DataW.weights P t d).all (· <=reachBytes)=true
 | [],_,i,t,d,h,_,_=>by simp at h
 | _::_,[],i,t,d,_,h,_=>by simp at h
 | t::ts,d::ds,0,t',d',h1,h2,h=>by
  simp at h1 h2
  subst h1 h2
  rw [DataW.weightsEach] at h
  grind
 | t::ts,d::ds,i+1,t',d',h1,h2,h=>by
  rw [DataW.weightsEach] at h
  exact wEach (by simpa using h1) (by simpa using h2) (zym1 h).2
theorem zik {t:TypeId} {fs:Array Field} {fuel:Nat} {cs:List Value} {y:DataW H×List MemPlace} (ht:P.underlying t=some (.struct fs)) (h:DataW.trod enc P W 0 (fun _=>true) true fuel t cs=some y) (hw:(DataW.weights P t y.1).all (· <=reachBytes)=true)
  {i n off:Nat} {f:Field} {R:List Value->Prop} (hf:fs[i]?=some f) (ho:f.offset=off) (hc:P.cellsOf f.type=n) (hR:Lits enc P W f.type R):R ((cs.drop off).take n):=by
 subst ho
 obtain ⟨xs,m,_,rfl,hl,hlen,hfs⟩:=DataW.trod_struct ht h
 have h1:=hfs i f hf
 have hil:i<xs.length:=by rw [hlen];exact (Array.getElem?_eq_some_iff.1 hf).1
 rw [List.getElem?_eq_getElem hil,hc] at h1
 refine hR m _ _ h1 ?_
 dsimp only at hw
 rw [DataW.weights,ht] at hw
 refine wEach (i:=i) (ts:=fs.toList.map (·.type)) ?_ ?_ hw
 ·rw [List.getElem?_map,Array.getElem?_toList,hf];rfl
 grind
theorem zsc1 {t:TypeId} {fs:Array Field} {fuel:Nat} {cs:List Value} {y:DataW H×List MemPlace} (ht:P.underlying t=some (.struct fs)) (h:DataW.trod enc P W 0 (fun _=>true) true fuel t cs=some y):cs.length=P.cellsOf t:=by
 obtain ⟨xs,m,_,rfl,hl,hlen,hfs⟩:=DataW.trod_struct ht h
 exact hl
theorem zen {cs a:List Value} {off n m:Nat} (h:(cs.drop off).take n=a) (hm:off+n=m):cs.drop off=a++cs.drop m:=by
 rw [<-hm,<-h,<-List.drop_drop,List.take_append_drop]
structure SlIn {α:Type} (W:World) (sz:Nat) (en:α->List Value) (good:α->Prop) (l:Sl) (xs:List α):Prop where
 rw_:Rw (whole W) sz en l xs
 cap:l.len<=l.cap
 most:l.cap<=9223372036854775807
 few:xs.length<=140737488355328
 all:∀x∈xs,good x
theorem ztp {t e:TypeId} {α:Type} (ht:P.underlying t=some (.slice e)) (en:α->List Value) (good:α->Prop) {sz:Nat} (hsz:P.cellsOf e=sz) (hb:0<P.bytesOf e) (he:Lits enc P W e fun cs=>∃x,cs=en x/\good x) (henc:∀x,(en x).length=sz):
  Lits enc P W t fun cs=>∃(l:Sl) (xs:List α),cs=[l.v]/\SlIn W sz en good l xs:=by
 intro fuel cs y h hw
 subst hsz
 rcases DataW.trod_slice ht h with ⟨h0,_⟩ | ⟨a,len0,cap0,elems,rest,n,_,h0,hd0,hb0,hl,hm,hlen,hel',_,_⟩
 ·exact ⟨⟨none,0,0⟩,[],h0,⟨⟨rfl,by simp,.inl (by simp)⟩,Nat.le_refl _,by simp,by simp,fun x hx=>by cases hx⟩⟩
 ·subst hd0
  dsimp only at hw
  rw [DataW.weights,ht] at hw
  dsimp only at hw
  rw [List.all_cons,Bool.and_eq_true,decide_eq_true_eq] at hw
  obtain ⟨hw1,hw2⟩:=hw
  have hw2:=(zym1 hw2).1
  have each:∀i,i<len0->∃x,good x/\LdIs (whole W) (a.add (i*P.cellsOf e)) (en x):=by
   intro i hi
   have h1:=hel' i hi
   have h2:elems[i]?=some elems[i]:=List.getElem?_eq_getElem (by omega)
   rw [h2] at h1
   cases hc:W.cells? 0 (a.add (i*P.cellsOf e)) (P.cellsOf e) with
   | none=>grind
   | some cs=>
    rw [hc] at h1
    obtain ⟨_,hcl,hcc⟩:=World.cells?_some hc
    obtain ⟨x,hx,hg⟩:=he n cs _ h1 (wAll (List.mem_map.2 ⟨elems[i],List.mem_of_getElem? h2,rfl⟩) hw2)
    refine ⟨x,hg,fun j v hj=> ?_⟩
    have hjl:j<(en x).length:=(List.getElem?_eq_some_iff.1 hj).1
    rw [zyl1,hcc j (by grind),hx]
    exact hj
  have build:∀m,m<=len0->∃xs:List α,xs.length=m/\(∀x∈xs,good x)/\∀i x,xs[i]?=some x->LdIs (whole W) (a.add (i*P.cellsOf e)) (en x):=by
   intro m
   induction m with
   | zero=>simp
   | succ m ih=>
    intro hm'
    obtain ⟨xs,h1,h2,h3⟩:=ih (by omega)
    obtain ⟨x,hg,hx⟩:=each m (by omega)
    refine ⟨xs++ [x],by simp [h1],fun y hy=> ?_,fun i y hy=> ?_⟩
    ·rcases List.mem_append.1 hy with hy | hy
     ·exact h2 y hy
     ·rw [List.mem_singleton.1 hy];exact hg
    grind
  obtain ⟨xs,h1,h2,h3⟩:=build len0 (Nat.le_refl _)
  refine ⟨⟨some a,len0,cap0⟩,xs,h0,⟨⟨h1.symm,zap henc xs,.inr ⟨a,rfl,fun i v hv=> ?_⟩⟩,hl,hm,?_,h2⟩⟩
  ·obtain ⟨q,x,j,hq,hj,e1⟩:=zft2 henc xs i v hv
   rw [e1]
   rw [<-zkx]
   exact h3 q x hq j v hj
  ·have h4:reachBytes<=140737488355328:=by decide
   rw [List.length_map,List.length_map] at hw1
   have h5:elems.length+rest.length<=(elems.length+rest.length)*P.bytesOf e:=Nat.le_mul_of_pos_right _ hb
   omega
end
section
variable {H:Type} {enc:TypeId×Value->H} {W:World}
theorem li :Lits enc Tryz.prog W 3 fun cs=>∃n,cs=[.int .i64 n]/\(Lit.int .i64 n).wf=true:=zsb1 (tb_ok.und 3 ty3 rfl)
theorem li64 :Lits enc Tryz.prog W 2 fun cs=>∃n,cs=[.int .i64 n]/\(Lit.int .i64 n).wf=true:=zsb1 (tb_ok.und 2 ty2 rfl)
theorem lu64 :Lits enc Tryz.prog W 82 fun cs=>∃n,cs=[.int .u64 n]/\(Lit.int .u64 n).wf=true:=zsb1 (tb_ok.und 82 ty82 rfl)
theorem zbl2 {x:Int} (h:(Lit.int .i64 x).wf=true):I64 x:=by
 have:=zpd2 h
 unfold I64
 omega
abbrev eI (x:Int):List Value:=zac ((shInt .i64).enc x)
abbrev eU (x:Int):List Value:=zac ((shInt .u64).enc x)
abbrev eIns (x:S_api_Ins):List Value:=zac (sh_api_Ins.enc x)
abbrev eProc (x:S_api_Proc):List Value:=zac (sh_api_Proc.enc x)
theorem c_int :Tryz.prog.cellsOf 3=1:=by kernel_rfl
theorem zim2 :Tryz.prog.cellsOf 2=1:=by kernel_rfl
theorem zlm2 :Tryz.prog.cellsOf 82=1:=by kernel_rfl
theorem c_ins :Tryz.prog.cellsOf 84=5:=by kernel_rfl
theorem zpe2 :Tryz.prog.cellsOf 77=1:=by kernel_rfl
theorem zmd2 :Tryz.prog.cellsOf 79=2:=by kernel_rfl
theorem zoc2 :Tryz.prog.cellsOf 25=1:=by kernel_rfl
theorem c_us :Tryz.prog.cellsOf 23=1:=by kernel_rfl
theorem c_is :Tryz.prog.cellsOf 24=1:=by kernel_rfl
theorem c_cfg :Tryz.prog.cellsOf 27=7:=by kernel_rfl
theorem l_is :Lits enc Tryz.prog W 24 fun cs=>∃(l:Sl) (xs:List Int),cs=[l.v]/\SlIn W 1 eI (fun _=>True) l xs:=
 ztp (tb_ok.und 24 ty24 rfl) eI _ c_int (by rw [show Tryz.prog.bytesOf 3=8 by kernel_rfl];omega) (fun f cs y h hw=>by obtain ⟨n,h1,_⟩:=li f cs y h hw;exact ⟨n,h1,trivial⟩) fun _=>rfl
theorem l_us :Lits enc Tryz.prog W 23 fun cs=>∃(l:Sl) (xs:List Int),cs=[l.v]/\SlIn W 1 eU InU l xs:=
 ztp (tb_ok.und 23 ty23 rfl) eU _ zlm2 (by rw [show Tryz.prog.bytesOf 82=8 by kernel_rfl];omega) (fun f cs y h hw=>by obtain ⟨n,h1,h2⟩:=lu64 f cs y h hw;exact ⟨n,h1,zpc2 h2⟩) fun _=>rfl
theorem l_ins :Lits enc Tryz.prog W 84 fun cs=>∃x,cs=eIns x/\I64 x.Imm:=fun f cs y h hw=>by
 have hu:=tb_ok.und 84 ty84 rfl
 have hl:=zsc1 hu h
 rw [c_ins] at hl
 obtain ⟨a0,h0,_⟩:=zik hu h hw (i:=0) (off:=0) rfl rfl c_int li
 obtain ⟨a1,h1,_⟩:=zik hu h hw (i:=1) (off:=1) rfl rfl c_int li
 obtain ⟨a2,h2,_⟩:=zik hu h hw (i:=2) (off:=2) rfl rfl c_int li
 obtain ⟨a3,h3,_⟩:=zik hu h hw (i:=3) (off:=3) rfl rfl c_int li
 obtain ⟨a4,h4,w4⟩:=zik hu h hw (i:=4) (off:=4) rfl rfl zim2 li64
 refine ⟨⟨a0,a1,a2,a3,a4⟩,?_,zbl2 w4⟩
 have e:cs=cs.drop 0:=rfl
 rw [e,zen (m:=1) h0 rfl,zen (m:=2) h1 rfl,zen (m:=3) h2 rfl,zen (m:=4) h3 rfl,zen (m:=5) h4 rfl,List.drop_of_length_le (Nat.le_of_eq hl)]
 rfl
theorem zpf2 :Lits enc Tryz.prog W 77 fun cs=>∃(l:Sl) (xs:List S_api_Ins),cs=[l.v]/\SlIn W 5 eIns (fun x=>I64 x.Imm) l xs:=
 ztp (tb_ok.und 77 ty77 rfl) eIns _ c_ins (by rw [show Tryz.prog.bytesOf 84=40 by kernel_rfl];omega) l_ins fun _=>rfl
def zjc1 (W:World) (q:S_api_Proc):Prop:=∃is,SlIn W 5 eIns (fun x=>I64 x.Imm) q.Code is
theorem zpg2 :Lits enc Tryz.prog W 79 fun cs=>∃x,cs=eProc x/\zjc1 W x:=fun f cs y h hw=>by
 have hu:=tb_ok.und 79 ty79 rfl
 have hl:=zsc1 hu h
 rw [zmd2] at hl
 obtain ⟨a0,h0,_⟩:=zik hu h hw (i:=0) (off:=0) rfl rfl c_int li
 obtain ⟨l1,xs1,h1,g1⟩:=zik hu h hw (i:=1) (off:=1) rfl rfl zpe2 zpf2
 refine ⟨⟨a0,l1⟩,?_,xs1,g1⟩
 have e:cs=cs.drop 0:=rfl
 rw [e,zen (m:=1) h0 rfl,zen (m:=2) h1 rfl,List.drop_of_length_le (Nat.le_of_eq hl)]
 rfl
theorem zod2 :Lits enc Tryz.prog W 25 fun cs=>∃(l:Sl) (xs:List S_api_Proc),cs=[l.v]/\SlIn W 2 eProc (zjc1 W) l xs:=
 ztp (tb_ok.und 25 ty25 rfl) eProc _ zmd2 (by rw [show Tryz.prog.bytesOf 79=32 by kernel_rfl];omega) zpg2 fun _=>rfl
structure CfgIn (W:World) (x:S_api_Config):Prop where
 labels:∃ls,SlIn W 1 eU InU x.Labels ls
 table:∃ts,SlIn W 1 eI (fun _=>True) x.Table ts
 procs:∃ps,SlIn W 2 eProc (zjc1 W) x.Procs ps
theorem l_cfg :Lits enc Tryz.prog W 27 fun cs=>∃x,cs=cfgL x/\CfgIn W x:=fun f cs y h hw=>by
 have hu:=tb_ok.und 27 ty27 rfl
 have hl:=zsc1 hu h
 rw [c_cfg] at hl
 obtain ⟨l0,x0,h0,g0⟩:=zik hu h hw (i:=0) (off:=0) rfl rfl c_us l_us
 obtain ⟨l1,x1,h1,g1⟩:=zik hu h hw (i:=1) (off:=1) rfl rfl c_is l_is
 obtain ⟨a2,h2,_⟩:=zik hu h hw (i:=2) (off:=2) rfl rfl c_int li
 obtain ⟨a3,h3,_⟩:=zik hu h hw (i:=3) (off:=3) rfl rfl c_int li
 obtain ⟨a4,h4,_⟩:=zik hu h hw (i:=4) (off:=4) rfl rfl c_int li
 obtain ⟨a5,h5,_⟩:=zik hu h hw (i:=5) (off:=5) rfl rfl c_int li
 obtain ⟨l6,x6,h6,g6⟩:=zik hu h hw (i:=6) (off:=6) rfl rfl zoc2 zod2
 refine ⟨⟨l0,l1,a2,a3,a4,a5,l6⟩,?_,⟨x0,g0⟩,⟨x1,g1⟩,x6,g6⟩
 have e:cs=cs.drop 0:=rfl
 rw [e,zen (m:=1) h0 rfl,zen (m:=2) h1 rfl,zen (m:=3) h2 rfl,zen (m:=4) h3 rfl,zen (m:=5) h4 rfl,zen (m:=6) h5 rfl,zen (m:=7) h6 rfl,List.drop_of_length_le (Nat.le_of_eq hl)]
 rfl
end
theorem zin2 {α β:Type} {R:α->β->Prop} {G:β->Prop}:∀ {l:List α},(∀x∈l,∃p,R x p/\G p)->∃m,All2 R l m/\∀p∈m,G p
 | [],_=>⟨[],trivial,fun p hp=>by cases hp⟩
 | a::l,h=>by
  obtain ⟨p,h1,h2⟩:=h a (List.mem_cons_self ..)
  obtain ⟨m,h3,h4⟩:=zin2 (l:=l) fun x hx=>h x (List.mem_cons_of_mem _ hx)
  refine ⟨p::m,⟨h1,h3⟩,fun q hq=> ?_⟩
  grind
section
variable {W:World}
theorem zoe2 {q:S_api_Proc} (k:zjc1 W q):∃p,ProcAt (whole W) q p/\((∀x∈p.code,I64 x.imm)/\p.code.length<=140737488355328):=by
 obtain ⟨is,h⟩:=k
 refine ⟨⟨q.Part,is.map insOf⟩,⟨rfl,is,h.rw_,rfl⟩,fun x hx=> ?_,?_⟩
 ·obtain ⟨y,hy,rfl⟩:=List.mem_map.1 hx
  exact h.all y hy
 ·show (is.map insOf).length<=_
  rw [List.length_map];exact h.few
theorem cfg_of {x:S_api_Config} (k:CfgIn W x):∃c,CfgAt (whole W) x c/\Typed c/\CfgLe c:=by
 obtain ⟨ls,h1⟩:=k.labels
 obtain ⟨ts,h2⟩:=k.table
 obtain ⟨ps,h3⟩:=k.procs
 obtain ⟨m,h4,h5⟩:=zin2 fun q hq=>zoe2 (h3.all q hq)
 have hl:=h4.len
 have hf:=h3.few
 refine ⟨⟨ls,ts,x.Fuel,x.Lane,x.Locks,x.Log,m⟩,⟨h1.rw_,h2.rw_,rfl,rfl,rfl,rfl,ps,h3.rw_,h4⟩,⟨fun a ha=> ?_,fun p hp=>(h5 p hp).1⟩,⟨h1.few,h2.few,by show m.length<=_;omega,fun p hp=>(h5 p hp).2⟩⟩
 have:=h1.all a ha
 omega
end
theorem zph2 {s:zaz} (k:StLe s) (h1:s.parts.length<=8) (h2:∀x∈s.parts,x.queues.length<=8) (h3:s.procs.length<=32) (h4:∀x∈s.procs,x.lanes.length<=9):(evs s).length<=1152921504606846976:=by
 have p1:(s.parts.flatMap evQ).length<=s.parts.length*1125899906842624:=zfe1 _ fun x hx=>by
  have e:(evQ x).length<=x.queues.length*140737488355328:=by
   unfold evQ
   rw [<-List.flatMap_id]
   exact zfe1 _ fun q hq=>(k.log x hx).2.2.2 q hq
  have:=Nat.mul_le_mul_right 140737488355328 (h2 x hx)
  omega
 have p2:(s.procs.flatMap evL).length<=s.procs.length*1266637395197952:=zfe1 _ fun x hx=>by
  have e:(evL x).length<=x.lanes.length*140737488355328:=zfe1 _ fun l hl=>by
   rw [List.length_map]
   exact ((k.lanes x hx).2 l hl).waiters
  have:=Nat.mul_le_mul_right 140737488355328 (h4 x hx)
  omega
 have q1:=Nat.mul_le_mul_right 1125899906842624 h1
 have q2:=Nat.mul_le_mul_right 1266637395197952 h3
 unfold evs
 grind
section
variable {H:Type} {enc:TypeId×Value->H} {W:World}
theorem zpi2 {v:Value} {cs:List Value} (h:v.cells.toList=cs) (hl:cs.length≠1):v=.agg cs.toArray:=by
 cases v with
 | agg a=>rw [<-h];rfl
 | _=>subst h;simp [Value.cells] at hl
theorem arg_cfg {v:Value} {d:DataW H} {ps:List MemPlace} (h:DataW.Trod enc Tryz.prog W 0 (fun _=>true) true 27 v d ps) (hw:(DataW.weights Tryz.prog 27 d).all (· <=reachBytes)=true):
  ∃x:S_api_Config,v=sh_api_Config.enc x/\CfgIn W x:=by
 obtain ⟨fuel,hf⟩:=h
 obtain ⟨x,hx,hg⟩:=l_cfg fuel _ _ hf hw
 exact ⟨x,zpi2 hx (by simp),hg⟩
end
end Lf
namespace Lf
open Go Go.Proofs Tryz
theorem typed_in {c:PCfg} (ht:Typed c):∀l∈c.labels,InU l:=fun l hl=>⟨(ht.1 l hl).1,(ht.1 l hl).2⟩
theorem zpa1 {h:Hp} {x:S_api_Config} {y:S_api_State} {c:PCfg} {s:zaz} {Q:Int->Hp->Prop} (a:CfgAt h x c) (b:StateAt h y s) (hu:∀l∈c.labels,InU l) (hl:StLe s) (hq:∀e h',h<=h'->MayIs c s e->Q e h'):zpd prog x y Q h:=
 zdy2 a b hu (zph2 hl) (fun hc h' hle=>hq _ h' hle (.inl ⟨hc,rfl⟩)) fun hc n h' hle hn=>hq n h' hle (.inr ⟨hc,hn⟩)
theorem int_arg {P:Program} {W:World} {base:Nat} {t:TypeId} {v:Value} {n:Int} (hv:Value.okWide P W .any base t v) (h:v.cells.toList=[.int .i64 n]) (ht:P.underlying t=some (.int .i64)):v=.int .i64 n:=by
 obtain ⟨m,rfl⟩:=Go.WideShapes.okWide_int ht hv
 simpa [Value.cells] using h
section
variable {c:PCfg} {t:zaz} {s:MS}
theorem zbm2 (m:CfgM c):MayP c t↔MayG c t fun i y=>flC c i y.toNat=true:=by
 have key:∀(p:Nat) x y,t.procs[p]?=some x->c.procs[p]?=some y->(ProcG c t (fun (i:Nat) q=>fl c.labels (i:Int) q=true) x y↔ProcG c t (fun i y=>flC c i y.toNat=true) x y):=fun p x y _ hy=>by
  have hp:=(m.part y (List.mem_of_getElem? hy)).1
  have e:∀i:Nat,flC c i y.part.toNat=fl c.labels (i:Int) y.part:=fun i=>by
   unfold flC
   rw [show ((y.part.toNat:Nat):Int)=y.part by omega]
  unfold ProcG
  simp only [e]
 unfold MayP MayG
 constructor
 ·rintro ⟨h1,h2,h3,h4⟩
  exact ⟨h1,h2,fun p x y hx hy=>(key p x y hx hy).1 (h3 p x y hx hy),h4⟩
 ·rintro ⟨h1,h2,h3,h4⟩
  exact ⟨h1,h2,fun p x y hx hy=>(key p x y hx hy).2 (h3 p x y hx hy),h4⟩
theorem zdz2 (h:MayP c t):t.parts.length=nP c/\t.procs.length=nQ c:=⟨h.1.2.1,h.1.2.2⟩
theorem regs8 {h:Hp} {y:S_api_State} (b:StateAt h y t):∀x∈t.procs,x.regs.length=8:=fun x hx=>by
 obtain ⟨ps,_,hall⟩:=b.procs
 obtain ⟨i,hi⟩:=List.mem_iff_getElem?.1 hx
 have:∃z,ps[i]?=some z/\ProcessAt h z x:=by
  have hl:=hall.len
  have hlt:=(List.getElem?_eq_some_iff.1 hi).1
  obtain ⟨z,hz,ha⟩:=hall.get (i:=i) (List.getElem?_eq_getElem (show i<ps.length by omega))
  rw [hi] at hz
  cases hz
  exact ⟨_,List.getElem?_eq_getElem (show i<ps.length by omega),ha⟩
 obtain ⟨z,_,ha⟩:=this
 rw [<-ha.regs]
 rfl
end
section
variable {k:Hp} {x:S_api_Config} {y:S_api_State} {c:PCfg} {t:zaz}
structure Stands (k:Hp) (c:PCfg) (t:zaz) (pm:Addr) (k':Hp):Prop where
 ex:∃K tm h1,K.c=c/\MkOk h1 K/\k<=h1/\Has h1 (MachA K pm (msOf t) tm) k'/\Tied c tm (msOf t)
 good:Good c (flC c) (msOf t) No No t.tick
 parts:t.parts.length=nP c
 procs:t.procs.length=nQ c
theorem zof2 {Q:Option Addr->Int->Hp->Prop} (a:CfgAt k x c) (b:StateAt k y t) (hu:∀l∈c.labels,InU l) (hl:StLe t) (hbad:∀e k',k<=k'->e≠0->MayIs c t e->Q none e k')
  (hok:∀pm k',(cfgE c).1=0->MayP c t->k<=k'->Stands k c t pm k'->Q (some pm) 0 k'):zun prog x y Q k:=by
 unfold zun
 refine zwl (zpa1 a b hu hl fun e k1 l1 hm=> ?_)
 by_cases he:e=0
 ·subst he
  rw [if_neg (by decide)]
  obtain ⟨h0,hM⟩:(cfgE c).1=0/\MayP c t:=by
   rcases hm with ⟨h1,h2⟩ | ⟨h1,h2 | h2⟩
   ·exact absurd h2.symm h1
   ·exact ⟨h1,h2.2⟩
   ·omega
  have mc:=zdk1 h0
  have hs:=zdz2 hM
  have g:=zyc1 mc ((zbm2 mc).1 hM) (regs8 b)
  refine zti (zhz2 (a.mono l1) (b.mono l1) hu h0 (zia2 mc g hs.1 hs.2) fun K pm tm h1 k' e1 mk l2 o td=>hok pm k' h0 hM (Hp.le_trans l1 (Hp.le_trans l2 o.le)) ⟨⟨K,tm,h1,e1,mk,Hp.le_trans l1 l2,o,td⟩,g,hs.1,hs.2⟩)
 ·rw [if_pos (by simpa using he)]
  exact hbad e k1 l1 he hm
theorem zio2 {Q:Option Addr->Int->Hp->Prop} (a:CfgAt k x c) (hu:∀l∈c.labels,InU l) (hbad:∀k',k<=k'->(cfgE c).1≠0->Q none (cfgE c).1 k')
  (hok:∀pm k',(cfgE c).1=0->k<=k'->Stands k c ((zwg c).list c) pm k'->Q (some pm) 0 k'):zum prog x Q k:=by
 unfold zum
 refine zek1 (zor1 a fun k1 l1=> ?_)
 by_cases he:(cfgE c).1=0
 ·rw [he,if_neg (by decide)]
  have mc:=zdk1 he
  refine zel1 (zlj2 (a.mono l1) mc fun r k2 l2 hr=>⟨⟨trivial,trivial⟩,?_⟩)
  have hp:((zwg c).list c).parts.length=nP c:=by show ((List.range (nP c)).map _).length=_;simp
  have hq:((zwg c).list c).procs.length=nQ c:=by show ((List.range (nQ c)).map _).length=_;simp
  have l12:=Hp.le_trans l1 l2
  have g:=zyc1 mc (Good.may mc (Good.first (fl:=flC c) mc) (by show (0:Int)<=_;decide)) (regs8 hr)
  refine zti (zhz2 (a.mono l12) hr hu he (zia2 mc g hp hq) fun K pm tm h1 k' e1 mk l3 o td=>hok pm k' he (Hp.le_trans l12 (Hp.le_trans l3 o.le)) ⟨⟨K,tm,h1,e1,mk,Hp.le_trans l12 l3,o,td⟩,g,hp,hq⟩)
 ·rw [if_pos (by simpa using he)]
  exact hbad k1 l1 he
end
section
variable {c:PCfg} {s:MS} {t:zaz}
theorem zog2 {i:Nat} (hi:i<nP c):(msOf (s.list c)).part i=s.part i:=by
 show ((List.range (nP c)).map s.part).getD i part0=_
 grind
theorem zip2 {i:Nat} (hi:i<nQ c):(msOf (s.list c)).proc i=s.proc i:=by
 show ((List.range (nQ c)).map s.proc).getD i proc0=_
 grind
theorem zea2 :(s.list c).parts.length=nP c:=by show ((List.range (nP c)).map _).length=_;simp
theorem zeb2 :(s.list c).procs.length=nQ c:=by show ((List.range (nQ c)).map _).length=_;simp
theorem zpb1 {K:MK} {pm:Addr} {tm:Nat->Nat->Int} (e:K.c=c):MachA K pm (msOf (s.list c)) tm=MachA K pm s tm:=by
 subst e
 unfold MachA
 have e1:Asn.first (fun i=>PartA K i ((msOf (s.list K.c)).part i) (tm i)) (nP K.c)=Asn.first (fun i=>PartA K i (s.part i) (tm i)) (nP K.c):=zcg fun i hi=>by rw [zog2 hi]
 have e2:Asn.first (fun p=>ProcA K p ((msOf (s.list K.c)).proc p)) (nQ K.c)=Asn.first (fun p=>ProcA K p (s.proc p)) (nQ K.c):=zcg fun i hi=>by rw [zip2 hi]
 rw [e1,e2]
 rfl
theorem zvi1 {tm:Nat->Nat->Int} (td:Tied c tm s):Tied c tm (msOf (s.list c)):=fun i id hi=>by
 rw [td i id hi]
 unfold zhl
 by_cases h:id / 2<nQ c/\pOf c (id / 2)=i
 ·rw [if_pos h,if_pos h,zip2 h.1]
 omega
theorem zoh2 (sa:Sane c (msOf t)) (m:CfgM c) (hp:t.parts.length=nP c) (hq:t.procs.length=nQ c):StLe t:=by
 have h1:=m.parts
 have h2:=m.procs
 refine ⟨by omega,by omega,fun x hx=> ?_,fun x hx=> ?_⟩
 ·obtain ⟨i,hi⟩:=List.mem_iff_getElem?.1 hx
  have hlt:=(List.getElem?_eq_some_iff.1 hi).1
  have e:(msOf t).part i=x:=zhf hi
  have sp:=sa.part i (by omega)
  rw [e] at sp
  have:=sp.logl
  have:=sp.ownl
  have:=sp.few.1
  exact ⟨by omega,by omega,by omega,fun q hq=>by have:=sp.few.2 q hq;omega⟩
 ·obtain ⟨i,hi⟩:=List.mem_iff_getElem?.1 hx
  have hlt:=(List.getElem?_eq_some_iff.1 hi).1
  have e:(msOf t).proc i=x:=zhf hi
  have sp:=sa.proc i (by omega)
  rw [e] at sp
  have:=sp.len
  exact ⟨by omega,fun l hl=>⟨by have:=(sp.lan l hl).values;omega,by have:=(sp.lan l hl).waiters;omega⟩⟩
end
def optA (K2:MK) (n:Option Addr) (t2:zaz) (tm2:Nat->Nat->Int):Asn:=match n with
 | none=>.fact True
 | some p=>MachA K2 p (msOf t2) tm2
structure Pair (h k:Hp) (c:PCfg) (t1 t2:zaz) (pm:Addr) (n:Option Addr):Prop where
 ex:∃K tm K2 tm2,K.c=c/\MkOk h K/\Tied c tm (msOf t1)/\(n≠none->K2.c=c/\MkOk h K2/\Tied c tm2 (msOf t2))/\Has h ((MachA K pm (msOf t1) tm).star (optA K2 n t2 tm2)) k
section
variable {h k:Hp} {c:PCfg} {t1 t2 t:zaz} {pm p2:Addr} {n:Option Addr}
theorem Pair.le (q:Pair h k c t1 t2 pm n):h<=k:=by
 obtain ⟨_,_,_,_,_,_,_,_,o⟩:=q.ex
 exact o.le
theorem Stands.pair (q:Stands k c t pm h):∃h1,k<=h1/\Pair h1 h c t t pm none:=by
 obtain ⟨K,tm,h1,e,mk,l,o,td⟩:=q.ex
 exact ⟨h1,l,⟨K,tm,K,tm,e,mk,td,fun hn=>absurd rfl hn,o.beside (Has.fact trivial (Hp.le_refl _))⟩⟩
theorem Pair.one (q:Pair h k c t1 t2 pm n):∃K tm h1,K.c=c/\MkOk h1 K/\Tied c tm (msOf t1)/\h<=h1/\Has h1 (MachA K pm (msOf t1) tm) k/\∀s' tm' k',Has h1 (MachA K pm s' tm') k'->Tied c tm' s'->Pair h k' c (s'.list c) t2 pm n:=by
 obtain ⟨K,tm,K2,tm2,e,mk,td,h2,o⟩:=q.ex
 obtain ⟨h1,l1,o1,_,put⟩:=o.fst
 refine ⟨K,tm,h1,e,mk.mono l1,td,l1,o1,fun s' tm' k' o' td'=>⟨K,tm',K2,tm2,e,mk,zvi1 td',h2,?_⟩⟩
 rw [zpb1 e]
 exact put _ _ o'
theorem Pair.two (q:Pair h k c t1 t2 pm (some p2)):∃K tm h1,K.c=c/\MkOk h1 K/\Tied c tm (msOf t2)/\h<=h1/\Has h1 (MachA K p2 (msOf t2) tm) k/\∀s' tm' k',Has h1 (MachA K p2 s' tm') k'->Tied c tm' s'->Pair h k' c t1 (s'.list c) pm (some p2):=by
 obtain ⟨K,tm,K2,tm2,e,mk,td,h2,o⟩:=q.ex
 obtain ⟨e2,mk2,td2⟩:=h2 (by simp)
 obtain ⟨h1,l1,o1,_,put⟩:=o.snd
 refine ⟨K2,tm2,h1,e2,mk2.mono l1,td2,l1,o1,fun s' tm' k' o' td'=>⟨K,tm,K2,tm',e,mk,td,fun _=>⟨e2,mk2,zvi1 td'⟩,?_⟩⟩
 unfold optA
 dsimp only
 rw [zpb1 e2]
 exact put _ _ o'
theorem Pair.base {P:Program} {g:FuncId} {args:List Value} {sh:Shape} {K0 K:sh.T->Hp->Prop} (q:Pair h k c t1 t2 pm n) (hc:CallT P g args sh (fun x h'=>h<=h'/\K0 x h') h) (hk:∀x h' k',h<=h'->K0 x h'->Pair h' k' c t1 t2 pm n->K x k'):CallT P g args sh K k:=by
 obtain ⟨K1,tm,K2,tm2,e,mk,td,h2,o⟩:=q.ex
 refine zaa1 o hc ?_
 rintro x h' k' ⟨l,h0⟩ o'
 exact hk x h' k' l h0 ⟨K1,tm,K2,tm2,e,mk.mono l,td,fun hn=>⟨(h2 hn).1,(h2 hn).2.1.mono l,(h2 hn).2.2⟩,o'⟩
theorem Pair.grow {k':Hp} (q:Pair h k c t1 t2 pm n) (l:k<=k'):Pair h k' c t1 t2 pm n:=by
 obtain ⟨K1,tm,K2,tm2,e,mk,td,h2,o⟩:=q.ex
 exact ⟨K1,tm,K2,tm2,e,mk,td,h2,o.grow l⟩
theorem Pair.alone (q:Pair h k c t1 t2 pm n):Pair h k c t1 t1 pm none:=by
 obtain ⟨K1,tm,K2,tm2,e,mk,td,h2,o⟩:=q.ex
 exact ⟨K1,tm,K1,tm,e,mk,td,fun hn=>absurd rfl hn,(Has.left o).beside (Has.fact trivial (Hp.le_refl _))⟩
theorem Pair.lay {P:Program} {g:FuncId} {args:List Value} {K:Option Addr->Int->Hp->Prop} (q:Pair h k c t1 t1 pm none) (hc:Call2 P g args shPtr (shInt .i64) (fun r e h'=>∃p2,r=some p2/\e=0/\Stands h c t p2 h') h)
  (hk:∀p2 h' k',h<=h'->Pair h' k' c t1 t pm (some p2)->K (some p2) 0 k'):Call2 P g args shPtr (shInt .i64) K k:=by
 obtain ⟨K1,tm,K2,tm2,e,mk,td,_,o⟩:=q.ex
 refine zaa1 (Has.left o) hc ?_
 rintro ⟨r,e'⟩ h' k' ⟨p2,h1,h2,st⟩ o'
 dsimp only at h1 h2
 subst h1 h2
 obtain ⟨K3,tm3,h3,e3,mk3,l3,o3,td3⟩:=st.ex
 exact hk p2 h3 k' l3 ⟨K1,tm,K3,tm3,e,mk.mono l3,td,fun _=>⟨e3,mk3,td3⟩,(o3.beside o').comm⟩
theorem zvj1 {s:MS} {p v:Int}:TW (zle c s p v).1=TW s:=by
 unfold zle
 split
 ·rfl
 ·split
  ·exact zij rfl
  ·exact zxv1 rfl
end
section
variable {h k:Hp} {c:PCfg} {t1 t2 t:zaz} {pm p2:Addr} {n:Option Addr}
theorem Pair.state1 {Q:S_api_State->Hp->Prop} (q:Pair h k c t1 t2 pm n) (mc:CfgM c) (g:Good c (flC c) (msOf t1) No No t1.tick) (hp:t1.parts.length=nP c) (hq:t1.procs.length=nQ c)
  (hk:∀r h' k',h<=h'->StateAt h' r t1->Pair h' k' c t1 t2 pm n->Q r k'):zck prog (some pm) Q k:=by
 obtain ⟨K,tm,K2,tm2,rfl,mk,td,h2,o⟩:=q.ex
 obtain ⟨h1,l1,o1,_,put⟩:=o.fst
 refine zuw1 (mk.mono l1) mc o1 (g.sane mc) td fun r k' o2=> ?_
 rw [zfb1 hp hq] at o2
 have o3:=Has.carry (put _) o2
 obtain ⟨h3,l3,o4,⟨F,⟨B,hB,_⟩,_⟩,_⟩:=o3.fst
 exact hk r h3 k' l3 hB.rd ⟨K,tm,K2,tm2,rfl,mk.mono l3,td,fun hn=>⟨(h2 hn).1,(h2 hn).2.1.mono l3,(h2 hn).2.2⟩,o4⟩
theorem Pair.state2 {Q:S_api_State->Hp->Prop} (q:Pair h k c t1 t2 pm (some p2)) (mc:CfgM c) (g:Good c (flC c) (msOf t2) No No t2.tick) (hp:t2.parts.length=nP c) (hq:t2.procs.length=nQ c)
  (hk:∀r h' k',h<=h'->StateAt h' r t2->Pair h' k' c t1 t2 pm (some p2)->Q r k'):zck prog (some p2) Q k:=by
 obtain ⟨K,tm,K2,tm2,rfl,mk,td,h2,o⟩:=q.ex
 obtain ⟨e2,mk2,td2⟩:=h2 (by simp)
 obtain ⟨h1,l1,o1,_,put⟩:=o.snd
 rw [<-e2] at mc g td2 hp hq
 refine zuw1 (mk2.mono l1) mc o1 (g.sane mc) td2 fun r k' o2=> ?_
 rw [zfb1 hp hq] at o2
 have o3:=Has.carry (put _) o2
 obtain ⟨h3,l3,o4,⟨F,⟨B,hB,_⟩,_⟩,_⟩:=o3.fst
 exact hk r h3 k' l3 hB.rd ⟨K,tm,K2,tm2,rfl,mk.mono l3,td,fun _=>⟨e2,mk2.mono l3,by grind⟩,o4⟩
def tickP (c:PCfg) (t:zaz):zaz:=(tickS c cpuD (flC c) (msOf t)).list c
def injP (c:PCfg) (t:zaz) (p v:Int):zaz:=(zle c (msOf t) p v).1.list c
def killP (c:PCfg) (t:zaz) (p:Int):zaz:=(killS c (msOf t) p).1.list c
theorem Pair.tick1 {Q:Int->Hp->Prop} (q:Pair h k c t1 t2 pm n) (mc:CfgM c) (g:Good c (flC c) (msOf t1) No No t1.tick) (ht:t1.tick<4611686018427387904) (hk:∀k',Pair h k' c (tickP c t1) t2 pm n->Q (zhg c t1.tick:Int) k'):zcq prog (some pm) Q k:=by
 obtain ⟨K,tm,h1,rfl,mk,td,l1,o1,put⟩:=q.one
 exact zaz2 zbg2 mk mc o1 g ht td fun tm' k' o' td'=>hk k' (put _ _ _ o' td')
theorem Pair.tick2 {Q:Int->Hp->Prop} (q:Pair h k c t1 t2 pm (some p2)) (mc:CfgM c) (g:Good c (flC c) (msOf t2) No No t2.tick) (ht:t2.tick<4611686018427387904) (hk:∀k',Pair h k' c t1 (tickP c t2) pm (some p2)->Q (zhg c t2.tick:Int) k'):zcq prog (some p2) Q k:=by
 obtain ⟨K,tm,h1,rfl,mk,td,l1,o1,put⟩:=q.two
 exact zaz2 zbg2 mk mc o1 g ht td fun tm' k' o' td'=>hk k' (put _ _ _ o' td')
theorem Pair.inj1 {p v:Int} {Q:Int->Hp->Prop} (q:Pair h k c t1 t2 pm n) (mc:CfgM c) (g:Good c (flC c) (msOf t1) No No t1.tick) (hk:∀k',Pair h k' c (injP c t1 p v) t2 pm n->Q (zle c (msOf t1) p v).2 k'):zca prog (some pm) p v Q k:=by
 obtain ⟨K,tm,h1,rfl,mk,td,l1,o1,put⟩:=q.one
 exact zot1 mk mc o1 (g.sane mc) fun k' o'=>hk k' (put _ tm _ o' (td.keep zvj1))
theorem Pair.inj2 {p v:Int} {Q:Int->Hp->Prop} (q:Pair h k c t1 t2 pm (some p2)) (mc:CfgM c) (g:Good c (flC c) (msOf t2) No No t2.tick) (hk:∀k',Pair h k' c t1 (injP c t2 p v) pm (some p2)->Q (zle c (msOf t2) p v).2 k'):zca prog (some p2) p v Q k:=by
 obtain ⟨K,tm,h1,rfl,mk,td,l1,o1,put⟩:=q.two
 exact zot1 mk mc o1 (g.sane mc) fun k' o'=>hk k' (put _ tm _ o' (td.keep zvj1))
theorem Pair.kill1 {p:Int} {Q:Int->Hp->Prop} (q:Pair h k c t1 t2 pm n) (mc:CfgM c) (g:Good c (flC c) (msOf t1) No No t1.tick) (hk:∀k',Pair h k' c (killP c t1 p) t2 pm n->Q (killS c (msOf t1) p).2 k'):zcr prog (some pm) p Q k:=by
 obtain ⟨K,tm,h1,rfl,mk,td,l1,o1,put⟩:=q.one
 exact zay2 mk mc o1 (g.sane mc) td fun tm' k' o' td'=>hk k' (put _ _ _ o' td')
theorem Pair.kill2 {p:Int} {Q:Int->Hp->Prop} (q:Pair h k c t1 t2 pm (some p2)) (mc:CfgM c) (g:Good c (flC c) (msOf t2) No No t2.tick) (hk:∀k',Pair h k' c t1 (killP c t2 p) pm (some p2)->Q (killS c (msOf t2) p).2 k'):zcr prog (some p2) p Q k:=by
 obtain ⟨K,tm,h1,rfl,mk,td,l1,o1,put⟩:=q.two
 exact zay2 mk mc o1 (g.sane mc) td fun tm' k' o' td'=>hk k' (put _ _ _ o' td')
end
section
variable {P:Program} {h:Hp}
theorem join1 {α:Type} {v:α} {A:(α->Hp->Prop)->Prop} {B:α->Hp->Prop} (hA:∀k:α->Hp->Prop,k v h->A k) (hB:B v h):JoinW1 A B:=JoinW1.intro (fun x h'=>x=v/\h'=h) (hA _ ⟨rfl,rfl⟩) (by grind)
def ziq2 (op:Int) (k:Bool->Hp->Prop) (h:Hp):List Int->Prop
 | []=>True
 | [a]=>k (op==a) h
 | a::b::r=>if (op==a)=true then k (op==a) h else ziq2 op k h (b::r)
theorem zac1 {op:Int} {k:Bool->Hp->Prop}:∀l:List Int,l≠ []->k (decide (op∈l)) h->ziq2 op k h l
 | [],hn,_=>absurd rfl hn
 | [a],_,hk=>by
  have:(op==a)=decide (op∈ [a]):=by rw [Bool.eq_iff_iff];simp
  show k (op==a) h
  grind
 | a::b::r,_,hk=>by
  show if (op==a)=true then k (op==a) h else ziq2 op k h (b::r)
  by_cases e:op=a
  ·grind
  ·rw [if_neg (by simpa using e)]
   refine zac1 (b::r) (by simp) ?_
   grind
theorem zvk1 {op:Int} {Q:Bool->Bool->Bool->Bool->Hp->Prop} (hq:Q (zbe op).1 (zbe op).2.1 (zbe op).2.2.1 (zbe op).2.2.2 h):zge P op Q h:=by
 unfold zge
 unfold zbe at hq
 by_cases h1:op=1
 ·rw [if_pos h1] at hq;rw [if_pos (by simpa using h1)];exact hq
 rw [if_neg h1] at hq;rw [if_neg (by simpa using h1)]
 refine join1 (h:=h) (v:=decide (op∈ [2,20,21,25,26])) (fun k hk=>zac1 [2,20,21,25,26] (by simp) hk) ?_
 by_cases h2:op∈ [2,20,21,25,26]
 ·rw [if_pos (decide_eq_true h2)]
  rw [if_pos (by simpa using h2)] at hq
  exact hq
 rw [if_neg (fun e=>h2 (of_decide_eq_true e))]
 rw [if_neg (by simpa using h2)] at hq
 refine join1 (h:=h) (v:=decide (op∈ [3,4,5,6,7,8,9,10,11,12,13,14])) (fun k hk=>zac1 [3,4,5,6,7,8,9,10,11,12,13,14] (by simp) hk) ?_
 by_cases h3:op∈ [3,4,5,6,7,8,9,10,11,12,13,14]
 ·rw [if_pos (decide_eq_true h3)]
  rw [if_pos (Or.inl (by simp at h3;omega))] at hq
  exact hq
 rw [if_neg (fun e=>h3 (of_decide_eq_true e))]
 refine join1 (h:=h) (v:=decide (op∈ [15,16,17,18,19,24])) (fun k hk=>zac1 [15,16,17,18,19,24] (by simp) hk) ?_
 by_cases h4:op∈ [15,16,17,18,19,24]
 ·rw [if_pos (decide_eq_true h4)]
  rw [if_pos (Or.inr (by simp at h4;omega))] at hq
  exact hq
 rw [if_neg (fun e=>h4 (of_decide_eq_true e))]
 rw [if_neg (by simp at h3 h4;omega)] at hq
 refine join1 (h:=h) (v:=decide (op∈ [22,29,30])) (fun k hk=>zac1 [22,29,30] (by simp) hk) ?_
 by_cases h5:op∈ [22,29,30]
 ·rw [if_pos (decide_eq_true h5)]
  rw [if_pos (by simpa using h5)] at hq
  exact hq
 rw [if_neg (fun e=>h5 (of_decide_eq_true e))]
 rw [if_neg (by simpa using h5)] at hq
 by_cases h6:op=23
 ·rw [if_pos h6] at hq;rw [if_pos (by simpa using h6)];exact hq
 rw [if_neg h6] at hq;rw [if_neg (by simpa using h6)]
 refine join1 (h:=h) (v:=decide (op∈ [27,28,31,32,33])) (fun k hk=>zac1 [27,28,31,32,33] (by simp) hk) ?_
 grind
theorem zsh {has:Bool} {n:Int} {Q:Int->Hp->Prop} (hq:Q (regP has n) h):zet P n has Q h:=by
 unfold zet
 unfold regP at hq
 refine letW ?_
 by_cases h1:has=false/\n≠0
 ·rw [if_pos h1] at hq;rw [if_pos (by simp [h1.1,h1.2])];exact hq
 rw [if_neg h1] at hq
 rw [if_neg (by intro e;simp at e;exact h1 e)]
 refine letW (letW ?_)
 grind
theorem zyn1 {x:S_api_Ins} {n locks:Int} {Q:Int->Int->Hp->Prop} (hq:Q (zds (insOf x) n locks).1 (zds (insOf x) n locks).2 h):zhd prog x n locks Q h:=by
 obtain ⟨o,A,B,C,I⟩:=x
 have hq:Q (zds ⟨o,A,B,C,I⟩ n locks).1 (zds ⟨o,A,B,C,I⟩ n locks).2 h:=hq
 unfold zhd
 unfold zds at hq
 refine letW ?_
 by_cases h1:o<0\/34<=o
 ·rw [if_pos h1] at hq;rw [if_pos (by simp;omega)];exact hq
 rw [if_neg h1] at hq;rw [if_neg (by simp;omega)]
 refine zqy (zvk1 ?_)
 dsimp only
 refine zdp (zsh ?_)
 by_cases h2:regP (zbe o).1 A≠0
 ·rw [if_pos h2] at hq;rw [if_pos (by simpa using h2)];exact hq
 rw [if_neg h2] at hq;rw [if_neg (by simpa using h2)]
 refine zdp (zsh ?_)
 by_cases h3:regP (zbe o).2.1 B≠0
 ·rw [if_pos h3] at hq;rw [if_pos (by simpa using h3)];exact hq
 rw [if_neg h3] at hq;rw [if_neg (by simpa using h3)]
 refine zdp (zsh ?_)
 by_cases h4:regP (zbe o).2.2.1 C≠0
 ·rw [if_pos h4] at hq;rw [if_pos (by simpa using h4)];exact hq
 rw [if_neg h4] at hq;rw [if_neg (by simpa using h4)]
 refine letW ?_
 by_cases h5:(zbe o).2.2.2=false/\I≠0
 ·rw [if_pos h5] at hq;rw [if_pos (by simp [h5.1,h5.2])];exact hq
 rw [if_neg h5] at hq;rw [if_neg (by intro e;simp at e;exact h5 e)]
 refine letW (letW (letW ?_))
 by_cases h6:(o=22\/o=23)/\(I<0\/n<I)
 ·rw [if_pos h6] at hq;rw [if_pos (by simp;exact h6)];exact hq
 rw [if_neg h6] at hq;rw [if_neg (by intro e;simp at e;exact h6 e)]
 refine letW (letW (letW ?_))
 grind
theorem zyo1 {x:S_api_Ins} {n locks:Int} {Q:Int->Hp->Prop} (hq:Q (zds (insOf x) n locks).1 h):zhb prog x n locks Q h:=by
 unfold zhb
 exact zsf (zyn1 hq)
theorem zsd1 {l:Sl} {xs:List S_api_Ins} {locks:Int} {Q:Int->Int->Hp->Prop} (r:InsS h l xs) (hq:∀at_,Q (codeP (xs.map insOf) locks).1 at_ h):zjh prog l locks Q h:=by
 unfold zjh
 have hl:l.len=xs.length:=r.1
 unfold codeP at hq
 rw [List.length_map] at hq
 refine letW ?_
 by_cases h1:locks<0\/8<locks
 ·grind
 rw [if_neg h1] at hq;rw [if_neg (by simp;omega)]
 by_cases h2:256<xs.length
 ·grind
 rw [if_neg h2] at hq;rw [if_neg (by simp;omega)]
 refine forI (n:=xs.length) (by omega) (by omega) (fun i h'=>h'=h/\(codeR (xs.length:Int) locks ((xs.map insOf).drop i) i).1=(codeR (xs.length:Int) locks (xs.map insOf) 0).1) ⟨rfl,rfl⟩ ?_ ?_
 ·rintro i hi k ⟨rfl,he⟩ K hK
  refine Rs.get (sh:=sh_api_Ins) r (fun _=>rfl) (by omega) (by omega) (by omega) fun x hx=> ?_
  have hx:xs[i]?=some x:=hx
  have hd:(xs.map insOf).drop i=insOf x::(xs.map insOf).drop (i+1):=znw (by rw [List.getElem?_map,hx];rfl)
  rw [hd,codeR] at he
  refine zse (zyo1 ?_)
  grind
 ·rintro k ⟨rfl,he⟩
  rw [List.drop_of_length_le (by simp),codeR] at he
  grind
theorem zks {n a b:Int} {Q:Bool->Hp->Prop} (hq:Q (zbq n a b) h):zfx P n a b Q h:=by
 unfold zfx
 exact letW hq
end
section
variable {h:Hp}
theorem zvl1 {l:Sl} {xs:List Int} {n:Nat} {Q:Int->Hp->Prop} (r:Is h l xs) (hn:n<=8) (hq:Q (if xs=[] then 1 else if 64<xs.length then 3 else if (xs.all fun p=>zbq p 0 ((n:Int)-1))=false then 2 else 0) h):zfw prog l (n:Int) Q h:=by
 unfold zfw
 have hl:l.len=xs.length:=r.1
 by_cases h1:xs=[]
 ·rw [if_pos h1] at hq;rw [if_pos (by rw [hl,h1];rfl)];exact hq
 rw [if_neg h1] at hq
 have hp:=List.length_pos_iff.2 h1
 rw [if_neg (by rw [beq_iff_eq];omega)]
 by_cases h2:64<xs.length
 ·rw [if_pos h2] at hq;rw [if_pos (decide_eq_true (by omega))];exact hq
 rw [if_neg h2] at hq
 rw [if_neg (fun e=>h2 (by have:=of_decide_eq_true e;omega))]
 rw [wrap64 (n:=(n:Int)-1) (by omega) (by omega)]
 refine forI (n:=xs.length) (by omega) (by omega) (fun i h'=>h'=h/\∀x∈xs.take i,zbq x 0 ((n:Int)-1)=true) ⟨rfl,fun x hx=>by simp at hx⟩ ?_ ?_
 ·rintro i hi k ⟨rfl,hall⟩ K hK
  refine Rs.get (sh:=shInt .i64) r (fun _=>rfl) (by omega) (by omega) (by omega) fun (x:Int) hx=> ?_
  have hx:xs[i]?=some x:=hx
  refine zbb (zks ?_)
  by_cases hw:zbq x 0 ((n:Int)-1)=true
  ·rw [if_neg (by rw [hw];simp)]
   refine hK k ⟨rfl,fun y hy=> ?_⟩
   rw [List.take_add_one,hx] at hy
   rcases List.mem_append.1 hy with hy | hy
   ·exact hall y hy
   ·have:y=x:=by simpa using hy
    rw [this];exact hw
  ·have hw:zbq x 0 ((n:Int)-1)=false:=by simpa using hw
   rw [if_pos (by rw [hw];rfl)]
   rw [if_pos (List.all_eq_false.2 ⟨x,List.mem_of_getElem? hx,by rw [hw];simp⟩)] at hq
   exact hq
 grind
theorem zir2 {P:Program} {l:Sl} {xs:List Int} {Q:Int->Int->Hp->Prop} (r:Us h l xs) (hq:Q (mayP xs).1 (mayP xs).2 h):zov P l Q h:=zxl1 (P:=P) r hq
theorem zln2 (a b c d:Bool) {i:Nat} (hi:i<4):List.get?Internal (α:=Value) [.bool a,.bool b,.bool c,.bool d] (0+(i*1))=some (.bool (([a,b,c,d]:List Bool).getD i false)):=by
 match i,hi with
 | 0,_=>rfl
 | 1,_=>rfl
 | 2,_=>rfl
 | 3,_=>rfl
theorem zvm1 {x:S_api_Config} {c:PCfg} {Q:Int->Int->Hp->Prop} (a:CfgAt h x c) (hq:∀at_,Q (cfgE c).1 at_ h):zje prog x Q h:=by
 unfold zje
 have hll:x.Labels.len=c.labels.length:=a.labels.1
 unfold cfgE cfgP at hq
 refine zvv (zir2 a.labels ?_)
 dsimp only
 by_cases h1:(mayP c.labels).1≠0
 ·grind
 rw [if_neg h1] at hq
 rw [if_neg (by simpa using h1)]
 obtain ⟨hl1,hl2,_⟩:=mayP_zero.1 (Classical.not_not.1 h1)
 rw [hll]
 refine zqu (zvl1 a.table hl2 ?_)
 by_cases h2:c.table=[]
 ·grind
 rw [if_neg h2] at hq ⊢
 by_cases h3:64<c.table.length
 ·grind
 rw [if_neg h3] at hq ⊢
 by_cases h4:(c.table.all fun p=>zbq p 0 (c.labels.length-1))=false
 ·grind
 rw [if_neg h4] at hq ⊢
 rw [if_neg (by simp)]
 refine zbb (zks ⟨⟨trivial,trivial,trivial,trivial⟩,zbb (zks ⟨⟨trivial,trivial,trivial⟩,zbb (zks ⟨⟨trivial,trivial⟩,zbb (zks ?_)⟩)⟩)⟩)
 rw [a.fuel,a.lane,a.locks,a.log]
 refine forI (n:=4) rfl (by omega) (fun i h'=>h'=h/\(1<=i->zbq c.fuel 1 256=true)/\(2<=i->zbq c.lane 1 64=true)/\(3<=i->zbq c.locks 0 8=true)/\(4<=i->zbq c.log 0 4096=true)) ⟨rfl,fun e=>by omega,fun e=>by omega,fun e=>by omega,fun e=>by omega⟩ ?_ ?_
 ·rintro i hi k ⟨rfl,q1,q2,q3,q4⟩ K hK
  refine ⟨⟨by omega,by omega⟩,_,zln2 _ _ _ _ hi,?_⟩
  grind
 ·rintro k ⟨rfl,q1,q2,q3,q4⟩
  rw [if_neg (by grind),if_neg (by rw [q2 (by omega)];simp),if_neg (by rw [q3 (by omega)];simp),if_neg (by grind)] at hq
  obtain ⟨ps,hps,hall⟩:=a.procs
  have hlp:x.Procs.len=ps.length:=hps.1
  have hlp2:=hall.len
  by_cases h5:c.procs=[]
  ·grind
  rw [if_neg h5] at hq
  have hpp:0<c.procs.length:=List.length_pos_iff.2 h5
  rw [if_neg (by grind)]
  by_cases h6:32<c.procs.length
  ·grind
  rw [if_neg h6] at hq
  rw [if_neg (fun e=>h6 (by grind))]
  refine forI (n:=ps.length) (by omega) (by omega) (fun i k'=>k'=k/\(zre c.labels.length c.locks (c.procs.drop i) i).1=(zre c.labels.length c.locks c.procs 0).1) ⟨rfl,rfl⟩ ?_ ?_
  ·rintro i hi k2 ⟨rfl,he⟩ K hK
   refine Rw.fld hps (fun _=>rfl) (by omega) (sh:=shInt .i64) (fun q=>q.Part) (fun _=>rfl) (by omega) (by omega) fun q hq0=> ?_
   have hq0:ps[i]?=some q:=hq0
   obtain ⟨pp,hpp1,hq1,is,his,hmap⟩:=hall.get hq0
   rw [znw hpp1,zre] at he
   rw [wrap64 (n:=(c.labels.length:Int)-1) (by omega) (by omega)]
   refine zbb (zks ?_)
   rw [hq1]
   by_cases h9:zbq pp.part 0 ((c.labels.length:Int)-1)=false
   ·rw [if_pos h9] at he
    rw [if_pos (by rw [h9];rfl)]
    rw [<-he] at hq
    exact hq _
   rw [if_neg h9] at he
   rw [if_neg (by cases hw:zbq pp.part 0 ((c.labels.length:Int)-1)<;>simp_all)]
   refine Rw.fld hps (fun _=>rfl) (by omega) (sh:=shSl) (fun q=>q.Code) (fun _=>rfl) (by omega) (by omega) fun q' hq'=> ?_
   have hq':ps[i]?=some q':=hq'
   rw [hq0] at hq';cases hq'
   refine zvw (zsd1 his fun at2=> ?_)
   grind
  ·rintro k2 ⟨rfl,he⟩
   rw [List.drop_of_length_le (by omega),zre] at he
   grind
end
section
variable {c:PCfg} {s:MS} {t:zaz}
structure GT (c:PCfg) (t:zaz):Prop where
 good:Good c (flC c) (msOf t) No No t.tick
 parts:t.parts.length=nP c
 procs:t.procs.length=nQ c
theorem GT.of (m:CfgM c) (g:Good c (flC c) s No No s.tick) (ht:s.tick<=4611686018427387904):GT c (s.list c):=
 ⟨zyc1 m (Good.may m g ht) fun x hx=>by
  obtain ⟨p,hp,rfl⟩:=List.mem_map.1 hx
  exact (g.proc p (List.mem_range.1 hp)).regs,zea2,zeb2⟩
theorem zis2 {D:Int->Int->Int->Int} (m:CfgM c) {fl:Nat->Nat->Bool} (g:Good c fl s No No s.tick):(tickS c D fl s).tick=s.tick+1:=by
 have g1:=(g.widen (T':=s.tick+1) (by omega)).due (i:=zhg c s.tick)
 obtain ⟨_,e2⟩:=Good.turns (D:=D) m (m.ownerI_lt (t:=s.tick)) c.fuel.toNat g1 rfl
 have e2:(zix c D fl (zhg c s.tick) c.fuel.toNat (dueS c s (zhg c s.tick))).tick=s.tick:=e2
 show (zix c D fl (zhg c s.tick) c.fuel.toNat (dueS c s (zhg c s.tick))).tick+1=_
 rw [e2]
theorem GT.tick (m:CfgM c) (g:GT c t) (ht:t.tick<4611686018427387904):GT c (tickP c t)/\(tickP c t).tick=t.tick+1:=by
 have e:(tickS c cpuD (flC c) (msOf t)).tick=t.tick+1:=zis2 m g.good
 exact ⟨GT.of m (g.good.tick_ m) (by omega),e⟩
theorem GT.inj (m:CfgM c) (g:GT c t) (ht:t.tick<=4611686018427387904) {p v:Int}:GT c (injP c t p v)/\(injP c t p v).tick=t.tick:=by
 have e:(zle c (msOf t) p v).1.tick=t.tick:=zxz1
 exact ⟨GT.of m (by rw [e];exact g.good.inject) (by omega),e⟩
theorem GT.kill (m:CfgM c) (g:GT c t) (ht:t.tick<=4611686018427387904) {p:Int}:GT c (killP c t p)/\(killP c t p).tick=t.tick:=by
 have e:(killS c (msOf t) p).1.tick=t.tick:=zhu2
 exact ⟨GT.of m (by rw [e];exact g.good.kill m) (by omega),e⟩
theorem GT.le (m:CfgM c) (g:GT c t):StLe t:=zoh2 (g.good.sane m) m g.parts g.procs
theorem GT.may (m:CfgM c) (g:GT c t) (ht:t.tick<=4611686018427387904):MayP c t:=by
 have:=Good.may m g.good ht
 rw [zfb1 g.parts g.procs] at this
 exact (zbm2 m).2 this
theorem zbn2 (m:CfgM c):GT c ((zwg c).list c)/\((zwg c).list c).tick=0:=⟨GT.of m (Good.first m) (by show (0:Int)<=_;decide),rfl⟩
end
section
variable {h k:Hp}
theorem zhe1 {α:Type} {b:Bool} {A:(α->Hp->Prop)->Hp->Prop} {K:α->Hp->Prop} (hb:b=false) (x:α) (hk:K x h):EffC (some b) A K h:=⟨fun e=>(by grind),fun _=>⟨x,hk⟩⟩
theorem zwf {α:Type} {b:Bool} {A:(α->Hp->Prop)->Hp->Prop} {K:α->Hp->Prop} (hb:b=true) (hk:A K h):EffC (some b) A K h:=⟨fun _=>hk,fun e=>(by grind)⟩
def nT (n:Int):Int:=if Int.tmod n 50<0 then -Int.tmod n 50 else Int.tmod n 50
theorem nT_in {n:Int}:0<=nT n/\nT n<=49:=by
 unfold nT
 grind
theorem zlo2 {n:Int} {Q:Int->Hp->Prop} (hq:Q (nT n) h):zgv prog n Q h:=by
 unfold zgv
 refine ⟨by decide,?_⟩
 have hin:=nT_in (n:=n)
 unfold nT at hq hin
 split
 ·rename_i e
  have e:=of_decide_eq_true e
  rw [if_pos e] at hq hin
  rw [wrap64 (by omega) (by omega),Int.zero_sub]
  exact hq
 grind
variable {c:PCfg} {t1 t2 t:zaz} {pm:Addr} {n:Option Addr}
theorem zit2 {Q:Hp->Prop} {F:Hp->Prop} (q:Pair h k c t t pm n) (mc:CfgM c) (g:GT c t) (ht:t.tick<4611686018427387904) (hk:∀k',Pair h k' c (tickP c t) (tickP c t) pm n->Q k'):
  CallT prog zbn [(.pointer (some pm))] (shInt .i64) (fun r6 h9=>
 EffC (some (!(Option.isNone n))) (CallT prog zbn [(.pointer n)] (shInt .i64)) (fun r7 h10=>
 LetW ((!(Option.isNone n))&&(r7 !=r6)) fun y=>
 (if y=true then
 F h10
 else
 Q h10)) h9) k:=by
 refine zeu (q.tick1 mc g.good ht fun k1 q1=> ?_)
 cases n with
 | none=>exact zhe1 rfl 0 (letW (by rw [if_neg (by simp)];exact hk k1 q1.alone))
 | some p2=>exact zwf rfl (zeu (q1.tick2 mc g.good ht fun k2 q2=>letW (by grind)))
theorem zlp2 {p v:Int} {Q:Hp->Prop} {F:Hp->Prop} (q:Pair h k c t t pm n) (mc:CfgM c) (g:GT c t) (hk:∀k',Pair h k' c (injP c t p v) (injP c t p v) pm n->Q k'):
  CallT prog zbj [(.pointer (some pm)),(.int .i64 p),(.int .i64 v)] (shInt .i64) (fun r6 h9=>
 EffC (some (!(Option.isNone n))) (CallT prog zbj [(.pointer n),(.int .i64 p),(.int .i64 v)] (shInt .i64)) (fun r7 h10=>
 LetW ((!(Option.isNone n))&&(r7 !=r6)) fun y=>
 (if y=true then
 F h10
 else
 Q h10)) h9) k:=by
 refine zdu (q.inj1 mc g.good fun k1 q1=> ?_)
 cases n with
 | none=>exact zhe1 rfl 0 (letW (by rw [if_neg (by simp)];exact hk k1 q1.alone))
 | some p2=>exact zwf rfl (zdu (q1.inj2 mc g.good fun k2 q2=>letW (by grind)))
theorem ziu2 {p:Int} {Q:Hp->Prop} {F:Hp->Prop} (q:Pair h k c t t pm n) (mc:CfgM c) (g:GT c t) (hk:∀k',Pair h k' c (killP c t p) (killP c t p) pm n->Q k'):
  CallT prog zcn [(.pointer (some pm)),(.int .i64 p)] (shInt .i64) (fun r6 h9=>
 EffC (some (!(Option.isNone n))) (CallT prog zcn [(.pointer n),(.int .i64 p)] (shInt .i64)) (fun r7 h10=>
 LetW ((!(Option.isNone n))&&(r7 !=r6)) fun y=>
 (if y=true then
 F h10
 else
 Q h10)) h9) k:=by
 refine zjs (q.kill1 mc g.good fun k1 q1=> ?_)
 cases n with
 | none=>exact zhe1 rfl 0 (letW (by rw [if_neg (by simp)];exact hk k1 q1.alone))
 | some p2=>exact zwf rfl (zjs (q1.kill2 mc g.good fun k2 q2=>letW (by grind)))
theorem ziv2 {Q:Hp->Prop} {F:Hp->Prop} (q:Pair h k c t t pm n) (mc:CfgM c) (g:GT c t) (hk:∀h' k',h<=h'->Pair h' k' c t t pm n->Q k'):
  EffC (some (!(Option.isNone n))) (CallT prog zau [(.pointer (some pm))] zba) (fun r5 h8=>
 EffC (some (!(Option.isNone n))) (CallT prog zau [(.pointer n)] zba) (fun r6 h9=>
 EffC (some (!(Option.isNone n))) (CallT prog zhv [r5.v,r6.v] zad) (fun r7 h10=>
 LetW ((!(Option.isNone n))&&(!r7)) fun y=>
 (if y=true then
 F h10
 else
 Q h10)) h9) h8) k:=by
 cases n with
 | none=>exact zhe1 rfl ⟨0,⟨none,0,0⟩,⟨none,0,0⟩⟩ (zhe1 rfl ⟨0,⟨none,0,0⟩,⟨none,0,0⟩⟩ (zhe1 rfl true (letW (by rw [if_neg (by simp)];exact hk h k (Hp.le_refl _) q))))
 | some p2=>
  refine zwf rfl (zbl (q.state1 mc g.good g.parts g.procs fun r5 h1 k1 l1 a1 q1=> ?_))
  refine zwf rfl (zbl (q1.state2 mc g.good g.parts g.procs fun r6 h2 k2 l2 a2 q2=> ?_))
  refine zwf rfl (q2.base (sh:=zad) (K0:=fun r _=>r=true) (zth (zik2 (a1.mono l2) a2 (g.le mc) ⟨Hp.le_refl _,rfl⟩)) ?_)
  rintro r h3 k3 l3 rfl q3
  refine letW ?_
  rw [if_neg (by simp)]
  exact hk h3 k3 (Hp.le_trans l1 (Hp.le_trans l2 l3)) q3
theorem zvn1 {x:S_api_Config} {r:S_api_State} {Q:Int->Hp->Prop} (q:Pair h k c t1 t2 pm n) (cx:CfgAt h x c) (hr:StateAt h r t) (hu:∀l∈c.labels,InU l) (he:(cfgE c).1=0) (mc:CfgM c) (g:GT c t) (ht:t.tick<=4611686018427387904)
  (hk:∀h' k',h<=h'->Pair h' k' c t1 t2 pm n->Q 0 k'):CallT prog zlf [x.v,r.v] (shInt .i64) Q k:=by
 refine q.base (sh:=shInt .i64) (K0:=fun e _=>e=0) (zwl (zpa1 cx hr hu (g.le mc) fun e h' l hm=>⟨l,?_⟩)) ?_
 ·rcases hm with ⟨h1,_⟩ | ⟨_,h2 | h2⟩
  ·exact absurd he h1
  ·exact h2.1
  ·exact absurd (g.may mc ht) h2.2
 grind
theorem machineStands_ok {x:S_api_Config} {l:Sl} {ops:List S_firebreaklaw15_Op} {at_:Int} {Q:Bool->Hp->Prop} (hw:∀ {k:Hp} {Q:Bool->Hp->Prop},(∀h',k<=h'->Q true h')->zdy prog Q k) (cx:CfgAt h x c) (hu:∀l∈c.labels,InU l) (hs:Rs h sh_firebreaklaw15_Op 3 l ops) (hl:ops.length<=140737488355328)
  (hq:∀h',h<=h'->Q true h'):zdd prog x l at_ Q h:=by
 unfold zdd
 refine zrz (hw fun h1 l1=> ?_)
 rw [if_neg (by simp)]
 have hlen:=hs.1
 refine zwk (zio2 (cx.mono l1) hu (fun k1 l2 he=> ?_) fun pm k1 he l2 st=> ?_)
 ·rw [if_pos (by simpa using he)]
  refine zvr ?_
  unfold zou
  refine zvs (zvm1 (cx.mono (Hp.le_trans l1 l2)) fun at_=> ?_)
  rw [if_pos (by simpa using he)]
  refine letW ?_
  rw [show ((none:Option Addr).isNone&&(cfgE c).1==(cfgE c).1)=true by simp]
  exact hq k1 (Hp.le_trans l1 l2)
 ·rw [if_neg (by decide),if_neg (by simp)]
  have mc:=zdk1 he
  obtain ⟨hb0,lb0,q0⟩:=st.pair
  obtain ⟨g0,et0⟩:=zbn2 mc
  refine LoopW2.intro (fun (n:Option Addr) (i:Int) k=>0<=i/\i<=(ops.length:Int)/\∃hb t,h<=hb/\Pair hb k c t t pm n/\GT c t/\t.tick<=49*i) (fun _ i _=>(ops.length-i).toNat) ⟨by omega,by omega,hb0,_,Hp.le_trans l1 lb0,q0,g0,by omega⟩ ?_
  rintro n i k2 ⟨i0,i1,hb,t,lb,q,g,htt⟩
  have tb:t.tick<=4611686018427387904-100:=by omega
  have cxb:=cx.mono lb
  by_cases h3:i<(ops.length:Int)
  ·rw [if_pos (decide_eq_true (by omega))]
   refine zbl (q.state1 mc g.good g.parts g.procs fun r3 hb1 k3 lb1 hr q1=> ?_)
   refine zvn1 q1 (cxb.mono lb1) hr hu he mc g (by omega) fun hb2 k4 lb2 q2=> ?_
   rw [if_neg (by decide)]
   have cx2:=cxb.mono (Hp.le_trans lb1 lb2)
   have hr2:=hr.mono lb2
   have lh2:h<=hb2:=Hp.le_trans lb (Hp.le_trans lb1 lb2)
   refine JoinW1.intro (fun n1 k=>∃hb,h<=hb/\Pair hb k c t t pm n1) ?_ ?_
   ·refine letW (letW ?_)
    split
    ·refine q2.alone.lay (zih1 (zof2 cx2 hr2 hu (g.le mc) (fun e k' _ hne hm=> ?_) fun p2 k' _ _ _ st=>⟨p2,rfl,rfl,st⟩)) fun p2 h' k' l' q'=> ?_
     ·exfalso
      rcases hm with ⟨h1,_⟩ | ⟨_,h2 | h2⟩
      ·exact h1 he
      ·exact hne h2.1
      ·exact h2.2 (g.may mc (by omega))
     ·refine letW ?_
      rw [if_neg (by simp)]
      exact ⟨h',Hp.le_trans lh2 l',q'⟩
    grind
   ·rintro n1 k5 ⟨hb3,lb3,q3⟩
    refine Rs.get (sh:=sh_firebreaklaw15_Op) (Rw.mono (Hp.le_trans lb3 q3.le) hs) (fun _=>rfl) (by omega) i0 h3 fun (op:S_firebreaklaw15_Op) _=> ?_
    refine JoinW0.intro (fun k=>∃hb t',h<=hb/\Pair hb k c t' t' pm n1/\GT c t'/\t'.tick<=49*(i+1)) ?_ ?_
    ·split
     ·have hin:=nT_in (n:=op.N)
      refine LoopW1.intro (fun (j:Int) k=>0<=j/\j<=nT op.N/\∃t',Pair hb3 k c t' t' pm n1/\GT c t'/\t'.tick<=49*i+j) (fun j _=>(nT op.N-j).toNat) ⟨by omega,by omega,t,q3,g,by omega⟩ ?_
      rintro j k6 ⟨j0,j1,t',q4,g4,ht4⟩
      refine zsa (zlo2 ?_)
      by_cases h5:j<nT op.N
      ·rw [if_pos (decide_eq_true h5)]
       refine zit2 q4 mc g4 (by omega) fun k7 q5=> ?_
       rw [wrap64 (by omega) (by omega)]
       obtain ⟨g5,e5⟩:=g4.tick mc (by omega)
       exact ⟨⟨by omega,by omega,_,q5,g5,by omega⟩,by omega⟩
      grind
     ·split
      ·refine zlp2 q3 mc g fun k7 q5=> ?_
       obtain ⟨g5,e5⟩:=g.inj mc (p:=op.N) (v:=op.V) (by omega)
       grind
      ·split
       ·refine ziu2 q3 mc g fun k7 q5=> ?_
        obtain ⟨g5,e5⟩:=g.kill mc (p:=op.N) (by omega)
        exact ⟨hb3,_,lb3,q5,g5,by omega⟩
       grind
    ·rintro k6 ⟨hb4,t',lb4,q4,g4,ht4⟩
     refine ziv2 q4 mc g4 fun h' k' l' q'=> ?_
     rw [wrap64 (by omega) (by omega)]
     exact ⟨⟨by omega,by omega,h',t',Hp.le_trans lb4 l',q',g4,ht4⟩,by omega⟩
  ·rw [if_neg (fun e=>h3 (by grind))]
   refine zbl (q.state1 mc g.good g.parts g.procs fun r3 hb1 k3 lb1 hr q1=>⟨⟨trivial,trivial⟩,?_⟩)
   refine zvn1 q1 (cxb.mono lb1) hr hu he mc g (by omega) fun hb2 k4 lb2 q2=> ?_
   exact hq k4 (Hp.le_trans lb (Hp.le_trans lb1 (Hp.le_trans lb2 q2.le)))
end
def exC :PCfg:=⟨[0,1],[0,1],2,1,1,4,[⟨0,[⟨1,0,0,0,1⟩,⟨1,1,0,0,5⟩,⟨24,2,0,1,0⟩,⟨0,0,0,0,0⟩]⟩,⟨1,[⟨25,3,4,0,0⟩,⟨31,3,0,0,0⟩,⟨0,0,0,0,0⟩]⟩]⟩
def exT :Nat->zaz
 | 0=>(zwg exC).list exC
 | n+1=>tickP exC (exT n)
theorem zbo2 :(cfgE exC).1=0:=by kernel_rfl
theorem zoi2 :((exT 4).parts[1]?).map (·.log)=some [⟨3,1,5⟩]:=by kernel_rfl
theorem ziw2 :((exT 4).procs[0]?).map (·.state)=some 5:=by kernel_rfl
theorem zme2 :∀n:Nat,n<=1000->GT exC (exT n)/\(exT n).tick=n
 | 0,_=>zbn2 (zdk1 zbo2)
 | n+1,hn=>by
  obtain ⟨g,e⟩:=zme2 n (by omega)
  obtain ⟨g',e'⟩:=g.tick (zdk1 zbo2) (by omega)
  exact ⟨g',by show (tickP exC (exT n)).tick=_;rw [e',e];omega⟩
section
variable {h k:Hp}
theorem zvo1 {Q:S_api_Config->Hp->Prop} (hq:∀r k',k<=k'->CfgAt k' r exC->Q r k'):zff prog Q k:=by
 unfold zff
 refine newSl (enc:=fun x=>zac (sh_api_Ins.enc x)) (sz:=5) (xs:=[⟨1,0,0,0,1⟩,⟨1,1,0,0,5⟩,⟨24,2,0,1,0⟩,⟨0,0,0,0,0⟩]) rfl (fun _=>rfl) fun a1 k1 l1 o1=> ?_
 refine newSl (enc:=fun x=>zac (sh_api_Ins.enc x)) (sz:=5) (xs:=[⟨25,3,4,0,0⟩,⟨31,3,0,0,0⟩,⟨0,0,0,0,0⟩]) rfl (fun _=>rfl) fun a2 k2 l2 o2=> ?_
 refine newSl (enc:=fun x:Int=>zac ((shInt .u64).enc x)) (sz:=1) (xs:=[0,1]) rfl (fun _=>rfl) fun a3 k3 l3 o3=> ?_
 refine newSl (enc:=fun x:Int=>zac ((shInt .i64).enc x)) (sz:=1) (xs:=[0,1]) rfl (fun _=>rfl) fun a4 k4 l4 o4=> ?_
 refine newSl (enc:=fun x=>zac (sh_api_Proc.enc x)) (sz:=2) (xs:=[⟨0,⟨some a1,4,4⟩⟩,⟨1,⟨some a2,3,3⟩⟩]) rfl (fun _=>rfl) fun a5 k5 l5 o5=> ?_
 have r1:=Rw.mono (Hp.le_trans l2 (Hp.le_trans l3 (Hp.le_trans l4 l5))) (o1.srw fun _=>rfl)
 have r2:=Rw.mono (Hp.le_trans l3 (Hp.le_trans l4 l5)) (o2.srw fun _=>rfl)
 exact hq _ k5 (Hp.le_trans l1 (Hp.le_trans l2 (Hp.le_trans l3 (Hp.le_trans l4 l5)))) ⟨Rw.mono (Hp.le_trans l4 l5) (o3.srw fun _=>rfl),Rw.mono l5 (o4.srw fun _=>rfl),rfl,rfl,rfl,rfl,_,o5.srw fun _=>rfl,⟨rfl,_,r1,rfl⟩,⟨rfl,_,r2,rfl⟩,trivial⟩
theorem zpj2 :∀l∈exC.labels,InU l:=fun l hl=>by
 simp [exC] at hl
 omega
theorem awake15_ok {Q:Bool->Hp->Prop} (hq:∀h',k<=h'->Q true h'):zdy prog Q k:=by
 unfold zdy
 have mc:=zdk1 zbo2
 refine zqj (zvo1 fun r k1 l1 cr=> ?_)
 refine zwk (zio2 cr zpj2 (fun _ _ he=>absurd zbo2 he) fun pm k2 _ l2 st=>letW ?_)
 rw [if_neg (by simp)]
 obtain ⟨hb0,lb0,q0⟩:=st.pair
 refine LoopW2.intro (fun (ow:Int) (i:Int) k'=>0<=i/\i<=4/\ow=([0,0,1,2,5]:List Int).getD i.toNat 0/\Pair hb0 k' exC (exT i.toNat) (exT i.toNat) pm none) (fun _ i _=>(4-i).toNat) ⟨by omega,by omega,rfl,q0⟩ ?_
 rintro ow i k3 ⟨i0,i1,rfl,q⟩
 obtain ⟨g,et⟩:=zme2 i.toNat (by omega)
 by_cases h:i<4
 ·rw [if_pos (decide_eq_true h)]
  refine zeu (q.tick1 mc g.good (by omega) fun k4 q1=> ?_)
  rw [et]
  have:i=0\/i=1\/i=2\/i=3:=by omega
  rcases this with rfl | rfl | rfl | rfl<;>exact ⟨⟨by decide,by decide,rfl,q1.alone⟩,by decide⟩
 ·rw [if_neg (fun e=>h (of_decide_eq_true e))]
  obtain rfl:i=4:=by omega
  refine zbl (q.state1 mc g.good g.parts g.procs fun r3 hb1 k4 lb1 hr q1=> ?_)
  obtain ⟨ps,hps,hpa⟩:=hr.parts
  obtain ⟨qs,hqs,hqa⟩:=hr.procs
  have e1:=hpa.len
  have e2:=hqa.len
  have e3:r3.Parts.len=ps.length:=hps.1
  have e4:r3.Procs.len=qs.length:=hqs.1
  have e5:nP exC=2:=rfl
  have e6:nQ exC=2:=rfl
  have e7:=g.parts
  have e8:=g.procs
  have e9:=hr.tick
  have lk:=q1.le
  refine letW (letW (letW ?_))
  rw [show (((([0,0,1,2,5]:List Int).getD (4:Int).toNat 0 !=5 || r3.Tick !=4) || ((r3.Parts.len:Nat):Int) !=2) || ((r3.Procs.len:Nat):Int) !=2)=false by
   grind]
  have hlogp:∀x,ps[1]?=some x->∃es,EntS k4 x.Log es/\es.map zon=[⟨3,1,5⟩]:=fun x hx=>by
   obtain ⟨p,hp,ha⟩:=hpa.get hx
   obtain ⟨es,h1,h2⟩:=ha.log
   have:=zoi2
   rw [show (exT 4).parts[1]?=some p from hp] at this
   have h3:p.log=[⟨3,1,5⟩]:=Option.some.inj this
   exact ⟨es,Rw.mono lk h1,by rw [h2,h3]⟩
  refine Rw.fldC (Rw.mono lk hps) (fun _=>rfl) (by decide) (sh:=shSl) (fun q:S_api_Part=>q.Log) (j:=1) (fun _=>rfl) ⟨none,0,0⟩ (fun _=>by omega) fun y hy=> ?_
  obtain ⟨x,hx,rfl⟩:=hy rfl
  obtain ⟨es,hes,hem⟩:=hlogp x hx
  have hel:es.length=1:=by have:=congrArg List.length hem;grind
  have hxl:x.Log.len=es.length:=hes.1
  refine letW ?_
  rw [show (false || ((x.Log.len:Nat):Int) !=1)=false by rw [hxl,hel];rfl,if_neg (by decide)]
  refine Rw.fld (Rw.mono lk hps) (fun _=>rfl) (by decide) (sh:=shSl) (fun q:S_api_Part=>q.Log) (j:=1) (fun _=>rfl) (by omega) (by omega) fun x' hx'=> ?_
  have hx':ps[1]?=some x':=hx'
  rw [show ps[1]?=some x from hx] at hx'
  cases hx'
  refine Rs.get (sh:=sh_api_Entry) hes (fun _=>rfl) (by decide) (by omega) (by omega) fun (z:S_api_Entry) hz=> ?_
  have hzz:zon z=⟨3,1,5⟩:=by
   have hz':es[0]?=some z:=hz
   have:(es.map zon)[0]?=([⟨3,1,5⟩]:List zbf1)[0]?:=by rw [hem]
   grind
  have hz3:z=⟨3,1,5⟩:=zmq1 (hzz.trans rfl)
  subst hz3
  refine ⟨true,zuf1 [(⟨ "Tick",2,0,false, "", "",0⟩,.i64,3,3),(⟨ "Proc",3,1,false, "", "",8⟩,.i64,1,1),(⟨ "Value",2,2,false, "", "",16⟩,.i64,5,5)]
   (tb_ok.und 68 ty68 rfl) (by kernel_rfl) (by kernel_rfl) (fun q hq=> ?_),?_⟩
  ·simp only [List.mem_cons,List.not_mem_nil,or_false] at hq
   rcases hq with rfl | rfl | rfl
   ·exact ⟨by simp,tb_ok.und 2 ty2 rfl,rfl,rfl⟩
   ·exact ⟨by simp,tb_ok.und 3 ty3 rfl,rfl,rfl⟩
   ·exact ⟨by simp,tb_ok.und 2 ty2 rfl,rfl,rfl⟩
  ·refine Rw.fldC (Rw.mono lk hqs) (fun _=>rfl) (by decide) (sh:=shInt .i64) (fun q:S_api_Process=>q.State) (j:=0) (fun _=>rfl) (0:Int) (fun _=>by omega) fun y hy=> ?_
   obtain ⟨w,hw,rfl⟩:=hy rfl
   have hst:w.State=5:=by
    obtain ⟨p,hp,ha⟩:=hqa.get hw
    have:=ziw2
    rw [show (exT 4).procs[0]?=some p from hp] at this
    rw [ha.state]
    grind
   refine letW ?_
   rw [hst]
   refine zwf rfl (zdu (q1.inj1 mc g.good fun k5 q2=>letW ?_))
   have e17:(zle exC (msOf (exT 4)) 5 1).2=17:=rfl
   rw [show (Int.toNat 4)=4 from rfl,e17]
   exact hq k5 (Hp.le_trans l1 (Hp.le_trans lb0 (Hp.le_trans lb1 q2.le)))
end
end Lf
namespace Lf
open Go Go.Proofs Go.ChangeShapes Go.WideShapes Go.ChangeAt Go.RowKit
section
variable {H:Type} {enc:TypeId×Value->H} {W:World}
abbrev eOp :S_firebreaklaw15_Op->List Value:=fun x=>zac (sh_firebreaklaw15_Op.enc x)
theorem l_op :Lits enc Tryz.prog W 45 fun cs=>∃x,cs=eOp x/\(I64 x.Kind/\I64 x.N/\I64 x.V):=fun f cs y h hw=>by
 have hu:=tb_ok.und 45 ty45 rfl
 have hl:=zsc1 hu h
 rw [show Tryz.prog.cellsOf 45=3 by kernel_rfl] at hl
 obtain ⟨a0,h0,w0⟩:=zik hu h hw (i:=0) (off:=0) rfl rfl c_int li
 obtain ⟨a1,h1,w1⟩:=zik hu h hw (i:=1) (off:=1) rfl rfl c_int li
 obtain ⟨a2,h2,w2⟩:=zik hu h hw (i:=2) (off:=2) rfl rfl zim2 li64
 refine ⟨⟨a0,a1,a2⟩,?_,zbl2 w0,zbl2 w1,zbl2 w2⟩
 have e:cs=cs.drop 0:=rfl
 rw [e,zen (m:=1) h0 rfl,zen (m:=2) h1 rfl,zen (m:=3) h2 rfl,List.drop_of_length_le (Nat.le_of_eq hl)]
 rfl
theorem arg_ops {v:Value} {d:DataW H} {ps:List MemPlace} {base:Nat} (hv:Value.okWide Tryz.prog W .any base 28 v) (h:DataW.Trod enc Tryz.prog W 0 (fun _=>true) true 28 v d ps) (hw:(DataW.weights Tryz.prog 28 d).all (· <=reachBytes)=true):
  ∃(l:Sl) (xs:List S_firebreaklaw15_Op),v=l.v/\SlIn W 3 eOp (fun x=>I64 x.Kind/\I64 x.N/\I64 x.V) l xs:=by
 obtain ⟨a,n,c,rfl⟩:=okWide_slice (tb_ok.und 28 ty28 rfl) hv
 obtain ⟨fuel,hf⟩:=h
 obtain ⟨l,xs,h1,h2⟩:=ztp (enc:=enc) (W:=W) (tb_ok.und 28 ty28 rfl) eOp (fun x=>I64 x.Kind/\I64 x.N/\I64 x.V) (sz:=3) (by kernel_rfl) (by rw [show Tryz.prog.bytesOf 45=24 by kernel_rfl];omega) l_op (fun _=>rfl) fuel _ _ hf hw
 refine ⟨l,xs,?_,h2⟩
 have h1: [Value.slice a n c]=[l.v]:=h1
 exact List.cons.inj h1 |>.1
end
end Lf
