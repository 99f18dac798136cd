/-
  Part 2 of the texts that the claim leans on.
-/
import Derived.ScopeJumps
import Derived.ProofKit
import Derived.SizedLaws
import Derived.OpenShut
import Derived.Deep.DeepHandedRow
import Derived.Deep.DeepWitnessRowRef
import Derived.Lay
import Derived.MakeChecks
import Derived.Stop.LaidErr
import Derived.JoinedCond
import Derived.Shelf.LaysC
import Derived.Shelf.Strconv.ToError
import Derived.Shelf.Strconv.ToErrorRange
import Derived.Test.YtgmfbapkfjemnaaGreatDoorProg
import Ieee.Arith
import Derived.Test.YtgmfbapkfjemnaaGreatDoorMgAsmDoc0
set_option maxRecDepth 100000
namespace Lf
open Go
theorem condP {b:Bool} {p:Prop} (h:cond b p False):b=true/\p:=by
  grind
theorem zst1 {C:Ctx} {m:Nat->Bool} {L:List Oper} {s:St} {h:Hp}:∀ {ws:List Nat},zyl C m L s h ws->∀ {j:Nat} {p:Oper} {ch:Chain},j∈ws->L[j]? =some p->zif L L.length p=some ch->Again C m p ch s h
  | [],_,_,_,_,hj,_,_=>by cases hj
  | r::ws,ha,j,p,ch,hj,hp,hc=>by
    obtain ⟨h1,h2⟩:=ha
    rcases List.mem_cons.1 hj with rfl | hj
    · rw [zel,hp] at h1
      grind
    · exact zst1 h2 hj hp hc
theorem zgo2 {C:Ctx} {m:Nat->Bool} {p:Oper} {ch:Chain} {s:St} {h:Hp} (ha:Again C m p ch s h):∃d,p.dst=some d:=by
  cases hd:p.dst with
  | some d=>simp
  | none=>
    unfold Again at ha
    grind
section
variable {C:Ctx} {L:List Oper} {mok:List Nat} {n:Nat} {lv0:Nat->Prop} {β0:Nat->Nat} {a0:Act} {h0:Hp} {w0:World} {done ls:List Nat} {listed:Array Bool} {β:Nat->Nat} {s:St} {a:Act} {h:Hp} {w:World}
theorem zlb2 (hnd:(modsO L).Nodup) {i:Nat} {o:Oper} (hi:L[i]? =some o) (hid:i∉done) (t:Nat):CurP L (i::done) (i::ls) t↔(o.dst=some t\/CurP L done ls t):=by
  constructor
  · intro hc
    by_cases ht:o.dst=some t
    · exact .inl ht
    · exact .inr fun j p h1 h2 h3=>hc j p (List.mem_cons_of_mem _ h1) (fun e=>by
        grind) h3
  · rintro (ht | hc) j p h1 h2 h3
    · intro e
      exact h2 (by rw [zoo hnd h3 hi e ht];simp)
    · rcases List.mem_cons.1 h1 with e | h1
      · grind
      · exact hc j p h1 (fun e=>h2 (List.mem_cons_of_mem _ e)) h3
theorem zaa2 (hnd:(modsO L).Nodup) {i:Nat} {o:Oper} (hi:L[i]? =some o) (hid:i∉done) (k:Nat):LivP C L (i::done) (i::ls) k↔(privA C.priv o k\/LivP C L done ls k):=by
  constructor
  · rintro ⟨h1,h2⟩
    by_cases hp:privA C.priv o k
    · exact .inl hp
    · exact .inr ⟨fun j p e1 e2 e3=>h1 j p (List.mem_cons_of_mem _ e1) (fun e=>by
        grind) e3,fun e=>h2 ((zvk hnd hi hid k).2 ⟨hp,e⟩)⟩
  · rintro (hp | ⟨h1,h2⟩)
    · exact ⟨fun j p e1 e2 e3 e4=>e2 (by rw [zoo hnd e3 hi e4.2 hp.2];simp),fun e=>((zvk hnd hi hid k).1 e).1 hp⟩
    · refine ⟨fun j p e1 e2 e3=> ?_,fun e=>h2 ((zvk hnd hi hid k).1 e).2⟩
      grind
theorem zcr2 (ok:C.tb.Ok C.P) (hnd:(modsO L).Nodup) (hs:Sim C L mok n lv0 β0 a0 h0 w0 done ls listed β s a h w) {i:Nat} {o:Oper} (hi:L[i]? =some o) (hid:i∉done) (hah:∀j∈zdd (aheads L []) i,j∈ls)
    {ws:List Nat} (hwatch:(isVal C.tb o=true\/zaq C.priv o=true)\/∀j p,j∈done->L[j]? =some p->isVal C.tb p=true->zin1 C.tb p=true->j∈ws\/j∈zdd (aheads L []) i)
    {l:List Nat} {β':Nat->Nat} {s':St} {a':Act} {h':Hp} {w':World} (out:OpOut C l mok n (CurP L done ls) (LivP C L done ls) (DnP L done) (NnP C L done) o β s a h w β' s' a' h' w')
    (hag:zyl C (chg o s) L s' h' ws) {j:Nat} {p:Oper} (hjd:j∈done) (hjl:j∉ls) (hj:L[j]? =some p):
    PFact C L p s' h'/\looksOk L (aheads L []) j p=true/\isWar (aheads L []) j p L 0=false/\∀d,privA C.priv p d->d∈mok:=by
  obtain ⟨⟨ch,hch,hg,hpf⟩,hlk,hrest⟩:=hs.facts j p hjd hjl hj
  refine ⟨?_,hlk,hrest⟩
  have k:Like (DnP L done) p s s':=zzz1 hnd hs hi hid out.f hj hjd fun t ht e=>by
    rcases zcp2 hlk ht hi e with h1 | h1 | h1
    · exact hid (closD hs hj hjd h1)
    · exact hid (h1▸hjd)
    grind
  have hD:=zwn1 hs hj (hs.dclos j p hj hjd) hlk hch hg
  have hdD:∀d,p.dst=some d->DnP L done d:=fun d e=>⟨j,p,hjd,hj,e⟩
  have hmr:∀t,Operand.tmp t∈p.op.operands->∀b off c,(s.f t=some (.box b off,c)\/s.f t=some (.boxd b off,c))->holds s c->s'.m b=s.m b\/(chg o s b=true/\isVal C.tb o=false):=by
    intro t ht b off c hfb hh
    rcases out.m b with e | e | e
    · exact .inl e
    · exfalso
      have hN:NnP C L done b:=⟨i,o,hid,hi,e⟩
      rcases hfb with hfb | hfb
      · exact (hs.rr.nref b hN t _ c hfb hh off).1 rfl
      · exact (hs.rr.nref b hN t _ c hfb hh off).2 rfl
    grind
  refine ⟨ch,hch,by rw [zvj k hD];exact hg,?_⟩
  rcases hpf with ⟨hval,hrd,lv,hl,hrun,hprov,hsh⟩ | ⟨rfl,hval,d,cs,hpa,hfd,hmd',hrun⟩
  · have hsh':LdSh C.tb p ch s' lv:=fun hkd=>hsh (by rw [<-k.kind (s':=s')];exact hkd)
    refine .inl ⟨hval,by rw [k.kind];exact hrd,lv,fun d e=>by rw [k.dn d (hdD d e)];exact hl d e,fun hh'=> ?_,k.prov hprov,hsh'⟩
    have hh:=(k.holds' hD).1 hh'
    have hr:=hrun hh
    have hkk:kindD C.tb p ch s'=kindD C.tb p ch s:=k.kind
    rw [hkk]
    by_cases hpure:kindD C.tb p ch s=.pure
    · rw [hpure] at hr ⊢
      exact zxk k (fun e=>absurd rfl e) (fun e=>by cases e) hr
    · have hread:=hrd.resolve_right hpure
      rcases hwatch with hvp | hwatch
      · have hns:∀b,¬(chg o s b=true/\isVal C.tb o=false):=by
          rintro b ⟨e1,e2⟩
          rcases hvp with e | e
          · grind
          · unfold chg at e1
            unfold zaq at e
            grind
        have hhh:h'=h:=by
          rcases hvp with e | e
          · exact out.hv e
          · exact out.hp e
        exact zxk k (fun _ t ht b off c hfb hc=>(hmr t ht b off c hfb hc).resolve_right (hns b)) (fun _=>hhh) hr
      · have hws:j∈ws:=(hwatch j p hjd hj hval hread).resolve_right fun e=>hjl (hah j e)
        have ha:=zst1 hag hws hj hch
        obtain ⟨d,hd⟩:=zgo2 ha
        rcases zwm1 rfl ok ha hd ⟨ch,by rw [k.dn d (hdD d hd)];exact hl d hd⟩ hh' hsh' with h1 | ⟨h1,h2⟩ | ⟨h1,h2⟩
        · rw [hkk] at h1
          exact absurd h1 hpure
        · rw [hkk] at h1
          rw [h1] at hr ⊢
          exact zxk k (fun _ t ht b off c hfb hc=>(hmr t ht b off c hfb hc).resolve_right fun e=>by rw [h2 t b off c ht (by rw [k.op t ht];exact hfb)] at e;cases e.1) (fun e=>by cases e) hr
        grind
  · refine .inr ⟨rfl,hval,d,cs,hpa,by rw [k.dn d (hdD d hpa.2)];exact hfd,?_,zhk1 k hrun⟩
    rcases out.m d with e | e | e
    · rw [e];exact hmd'
    · exact absurd hjd (by rw [zoo hnd hj hi hpa.2 e.2];exact hid)
    · exact absurd hpa (e.2.2.2.1 j p hjd hjl hj)
theorem zlc2 (ok:C.tb.Ok C.P) {ops:Array Oper} (hops:ops.toList=L) (hnd:(modsO L).Nodup) (hlt:∀d∈modsO L,d<n) (hs:Sim C L mok n lv0 β0 a0 h0 w0 done ls listed β s a h w) {i:Nat} {o:Oper} (hi:L[i]? =some o) (hid:i∉done)
    (hw:∀k∈waits o,k∈ls) (hlk:looksOk L (aheads L []) i o=true) {ws:List Nat}
    (hwatch:(isVal C.tb o=true\/zaq C.priv o=true)\/∀j p,j∈done->L[j]? =some p->isVal C.tb p=true->zin1 C.tb p=true->j∈ws\/j∈zdd (aheads L []) i)
    {K:St->Hp->Prop} (hK:∀s1 h1,K s1 h1->zyl C (chg o s) L s1 h1 ws) (hv:opW C L mok o s h K) (next:Act->World->Prop) (Q:Exit->Act->World->Prop)
    (hn:∀s' h' β' a' w',K s' h'->Sim C L mok n lv0 β0 a0 h0 w0 (i::done) (i::ls) (listed.setIfInBounds i true) β' s' a' h' w'->next a' w'):wpOp C.P ops Q i next a w:=by
  have hah:∀j∈zdd (aheads L []) i,j∈ls:=fun j hj=>zmb hj (· ∈ls) hs.clos (fun o' ho'=>by grind)
  have hilt:i<L.length:=(List.getElem?_eq_some_iff.1 hi).1
  have hmem:=List.mem_of_getElem? hi
  refine zgh2 (l:=modsO L) ok (by grind) (by rw [hops];exact hv) hs.rr (fun t ht j p h1 h2 h3 h4=> ?_) (fun j b p d e1 e2 e3=> ?_) (fun d e=>⟨hlt d (zms hmem e),?_,zms hmem e⟩) (fun d hp=> ?_) next Q fun s' h' β' a' w' hk out=> ?_
  · have:=zkr1 h4 (hs.facts j p h1 h2 h3).2.2.1 i o hi ht
    grind
  · rw [hops,zel] at e2
    have hjl:=hah _ (zen1 hlk e1)
    refine ⟨fun j' p' h1 h2 h3 h4=> ?_,j,p,hs.lsub j hjl,e2,e3⟩
    have:=zoo hnd h3 e2 h4 e3
    grind
  · rintro ⟨j,p,h1,h2,h3⟩
    exact hid (by rw [<-zoo hnd h2 hi h3 e];exact h1)
  · have hN:NnP C L done d:=⟨i,o,hid,hi,hp⟩
    exact ⟨hN,fun e=>e.2 hN⟩
  · refine hn s' h' β' a' w' hk ⟨by simpa using hs.lsz,fun j=>znv1 hs.lsz hilt hs.lst,List.nodup_cons.2 ⟨fun e=>hid (hs.lsub i e),hs.lnd⟩,fun j hj=> ?_,fun j hj=> ?_,?_,?_,
      ⟨fun o' ho'=>by rw [zjl1 hi ho'];exact fun k hk=>hs.lsub k (hw k hk),hs.topo⟩,out.rr.congr (fun t=>zlb2 hnd hi hid t) (fun k=>zaa2 hnd hi hid k) zjm1 (fun k e=>(zvk hnd hi hid k).1 e),fun j p h1 h2 h3=> ?_,
      hs.seg.trans (out.seg.mono (fun _ e=>e) (fun _ e=>e) (fun _ e=>e) (fun k e=>⟨e.1,(zaa2 hnd hi hid k).1 e.2⟩))⟩
    · rcases List.mem_cons.1 hj with rfl | hj
      · simp
      · exact List.mem_cons_of_mem _ (hs.lsub j hj)
    · rcases List.mem_cons.1 hj with rfl | hj
      · exact hilt
      · exact hs.dlt j hj
    · intro j p hj hjm k hk'
      rcases List.mem_cons.1 hjm with rfl | hjm
      · grind
      · exact List.mem_cons_of_mem _ (hs.clos j p hj hjm k hk')
    · intro j p hj hjm k hk'
      rcases List.mem_cons.1 hjm with rfl | hjm
      · rw [zjl1 hi hj] at hk'
        exact List.mem_cons_of_mem _ (hs.lsub k (hw k hk'))
      · exact List.mem_cons_of_mem _ (hs.dclos j p hj hjm k hk')
    · have hne:j≠i:=fun e=>h2 (e▸List.mem_cons_self ..)
      exact zcr2 ok hnd hs hi hid hah hwatch out (hK _ _ hk) ((List.mem_cons.1 h1).resolve_left hne) (fun e=>h2 (List.mem_cons_of_mem _ e)) h3
theorem zop {ops:Array Oper} (hops:ops.toList=L) (hs:Sim C L mok n lv0 β0 a0 h0 w0 done ls listed β s a h w) {j:Nat}:
    j∈Region.ready .any ops listed↔j∉ls/\∃o,L[j]? =some o/\∀k∈waits o,k∈ls:=by
  rw [mem_ready]
  have hget:∀j:Nat,ops[j]? =L[j]?:=fun j=>by grind
  constructor
  · rintro ⟨h1,o,ho,h2⟩
    rw [hget] at ho
    refine ⟨fun e=> ?_,o,ho,fun k hk=> ?_⟩
    · have hlt:j<listed.size:=by rw [hs.lsz];exact (List.getElem?_eq_some_iff.1 ho).1
      have:=(hs.lst j).2 e
      grind
    · obtain ⟨e,he,rfl,hb⟩:=zgn2 hk
      exact (hs.lst _).1 (h2 e he hb)
  · rintro ⟨h1,o,ho,h2⟩
    refine ⟨?_,o,by grind,fun e he hb=>(hs.lst _).2 (h2 _ (zgi2 he hb))⟩
    have hlt:j<listed.size:=by rw [hs.lsz];exact (List.getElem?_eq_some_iff.1 ho).1
    cases e:listed.getD j true with
    | false=>rfl
    | true=>
      refine absurd ((hs.lst j).1 ?_) h1
      grind
theorem zua {tb:Tb} {priv:List Nat}:∀ {r:List (Nat×List Nat)} {done:List Nat} {last:Option Nat} {dE:List Nat} {lE:Option Nat},planGo tb priv L (aheads L []) r done last=true->zrt tb priv L (aheads L []) r done last=(dE,lE)->
    (∀x,x∈dE↔x∈done\/x∈r.map (·.1))/\(done.Nodup->dE.Nodup)/\(∀e,last=some e->∃e',lE=some e'/\(e'=e\/Ahead L e' e))
  | [],done,last,dE,lE,_,he=>by
    cases he
    grind
  | (i,ws)::r,done,last,dE,lE,h,he=>by
    obtain ⟨o,ho,_,_,hid,hlast,hc⟩:=ztz h
    have key:∀l',planGo tb priv L (aheads L []) r (i::done) l'=true->zrt tb priv L (aheads L []) r (i::done) l'=(dE,lE)->(l'=last\/l'=some i)->
        (∀x,x∈dE↔x∈done\/x∈((i,ws)::r).map (·.1))/\(done.Nodup->dE.Nodup)/\(∀e,last=some e->∃e',lE=some e'/\(e'=e\/Ahead L e' e)):=by
      intro l' h1 h2 hl
      obtain ⟨g1,g2,g3⟩:=zua h1 h2
      refine ⟨fun x=> ?_,fun hn=>g2 (List.nodup_cons.2 ⟨hid,hn⟩),fun e he'=> ?_⟩
      · rw [g1,List.mem_cons,List.map_cons,List.mem_cons]
        constructor
        · rintro ((h | h) | h)
          · exact .inr (.inl h)
          · exact .inl h
          · exact .inr (.inr h)
        · rintro (h | h | h)
          · exact .inl (.inr h)
          · exact .inl (.inl h)
          · exact .inr h
      · rcases hl with rfl | rfl
        · exact g3 e he'
        · obtain ⟨e',e1,e2⟩:=g3 i rfl
          have hie:=zmb (hlast e he')
          refine ⟨e',e1,.inr ?_⟩
          rcases e2 with rfl | e2
          · exact hie
          · intro X hX hw
            exact hie X hX fun o' ho' k hk=>hX i o' ho' (e2 X hX hw) k hk
    simp only [zrt,zel,ho] at he
    grind
theorem zab2 (ok:C.tb.Ok C.P) {ops:Array Oper} (hops:ops.toList=L) (hnd:(modsO L).Nodup) (hlt:∀d∈modsO L,d<n) {K0:St->Hp->Prop} {Q:Exit->Act->World->Prop} {dE:List Nat} {lE:Option Nat}
    (hLt:∀j,j<L.length->j∉dE->∀e,lE=some e->Ahead L j e)
    (fin:∀(fuel:Nat) (ls:List Nat) (listed:Array Bool) (β:Nat->Nat) (s:St) (a:Act) (h:Hp) (w:World),Sim C L mok n lv0 β0 a0 h0 w0 dE ls listed β s a h w->K0 s h->L.length<=fuel+ls.length->wpAny C.P .any ops Q fuel listed a w):
    ∀(fuel:Nat) (r:List (Nat×List Nat)) (done ls:List Nat) (listed:Array Bool) (last:Option Nat) (β:Nat->Nat) (s:St) (a:Act) (h:Hp) (w:World),
      Sim C L mok n lv0 β0 a0 h0 w0 done ls listed β s a h w->planGo C.tb C.priv L (aheads L []) r done last=true->zrt C.tb C.priv L (aheads L []) r done last=(dE,lE)->ordW C L mok r s h K0->
      L.length<=fuel+ls.length->wpAny C.P .any ops Q fuel listed a w:=by
  intro fuel
  induction fuel with
  | zero=>
    intro r done ls listed last β s a h w hs hp he hv hf
    have hall:∀j,j<L.length->j∈ls:=fun j hj=>zzw1 hs.lnd (fun x hx=>hs.dlt x (hs.lsub x hx)) (by omega) hj
    cases r with
    | nil=>cases he;exact fin 0 ls listed β s a h w hs hv hf
    | cons x r=>
      obtain ⟨i,ws⟩:=x
      obtain ⟨o,ho,_,_,hid,_⟩:=ztz hp
      exact absurd (hs.lsub i (hall i (List.getElem?_eq_some_iff.1 ho).1)) hid
  | succ fuel ih=>
    intro r
    induction r with
    | nil=>
      intro done ls listed last β s a h w hs hp he hv hf
      cases he
      exact fin (fuel+1) ls listed β s a h w hs hv hf
    | cons x r ihr=>
      intro done ls listed last β s a h w hs hp he hv hf
      obtain ⟨i,ws⟩:=x
      obtain ⟨o,ho,hw,hlk,hid,hlast,hc⟩:=ztz hp
      obtain ⟨hmem,_,_⟩:=zua hp he
      simp only [ordW,zel,ho] at hv
      obtain ⟨hkd,hv'⟩:=condP hv
      have rest:planGo C.tb C.priv L (aheads L []) r (i::done) (some i)=true->zrt C.tb C.priv L (aheads L []) r (i::done) (some i)=(dE,lE)->
          ((isVal C.tb o=true\/zaq C.priv o=true)\/∀j p,j∈done->L[j]? =some p->isVal C.tb p=true->zin1 C.tb p=true->j∈ws\/j∈zdd (aheads L []) i)->wpAny C.P .any ops Q (fuel+1) listed a w:=by
        intro hp' he' hwatch
        have hAll:∀s1 h1,(match (generalizing:=false) ws with
          | []=>ordW C L mok r s1 h1 K0
          | ws=>zyl C (chg o s) L s1 h1 ws/\ordW C L mok r s1 h1 K0)->zyl C (chg o s) L s1 h1 ws/\ordW C L mok r s1 h1 K0:=by
          intro s1 h1 e
          cases ws with
          | nil=>exact ⟨trivial,e⟩
          | cons x ws=>exact e
        refine ⟨fun hr=> ?_,fun j hj=> ?_⟩
        · exfalso
          by_cases hx:∃j∈done,j∉ls
          · obtain ⟨j,h1,h2,h3⟩:=zdf1 hs.topo hx
            have hi:=List.getElem?_eq_getElem (hs.dlt j h1)
            have:j∈Region.ready .any ops listed:=(zop hops hs).2 ⟨h2,_,hi,h3 _ hi⟩
            grind
          · have:i∈Region.ready .any ops listed:=(zop hops hs).2 ⟨fun e=>hid (hs.lsub i e),o,ho,fun k hk=>Classical.byContradiction fun e=>hx ⟨k,hw k hk,e⟩⟩
            grind
        · obtain ⟨h1,p,hp2,h2⟩:=(zop hops hs).1 hj
          by_cases hjd:j∈done
          · exact zkv1 ok hops hnd hs hp2 hjd h1 h2 _ Q fun β' a' w' hs'=>ih ((i,ws)::r) done (j::ls) _ last β' s a' h w' hs' hp he (by
              simp only [ordW,zel,ho]
              omega) (by simp;omega)
          · by_cases hji:j=i
            · subst hji
              rw [ho] at hp2;cases hp2
              exact zlc2 ok hops hnd hlt hs ho hid h2 hlk hwatch (fun s h e=>(hAll s h e).1) hv' _ Q fun s' h' β' a' w' hk hs'=>ih r (j::done) (j::ls) _ (some j) β' s' a' h' w' hs' hp' he' (hAll _ _ hk).2 (by simp;omega)
            · exfalso
              have hjl:=(List.getElem?_eq_some_iff.1 hp2).1
              have hah:Ahead L j i:=by
                by_cases hjr:j∈r.map (·.1)
                · exact znt1 hp' j hjr
                · have hjE:j∉dE:=fun h=>by
                    grind
                  obtain ⟨_,_,g3⟩:=zua hp' he'
                  obtain ⟨e',e1,e2⟩:=g3 i rfl
                  have h1:=hLt j hjl hjE e' e1
                  rcases e2 with rfl | e2
                  · exact h1
                  · intro X hX hw
                    exact e2 X hX fun o' ho' k hk=>hX e' o' ho' (h1 X hX hw) k hk
              have:=hah (· ∈ls) hs.clos fun o' ho'=>by grind
              exact hid (hs.lsub i this)
      simp only [zrt,zel,ho] at he
      rcases hc with ⟨hvp,hwar,hp'⟩ | ⟨hvp,hwar,hp'⟩ | ⟨hv1,hv2,hwt,hp'⟩
      · obtain ⟨s',hk,hs'⟩:=zla2 ok hnd hlt hs ho hid hw hlk hwar hvp hkd hv'
        grind
      · grind
      · exact rest hp' (by grind) (.inr fun j p hjd hj hv1 hr1=>zks1 hwt j hjd p hj hv1 hr1)
theorem zac2 {tb:Tb} {priv:List Nat} {rows:List (List Nat)}:∀ {r:List (Nat×List Nat)} {done:List Nat} {last:Option Nat},planGo tb priv L rows r done last=true->
    (r.map (·.1)).Nodup/\∀j∈r.map (·.1),j∉done/\j<L.length
  | [],_,_,_=>⟨.nil,fun j hj=>(nomatch hj)⟩
  | (i,ws)::r,done,last,h=>by
    obtain ⟨o,ho,_,_,hid,_,hc⟩:=ztz h
    have main:∀last',planGo tb priv L rows r (i::done) last'=true->_:=fun last' h'=>zac2 h'
    grind
theorem znx1 {priv:List Nat} {k:Nat}:∀ {L:List Oper},k∈zbe priv L↔∃(i:Nat) (o:Oper),L[i]? =some o/\privA priv o k
  | []=>by simp [zbe]
  | o::L=>by
    have ih:=znx1 (priv:=priv) (k:=k) (L:=L)
    have key:(∃(i:Nat) (p:Oper),(o::L)[i]? =some p/\privA priv p k)↔(privA priv o k\/∃(i:Nat) (p:Oper),L[i]? =some p/\privA priv p k):=by
      constructor
      · grind
      · rintro (h | ⟨i,p,h1,h2⟩)
        · exact ⟨0,o,by simp,h⟩
        · exact ⟨i+1,p,by simpa using h1,h2⟩
    rw [key,<-ih]
    by_cases hp:∃d,privA priv o d
    · obtain ⟨d,hp⟩:=hp
      rw [zvi hp,List.mem_cons]
      refine or_congr ⟨fun e=>e▸hp,fun e=> ?_⟩ .rfl
      have:=e.2
      rw [hp.2] at this;cases this;rfl
    · rw [zek1 fun d e=>hp ⟨d,e⟩]
      grind
end
theorem zyt :∀(l:List Oper) (j i k:Nat),(addE l j i)[k]? =(l[k]?).map fun o=>if k=j then {o with after:=⟨app o.after.toList [⟨i,.data⟩]⟩} else o
  | [],_,_,k=>by simp [addE]
  | o::r,0,i,0=>by simp [addE]
  | o::r,0,i,k+1=>by simp [addE]
  | o::r,j+1,i,0=>by simp [addE]
  | o::r,j+1,i,k+1=>by simp [addE,zyt r j i k]
theorem zdg1 :∀(l:List Oper) (j i:Nat),(addE l j i).length=l.length
  | [],_,_=>rfl
  | _::_,0,_=>rfl
  | o::r,j+1,i=>by simp [addE,zdg1 r j i]
theorem zrd :∀(l:List Oper) (j i:Nat),modsO (addE l j i)=modsO l
  | [],_,_=>rfl
  | _::_,0,_=>rfl
  | o::r,j+1,i=>by simp only [addE,modsO,zrd r j i]
section
variable {P:Program} {Q:Exit->Act->World->Prop} {ops ops':Array Oper} {i j:Nat}
theorem zkx1 (he:ops'.toList=addE ops.toList j i) {k:Nat} {K:Act->World->Prop} {a:Act} {w:World} (h:wpOp P ops' Q k K a w):wpOp P ops Q k K a w:=by
  have hget:∀k:Nat,ops'[k]? =(ops[k]?).map fun o=>if k=j then {o with after:=⟨app o.after.toList [⟨i,.data⟩]⟩} else o:=fun k=>by
    rw [<-Array.getElem?_toList,he,zyt,Array.getElem?_toList]
  have hy:∀tm,yielded ops' tm=yielded ops tm:=fun tm=>by
    funext q
    unfold yielded
    grind
  unfold wpOp at*
  rw [hget] at h
  cases ho:ops[k]? with
  | none=>grind
  | some o=>
    rw [ho] at h
    simp only [Option.map_some,hy] at h
    by_cases e:k=j
    · rw [if_pos e] at h;exact h
    grind
theorem zxl (he:ops'.toList=addE ops.toList j i) {k:Nat} {listed:Array Bool}:(k∈Region.ready .any ops' listed->k∈Region.ready .any ops listed)/\(k∈Region.ready .any ops listed->(k≠j\/listed.getD i false=true)->k∈Region.ready .any ops' listed):=by
  have hget:∀k:Nat,ops'[k]? =(ops[k]?).map fun o=>if k=j then {o with after:=⟨app o.after.toList [⟨i,.data⟩]⟩} else o:=fun k=>by
    rw [<-Array.getElem?_toList,he,zyt,Array.getElem?_toList]
  simp only [mem_ready,hget]
  constructor
  · rintro ⟨h0,o',ho,h1⟩
    refine ⟨h0,?_⟩
    cases e:ops[k]? with
    | none=>grind
    | some o=>
      rw [e] at ho
      refine ⟨o,rfl,fun x hx=>h1 x ?_⟩
      simp at ho
      subst ho
      split
      · rw [zio1];grind
      · exact hx
  · rintro ⟨h0,o,ho,h1⟩ hk
    refine ⟨h0,_,by rw [ho];rfl,fun x hx hb=> ?_⟩
    dsimp only at hx
    by_cases e:k=j
    · rw [if_pos e] at hx
      have hx:x∈(⟨app o.after.toList [⟨i,.data⟩]⟩:Array Edge):=hx
      rw [zio1] at hx
      simp at hx
      rcases hx with hx | hx
      · exact h1 x (by simpa using hx) hb
      · subst hx
        exact hk.resolve_left fun h=>h e
    grind
theorem zsu1 (he:ops'.toList=addE ops.toList j i):∀(fuel:Nat) (listed:Array Bool) (a:Act) (w:World),listed.getD i false=true->wpAny P .any ops' Q fuel listed a w->wpAny P .any ops Q fuel listed a w:=by
  have hr:∀listed:Array Bool,listed.getD i false=true->Region.ready .any ops listed=[]->Region.ready .any ops' listed=[]:=fun listed hi h0=>by
    refine List.eq_nil_iff_forall_not_mem.2 fun k hk=> ?_
    have:=(zxl he).1 hk
    grind
  have hr':∀listed:Array Bool,listed.getD i false=true->Region.ready .any ops' listed=[]->Region.ready .any ops listed=[]:=fun listed hi h0=>by
    refine List.eq_nil_iff_forall_not_mem.2 fun k hk=> ?_
    have:=(zxl he).2 hk (.inr hi)
    grind
  intro fuel
  induction fuel with
  | zero=>exact fun listed a w hi h=>⟨hr' listed hi h.1,h.2⟩
  | succ fuel ih=>
    intro listed a w hi h
    refine ⟨fun h0=>h.1 (hr listed hi h0),fun k hk=> ?_⟩
    exact wpOp_mono (fun a w h=>ih _ a w (getD_set_true hi) h) (zkx1 he (h.2 k ((zxl he).2 hk (.inr hi))))
end
section
variable {C:Ctx} {L:List Oper} {mok:List Nat} {n:Nat} {lv0:Nat->Prop} {β0:Nat->Nat} {a0:Act} {h0:Hp} {w0:World} {done ls:List Nat} {listed:Array Bool} {β:Nat->Nat} {s:St} {a:Act} {h:Hp} {w:World} {i j:Nat}
theorem zgp2 {k:Nat} (hk:k≠j):(addE L j i)[k]? =L[k]?:=by
  rw [zyt]
  grind
theorem zgq2 (k:Nat) {o:Oper}:(addE L j i)[k]? =some o->∃p,L[k]? =some p/\o.dst=p.dst/\o.op=p.op/\o.guard=p.guard:=by
  rw [zyt]
  grind
theorem addE_like' (k:Nat) {p:Oper} (h:L[k]? =some p):∃o,(addE L j i)[k]? =some o/\o.dst=p.dst/\o.op=p.op/\o.guard=p.guard:=by
  rw [zyt,h]
  grind
theorem zny1 :∀(m:Nat) (o:Oper),zif (addE L j i) m o=zif L m o
  | 0,_=>rfl
  | m+1,o=>by
    unfold zif
    cases o.guard with
    | none=>rfl
    | some g=>
      obtain ⟨q,b⟩:=g
      dsimp only
      rw [zel,zel]
      cases e:L[q]? with
      | none=>
        have:(addE L j i)[q]? =none:=by rw [zyt,e];rfl
        rw [this]
      | some p=>
        obtain ⟨p',e1,e2,_,e4⟩:=addE_like' (i:=i) (j:=j) q e
        rw [e1]
        dsimp only
        have:∀m,zif L m p'=zif L m p:=fun m=>by cases m<;>simp [zif,e4]
        rw [zny1 m p',this,e2]
theorem znz1 {priv:List Nat} {o p:Oper} (h1:o.dst=p.dst) (h2:o.op=p.op) (k:Nat):privA priv o k↔privA priv p k:=by
  unfold privA zaq
  rw [h1,h2]
theorem zad2 {L0:List Oper} {rows0 rows:List (List Nat)}:∀ {done:List Nat},znk1 L0 rows0 L rows done=true->∀k∈done,∀o,L[k]? =some o->isWar rows0 k o L0 0=false->looksOk L rows k o=true/\isWar rows k o L 0=false
  | [],_,k,hk,_,_,_=>by cases hk
  | q::r,h,k,hk,o,ho,hw=>by
    unfold znk1 at h
    obtain ⟨h1,h2⟩:=condT h
    rcases List.mem_cons.1 hk with rfl | hk
    · rw [zel,ho] at h1
      grind
    · exact zad2 h2 k hk o ho hw
theorem zwo1 {rows:List (List Nat)} {i:Nat} {done:List Nat}:∀ {m:Nat},znj1 rows i done m=true->∀k,k<m->k∉done->k≠i->i∈zdd rows k
  | 0,_,k,hk,_,_=>by omega
  | m+1,h,k,hk,hd,hi=>by
    unfold znj1 at h
    obtain ⟨h1,h2⟩:=condT h
    by_cases e:k=m
    · subst e
      have e1:has done k=false:=by
        cases e:has done k with
        | false=>rfl
        | true=>exact absurd ((zlb _ _).1 e) hd
      have e2:Nat.beq k i=false:=by
        cases e:Nat.beq k i with
        | false=>rfl
        | true=>exact absurd (Nat.eq_of_beq_eq_true e) hi
      rw [e1,e2] at h1
      exact (zlb _ _).1 h1
    · exact zwo1 h2 k (by omega) hd hi
theorem zgr2 (hs:Sim C L mok n lv0 β0 a0 h0 w0 done ls listed β s a h w) (hj:j∉done) (hk:znk1 L (aheads L []) (addE L j i) (aheads (addE L j i) []) done=true):
    Sim C (addE L j i) mok n lv0 β0 a0 h0 w0 done ls listed β s a h w:=by
  have hne:∀q,q∈done->(addE L j i)[q]? =L[q]?:=fun q hq=>zgp2 fun e=>hj (e▸hq)
  have hcur:CurP (addE L j i) done ls=CurP L done ls:=funext fun t=>propext ⟨fun h q o h1 h2 h3=>h q o h1 h2 ((hne q h1).trans h3),fun h q o h1 h2 h3=>h q o h1 h2 ((hne q h1).symm.trans h3)⟩
  have hdn:DnP (addE L j i) done=DnP L done:=funext fun t=>propext ⟨fun ⟨q,o,h1,h2,h3⟩=>⟨q,o,h1,(hne q h1).symm.trans h2,h3⟩,fun ⟨q,o,h1,h2,h3⟩=>⟨q,o,h1,(hne q h1).trans h2,h3⟩⟩
  have hnn:NnP C (addE L j i) done=NnP C L done:=funext fun t=>propext ⟨fun ⟨q,o,h1,h2,h3⟩=>by
      obtain ⟨p,e1,e2,e3,_⟩:=zgq2 q h2
      exact ⟨q,p,h1,e1,(znz1 e2 e3 t).1 h3⟩,fun ⟨q,o,h1,h2,h3⟩=>by
      obtain ⟨p,e1,e2,e3,_⟩:=addE_like' (i:=i) (j:=j) q h2
      exact ⟨q,p,h1,e1,(znz1 e2 e3 t).2 h3⟩⟩
  have hlv:LivP C (addE L j i) done ls=LivP C L done ls:=funext fun t=>propext (by
    unfold LivP
    rw [hnn]
    grind)
  have hcl:∀X:List Nat,(∀q∈X,q∈done)->Clos L (· ∈X)->Clos (addE L j i) (· ∈X):=fun X hX hc q o ho hq=>hc q o ((hne q (hX q hq)).symm.trans ho) hq
  have htp:∀d:List Nat,(∀q∈d,q∈done)->Topo L d->Topo (addE L j i) d:=by
    intro d
    induction d with
    | nil=>intro _ _;trivial
    | cons q d ih=>
      intro hd ht
      exact ⟨fun o ho=>ht.1 o ((hne q (hd q (List.mem_cons_self ..))).symm.trans ho),ih (fun x hx=>hd x (List.mem_cons_of_mem _ hx)) ht.2⟩
  refine ⟨by rw [zdg1];exact hs.lsz,hs.lst,hs.lnd,hs.lsub,fun q hq=>by rw [zdg1];exact hs.dlt q hq,hcl ls hs.lsub hs.clos,hcl done (fun _ h=>h) hs.dclos,htp done (fun _ h=>h) hs.topo,?_,fun q o h1 h2 h3=> ?_,?_⟩
  · rw [hcur,hlv,hdn,hnn];exact hs.rr
  · have h3':=(hne q h1).symm.trans h3
    obtain ⟨f1,f2,f3,f4⟩:=hs.facts q o h1 h2 h3'
    obtain ⟨g1,g2⟩:=zad2 hk q h1 o h3 f3
    refine ⟨?_,g1,g2,f4⟩
    unfold PFact at*
    rw [zdg1,zny1]
    exact f1
  · rw [zrd,hlv];exact hs.seg
end
theorem zgs2 {l m:List Nat} (hm:m.Nodup) (hl:l.Nodup) (hs:∀x∈l,x∈m):l.length<=m.length:=by
  induction l generalizing m with
  | nil=>simp
  | cons a l ih=>
    obtain ⟨h1,h2⟩:=List.nodup_cons.1 hl
    have ha:=hs a (List.mem_cons_self ..)
    have:=ih (m:=m.erase a) (hm.erase a) h2 fun x hx=>(hm.mem_erase_iff).2 ⟨fun e=>h1 (e▸hx),hs x (List.mem_cons_of_mem _ hx)⟩
    grind
theorem zgt2 {C:Ctx} {L:List Oper} {mok:List Nat} {n:Nat} {lv0:Nat->Prop} {β0:Nat->Nat} {a0:Act} {h0:Hp} {w0:World} {K:St->Hp->Prop} {Q:Exit->Act->World->Prop} {done ls:List Nat} {listed:Array Bool} {β:Nat->Nat} {s:St} {a:Act} {h:Hp} {w:World}
    (hs:Sim C L mok n lv0 β0 a0 h0 w0 done ls listed β s a h w) (hall:∀j,j<L.length->j∈done) (hdl:∀j∈done,j∈ls) (hk:K s h)
    (hQ:∀s' h' β' a' w',K s' h'->RR n (fun _=>True) (fun _=>True) (fun _=>True) (fun _=>False) β' s' a' h' w'->Seg (modsO L) mok lv0 β0 a0 h0 w0 (lives s') β' a' h' w'->Q .normal a' w'):Q .normal a w:=by
  have hN:∀k,¬NnP C L done k:=fun k ⟨j,p,h1,h2,_⟩=>h1 (hall j (List.getElem?_eq_some_iff.1 h2).1)
  have hL:∀k,True↔LivP C L done ls k:=fun k=>⟨fun _=>⟨fun j p h1 h2 _=>absurd (hdl j h1) h2,hN k⟩,fun _=>trivial⟩
  exact hQ s h β a w hk (hs.rr.congr (fun t=>⟨fun _ j p h1 h2 _=>absurd (hdl j h1) h2,fun _=>trivial⟩) hL (fun _ _=>trivial) (fun _ e=>e.elim)) (hs.seg.mono (fun _ e=>e) (fun _ e=>e) (fun _ e=>e) (fun k e=>⟨e.1,(hL k).1 trivial⟩))
theorem zcs2 {C:Ctx} (ok:C.tb.Ok C.P) {mok:List Nat} {n:Nat} {lv0:Nat->Prop} {β0:Nat->Nat} {a0:Act} {h0:Hp} {w0:World} {K:St->Hp->Prop} {Q:Exit->Act->World->Prop}:
    ∀(A:Ann) (ops:Array Oper) (done:List Nat) (last:Option Nat),(modsO ops.toList).Nodup->(∀d∈modsO ops.toList,d<n)->planT C.tb C.priv A ops.toList done last=true->done.Nodup->
    (∀s' h' β' a' w',K s' h'->RR n (fun _=>True) (fun _=>True) (fun _=>True) (fun _=>False) β' s' a' h' w'->Seg (modsO ops.toList) mok lv0 β0 a0 h0 w0 (lives s') β' a' h' w'->Q .normal a' w')->
    ∀(fuel:Nat) (ls:List Nat) (listed:Array Bool) (β:Nat->Nat) (s:St) (a:Act) (h:Hp) (w:World),Sim C ops.toList mok n lv0 β0 a0 h0 w0 done ls listed β s a h w->regW C mok K A ops.toList s h->ops.toList.length<=fuel+ls.length->
      wpAny C.P .any ops Q fuel listed a w:=by
  intro A
  induction A with
  | rg ord=>
    intro ops done last hnd hlt hp hdn hQ fuel ls listed β s a h w hs hv hf
    unfold planT at hp
    obtain ⟨hlen,hp⟩:=condT hp
    have hlen:=Nat.eq_of_beq_eq_true hlen
    have hall:∀dE lE,zrt C.tb C.priv ops.toList (aheads ops.toList []) ord done last=(dE,lE)->∀j,j<ops.toList.length->j∈dE:=fun dE lE he j hj=>by
      obtain ⟨m1,m2,_⟩:=zua hp he
      have hidx:=zac2 hp
      refine zzw1 (m2 hdn) (fun x hx=> ?_) ?_ hj
      · rcases (m1 x).1 hx with h1 | h1
        · exact hs.dlt x h1
        grind
      · have h1:(done++ord.map (·.1)).Nodup:=List.nodup_append.2 ⟨hdn,hidx.1,fun x hx y hy e=>(hidx.2 y hy).1 (e▸hx)⟩
        have h2:=zgs2 (m2 hdn) h1 fun x hx=>by rw [List.mem_append] at hx;exact (m1 x).2 hx
        grind
    cases he:zrt C.tb C.priv ops.toList (aheads ops.toList []) ord done last with
    | mk dE lE=>
      have hall:=hall dE lE he
      refine zab2 (mok:=mok) (K0:=K) ok rfl hnd hlt (dE:=dE) (lE:=lE) (fun j hj hn=>absurd (hall j hj) hn) ?_ fuel ord done ls listed last β s a h w hs hp he hv hf
      clear hs hv hf
      intro fuel
      induction fuel with
      | zero=>
        intro ls listed β s a h w hs hv hf
        have hl:∀j,j<ops.toList.length->j∈ls:=fun j hj=>zzw1 hs.lnd (fun x hx=>hs.dlt x (hs.lsub x hx)) (by omega) hj
        refine ⟨List.eq_nil_iff_forall_not_mem.2 fun k hk=> ?_,zgt2 hs hall (fun j hj=>hl j (hs.dlt j hj)) hv hQ⟩
        obtain ⟨h1,o,ho,_⟩:=(zop rfl hs).1 hk
        grind
      | succ fuel ih=>
        intro ls listed β s a h w hs hv hf
        refine ⟨fun hr=>zgt2 hs hall (fun j hj=>Classical.byContradiction fun e=> ?_) hv hQ,fun j hj=> ?_⟩
        · obtain ⟨i,h1,h2,h3⟩:=zdf1 hs.topo ⟨j,hj,e⟩
          have hi:=List.getElem?_eq_getElem (hs.dlt i h1)
          have:i∈Region.ready .any ops listed:=(zop rfl hs).2 ⟨h2,_,hi,h3 _ hi⟩
          grind
        · obtain ⟨h1,o,ho,h2⟩:=(zop rfl hs).1 hj
          exact zkv1 ok rfl hnd hs ho (hall j (List.getElem?_eq_some_iff.1 ho).1) h1 h2 _ Q fun β' a' w' hs'=>ih (j::ls) _ β' s a' h w' hs' hv (by grind)
  | r2 pre i j x y ihx ihy=>
    intro ops done last hnd hlt hp hdn hQ fuel ls listed β s a h w hs hv hf
    unfold planT at hp
    obtain ⟨hpre,hp⟩:=condT hp
    cases he:zrt C.tb C.priv ops.toList (aheads ops.toList []) pre done last with
    | mk dE lE=>
      rw [he] at hp
      dsimp only at hp
      obtain ⟨hno,hp⟩:=condT hp
      obtain ⟨hpx,hpy⟩:=condT hp
      obtain ⟨m1,m2,_⟩:=zua hpre he
      unfold znx2 at hno
      cases hij:Nat.beq i j with
      | true=>grind
      | false=>
        rw [hij] at hno
        have hij:i≠j:=fun e=>by rw [e] at hij;simp at hij
        simp only [cond_false,zel] at hno
        cases hoi:ops.toList[i]? with
        | none=>grind
        | some o=>
          cases hoj:ops.toList[j]? with
          | none=>grind
          | some p=>
            rw [hoi,hoj] at hno
            dsimp only at hno
            cases hdi:has dE i with
            | true=>grind
            | false=>
              cases hdj:has dE j with
              | true=>grind
              | false=>
                rw [hdi,hdj] at hno
                simp only [cond_false] at hno
                have hdi:=zom hdi
                have hdj:=zom hdj
                obtain ⟨hwi,hno⟩:=condT hno
                obtain ⟨hwj,hno⟩:=condT hno
                obtain ⟨hla,hno⟩:=condT hno
                obtain ⟨ha1,hno⟩:=condT hno
                obtain ⟨ha2,hno⟩:=condT hno
                obtain ⟨hk1,hk2⟩:=condT hno
                refine zab2 (mok:=mok) ok rfl hnd hlt (dE:=dE) (lE:=lE) (fun k hk hn e hle=> ?_) ?_ fuel pre done ls listed last β s a h w hs hpre he hv hf
                · subst hle
                  by_cases hke:k=e
                  · subst hke
                    exact absurd ((zlb _ _).1 (condT hla).1) hn
                  · exact zmb (zwo1 (condT hla).2 k hk hn hke)
                · clear hs hv hf
                  have hil:i<ops.toList.length:=(List.getElem?_eq_some_iff.1 hoi).1
                  intro fuel
                  induction fuel with
                  | zero=>
                    intro ls listed β s a h w hs hv hf
                    exact absurd (hs.lsub i (zzw1 hs.lnd (fun x hx=>hs.dlt x (hs.lsub x hx)) (by omega) hil)) hdi
                  | succ fuel ih=>
                    intro ls listed β s a h w hs hv hf
                    have s1:=zgr2 hs hdj hk1
                    have s2:=zgr2 hs hdi hk2
                    have kx:=ihx (addE ops.toList j i).toArray dE lE (by simpa [zrd] using hnd) (by simpa [zrd] using hlt) hpx (m2 hdn) (by simpa [zrd] using hQ) (fuel+1) ls listed β s a h w s1 hv.1 (by simpa [zdg1] using hf)
                    have ky:=ihy (addE ops.toList i j).toArray dE lE (by simpa [zrd] using hnd) (by simpa [zrd] using hlt) hpy (m2 hdn) (by simpa [zrd] using hQ) (fuel+1) ls listed β s a h w s2 hv.2 (by simpa [zdg1] using hf)
                    have hset:∀ {k:Nat},k∈Region.ready .any ops listed->(listed.setIfInBounds k true).getD k false=true:=fun {k} hk=>by
                      have h0:=(mem_ready.1 hk).1
                      have hlt:k<listed.size:=by
                        grind
                      simp [hlt]
                    refine ⟨fun hr=> ?_,fun k hk=> ?_⟩
                    · exfalso
                      by_cases hx:∃j∈dE,j∉ls
                      · obtain ⟨q,h1,h2,h3⟩:=zdf1 hs.topo hx
                        have hi:=List.getElem?_eq_getElem (hs.dlt q h1)
                        have:q∈Region.ready .any ops listed:=(zop rfl hs).2 ⟨h2,_,hi,h3 _ hi⟩
                        grind
                      · have:i∈Region.ready .any ops listed:=(zop rfl hs).2 ⟨fun e=>hdi (hs.lsub i e),o,hoi,fun k hk=>Classical.byContradiction fun e=>hx ⟨k,zxj hwi k hk,e⟩⟩
                        grind
                    · obtain ⟨h1,q,hq,h2⟩:=(zop rfl hs).1 hk
                      by_cases hkd:k∈dE
                      · exact zkv1 ok rfl hnd hs hq hkd h1 h2 _ Q fun β' a' w' hs'=>ih (k::ls) _ β' s a' h w' hs' hv (by grind)
                      · by_cases hki:k=i
                        · subst hki
                          exact wpOp_mono (fun a w h=>zsu1 rfl _ _ a w (hset hk) h) (zkx1 rfl (kx.2 k ((zxl rfl).2 hk (.inl hij))))
                        · by_cases hkj:k=j
                          · subst hkj
                            exact wpOp_mono (fun a w h=>zsu1 rfl _ _ a w (hset hk) h) (zkx1 rfl (ky.2 k ((zxl rfl).2 hk (.inl fun e=>hij e.symm))))
                          · exfalso
                            have hkl:=(List.getElem?_eq_some_iff.1 hq).1
                            have hah:=zmb (zwo1 ha1 k hkl hkd hki) (· ∈ls) s1.clos fun o' ho'=>by rw [zgp2 hkj,hq] at ho';grind
                            exact hdi (hs.lsub i hah)
  | _=>intro ops done last _ _ hp;cases hp
theorem zgu2 {C:Ctx} (ok:C.tb.Ok C.P) {ops:Array Oper} {mok:List Nat} {n:Nat} {A:Ann} {β:Nat->Nat} {s:St} {a:Act} {h:Hp} {w:World} {K:St->Hp->Prop} {Q:Exit->Act->World->Prop} {id:Nat}
    (h1:nodup (modsO ops.toList)=true) (hp:planT C.tb C.priv A ops.toList [] none=true) (hlt:∀d∈modsO ops.toList,d<n) (hr:Rel n β s a h w) (hv:regW C mok K A ops.toList (s.dropB (zbe C.priv ops.toList)) h)
    (hQ:∀s' h' β' a' w',K s' h'->Rel n β' s'.clean a' h' w'->Seg (modsO ops.toList) mok (lives s) β a h w (lives s') β' a' h' w'->Q .normal a' w'):(Code.region id ops true).wp C.P Q a w:=by
  have hnd:=zfw1 h1
  refine wp_region_any ok.mixed ?_
  have hst:Step h h w {w with drawn:=w.drawn+1}:=⟨hr.sub,Nat.le_refl _,fun _ _ e=>⟨rfl,e⟩,rfl,rfl,rfl⟩
  have hr0:=(hr.step hst).start (zbe C.priv ops.toList)
  have hN:∀k,NnP C ops.toList [] k↔k∈zbe C.priv ops.toList:=fun k=>by
    rw [znx1]
    exact ⟨fun ⟨i,o,_,h2,h3⟩=>⟨i,o,h2,h3⟩,fun ⟨i,o,h2,h3⟩=>⟨i,o,by simp,h2,h3⟩⟩
  have hL:∀k,LivP C ops.toList [] [] k↔k∉zbe C.priv ops.toList:=fun k=>by
    rw [<-hN]
    exact ⟨fun e=>e.2,fun e=>⟨fun i o h1=>absurd h1 List.not_mem_nil,e⟩⟩
  refine zcs2 (mok:=mok) (n:=n) (lv0:=lives s) (β0:=β) (a0:=a) (h0:=h) (w0:=w) (K:=K) ok A ops [] none hnd hlt hp .nil (fun s' h' β' a' w' hk hr' hs'=>hQ s' h' β' a' w' hk hr'.clean hs') ops.size [] _ β (s.dropB (zbe C.priv ops.toList)) a h _
    ⟨by simp,fun i=> ?_,.nil,fun i e=>absurd e List.not_mem_nil,fun i e=>absurd e List.not_mem_nil,fun i o _ e=>absurd e List.not_mem_nil,fun i o _ e=>absurd e List.not_mem_nil,trivial,?_,fun i o e=>absurd e List.not_mem_nil,?_⟩ hv (by simp)
  · by_cases hi:i<ops.size
    · simp [hi]
    · simp [hi]
  · exact hr0.congr (fun t=>⟨fun _=>trivial,fun _ i o e=>absurd e List.not_mem_nil⟩) hL (fun _ e=>e.elim) (fun k e=>(hN k).1 e)
  · exact (Seg.step (lv:=lives s) hst).mono (fun _ e=>e) (fun _ e=>e) (fun _ e=>e) (fun k e=>zso1 (l:=zbe C.priv ops.toList) ⟨e.1,(hL k).1 e.2⟩)
def exOf :Ex->Exit
  | .nrm=>.normal
  | .ret=>.ret
  | .ext i=>.exit i
  | .gto i=>.goto i
theorem zae2 {p:Nat->Prop}:(∃n,p n)->∃n,p n/\∀m,p m->n<=m:=by
  rintro ⟨n,hn⟩
  induction n using Nat.strongRecOn with
  | _ n ih=>
    grind
theorem zpu1 {P:Program} {c:Code} {Q:Exit->Act->World->Prop} {a:Act} {w:World} (J:Nat->Act->World->Prop) (h0:∃n,J n a w)
    (round:∀n a w,J n a w->c.wp P (Exit.then (fun a' w'=>∃m,m<n/\J m a' w') Q) a w):(Code.loop c).wp P Q a w:=by
  classical
  let μ:Act->World->Nat:=fun a w=>if h:∃n,J n a w then Classical.choose (zae2 h) else 0
  have hμ:∀a w,(h:∃n,J n a w)->J (μ a w) a w/\∀m,J m a w->μ a w<=m:=fun a w h=>by
    have:=Classical.choose_spec (zae2 h)
    simp only [μ,dif_pos h]
    exact this
  refine wp_loop (fun a w=>∃n,J n a w) μ h0 fun a w hJ=> ?_
  refine wp_mono (round (μ a w) a w (hμ a w hJ).1) fun e a' w' hq=> ?_
  grind
section
variable {n:Nat} {β:Nat->Nat} {s:St} {a:Act} {h:Hp} {w:World}
structure Mix (s s' s2:St) (a':Act) (n:Nat) (l mm:List Nat):Prop where
  f:∀t v c,s2.f t=some (v,c)->c=[]/\((s.f t=some (v,[])/\t∉l/\∀k o,(v=.box k o\/v=.boxd k o)->k∉l)\/(∃x,v=.v x/\a'.eval (.tmp t)=x/\t<n))
  m:∀k cs,s2.m k=some cs->(s.m k=some cs/\k∉mm)\/s'.m k=some cs
theorem zrp2 {l mm:List Nat} {β':Nat->Nat} {s' s2:St} {a':Act} {h':Hp} {w':World} (hr:Rel n β s a h w) (hs:Seg l mm (lives s) β a h w (lives s') β' a' h' w') (hr':Rel n β' s' a' h' w') (hm:Mix s s' s2 a' n l mm):
    Rel n β' s2 a' h' w'/\Seg l mm (lives s) β a h w (lives s2) β' a' h' w':=by
  have hkeep:∀k cs,s.m k=some cs->k∉mm->β' k=β k/\β k<w.heap.size/\h' (β k)=none/\∃ct,w'.heap[β k]? =some (.cells cs.toArray ct (0,0)):=by
    intro k cs e hk
    obtain ⟨h1,ct,h2⟩:=hr.box k cs e trivial
    have hne:∀k'∈mm,lives s k'->β k'≠β k:=fun k' hk' hl e'=>hk (by rw [hr.inj k k' (by simp [e]) hl.1 trivial trivial e'.symm];exact hk')
    refine ⟨hs.beta k (.inr hk),zhj1 h2,hs.unk _ (zhj1 h2) h1 hne,ct,?_⟩
    rw [hs.keep _ (zhj1 h2) h1 hne]
    exact h2
  have hnew:∀k,s'.m k≠none->(s.m k≠none/\β' k=β k)\/w.heap.size<=β' k:=fun k e=>(hs.fresh k ⟨e,trivial⟩).imp (fun e=>⟨e.1.1,e.2⟩) id
  refine ⟨⟨hr'.sz,hr'.sub,fun t v c e=> ?_,fun t v c e p hp=> ?_,fun t v c e _ _=> ?_,fun t v c e _ hh=> ?_,fun k cs e _=> ?_,fun k k' e e' _ _ he=> ?_,fun _ e=>e.elim,fun _ e=>e.elim⟩,?_⟩
  · obtain ⟨_,h1 | ⟨x,_,_,h1⟩⟩:=hm.f t v c e
    · exact hr.lt t v [] h1.1
    · exact h1
  · rw [(hm.f t v c e).1] at hp;cases hp
  · refine ⟨?_,fun _ _ _=>trivial⟩
    obtain ⟨_,⟨h1,h2,h3⟩ | ⟨x,rfl,h1,_⟩⟩:=hm.f t v c e
    · rw [hs.tmp t h2,(hr.cur t v [] h1 trivial (zbj _)).1]
      cases v with
      | v x=>rfl
      | box k o=>simp only [LVal,hs.beta k (.inl (h3 k o (.inl rfl)))]
      | boxd k o=>simp only [LVal,hs.beta k (.inl (h3 k o (.inr rfl)))]
    · exact h1
  · rw [(hm.f t v c e).1] at hh;exact absurd (zbj _) hh
  · rcases hm.m k cs e with ⟨h1,h2⟩ | h1
    · grind
    · exact hr'.box k cs h1 trivial
  · obtain ⟨cs,e⟩:=Option.ne_none_iff_exists'.1 e
    obtain ⟨cs',e'⟩:=Option.ne_none_iff_exists'.1 e'
    rcases hm.m k cs e with ⟨h1,h2⟩ | h1
    · obtain ⟨e1,e2,_⟩:=hkeep k cs h1 h2
      rcases hm.m k' cs' e' with ⟨h1',h2'⟩ | h1'
      · obtain ⟨e1',_⟩:=hkeep k' cs' h1' h2'
        rw [e1,e1'] at he
        exact hr.inj k k' (by simp [h1]) (by simp [h1']) trivial trivial he
      · rcases hnew k' (by simp [h1']) with ⟨e3,e4⟩ | e3
        · rw [e1,e4] at he
          exact hr.inj k k' (by simp [h1]) e3 trivial trivial he
        omega
    · rcases hm.m k' cs' e' with ⟨h1',h2'⟩ | h1'
      · obtain ⟨e1',e2',_⟩:=hkeep k' cs' h1' h2'
        rcases hnew k (by simp [h1]) with ⟨e3,e4⟩ | e3
        · rw [e1',e4] at he
          exact hr.inj k k' e3 (by simp [h1']) trivial trivial he
        omega
      · exact hr'.inj k k' (by simp [h1]) (by simp [h1']) trivial trivial he
  · refine ⟨hs.tmp,hs.beta,hs.size,hs.unk,hs.keep,fun k e=> ?_,hs.os,hs.tape,hs.output,hs.defers⟩
    obtain ⟨cs,e⟩:=Option.ne_none_iff_exists'.1 e.1
    rcases hm.m k cs e with ⟨h1,h2⟩ | h1
    · exact .inl ⟨⟨by simp [h1],trivial⟩,(hkeep k cs h1 h2).1⟩
    · exact hs.fresh k ⟨by simp [h1],trivial⟩
def shO :Option Ty->Shape
  | some e=>e.sh
  | none=>znh1
theorem zgv2 (tb:Tb) (t:Nat):shOf tb t=shO (tb.ty t):=by
  unfold shOf shO
  grind
theorem zpf2 {P:Program} {tb:Tb} (ok:tb.Ok P) {t:Nat} (ha:zzf1 tb t=false):∀(x:(shOf tb t).T) (cs:Array Value),(shOf tb t).enc x≠ .agg cs:=by
  rw [zgv2]
  unfold zzf1 at ha
  cases he:tb.ty t with
  | none=>intro x cs e;cases e
  | some e=>
    rw [he] at ha
    intro x cs
    exact ((ok.leaf t e he ha).2 x).2 cs
theorem zpv1 {tb:Tb} {t:Nat} {v:Value} {K:(shOf tb t).T->Prop} (h:decK tb t v K):∃x,(shOf tb t).enc x=v/\K x:=by
  unfold decK at h
  cases hi:isIfT tb t with
  | true=>rw [hi] at h;exact h
  | false=>
    rw [hi] at h
    simp only [cond_false] at h
    split at h
    · rename_i x hx;exact ⟨x,(shOf tb t).ok v x hx,h⟩
    · exact h.elim
theorem zaf2 {P:Program} {tb:Tb} (ok:tb.Ok P) {t:Nat} {cs:List Value} {v:Value} {x:(shOf tb t).T} (h1:zpi1 tb t cs=some v) (hv:(shOf tb t).enc x=v):zaj ((shOf tb t).enc x)=cs:=by
  rw [hv]
  unfold zpi1 at h1
  cases ha:zzf1 tb t with
  | true=>
    rw [ha] at h1
    cases h1
    rfl
  | false=>
    rw [ha] at h1
    simp only [cond_false] at h1
    split at h1
    · cases h1
      have hne:∀cs,v≠ .agg cs:=fun cs e=>zpf2 ok ha x cs (hv.trans e)
      cases v<;>first | rfl | grind
    · cases h1
theorem zoa1 {P:Program} {tb:Tb} (ok:tb.Ok P) {l mm:List Nat} {β':Nat->Nat} {s' s2:St} {a':Act} {h':Hp} {w':World} (hr':Rel n β' s' a' h' w') {j:J} {K:(shOf tb j.t).T->Prop} (hg:zzg1 tb s' j K)
    (hm:Mix s s' s2 a' n l mm):∃x,K x/\Mix s s' (zsf1 tb j x s2) a' n l mm:=by
  unfold zzg1 at hg
  cases hM:j.isM with
  | true=>
    rw [hM] at hg
    simp only [cond_true] at hg
    split at hg
    · rename_i cs hcs
      split at hg
      · rename_i v hv
        · obtain ⟨x,hx,hg⟩:=zpv1 hg
          refine ⟨x,hg,?_⟩
          have hc:=zaf2 ok hv hx
          unfold zsf1
          rw [hM]
          simp only [cond_true,hc]
          refine ⟨hm.f,fun k cs' e=> ?_⟩
          by_cases hk:k=j.i
          · subst hk
            rw [zfu1] at e;grind
          · rw [ztx _ _ hk] at e
            exact hm.m k cs' e
      · exact hg.elim
    · exact hg.elim
  | false=>
    rw [hM] at hg
    simp only [cond_false] at hg
    split at hg
    · rename_i v hv
      · obtain ⟨x,hx,hg⟩:=zpv1 hg
        refine ⟨x,hg,?_⟩
        unfold zsf1
        rw [hM]
        simp only [cond_false]
        rw [hx]
        refine ⟨fun t u c e=> ?_,fun k cs e=>hm.m k cs (by rwa [put_m] at e)⟩
        by_cases ht:t=j.i
        · subst ht
          rw [zyr] at e;cases e
          exact ⟨rfl,.inr ⟨v,rfl,(hr'.cur j.i _ [] hv trivial (zbj _)).1,hr'.lt _ _ _ hv⟩⟩
        · rw [zkq1 _ _ _ ht] at e
          exact hm.f t u c e
    · exact hg.elim
theorem zag2 {P:Program} {tb:Tb} (ok:tb.Ok P) {l mm:List Nat} {β':Nat->Nat} {s':St} {a':Act} {h':Hp} {w':World} (hr':Rel n β' s' a' h' w'):∀ {js:List J} {s2:St} {K:JTup tb js->Prop},getJ tb js s' K->
    Mix s s' s2 a' n l mm->∃x,K x/\Mix s s' (setJ tb js x s2) a' n l mm
  | [],s2,K,hg,hm=>⟨(),hg,hm⟩
  | [j],s2,K,hg,hm=>zoa1 ok hr' hg hm
  | j::j2::js,s2,K,hg,hm=>by
    obtain ⟨x,hx,hm'⟩:=zoa1 ok hr' hg hm
    obtain ⟨y,hy,hm2⟩:=zag2 ok hr' (js:=j2::js) hx hm'
    exact ⟨(x,y),hy,hm2⟩
theorem zct2 (hr:Rel n β s a h w) {l mm:List Nat} {s':St} {a':Act}:Mix s s' (s.forget l mm) a' n l mm:=by
  refine ⟨fun t v c e=> ?_,fun k cs e=> ?_⟩
  · simp only [St.forget] at e
    cases ht:has l t with
    | true=>simp [ht] at e
    | false=>
      simp only [ht,cond_false] at e
      obtain ⟨h1,h2⟩:=dropL'_some e
      have hc:c=[]:=by
        cases c with
        | nil=>rfl
        | cons p c=>exact (hr.chain t v _ h1 p (List.mem_cons_self ..)).elim
      subst hc
      exact ⟨rfl,.inl ⟨h1,zom ht,h2⟩⟩
  · simp only [St.forget] at e
    cases hk:has mm k with
    | true=>simp [hk] at e
    | false=>
      simp only [hk,cond_false] at e
      exact .inl ⟨e,zom hk⟩
theorem zfy1 {P:Program} {tb:Tb} (ok:tb.Ok P) {l mm:List Nat} {β':Nat->Nat} {s':St} {a':Act} {h':Hp} {w':World} (hr:Rel n β s a h w) (hs:Seg l mm (lives s) β a h w (lives s') β' a' h' w') (hr':Rel n β' s' a' h' w')
    {js:List J} {K:JTup tb js->Prop} (hg:getJ tb js s' K):
    ∃x,K x/\Rel n β' (setJ tb js x (s.forget l mm)) a' h' w'/\Seg l mm (lives s) β a h w (lives (setJ tb js x (s.forget l mm))) β' a' h' w':=by
  obtain ⟨x,hx,hm⟩:=zag2 ok hr' hg (zct2 (s':=s') (a':=a') hr)
  obtain ⟨h1,h2⟩:=zrp2 hr hs hr' hm
  grind
end
theorem zpg2 {n:Nat} {β:Nat->Nat} {s:St} {a:Act} {h:Hp} {w:World} {l mm:List Nat} {β':Nat->Nat} {s':St} {a':Act} {h':Hp} {w':World} {k:Nat} {K:St->Hp->Prop} (hk:k∈mm) (hs:Seg l mm (lives s) β a h w (lives s') β' a' h' w') (hr:Rel n β' s' a' h' w') (hp:pubW k s' h' K):
    ∃s2 h2,K s2 h2/\Rel n β' s2 a' h2 w'/\Seg l mm (lives s) β a h w (lives s2) β' a' h2 w':=by
  unfold pubW at hp
  split at hp
  · rename_i k' off cs hf hm
    obtain ⟨h1,hp1⟩:=condP hp
    obtain ⟨h2,hp2⟩:=condP hp1
    clear hp hp1
    have h1:=Nat.eq_of_beq_eq_true h1
    have h2:=Nat.eq_of_beq_eq_true h2
    subst h1 h2
    obtain ⟨hn,ct,hw⟩:=hr.box k cs hm trivial
    have hset:∀x,(h'.set (β' k) (.cells cs.toArray ct (0,0))) x=if x=β' k then some (.cells cs.toArray ct (0,0)) else h' x:=fun x=>rfl
    have hmm:∀i cs',cond (Nat.beq i k) none (s'.m i)=some cs'->i≠k/\s'.m i=some cs':=fun i cs' e=>by
      grind
    have hff:∀t v c,cond (Nat.beq t k) (some (LV.v (.pointer (some ⟨β' k,0,none⟩)),([]:Chain))) (s'.f t)=some (v,c)->(t=k/\v=LV.v (.pointer (some ⟨β' k,0,none⟩))/\c=[])\/s'.f t=some (v,c):=fun t v c e=>by
      by_cases hi:t=k
      · grind
      · rw [zdy1 hi] at e;exact .inr e
    refine ⟨_,_,hp2 (β' k) ct hn,⟨hr.sz,fun b o e=> ?_,fun t v c e=> ?_,fun t v c e p hpp=> ?_,fun t v c e _ hh=> ?_,fun t v c e _ hh=> ?_,fun i cs' e _=> ?_,fun i j e e' _ _ he=> ?_,fun _ e=>e.elim,fun _ e=>e.elim⟩,?_⟩
    · rw [hset] at e
      split at e
      · grind
      · exact hr.sub b o e
    · rcases hff t v c e with ⟨rfl,_,_⟩ | e
      · exact hr.lt t _ _ hf
      · exact hr.lt t v c e
    · rcases hff t v c e with ⟨rfl,_,rfl⟩ | e
      · cases hpp
      · exact hr.chain t v c e p hpp
    · have hh':holds s' c:=by
        have:c=[]:=by
          rcases hff t v c e with ⟨_,_,h⟩ | e
          · exact h
          · cases c with
            | nil=>rfl
            | cons p c=>exact (hr.chain t v _ e p (List.mem_cons_self ..)).elim
        subst this;exact zbj _
      rcases hff t v c e with ⟨rfl,rfl,rfl⟩ | e
      · refine ⟨?_,fun _ _ _=>trivial⟩
        exact (hr.cur t _ _ hf trivial (zbj _)).1
      · exact ⟨(hr.cur t v c e trivial hh').1,fun _ _ _=>trivial⟩
    · have:c=[]:=by
        rcases hff t v c e with ⟨_,_,h⟩ | e
        · exact h
        · cases c with
          | nil=>rfl
          | cons p c=>exact (hr.chain t v _ e p (List.mem_cons_self ..)).elim
      subst this;exact absurd (zbj _) hh
    · obtain ⟨h1,h2⟩:=hmm i cs' e
      obtain ⟨h3,ct',h4⟩:=hr.box i cs' h2 trivial
      refine ⟨?_,ct',h4⟩
      rw [hset,if_neg]
      · exact h3
      · intro e'
        exact h1 (hr.inj i k (by simp [h2]) (by simp [hm]) trivial trivial e')
    · obtain ⟨ci,e⟩:=Option.ne_none_iff_exists'.1 e
      obtain ⟨cj,e'⟩:=Option.ne_none_iff_exists'.1 e'
      exact hr.inj i j (by grind) (by grind) trivial trivial he
    · refine ⟨hs.tmp,hs.beta,hs.size,fun b hb hn' hne=> ?_,hs.keep,fun i hi=> ?_,hs.os,hs.tape,hs.output,hs.defers⟩
      · rw [hset,if_neg]
        · exact hs.unk b hb hn' hne
        · rintro rfl
          rcases hs.fresh k ⟨by simp [hm],trivial⟩ with ⟨e1,e2⟩ | e1
          · grind
          · omega
      · obtain ⟨ci,e⟩:=Option.ne_none_iff_exists'.1 hi.1
        exact hs.fresh i ⟨by grind,trivial⟩
  · exact hp.elim
theorem app_mem {x y:List Nat} {d:Nat}:d∈app x y↔d∈x\/d∈y:=by rw [zio1,List.mem_append]
theorem condN {α:Type} {c:Bool} {x:Option α} {y:α} (e:cond c x none=some y):c=true/\x=some y:=by
  grind
theorem zob1 {l:Nat}:∀ {c:Code},noLab c l=true->findLabel c l=none:=by
  intro c
  induction c with
  | seq a b iha ihb=>
    intro e
    simp only [noLab] at e
    cases ha:noLab a l with
    | false=>grind
    | true=>rw [ha] at e;simp only [findLabel,iha ha];exact ihb e
  | label l'=>
    intro e
    simp only [noLab] at e
    by_cases hl:l'=l
    · subst hl;simp at e
    · simp [findLabel,hl]
  | _=>intro _;rfl
theorem zoc1 {x y:Code} {l:Nat} (hx:∀l',x≠ .label l'):zpw (.seq x y) l=cond (noLab x l) (zpw y l) none:=by
  cases x<;>first | rfl | grind
theorem zld2 {C:Ctx} {x y:Code} {l:Nat} {A:Ann} {mok:List Nat} {s:St} {E:Env} {h:Hp} (hx:∀l',x≠ .label l'):
    liftM C (.seq x y) (.fr l) A mok s E h=liftM C x .full A.fst mok s (E.nrm fun s' h'=>liftM C y (.fr l) A.snd mok s' E h') h:=by
  cases x<;>first | rfl | exact absurd rfl (hx _)
theorem zle2 {C:Ctx} {x y:Code} {l:Nat} {A:Ann} {mok:List Nat} {s:St} {E:Env} {h:Hp} (hx:∀l',x≠ .label l'):
    liftM C (.seq x y) (.pr l) A mok s E h=match (generalizing:=false) A with
      | .gj _ js mm z _=>cond (allIn mm mok) (liftM C x .full .tt mok s (E.noGto.nrm fun s' h'=>
          JoinT (fun (R:JTup C.tb js->Hp->Prop)=>liftM C y (.fr l) z mm s' (E.lab l fun s' h'=>getJ C.tb js s' fun x=>R x h') h')
            (fun x h'=>liftM C y (.rs l) A.snd mok (setJ C.tb js x (s'.forget (mods y) mm)) E.noGto h')) h) False
      | _=>liftM C x .full A.fst mok s (E.noGto.nrm fun s' h'=>liftM C y (.pr l) A.snd mok s' E h') h:=by
  cases x<;>first | rfl | exact absurd rfl (hx _)
theorem zea1 {l:Nat} {Q:Exit->Act->World->Prop} {J:Act->World->Prop} {e:Exit} {a:Act} {w:World} (he:Exit.noGoto Q e a w):Exit.jump l J Q e a w:=by
  cases e<;>first | exact he | exact he.elim
theorem zlf2 {C:Ctx} {x y:Code} {l:Nat} {A:Ann} {mok:List Nat} {s:St} {E:Env} {h:Hp} (hx:∀l',x≠ .label l'):
    liftM C (.seq x y) (.rs l) A mok s E h=liftM C y (.rs l) A mok s E h:=by
  cases x<;>first | rfl | grind
theorem zwp1 {l:Nat} {r:Code}:∀ {c:Code},zpw c l=some r->findLabel c l=some (.seq .skip r):=by
  intro c
  induction c with
  | seq x y ihx ihy=>
    intro e
    by_cases hx:∃l',x=.label l'
    · obtain ⟨l',rfl⟩:=hx
      obtain ⟨h1,e⟩:=condN e
      obtain rfl:y=r:=Option.some.inj e
      obtain rfl:=Nat.eq_of_beq_eq_true h1
      simp [findLabel]
    · rw [zoc1 (fun l' e=>hx ⟨l',e⟩)] at e
      obtain ⟨h1,e⟩:=condN e
      simp only [findLabel,zob1 h1]
      exact ihy e
  | _=>intro e;simp [zpw] at e
theorem zky1 {x y:Code} {l:Nat} (hx:∀l',x≠ .label l'):zfl (.seq x y) l=cond (noLab x l) (zfl y l) none:=by
  cases x<;>first | rfl | grind
theorem zlg2 {C:Ctx} {x y:Code} {l:Nat} {A:Ann} {mok:List Nat} {s:St} {E:Env} {h:Hp} (hx:∀l',x≠ .label l'):
    liftM C (.seq x y) (.rz l) A mok s E h=liftM C y (.rz l) A mok s E h:=by
  cases x<;>first | rfl | grind
theorem zsv1 {l:Nat} {r:Code}:∀ {c:Code},zfl c l=some r->findLabel c l=some (.seq .skip r):=by
  intro c
  induction c with
  | seq x y ihx ihy=>
    intro e
    by_cases hx:∃l',x=.label l'
    · obtain ⟨l',rfl⟩:=hx
      by_cases hl:l'=l
      · subst hl
        simp only [zfl,Nat.beq_refl,cond_true] at e
        obtain rfl:y=r:=Option.some.inj e
        simp [findLabel]
      · simp only [zfl,zdy1 hl,cond_false] at e
        have hb:¬((l'==l)=true):=fun h=>hl (by simpa using h)
        simp only [findLabel,if_neg hb]
        exact ihy e
    · rw [zky1 (fun l' e=>hx ⟨l',e⟩)] at e
      obtain ⟨h1,e⟩:=condN e
      simp only [findLabel,zob1 h1]
      exact ihy e
  | _=>intro e;simp [zfl] at e
def OutOf (P:Program) (x:Code) (Q:Exit->Act->World->Prop) (c:Code) (a:Act) (w:World):Prop:=
  ∀b k cs,∃e a' w',Q e a' w'/\Arrives P (lone (b.at a (.code c:: .inScope x::k)) cs w) b k cs e a' w'
def ToLab (P:Program) (x:Code) (Q:Exit->Act->World->Prop):Exit->Act->World->Prop
  | .goto l,a,w=>∃r,findLabel x l=some r/\OutOf P x Q r a w
  | e,a,w=>Q e a w
theorem zah2 {P:Program} {x c:Code} {Q:Exit->Act->World->Prop} {a:Act} {w:World} (h:c.wp P (ToLab P x Q) a w):OutOf P x Q c a w:=by
  intro b k cs
  obtain ⟨e,a₁,w₁,hq,harr⟩:=h b (.inScope x::k) cs
  cases e with
  | normal=>exact ⟨.normal,a₁,w₁,hq,Steps.trans harr (.one step_inScope)⟩
  | exit id=>exact ⟨.exit id,a₁,w₁,hq,fun k' hk=>harr k' (by simp [exitTo,hk])⟩
  | goto l=>
    obtain ⟨r,hf,hr⟩:=hq
    have hg:gotoIn l (.inScope x::k)=some (.code r:: .inScope x::k):=by simp [gotoIn,hf]
    obtain ⟨e₂,a₂,w₂,hq₂,harr₂⟩:=hr b k cs
    exact ⟨e₂,a₂,w₂,hq₂,.of_steps (harr _ hg) harr₂⟩
  | ret=>exact ⟨_,a₁,w₁,hq,harr⟩
  | panic ch=>exact ⟨_,a₁,w₁,hq,harr⟩
  | outgrown=>exact ⟨_,a₁,w₁,hq,harr⟩
theorem zsw1 {P:Program} {x:Code} {Q:Exit->Act->World->Prop} {a:Act} {w:World} (h:OutOf P x Q x a w):(Code.scope x).wp P Q a w:=by
  intro b k cs
  obtain ⟨e,a₁,w₁,hq,harr⟩:=h b k cs
  exact ⟨e,a₁,w₁,hq,.of_steps (.one step_scope) harr⟩
theorem zwq1 {C:Ctx} (ok:C.tb.Ok C.P) {n:Nat}:∀(c:Code),
    (∀(A:Ann) (mok:List Nat) (s:St) (E:Env) (h:Hp),(∀d∈mods c,d<n)->liftM C c .full A mok s E h->∀(β:Nat->Nat) (a:Act) (w:World),Rel n β s a h w->
      ∀Q:Exit->Act->World->Prop,(∀e s' h' β' a' w',E e s' h'->Rel n β' s' a' h' w'->Seg (mods c) mok (lives s) β a h w (lives s') β' a' h' w'->Q (exOf e) a' w')->c.wp C.P Q a w)/\
    (∀l r,zpw c l=some r->
      (∀(A:Ann) (mok:List Nat) (s:St) (E:Env) (h:Hp),(∀d∈mods c,d<n)->liftM C c (.fr l) A mok s E h->∀(β:Nat->Nat) (a:Act) (w:World),Rel n β s a h w->
        ∀Q:Exit->Act->World->Prop,(∀s' h' β' a' w',E .nrm s' h'->Rel n β' s' a' h' w'->Seg (mods c) mok (lives s) β a h w (lives s') β' a' h' w'->r.wp C.P Q a' w')->
        (∀e s' h' β' a' w',e≠ .nrm->E e s' h'->Rel n β' s' a' h' w'->Seg (mods c) mok (lives s) β a h w (lives s') β' a' h' w'->Q (exOf e) a' w')->c.wp C.P Q a w)/\
      (∀(A:Ann) (mok:List Nat) (s:St) (E:Env) (h:Hp),(∀d∈mods c,d<n)->liftM C c (.rs l) A mok s E h->∀(β:Nat->Nat) (a:Act) (w:World),Rel n β s a h w->
        ∀Q:Exit->Act->World->Prop,(∀e s' h' β' a' w',E e s' h'->Rel n β' s' a' h' w'->Seg (mods c) mok (lives s) β a h w (lives s') β' a' h' w'->Q (exOf e) a' w')->r.wp C.P Q a w)/\
      (∀(A:Ann) (mok:List Nat) (s:St) (E:Env) (h:Hp),(∀d∈mods c,d<n)->liftM C c (.pr l) A mok s E h->∀(β:Nat->Nat) (a:Act) (w:World),Rel n β s a h w->
        ∀Q:Exit->Act->World->Prop,(∀e s' h' β' a' w',(∀i,e≠ .gto i)->E e s' h'->Rel n β' s' a' h' w'->Seg (mods c) mok (lives s) β a h w (lives s') β' a' h' w'->Q (exOf e) a' w')->
        c.wp C.P (Exit.jump l (fun a' w'=>r.wp C.P (Exit.noGoto Q) a' w') Q) a w))/\
    ∀l r,zfl c l=some r->
      ∀(A:Ann) (mok:List Nat) (s:St) (E:Env) (h:Hp),(∀d∈mods c,d<n)->liftM C c (.rz l) A mok s E h->∀(β:Nat->Nat) (a:Act) (w:World),Rel n β s a h w->
        ∀Q:Exit->Act->World->Prop,(∀e s' h' β' a' w',E e s' h'->Rel n β' s' a' h' w'->Seg (mods c) mok (lives s) β a h w (lives s') β' a' h' w'->Q (exOf e) a' w')->r.wp C.P Q a w:=by
  intro c
  induction c with
  | skip=>
    refine ⟨?_,fun l r e=>by simp [zpw] at e,fun l r e=>by simp [zfl] at e⟩
    intro A mok s E h _ hv β a w hr Q hQ;exact wp_skip (hQ .nrm s h β a w hv hr (Seg.refl _ _))
  | ret=>
    refine ⟨?_,fun l r e=>by simp [zpw] at e,fun l r e=>by simp [zfl] at e⟩
    intro A mok s E h _ hv β a w hr Q hQ;exact wp_ret (hQ .ret s h β a w hv hr (Seg.refl _ _))
  | exit i=>
    refine ⟨?_,fun l r e=>by simp [zpw] at e,fun l r e=>by simp [zfl] at e⟩
    intro A mok s E h _ hv β a w hr Q hQ;exact wp_exit (hQ (.ext i) s h β a w hv hr (Seg.refl _ _))
  | goto i=>
    refine ⟨?_,fun l r e=>by simp [zpw] at e,fun l r e=>by simp [zfl] at e⟩
    intro A mok s E h _ hv β a w hr Q hQ;exact wp_goto (hQ (.gto i) s h β a w hv hr (Seg.refl _ _))
  | label i=>
    refine ⟨?_,fun l r e=>by simp [zpw] at e,fun l r e=>by simp [zfl] at e⟩
    intro A mok s E h _ hv β a w hr Q hQ;exact wp_label (hQ .nrm s h β a w hv hr (Seg.refl _ _))
  | region id ops draw=>
    refine ⟨?_,fun l r e=>by simp [zpw] at e,fun l r e=>by simp [zfl] at e⟩
    intro A mok s E h hlt hv β a w hr Q hQ
    have hclean:∀s':St,∀k,lives s'.clean k↔lives s' k:=fun s' k=>.rfl
    cases draw with
    | true=>
      simp only [liftM] at hv
      obtain ⟨hp,hv⟩:=condP hv
      obtain ⟨h1,hp⟩:=condT hp
      exact zgu2 ok h1 hp hlt hr hv fun s' h' β' a' w' hk hr' hs'=>hQ .nrm s'.clean h' β' a' w' hk hr' hs'
    | false=>
      simp only [liftM] at hv
      obtain ⟨hp,hv⟩:=condP hv
      unfold seqOk at hp
      obtain ⟨h1,hp⟩:=condT hp
      have hst:=hr.start (zbe C.priv ops.toList)
      have main:∀g:Bool,(g=false->zeg1 ops.toList=true)->(g=true->(modsO ops.toList).Nodup/\zma ops.toList 0=true)->(Code.region id ops false).wp C.P Q a w:=by
        intro g hg1 hg2
        refine wp_region ?_
        have:=zsp1 (n:=n) (mok:=mok) (K:=fun s' h'=>E .nrm s'.clean h') (Q:=Q) ok g hlt hg1 hg2 ops.toList [] β _ a h w rfl (zfw1 h1) hv
          (hst.congr (fun _=>.rfl) (fun _=>.rfl) (fun _ e=>e.elim) (fun _ e=>e)) (fun s' h' β' a' w' hk hr' hs'=>hQ .nrm s'.clean h' β' a' w' hk hr'.clean
            (hs'.mono (fun _ e=>e) (fun _ e=>e) (fun k e=>zso1 e) (fun _ e=>e)))
        rw [List.range_eq_range']
        simpa using this
      cases hng:zeg1 ops.toList with
      | true=>exact main false (fun _=>hng) (fun e=>by cases e)
      | false=>
        rw [hng] at hp
        simp only [cond_false] at hp
        obtain ⟨h2,h3⟩:=condT hp
        exact main true (fun e=>by cases e) (fun _=>⟨zfw1 h2,h3⟩)
  | seq x y ihx ihy=>
    have hmx:∀d∈mods x,d∈mods (.seq x y):=fun d hd=>app_mem.2 (.inl hd)
    have hmy:∀d∈mods y,d∈mods (.seq x y):=fun d hd=>app_mem.2 (.inr hd)
    refine ⟨?_,fun l r e=> ?_,fun l r e=> ?_⟩
    rotate_left
    rotate_left
    · intro A mok s E h hlt hv β a w hr Q hQ
      have hly:∀d∈mods y,d<n:=fun d hd=>hlt d (hmy d hd)
      by_cases hx:∃l',x=.label l'
      · obtain ⟨l',rfl⟩:=hx
        by_cases hl:l'=l
        · subst hl
          simp only [zfl,Nat.beq_refl,cond_true] at e
          obtain rfl:y=r:=Option.some.inj e
          simp only [liftM,Nat.beq_refl,cond_true] at hv
          exact ihy.1 _ _ _ _ _ hly hv β a w hr Q fun e s' h' β' a' w' he hr' hs'=>hQ e s' h' β' a' w' he hr' (hs'.mono hmy (fun _ e=>e) (fun _ e=>e) (fun _ e=>e))
        · simp only [zfl,zdy1 hl,cond_false] at e
          simp only [liftM,zdy1 hl,cond_false] at hv
          exact ihy.2.2 l r e _ mok s E h hly hv β a w hr Q fun e' s' h' β' a' w' he hr' hs'=>hQ e' s' h' β' a' w' he hr' (hs'.mono hmy (fun _ e=>e) (fun _ e=>e) (fun _ e=>e))
      · rw [zky1 (fun l' e=>hx ⟨l',e⟩)] at e
        obtain ⟨-,e⟩:=condN e
        rw [zlg2 (fun l' e=>hx ⟨l',e⟩)] at hv
        exact ihy.2.2 l r e _ mok s E h hly hv β a w hr Q fun e' s' h' β' a' w' he hr' hs'=>hQ e' s' h' β' a' w' he hr' (hs'.mono hmy (fun _ e=>e) (fun _ e=>e) (fun _ e=>e))
    rotate_left
    · by_cases hx:∃l',x=.label l'
      · obtain ⟨l',rfl⟩:=hx
        obtain ⟨-,e⟩:=condN e
        obtain rfl:y=r:=Option.some.inj e
        refine ⟨fun A mok s E h hlt hv β a w hr Q h1 _=> ?_,fun A mok s E h hlt hv β a w hr Q hQ=> ?_,fun A mok s E h hlt hv=>hv.elim⟩
        · exact wp_seq (wp_label (h1 s h β a w hv hr (Seg.refl _ _)))
        · exact ihy.1 _ _ _ _ _ (fun d hd=>hlt d (hmy d hd)) hv β a w hr Q fun e s' h' β' a' w' he hr' hs'=>hQ e s' h' β' a' w' he hr' (hs'.mono hmy (fun _ e=>e) (fun _ e=>e) (fun _ e=>e))
      · rw [zoc1 (fun l' e=>hx ⟨l',e⟩)] at e
        obtain ⟨-,e⟩:=condN e
        refine ⟨fun A mok s E h hlt hv β a w hr Q h1 h2=> ?_,fun A mok s E h hlt hv β a w hr Q hQ=> ?_,fun A mok s E h hlt hv β a w hr Q hQ=> ?_⟩
        · rw [zld2 (fun l' e=>hx ⟨l',e⟩)] at hv
          refine wp_seq ?_
          refine ihx.1 _ mok s _ h (fun d hd=>hlt d (hmx d hd)) hv β a w hr _ fun e' s' h' β' a' w' he hr' hs'=> ?_
          have hs1:=hs'.mono (mm':=mok) hmx (fun _ e=>e) (fun _ e=>e) (fun _ e=>e)
          cases e' with
          | nrm=>
            exact ((ihy.2.1 l r e).1 _ mok _ E h' (fun d hd=>hlt d (hmy d hd)) he β' a' w' hr' Q
              (fun s2 h2 β2 a2 w2 he2 hrr hss=>h1 s2 h2 β2 a2 w2 he2 hrr (hs1.trans (hss.mono hmy (fun _ e=>e) (fun _ e=>e) (fun _ e=>e))))
              (fun e2 s2 h2' β2 a2 w2 hne he2 hrr hss=>h2 e2 s2 h2' β2 a2 w2 hne he2 hrr (hs1.trans (hss.mono hmy (fun _ e=>e) (fun _ e=>e) (fun _ e=>e)))))
          | ret=>exact h2 .ret s' h' β' a' w' (by simp) he hr' hs1
          | ext i=>exact h2 (.ext i) s' h' β' a' w' (by simp) he hr' hs1
          | gto i=>exact h2 (.gto i) s' h' β' a' w' (by simp) he hr' hs1
        · rw [zlf2 (fun l' e=>hx ⟨l',e⟩)] at hv
          exact (ihy.2.1 l r e).2.1 _ mok s E h (fun d hd=>hlt d (hmy d hd)) hv β a w hr Q fun e' s' h' β' a' w' he hr' hs'=>hQ e' s' h' β' a' w' he hr' (hs'.mono hmy (fun _ e=>e) (fun _ e=>e) (fun _ e=>e))
        · rw [zle2 (fun l' e=>hx ⟨l',e⟩)] at hv
          have hly:∀d∈mods y,d<n:=fun d hd=>hlt d (hmy d hd)
          refine wp_seq ?_
          split at hv
          · rename_i js mm z _
            obtain ⟨hmm,hv⟩:=condP hv
            have hmm':=zxj hmm
            refine ihx.1 _ mok s _ h (fun d hd=>hlt d (hmx d hd)) hv β a w hr _ fun e' s0 h0 β0 a0 w0 he hr0 hs0=> ?_
            have hs0':=hs0.mono (mm':=mok) hmx (fun _ e=>e) (fun _ e=>e) (fun _ e=>e)
            cases e' with
            | nrm=>
              obtain ⟨R,hA,hB⟩:=he
              have joined:∀s' h' β' a' w',Rel n β' s' a' h' w'->Seg (mods y) mm (lives s0) β0 a0 h0 w0 (lives s') β' a' h' w'->getJ C.tb js s' (fun z=>R z h')->r.wp C.P (Exit.noGoto Q) a' w':=by
                intro s' h' β' a' w' hr' hs' hg
                obtain ⟨z,hz,hr2,hs2⟩:=zfy1 ok hr0 hs' hr' hg
                refine (ihy.2.1 l r e).2.1 _ mok _ _ h' hly (hB z h' hz) β' a' w' hr2 _ fun e s2 h2 β2 a2 w2 he hr3 hs3=> ?_
                have hs4:=hs0'.trans (((hs2.mono (l':=mods y) (mm':=mok) (fun _ e=>e) hmm' (fun _ e=>e) (fun _ e=>e)).trans hs3).mono hmy (fun _ e=>e) (fun _ e=>e) (fun _ e=>e))
                cases e with
                | nrm=>exact hQ .nrm s2 h2 β2 a2 w2 (by simp) he hr3 hs4
                | ret=>exact hQ .ret s2 h2 β2 a2 w2 (by simp) he hr3 hs4
                | ext i=>exact hQ (.ext i) s2 h2 β2 a2 w2 (by simp) he hr3 hs4
                | gto i=>exact he.elim
              refine (ihy.2.1 l r e).1 _ mm s0 _ h0 hly hA β0 a0 w0 hr0 _ (fun s' h' β' a' w' he hr' hs'=> ?_) fun e s' h' β' a' w' hne he hr' hs'=> ?_
              · exact wp_mono (joined s' h' β' a' w' hr' hs' he) fun _ _ _=>zea1
              · have hs4:=hs0'.trans (hs'.mono (mm':=mok) hmy hmm' (fun _ e=>e) (fun _ e=>e))
                cases e with
                | nrm=>grind
                | ret=>exact hQ .ret s' h' β' a' w' (by simp) he hr' hs4
                | ext i=>exact hQ (.ext i) s' h' β' a' w' (by simp) he hr' hs4
                | gto i=>
                  by_cases hi:i=l
                  · subst hi
                    simp only [Env.lab,Nat.beq_refl,cond_true] at he
                    exact ⟨rfl,joined s' h' β' a' w' hr' hs' he⟩
                  · simp only [Env.lab,zdy1 hi,cond_false] at he
            | ret=>exact hQ .ret s0 h0 β0 a0 w0 (by simp) he hr0 hs0'
            | ext i=>exact hQ (.ext i) s0 h0 β0 a0 w0 (by simp) he hr0 hs0'
            | gto i=>exact he.elim
          · refine ihx.1 _ mok s _ h (fun d hd=>hlt d (hmx d hd)) hv β a w hr _ fun e' s0 h0 β0 a0 w0 he hr0 hs0=> ?_
            have hs0':=hs0.mono (mm':=mok) hmx (fun _ e=>e) (fun _ e=>e) (fun _ e=>e)
            cases e' with
            | nrm=>exact (ihy.2.1 l r e).2.2 _ mok s0 E h0 hly he β0 a0 w0 hr0 Q fun e' s' h' β' a' w' hne he hr' hs'=>hQ e' s' h' β' a' w' hne he hr' (hs0'.trans (hs'.mono hmy (fun _ e=>e) (fun _ e=>e) (fun _ e=>e)))
            | ret=>exact hQ .ret s0 h0 β0 a0 w0 (by simp) he hr0 hs0'
            | ext i=>exact hQ (.ext i) s0 h0 β0 a0 w0 (by simp) he hr0 hs0'
            | gto i=>exact he.elim
    intro A mok s E h hlt hv β a w hr Q hQ
    have hlx:∀d∈mods x,d<n:=fun d hd=>hlt d (app_mem.2 (.inl hd))
    have hly:∀d∈mods y,d<n:=fun d hd=>hlt d (app_mem.2 (.inr hd))
    refine wp_seq ?_
    unfold liftM at hv
    split at hv
    · rename_i js mm _ _
      obtain ⟨hmm,R,hA,hB⟩:=condP hv
      have hmm':=zxj hmm
      refine ihx.1 _ mm s _ h hlx hA β a w hr _ fun e s' h' β' a' w' he hr' hs'=> ?_
      cases e with
      | nrm=>
        obtain ⟨z,hz,hr2,hs2⟩:=zfy1 ok hr hs' hr' he
        refine ihy.1 _ mok _ E h' hly (hB z h' hz) β' a' w' hr2 Q fun e2 s2 h2 β2 a2 w2 he2 hrr hss=> ?_
        exact hQ e2 s2 h2 β2 a2 w2 he2 hrr ((hs2.mono hmx hmm' (fun _ e=>e) (fun _ e=>e)).trans (hss.mono hmy (fun _ e=>e) (fun _ e=>e) (fun _ e=>e)))
      | ret=>exact hQ .ret s' h' β' a' w' he hr' (hs'.mono hmx hmm' (fun _ e=>e) (fun _ e=>e))
      | ext i=>exact hQ (.ext i) s' h' β' a' w' he hr' (hs'.mono hmx hmm' (fun _ e=>e) (fun _ e=>e))
      | gto i=>exact hQ (.gto i) s' h' β' a' w' he hr' (hs'.mono hmx hmm' (fun _ e=>e) (fun _ e=>e))
    · rename_i k _ _
      obtain ⟨hk,hv⟩:=condP hv
      have hk:=(zlb _ _).1 hk
      refine ihx.1 _ mok s _ h hlx hv β a w hr _ fun e s' h' β' a' w' he hr' hs'=> ?_
      cases e with
      | nrm=>
        obtain ⟨s1,h1,he,hr1,hs1⟩:=zpg2 (K:=fun s2 h2=>liftM C y .full _ mok s2 E h2) hk hs' hr' he
        refine ihy.1 _ mok _ E h1 hly he β' a' w' hr1 Q fun e2 s2 h2 β2 a2 w2 he2 hrr hss=> ?_
        exact hQ e2 s2 h2 β2 a2 w2 he2 hrr ((hs1.mono hmx (fun _ e=>e) (fun _ e=>e) (fun _ e=>e)).trans (hss.mono hmy (fun _ e=>e) (fun _ e=>e) (fun _ e=>e)))
      | ret=>exact hQ .ret s' h' β' a' w' he hr' (hs'.mono hmx (fun _ e=>e) (fun _ e=>e) (fun _ e=>e))
      | ext i=>exact hQ (.ext i) s' h' β' a' w' he hr' (hs'.mono hmx (fun _ e=>e) (fun _ e=>e) (fun _ e=>e))
      | gto i=>exact hQ (.gto i) s' h' β' a' w' he hr' (hs'.mono hmx (fun _ e=>e) (fun _ e=>e) (fun _ e=>e))
    · refine ihx.1 _ mok s _ h hlx hv β a w hr _ fun e s' h' β' a' w' he hr' hs'=> ?_
      cases e with
      | nrm=>
        refine ihy.1 _ mok _ E h' hly he β' a' w' hr' Q fun e2 s2 h2 β2 a2 w2 he2 hrr hss=> ?_
        exact hQ e2 s2 h2 β2 a2 w2 he2 hrr ((hs'.mono hmx (fun _ e=>e) (fun _ e=>e) (fun _ e=>e)).trans (hss.mono hmy (fun _ e=>e) (fun _ e=>e) (fun _ e=>e)))
      | ret=>exact hQ .ret s' h' β' a' w' he hr' (hs'.mono hmx (fun _ e=>e) (fun _ e=>e) (fun _ e=>e))
      | ext i=>exact hQ (.ext i) s' h' β' a' w' he hr' (hs'.mono hmx (fun _ e=>e) (fun _ e=>e) (fun _ e=>e))
      | gto i=>exact hQ (.gto i) s' h' β' a' w' he hr' (hs'.mono hmx (fun _ e=>e) (fun _ e=>e) (fun _ e=>e))
  | cond c x y ihx ihy=>
    refine ⟨?_,fun l r e=>by simp [zpw] at e,fun l r e=>by simp [zfl] at e⟩
    intro A mok s E h hlt hv β a w hr Q hQ
    have hlx:∀d∈mods x,d<n:=fun d hd=>hlt d (app_mem.2 (.inl hd))
    have hly:∀d∈mods y,d<n:=fun d hd=>hlt d (app_mem.2 (.inr hd))
    simp only [liftM] at hv
    obtain ⟨v,hev,hv⟩:=zaz hv
    split at hv
    · rename_i t
      have hc:=ev_ok (zwi1 hr (x:=c) fun _ _=>trivial) (zbj s) hev
      refine wp_cond_split (t:=t) hc (fun ht=> ?_) (fun ht=> ?_)
      · rw [if_pos ht] at hv
        exact ihx.1 _ mok s E h hlx hv β a w hr Q fun e s' h' β' a' w' he hr' hs'=>hQ e s' h' β' a' w' he hr' (hs'.mono (fun d hd=>app_mem.2 (.inl hd)) (fun _ e=>e) (fun _ e=>e) (fun _ e=>e))
      · rw [if_neg (by rw [ht];simp)] at hv
        exact ihy.1 _ mok s E h hly hv β a w hr Q fun e s' h' β' a' w' he hr' hs'=>hQ e s' h' β' a' w' he hr' (hs'.mono (fun d hd=>app_mem.2 (.inr hd)) (fun _ e=>e) (fun _ e=>e) (fun _ e=>e))
    · exact hv.elim
  | block id x ih=>
    refine ⟨?_,fun l r e=>by simp [zpw] at e,fun l r e=>by simp [zfl] at e⟩
    intro A mok s E h hlt hv β a w hr Q hQ
    refine wp_block ?_
    unfold liftM at hv
    split at hv
    · rename_i js mm _
      obtain ⟨hmm,R,hA,hB⟩:=condP hv
      have hmm':=zxj hmm
      refine ih.1 _ mm s _ h hlt hA β a w hr _ fun e s' h' β' a' w' he hr' hs'=> ?_
      have joined:getJ C.tb js s' (fun x=>R x h')->Q .normal a' w':=fun hg=>by
        obtain ⟨z,hz,hr2,hs2⟩:=zfy1 ok hr hs' hr' hg
        exact hQ .nrm _ h' β' a' w' (hB z h' hz) hr2 (hs2.mono (fun _ e=>e) hmm' (fun _ e=>e) (fun _ e=>e))
      cases e with
      | nrm=>exact joined he
      | ret=>exact hQ .ret s' h' β' a' w' he hr' (hs'.mono (fun _ e=>e) hmm' (fun _ e=>e) (fun _ e=>e))
      | ext i=>
        simp only [exOf,Exit.inBlock]
        by_cases hi:i=id
        · subst hi
          simp only [Env.blk,Nat.beq_refl,cond_true] at he
          grind
        · rw [if_neg hi]
          simp only [Env.blk,zdy1 hi,cond_false] at he
          exact hQ (.ext i) s' h' β' a' w' he hr' (hs'.mono (fun _ e=>e) hmm' (fun _ e=>e) (fun _ e=>e))
      | gto i=>exact hQ (.gto i) s' h' β' a' w' he hr' (hs'.mono (fun _ e=>e) hmm' (fun _ e=>e) (fun _ e=>e))
    · refine ih.1 _ mok s _ h hlt hv β a w hr _ fun e s' h' β' a' w' he hr' hs'=> ?_
      cases e with
      | nrm=>exact hQ .nrm s' h' β' a' w' he hr' hs'
      | ret=>exact hQ .ret s' h' β' a' w' he hr' hs'
      | ext i=>
        simp only [exOf,Exit.inBlock]
        by_cases hi:i=id
        · subst hi
          simp only [Env.blk,Nat.beq_refl,cond_true] at he
          rw [if_pos rfl]
          exact hQ .nrm s' h' β' a' w' he hr' hs'
        · rw [if_neg hi]
          simp only [Env.blk,zdy1 hi,cond_false] at he
          exact hQ (.ext i) s' h' β' a' w' he hr' hs'
      | gto i=>exact hQ (.gto i) s' h' β' a' w' he hr' hs'
  | scope x ih=>
    refine ⟨?_,fun l r e=>by simp [zpw] at e,fun l r e=>by simp [zfl] at e⟩
    intro A mok s E h hlt hv β a w hr Q hQ
    unfold liftM at hv
    split at hv
    · rename_i l _
      split at hv
      · rename_i r hrest
        refine wp_scope_jumps l (fun a' w'=>r.wp C.P (Exit.noGoto Q) a' w') (fun _ _=>0) (zwp1 hrest) ?_ fun a' w' hJ=>wp_seq (wp_skip (wp_mono hJ fun _ _ _=>zea1))
        exact (ih.2.1 l r hrest).2.2 _ mok s E h hlt hv β a w hr Q fun e s' h' β' a' w' _ he hr' hs'=>hQ e s' h' β' a' w' he hr' hs'
      · exact hv.elim
    · rename_i l0 a0 x0
      refine zsw1 (zah2 ?_)
      have chain:∀(A:Ann) (E':Env),(∀e s' h' β' a' w',E' e s' h'->Rel n β' s' a' h' w'->Seg (mods x) mok (lives s) β a h w (lives s') β' a' h' w'->ToLab C.P x Q (exOf e) a' w')->
          ∀e s' h' β' a' w',gotoE (fun l a' E s h=>match zfl x l with
            | some _=>liftM C x (.rz l) a' mok s E h
            | none=>False) A E' e s' h'->Rel n β' s' a' h' w'->Seg (mods x) mok (lives s) β a h w (lives s') β' a' h' w'->ToLab C.P x Q (exOf e) a' w':=by
        intro A
        induction A with
        | gd l b y _ ihy=>
          intro E' hE
          refine ihy _ fun e s' h' β' a' w' he hr' hs'=> ?_
          cases e with
          | nrm=>exact hE .nrm s' h' β' a' w' he hr' hs'
          | ret=>exact hE .ret s' h' β' a' w' he hr' hs'
          | ext i=>exact hE (.ext i) s' h' β' a' w' he hr' hs'
          | gto i=>
            by_cases hi:i=l
            · subst hi
              simp only [Env.put,Nat.beq_refl,cond_true] at he
              split at he
              · rename_i r hrest
                refine ⟨_,zsv1 hrest,zah2 (wp_seq (wp_skip ?_))⟩
                exact ih.2.2 i r hrest _ mok s' _ h' hlt he β' a' w' hr' _ fun e2 s2 h2 β2 a2 w2 he2 hr2 hs2=>hE e2 s2 h2 β2 a2 w2 he2 hr2 (hs'.trans hs2)
              · exact he.elim
            · simp only [Env.put,zdy1 hi,cond_false] at he
              exact hE (.gto i) s' h' β' a' w' he hr' hs'
        | _=>intro E' hE;exact hE
      refine ih.1 _ mok s _ h hlt hv β a w hr _ fun e s' h' β' a' w' he hr' hs'=> ?_
      refine chain (.gd l0 a0 x0) E.noGto (fun e s' h' β' a' w' he hr' hs'=> ?_) e s' h' β' a' w' he hr' hs'
      cases e with
      | nrm=>exact hQ .nrm s' h' β' a' w' he hr' hs'
      | ret=>exact hQ .ret s' h' β' a' w' he hr' hs'
      | ext i=>exact hQ (.ext i) s' h' β' a' w' he hr' hs'
      | gto i=>exact he.elim
    · refine wp_scope_straight ?_
      refine ih.1 _ mok s _ h hlt hv β a w hr _ fun e s' h' β' a' w' he hr' hs'=> ?_
      cases e with
      | nrm=>exact hQ .nrm s' h' β' a' w' he hr' hs'
      | ret=>exact hQ .ret s' h' β' a' w' he hr' hs'
      | ext i=>exact hQ (.ext i) s' h' β' a' w' he hr' hs'
      | gto i=>exact he.elim
  | loop x ih=>
    refine ⟨?_,fun l r e=>by simp [zpw] at e,fun l r e=>by simp [zfl] at e⟩
    intro A mok s E h hlt hv β a w hr Q hQ
    unfold liftM at hv
    split at hv
    · rename_i js mm _
      obtain ⟨hmm,hv⟩:=condP hv
      have hmm':=zxj hmm
      obtain ⟨x0,hx0,hr0,hs0⟩:=zfy1 ok hr (Seg.refl (l:=mods x) (mm:=mm)) hr hv
      obtain ⟨I,μ,hI,hbody⟩:=hx0
      refine zpu1 (fun m a' w'=>∃z h' β',I z h'/\μ z h'=m/\Rel n β' (setJ C.tb js z (s.forget (mods x) mm)) a' h' w'/\Seg (mods x) mm (lives s) β a h w (lives (setJ C.tb js z (s.forget (mods x) mm))) β' a' h' w')
        ⟨_,x0,h,β,hI,rfl,hr0,hs0⟩ ?_
      rintro m a' w' ⟨z,h',β',hz,rfl,hr1,hs1⟩
      refine ih.1 _ mm _ _ h' hlt (hbody z h' hz) β' a' w' hr1 _ fun e s2 h2 β2 a2 w2 he hr2 hs2=> ?_
      have hs12:=hs1.trans hs2
      cases e with
      | nrm=>
        obtain ⟨z2,hz2,hr3,hs3⟩:=zfy1 ok hr hs12 hr2 he
        exact ⟨_,hz2.2,z2,h2,β2,hz2.1,rfl,hr3,hs3⟩
      | ret=>exact hQ .ret s2 h2 β2 a2 w2 he hr2 (hs12.mono (fun _ e=>e) hmm' (fun _ e=>e) (fun _ e=>e))
      | ext i=>exact hQ (.ext i) s2 h2 β2 a2 w2 he hr2 (hs12.mono (fun _ e=>e) hmm' (fun _ e=>e) (fun _ e=>e))
      | gto i=>exact hQ (.gto i) s2 h2 β2 a2 w2 he hr2 (hs12.mono (fun _ e=>e) hmm' (fun _ e=>e) (fun _ e=>e))
    · exact hv.elim
  | _=>exact ⟨fun A mok s E h _ hv=>hv.elim,fun l r e=>by simp [zpw] at e,fun l r e=>by simp [zfl] at e⟩
theorem zcu2 {C:Ctx} (ok:C.tb.Ok C.P) {n:Nat} (c:Code) (A:Ann) (mok:List Nat) (s:St) (E:Env) (h:Hp) (hlt:∀d∈mods c,d<n) (hv:liftM C c .full A mok s E h) (β:Nat->Nat) (a:Act) (w:World) (hr:Rel n β s a h w)
    (Q:Exit->Act->World->Prop) (hQ:∀e s' h' β' a' w',E e s' h'->Rel n β' s' a' h' w'->Seg (mods c) mok (lives s) β a h w (lives s') β' a' h' w'->Q (exOf e) a' w'):c.wp C.P Q a w:=
  (zwq1 ok c).1 A mok s E h hlt hv β a w hr Q hQ
def zeb1 (tmps:Array Value):ResultVar->Sem Value
  | .tmp t=>pure (tmps.getD t undef)
  | .cell a t=>do loadVar t (<-asAddr (tmps.getD a undef))
def zgw2 :List Value->Value
  | [v]=>v
  | vs=>.tuple vs.toArray
theorem zwr1 {P:Program} {fn:Func} {tmps:Array Value} {vs:List Value} {w:World} (h:(fn.results.toList.mapM (zeb1 tmps)).run P w=.ok vs w):(results fn tmps).run P w=.ok (zgw2 vs) w:=by
  have e:results fn tmps=((fn.results.mapM (zeb1 tmps))>>=fun vs=>pure (if h:vs.size=1 then vs[0] else .tuple vs)):=by
    unfold results
    congr 1
  rw [e,Array.mapM_eq_mapM_toList,map_eq_pure_bind]
  simp only [Sem.run_bind,h,Result.andThen_ok,Sem.run_pure]
  cases vs with
  | nil=>rfl
  | cons v vs=>cases vs<;>simp [zgw2]
theorem zcv2 {P:Program} {tb:Tb} (ok:tb.Ok P) {t:Nat} {e:Ty} (he:tb.ty t=some e) {w:World} {a:Addr} {x:(shOf tb t).T}
    (hc:∀(j:Nat) (v:Value),(zaj ((shOf tb t).enc x))[j]? =some v->w.cell? (a.add j)=some v):(loadVar t a).run P w=.ok ((shOf tb t).enc x) w:=by
  revert x
  rw [zgv2,he]
  intro x hc
  exact zyn ok he hc
section
variable {C:Ctx} {n:Nat} {β:Nat->Nat} {s:St} {a:Act} {h:Hp} {w:World}
theorem zbt (ok:C.tb.Ok C.P) (hr:Rel n β s a h w) {r:ResultVar} {t:Nat} {K:(shOf C.tb t).T->Prop} (hv:zjw C s r t K):∃x,K x/\(zeb1 a.tmps r).run C.P w=.ok ((shOf C.tb t).enc x) w:=by
  cases r with
  | tmp i=>
    simp only [zjw] at hv
    split at hv
    · rename_i v hf
      · obtain ⟨x,hx,hv⟩:=zpv1 hv
        refine ⟨x,hv,?_⟩
        have:=(hr.cur i _ [] hf trivial (zbj _)).1
        rw [hx]
        simp only [zeb1,Sem.run_pure]
        exact congrArg (fun v=>Result.ok v w) this
    · exact hv.elim
  | cell i ct=>
    simp only [zjw] at hv
    obtain ⟨h1,hv⟩:=condP hv
    have h1:=Nat.eq_of_beq_eq_true h1
    subst h1
    split at hv
    · rename_i k e hf he
      split at hv
      · rename_i cs hm
        split at hv
        · rename_i v hcs
          · obtain ⟨x,hx,hv⟩:=zpv1 hv
            refine ⟨x,hv,?_⟩
            have hc:=zaf2 ok hcs hx
            obtain ⟨_,t',hb⟩:=hr.box k cs hm trivial
            have:=(hr.cur i _ [] hf trivial (zbj _)).1
            have h2:a.tmps.getD i undef=.pointer (some ⟨β k,0,none⟩):=this
            simp only [zeb1,h2,asAddr,Sem.run_bind,Sem.run_pure,Result.andThen_ok]
            refine zcv2 ok he fun j v hj=> ?_
            rw [hc] at hj
            rw [box_add,zpk1 hb]
            simpa using hj
        · exact hv.elim
      · exact hv.elim
    · exact hv.elim
theorem zlh2 (ok:C.tb.Ok C.P) (hr:Rel n β s a h w) {rs:List ResultVar} {ts:List Nat} {K:(shRes C.tb ts).T->Hp->Prop} (hv:retW C s h rs ts K):
    ∃x vs,K x h/\(rs.mapM (zeb1 a.tmps)).run C.P w=.ok vs w/\zgw2 vs=(shRes C.tb ts).enc x:=by
  have step:∀ {r:ResultVar} {rs:List ResultVar} {v:Value} {vs:List Value},(zeb1 a.tmps r).run C.P w=.ok v w->(rs.mapM (zeb1 a.tmps)).run C.P w=.ok vs w->((r::rs).mapM (zeb1 a.tmps)).run C.P w=.ok (v::vs) w:=by
    intro r rs v vs h1 h2
    simp only [List.mapM_cons,Sem.run_bind,h1,h2,Result.andThen_ok,Sem.run_pure]
  have nil:(([]:List ResultVar).mapM (zeb1 a.tmps)).run C.P w=.ok [] w:=by simp
  unfold retW at hv
  split at hv
  · exact ⟨(),[],hv,nil,rfl⟩
  · obtain ⟨x,hk,h1⟩:=zbt ok hr hv
    exact ⟨x,_,hk,step h1 nil,rfl⟩
  · obtain ⟨x1,hv,h1⟩:=zbt ok hr hv
    obtain ⟨x2,hk,h2⟩:=zbt ok hr hv
    exact ⟨(x1,x2),_,hk,step h1 (step h2 nil),rfl⟩
  · obtain ⟨x1,hv,h1⟩:=zbt ok hr hv
    obtain ⟨x2,hv,h2⟩:=zbt ok hr hv
    obtain ⟨x3,hk,h3⟩:=zbt ok hr hv
    exact ⟨(x1,x2,x3),_,hk,step h1 (step h2 (step h3 nil)),rfl⟩
  · obtain ⟨x1,hv,h1⟩:=zbt ok hr hv
    obtain ⟨x2,hv,h2⟩:=zbt ok hr hv
    obtain ⟨x3,hv,h3⟩:=zbt ok hr hv
    obtain ⟨x4,hk,h4⟩:=zbt ok hr hv
    exact ⟨(x1,x2,x3,x4),_,hk,step h1 (step h2 (step h3 (step h4 nil))),rfl⟩
  · obtain ⟨x1,hv,h1⟩:=zbt ok hr hv
    obtain ⟨x2,hv,h2⟩:=zbt ok hr hv
    obtain ⟨x3,hv,h3⟩:=zbt ok hr hv
    obtain ⟨x4,hv,h4⟩:=zbt ok hr hv
    obtain ⟨x5,hk,h5⟩:=zbt ok hr hv
    exact ⟨(x1,x2,x3,x4,x5),_,hk,step h1 (step h2 (step h3 (step h4 (step h5 nil)))),rfl⟩
  · obtain ⟨x1,hv,h1⟩:=zbt ok hr hv
    obtain ⟨x2,hv,h2⟩:=zbt ok hr hv
    obtain ⟨x3,hv,h3⟩:=zbt ok hr hv
    obtain ⟨x4,hv,h4⟩:=zbt ok hr hv
    obtain ⟨x5,hv,h5⟩:=zbt ok hr hv
    obtain ⟨x6,hv,h6⟩:=zbt ok hr hv
    obtain ⟨x7,hk,h7⟩:=zbt ok hr hv
    exact ⟨(x1,x2,x3,x4,x5,x6,x7),_,hk,step h1 (step h2 (step h3 (step h4 (step h5 (step h6 (step h7 nil)))))),rfl⟩
  · exact hv.elim
end
theorem zgx2 {n:Nat} {l:List Nat} (h:allLt n l=true):∀d∈l,d<n:=by
  induction l with
  | nil=>simp
  | cons a l ih=>
    simp only [allLt] at h
    obtain ⟨h1,h2⟩:=condT h
    intro d hd
    rcases List.mem_cons.1 hd with rfl | hd
    · have:d+1<=n:=by simpa [Nat.blt] using h1
      exact this
    grind
theorem zaa {C:Ctx} (ok:C.tb.Ok C.P) {g:FuncId} {f:Func} {c:Code} {A:Ann} {args:List Value} {K:(shRes C.tb f.resultTypes.toList).T->Hp->Prop} {h:Hp} (hf:C.P.funcs[g]? =some f) (hb:f.body=some c)
    (hv:funW C f A args K h):CallT C.P g args (shRes C.tb f.resultTypes.toList) K h:=by
  intro w hs
  unfold funW at hv
  obtain ⟨hc,hv⟩:=condP hv
  obtain ⟨h1,h2⟩:=condT hc
  have h1:args.length<=f.ntmps:=Nat.le_of_ble_eq_true h1
  have hbody:zzh1 f=c:=by unfold zzh1;rw [hb]
  rw [hbody] at hv h2
  refine calls_of_wp hf hb ?_
  have hget:∀(t:Nat) (v:Value),args[t]? =some v->(args.toArray++Array.replicate (f.ntmps-args.toArray.size) undef)[t]? =some v:=by
    grind
  have hargs:∀(t:Nat) (l:LV) (c:Chain),argsF args t=some (l,c)->∃v,args[t]? =some v/\l=.v v/\c=[]:=by
    intro t l c e
    unfold argsF at e
    rw [zel] at e
    grind
  have hrel:Rel f.ntmps (fun _=>0) {f:=argsF args,m:=fun _=>none} {tmps:=args.toArray++Array.replicate (f.ntmps-args.toArray.size) undef,defers:=[]} h w:=by
    refine ⟨by simp;omega,hs,fun t l c e=> ?_,fun t l c e p hp=> ?_,fun t l c e _ _=> ?_,fun t l c e _ hh=> ?_,fun k cs e _=>(by cases e),fun k k' e=>absurd rfl e,fun _ e=>e.elim,fun _ e=>e.elim⟩
    · grind
    · grind
    · obtain ⟨v,h3,rfl,rfl⟩:=hargs t l c e
      refine ⟨?_,fun _ _ _=>trivial⟩
      simp only [Act.eval,LVal,Array.getD_eq_getD_getElem?,hget t v h3,Option.getD_some]
    · obtain ⟨v,h3,rfl,rfl⟩:=hargs t l c e
      exact absurd (zbj _) hh
  refine zcu2 ok c A C.priv _ _ h (zgx2 h2) hv _ _ w hrel _ fun e s' h' β' a' w' he hr' hs'=> ?_
  have hst:Step h h' w w':=⟨hr'.sub,hs'.size,fun b hb hn=>⟨hs'.keep b hb hn (fun k _ hl=>absurd rfl hl.1),hs'.unk b hb hn (fun k _ hl=>absurd rfl hl.1)⟩,hs'.os,hs'.tape,hs'.output⟩
  have done:retW C s' h' f.results.toList f.resultTypes.toList K->a'.defers=[]/\∃v,(results f a'.tmps).run C.P w'=.ok v w'/\∃u h2,Ending.returned v=.returned u/\(∃x,u=(shRes C.tb f.resultTypes.toList).enc x/\K x h2)/\Step h h2 w w':=by
    intro hw
    obtain ⟨x,vs,hk,hrun,hval⟩:=zlh2 ok hr' hw
    exact ⟨hs'.defers,_,zwr1 hrun,_,h',rfl,⟨x,hval,hk⟩,hst⟩
  cases e with
  | nrm=>exact done he
  | ret=>exact done he
  | ext i=>exact he.elim
  | gto i=>exact he.elim
def JoinW0 (A:(Hp->Prop)->Prop) (B:Hp->Prop):Prop:=
  JoinT (σ:=Unit) (fun R=>A (fun h=>R () h)) (fun _ h=>B  h)
theorem JoinW0.intro {A:(Hp->Prop)->Prop} {B:Hp->Prop} (R:Hp->Prop) (hA:A R) (hB:∀h,R h->B h):JoinW0 A B:=
  ⟨fun _ h=>R  h,hA,fun _ h hr=>hB  h hr⟩
theorem JoinW0.direct {A:(Hp->Prop)->Prop} {B:Hp->Prop} (hA:A B):JoinW0 A B:=JoinW0.intro B hA (fun _ hr=>hr)
def LoopW0 (body:(Hp->Prop)->Hp->Prop)  (h:Hp):Prop:=
  LoopT (σ:=Unit) (fun R _ h=>body (fun h=>R () h)  h) () h
theorem LoopW0.intro {body:(Hp->Prop)->Hp->Prop} {h:Hp} (I:Hp->Prop) (μ:Hp->Nat)
    (h0:I  h) (hr:∀  k,I  k->body (fun  k'=>I  k'/\μ  k'<μ  k)  k):LoopW0 body  h:=
  ⟨fun _ h=>I  h,fun _ h=>μ  h,h0,fun _ k hk=>hr  k hk⟩
def JoinW1 {α1:Type} (A:(α1->Hp->Prop)->Prop) (B:α1->Hp->Prop):Prop:=
  JoinT (σ:=α1) (fun R=>A (fun x1 h=>R x1 h)) (fun p h=>B p h)
theorem JoinW1.intro {α1:Type} {A:(α1->Hp->Prop)->Prop} {B:α1->Hp->Prop} (R:α1->Hp->Prop) (hA:A R) (hB:∀x1 h,R x1 h->B x1 h):JoinW1 A B:=
  ⟨fun p h=>R p h,hA,fun p h hr=>hB p h hr⟩
theorem JoinW1.direct {α1:Type} {A:(α1->Hp->Prop)->Prop} {B:α1->Hp->Prop} (hA:A B):JoinW1 A B:=JoinW1.intro B hA (fun _ _ hr=>hr)
def LoopW1 {α1:Type} (body:(α1->Hp->Prop)->α1->Hp->Prop) (x1:α1) (h:Hp):Prop:=
  LoopT (σ:=α1) (fun R p h=>body (fun x1 h=>R x1 h) p h) x1 h
theorem LoopW1.intro {α1:Type} {body:(α1->Hp->Prop)->α1->Hp->Prop} {x1:α1} {h:Hp} (I:α1->Hp->Prop) (μ:α1->Hp->Nat)
    (h0:I x1 h) (hr:∀x1 k,I x1 k->body (fun y1 k'=>I y1 k'/\μ y1 k'<μ x1 k) x1 k):LoopW1 body x1 h:=
  ⟨fun p h=>I p h,fun p h=>μ p h,h0,fun p k hk=>hr p k hk⟩
def JoinW2 {α1 α2:Type} (A:(α1->α2->Hp->Prop)->Prop) (B:α1->α2->Hp->Prop):Prop:=
  JoinT (σ:=α1×α2) (fun R=>A (fun x1 x2 h=>R (x1,x2) h)) (fun p h=>B p.1 p.2 h)
theorem JoinW2.intro {α1 α2:Type} {A:(α1->α2->Hp->Prop)->Prop} {B:α1->α2->Hp->Prop} (R:α1->α2->Hp->Prop) (hA:A R) (hB:∀x1 x2 h,R x1 x2 h->B x1 x2 h):JoinW2 A B:=
  ⟨fun p h=>R p.1 p.2 h,hA,fun p h hr=>hB p.1 p.2 h hr⟩
theorem JoinW2.direct {α1 α2:Type} {A:(α1->α2->Hp->Prop)->Prop} {B:α1->α2->Hp->Prop} (hA:A B):JoinW2 A B:=JoinW2.intro B hA (fun _ _ _ hr=>hr)
def LoopW2 {α1 α2:Type} (body:(α1->α2->Hp->Prop)->α1->α2->Hp->Prop) (x1:α1) (x2:α2) (h:Hp):Prop:=
  LoopT (σ:=α1×α2) (fun R p h=>body (fun x1 x2 h=>R (x1,x2) h) p.1 p.2 h) (x1,x2) h
theorem LoopW2.intro {α1 α2:Type} {body:(α1->α2->Hp->Prop)->α1->α2->Hp->Prop} {x1:α1} {x2:α2} {h:Hp} (I:α1->α2->Hp->Prop) (μ:α1->α2->Hp->Nat)
    (h0:I x1 x2 h) (hr:∀x1 x2 k,I x1 x2 k->body (fun y1 y2 k'=>I y1 y2 k'/\μ y1 y2 k'<μ x1 x2 k) x1 x2 k):LoopW2 body x1 x2 h:=
  ⟨fun p h=>I p.1 p.2 h,fun p h=>μ p.1 p.2 h,h0,fun p k hk=>hr p.1 p.2 k hk⟩
def JoinW3 {α1 α2 α3:Type} (A:(α1->α2->α3->Hp->Prop)->Prop) (B:α1->α2->α3->Hp->Prop):Prop:=
  JoinT (σ:=α1×α2×α3) (fun R=>A (fun x1 x2 x3 h=>R (x1,x2,x3) h)) (fun p h=>B p.1 p.2.1 p.2.2 h)
theorem JoinW3.intro {α1 α2 α3:Type} {A:(α1->α2->α3->Hp->Prop)->Prop} {B:α1->α2->α3->Hp->Prop} (R:α1->α2->α3->Hp->Prop) (hA:A R) (hB:∀x1 x2 x3 h,R x1 x2 x3 h->B x1 x2 x3 h):JoinW3 A B:=
  ⟨fun p h=>R p.1 p.2.1 p.2.2 h,hA,fun p h hr=>hB p.1 p.2.1 p.2.2 h hr⟩
theorem JoinW3.direct {α1 α2 α3:Type} {A:(α1->α2->α3->Hp->Prop)->Prop} {B:α1->α2->α3->Hp->Prop} (hA:A B):JoinW3 A B:=JoinW3.intro B hA (fun _ _ _ _ hr=>hr)
def LoopW3 {α1 α2 α3:Type} (body:(α1->α2->α3->Hp->Prop)->α1->α2->α3->Hp->Prop) (x1:α1) (x2:α2) (x3:α3) (h:Hp):Prop:=
  LoopT (σ:=α1×α2×α3) (fun R p h=>body (fun x1 x2 x3 h=>R (x1,x2,x3) h) p.1 p.2.1 p.2.2 h) (x1,x2,x3) h
theorem LoopW3.intro {α1 α2 α3:Type} {body:(α1->α2->α3->Hp->Prop)->α1->α2->α3->Hp->Prop} {x1:α1} {x2:α2} {x3:α3} {h:Hp} (I:α1->α2->α3->Hp->Prop) (μ:α1->α2->α3->Hp->Nat)
    (h0:I x1 x2 x3 h) (hr:∀x1 x2 x3 k,I x1 x2 x3 k->body (fun y1 y2 y3 k'=>I y1 y2 y3 k'/\μ y1 y2 y3 k'<μ x1 x2 x3 k) x1 x2 x3 k):LoopW3 body x1 x2 x3 h:=
  ⟨fun p h=>I p.1 p.2.1 p.2.2 h,fun p h=>μ p.1 p.2.1 p.2.2 h,h0,fun p k hk=>hr p.1 p.2.1 p.2.2 k hk⟩
def JoinW4 {α1 α2 α3 α4:Type} (A:(α1->α2->α3->α4->Hp->Prop)->Prop) (B:α1->α2->α3->α4->Hp->Prop):Prop:=
  JoinT (σ:=α1×α2×α3×α4) (fun R=>A (fun x1 x2 x3 x4 h=>R (x1,x2,x3,x4) h)) (fun p h=>B p.1 p.2.1 p.2.2.1 p.2.2.2 h)
theorem JoinW4.intro {α1 α2 α3 α4:Type} {A:(α1->α2->α3->α4->Hp->Prop)->Prop} {B:α1->α2->α3->α4->Hp->Prop} (R:α1->α2->α3->α4->Hp->Prop) (hA:A R) (hB:∀x1 x2 x3 x4 h,R x1 x2 x3 x4 h->B x1 x2 x3 x4 h):JoinW4 A B:=
  ⟨fun p h=>R p.1 p.2.1 p.2.2.1 p.2.2.2 h,hA,fun p h hr=>hB p.1 p.2.1 p.2.2.1 p.2.2.2 h hr⟩
theorem JoinW4.direct {α1 α2 α3 α4:Type} {A:(α1->α2->α3->α4->Hp->Prop)->Prop} {B:α1->α2->α3->α4->Hp->Prop} (hA:A B):JoinW4 A B:=JoinW4.intro B hA (fun _ _ _ _ _ hr=>hr)
def JoinW5 {α1 α2 α3 α4 α5:Type} (A:(α1->α2->α3->α4->α5->Hp->Prop)->Prop) (B:α1->α2->α3->α4->α5->Hp->Prop):Prop:=
  JoinT (σ:=α1×α2×α3×α4×α5) (fun R=>A (fun x1 x2 x3 x4 x5 h=>R (x1,x2,x3,x4,x5) h)) (fun p h=>B p.1 p.2.1 p.2.2.1 p.2.2.2.1 p.2.2.2.2 h)
theorem JoinW5.intro {α1 α2 α3 α4 α5:Type} {A:(α1->α2->α3->α4->α5->Hp->Prop)->Prop} {B:α1->α2->α3->α4->α5->Hp->Prop} (R:α1->α2->α3->α4->α5->Hp->Prop) (hA:A R) (hB:∀x1 x2 x3 x4 x5 h,R x1 x2 x3 x4 x5 h->B x1 x2 x3 x4 x5 h):JoinW5 A B:=
  ⟨fun p h=>R p.1 p.2.1 p.2.2.1 p.2.2.2.1 p.2.2.2.2 h,hA,fun p h hr=>hB p.1 p.2.1 p.2.2.1 p.2.2.2.1 p.2.2.2.2 h hr⟩
theorem JoinW5.direct {α1 α2 α3 α4 α5:Type} {A:(α1->α2->α3->α4->α5->Hp->Prop)->Prop} {B:α1->α2->α3->α4->α5->Hp->Prop} (hA:A B):JoinW5 A B:=JoinW5.intro B hA (fun _ _ _ _ _ _ hr=>hr)
def JoinW8 {α1 α2 α3 α4 α5 α6 α7 α8:Type} (A:(α1->α2->α3->α4->α5->α6->α7->α8->Hp->Prop)->Prop) (B:α1->α2->α3->α4->α5->α6->α7->α8->Hp->Prop):Prop:=
  JoinT (σ:=α1×α2×α3×α4×α5×α6×α7×α8) (fun R=>A (fun x1 x2 x3 x4 x5 x6 x7 x8 h=>R (x1,x2,x3,x4,x5,x6,x7,x8) h)) (fun p h=>B p.1 p.2.1 p.2.2.1 p.2.2.2.1 p.2.2.2.2.1 p.2.2.2.2.2.1 p.2.2.2.2.2.2.1 p.2.2.2.2.2.2.2 h)
theorem JoinW8.intro {α1 α2 α3 α4 α5 α6 α7 α8:Type} {A:(α1->α2->α3->α4->α5->α6->α7->α8->Hp->Prop)->Prop} {B:α1->α2->α3->α4->α5->α6->α7->α8->Hp->Prop} (R:α1->α2->α3->α4->α5->α6->α7->α8->Hp->Prop) (hA:A R) (hB:∀x1 x2 x3 x4 x5 x6 x7 x8 h,R x1 x2 x3 x4 x5 x6 x7 x8 h->B x1 x2 x3 x4 x5 x6 x7 x8 h):JoinW8 A B:=
  ⟨fun p h=>R p.1 p.2.1 p.2.2.1 p.2.2.2.1 p.2.2.2.2.1 p.2.2.2.2.2.1 p.2.2.2.2.2.2.1 p.2.2.2.2.2.2.2 h,hA,fun p h hr=>hB p.1 p.2.1 p.2.2.1 p.2.2.2.1 p.2.2.2.2.1 p.2.2.2.2.2.1 p.2.2.2.2.2.2.1 p.2.2.2.2.2.2.2 h hr⟩
theorem JoinW8.direct {α1 α2 α3 α4 α5 α6 α7 α8:Type} {A:(α1->α2->α3->α4->α5->α6->α7->α8->Hp->Prop)->Prop} {B:α1->α2->α3->α4->α5->α6->α7->α8->Hp->Prop} (hA:A B):JoinW8 A B:=JoinW8.intro B hA (fun _ _ _ _ _ _ _ _ _ hr=>hr)
def JoinW9 {α1 α2 α3 α4 α5 α6 α7 α8 α9:Type} (A:(α1->α2->α3->α4->α5->α6->α7->α8->α9->Hp->Prop)->Prop) (B:α1->α2->α3->α4->α5->α6->α7->α8->α9->Hp->Prop):Prop:=
  JoinT (σ:=α1×α2×α3×α4×α5×α6×α7×α8×α9) (fun R=>A (fun x1 x2 x3 x4 x5 x6 x7 x8 x9 h=>R (x1,x2,x3,x4,x5,x6,x7,x8,x9) h)) (fun p h=>B p.1 p.2.1 p.2.2.1 p.2.2.2.1 p.2.2.2.2.1 p.2.2.2.2.2.1 p.2.2.2.2.2.2.1 p.2.2.2.2.2.2.2.1 p.2.2.2.2.2.2.2.2 h)
theorem JoinW9.intro {α1 α2 α3 α4 α5 α6 α7 α8 α9:Type} {A:(α1->α2->α3->α4->α5->α6->α7->α8->α9->Hp->Prop)->Prop} {B:α1->α2->α3->α4->α5->α6->α7->α8->α9->Hp->Prop} (R:α1->α2->α3->α4->α5->α6->α7->α8->α9->Hp->Prop) (hA:A R) (hB:∀x1 x2 x3 x4 x5 x6 x7 x8 x9 h,R x1 x2 x3 x4 x5 x6 x7 x8 x9 h->B x1 x2 x3 x4 x5 x6 x7 x8 x9 h):JoinW9 A B:=
  ⟨fun p h=>R p.1 p.2.1 p.2.2.1 p.2.2.2.1 p.2.2.2.2.1 p.2.2.2.2.2.1 p.2.2.2.2.2.2.1 p.2.2.2.2.2.2.2.1 p.2.2.2.2.2.2.2.2 h,hA,fun p h hr=>hB p.1 p.2.1 p.2.2.1 p.2.2.2.1 p.2.2.2.2.1 p.2.2.2.2.2.1 p.2.2.2.2.2.2.1 p.2.2.2.2.2.2.2.1 p.2.2.2.2.2.2.2.2 h hr⟩
theorem JoinW9.direct {α1 α2 α3 α4 α5 α6 α7 α8 α9:Type} {A:(α1->α2->α3->α4->α5->α6->α7->α8->α9->Hp->Prop)->Prop} {B:α1->α2->α3->α4->α5->α6->α7->α8->α9->Hp->Prop} (hA:A B):JoinW9 A B:=JoinW9.intro B hA (fun _ _ _ _ _ _ _ _ _ _ hr=>hr)
def LoopW9 {α1 α2 α3 α4 α5 α6 α7 α8 α9:Type} (body:(α1->α2->α3->α4->α5->α6->α7->α8->α9->Hp->Prop)->α1->α2->α3->α4->α5->α6->α7->α8->α9->Hp->Prop) (x1:α1) (x2:α2) (x3:α3) (x4:α4) (x5:α5) (x6:α6) (x7:α7) (x8:α8) (x9:α9) (h:Hp):Prop:=
  LoopT (σ:=α1×α2×α3×α4×α5×α6×α7×α8×α9) (fun R p h=>body (fun x1 x2 x3 x4 x5 x6 x7 x8 x9 h=>R (x1,x2,x3,x4,x5,x6,x7,x8,x9) h) p.1 p.2.1 p.2.2.1 p.2.2.2.1 p.2.2.2.2.1 p.2.2.2.2.2.1 p.2.2.2.2.2.2.1 p.2.2.2.2.2.2.2.1 p.2.2.2.2.2.2.2.2 h) (x1,x2,x3,x4,x5,x6,x7,x8,x9) h
theorem LoopW9.intro {α1 α2 α3 α4 α5 α6 α7 α8 α9:Type} {body:(α1->α2->α3->α4->α5->α6->α7->α8->α9->Hp->Prop)->α1->α2->α3->α4->α5->α6->α7->α8->α9->Hp->Prop} {x1:α1} {x2:α2} {x3:α3} {x4:α4} {x5:α5} {x6:α6} {x7:α7} {x8:α8} {x9:α9} {h:Hp} (I:α1->α2->α3->α4->α5->α6->α7->α8->α9->Hp->Prop) (μ:α1->α2->α3->α4->α5->α6->α7->α8->α9->Hp->Nat)
    (h0:I x1 x2 x3 x4 x5 x6 x7 x8 x9 h) (hr:∀x1 x2 x3 x4 x5 x6 x7 x8 x9 k,I x1 x2 x3 x4 x5 x6 x7 x8 x9 k->body (fun y1 y2 y3 y4 y5 y6 y7 y8 y9 k'=>I y1 y2 y3 y4 y5 y6 y7 y8 y9 k'/\μ y1 y2 y3 y4 y5 y6 y7 y8 y9 k'<μ x1 x2 x3 x4 x5 x6 x7 x8 x9 k) x1 x2 x3 x4 x5 x6 x7 x8 x9 k):LoopW9 body x1 x2 x3 x4 x5 x6 x7 x8 x9 h:=
  ⟨fun p h=>I p.1 p.2.1 p.2.2.1 p.2.2.2.1 p.2.2.2.2.1 p.2.2.2.2.2.1 p.2.2.2.2.2.2.1 p.2.2.2.2.2.2.2.1 p.2.2.2.2.2.2.2.2 h,fun p h=>μ p.1 p.2.1 p.2.2.1 p.2.2.2.1 p.2.2.2.2.1 p.2.2.2.2.2.1 p.2.2.2.2.2.2.1 p.2.2.2.2.2.2.2.1 p.2.2.2.2.2.2.2.2 h,h0,fun p k hk=>hr p.1 p.2.1 p.2.2.1 p.2.2.2.1 p.2.2.2.2.1 p.2.2.2.2.2.1 p.2.2.2.2.2.2.1 p.2.2.2.2.2.2.2.1 p.2.2.2.2.2.2.2.2 k hk⟩
def Call2 (P:Program) (g:FuncId) (args:List Value) (s1 s2:Shape) (K:s1.T->s2.T->Hp->Prop) (h:Hp):Prop:=
  CallT P g args (zie s1 s2) (fun p h'=>K p.1 p.2 h') h
def zny2 (P:Program) (tb:Tb) (f:Value) (args:List Value) (s1 s2:Shape) (K:s1.T->s2.T->Hp->Prop) (h:Hp):Prop:=
  CallV P tb f args (zie s1 s2) (fun p h'=>K p.1 p.2 h') h
def Call3 (P:Program) (g:FuncId) (args:List Value) (s1 s2 s3:Shape) (K:s1.T->s2.T->s3.T->Hp->Prop) (h:Hp):Prop:=
  CallT P g args (zdw1 s1 s2 s3) (fun p h'=>K p.1 p.2.1 p.2.2 h') h
def Call4 (P:Program) (g:FuncId) (args:List Value) (s1 s2 s3 s4:Shape) (K:s1.T->s2.T->s3.T->s4.T->Hp->Prop) (h:Hp):Prop:=
  CallT P g args (zsd1 s1 s2 s3 s4) (fun p h'=>K p.1 p.2.1 p.2.2.1 p.2.2.2 h') h
def Call7 (P:Program) (g:FuncId) (args:List Value) (s1 s2 s3 s4 s5 s6 s7:Shape) (K:s1.T->s2.T->s3.T->s4.T->s5.T->s6.T->s7.T->Hp->Prop) (h:Hp):Prop:=
  CallT P g args (zfe2 s1 s2 s3 s4 s5 s6 s7) (fun p h'=>K p.1 p.2.1 p.2.2.1 p.2.2.2.1 p.2.2.2.2.1 p.2.2.2.2.2.1 p.2.2.2.2.2.2 h') h
def Call0 (P:Program) (g:FuncId) (args:List Value) (K:Hp->Prop) (h:Hp):Prop:=
  CallT P g args znh1 (fun _ h'=>K h') h
def Rw {α:Type} (h:Hp) (sz:Nat) (enc:α->List Value) (l:Sl) (xs:List α):Prop:=
  l.len=xs.length/\zbj1 h l.base (xs.length*sz) (xs.flatMap enc)
section
variable {α:Type} {h h':Hp} {sz:Nat} {enc:α->List Value} {l:Sl} {xs:List α}
theorem zdh1 (hl:h<=h') {a:Addr} {v:Value} (e:hcell h a=some v):hcell h' a=some v:=by
  unfold hcell at e ⊢
  split at e
  · rename_i c t f hb
    rw [hl _ _ hb]
    exact e
  · cases e
theorem zbc (hl:h<=h') {a:Addr} {cs:List Value} (e:LdIs h a cs):LdIs h' a cs:=fun i v hv=>zdh1 hl (e i v hv)
theorem Rw.mono (hl:h<=h') (r:Rw h sz enc l xs):Rw h' sz enc l xs:=by
  obtain ⟨h1,h2,h3⟩:=r
  refine ⟨h1,h2,h3.imp id ?_⟩
  rintro ⟨a,ha,hc⟩
  exact ⟨a,ha,zbc hl hc⟩
theorem zpw1 (henc:∀x,(enc x).length=sz):∀(xs:List α) (i:Nat) (x:α),xs[i]? =some x->∀j v,(enc x)[j]? =some v->(xs.flatMap enc)[i*sz+j]? =some v
  | [],i,x,hx,_,_,_=>by simp at hx
  | y::xs,0,x,hx,j,v,hv=>by
    grind
  | y::xs,i+1,x,hx,j,v,hv=>by
    have:=zpw1 henc xs i x (by simpa using hx) j v hv
    grind
theorem zws1 (henc:∀x,(enc x).length=sz):∀(xs:List α) (i:Nat) (v:Value),(xs.flatMap enc)[i]? =some v->∃q x j,xs[q]? =some x/\(enc x)[j]? =some v/\i=q*sz+j
  | [],i,v,hv=>by simp at hv
  | y::xs,i,v,hv=>by
    simp only [List.flatMap_cons] at hv
    by_cases hi:i<(enc y).length
    · rw [List.getElem?_append_left hi] at hv
      exact ⟨0,y,i,rfl,hv,by simp⟩
    · rw [List.getElem?_append_right (by omega)] at hv
      obtain ⟨q,x,j,h1,h2,h3⟩:=zws1 henc xs _ v hv
      rw [henc] at h3 hi
      exact ⟨q+1,x,j,by simpa using h1,h2,by grind⟩
theorem Rw.read (r:Rw h sz enc l xs) (henc:∀x,(enc x).length=sz) (hsz:0<sz) {i:Int} (h0:0<=i) (h1:i<(l.len:Int)):
    InB l.base l.len i/\∃x,xs[i.toNat]? =some x/\LdIs h (sat l.base sz i) (enc x):=by
  obtain ⟨h2,h3,h4⟩:=r
  have hi:i.toNat<xs.length:=by omega
  have hne:xs.length*sz≠0:=by
    have:0<xs.length:=by omega
    exact Nat.ne_of_gt (Nat.mul_pos this hsz)
  obtain ⟨a,ha,hc⟩:=h4.resolve_left hne
  refine ⟨⟨by simp [ha],h0,h1⟩,xs[i.toNat],by simp [hi],fun j v hv=> ?_⟩
  have:=hc (i.toNat*sz+j) v (zpw1 henc xs i.toNat _ (by simp [hi]) j v hv)
  unfold sat
  rw [ha,Option.getD_some,zeh1]
  exact this
def Own (h0 h:Hp) (sz:Nat) (enc:α->List Value) (l:Sl) (xs:List α):Prop:=
  l.len=xs.length/\l.len<=l.cap/\((l.base=none/\l.cap=0)\/
    ∃(b:Nat) (cs:List Value) (t:Nat),l.base=some ⟨b,0,none⟩/\h b=some (.cells cs.toArray t (0,0))/\cs.length=l.cap*sz/\cs.take (l.len*sz)=xs.flatMap enc/\h0 b=none)
theorem zgn (henc:∀x,(enc x).length=sz):∀xs:List α,(xs.flatMap enc).length=xs.length*sz
  | []=>by simp
  | x::xs=>by
    simp only [List.flatMap_cons,List.length_append,henc,zgn henc xs,List.length_cons,Nat.add_mul,Nat.one_mul]
    omega
theorem zph2 (hok:∀x,zge (enc x)=true):∀xs:List α,zge (xs.flatMap enc)=true:=by
  have app:∀a b:List Value,zge a=true->zge b=true->zge (a++b)=true:=by
    intro a b ha hb
    induction a with
    | nil=>exact hb
    | cons v a ih=>cases v<;>first | (exact ih ha) | (cases ha)
  intro xs
  induction xs with
  | nil=>rfl
  | cons x xs ih=>grind
theorem zvl {b:Nat} {cs:List Value} {t:Nat} (e:h b=some (.cells cs.toArray t (0,0))) (i:Nat):hcell h ⟨b,i,none⟩=cs[i]?:=by
  unfold hcell
  simp [e]
theorem Own.rw {h0:Hp} (o:Own h0 h sz enc l xs) (henc:∀x,(enc x).length=sz):Rw h sz enc l xs:=by
  obtain ⟨h1,h2,h3⟩:=o
  refine ⟨h1,zgn henc xs,?_⟩
  rcases h3 with ⟨e,ec⟩ | ⟨b,cs,t,e,hb,hl,ht,_⟩
  · grind
  · right
    refine ⟨_,e,fun j v hv=> ?_⟩
    rw [box_add,zvl hb,Nat.zero_add]
    grind
theorem Own.mono {h0:Hp} (hl:h<=h') (o:Own h0 h sz enc l xs):Own h0 h' sz enc l xs:=by
  obtain ⟨h1,h2,h3⟩:=o
  refine ⟨h1,h2,h3.imp id ?_⟩
  rintro ⟨b,cs,t,e1,e2,e3⟩
  exact ⟨b,cs,t,e1,hl _ _ e2,e3⟩
theorem zpx1 {h0:Hp} {zero:List Value} {bytes:Nat} {x:Sl} {ys:List α} {K:Sl->Hp->Prop} (hw:h0<=h) (o:Own h0 h sz enc l xs) (r:Rw h sz enc x ys) (henc:∀x,(enc x).length=sz) (hok:∀x,zge (enc x)=true)
    (hz:zero.length=sz) (hb:xs.length+ys.length<=140737488355328/\(xs.length+ys.length)*bytes<=140737488355328)
    (hk:∀l' h',h0<=h'->Own h0 h' sz enc l' (xs++ys)->(∀b ob,h b=some ob->(∀a,l.base=some a->a.block≠b)->h' b=some ob)->K l' h'):zbb sz bytes zero l x K h:=by
  have hrw:=o.rw henc
  obtain ⟨h1,h2,h3⟩:=o
  obtain ⟨hx1,hx2⟩:=r
  refine ⟨ys.flatMap enc,by grind,xs.flatMap enc,by rw [h1];exact hrw.2,by grind,zph2 hok ys,fun hcap=> ?_,fun hcap c b t hc hbn=> ?_⟩
  · rcases h3 with ⟨e,ec⟩ | ⟨b,cs,t,e,hbk,hl,ht,hn⟩
    · -- nothing is put
      have e1:ys.length=0:=by omega
      have e2:ys=[]:=List.length_eq_zero_iff.1 e1
      subst e2
      refine ⟨fun a ha=>(by grind),?_⟩
      have e3:putO h l.base (l.len*sz) (([]:List α).flatMap enc)=h:=by rw [e];rfl
      rw [e3,hx1]
      refine hk _ h hw ⟨by simp [h1],by simpa using h2,.inl ⟨e,ec⟩⟩ fun _ _ e _=>e
    · have hle:l.len*sz+(ys.flatMap enc).length<=cs.length:=by
        rw [hl,zgn henc,<-Nat.add_mul]
        exact Nat.mul_le_mul_right sz (by omega)
      obtain ⟨p1,p2⟩:=zfv1 b t (ys.flatMap enc) h 0 (l.len*sz) cs (by simpa using hle) hbk
      have hst:∀(k:Nat),l.len*sz+k<=cs.length->StOk h (⟨b,l.len*sz,none⟩:Addr) k:=by
        intro k
        induction k with
        | zero=>intro _;trivial
        | succ k ih=>
          intro hk'
          refine ⟨ih (by omega),⟨cs[l.len*sz+k]'(by omega),?_⟩,?_⟩
          · rw [box_add,zvl hbk]
            simp
          · rw [box_add]
            unfold hfroz
            simp [hbk]
      refine ⟨fun a ha=> ?_,?_⟩
      · rw [e] at ha;cases ha
        rw [box_add,Nat.zero_add]
        refine hst _ ?_
        rw [hx1,<-zgn henc ys]
        exact hle
      · have e3:putO h l.base (l.len*sz) (ys.flatMap enc)=putL h ⟨b,l.len*sz,none⟩ (ys.flatMap enc) 0:=by
          rw [e]
          simp only [putO,box_add,Nat.zero_add]
        rw [e3]
        rw [Nat.add_zero] at p1
        refine hk _ _ (fun b' ob eb=> ?_) ⟨by simp [h1,hx1],hcap,.inr ⟨b,_,t,e,p1,?_,?_,hn⟩⟩ fun b' ob eb hne=> ?_
        · have hne:b'≠b:=fun e'=>by rw [e',hn] at eb;cases eb
          rw [p2 b' hne]
          exact hw _ _ eb
        · rw [zwe1 _ _ _ hle,hl]
        · rw [zyp _ _ _ hle]
          have e4:(l.len+x.len)*sz=(cs.take (l.len*sz)++ys.flatMap enc).length:=by
            rw [List.length_append,ht,zgn henc,zgn henc,h1,hx1,Nat.add_mul]
          rw [e4,List.take_left,ht,List.flatMap_append]
        grind
  · have hh:∀b' ob,h b'=some ob->(h.set b (.cells (xs.flatMap enc++ys.flatMap enc++zbn zero (c-(l.len+x.len))).toArray t (0,0))) b'=some ob:=fun b' ob eb=>by
      have hne:b'≠b:=fun e'=>by grind
      simp [Hp.set,hne,eb]
    refine hk _ _ (fun b' ob eb=>hh b' ob (hw _ _ eb)) ⟨by simp [h1,hx1],hc,.inr ⟨b,xs.flatMap enc++ys.flatMap enc++zbn zero (c-(l.len+x.len)),t,rfl,by simp [Hp.set],?_,?_,?_⟩⟩ fun b' ob eb _=>hh b' ob eb
    · have hzl:∀k,(zbn zero k).length=k*sz:=fun k=>by simp [zbn,hz]
      rw [List.length_append,List.length_append,zgn henc,zgn henc,hzl,<-Nat.add_mul,<-Nat.add_mul]
      grind
    · have e4:(l.len+x.len)*sz=(xs.flatMap enc++ys.flatMap enc).length:=by
        rw [List.length_append,zgn henc,zgn henc,h1,hx1,Nat.add_mul]
      grind
    · cases e0:h0 b with
      | none=>rfl
      | some ob=>rw [hw _ _ e0] at hbn;cases hbn
end
abbrev Rs (h:Hp) (sh:Shape) (sz:Nat) (l:Sl) (xs:List sh.T):Prop:=Rw h sz (fun x=>zaj (sh.enc x)) l xs
section
variable {h h':Hp} {sh:Shape} {sz:Nat} {l:Sl} {xs:List sh.T} {K:sh.T->Prop} {i:Int}
theorem Rs.get (r:Rs h sh sz l xs) (henc:∀x,(zaj (sh.enc x)).length=sz) (hsz:0<sz) (h0:0<=i) (h1:i<(xs.length:Int)) (hk:∀x,xs[i.toNat]? =some x->K x):
    InB l.base l.len i/\LdW none sh h (sat l.base sz i) K:=by
  obtain ⟨e1,x,hx,hl⟩:=Rw.read r henc hsz h0 (by rw [r.1];exact h1)
  exact ⟨e1,x,hl,hk x hx⟩
theorem Rs.getC {c:Bool} (r:Rs h sh sz l xs) (x0:sh.T) (henc:∀x,(zaj (sh.enc x)).length=sz) (hsz:0<sz) (h0:c=true->0<=i/\i<(xs.length:Int)) (hk:∀x,(c=true->xs[i.toNat]? =some x)->K x):
    (c=true->InB l.base l.len i)/\LdW (some c) sh h (sat l.base sz i) K:=by
  cases c with
  | false=>exact ⟨fun e=>(by cases e),x0,fun e=>(by cases e),hk x0 fun e=>(by cases e)⟩
  | true=>
    obtain ⟨e1,x,hx,hl⟩:=Rw.read r henc hsz (h0 rfl).1 (by rw [r.1];exact (h0 rfl).2)
    exact ⟨fun _=>e1,x,fun _=>hl,hk x fun _=>hx⟩
theorem ld_at {a:Addr} (x:sh.T) (hl:LdIs h a (zaj (sh.enc x))) (hk:K x):LdW none sh h a K:=⟨x,hl,hk⟩
theorem letW {α:Type} {x:α} {K:α->Prop} (hk:K x):LetW x K:=fun _ e=>e▸hk
theorem zab {n:Int} (h0: -9223372036854775808<=n) (h1:n<9223372036854775808):IntKind.wrap .i64 n=n:=by
  unfold IntKind.wrap
  simp only [IntKind.signed,IntKind.bits]
  grind
end
theorem zeo1 {α:Type} {h0 h:Hp} {sz:Nat} {enc:α->List Value} {cs:List Value} {xs:List α} {K:Addr->Hp->Prop} (hw:h0<=h) (hc:cs=xs.flatMap enc) (henc:∀x,(enc x).length=sz)
    (hk:∀a h',h<=h'->Own h0 h' sz enc ⟨some a,xs.length,xs.length⟩ xs->K a h'):NewW cs K h:=by
  intro b t hb
  have hle:h<=h.set b (.cells cs.toArray t (0,0)):=fun b' o e=>by
    have hne:b'≠b:=fun e'=>by grind
    simp [Hp.set,hne,e]
  refine hk _ _ hle ⟨rfl,Nat.le_refl _,.inr ⟨b,cs,t,rfl,by simp [Hp.set],?_,?_,?_⟩⟩
  · rw [hc,zgn henc]
  · have:(xs.length*sz)=(xs.flatMap enc).length:=(zgn henc xs).symm
    grind
  · cases e0:h0 b with
    | none=>rfl
    | some ob=>rw [hw _ _ e0] at hb;cases hb
def CKeep (h h':Hp):Prop:=∀a v,hcell h a=some v->hcell h' a=some v
theorem zpi2 {h h':Hp} (hl:CKeep h h') {a:Addr} {cs:List Value} (e:LdIs h a cs):LdIs h' a cs:=fun i v hv=>hl _ _ (e i v hv)
theorem Rw.ck {α:Type} {h h':Hp} {sz:Nat} {enc:α->List Value} {l:Sl} {xs:List α} (hl:CKeep h h') (r:Rw h sz enc l xs):Rw h' sz enc l xs:=by
  obtain ⟨h1,h2,h3⟩:=r
  refine ⟨h1,h2,h3.imp id ?_⟩
  rintro ⟨a,ha,hc⟩
  exact ⟨a,ha,zpi2 hl hc⟩
theorem zji {h:Hp} {b:Nat} {o:Obj} (hn:h b=none):h<=h.set b o:=fun b' o' e=>by
  have hne:b'≠b:=fun e'=>by rw [e',hn] at e;cases e
  simp [Hp.set,hne,e]
theorem zdu {h:Hp} {b:Nat} {o:Obj}:(h.set b o) b=some o:=by simp [Hp.set]
theorem zjn1 {h h0:Hp} {b:Nat} {o:Obj} (hl:h0<=h) (hn:h0 b=none):h0<=h.set b o:=fun b' o' e=>by
  have hne:b'≠b:=fun e'=>by rw [e',hn] at e;cases e
  simp only [Hp.set,hne,if_false]
  exact hl _ _ e
theorem zqe {h0 h:Hp} {b:Nat} (hl:h0<=h) (hn:h b=none):h0 b=none:=by
  cases e:h0 b with
  | none=>rfl
  | some o=>rw [hl _ _ e] at hn;cases hn
theorem effT {α:Type} {A:(α->Hp->Prop)->Hp->Prop} {K:α->Hp->Prop} {h:Hp} (hk:A K h):EffC (some true) A K h:=⟨fun _=>hk,fun e=>by cases e⟩
theorem effB {α:Type} {b:Bool} {A:(α->Hp->Prop)->Hp->Prop} {K:α->Hp->Prop} {h:Hp} (hb:b=true) (hk:A K h):EffC (some b) A K h:=⟨fun _=>hk,fun e=>by rw [hb] at e;cases e⟩
theorem zag {p:Addr} {c:Option Bool} {K:Addr->Prop} (hk:K p):NilW c (some p) K:=by
  refine ⟨p,?_,hk⟩
  cases c with
  | none=>rfl
  | some b=>exact fun _=>rfl
theorem zli2 {P:Program} {t:Nat} {d:TypeDesc} (hu:P.underlying t=some d) {K:TypeDesc->Hp->Prop} {h:Hp} (hk:K d h):semW P (underlying t) K h:=by
  show semW P (match P.underlying t with
    | some d=>Sem.pure d
    | none=>_) K h
  rw [hu]
  exact hk
theorem zfz1 {P:Program} {s:Sem Value} {h:Hp} {v:Value} (hi:semW P s (fun u h'=>u=v/\h'=h) h):SemIs P s h v:=by
  intro w hs
  obtain ⟨a,w',h',hr,⟨ha,hh⟩,hst⟩:=zxe s hs hi
  subst ha;subst hh
  exact ⟨w',hr,hst⟩
theorem zir1 {P:Program} {s:Sem Value} {h:Hp} {v:Value} (hi:∀w,s.run P w=.ok v w):SemIs P s h v:=fun w hs=>⟨w,hi w,.refl hs⟩
end Lf
namespace Lf
open Go Go.ChangeShapes Go.WideShapes Go.ChangeAt Go.RowKit
def whole (W:World):Hp:=fun b=>W.heap[b]?
theorem zgy2 (W:World):Sub (whole W) W:=fun _ _ e=>e
theorem znj (W:World) (a:Addr):hcell (whole W) a=W.cell? a:=rfl
theorem zpy1 {W W':World} {h':Hp} (hle:whole W<=h') (st:Step (whole W) h' W W'):Below W.heap.size W W':=
  ⟨st.os,st.tape,st.output,st.size,fun k hk=>by
    cases e:W.heap[k]? with
    | some o=>exact st.sub _ _ (hle _ _ e)
    | none=>simp at e;omega⟩
theorem zga1 {H:Type} {enc:TypeId×Value->H} {P:Program} (hl:laidOutB P=true) {W W':World} {sp:Nat->Bool} (hb:Below W.heap.size W W'):∀ {ts:List TypeId} {vs:List Value} {ds:List (DataW H)} {ps:List MemPlace},
    (∀t∈ts,P.readableRec t=true/\t<P.types.size)->DataW.TrodAll enc P W 0 (fun _=>true) true ts vs ds ps->(∀x∈ps,x.block<W.heap.size)->(∀x∈ps,sp x.block=true)->DataW.TrodAll enc P W' 0 sp true ts vs ds ps
  | [],_,_,_,_,h,_,_=>by
    obtain ⟨rfl,rfl,rfl⟩:=trodAll_nil h
    exact trodAll_mk0
  | t::ts,_,_,_,hr,h,hlt,hs=>by
    obtain ⟨v,vs,d,ds,p,q,rfl,rfl,rfl,h1,h2⟩:=trodAll_cons h
    obtain ⟨hr1,hr2⟩:=hr t (List.mem_cons_self ..)
    exact ⟨p,q,WideElems.Trod_stays hl hr1 hr2 h1 (fun x hx=>hb.same (hlt x (List.mem_append_left _ hx))) (fun x hx=>hs x (List.mem_append_left _ hx)),
      zga1 hl hb (fun t ht=>hr t (List.mem_cons_of_mem _ ht)) h2 (fun x hx=>hlt x (List.mem_append_right _ hx)) (fun x hx=>hs x (List.mem_append_right _ hx)),rfl⟩
theorem zlj2 {H:Type} {enc:TypeId×Value->H} {P:Program} {f:Func} {s:ChangeSpec} {W W':World} {h':Hp} {args:Array Value} {ds gs:List (DataW H)} {before:List MemPlace} {t:TypeId} (hl:laidOutB P=true)
    (hrd:∀t∈f.params.toList,P.readableRec t=true/\t<P.types.size) (hvars:s.vars=[]) (hres:f.resultTypes= #[t]) (ht:P.underlying t=some .bool)
    (hfn:gs=[]->s.fn H (ds++gs)={results:=[.lit (.bool true)],args:=ds}) (hW:DataW.Whole enc P f.params.toList s.vars false W args.toList ds gs before) (hle:whole W<=h') (st:Step (whole W) h' W W'):
    s.post enc P f false true false false W args (.bool true) W':=by
  have hb:=zpy1 hle st
  have hlt:∀p∈before,p.block<W.heap.size:=fun p hp=>hW.lt p hp
  have hW':=hW
  obtain ⟨p,q,hA,hV,rfl,hfz,hnd⟩:=hW'
  rw [hvars] at hV
  obtain ⟨rfl,rfl⟩:=trodVars_none hV
  rw [List.append_nil] at hlt
  have hsp:=hfn rfl
  refine ⟨ds,[],p++ [],[],p,[],hW,?_,?_,?_,Below.frame hb _,fun e=>(by cases e)⟩
  · rw [hsp,hres]
    exact trodAll_mk1 (shut_bool ht true)
  · rw [hsp]
    exact zga1 hl hb hrd hA hlt (fun x hx=>by grind)
  · rw [hsp,hvars]
    exact rfl
theorem zlk2 {H:Type} {enc:TypeId×Value->H} {P:Program} {W:World} {base:Nat} {t e:TypeId} {v:Value} {d:DataW H} {ps:List MemPlace} {α:Type} (ht:P.underlying t=some (.slice e)) (en:α->List Value) (good:α->Prop)
    (hel:∀fuel cs y,cs.length=P.cellsOf e->DataW.trod enc P W 0 (fun _=>true) true fuel e cs=some y->∃x,cs=en x/\good x) (henc:∀x,(en x).length=P.cellsOf e) (hv:Value.okWide P W .any base t v)
    (h:DataW.Trod enc P W 0 (fun _=>true) true t v d ps):∃(l:Sl) (xs:List α),v=l.v/\Rw (whole W) (P.cellsOf e) en l xs/\l.len<=l.cap/\l.cap<=9223372036854775807/\(∀x∈xs,good x)/\(l.len=0\/∃el sp,d=.slice el sp/\el.length=l.len):=by
  obtain ⟨a0,len0,cap0,rfl⟩:=okWide_slice ht hv
  obtain ⟨fuel,hf⟩:=h
  rcases DataW.trod_slice ht hf with ⟨h0,_⟩ | ⟨a,len,cap,elems,rest,n,_,h0,hd0,hb,hl,hm,hlen,hel',_,_⟩
  · simp [Value.cells] at h0
    obtain ⟨rfl,rfl,rfl⟩:=h0
    exact ⟨⟨none,0,0⟩,[],rfl,⟨rfl,(by simp),.inl (by simp)⟩,Nat.le_refl _,(by simp),fun x hx=>(by cases hx),.inl rfl⟩
  · simp [Value.cells] at h0
    obtain ⟨rfl,rfl,rfl⟩:=h0
    have each:∀i,i<len0->∃x,good x/\LdIs (whole W) (a.add (i*P.cellsOf e)) (en x):=by
      intro i hi
      have h1:=hel' i hi
      have h2:elems[i]? =some elems[i]:=List.getElem?_eq_getElem (by omega)
      rw [h2] at h1
      cases hc:W.cells? 0 (a.add (i*P.cellsOf e)) (P.cellsOf e) with
      | none=>grind
      | some cs=>
        rw [hc] at h1
        obtain ⟨_,hcl,hcc⟩:=World.cells?_some hc
        obtain ⟨x,hx,hg⟩:=hel n cs _ hcl h1
        refine ⟨x,hg,fun j v hj=> ?_⟩
        have hjl:j<(en x).length:=(List.getElem?_eq_some_iff.1 hj).1
        rw [znj,hcc j (by grind),hx]
        exact hj
    have build:∀m,m<=len0->∃xs:List α,xs.length=m/\(∀x∈xs,good x)/\∀i x,xs[i]? =some x->LdIs (whole W) (a.add (i*P.cellsOf e)) (en x):=by
      intro m
      induction m with
      | zero=>simp
      | succ m ih=>
        intro hm'
        obtain ⟨xs,h1,h2,h3⟩:=ih (by omega)
        obtain ⟨x,hg,hx⟩:=each m (by omega)
        refine ⟨xs++ [x],by simp [h1],fun y hy=> ?_,fun i y hy=> ?_⟩
        · rcases List.mem_append.1 hy with hy | hy
          · exact h2 y hy
          · rw [List.mem_singleton.1 hy];exact hg
        grind
    obtain ⟨xs,h1,h2,h3⟩:=build len0 (Nat.le_refl _)
    refine ⟨⟨some a,len0,cap0⟩,xs,rfl,⟨h1.symm,zgn henc xs,.inr ⟨a,rfl,fun i v hv=> ?_⟩⟩,hl,hm,h2,.inr ⟨_,_,(Prod.mk.inj hd0).1,by simp [hlen]⟩⟩
    obtain ⟨q,x,j,hq,hj,e1⟩:=zws1 henc xs i v hv
    rw [e1]
    rw [<-zeh1]
    exact h3 q x hq j v hj
theorem zoq {H:Type} {enc:TypeId×Value->H} {P:Program} {W:World} {t:TypeId} {fs:Array Field} {fuel:Nat} {cs:List Value} {x:DataW H×List MemPlace} (ht:P.underlying t=some (.struct fs)) (h:DataW.trod enc P W 0 (fun _=>true) true fuel t cs=some x)
    {i:Nat} {f:Field} {k:IntKind} (hf:fs[i]? =some f) (hk:P.underlying f.type=some (.int k)) (hc:P.cellsOf f.type=1):∃n,cs[f.offset]? =some (.int k n)/\(Lit.int k n).wf=true:=by
  obtain ⟨xs,n,_,_,hl,hlen,hfs⟩:=DataW.trod_struct ht h
  have h1:=hfs i f hf
  have hil:i<xs.length:=by rw [hlen];exact (Array.getElem?_eq_some_iff.1 hf).1
  rw [List.getElem?_eq_getElem hil,hc] at h1
  obtain ⟨m,hm,_,hw⟩:=DataW.trod_int hk h1
  refine ⟨m,?_,hw⟩
  have:((cs.drop f.offset).take 1)[0]? =some (.int k m):=by rw [hm];rfl
  grind
theorem zrq2 {x:Int} (h:(Lit.int .i64 x).wf=true): -9223372036854775808<=x/\x<=9223372036854775807:=by
  simp [Lit.wf,IntKind.min,IntKind.max,IntKind.signed,IntKind.bits] at h
  omega
theorem witness_zip {H:Type} {enc:TypeId×Value->H} {C:Checked} {os:Os} {f:FuncId} {fn:Func} {s:OpenSpec} {conds:List PathCond} {apart:Bool} {laid:List (String×DataW Unit)} (modest:Bool) (w0:World) (args:Array Value) (hos:w0.os=os)
    (hv:(w0.forCall (fun _ _=>0) ⟨#[],args,[]⟩).variablesZipB C.prog=true)
    (hr:((w0.forCall (fun _ _=>0) ⟨#[],args,[]⟩).heap.toList.drop C.prog.globals.size).take ((begin C.prog (fun _ _=>0) default).world.heap.size-C.prog.globals.size)=
      (begin C.prog (fun _ _=>0) default).world.heap.toList.drop C.prog.globals.size)
    (hok:Input.okWideB C.prog (w0.forCall (fun _ _=>0) ⟨#[],args,[]⟩) f ⟨#[],args,[]⟩=true)
    (hrow:s.preRow enc C.prog fn conds apart laid (w0.forCall (fun _ _=>0) ⟨#[],args,[]⟩).memory args):
    ∃(w:World) (tape:Tape) (i:Input),w.os=os/\(w.forCall tape i).Shaped C.prog/\i.vars=[]/\Input.okWide C.prog (w.forCall tape i) .any w.heap.size f i/\
      s.preRow enc C.prog fn conds apart laid (w.forCall tape i).memory i.args/\({modest:=modest}:Assume).holds C.prog (lone (Frame.enter C.prog f i.args .normal) [] (w.forCall tape i)):=
  ⟨w0,fun _ _=>0,⟨#[],args,[]⟩,hos,World.shaped_of_ZipB hv hr,(Input.okWide_of_okWideB (base:=0) hok).1,(Input.okWide_of_okWideB hok).2,hrow,by
    simp only [Assume.holds]
    exact ⟨by simp,by simp,fun _=>Modest.zero,by simp,by simp⟩⟩
theorem law_laid_upto {H:Type} {enc:TypeId×Value->H} {C:Checked} {os:Os} {f:FuncId} {fn:Func} {s:OpenSpec} {cs:ChangeSpec} {k:(H:Type)->List (DataW H)->Bool} (hk:s.cond=some k) {F:Stop.Interp} (hat:s.at F=cs) (hsv:s.vars=[]) {laid:List (String×DataW Unit)} {t:TypeId}
    (own:ownKnob C.prog.godebug=none) (started:os.Started) (noInit:C.prog.inits.idxOf? f=none) (hf:C.prog.funcs[f]? =some fn)
    (witness:∃(w:World) (tape:Tape) (i:Input),w.os=os/\(w.forCall tape i).Shaped C.prog/\i.vars=[]/\Input.okWide C.prog (w.forCall tape i) .any w.heap.size f i/\
      s.preRow enc C.prog fn [] false laid (w.forCall tape i).memory i.args/\({}:Assume).holds C.prog (lone (Frame.enter C.prog f i.args .normal) [] (w.forCall tape i)))
    (hl:laidOutB C.prog=true) (hrd:∀t∈fn.params.toList,C.prog.readableRec t=true/\t<C.prog.types.size) (hvars:cs.vars=[]) (hres:fn.resultTypes= #[t]) (ht:C.prog.underlying t=some .bool)
    (walk:∀(W:World) (base:Nat) (args:Array Value) (ds:List (DataW H)) (p:List MemPlace),(∀(j:Nat) t v,fn.params[j]? =some t->args[j]? =some v->Value.okWide C.prog W .any base t v)->DataW.TrodAll enc C.prog W 0 (fun _=>true) true fn.params.toList args.toList ds p->
      laidMetH C.prog laid W->k H ds=true->cs.fn H ds={results:=[.lit (.bool true)],args:=ds}/\CallT C.prog f args.toList zae (fun r h'=>r=true/\whole W<=h') (whole W)):
    ReturnsInHanded {} C os f .any (s.preRow enc C.prog fn [] false laid) ((s.at F).post enc C.prog fn false true false false):=by
  refine returnsInHanded_of_row own started noInit hf witness ?_
  intro W base args ds gs before hval hW _ hkk _ hL _ _
  rw [hsv] at hW
  have hW0:=hW
  obtain ⟨p,q,hA,hV,_,hfz,hnd⟩:=hW0
  have hgs:gs=[]:=(trodVars_none hV).1
  subst hgs
  have hkk:=hkk k hk
  rw [List.append_nil] at hkk
  obtain ⟨hsp,hc⟩:=walk W base args ds p hval hA hL hkk
  have hc':=hc W (zgy2 W)
  simp only [Array.toArray_toList] at hc'
  refine hc'.mono fun e W' hh=> ?_
  obtain ⟨v,h',rfl,⟨x,rfl,rfl,hle⟩,hst⟩:=hh
  rw [hat]
  exact ⟨_,rfl,zlj2 hl hrd hvars hres ht (fun e=>by rw [List.append_nil];exact hsp) (by rw [hvars];exact hW) hle hst⟩
end Lf
namespace Lf
open Go
section
variable {P:Program} {W:World}
theorem zub {n:String} {d:DataW Unit} {r:List (String×DataW Unit)} {g:Nat} {t:TypeId} (h:laidMet P ((n,d)::r) W) (hg:P.globalNamed n=some g) (ht:(P.globals[g]?).map (·.type)=some t):
    ∃(cs:Array Value) (fuel:Nat) (p:List MemPlace),(∀i v,cs.toList[i]? =some v->hcell (whole W) ⟨g,i,none⟩=some v)/\DataW.trod (fun _=>()) P W 0 (fun _=>true) false fuel t cs.toList=some (d,p):=by
  obtain ⟨ps,⟨g0,t0,cs0,f0,p0,q0,hg0,ht0,hv0,hd0,_,_⟩,_,_⟩:=h
  obtain rfl:=Option.some.inj (hg.symm.trans hg0)
  obtain rfl:=Option.some.inj (ht.symm.trans ht0)
  refine ⟨cs0,f0,p0,fun i v e=> ?_,hd0⟩
  rw [znj,World.var?_cell hg0 hv0 i]
  simpa using e
theorem zhl1 {a:Addr} {cs:List Value} {b:Nat} (ha:a=⟨b,0,none⟩) (h:∀i v,cs[i]? =some v->hcell (whole W) ⟨b,i,none⟩=some v):LdIs (whole W) a cs:=fun i v e=>by
  subst ha
  rw [box_add,Nat.zero_add]
  exact h i v e
theorem zgz2 {n:String} {b:Bool} {r:List (String×DataW Unit)} {g:Nat} {t:TypeId} (h:laidMet P ((n,.lit (.bool b))::r) W) (hg:P.globalNamed n=some g) (ht:(P.globals[g]?).map (·.type)=some t) (hu:P.underlying t=some .bool):LdIs (whole W) ⟨g,0,none⟩ [.bool b]:=by
  obtain ⟨cs,fuel,p,hc,hd⟩:=zub h hg ht
  obtain ⟨b',e1,e2⟩:=DataW.trod_bool hu hd
  cases e2
  exact zhl1 rfl (e1▸hc)
theorem zsx1 {n:String} {k:IntKind} {ns:List Int} {r:List (String×DataW Unit)} {g m:Nat} {t e:TypeId} (h:laidMet P ((n,.agg (ns.map fun x=>.lit (.int k x)))::r) W) (hg:P.globalNamed n=some g) (ht:(P.globals[g]?).map (·.type)=some t)
    (hu:P.underlying t=some (.array m e)) (he:P.underlying e=some (.int k)) (hc1:P.cellsOf e=1) (hcm:P.cellsOf t=m):LdIs (whole W) ⟨g,0,none⟩ (ns.map fun x=>.int k x):=by
  obtain ⟨cs,fuel,p,hc,hd⟩:=zub h hg ht
  obtain ⟨xs,f, -,e2,e3,e4,e5⟩:=DataW.trod_array hu hd
  have e2:=(Prod.mk.inj e2).1
  injection e2 with e2
  have hl:ns.length=m:=by rw [<-e4,<-(by simp:(xs.map fun x=>x.1).length=xs.length),<-e2,List.length_map]
  refine zhl1 rfl fun i v hv=>hc i v ?_
  have hi:i<ns.length:=by have:=(List.getElem?_eq_some_iff.1 hv).1;simpa using this
  have h5:=e5 i (by omega)
  have hx:xs[i]? =some xs[i]:=List.getElem?_eq_getElem (by omega)
  rw [hx,hc1,Nat.mul_one] at h5
  obtain ⟨z,z1,z2, -⟩:=DataW.trod_int he h5
  have hp:(ns.map fun x=>(DataW.lit (.int k x):DataW Unit))[i]? =(xs.map (·.1))[i]?:=by rw [e2]
  rw [List.getElem?_map,List.getElem?_map,hx,List.getElem?_eq_getElem hi,z2] at hp
  injection hp with hp
  injection hp with hp
  injection hp with _ hp
  rw [List.getElem?_map,List.getElem?_eq_getElem hi] at hv
  have hv:=Option.some.inj hv
  rw [<-hv,hp]
  have:=congrArg List.head? z1
  rw [List.head?_take,List.head?_drop] at this
  simpa using this
theorem zcw2 {n:String} {rows:List (Nat×Nat)} {r:List (String×DataW Unit)} {g m:Nat} {t e u:TypeId} {fs:Array Field} {f0 f1:Field} (h:laidMet P ((n,.agg (rows.map fun x=>.agg [.lit (.int .u64 x.1),.lit (.int .u64 x.2)]))::r) W) (hg:P.globalNamed n=some g) (ht:(P.globals[g]?).map (·.type)=some t)
    (hu:P.underlying t=some (.array m e)) (he:P.underlying e=some (.struct fs)) (hf0:fs[0]? =some f0) (hf1:fs[1]? =some f1) (t0:f0.type=u) (t1:f1.type=u) (o0:f0.offset=0) (o1:f1.offset=1) (hint:P.underlying u=some (.int .u64)) (hc1:P.cellsOf u=1) (hc2:P.cellsOf e=2):
    LdIs (whole W) ⟨g,0,none⟩ (rows.flatMap fun x=> [Value.int .u64 (x.1:Int),Value.int .u64 (x.2:Int)]):=by
  obtain ⟨cs,fuel,p,hc,hd⟩:=zub h hg ht
  obtain ⟨xs,f, -,e2,e3,e4,e5⟩:=DataW.trod_array hu hd
  have e2:=(Prod.mk.inj e2).1
  injection e2 with e2
  have hl:rows.length=m:=by rw [<-e4,<-(by simp:(xs.map fun x=>x.1).length=xs.length),<-e2,List.length_map]
  refine zhl1 rfl fun q v hv=>hc q v ?_
  obtain ⟨i,x,j,hxi,hj,rfl⟩:=zws1 (sz:=2) (fun _=>rfl) rows q v hv
  have hi:i<rows.length:=(List.getElem?_eq_some_iff.1 hxi).1
  have h5:=e5 i (by omega)
  have hx:xs[i]? =some xs[i]:=List.getElem?_eq_getElem (by omega)
  rw [hx,hc2] at h5
  obtain ⟨ys,f', -,g2,g3,g4,g5⟩:=DataW.trod_struct he h5
  have hp:(rows.map fun x=>(DataW.agg [.lit (.int .u64 x.1),.lit (.int .u64 x.2)]:DataW Unit))[i]? =(xs.map (·.1))[i]?:=by rw [e2]
  rw [List.getElem?_map,List.getElem?_map,hx,hxi,g2] at hp
  injection hp with hp
  injection hp with hp
  have part:∀(k:Nat) (fk:Field) (z:Int),fs[k]? =some fk->fk.type=u->fk.offset=k->k<2->([DataW.lit (.int .u64 x.1),.lit (.int .u64 x.2)]:List (DataW Unit))[k]? =some (.lit (.int .u64 z))->cs.toList[i*2+k]? =some (.int .u64 z):=fun k fk z a1 a2 a3 a4 a5=>by
    have h6:=g5 k fk a1
    rw [hp,List.getElem?_map] at a5
    cases hy:ys[k]? with
    | none=>rw [hy] at a5;cases a5
    | some y=>
      rw [hy] at a5 h6
      have a5:y.1=.lit (.int .u64 z):=Option.some.inj a5
      rw [a2,a3,hc1] at h6
      obtain ⟨w,w1,w2, -⟩:=DataW.trod_int hint h6
      rw [w2] at a5
      injection a5 with a5
      injection a5 with _ a5
      have:=congrArg List.head? w1
      rw [List.head?_take,List.head?_drop] at this
      simp only [List.head?_cons] at this
      rw [List.getElem?_take_of_lt a4,List.getElem?_drop] at this
      rw [<-a5]
      exact this
  rcases (show j=0\/j=1 by have:=(List.getElem?_eq_some_iff.1 hj).1;simp at this;omega) with rfl | rfl
  · have hj:v=.int .u64 x.1:=(Option.some.inj hj).symm
    rw [hj]
    exact part 0 f0 x.1 hf0 t0 o0 (by decide) rfl
  · have hj:v=.int .u64 x.2:=(Option.some.inj hj).symm
    rw [hj]
    exact part 1 f1 x.2 hf1 t1 o1 (by decide) rfl
where
  one_cell' {h:Hp} {a:Addr} {v:Value} (e:hcell h a=some v):LdIs h a [v]:=fun i u hu=>by
    cases i with
    | zero=>cases hu;exact e
    | succ i=>simp at hu
theorem zcx2 {H:Type} {enc:TypeId×Value->H} {base:Nat} {spare:Nat->Bool} {held:Bool} {fuel:Nat} {t:TypeId} {cs:List Value} {x:DataW H×List MemPlace} {k:FloatKind} (ht:P.underlying t=some (.float k)) (h:DataW.trod enc P W base spare held fuel t cs=some x):∃n,cs=[.float k n]/\x=(.lit (.float k n),[]):=by
  cases fuel with
  | zero=>simp [DataW.trod] at h
  | succ n=>
    unfold DataW.trod at h
    rw [ht] at h
    split at h<;>simp_all
theorem zwt1 {n:String} {k:FloatKind} {ns:List Nat} {r:List (String×DataW Unit)} {g:Nat} {t e:TypeId} (h:laidMet P ((n,.slice (ns.map fun x=>.lit (.float k x)) [])::r) W) (hg:P.globalNamed n=some g) (ht:(P.globals[g]?).map (·.type)=some t)
    (hu:P.underlying t=some (.slice e)) (he:P.underlying e=some (.float k)) (hc1:P.cellsOf e=1):∃a c,LdIs (whole W) ⟨g,0,none⟩ [.slice (some a) ns.length c]/\LdIs (whole W) a (ns.map fun x=>.float k x):=by
  obtain ⟨cs,fuel,p,hc,hd⟩:=zub h hg ht
  rcases DataW.trod_slice hu hd with ⟨_,e2⟩ | ⟨a,len,cap,elems,rest,f, -,e1,e2, -, -, -,e3,e4, -, -⟩
  · cases e2
  · have e2:=(Prod.mk.inj e2).1
    injection e2 with e2 _
    have hl:ns.length=len:=by rw [<-e3,<-(by simp:(elems.map fun x=>x.1).length=elems.length),<-e2,List.length_map]
    refine ⟨a,cap,zhl1 rfl fun i v hv=>hc i v (by rw [e1,<-hl];exact hv),fun i v hv=> ?_⟩
    have hi:i<ns.length:=by have:=(List.getElem?_eq_some_iff.1 hv).1;simpa using this
    have h4:=e4 i (by omega)
    have hx:elems[i]? =some elems[i]:=List.getElem?_eq_getElem (by omega)
    rw [hx,hc1,Nat.mul_one] at h4
    cases hcc:W.cells? 0 (a.add i) 1 with
    | none=>rw [hcc] at h4;cases h4
    | some vs=>
      rw [hcc] at h4
      obtain ⟨z,z1,z2⟩:=zcx2 he h4
      obtain ⟨_,_,h5⟩:=World.cells?_some hcc
      have hp:(ns.map fun x=>(DataW.lit (.float k x):DataW Unit))[i]? =(elems.map (·.1))[i]?:=by rw [e2]
      rw [List.getElem?_map,List.getElem?_map,hx,List.getElem?_eq_getElem hi,z2] at hp
      injection hp with hp
      injection hp with hp
      injection hp with _ hp
      rw [List.getElem?_map,List.getElem?_eq_getElem hi] at hv
      have hv:=Option.some.inj hv
      rw [<-hv,hp]
      have h6:=h5 0 (by decide)
      rw [z1] at h6
      rw [znj]
      have h7:(a.add i).add 0=a.add i:=by rw [zeh1,Nat.add_zero]
      rw [h7] at h6
      exact h6
end
theorem zha2 {h:Hp} {a:Addr} {cs:List Value} (e:LdIs h a cs) (n:Nat):LdIs h (a.add n) (cs.drop n):=fun i v hv=>by
  rw [zeh1]
  exact e (n+i) v (by simpa [List.getElem?_drop] using hv)
theorem zkz1 {α:Type} {sz:Nat} {enc:α->List Value} (henc:∀x,(enc x).length=sz):∀(xs:List α) (n:Nat),(xs.drop n).flatMap enc=(xs.flatMap enc).drop (n*sz)
  | [],n=>by simp
  | x::xs,0=>by simp
  | x::xs,n+1=>by
    simp only [List.drop_succ_cons,List.flatMap_cons]
    have e:(enc x).drop (n*sz+sz)=[]:=List.drop_eq_nil_of_le (by rw [henc];omega)
    rw [zkz1 henc xs n,Nat.add_mul,Nat.one_mul,List.drop_append,henc,e,List.nil_append,Nat.add_sub_cancel]
theorem zgb1 {α:Type} {sz:Nat} {enc:α->List Value} (henc:∀x,(enc x).length=sz):∀(xs:List α) (n:Nat),(xs.take n).flatMap enc=(xs.flatMap enc).take (n*sz)
  | [],n=>by simp
  | x::xs,0=>by simp
  | x::xs,n+1=>by
    simp only [List.take_succ_cons,List.flatMap_cons]
    have e:(enc x).take (n*sz+sz)=enc x:=List.take_of_length_le (by rw [henc];omega)
    rw [zgb1 henc xs n,Nat.add_mul,Nat.one_mul,List.take_append,henc,e,Nat.add_sub_cancel]
theorem Rw.cut {α:Type} {h:Hp} {sz:Nat} {enc:α->List Value} {l:Sl} {xs:List α} (r:Rw h sz enc l xs) (henc:∀x,(enc x).length=sz) {a b c n m:Nat} (hab:a<=b) (hb:b<=xs.length) (hc:b<=c) (hn:n=b-a):
    Rw h sz enc ⟨sbase l.base sz a c,n,m⟩ ((xs.drop a).take (b-a)):=by
  obtain ⟨h1,h2,h3⟩:=r
  have hlen:((xs.drop a).take (b-a)).length=b-a:=by rw [List.length_take,List.length_drop];omega
  refine ⟨hn.trans hlen.symm,zgn henc _,?_⟩
  rw [hlen]
  by_cases h0:(b-a)*sz=0
  · exact .inl h0
  · right
    have hba:b-a≠0:=fun e=>h0 (by rw [e,Nat.zero_mul])
    have hsz:sz≠0:=fun e=>h0 (by rw [e,Nat.mul_zero])
    have hx:xs.length*sz≠0:=Nat.mul_ne_zero (by omega) hsz
    obtain ⟨p,hp,hl⟩:=h3.resolve_left hx
    refine ⟨p.add (a*sz),?_,fun i v hv=> ?_⟩
    · unfold sbase
      rw [if_neg (show ¬c=a by omega),hp]
      rfl
    · rw [zgb1 henc,zkz1 henc,List.getElem?_take] at hv
      split at hv
      · exact zha2 hl (a*sz) i v hv
      · cases hv
theorem Rw.head {α:Type} {h:Hp} {sz:Nat} {enc:α->List Value} {l:Sl} {xs:List α} (r:Rw h sz enc l xs) (henc:∀x,(enc x).length=sz) {b c n m:Nat} (hb:b<=xs.length) (hc:b<=c) (hn:n=b):
    Rw h sz enc ⟨sbase l.base sz 0 c,n,m⟩ (xs.take b):=by
  have:=r.cut (m:=m) henc (Nat.zero_le b) hb hc (n:=n) (by omega)
  simpa using this
structure Mv (F:List Nat) (h:Hp) (F':List Nat) (h':Hp):Prop where
  keep:∀b o,h b=some o->b∉F->h' b=some o
  from_:∀b∈F',b∈F\/h b=none
theorem Mv.refl (F:List Nat) (h:Hp):Mv F h F h:=⟨fun _ _ e _=>e,fun _ e=>.inl e⟩
theorem Mv.trans {F F' F'':List Nat} {h h' h'':Hp} (a:Mv F h F' h') (b:Mv F' h' F'' h''):Mv F h F'' h'':=by
  refine ⟨fun i o e hn=>b.keep i o (a.keep i o e hn) fun hf=> ?_,fun i hi=> ?_⟩
  · rcases a.from_ i hf with h1 | h1
    · exact hn h1
    grind
  · rcases b.from_ i hi with h1 | h1
    · exact a.from_ i h1
    · cases e:h i with
      | none=>exact .inr rfl
      | some o=>
        left
        refine Classical.byContradiction fun hn=> ?_
        rw [a.keep i o e hn] at h1;cases h1
theorem Mv.le {F F':List Nat} {h0 h h':Hp} (a:Mv F h F' h') (hl:h0<=h) (hf:∀b∈F,h0 b=none):h0<=h'/\∀b∈F',h0 b=none:=by
  refine ⟨fun b o e=>a.keep b o (hl b o e) fun hb=>(by grind),fun b hb=> ?_⟩
  rcases a.from_ b hb with h1 | h1
  · exact hf b h1
  · exact zqe hl h1
theorem Mv.wide {F F':List Nat} {h h':Hp} (a:Mv F h F' h') (G:List Nat):Mv (F++G) h (F'++G) h':=
  ⟨fun b o e hn=>a.keep b o e fun hb=>hn (List.mem_append_left _ hb),fun b hb=>by
    rcases List.mem_append.1 hb with hb | hb
    · rcases a.from_ b hb with h1 | h1
      · exact .inl (List.mem_append_left _ h1)
      · exact .inr h1
    grind⟩
theorem Mv.sub {F F' G G':List Nat} {h h':Hp} (a:Mv F h F' h') (h1:∀b∈F,b∈G) (h2:∀b∈G',b∈F'\/b∈G\/h b=none):Mv G h G' h':=
  ⟨fun b o e hn=>a.keep b o e fun hb=>hn (h1 b hb),fun b hb=>by
    rcases h2 b hb with h3 | h3
    · rcases a.from_ b h3 with h4 | h4
      · grind
      · exact .inr h4
    · exact h3⟩
theorem Mv.set {h:Hp} {b:Nat} {o:Obj}:Mv [b] h [b] (h.set b o):=by
  refine ⟨fun i x e hn=> ?_,fun i hi=>.inl hi⟩
  have hne:i≠b:=fun e'=>hn (by grind)
  simp only [Hp.set,hne,if_false]
  exact e
theorem Mv.new {h:Hp} {b:Nat} {o:Obj} (hn:h b=none):Mv [] h [b] (h.set b o):=
  ⟨fun i x e _=>zji hn i x e,fun i hi=>.inr (by grind)⟩
def Blk (h:Hp) (b:Nat) (cs:List Value):Prop:=∃t,h b=some (.cells cs.toArray t (0,0))
theorem Blk.mv {F F':List Nat} {h h':Hp} {b:Nat} {cs:List Value} (k:Blk h b cs) (a:Mv F h F' h') (hn:b∉F):Blk h' b cs:=by
  obtain ⟨t,e⟩:=k
  exact ⟨t,a.keep b _ e hn⟩
theorem Blk.le {h h':Hp} {b:Nat} {cs:List Value} (k:Blk h b cs) (hl:h<=h'):Blk h' b cs:=by
  obtain ⟨t,e⟩:=k
  exact ⟨t,hl _ _ e⟩
theorem Blk.known {h:Hp} {b:Nat} {cs:List Value} (k:Blk h b cs):h b≠none:=by
  obtain ⟨t,e⟩:=k
  rw [e];simp
def at_ (b off:Nat):Addr:=⟨b,off,none⟩
theorem Blk.ldIs {h:Hp} {b:Nat} {cs:List Value} (k:Blk h b cs) {off n:Nat} {vs:List Value} (e:(cs.drop off).take n=vs):LdIs h ⟨b,off,none⟩ vs:=by
  obtain ⟨t,hb⟩:=k
  intro i v hv
  rw [box_add,zvl hb]
  grind
theorem Blk.stOk {h:Hp} {b:Nat} {cs:List Value} (k:Blk h b cs) {off:Nat}:∀n,off+n<=cs.length->StOk h ⟨b,off,none⟩ n
  | 0,_=>trivial
  | n+1,hn=>by
    obtain ⟨t,hb⟩:=k
    refine ⟨Blk.stOk ⟨t,hb⟩ n (by omega),⟨cs[off+n]'(by omega),?_⟩,?_⟩
    · rw [box_add,zvl hb]
      simp
    · rw [box_add]
      unfold hfroz
      simp [hb]
theorem Blk.put {h:Hp} {b:Nat} {cs new:List Value} (k:Blk h b cs) {off:Nat} (hl:off+new.length<=cs.length):
    Blk (putL h ⟨b,off,none⟩ new 0) b (cs.take off++new++cs.drop (off+new.length))/\∀b',b'≠b->(putL h ⟨b,off,none⟩ new 0) b'=h b':=by
  obtain ⟨t,hb⟩:=k
  obtain ⟨p1,p2⟩:=zfv1 b t new h 0 off cs (by simpa using hl) hb
  rw [Nat.add_zero,zyp _ _ _ hl] at p1
  exact ⟨⟨t,p1⟩,p2⟩
theorem Mv.of_other {h h':Hp} {b:Nat} (ho:∀b',b'≠b->h' b'=h b'):Mv [b] h [b] h':=
  ⟨fun i o e hn=>by grind,fun i hi=>.inl hi⟩
theorem zpz1 {h:Hp} {b:Nat} {cs new:List Value} {off:Nat} {K:Hp->Prop} (k:Blk h b cs) (hl:off+new.length<=cs.length)
    (hk:∀h',Mv [b] h [b] h'->Blk h' b (cs.take off++new++cs.drop (off+new.length))->K h'):StW h ⟨b,off,none⟩ new K:=by
  obtain ⟨p1,p2⟩:=k.put hl
  exact ⟨k.stOk _ hl,hk _ (Mv.of_other p2) p1⟩
section
variable {α:Type} {h:Hp} {sz:Nat} {enc:α->List Value} {l:Sl} {xs:List α}
def OwnF (h:Hp) (sz:Nat) (enc:α->List Value) (l:Sl) (xs:List α) (F:List Nat):Prop:=
  l.len=xs.length/\l.len<=l.cap/\((l.base=none/\l.cap=0/\F=[])\/
    ∃(b:Nat) (cs:List Value),l.base=some ⟨b,0,none⟩/\F=[b]/\Blk h b cs/\cs.length=l.cap*sz/\cs.take (l.len*sz)=xs.flatMap enc)
theorem OwnF.own {F:List Nat} {h0:Hp} (o:OwnF h sz enc l xs F) (hf:∀b∈F,h0 b=none):Own h0 h sz enc l xs:=by
  obtain ⟨h1,h2,h3⟩:=o
  refine ⟨h1,h2,?_⟩
  rcases h3 with ⟨e1,e2,_⟩ | ⟨b,cs,e1,rfl,⟨t,e3⟩,e4,e5⟩
  · exact .inl ⟨e1,e2⟩
  grind
theorem OwnF.rw {F:List Nat} (o:OwnF h sz enc l xs F) (henc:∀x,(enc x).length=sz):Rw h sz enc l xs:=(o.own (h0:=fun _=>none) fun _ _=>rfl).rw henc
theorem Own.ownF {h0:Hp} (o:Own h0 h sz enc l xs):∃F,OwnF h sz enc l xs F/\∀b∈F,h0 b=none:=by
  obtain ⟨h1,h2,h3⟩:=o
  rcases h3 with ⟨e1,e2⟩ | ⟨b,cs,t,e1,e3,e4,e5,e6⟩
  · exact ⟨[],⟨h1,h2,.inl ⟨e1,e2,rfl⟩⟩,fun b hb=>by cases hb⟩
  · exact ⟨[b],⟨h1,h2,.inr ⟨b,cs,e1,rfl,⟨t,e3⟩,e4,e5⟩⟩,fun b' hb=>by grind⟩
theorem OwnF.known {F:List Nat} (o:OwnF h sz enc l xs F):∀b∈F,h b≠none:=by
  obtain ⟨_,_,h3⟩:=o
  rcases h3 with ⟨_,_,rfl⟩ | ⟨b,cs,_,rfl,e3,_,_⟩
  · simp
  · intro b' hb;rw [List.mem_singleton.1 hb];exact e3.known
theorem OwnF.same {F:List Nat} {h':Hp} (o:OwnF h sz enc l xs F) (hs:∀b∈F,h' b=h b):OwnF h' sz enc l xs F:=by
  obtain ⟨h1,h2,h3⟩:=o
  refine ⟨h1,h2,h3.imp id ?_⟩
  rintro ⟨b,cs,e1,rfl,⟨t,e3⟩,e4⟩
  exact ⟨b,cs,e1,rfl,⟨t,by grind⟩,e4⟩
theorem OwnF.mv {F G G':List Nat} {h':Hp} (o:OwnF h sz enc l xs F) (a:Mv G h G' h') (hd:∀b∈F,b∉G):OwnF h' sz enc l xs F:=by
  obtain ⟨h1,h2,h3⟩:=o
  refine ⟨h1,h2,h3.imp id ?_⟩
  rintro ⟨b,cs,e1,rfl,e3,e4⟩
  exact ⟨b,cs,e1,rfl,e3.mv a (hd b (List.mem_singleton.2 rfl)),e4⟩
end
section
variable {P:Program} {W:World}
theorem zai2 {n:String} {ds:List (DataW Unit)} {r:List (String×DataW Unit)} {g:Nat} {t:TypeId} {fs:Array Field} (h:laidMet P ((n,.agg ds)::r) W) (hg:P.globalNamed n=some g) (ht:(P.globals[g]?).map (·.type)=some t)
    (hu:P.underlying t=some (.struct fs)) (hc:0<P.cellsOf t):∃cs,Blk (whole W) g cs:=by
  obtain ⟨ps,⟨g0,t0,cs0,f0,p0,q0,hg0,ht0,hv0,hd0,_,rfl⟩,_,hcell⟩:=h
  obtain rfl:=Option.some.inj (hg.symm.trans hg0)
  obtain rfl:=Option.some.inj (ht.symm.trans ht0)
  obtain ⟨xs,f, -, -,hl, -, -⟩:=DataW.trod_struct hu hd0
  have hsz:0<cs0.size:=by rw [<-Array.length_toList,hl];exact hc
  have hm:MemPlace.cell g 0∈MemPlace.row ⟨g,0,none⟩ cs0.size++p0++q0:=by
    rw [List.mem_append,List.mem_append]
    exact .inl (.inl (List.mem_map.2 ⟨0,List.mem_range.2 hsz,rfl⟩))
  obtain ⟨⟨c,t',e⟩, -⟩:=hcell g 0 hm
  exact ⟨c.toList,t',e⟩
theorem zhm1 {n:String} {k:IntKind} {z:Int} {ds:List (DataW Unit)} {j:Nat} {r:List (String×DataW Unit)} {g:Nat} {t:TypeId} {fs:Array Field} {fj:Field} (hdj:ds[j]? =some (.lit (.int k z))) (h:laidMet P ((n,.agg ds)::r) W) (hg:P.globalNamed n=some g) (ht:(P.globals[g]?).map (·.type)=some t)
    (hu:P.underlying t=some (.struct fs)) (hfj:fs[j]? =some fj) (oj:fj.offset=j) (hint:P.underlying fj.type=some (.int k)) (hc1:P.cellsOf fj.type=1):LdIs (whole W) ⟨g,j,none⟩ [.int k z]:=by
  obtain ⟨cs,fuel,p,hc,hd⟩:=zub h hg ht
  obtain ⟨ys,f', -,g2,g3,g4,g5⟩:=DataW.trod_struct hu hd
  have g2:=(Prod.mk.inj g2).1
  injection g2 with g2
  have h6:=g5 j fj hfj
  rw [g2,List.getElem?_map] at hdj
  cases hy:ys[j]? with
  | none=>rw [hy] at hdj;cases hdj
  | some y=>
    rw [hy] at hdj h6
    have hdj:y.1=.lit (.int k z):=Option.some.inj hdj
    rw [oj,hc1] at h6
    obtain ⟨w,w1,w2, -⟩:=DataW.trod_int hint h6
    rw [w2] at hdj
    injection hdj with hdj
    injection hdj with _ hdj
    subst hdj
    have:=congrArg List.head? w1
    rw [List.head?_take,List.head?_drop] at this
    have this:cs.toList[j]? =some (.int k w):=by simpa using this
    intro i v hv
    cases i with
    | zero=>cases hv;exact hc j _ this
    | succ i=>simp at hv
theorem zwu1 {n:String} {k:IntKind} {ns:List Int} {r:List (String×DataW Unit)} {g:Nat} {t e:TypeId} (h:laidMet P ((n,.slice (ns.map fun x=>.lit (.int k x)) [])::r) W) (hg:P.globalNamed n=some g) (ht:(P.globals[g]?).map (·.type)=some t)
    (hu:P.underlying t=some (.slice e)) (he:P.underlying e=some (.int k)) (hc1:P.cellsOf e=1):∃a c,LdIs (whole W) ⟨g,0,none⟩ [.slice (some a) ns.length c]/\LdIs (whole W) a (ns.map fun x=>.int k x):=by
  obtain ⟨cs,fuel,p,hc,hd⟩:=zub h hg ht
  rcases DataW.trod_slice hu hd with ⟨_,e2⟩ | ⟨a,len,cap,elems,rest,f, -,e1,e2, -, -, -,e3,e4, -, -⟩
  · cases e2
  · have e2:=(Prod.mk.inj e2).1
    injection e2 with e2 _
    have hl:ns.length=len:=by rw [<-e3,<-(by simp:(elems.map fun x=>x.1).length=elems.length),<-e2,List.length_map]
    refine ⟨a,cap,zhl1 rfl fun i v hv=>hc i v (by rw [e1,<-hl];exact hv),fun i v hv=> ?_⟩
    have hi:i<ns.length:=by have:=(List.getElem?_eq_some_iff.1 hv).1;simpa using this
    have h4:=e4 i (by omega)
    have hx:elems[i]? =some elems[i]:=List.getElem?_eq_getElem (by omega)
    rw [hx,hc1,Nat.mul_one] at h4
    cases hcc:W.cells? 0 (a.add i) 1 with
    | none=>rw [hcc] at h4;cases h4
    | some vs=>
      rw [hcc] at h4
      obtain ⟨z,z1,z2, -⟩:=DataW.trod_int he h4
      obtain ⟨_,_,h5⟩:=World.cells?_some hcc
      have hp:(ns.map fun x=>(DataW.lit (.int k x):DataW Unit))[i]? =(elems.map (·.1))[i]?:=by rw [e2]
      rw [List.getElem?_map,List.getElem?_map,hx,List.getElem?_eq_getElem hi,z2] at hp
      injection hp with hp
      injection hp with hp
      injection hp with _ hp
      rw [List.getElem?_map,List.getElem?_eq_getElem hi] at hv
      have hv:=Option.some.inj hv
      rw [<-hv,hp]
      have h6:=h5 0 (by decide)
      rw [z1] at h6
      rw [znj]
      have h7:(a.add i).add 0=a.add i:=by rw [zeh1,Nat.add_zero]
      rw [h7] at h6
      exact h6
theorem zcy2 {n:String} {rows:List (Nat×List UInt8)} {r:List (String×DataW Unit)} {g:Nat} {t e u v:TypeId} {fs:Array Field} {f0 f1:Field} (h:laidMet P ((n,.slice (rows.map fun x=>.agg [.lit (.int .i64 x.1),.lit (.string x.2)]) [])::r) W) (hg:P.globalNamed n=some g) (ht:(P.globals[g]?).map (·.type)=some t)
    (hu:P.underlying t=some (.slice e)) (he:P.underlying e=some (.struct fs)) (hf0:fs[0]? =some f0) (hf1:fs[1]? =some f1) (t0:f0.type=u) (t1:f1.type=v) (o0:f0.offset=0) (o1:f1.offset=1) (hint:P.underlying u=some (.int .i64)) (hstr:P.underlying v=some .string) (hc0:P.cellsOf u=1) (hc1:P.cellsOf v=1) (hc2:P.cellsOf e=2):
    ∃a c,LdIs (whole W) ⟨g,0,none⟩ [.slice (some a) rows.length c]/\∀i x,rows[i]? =some x->LdIs (whole W) ((a.add (i*2)).add 0) [.int .i64 (x.1:Int)]/\LdIs (whole W) ((a.add (i*2)).add 1) [.string ⟨x.2.toArray⟩]:=by
  obtain ⟨cs,fuel,p,hc,hd⟩:=zub h hg ht
  rcases DataW.trod_slice hu hd with ⟨_,e2⟩ | ⟨a,len,cap,elems,rest,f, -,e1,e2, -, -, -,e3,e4, -, -⟩
  · cases e2
  · have e2:=(Prod.mk.inj e2).1
    injection e2 with e2 _
    have hl:rows.length=len:=by rw [<-e3,<-(by simp:(elems.map fun x=>x.1).length=elems.length),<-e2,List.length_map]
    refine ⟨a,cap,zhl1 rfl fun i v hv=>hc i v (by rw [e1,<-hl];exact hv),fun i x hxi=> ?_⟩
    have hi:i<rows.length:=(List.getElem?_eq_some_iff.1 hxi).1
    have h4:=e4 i (by omega)
    have hx:elems[i]? =some elems[i]:=List.getElem?_eq_getElem (by omega)
    rw [hx,hc2] at h4
    cases hcc:W.cells? 0 (a.add (i*2)) 2 with
    | none=>rw [hcc] at h4;cases h4
    | some vs=>
      rw [hcc] at h4
      obtain ⟨_,_,h5⟩:=World.cells?_some hcc
      obtain ⟨ys,f', -,g2,g3,g4,g5⟩:=DataW.trod_struct he h4
      have hp:(rows.map fun x=>(DataW.agg [.lit (.int .i64 x.1),.lit (.string x.2)]:DataW Unit))[i]? =(elems.map (·.1))[i]?:=by rw [e2]
      rw [List.getElem?_map,List.getElem?_map,hx,hxi,g2] at hp
      injection hp with hp
      injection hp with hp
      have at_:∀ {j:Nat} {w:Value},j<2->vs[j]? =some w->LdIs (whole W) ((a.add (i*2)).add j) [w]:=fun {j w} hj e=>fun q z hq=>by
        cases q with
        | succ q=>simp at hq
        | zero=>
          cases hq
          rw [zeh1,Nat.add_zero,znj,h5 j hj]
          exact e
      constructor
      · have h6:=g5 0 f0 hf0
        have hq:([DataW.lit (.int .i64 (x.1:Int)),.lit (.string x.2)]:List (DataW Unit))[0]? =some (.lit (.int .i64 (x.1:Int))):=rfl
        rw [hp,List.getElem?_map] at hq
        cases hy:ys[0]? with
        | none=>rw [hy] at hq;cases hq
        | some y=>
          rw [hy] at hq h6
          have hq:y.1=.lit (.int .i64 (x.1:Int)):=Option.some.inj hq
          rw [t0,o0,hc0] at h6
          obtain ⟨w,w1,w2, -⟩:=DataW.trod_int hint h6
          rw [w2] at hq
          injection hq with hq
          injection hq with _ hq
          have:=congrArg List.head? w1
          rw [List.head?_take,List.head?_drop] at this
          refine at_ (by decide) ?_
          rw [<-hq]
          simpa using this
      · have h6:=g5 1 f1 hf1
        have hq:([DataW.lit (.int .i64 (x.1:Int)),.lit (.string x.2)]:List (DataW Unit))[1]? =some (.lit (.string x.2)):=rfl
        rw [hp,List.getElem?_map] at hq
        cases hy:ys[1]? with
        | none=>rw [hy] at hq;cases hq
        | some y=>
          rw [hy] at hq h6
          have hq:y.1=.lit (.string x.2):=Option.some.inj hq
          rw [t1,o1,hc1] at h6
          obtain ⟨w,w1,w2, -⟩:=DataW.trod_string hstr h6
          rw [w2] at hq
          injection hq with hq
          injection hq with hq
          have:=congrArg List.head? w1
          rw [List.head?_take,List.head?_drop] at this
          refine at_ (by decide) ?_
          rw [<-hq]
          simpa using this
end
end Lf
namespace Go.Proofs
open Go.Shelf
def Tryz.laysC245_ren :Go.Shelf.Ren:=⟨fun | 245=>58 | 279=>99 | 280=>100 | 281=>101 | 282=>102 | 316=>149 | 171=>31 | 205=>150 | 243=>59 | 246=>103 | 283=>124 | 284=>125 | 285=>126 | 286=>127 | 129=>140 | 317=>143 | 318=>161 | 319=>162 | 320=>163 | 337=>199 | 338=>200 | n=>n,fun | 9=>9 | 3=>3 | 75=>56 | 167=>122 | 4=>4 | 168=>125 | 210=>169 | 37=>74 | 0=>0 | 127=>99 | 145=>204 | 143=>202 | 2=>2 | 171=>144 | 53=>51 | 5=>5 | 173=>146 | 212=>182 | 51=>148 | 20=>20 | 213=>183 | 46=>67 | 232=>158 | 233=>242 | 80=>78 | n=>n,fun | 15=>3 | 16=>4 | 17=>5 | 18=>13 | 19=>14 | n=>n⟩
theorem Tryz.laysC245 :Go.Proofs.LaysC.n245 Tryz.prog Tryz.laysC245_ren:={
 mixed:=by kernel_rfl
 f129:=Tryz.func140.trans (congrArg some (by kernel_rfl))
 f171:=Tryz.func31.trans (congrArg some (by kernel_rfl))
 f205:=Tryz.func150.trans (congrArg some (by kernel_rfl))
 f243:=Tryz.func59.trans (congrArg some (by kernel_rfl))
 f245:=Tryz.func58.trans (congrArg some (by kernel_rfl))
 f246:=Tryz.func103.trans (congrArg some (by kernel_rfl))
 f279:=Tryz.func99.trans (congrArg some (by kernel_rfl))
 f280:=Tryz.func100.trans (congrArg some (by kernel_rfl))
 f281:=Tryz.func101.trans (congrArg some (by kernel_rfl))
 f282:=Tryz.func102.trans (congrArg some (by kernel_rfl))
 f283:=Tryz.func124.trans (congrArg some (by kernel_rfl))
 f284:=Tryz.func125.trans (congrArg some (by kernel_rfl))
 f285:=Tryz.func126.trans (congrArg some (by kernel_rfl))
 f286:=Tryz.func127.trans (congrArg some (by kernel_rfl))
 f316:=Tryz.func149.trans (congrArg some (by kernel_rfl))
 f317:=Tryz.func143.trans (congrArg some (by kernel_rfl))
 f318:=Tryz.func161.trans (congrArg some (by kernel_rfl))
 f319:=Tryz.func162.trans (congrArg some (by kernel_rfl))
 f320:=Tryz.func163.trans (congrArg some (by kernel_rfl))
 f337:=Tryz.func199.trans (congrArg some (by kernel_rfl))
 f338:=Tryz.func200.trans (congrArg some (by kernel_rfl))
 t0:=Tryz.underlying0
 a0:=Tryz.isAgg0
 z0:=Tryz.sizeOf0
 v0:=Tryz.zeroValue0
 t2:=Tryz.underlying2
 a2:=Tryz.isAgg2
 z2:=Tryz.sizeOf2
 v2:=Tryz.zeroValue2
 t3:=Tryz.underlying3
 a3:=Tryz.isAgg3
 z3:=Tryz.sizeOf3
 v3:=Tryz.zeroValue3
 t4:=Tryz.underlying4
 a4:=Tryz.isAgg4
 z4:=Tryz.sizeOf4
 v4:=Tryz.zeroValue4
 t5:=Tryz.underlying5
 a5:=Tryz.isAgg5
 z5:=Tryz.sizeOf5
 v5:=Tryz.zeroValue5
 t9:=Tryz.underlying9
 a9:=Tryz.isAgg9
 z9:=Tryz.sizeOf9
 v9:=Tryz.zeroValue9
 t20:=Tryz.underlying20
 a20:=Tryz.isAgg20
 z20:=Tryz.sizeOf20
 v20:=Tryz.zeroValue20
 t37:=Tryz.underlying74
 a37:=Tryz.isAgg74
 z37:=Tryz.sizeOf74
 v37:=Tryz.zeroValue74
 t46:=Tryz.underlying67
 a46:=Tryz.isAgg67
 z46:=Tryz.sizeOf67
 v46:=Tryz.zeroValue67
 t51:=Tryz.underlying148
 a51:=Tryz.isAgg148
 z51:=Tryz.sizeOf148
 v51:=Tryz.zeroValue148
 t53:=Tryz.underlying51
 a53:=Tryz.isAgg51
 z53:=Tryz.sizeOf51
 v53:=Tryz.zeroValue51
 t75:=Tryz.underlying56
 a75:=Tryz.isAgg56
 z75:=Tryz.sizeOf56
 v75:=Tryz.zeroValue56
 t127:=Tryz.underlying99
 a127:=Tryz.isAgg99
 z127:=Tryz.sizeOf99
 v127:=Tryz.zeroValue99
 t143:=Tryz.underlying202
 a143:=Tryz.isAgg202
 z143:=Tryz.sizeOf202
 v143:=Tryz.zeroValue202
 t145:=Tryz.underlying204
 a145:=Tryz.isAgg204
 z145:=Tryz.sizeOf204
 v145:=Tryz.zeroValue204
 t167:=Tryz.underlying122
 a167:=Tryz.isAgg122
 z167:=Tryz.sizeOf122
 v167:=Tryz.zeroValue122
 t168:=Tryz.underlying125
 a168:=Tryz.isAgg125
 z168:=Tryz.sizeOf125
 v168:=Tryz.zeroValue125
 t171:=Tryz.underlying144
 a171:=Tryz.isAgg144
 z171:=Tryz.sizeOf144
 v171:=Tryz.zeroValue144
 t173:=Tryz.underlying146
 a173:=Tryz.isAgg146
 z173:=Tryz.sizeOf146
 v173:=Tryz.zeroValue146
 t210:=Tryz.underlying169
 a210:=Tryz.isAgg169
 z210:=Tryz.sizeOf169
 v210:=Tryz.zeroValue169
 t212:=Tryz.underlying182
 a212:=Tryz.isAgg182
 z212:=Tryz.sizeOf182
 v212:=Tryz.zeroValue182
 t213:=Tryz.underlying183
 a213:=Tryz.isAgg183
 z213:=Tryz.sizeOf183
 t232:=Tryz.underlying158
 a232:=Tryz.isAgg158
 z232:=Tryz.sizeOf158
 v232:=Tryz.zeroValue158
 t233:=Tryz.underlying242
 a233:=Tryz.isAgg242
 z233:=Tryz.sizeOf242
 v233:=Tryz.zeroValue242
 g15:=by kernel_rfl
 g16:=by kernel_rfl
 g17:=by kernel_rfl
 g18:=by kernel_rfl
 g19:=by kernel_rfl
 t80:=Tryz.underlying78
 a80:=Tryz.isAgg78
 z80:=Tryz.sizeOf78
 v80:=Tryz.zeroValue78
 i0:=by kernel_rfl
 i2:=by kernel_rfl
 i3:=by kernel_rfl
 i4:=by kernel_rfl
 i5:=by kernel_rfl
 i9:=by kernel_rfl
 i20:=by kernel_rfl
 i37:=by kernel_rfl
 i46:=by kernel_rfl
 i51:=by kernel_rfl
 i53:=by kernel_rfl
 i75:=by kernel_rfl
 i80:=by kernel_rfl
 i127:=by kernel_rfl
 i143:=by kernel_rfl
 i145:=by kernel_rfl
 i167:=by kernel_rfl
 i168:=by kernel_rfl
 i171:=by kernel_rfl
 i173:=by kernel_rfl
 i210:=by kernel_rfl
 i212:=by kernel_rfl
 i232:=by kernel_rfl
 i233:=by kernel_rfl
 m15:=by kernel_rfl
 m16:=by kernel_rfl
 m17:=by kernel_rfl
 m18:=by kernel_rfl
 m19:=by kernel_rfl
 c0:=by kernel_rfl
 c2:=by kernel_rfl
 c3:=by kernel_rfl
 c4:=by kernel_rfl
 c5:=by kernel_rfl
 c9:=by kernel_rfl
 c20:=by kernel_rfl
 c37:=by kernel_rfl
 c46:=by kernel_rfl
 c51:=by kernel_rfl
 c53:=by kernel_rfl
 c75:=by kernel_rfl
 c80:=by kernel_rfl
 c127:=by kernel_rfl
 c143:=by kernel_rfl
 c145:=by kernel_rfl
 c167:=by kernel_rfl
 c168:=by kernel_rfl
 c171:=by kernel_rfl
 c173:=by kernel_rfl
 c210:=by kernel_rfl
 c212:=by kernel_rfl
 c213:=by kernel_rfl
 c232:=by kernel_rfl
 c233:=by kernel_rfl}
open Go.RowKit in
theorem Tryz.strconv_toError_syntax (fn s:ByteArray) (base bits:Int) (ev:Value) (w:World) (hlim:s.size<=281474976710656) (hv:w.cell? ⟨3,0,none⟩=some ev) (hev:ev=.nilIface\/∃te pe,ev=.iface te pe):
  Calls Tryz.prog 58 #[.string fn,.string s,.int .i64 base,.int .i64 bits,.iface 122 (.int .i64 2)] w fun e w'=>∃N,e=.returned (.iface 125 (.pointer (some ⟨N,0,none⟩)))/\w.heap.size<=N/\w'.heap[N]? =some (.cells #[.string fn,.string s,ev] 169 (0,0))/\Below w.heap.size w w':=Any.strconv_toError_syntax Tryz.laysC245 fn s base bits ev w hlim hv hev
open Go.RowKit in
theorem Tryz.strconv_toError_range (fn s:ByteArray) (base bits:Int) (ev:Value) (w:World) (hlim:s.size<=281474976710656) (hv:w.cell? ⟨4,0,none⟩=some ev) (hev:ev=.nilIface\/∃te pe,ev=.iface te pe):
  Calls Tryz.prog 58 #[.string fn,.string s,.int .i64 base,.int .i64 bits,.iface 122 (.int .i64 1)] w fun e w'=>∃N,e=.returned (.iface 125 (.pointer (some ⟨N,0,none⟩)))/\w.heap.size<=N/\w'.heap[N]? =some (.cells #[.string fn,.string s,ev] 169 (0,0))/\Below w.heap.size w w':=Any.strconv_toError_range Tryz.laysC245 fn s base bits ev w hlim hv hev
end Go.Proofs
namespace Lf
open Ieee
abbrev dbl :Format:=double
theorem zod1 :dbl.binade=4503599627370496:=rfl
theorem zqa1 :dbl.infRung=9218868437227405312:=rfl
theorem zqb1 :dbl.signWeight=9223372036854775808:=by decide
theorem zla1 :dbl.leastPlace= -1074:=by decide
def bitsN (m:Nat):Nat:=if m=0 then 0 else m.log2+1
def offD (m:Nat) (e:Int):Int:=if (bitsN m:Int)-53< -1074-e then -1074-e else (bitsN m:Int)-53
def keptD (m:Nat) (off:Int) (more:Bool):Nat:=
 if off<=0 then m*2^(-off).toNat
 else
  let q:=m / 2^off.toNat
  let rest:=m%2^off.toNat
  if 2^(off.toNat-1)<rest\/(rest=2^(off.toNat-1)/\(more=true\/q%2=1)) then q+1 else q
def rungD (m:Nat) (e:Int) (more:Bool):Nat:=
 let off:=offD m e
 let q:=keptD m off more
 if q<4503599627370496 then q
 else if 2047<=e+off+1075 then 9218868437227405312
 else min ((e+off+1075).toNat*4503599627370496+(q-4503599627370496)) 9218868437227405312
theorem zhb2 {n d:Nat} (h:n.log2+2<=d):2*n<2^d:=by
 have h1:n<2^(n.log2+1):=Nat.lt_log2_self
 have h2:2^(n.log2+2)<=2^d:=Nat.pow_le_pow_right (by decide) h
 rw [Nat.pow_succ] at h2
 omega
theorem zll2 (s:Bool) (n d:Nat):Toward.even.cut s n d=n / 2^d+(if 2^d<2*(n%2^d)\/(2^d=2*(n%2^d)/\n / 2^d%2=1) then 1 else 0):=by
 have key:∀g:Nat,(let gap:=1<<<g;n / gap+(decide (gap<2*(n%gap)) || (gap==2*(n%gap)&&n / gap%2==1)).toNat)=n / 2^g+(if 2^g<2*(n%2^g)\/(2^g=2*(n%2^g)/\n / 2^g%2=1) then 1 else 0):=fun g=>by
  simp only [Nat.one_shiftLeft]
  congr 1
  by_cases h:2^g<2*(n%2^g)\/(2^g=2*(n%2^g)/\n / 2^g%2=1)
  ·rw [if_pos h]
   have:(decide (2^g<2*(n%2^g)) || (2^g==2*(n%2^g)&&n / 2^g%2==1))=true:=by simpa using h
   rw [this];rfl
  ·rw [if_neg h]
   have:(decide (2^g<2*(n%2^g)) || (2^g==2*(n%2^g)&&n / 2^g%2==1))=false:=by
    rw [Bool.eq_false_iff]
    intro e
    exact h (by simpa using e)
   rw [this];rfl
 show (let gap:=1<<<min d (n.log2+2);n / gap+(decide (gap<2*(n%gap)) || (gap==2*(n%gap)&&n / gap%2==1)).toNat)=_
 rw [key]
 by_cases h:d<=n.log2+2
 ·rw [Nat.min_eq_left h]
 ·rw [Nat.min_eq_right (by omega)]
  have h1:=zhb2 (n:=n) (Nat.le_refl _)
  have h2:=zhb2 (n:=n) (d:=d) (by omega)
  have e1:n / 2^(n.log2+2)=0:=Nat.div_eq_of_lt (by omega)
  have e2:n / 2^d=0:=Nat.div_eq_of_lt (by omega)
  have e3:n%2^(n.log2+2)=n:=Nat.mod_eq_of_lt (by omega)
  have e4:n%2^d=n:=Nat.mod_eq_of_lt (by omega)
  rw [e1,e2,e3,e4,if_neg (by omega),if_neg (by omega)]
theorem zhc2 {m:Nat} {off:Int} {s:Bool}:keptD m off false=Toward.even.cut s (m<<<(-off).toNat) off.toNat:=by
 rw [zll2]
 unfold keptD
 by_cases h:off<=0
 ·rw [if_pos h,show off.toNat=0 by omega,Nat.shiftLeft_eq]
  simp [Nat.mod_one]
 ·rw [if_neg h,show (-off).toNat=0 by omega,Nat.shiftLeft_zero]
  obtain ⟨d,hd⟩:∃d,off.toNat=d+1:=⟨off.toNat-1,by omega⟩
  rw [hd]
  dsimp only
  rw [Nat.add_sub_cancel]
  have hp:2^(d+1)=2*2^d:=by rw [Nat.pow_succ,Nat.mul_comm]
  generalize m%2^(d+1)=r at*
  generalize m / 2^(d+1)=q at*
  generalize 2^d=g at*
  rw [hp]
  by_cases h1:g<r
  ·rw [if_pos (.inl h1),if_pos (.inl (by omega))]
  ·by_cases h2:r=g/\q%2=1
   ·rw [if_pos (.inr ⟨h2.1,.inr h2.2⟩),if_pos (.inr ⟨by omega,h2.2⟩)]
   ·rw [if_neg ?_,if_neg ?_]
    ·rfl
    ·rintro (h | ⟨h,h'⟩)
     ·omega
     ·exact h2 ⟨by omega,h'⟩
    ·rintro (h | ⟨h,h' | h'⟩)
     ·exact h1 h
     ·cases h'
     ·exact h2 ⟨h,h'⟩
theorem zpj2 {m:Nat} {e:Int} (hm:m≠0):max (e+(m.log2:Int)-52) (-1074)-e=offD m e:=by
 unfold offD bitsN
 rw [if_neg hm]
 split<;>omega
theorem zsy1 {s:Bool} {m:Nat} {e:Int} (hm:m≠0):dbl.nearest s m e=dbl.word s (rungD m e false):=by
 unfold Format.nearest
 rw [if_neg hm]
 have hl:max (e+(m.log2:Int)-(dbl.fractionBits:Int)) dbl.leastPlace=e+offD m e:=by
  rw [zla1,<-zpj2 hm]
  show max (e+(m.log2:Int)-((52:Nat):Int)) (-1074)=_
  omega
 dsimp only
 rw [hl,show e-(e+offD m e)= -offD m e by omega,show e+offD m e-e=offD m e by omega,<-zhc2,zla1,zod1,zqa1]
 congr 1
 unfold rungD
 dsimp only
 have hoff: -1074-e<=offD m e:=by unfold offD;split<;>omega
 generalize hq:keptD m (offD m e) false=q
 by_cases h1:q<4503599627370496
 ·rw [if_pos h1]
  have:offD m e= -1074-e:=by
   refine Classical.byContradiction fun hne=> ?_
   have hoe:offD m e=(bitsN m:Int)-53:=by
    unfold offD at hne ⊢
    split
    ·rename_i h;rw [if_pos h] at hne;exact absurd rfl hne
    ·rfl
   have hb:bitsN m=m.log2+1:=by unfold bitsN;rw [if_neg hm]
   have h2:2^m.log2<=m:=Nat.log2_self_le hm
   unfold keptD at hq
   by_cases hn:offD m e<=0
   ·rw [if_pos hn] at hq
    have hk:m.log2+(-offD m e).toNat=52:=by omega
    have h3:2^m.log2*2^(-offD m e).toNat<=m*2^(-offD m e).toNat:=Nat.mul_le_mul_right _ h2
    rw [<-Nat.pow_add,hk] at h3
    omega
   ·rw [if_neg hn] at hq
    have hk:m.log2=52+(offD m e).toNat:=by omega
    have h3:4503599627370496<=m / 2^(offD m e).toNat:=by
     rw [Nat.le_div_iff_mul_le (Nat.two_pow_pos _)]
     rw [hk,Nat.pow_add] at h2
     exact h2
    dsimp only at hq
    split at hq<;>omega
  rw [show (e+offD m e - -1074).toNat=0 by omega,Nat.zero_mul,Nat.zero_add]
  omega
 ·rw [if_neg h1]
  by_cases h2:2047<=e+offD m e+1075
  ·rw [if_pos h2]
   have h3:2046*4503599627370496<=(e+offD m e - -1074).toNat*4503599627370496:=Nat.mul_le_mul_right _ (by omega)
   omega
  ·rw [if_neg h2]
   have h3:(e+offD m e+1075).toNat=(e+offD m e - -1074).toNat+1:=by omega
   rw [h3,Nat.add_mul,show (e+offD m e - -1074).toNat*4503599627370496+1*4503599627370496+(q-4503599627370496)=(e+offD m e - -1074).toNat*4503599627370496+q by omega]
def zor (a:Nat):Bool:=decide (9218868437227405312<a%9223372036854775808)
def negD (a:Nat):Bool:=decide (9223372036854775808<=a)
def zac (b:Nat):Nat:=if b<4503599627370496 then b else b%4503599627370496+4503599627370496
def zad (b:Nat):Int:=if b<4503599627370496 then -1074 else ((b / 4503599627370496:Nat):Int)-1075
def sgn (s:Bool):Nat:=if s then 9223372036854775808 else 0
def zjj (s:Bool) (m:Nat) (e:Int) (more:Bool):Nat:=if m=0 then sgn s else sgn s+rungD m e more
theorem zqc1 {s:Bool} {r:Nat}:dbl.word s r=sgn s+r:=by
 unfold Format.word sgn
 rw [zqb1]
 cases s<;>simp
theorem zcz2 {s:Bool} {m:Nat} {e:Int}:dbl.nearest s m e=zjj s m e false:=by
 unfold zjj
 by_cases h:m=0
 ·rw [if_pos h];subst h;unfold Format.nearest;rw [if_pos rfl,zqc1,Nat.add_zero]
 ·rw [if_neg h,zsy1 h,zqc1]
theorem zjo1 {m:Nat} {e:Int} {b:Bool}:rungD m e b<=9218868437227405312:=by
 unfold rungD
 dsimp only
 split
 ·omega
 split
 ·exact Nat.le_refl _
 ·exact Nat.min_le_right _ _
theorem zsz1 {s:Bool} {m:Nat} {e:Int} {b:Bool}:zjj s m e b%9223372036854775808<=9218868437227405312/\zjj s m e b<18446744073709551616:=by
 have h:=zjo1 (m:=m) (e:=e) (b:=b)
 unfold zjj sgn
 split<;>split<;>omega
theorem zwv1 {w:Nat} (h:w<18446744073709551616):dbl.read w=if w%9223372036854775808<9218868437227405312 then .number (negD w) (zac (w%9223372036854775808)) (zad (w%9223372036854775808)) else if w%9223372036854775808=9218868437227405312 then .infinity (negD w) else .nan (negD w) (w%9223372036854775808-9218868437227405312):=by
 unfold Format.read
 have hs:(w / dbl.signWeight%2==1)=negD w:=by
  rw [zqb1]
  unfold negD
  by_cases h2:9223372036854775808<=w
  ·have:w / 9223372036854775808=1:=by omega
   rw [this,decide_eq_true h2];rfl
  ·have:w / 9223372036854775808=0:=by omega
   rw [this,decide_eq_false h2];rfl
 rw [hs,zqb1,zod1,zqa1,zla1]
 dsimp only
 generalize w%9223372036854775808=r
 unfold zac zad
 by_cases h1:r<4503599627370496
 ·rw [if_pos h1,if_pos (show r<9218868437227405312 by omega),if_pos h1,if_pos h1]
 ·rw [if_neg h1,if_neg h1,if_neg h1]
  by_cases h2:r<9218868437227405312
  ·rw [if_pos h2,if_pos h2,Nat.add_comm]
   congr 1
   omega
  ·rw [if_neg h2,if_neg h2]
def outD (o:Option Nat):Nat:=o.getD 9221120237041090560
theorem shl (m k:Nat):m<<<k=m*2^k:=Nat.shiftLeft_eq m k
theorem zhd2 {a:Nat} (h:a<18446744073709551616):a=sgn (negD a)+a%9223372036854775808:=by
 unfold sgn negD
 by_cases h2:9223372036854775808<=a
 ·rw [decide_eq_true h2,if_pos rfl];omega
 ·rw [decide_eq_false h2,if_neg (by decide)];omega
theorem zta1 {s:Bool} {m k:Nat}:signed s m k=if s then -((m*2^k:Nat):Int) else ((m*2^k:Nat):Int):=by
 unfold signed
 rw [shl]
theorem zsq {w:Nat} (h:w<18446744073709551616) (h1:w%9223372036854775808<9218868437227405312):dbl.read w=.number (negD w) (zac (w%9223372036854775808)) (zad (w%9223372036854775808)):=by rw [zwv1 h,if_pos h1]
theorem zsr {w:Nat} (h:w<18446744073709551616) (h1:w%9223372036854775808=9218868437227405312):dbl.read w=.infinity (negD w):=by rw [zwv1 h,if_neg (by omega),if_pos h1]
theorem zgc1 {w:Nat} (h:w<18446744073709551616) (h1:9218868437227405312<w%9223372036854775808):dbl.read w=.nan (negD w) (w%9223372036854775808-9218868437227405312):=by rw [zwv1 h,if_neg (by omega),if_neg (by omega)]
theorem zbm1 {s:Bool} {m:Nat} {e:Int}:dbl.write (.number s m e)=zjj s m e false:=zcz2
theorem zbn1 {o:Option Datum} (ho:∀d,o=some d->(∃s,d=.infinity s)\/∃s m e,d=.number s m e):∀r,o.map dbl.write=some r->zor r=false:=fun r hr=>by
 cases o with
 | none=>cases hr
 | some d=>
  have hr:dbl.write d=r:=Option.some.inj hr
  subst hr
  rcases ho d rfl with ⟨s,rfl⟩ | ⟨s,m,e,rfl⟩
  ·show zor (dbl.word s dbl.infRung)=false
   rw [zqc1,zqa1]
   cases s<;>decide
  ·rw [zbm1]
   have:=(zsz1 (s:=s) (m:=m) (e:=e) (b:=false)).1
   unfold zor
   exact decide_eq_false (by omega)
theorem zru {r:Nat} (h:¬9218868437227405312<r%9223372036854775808):¬zor r=true:=fun e=>h (of_decide_eq_true e)
def mulD (a b:Nat):Nat:=
 let s:=negD a^^negD b
 if zor a=true\/zor b=true\/(a%9223372036854775808=9218868437227405312/\b%9223372036854775808=0)\/(a%9223372036854775808=0/\b%9223372036854775808=9218868437227405312) then 9221120237041090560
 else if a%9223372036854775808=9218868437227405312\/b%9223372036854775808=9218868437227405312 then sgn s+9218868437227405312
 else zjj s (zac (a%9223372036854775808)*zac (b%9223372036854775808)) (zad (a%9223372036854775808)+zad (b%9223372036854775808)) false
def divD (a b:Nat):Nat:=
 let s:=negD a^^negD b
 if zor a=true\/zor b=true\/(a%9223372036854775808=9218868437227405312/\b%9223372036854775808=9218868437227405312)\/(a%9223372036854775808=0/\b%9223372036854775808=0) then 9221120237041090560
 else if a%9223372036854775808=9218868437227405312\/b%9223372036854775808=0 then sgn s+9218868437227405312
 else if b%9223372036854775808=9218868437227405312\/a%9223372036854775808=0 then sgn s
 else zjj s (zac (a%9223372036854775808)*2^128 / zac (b%9223372036854775808)) (zad (a%9223372036854775808)-zad (b%9223372036854775808)-128) (decide (0<zac (a%9223372036854775808)*2^128%zac (b%9223372036854775808)))
theorem zuc {r:Nat} (h:r<9218868437227405312):zac r=0↔r=0:=by unfold zac;split<;>omega
theorem zxm {s:Bool}:dbl.write (.infinity s)=sgn s+9218868437227405312:=by
 show dbl.word s dbl.infRung=_
 rw [zqc1,zqa1]
theorem zrr2 {a b:Nat} (ha:a<18446744073709551616) (hb:b<18446744073709551616):outD (dbl.mul a b)=mulD a b/\∀r,dbl.mul a b=some r->zor r=false:=by
 unfold Format.mul
 by_cases na:9218868437227405312<a%9223372036854775808
 ·rw [zgc1 ha na]
  unfold mulD
  dsimp only
  rw [if_pos (.inl (decide_eq_true na))]
  exact ⟨rfl,fun r hr=>by cases hr⟩
 by_cases nb:9218868437227405312<b%9223372036854775808
 ·rw [zgc1 hb nb]
  have:∀d:Datum,d.product (.nan (negD b) (b%9223372036854775808-9218868437227405312))=none:=fun d=>by cases d<;>rfl
  rw [this]
  unfold mulD
  dsimp only
  rw [if_pos (.inr (.inl (decide_eq_true nb)))]
  exact ⟨rfl,fun r hr=>by cases hr⟩
 have na':=zru na
 have nb':=zru nb
 unfold mulD
 dsimp only
 by_cases ia:a%9223372036854775808=9218868437227405312
 ·rw [zsr ha ia]
  by_cases ib:b%9223372036854775808=9218868437227405312
  ·rw [zsr hb ib,if_neg (by rintro (h | h | h | h);exact na' h;exact nb' h;omega;omega),if_pos (.inl ia),<-zxm]
   exact ⟨rfl,zbn1 (o:=some (.infinity (negD a^^negD b))) fun d hd=>by cases hd;exact .inl ⟨_,rfl⟩⟩
  ·have hp:=zuc (r:=b%9223372036854775808) (by omega)
   rw [zsq hb (by omega)]
   have e1:(Datum.infinity (negD a)).product (.number (negD b) (zac (b%9223372036854775808)) (zad (b%9223372036854775808)))=if zac (b%9223372036854775808)=0 then none else some (.infinity (negD a^^negD b)):=rfl
   rw [e1]
   by_cases z:b%9223372036854775808=0
   ·rw [if_pos (hp.2 z),if_pos (.inr (.inr (.inl ⟨ia,z⟩)))]
    exact ⟨rfl,fun r hr=>by cases hr⟩
   ·rw [if_neg (fun h=>z (hp.1 h)),if_neg (by rintro (h | h | h | h);exact na' h;exact nb' h;exact z h.2;exact ib h.2),if_pos (.inl ia),<-zxm]
    exact ⟨rfl,zbn1 (o:=some (.infinity (negD a^^negD b))) fun d hd=>by cases hd;exact .inl ⟨_,rfl⟩⟩
 ·have hpa:=zuc (r:=a%9223372036854775808) (by omega)
  rw [zsq ha (by omega)]
  by_cases ib:b%9223372036854775808=9218868437227405312
  ·rw [zsr hb ib]
   have e1:(Datum.number (negD a) (zac (a%9223372036854775808)) (zad (a%9223372036854775808))).product (.infinity (negD b))=if zac (a%9223372036854775808)=0 then none else some (.infinity (negD b^^negD a)):=rfl
   rw [e1]
   by_cases z:a%9223372036854775808=0
   ·rw [if_pos (hpa.2 z),if_pos (.inr (.inr (.inr ⟨z,ib⟩)))]
    exact ⟨rfl,fun r hr=>by cases hr⟩
   ·rw [if_neg (fun h=>z (hpa.1 h)),if_neg (by rintro (h | h | h | h);exact na' h;exact nb' h;exact ia h.1;exact z h.1),if_pos (.inr ib),<-zxm,Bool.xor_comm (negD a)]
    exact ⟨rfl,zbn1 (o:=some (.infinity (negD b^^negD a))) fun d hd=>by cases hd;exact .inl ⟨_,rfl⟩⟩
  ·rw [zsq hb (by omega),if_neg (by rintro (h | h | h | h);exact na' h;exact nb' h;exact ia h.1;exact ib h.2),if_neg (by rintro (h | h);exact ia h;exact ib h),<-zbm1]
   exact ⟨rfl,zbn1 (o:=some (.number (negD a^^negD b) (zac (a%9223372036854775808)*zac (b%9223372036854775808)) (zad (a%9223372036854775808)+zad (b%9223372036854775808)))) fun d hd=>.inr (by cases hd;exact ⟨_,_,_,rfl⟩)⟩
theorem zda2 {y k:Nat} (h:y / 2^k≠0):(y / 2^k).log2+k=y.log2:=by
 have hy:y≠0:=fun e=>h (by rw [e];exact Nat.zero_div _)
 have h1:=Nat.log2_self_le h
 have h2:y / 2^k<2^((y / 2^k).log2+1):=Nat.lt_log2_self
 have h3:2^((y / 2^k).log2+k)<=y:=by
  rw [Nat.pow_add]
  exact (Nat.le_div_iff_mul_le (Nat.two_pow_pos k)).1 h1
 have h4:y<2^((y / 2^k).log2+1+k):=by
  rw [Nat.pow_add]
  exact (Nat.div_lt_iff_lt_mul (Nat.two_pow_pos k)).1 h2
 have h5:=(Nat.le_log2 hy).2 h3
 have h6:y.log2<(y / 2^k).log2+1+k:=(Nat.log2_lt hy).2 h4
 omega
theorem zww1 {y k:Nat} {off:Int} {c:Bool} (h:(k:Int)+1<=off):keptD (y / 2^k) (off-k) (decide (0<y%2^k) || c)=keptD y off c:=by
 unfold keptD
 rw [if_neg (show ¬off-(k:Int)<=0 by omega),if_neg (show ¬off<=0 by omega)]
 obtain ⟨d,hd⟩:∃d:Nat,off=(k:Int)+d+1:=⟨(off-k-1).toNat,by omega⟩
 subst hd
 rw [show ((k:Int)+d+1-k).toNat=d+1 by omega,show ((k:Int)+d+1).toNat=k+(d+1) by omega]
 dsimp only
 rw [Nat.add_sub_cancel,show k+(d+1)-1=k+d by omega,Nat.div_div_eq_div_mul,<-Nat.pow_add]
 have e1:y%2^(k+(d+1))=(y / 2^k)%2^(d+1)*2^k+y%2^k:=by
  have h1:=Nat.div_add_mod y (2^k)
  have h2:=Nat.div_add_mod (y / 2^k) (2^(d+1))
  rw [Nat.pow_add,Nat.mod_mul,Nat.add_comm,Nat.mul_comm]
 rw [e1,Nat.pow_add 2 k d]
 have hk:=Nat.two_pow_pos k
 have hl:=Nat.mod_lt y hk
 generalize y / 2^(k+(d+1))=q
 generalize (y / 2^k)%2^(d+1)=r
 generalize y%2^k=l at*
 generalize 2^d=g
 generalize 2^k=p at*
 have iff_:(g<r\/r=g/\((decide (0<l) || c)=true\/q%2=1))↔(p*g<r*p+l\/r*p+l=p*g/\(c=true\/q%2=1)):=by
  rcases Nat.lt_trichotomy r g with h1 | h1 | h1
  ·have:(r+1)*p<=g*p:=Nat.mul_le_mul_right p h1
   rw [Nat.add_mul,Nat.one_mul,Nat.mul_comm g p] at this
   constructor
   ·rintro (h | h)<;>omega
   ·rintro (h | h)<;>omega
  ·subst h1
   rw [Nat.mul_comm p r]
   by_cases hl0:l=0
   ·subst hl0
    simp
   ·have:0<l:=by omega
    simp [this]
  ·have:(g+1)*p<=r*p:=Nat.mul_le_mul_right p h1
   rw [Nat.add_mul,Nat.one_mul,Nat.mul_comm g p] at this
   exact ⟨fun _=>.inl (by omega),fun _=>.inl h1⟩
 by_cases hc:g<r\/r=g/\((decide (0<l) || c)=true\/q%2=1)
 ·rw [if_pos hc,if_pos (iff_.1 hc)]
 ·rw [if_neg hc,if_neg (fun h=>hc (iff_.2 h))]
theorem zlb1 {y k:Nat} {e:Int} {c:Bool} (h:9007199254740992<=y / 2^k):rungD (y / 2^k) (e+k) (decide (0<y%2^k) || c)=rungD y e c:=by
 have hx:y / 2^k≠0:=by omega
 have hy:y≠0:=fun e=>hx (by rw [e];exact Nat.zero_div _)
 have hl:=zda2 hx
 have h53:53<=(y / 2^k).log2:=(Nat.le_log2 hx).2 (show 2^53<=_ by omega)
 have ho:offD (y / 2^k) (e+k)=offD y e-k:=by
  unfold offD bitsN
  rw [if_neg hx,if_neg hy]
  split<;>split<;>omega
 have hge:(k:Int)+1<=offD y e:=by
  unfold offD bitsN
  rw [if_neg hy]
  split<;>omega
 unfold rungD
 dsimp only
 rw [ho,zww1 hge,show e+(k:Int)+(offD y e-k)=e+offD y e by omega]
theorem zrs2 {a b:Nat} (ha:a<18446744073709551616) (hb:b<18446744073709551616):outD (dbl.div a b)=divD a b/\∀r,dbl.div a b=some r->zor r=false:=by
 unfold Format.div
 by_cases na:9218868437227405312<a%9223372036854775808
 ·rw [zgc1 ha na]
  unfold divD
  dsimp only
  rw [if_pos (.inl (decide_eq_true na))]
  exact ⟨rfl,fun r hr=>by cases hr⟩
 by_cases nb:9218868437227405312<b%9223372036854775808
 ·rw [zgc1 hb nb]
  have:∀d:Datum,d.quotient (dbl.fractionBits+2) (.nan (negD b) (b%9223372036854775808-9218868437227405312))=none:=fun d=>by cases d<;>rfl
  rw [this]
  unfold divD
  dsimp only
  rw [if_pos (.inr (.inl (decide_eq_true nb)))]
  exact ⟨rfl,fun r hr=>by cases hr⟩
 have na':=zru na
 have nb':=zru nb
 unfold divD
 dsimp only
 by_cases ia:a%9223372036854775808=9218868437227405312
 ·rw [zsr ha ia]
  by_cases ib:b%9223372036854775808=9218868437227405312
  ·rw [zsr hb ib,if_pos (.inr (.inr (.inl ⟨ia,ib⟩)))]
   exact ⟨rfl,fun r hr=>by cases hr⟩
  ·rw [zsq hb (by omega),if_neg (by rintro (h | h | h | h);exact na' h;exact nb' h;exact ib h.2;omega),if_pos (.inl ia),<-zxm]
   exact ⟨rfl,zbn1 (o:=some (.infinity (negD a^^negD b))) fun d hd=>by cases hd;exact .inl ⟨_,rfl⟩⟩
 ·have hpa:=zuc (r:=a%9223372036854775808) (by omega)
  rw [zsq ha (by omega)]
  by_cases ib:b%9223372036854775808=9218868437227405312
  ·rw [zsr hb ib,if_neg (by rintro (h | h | h | h);exact na' h;exact nb' h;exact ia h.1;omega),if_neg (by rintro (h | h);exact ia h;omega),if_pos (.inl ib)]
   have e1:dbl.write (.number (negD a^^negD b) 0 0)=sgn (negD a^^negD b):=by rw [zbm1];rfl
   rw [<-e1]
   exact ⟨rfl,zbn1 (o:=some (.number (negD a^^negD b) 0 0)) fun d hd=>.inr (by cases hd;exact ⟨_,_,_,rfl⟩)⟩
  ·have hpb:=zuc (r:=b%9223372036854775808) (by omega)
   rw [zsq hb (by omega)]
   have hma:zac (a%9223372036854775808)<9007199254740992:=by unfold zac;split<;>omega
   have hmb:zac (b%9223372036854775808)<9007199254740992:=by unfold zac;split<;>omega
   generalize zad (a%9223372036854775808)=i
   generalize zad (b%9223372036854775808)=j
   generalize zac (a%9223372036854775808)=m at*
   generalize zac (b%9223372036854775808)=n at*
   have e0:(Datum.number (negD a) m i).quotient (dbl.fractionBits+2) (.number (negD b) n j)=if n=0 then if m=0 then none else some (.infinity (negD a^^negD b))
     else some (.number (negD a^^negD b) (2*((m<<<(54+n.log2-m.log2)) / n)+((m<<<(54+n.log2-m.log2))%n !=0).toNat) (i-j-((54+n.log2-m.log2:Nat):Int)-1)):=rfl
   rw [e0]
   by_cases zb:b%9223372036854775808=0
   ·rw [if_pos (hpb.2 zb)]
    by_cases za:a%9223372036854775808=0
    ·rw [if_pos (hpa.2 za),if_pos (.inr (.inr (.inr ⟨za,zb⟩)))]
     exact ⟨rfl,fun r hr=>by cases hr⟩
    ·rw [if_neg (fun h=>za (hpa.1 h)),if_neg (by rintro (h | h | h | h);exact na' h;exact nb' h;exact ia h.1;exact za h.1),if_pos (.inr zb),<-zxm]
     exact ⟨rfl,zbn1 (o:=some (.infinity (negD a^^negD b))) fun d hd=>by cases hd;exact .inl ⟨_,rfl⟩⟩
   ·have hn:n≠0:=fun h=>zb (hpb.1 h)
    rw [if_neg hn,if_neg (by rintro (h | h | h | h);exact na' h;exact nb' h;exact ia h.1;exact zb h.2),if_neg (by rintro (h | h);exact ia h;exact zb h)]
    refine ⟨?_,zbn1 (o:=some (.number _ _ _)) fun d hd=>.inr (by cases hd;exact ⟨_,_,_,rfl⟩)⟩
    show dbl.write (.number _ _ _)=_
    rw [zbm1]
    by_cases za:a%9223372036854775808=0
    ·rw [if_pos (.inr za)]
     have hm:m=0:=hpa.2 za
     subst hm
     unfold zjj
     rw [if_pos (by simp)]
    ·rw [if_neg (by rintro (h | h);exact ib h;exact za h)]
     have hm:m≠0:=fun h=>za (hpa.1 h)
     rw [shl]
     have hmore:m.log2<=52:=by
      have:m.log2<53:=(Nat.log2_lt hm).2 hma
      omega
     have hnl:n.log2<=52:=by
      have:n.log2<53:=(Nat.log2_lt hn).2 hmb
      omega
     obtain ⟨p,hp⟩:∃p,p=54+n.log2-m.log2:=⟨_,rfl⟩
     rw [<-hp]
     have hnp:=Nat.pos_of_ne_zero hn
     have hA:9007199254740992<=m*2^p / n:=by
      rw [Nat.le_div_iff_mul_le hnp]
      have h1:2^m.log2<=m:=Nat.log2_self_le hm
      have h2:n<2^(n.log2+1):=Nat.lt_log2_self
      have h3:2^m.log2*2^p<=m*2^p:=Nat.mul_le_mul_right _ h1
      rw [<-Nat.pow_add,show m.log2+p=53+(n.log2+1) by omega,Nat.pow_add 2 53] at h3
      have h4:2^53*n<=2^53*2^(n.log2+1):=Nat.mul_le_mul_left _ (Nat.le_of_lt h2)
      omega
     have hk:p+(128-p)=128:=by omega
     have hq:m*2^128 / n / 2^(128-p)=m*2^p / n:=by
      rw [Nat.div_div_eq_div_mul,Nat.mul_comm n,<-Nat.div_div_eq_div_mul,<-hk,Nat.pow_add,<-Nat.mul_assoc,show p+(128-p)-p=128-p by omega,Nat.mul_div_cancel _ (Nat.two_pow_pos _)]
     have hst:(decide (0<m*2^128 / n%2^(128-p)) || decide (0<m*2^128%n))=(m*2^p%n !=0):=by
      have h1:=Nat.div_add_mod (m*2^128) n
      have h2:=Nat.div_add_mod (m*2^128 / n) (2^(128-p))
      have h3:=Nat.div_add_mod (m*2^p) n
      have h4:m*2^128=m*2^p*2^(128-p):=by rw [Nat.mul_assoc,<-Nat.pow_add,hk]
      rw [hq] at h2
      have hP:=Nat.two_pow_pos (128-p)
      generalize 2^(128-p)=P at*
      generalize m*2^128=X at*
      generalize m*2^p=Y at*
      have h5:=Nat.mod_lt X hnp
      have h6:=Nat.mod_lt Y hnp
      generalize X / n=B at*
      generalize Y / n=A at*
      generalize X%n=rx at*
      generalize Y%n=ry at*
      have h7:=Nat.mod_lt B hP
      generalize B%P=l at*
      have h8:n*l+rx=ry*P:=by
       have e1:X=n*(P*A+l)+rx:=by rw [h2];exact h1.symm
       have e2:X=(n*A+ry)*P:=by rw [h3];exact h4
       rw [Nat.mul_add,Nat.add_assoc] at e1
       rw [Nat.add_mul,show n*A*P=n*(P*A) by rw [Nat.mul_assoc,Nat.mul_comm A P]] at e2
       omega
      by_cases hr:ry=0
      ·subst hr
       rw [Nat.zero_mul] at h8
       have h9:rx=0:=by omega
       have h10:n*l=0:=by omega
       have h11:l=0:=by
        rcases Nat.mul_eq_zero.1 h10 with h | h
        ·omega
        ·exact h
       subst h9 h11
       rfl
      ·have h9:0<ry*P:=Nat.mul_pos (Nat.pos_of_ne_zero hr) hP
       have h10:0<l\/0<rx:=by
        refine Classical.byContradiction fun hh=> ?_
        have:l=0:=by omega
        subst this
        rw [Nat.mul_zero] at h8
        omega
       rw [show (ry !=0)=true by simp [hr]]
       rcases h10 with h | h<;>simp [h]
     have s1:=zlb1 (y:=m*2^128 / n) (k:=128-p) (e:=i-j-128) (c:=decide (0<m*2^128%n)) (by rw [hq];exact hA)
     rw [hq,hst] at s1
     have hY2:(2*(m*2^p / n)+(m*2^p%n !=0).toNat) / 2^1=m*2^p / n/\(2*(m*2^p / n)+(m*2^p%n !=0).toNat)%2^1=(m*2^p%n !=0).toNat:=by
      cases (m*2^p%n !=0)<;>simp<;>omega
     have s2:=zlb1 (y:=2*(m*2^p / n)+(m*2^p%n !=0).toNat) (k:=1) (e:=i-j-(p:Int)-1) (c:=false) (by rw [hY2.1];exact hA)
     rw [hY2.1,hY2.2] at s2
     have s3:(decide (0<(m*2^p%n !=0).toNat) || false)=(m*2^p%n !=0):=by cases (m*2^p%n !=0)<;>rfl
     rw [s3] at s2
     unfold zjj
     have hB:m*2^128 / n≠0:=fun h=>by rw [h,Nat.zero_div] at hq;omega
     rw [if_neg (by omega),if_neg hB,<-s1,<-s2]
     congr 2
     omega
end Lf
namespace Lf
open Go
theorem Mv.less {F F' E:List Nat} {h h':Hp} (a:Mv F h F' h') (hs:∀c∈E,c∈F'):Mv F h E h':=⟨a.keep,fun b hb=>a.from_ b (hs b hb)⟩
def bit (x:Int) (n:Nat):Bool:=x.toNat.testBit n
def zhe2 (v:Value):Option Leaf:=match h:zvw1 v with
 | true=>some ⟨v,h⟩
 | false=>none
theorem zlm2 {v:Value} {l:Leaf} (h:zhe2 v=some l):l.v=v:=by
 unfold zhe2 at h
 split at h<;>cases h
 rfl
structure S_api_Ins where
 Op:Int
 A:Int
 B:Int
 C:Int
 Imm:Int
def S_api_Ins.v (x:S_api_Ins):Value:=.agg #[.int .i64 x.Op,.int .i64 x.A,.int .i64 x.B,.int .i64 x.C,.int .i64 x.Imm]
@[reducible] def sh_api_Ins : Shape where
 T:=S_api_Ins
 enc:=fun x=>.agg #[.int .i64 x.Op,.int .i64 x.A,.int .i64 x.B,.int .i64 x.C,.int .i64 x.Imm]
 dec:=fun v=>match v with
  | .agg ⟨[.int .i64 a0,.int .i64 a1,.int .i64 a2,.int .i64 a3,.int .i64 a4]⟩=>some ⟨a0,a1,a2,a3,a4⟩
  | _=>none
 ok:=by intro v x h;split at h<;>cases h;rfl
structure S_strings_Builder where
 addr:Option Addr
 buf:Sl
def S_strings_Builder.v (x:S_strings_Builder):Value:=.agg #[.pointer x.addr,.slice x.buf.base x.buf.len x.buf.cap]
@[reducible] def zgd1 : Shape where
 T:=S_strings_Builder
 enc:=fun x=>.agg #[.pointer x.addr,.slice x.buf.base x.buf.len x.buf.cap]
 dec:=fun v=>match v with
  | .agg ⟨[.pointer a0,.slice a1 b1 c1]⟩=>some ⟨a0,⟨a1,b1,c1⟩⟩
  | _=>none
 ok:=by intro v x h;split at h<;>cases h;rfl
structure S_asm_reader where
 s:ByteArray
 at_:Int
 e:Int
 in_:Int
def S_asm_reader.v (x:S_asm_reader):Value:=.agg #[.string x.s,.int .i64 x.at_,.int .i64 x.e,.int .i64 x.in_]
@[reducible] def zqd1 : Shape where
 T:=S_asm_reader
 enc:=fun x=>.agg #[.string x.s,.int .i64 x.at_,.int .i64 x.e,.int .i64 x.in_]
 dec:=fun v=>match v with
  | .agg ⟨[.string a0,.int .i64 a1,.int .i64 a2,.int .i64 a3]⟩=>some ⟨a0,a1,a2,a3⟩
  | _=>none
 ok:=by intro v x h;split at h<;>cases h;rfl
structure S_n3_bool where
 a0:Bool
 a1:Bool
 a2:Bool
def S_n3_bool.v (x:S_n3_bool):Value:=.agg #[.bool x.a0,.bool x.a1,.bool x.a2]
@[reducible] def zdb2 : Shape where
 T:=S_n3_bool
 enc:=fun x=>.agg #[.bool x.a0,.bool x.a1,.bool x.a2]
 dec:=fun v=>match v with
  | .agg ⟨[.bool a0,.bool a1,.bool a2]⟩=>some ⟨a0,a1,a2⟩
  | _=>none
 ok:=by intro v x h;split at h<;>cases h;rfl
structure S_n3_int where
 a0:Int
 a1:Int
 a2:Int
def S_n3_int.v (x:S_n3_int):Value:=.agg #[.int .i64 x.a0,.int .i64 x.a1,.int .i64 x.a2]
@[reducible] def zhf2 : Shape where
 T:=S_n3_int
 enc:=fun x=>.agg #[.int .i64 x.a0,.int .i64 x.a1,.int .i64 x.a2]
 dec:=fun v=>match v with
  | .agg ⟨[.int .i64 a0,.int .i64 a1,.int .i64 a2]⟩=>some ⟨a0,a1,a2⟩
  | _=>none
 ok:=by intro v x h;split at h<;>cases h;rfl
structure S_n24_uint8 where
 a0:Int
 a1:Int
 a2:Int
 a3:Int
 a4:Int
 a5:Int
 a6:Int
 a7:Int
 a8:Int
 a9:Int
 a10:Int
 a11:Int
 a12:Int
 a13:Int
 a14:Int
 a15:Int
 a16:Int
 a17:Int
 a18:Int
 a19:Int
 a20:Int
 a21:Int
 a22:Int
 a23:Int
def S_n24_uint8.v (x:S_n24_uint8):Value:=.agg #[.int .u8 x.a0,.int .u8 x.a1,.int .u8 x.a2,.int .u8 x.a3,.int .u8 x.a4,.int .u8 x.a5,.int .u8 x.a6,.int .u8 x.a7,.int .u8 x.a8,.int .u8 x.a9,.int .u8 x.a10,.int .u8 x.a11,.int .u8 x.a12,.int .u8 x.a13,.int .u8 x.a14,.int .u8 x.a15,.int .u8 x.a16,.int .u8 x.a17,.int .u8 x.a18,.int .u8 x.a19,.int .u8 x.a20,.int .u8 x.a21,.int .u8 x.a22,.int .u8 x.a23]
@[reducible] def ztb1 : Shape where
 T:=S_n24_uint8
 enc:=fun x=>.agg #[.int .u8 x.a0,.int .u8 x.a1,.int .u8 x.a2,.int .u8 x.a3,.int .u8 x.a4,.int .u8 x.a5,.int .u8 x.a6,.int .u8 x.a7,.int .u8 x.a8,.int .u8 x.a9,.int .u8 x.a10,.int .u8 x.a11,.int .u8 x.a12,.int .u8 x.a13,.int .u8 x.a14,.int .u8 x.a15,.int .u8 x.a16,.int .u8 x.a17,.int .u8 x.a18,.int .u8 x.a19,.int .u8 x.a20,.int .u8 x.a21,.int .u8 x.a22,.int .u8 x.a23]
 dec:=fun v=>match v with
  | .agg ⟨[.int .u8 a0,.int .u8 a1,.int .u8 a2,.int .u8 a3,.int .u8 a4,.int .u8 a5,.int .u8 a6,.int .u8 a7,.int .u8 a8,.int .u8 a9,.int .u8 a10,.int .u8 a11,.int .u8 a12,.int .u8 a13,.int .u8 a14,.int .u8 a15,.int .u8 a16,.int .u8 a17,.int .u8 a18,.int .u8 a19,.int .u8 a20,.int .u8 a21,.int .u8 a22,.int .u8 a23]⟩=>some ⟨a0,a1,a2,a3,a4,a5,a6,a7,a8,a9,a10,a11,a12,a13,a14,a15,a16,a17,a18,a19,a20,a21,a22,a23⟩
  | _=>none
 ok:=by intro v x h;split at h<;>cases h;rfl
structure S_n32_uint8 where
 a0:Int
 a1:Int
 a2:Int
 a3:Int
 a4:Int
 a5:Int
 a6:Int
 a7:Int
 a8:Int
 a9:Int
 a10:Int
 a11:Int
 a12:Int
 a13:Int
 a14:Int
 a15:Int
 a16:Int
 a17:Int
 a18:Int
 a19:Int
 a20:Int
 a21:Int
 a22:Int
 a23:Int
 a24:Int
 a25:Int
 a26:Int
 a27:Int
 a28:Int
 a29:Int
 a30:Int
 a31:Int
def S_n32_uint8.v (x:S_n32_uint8):Value:=.agg #[.int .u8 x.a0,.int .u8 x.a1,.int .u8 x.a2,.int .u8 x.a3,.int .u8 x.a4,.int .u8 x.a5,.int .u8 x.a6,.int .u8 x.a7,.int .u8 x.a8,.int .u8 x.a9,.int .u8 x.a10,.int .u8 x.a11,.int .u8 x.a12,.int .u8 x.a13,.int .u8 x.a14,.int .u8 x.a15,.int .u8 x.a16,.int .u8 x.a17,.int .u8 x.a18,.int .u8 x.a19,.int .u8 x.a20,.int .u8 x.a21,.int .u8 x.a22,.int .u8 x.a23,.int .u8 x.a24,.int .u8 x.a25,.int .u8 x.a26,.int .u8 x.a27,.int .u8 x.a28,.int .u8 x.a29,.int .u8 x.a30,.int .u8 x.a31]
@[reducible] def ztc1 : Shape where
 T:=S_n32_uint8
 enc:=fun x=>.agg #[.int .u8 x.a0,.int .u8 x.a1,.int .u8 x.a2,.int .u8 x.a3,.int .u8 x.a4,.int .u8 x.a5,.int .u8 x.a6,.int .u8 x.a7,.int .u8 x.a8,.int .u8 x.a9,.int .u8 x.a10,.int .u8 x.a11,.int .u8 x.a12,.int .u8 x.a13,.int .u8 x.a14,.int .u8 x.a15,.int .u8 x.a16,.int .u8 x.a17,.int .u8 x.a18,.int .u8 x.a19,.int .u8 x.a20,.int .u8 x.a21,.int .u8 x.a22,.int .u8 x.a23,.int .u8 x.a24,.int .u8 x.a25,.int .u8 x.a26,.int .u8 x.a27,.int .u8 x.a28,.int .u8 x.a29,.int .u8 x.a30,.int .u8 x.a31]
 dec:=fun v=>match v with
  | .agg ⟨[.int .u8 a0,.int .u8 a1,.int .u8 a2,.int .u8 a3,.int .u8 a4,.int .u8 a5,.int .u8 a6,.int .u8 a7,.int .u8 a8,.int .u8 a9,.int .u8 a10,.int .u8 a11,.int .u8 a12,.int .u8 a13,.int .u8 a14,.int .u8 a15,.int .u8 a16,.int .u8 a17,.int .u8 a18,.int .u8 a19,.int .u8 a20,.int .u8 a21,.int .u8 a22,.int .u8 a23,.int .u8 a24,.int .u8 a25,.int .u8 a26,.int .u8 a27,.int .u8 a28,.int .u8 a29,.int .u8 a30,.int .u8 a31]⟩=>some ⟨a0,a1,a2,a3,a4,a5,a6,a7,a8,a9,a10,a11,a12,a13,a14,a15,a16,a17,a18,a19,a20,a21,a22,a23,a24,a25,a26,a27,a28,a29,a30,a31⟩
  | _=>none
 ok:=by intro v x h;split at h<;>cases h;rfl
structure S_strconv_NumError where
 Func:ByteArray
 Num:ByteArray
 Err:Leaf
def S_strconv_NumError.v (x:S_strconv_NumError):Value:=.agg #[.string x.Func,.string x.Num,x.Err.v]
@[reducible] def zep1 : Shape where
 T:=S_strconv_NumError
 enc:=fun x=>.agg #[.string x.Func,.string x.Num,x.Err.v]
 dec:=fun v=>match v with
  | .agg ⟨[.string a0,.string a1,a2]⟩=>(zhe2 a2).bind fun la2=>some ⟨a0,a1,la2⟩
  | _=>none
 ok:=by
  intro v x h
  split at h
  ·simp only [Option.bind_eq_some_iff] at h
   obtain ⟨la2,ea2,h⟩:=h
   cases h
   simp only [zlm2 ea2]
  ·cases h
structure S_n20_uint64 where
 a0:Int
 a1:Int
 a2:Int
 a3:Int
 a4:Int
 a5:Int
 a6:Int
 a7:Int
 a8:Int
 a9:Int
 a10:Int
 a11:Int
 a12:Int
 a13:Int
 a14:Int
 a15:Int
 a16:Int
 a17:Int
 a18:Int
 a19:Int
def S_n20_uint64.v (x:S_n20_uint64):Value:=.agg #[.int .u64 x.a0,.int .u64 x.a1,.int .u64 x.a2,.int .u64 x.a3,.int .u64 x.a4,.int .u64 x.a5,.int .u64 x.a6,.int .u64 x.a7,.int .u64 x.a8,.int .u64 x.a9,.int .u64 x.a10,.int .u64 x.a11,.int .u64 x.a12,.int .u64 x.a13,.int .u64 x.a14,.int .u64 x.a15,.int .u64 x.a16,.int .u64 x.a17,.int .u64 x.a18,.int .u64 x.a19]
@[reducible] def zqe1 : Shape where
 T:=S_n20_uint64
 enc:=fun x=>.agg #[.int .u64 x.a0,.int .u64 x.a1,.int .u64 x.a2,.int .u64 x.a3,.int .u64 x.a4,.int .u64 x.a5,.int .u64 x.a6,.int .u64 x.a7,.int .u64 x.a8,.int .u64 x.a9,.int .u64 x.a10,.int .u64 x.a11,.int .u64 x.a12,.int .u64 x.a13,.int .u64 x.a14,.int .u64 x.a15,.int .u64 x.a16,.int .u64 x.a17,.int .u64 x.a18,.int .u64 x.a19]
 dec:=fun v=>match v with
  | .agg ⟨[.int .u64 a0,.int .u64 a1,.int .u64 a2,.int .u64 a3,.int .u64 a4,.int .u64 a5,.int .u64 a6,.int .u64 a7,.int .u64 a8,.int .u64 a9,.int .u64 a10,.int .u64 a11,.int .u64 a12,.int .u64 a13,.int .u64 a14,.int .u64 a15,.int .u64 a16,.int .u64 a17,.int .u64 a18,.int .u64 a19]⟩=>some ⟨a0,a1,a2,a3,a4,a5,a6,a7,a8,a9,a10,a11,a12,a13,a14,a15,a16,a17,a18,a19⟩
  | _=>none
 ok:=by intro v x h;split at h<;>cases h;rfl
structure S_internal_strconv_scaler where
 pmHi:Int
 pmLo:Int
 s:Int
def S_internal_strconv_scaler.v (x:S_internal_strconv_scaler):Value:=.agg #[.int .u64 x.pmHi,.int .u64 x.pmLo,.int .i64 x.s]
@[reducible] def zus : Shape where
 T:=S_internal_strconv_scaler
 enc:=fun x=>.agg #[.int .u64 x.pmHi,.int .u64 x.pmLo,.int .i64 x.s]
 dec:=fun v=>match v with
  | .agg ⟨[.int .u64 a0,.int .u64 a1,.int .i64 a2]⟩=>some ⟨a0,a1,a2⟩
  | _=>none
 ok:=by intro v x h;split at h<;>cases h;rfl
structure S_errors_errorString where
 s:ByteArray
def S_errors_errorString.v (x:S_errors_errorString):Value:=.agg #[.string x.s]
@[reducible] def zbo1 : Shape where
 T:=S_errors_errorString
 enc:=fun x=>.agg #[.string x.s]
 dec:=fun v=>match v with
  | .agg ⟨[.string a0]⟩=>some ⟨a0⟩
  | _=>none
 ok:=by intro v x h;split at h<;>cases h;rfl
structure S_internal_strconv_floatInfo where
 mantbits:Int
 expbits:Int
 bias:Int
def S_internal_strconv_floatInfo.v (x:S_internal_strconv_floatInfo):Value:=.agg #[.int .u64 x.mantbits,.int .u64 x.expbits,.int .i64 x.bias]
@[reducible] def zrv : Shape where
 T:=S_internal_strconv_floatInfo
 enc:=fun x=>.agg #[.int .u64 x.mantbits,.int .u64 x.expbits,.int .i64 x.bias]
 dec:=fun v=>match v with
  | .agg ⟨[.int .u64 a0,.int .u64 a1,.int .i64 a2]⟩=>some ⟨a0,a1,a2⟩
  | _=>none
 ok:=by intro v x h;split at h<;>cases h;rfl
structure S_internal_strconv_pmHiLo where
 hi:Int
 lo:Int
def S_internal_strconv_pmHiLo.v (x:S_internal_strconv_pmHiLo):Value:=.agg #[.int .u64 x.hi,.int .u64 x.lo]
@[reducible] def zut : Shape where
 T:=S_internal_strconv_pmHiLo
 enc:=fun x=>.agg #[.int .u64 x.hi,.int .u64 x.lo]
 dec:=fun v=>match v with
  | .agg ⟨[.int .u64 a0,.int .u64 a1]⟩=>some ⟨a0,a1⟩
  | _=>none
 ok:=by intro v x h;split at h<;>cases h;rfl
structure S_internal_strconv_leftCheat where
 delta:Int
 cutoff:ByteArray
def S_internal_strconv_leftCheat.v (x:S_internal_strconv_leftCheat):Value:=.agg #[.int .i64 x.delta,.string x.cutoff]
@[reducible] def zrw : Shape where
 T:=S_internal_strconv_leftCheat
 enc:=fun x=>.agg #[.int .i64 x.delta,.string x.cutoff]
 dec:=fun v=>match v with
  | .agg ⟨[.int .i64 a0,.string a1]⟩=>some ⟨a0,a1⟩
  | _=>none
 ok:=by intro v x h;split at h<;>cases h;rfl
def fldT (n:String) (t o b:Nat):Field:={name:=n,type:=t,offset:=o,embedded:=false,tag:= "",pkgPath:= "",byteOffset:=b}
def ty0 :Ty:={und:=(.tuple #[]),size:=1,bytes:=0,zero:=(.tuple #[]),sh:=znh1}
def ty2 :Ty:={und:=(.int .i64),size:=1,bytes:=8,zero:=(.int .i64 0),sh:=shInt .i64}
def ty3 :Ty:={und:=(.int .i64),size:=1,bytes:=8,zero:=(.int .i64 0),sh:=shInt .i64}
def ty4 :Ty:={und:=.bool,size:=1,bytes:=1,zero:=(.bool false),sh:=zae}
def ty5 :Ty:={und:=(.int .u8),size:=1,bytes:=1,zero:=(.int .u8 0),sh:=shInt .u8}
def ty9 :Ty:={und:=.string,size:=1,bytes:=16,zero:=(.string ByteArray.empty),sh:=shStr}
def ty12 :Ty:={und:=(.int .u64),size:=1,bytes:=8,zero:=(.int .u64 0),sh:=shInt .u64}
def ty20 :Ty:={und:=(.interface #[]),size:=1,bytes:=16,zero:=.nilIface,sh:=zai}
def ty21 :Ty:={und:=(.int .i32),size:=1,bytes:=4,zero:=(.int .i32 0),sh:=shInt .i32}
def ty22 :Ty:={und:=(.slice 2),size:=1,bytes:=24,zero:=(.slice none 0 0),sh:=shSl}
def ty23 :Ty:={und:=(.slice 9),size:=1,bytes:=24,zero:=(.slice none 0 0),sh:=shSl}
def ty25 :Ty:={und:=(.int .i64),size:=1,bytes:=8,zero:=(.int .i64 0),sh:=shInt .i64}
def ty26 :Ty:={und:=(.tuple #[2,25]),size:=1,bytes:=0,zero:=(.tuple #[(.int .i64 0),(.int .i64 0)]),sh:=zie (shInt .i64) (shInt .i64)}
def ty31 :Ty:={und:=(.slice 44),size:=1,bytes:=24,zero:=(.slice none 0 0),sh:=shSl}
def ty33 :Ty:={und:=(.tuple #[9,25,3]),size:=1,bytes:=0,zero:=(.tuple #[(.string ByteArray.empty),(.int .i64 0),(.int .i64 0)]),sh:=zdw1 shStr (shInt .i64) (shInt .i64)}
def ty36 :Ty:={und:=(.tuple #[31,25,3,3]),size:=1,bytes:=0,zero:=(.tuple #[(.slice none 0 0),(.int .i64 0),(.int .i64 0),(.int .i64 0)]),sh:=zsd1 shSl (shInt .i64) (shInt .i64) (shInt .i64)}
def ty39 :Ty:={und:=(.func #[9] #[4] false),size:=1,bytes:=8,zero:=.nilFunc,sh:=shFn}
def ty40 :Ty:={und:=(.tuple #[25,3]),size:=1,bytes:=0,zero:=(.tuple #[(.int .i64 0),(.int .i64 0)]),sh:=zie (shInt .i64) (shInt .i64)}
def ty44 :Ty:={und:=(.struct #[fldT "Op" 3 0 0,fldT "A" 3 1 8,fldT "B" 3 2 16,fldT "C" 3 3 24,fldT "Imm" 2 4 32]),size:=5,bytes:=40,zero:=(.agg #[(.int .i64 0),(.int .i64 0),(.int .i64 0),(.int .i64 0),(.int .i64 0)]),sh:=sh_api_Ins}
def ty48 :Ty:={und:=(.float .f64),size:=1,bytes:=8,zero:=(.float .f64 0),sh:=shFlt .f64}
def ty51 :Ty:={und:=(.int .u64),size:=1,bytes:=8,zero:=(.int .u64 0),sh:=shInt .u64}
def ty52 :Ty:={und:=(.tuple #[9,9,4]),size:=1,bytes:=0,zero:=(.tuple #[(.string ByteArray.empty),(.string ByteArray.empty),(.bool false)]),sh:=zdw1 shStr shStr zae}
def ty56 :Ty:={und:=(.interface #[("Error",78)]),size:=1,bytes:=16,zero:=.nilIface,sh:=zai}
def ty57 :Ty:={und:=(.tuple #[3,56]),size:=1,bytes:=0,zero:=(.tuple #[(.int .i64 0),.nilIface]),sh:=zie (shInt .i64) zai}
def ty60 :Ty:={und:=(.tuple #[9,4]),size:=1,bytes:=0,zero:=(.tuple #[(.string ByteArray.empty),(.bool false)]),sh:=zie shStr zae}
def ty62 :Ty:={und:=(.tuple #[51,56]),size:=1,bytes:=0,zero:=(.tuple #[(.int .u64 0),.nilIface]),sh:=zie (shInt .u64) zai}
def ty64 :Ty:={und:=(.tuple #[48,56]),size:=1,bytes:=0,zero:=(.tuple #[(.float .f64 0),.nilIface]),sh:=zie (shFlt .f64) zai}
def ty67 :Ty:={und:=(.int .u64),size:=1,bytes:=8,zero:=(.int .u64 0),sh:=shInt .u64}
def ty69 :Ty:={und:=(.tuple #[51,3,4]),size:=1,bytes:=0,zero:=(.tuple #[(.int .u64 0),(.int .i64 0),(.bool false)]),sh:=zdw1 (shInt .u64) (shInt .i64) zae}
def ty73 :Ty:={und:=(.pointer 76),size:=1,bytes:=8,zero:=(.pointer none),sh:=shPtr}
def ty74 :Ty:={und:=(.slice 5),size:=1,bytes:=24,zero:=(.slice none 0 0),sh:=shSl}
def ty76 :Ty:={und:=(.struct #[{name:= "addr",type:=73,offset:=0,embedded:=false,tag:= "",pkgPath:= "strings",byteOffset:=0},{name:= "buf",type:=74,offset:=1,embedded:=false,tag:= "",pkgPath:= "strings",byteOffset:=8}]),size:=2,bytes:=32,zero:=(.agg #[(.pointer none),(.slice none 0 0)]),sh:=zgd1}
def ty80 :Ty:={und:=(.pointer 82),size:=1,bytes:=8,zero:=(.pointer none),sh:=shPtr}
def ty82 :Ty:={und:=(.struct #[{name:= "s",type:=9,offset:=0,embedded:=false,tag:= "",pkgPath:= "firebreak/asm",byteOffset:=0},{name:= "at",type:=3,offset:=1,embedded:=false,tag:= "",pkgPath:= "firebreak/asm",byteOffset:=16},{name:= "e",type:=25,offset:=2,embedded:=false,tag:= "",pkgPath:= "firebreak/asm",byteOffset:=24},{name:= "in",type:=3,offset:=3,embedded:=false,tag:= "",pkgPath:= "firebreak/asm",byteOffset:=32}]),size:=4,bytes:=40,zero:=(.agg #[(.string ByteArray.empty),(.int .i64 0),(.int .i64 0),(.int .i64 0)]),sh:=zqd1}
def ty85 :Ty:={und:=(.tuple #[44,25,3]),size:=1,bytes:=0,zero:=(.tuple #[(.agg #[(.int .i64 0),(.int .i64 0),(.int .i64 0),(.int .i64 0),(.int .i64 0)]),(.int .i64 0),(.int .i64 0)]),sh:=zdw1 sh_api_Ins (shInt .i64) (shInt .i64)}
def ty92 :Ty:={und:=(.tuple #[51,3]),size:=1,bytes:=0,zero:=(.tuple #[(.int .u64 0),(.int .i64 0)]),sh:=zie (shInt .u64) (shInt .i64)}
def ty96 :Ty:={und:=(.tuple #[4,4,4,4]),size:=1,bytes:=0,zero:=(.tuple #[(.bool false),(.bool false),(.bool false),(.bool false)]),sh:=zsd1 zae zae zae zae}
def ty99 :Ty:={und:=(.pointer 5),size:=1,bytes:=8,zero:=(.pointer none),sh:=shPtr}
def ty102 :Ty:={und:=(.tuple #[3,4]),size:=1,bytes:=0,zero:=(.tuple #[(.int .i64 0),(.bool false)]),sh:=zie (shInt .i64) zae}
def ty107 :Ty:={und:=(.array 3 4),size:=3,bytes:=3,zero:=(.agg #[(.bool false),(.bool false),(.bool false)]),sh:=zdb2}
def ty108 :Ty:={und:=(.array 3 3),size:=3,bytes:=24,zero:=(.agg #[(.int .i64 0),(.int .i64 0),(.int .i64 0)]),sh:=zhf2}
def ty109 :Ty:={und:=(.tuple #[9,3,3,4]),size:=1,bytes:=0,zero:=(.tuple #[(.string ByteArray.empty),(.int .i64 0),(.int .i64 0),(.bool false)]),sh:=zsd1 shStr (shInt .i64) (shInt .i64) zae}
def ty114 :Ty:={und:=(.tuple #[67,67]),size:=1,bytes:=0,zero:=(.tuple #[(.int .u64 0),(.int .u64 0)]),sh:=zie (shInt .u64) (shInt .u64)}
def ty120 :Ty:={und:=(.float .f32),size:=1,bytes:=4,zero:=(.float .f32 0),sh:=shFlt .f32}
def ty122 :Ty:={und:=(.int .i64),size:=1,bytes:=8,zero:=(.int .i64 0),sh:=shInt .i64}
def ty123 :Ty:={und:=(.tuple #[2,56]),size:=1,bytes:=0,zero:=(.tuple #[(.int .i64 0),.nilIface]),sh:=zie (shInt .i64) zai}
def ty125 :Ty:={und:=(.pointer 169),size:=1,bytes:=8,zero:=(.pointer none),sh:=shPtr}
def ty132 :Ty:={und:=(.tuple #[48,3,56]),size:=1,bytes:=0,zero:=(.tuple #[(.float .f64 0),(.int .i64 0),.nilIface]),sh:=zdw1 (shFlt .f64) (shInt .i64) zai}
def ty135 :Ty:={und:=.unsafePointer,size:=1,bytes:=8,zero:=(.pointer none),sh:=zai}
def ty137 :Ty:={und:=(.array 34 9),size:=34,bytes:=544,zero:=(.agg (List.toArray (List.replicate 34 (.string ByteArray.empty)))),sh:=zhh1 34}
def ty140 :Ty:={und:=(.tuple #[9,3,4]),size:=1,bytes:=0,zero:=(.tuple #[(.string ByteArray.empty),(.int .i64 0),(.bool false)]),sh:=zdw1 shStr (shInt .i64) zae}
def ty142 :Ty:={und:=(.func #[9] #[2,4] false),size:=1,bytes:=8,zero:=.nilFunc,sh:=shFn}
def ty143 :Ty:={und:=(.tuple #[2,4]),size:=1,bytes:=0,zero:=(.tuple #[(.int .i64 0),(.bool false)]),sh:=zie (shInt .i64) zae}
def ty144 :Ty:={und:=(.array 24 5),size:=24,bytes:=24,zero:=(.agg (List.toArray (List.replicate 24 (.int .u8 0)))),sh:=ztb1}
def ty146 :Ty:={und:=(.tuple #[74,9]),size:=1,bytes:=0,zero:=(.tuple #[(.slice none 0 0),(.string ByteArray.empty)]),sh:=zie shSl shStr}
def ty148 :Ty:={und:=(.int .u32),size:=1,bytes:=4,zero:=(.int .u32 0),sh:=shInt .u32}
def ty149 :Ty:={und:=(.tuple #[148,148]),size:=1,bytes:=0,zero:=(.tuple #[(.int .u32 0),(.int .u32 0)]),sh:=zie (shInt .u32) (shInt .u32)}
def ty151 :Ty:={und:=(.tuple #[51,51]),size:=1,bytes:=0,zero:=(.tuple #[(.int .u64 0),(.int .u64 0)]),sh:=zie (shInt .u64) (shInt .u64)}
def ty158 :Ty:={und:=(.array 32 5),size:=32,bytes:=32,zero:=(.agg (List.toArray (List.replicate 32 (.int .u8 0)))),sh:=ztc1}
def ty159 :Ty:={und:=(.tuple #[3,3]),size:=1,bytes:=0,zero:=(.tuple #[(.int .i64 0),(.int .i64 0)]),sh:=zie (shInt .i64) (shInt .i64)}
def ty162 :Ty:={und:=(.pointer 165),size:=1,bytes:=8,zero:=(.pointer none),sh:=shPtr}
def ty163 :Ty:={und:=(.array 800 5),size:=800,bytes:=800,zero:=(.agg (List.toArray (List.replicate 800 (.int .u8 0)))),sh:=zhh1 800}
def ty165 :Ty:={und:=(.struct #[{name:= "d",type:=163,offset:=0,embedded:=false,tag:= "",pkgPath:= "internal/strconv",byteOffset:=0},{name:= "nd",type:=3,offset:=800,embedded:=false,tag:= "",pkgPath:= "internal/strconv",byteOffset:=800},{name:= "dp",type:=3,offset:=801,embedded:=false,tag:= "",pkgPath:= "internal/strconv",byteOffset:=808},{name:= "neg",type:=4,offset:=802,embedded:=false,tag:= "",pkgPath:= "internal/strconv",byteOffset:=816},{name:= "trunc",type:=4,offset:=803,embedded:=false,tag:= "",pkgPath:= "internal/strconv",byteOffset:=817}]),size:=804,bytes:=824,zero:=(.agg (List.toArray (List.replicate 800 (.int .u8 0)++ [(.int .i64 0),(.int .i64 0),(.bool false),(.bool false)]))),sh:=zhh1 804}
def ty169 :Ty:={und:=(.struct #[fldT "Func" 9 0 0,fldT "Num" 9 1 16,fldT "Err" 56 2 32]),size:=3,bytes:=48,zero:=(.agg #[(.string ByteArray.empty),(.string ByteArray.empty),.nilIface]),sh:=zep1}
def ty172 :Ty:={und:=(.slice 148),size:=1,bytes:=24,zero:=(.slice none 0 0),sh:=shSl}
def ty178 :Ty:={und:=(.tuple #[120,3,56]),size:=1,bytes:=0,zero:=(.tuple #[(.float .f32 0),(.int .i64 0),.nilIface]),sh:=zdw1 (shFlt .f32) (shInt .i64) zai}
def ty182 :Ty:={und:=(.array 20 51),size:=20,bytes:=160,zero:=(.agg (List.toArray (List.replicate 20 (.int .u64 0)))),sh:=zqe1}
def ty183 :Ty:={und:=(.array 65 5),size:=65,bytes:=65,zero:=(.agg (List.toArray (List.replicate 65 (.int .u8 0)))),sh:=zhh1 65}
def ty191 :Ty:={und:=(.struct #[{name:= "pmHi",type:=51,offset:=0,embedded:=false,tag:= "",pkgPath:= "internal/strconv",byteOffset:=0},{name:= "pmLo",type:=51,offset:=1,embedded:=false,tag:= "",pkgPath:= "internal/strconv",byteOffset:=8},{name:= "s",type:=3,offset:=2,embedded:=false,tag:= "",pkgPath:= "internal/strconv",byteOffset:=16}]),size:=3,bytes:=24,zero:=(.agg #[(.int .u64 0),(.int .u64 0),(.int .i64 0)]),sh:=zus}
def ty193 :Ty:={und:=(.pointer 191),size:=1,bytes:=8,zero:=(.pointer none),sh:=shPtr}
def ty194 :Ty:={und:=(.int .u64),size:=1,bytes:=8,zero:=(.int .u64 0),sh:=shInt .u64}
def ty202 :Ty:={und:=(.pointer 204),size:=1,bytes:=8,zero:=(.pointer none),sh:=shPtr}
def ty204 :Ty:={und:=(.struct #[{name:= "s",type:=9,offset:=0,embedded:=false,tag:= "",pkgPath:= "errors",byteOffset:=0}]),size:=1,bytes:=16,zero:=(.agg #[(.string ByteArray.empty)]),sh:=zbo1}
def ty206 :Ty:={und:=(.tuple #[48,3,4]),size:=1,bytes:=0,zero:=(.tuple #[(.float .f64 0),(.int .i64 0),(.bool false)]),sh:=zdw1 (shFlt .f64) (shInt .i64) zae}
def ty208 :Ty:={und:=(.tuple #[51,3,4,4,4,3,4]),size:=1,bytes:=0,zero:=(.tuple #[(.int .u64 0),(.int .i64 0),(.bool false),(.bool false),(.bool false),(.int .i64 0),(.bool false)]),sh:=zfe2 (shInt .u64) (shInt .i64) zae zae zae (shInt .i64) zae}
def ty211 :Ty:={und:=(.pointer 213),size:=1,bytes:=8,zero:=(.pointer none),sh:=shPtr}
def ty213 :Ty:={und:=(.struct #[{name:= "mantbits",type:=67,offset:=0,embedded:=false,tag:= "",pkgPath:= "internal/strconv",byteOffset:=0},{name:= "expbits",type:=67,offset:=1,embedded:=false,tag:= "",pkgPath:= "internal/strconv",byteOffset:=8},{name:= "bias",type:=3,offset:=2,embedded:=false,tag:= "",pkgPath:= "internal/strconv",byteOffset:=16}]),size:=3,bytes:=24,zero:=(.agg #[(.int .u64 0),(.int .u64 0),(.int .i64 0)]),sh:=zrv}
def ty216 :Ty:={und:=(.tuple #[120,4]),size:=1,bytes:=0,zero:=(.tuple #[(.float .f32 0),(.bool false)]),sh:=zie (shFlt .f32) zae}
def ty218 :Ty:={und:=(.tuple #[120,56]),size:=1,bytes:=0,zero:=(.tuple #[(.float .f32 0),.nilIface]),sh:=zie (shFlt .f32) zai}
def ty220 :Ty:={und:=(.tuple #[51,4]),size:=1,bytes:=0,zero:=(.tuple #[(.int .u64 0),(.bool false)]),sh:=zie (shInt .u64) zae}
def ty223 :Ty:={und:=(.tuple #[48,4]),size:=1,bytes:=0,zero:=(.tuple #[(.float .f64 0),(.bool false)]),sh:=zie (shFlt .f64) zae}
def ty228 :Ty:={und:=(.struct #[{name:= "hi",type:=51,offset:=0,embedded:=false,tag:= "",pkgPath:= "internal/strconv",byteOffset:=0},{name:= "lo",type:=51,offset:=1,embedded:=false,tag:= "",pkgPath:= "internal/strconv",byteOffset:=8}]),size:=2,bytes:=16,zero:=(.agg #[(.int .u64 0),(.int .u64 0)]),sh:=zut}
def ty229 :Ty:={und:=(.array 696 228),size:=1392,bytes:=11136,zero:=(.agg (List.toArray (List.replicate 1392 (.int .u64 0)))),sh:=zhh1 1392}
def ty232 :Ty:={und:=(.struct #[{name:= "delta",type:=3,offset:=0,embedded:=false,tag:= "",pkgPath:= "internal/strconv",byteOffset:=0},{name:= "cutoff",type:=9,offset:=1,embedded:=false,tag:= "",pkgPath:= "internal/strconv",byteOffset:=8}]),size:=2,bytes:=24,zero:=(.agg #[(.int .i64 0),(.string ByteArray.empty)]),sh:=zrw}
def ty233 :Ty:={und:=(.slice 232),size:=1,bytes:=24,zero:=(.slice none 0 0),sh:=shSl}
def ty237 :Ty:={und:=(.slice 120),size:=1,bytes:=24,zero:=(.slice none 0 0),sh:=shSl}
def ty239 :Ty:={und:=(.slice 3),size:=1,bytes:=24,zero:=(.slice none 0 0),sh:=shSl}
def ty240 :Ty:={und:=(.slice 48),size:=1,bytes:=24,zero:=(.slice none 0 0),sh:=shSl}
def ty242 :Ty:={und:=(.array 64 5),size:=64,bytes:=64,zero:=(.agg (List.toArray (List.replicate 64 (.int .u8 0)))),sh:=zhh1 64}
def tyRows :List (List (Option Ty)):=[[some ty0,none,some ty2,some ty3,some ty4,some ty5,none,none,none,some ty9,none,none,some ty12,none,none,none],
 [none,none,none,none,some ty20,some ty21,some ty22,some ty23,none,some ty25,some ty26,none,none,none,none,some ty31],
 [none,some ty33,none,none,some ty36,none,none,some ty39,some ty40,none,none,none,some ty44,none,none,none],
 [some ty48,none,none,some ty51,some ty52,none,none,none,some ty56,some ty57,none,none,some ty60,none,some ty62,none],
 [some ty64,none,none,some ty67,none,some ty69,none,none,none,some ty73,some ty74,none,some ty76,none,none,none],
 [some ty80,none,some ty82,none,none,some ty85,none,none,none,none,none,none,some ty92,none,none,none],
 [some ty96,none,none,some ty99,none,none,some ty102,none,none,none,none,some ty107,some ty108,some ty109,none,none],
 [none,none,some ty114,none,none,none,none,none,some ty120,none,some ty122,some ty123,none,some ty125,none,none],
 [none,none,none,none,some ty132,none,none,some ty135,none,some ty137,none,none,some ty140,none,some ty142,some ty143],
 [some ty144,none,some ty146,none,some ty148,some ty149,none,some ty151,none,none,none,none,none,none,some ty158,some ty159],
 [none,none,some ty162,some ty163,none,some ty165,none,none,none,some ty169,none,none,some ty172,none,none,none],
 [none,none,some ty178,none,none,none,some ty182,some ty183,none,none,none,none,none,none,none,some ty191],
 [none,some ty193,some ty194,none,none,none,none,none,none,none,some ty202,none,some ty204,none,some ty206,none],
 [some ty208,none,none,some ty211,none,some ty213,none,none,some ty216,none,some ty218,none,some ty220,none,none,some ty223],
 [none,none,none,none,some ty228,some ty229,none,none,some ty232,some ty233,none,none,none,some ty237,none,some ty239],
 [some ty240,none,some ty242]]
def tyAt (t:Nat):Option Ty:=match nth tyRows (t / 16) with
 | some r=>match nth r (t%16) with
  | some e=>e
  | none=>none
 | none=>none
def fnRows :List (List Bool):=[[false,false,true,true,true,true,true,true,true,true,true,true,true,true,true,true],
 [true,true,true,true,true,true,true,true,true,true,true,true,true,true,true,true],
 [true,true,true,true,true,false,true,true,true,true,true,true,true,true,true,true],
 [true,true,true,true,false,true,true,true,true,true,true,true,true,true,true,true],
 [true,true,true,true,true,true,true,true,true,true,true,true,true,true,true,false],
 [true,true,true,true,true,true,true,true,true,true,true,true,true,true,true,true],
 [true,true,true,true,true,true,true,true,true,true,true,true,true,true,true,true],
 [false,true,true,true,true,true,true,true,true,true,true,true,true,true,true,true],
 [true,true,true,true,false,true,true,false,false,true,true,true,true,true,true,true],
 [true,true,true,true,true,true,true,true,true,true,true,true,true,true,true,true],
 [true,true,true,true,false,false,true,true,true,true,true,true,true,true,true,true],
 [true,true,true,true,true,true,true,true,true,true,true,true,true,true,false,true],
 [true,true,true,true,false,true,true,true,true,true,true,true,true,true,true,true],
 [true,false,false,false,false,false,false,false,false,false,false,false,false,false,false,false],
 [false,false,false,false,false,false,false,false,false,false,false,false,false,false,false,false],
 [false,false,false,false,false,false,false,false,true]]
def fnAt (g:Nat):Bool:=match nth fnRows (g / 16) with
 | some r=>match nth r (g%16) with
  | some e=>e
  | none=>false
 | none=>false
def extAt (g:Nat):Option (Array Value->Sem Value):=cond (Nat.beq g 37) (some Extern.MathFloatBits.float64bits) (cond (Nat.beq g 52) (some Extern.MathFloatBits.float64frombits) (cond (Nat.beq g 112) (some Extern.AbiNoEscape.same) (cond (Nat.beq g 135) (some Extern.MathFloatBits.float32bits) (cond (Nat.beq g 136) (some Extern.MathFloatBits.float64bits) (cond (Nat.beq g 165) (some Extern.BytealgIndexByte.indexByte) (cond (Nat.beq g 190) (some Extern.MathFloatBits.float32frombits) (cond (Nat.beq g 196) (some Extern.MathFloatBits.float64frombits) (none))))))))
def tb :Tb:={ty:=tyAt,call:=fnAt,ext:=extAt}
abbrev zvr :Nat:=7
abbrev zvs :Nat:=10
abbrev zqf :Nat:=11
abbrev zgo :Nat:=12
abbrev zeq1 :Nat:=13
abbrev zke :Nat:=14
abbrev zkf :Nat:=16
abbrev zpx :Nat:=17
abbrev zud :Nat:=18
abbrev znk :Nat:=20
abbrev zgp :Nat:=21
abbrev zce :Nat:=22
abbrev zhn1 :Nat:=23
abbrev zis1 :Nat:=24
abbrev zlc1 :Nat:=26
abbrev zge1 :Nat:=27
abbrev zmc :Nat:=28
abbrev zre :Nat:=29
abbrev zvt :Nat:=30
abbrev zvu :Nat:=31
abbrev zsm :Nat:=32
abbrev zrf :Nat:=33
abbrev zjk :Nat:=34
abbrev znl :Nat:=35
abbrev zmm :Nat:=36
abbrev zpy :Nat:=38
abbrev zgq :Nat:=39
abbrev zii :Nat:=40
abbrev zbw :Nat:=42
abbrev zgf1 :Nat:=43
abbrev zew :Nat:=44
abbrev zbp1 :Nat:=47
abbrev zac1 :Nat:=48
abbrev zav :Nat:=49
abbrev zhf :Nat:=50
abbrev zbq1 :Nat:=51
abbrev zsn :Nat:=53
abbrev zad1 :Nat:=54
abbrev zgz :Nat:=55
abbrev zjg :Nat:=56
abbrev zjl :Nat:=57
abbrev zcz :Nat:=58
abbrev zos :Nat:=59
abbrev zjm :Nat:=60
abbrev zdk :Nat:=61
abbrev zdo :Nat:=62
abbrev zfm :Nat:=63
abbrev zfb :Nat:=64
abbrev zem :Nat:=65
abbrev zle :Nat:=68
abbrev zho1 :Nat:=69
abbrev zot :Nat:=70
abbrev zmt :Nat:=71
abbrev zit1 :Nat:=72
abbrev zoe1 :Nat:=73
abbrev zrg :Nat:=75
abbrev zjn :Nat:=76
abbrev zqf1 :Nat:=81
abbrev zhg :Nat:=82
abbrev zue :Nat:=83
abbrev zlf :Nat:=84
abbrev zdw :Nat:=85
abbrev zei :Nat:=86
abbrev zij :Nat:=87
abbrev zou :Nat:=88
abbrev zgg1 :Nat:=89
abbrev zjx :Nat:=90
abbrev zld1 :Nat:=91
abbrev zgf :Nat:=92
abbrev zaf1 :Nat:=93
abbrev zlg :Nat:=94
abbrev zks :Nat:=95
abbrev zvv :Nat:=96
abbrev zmu :Nat:=97
abbrev zlh :Nat:=98
abbrev zfn :Nat:=103
abbrev zso :Nat:=104
abbrev zkg :Nat:=105
abbrev zhv :Nat:=106
abbrev zaf :Nat:=107
abbrev zea :Nat:=108
abbrev zcw :Nat:=109
abbrev zdx :Nat:=110
abbrev zex :Nat:=111
abbrev zgh1 :Nat:=113
abbrev zbr1 :Nat:=114
abbrev zvm :Nat:=115
abbrev zyu :Nat:=116
abbrev zeb :Nat:=117
abbrev zec1 :Nat:=118
abbrev zkt :Nat:=120
abbrev zyv :Nat:=121
abbrev zle1 :Nat:=122
abbrev zjo :Nat:=123
abbrev zik :Nat:=124
abbrev zca :Nat:=125
abbrev zbk :Nat:=126
abbrev zct :Nat:=127
abbrev zmd :Nat:=129
abbrev zdp :Nat:=131
abbrev zuu :Nat:=133
abbrev zkz :Nat:=134
abbrev zyw :Nat:=137
abbrev zyx :Nat:=138
abbrev zcn :Nat:=139
abbrev zil :Nat:=140
abbrev zdb :Nat:=142
abbrev zbf :Nat:=143
abbrev zoc :Nat:=144
abbrev zov :Nat:=145
abbrev zar :Nat:=146
abbrev zdq :Nat:=147
abbrev zcj :Nat:=148
abbrev zgg :Nat:=151
abbrev zby :Nat:=152
abbrev zen :Nat:=153
abbrev zcc :Nat:=154
abbrev zli :Nat:=155
abbrev zcm :Nat:=156
abbrev zvw :Nat:=157
abbrev zhn :Nat:=158
abbrev zow :Nat:=160
abbrev zfo :Nat:=161
abbrev zim :Nat:=162
abbrev zmv :Nat:=163
abbrev zmw :Nat:=169
abbrev zdl :Nat:=170
abbrev zfp :Nat:=171
abbrev zbx :Nat:=172
abbrev zde :Nat:=173
abbrev zhh :Nat:=174
abbrev zgw :Nat:=175
abbrev zdf :Nat:=176
abbrev znx :Nat:=177
abbrev zfq :Nat:=179
abbrev zdc :Nat:=180
abbrev zcu :Nat:=181
abbrev zhw :Nat:=182
abbrev zhi :Nat:=185
abbrev zha :Nat:=186
abbrev zfr :Nat:=187
abbrev zhb :Nat:=188
abbrev zeo :Nat:=193
abbrev zbo :Nat:=194
abbrev zcg :Nat:=195
abbrev zep :Nat:=197
abbrev zch :Nat:=198
abbrev zlj :Nat:=200
abbrev zgh :Nat:=202
abbrev zbp :Nat:=203
abbrev zpz :Nat:=204
abbrev zqa :Nat:=205
abbrev zdy :Nat:=207
abbrev zho :Nat:=208
end Lf
