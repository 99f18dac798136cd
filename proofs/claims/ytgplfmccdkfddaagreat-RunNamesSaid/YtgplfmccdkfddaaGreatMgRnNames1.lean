/-
  Part 2 of the texts that the claim leans on.
-/
import Derived.ScopeJumps
import Derived.Test.YtgplfmccdkfddaaGreatMgRnNames0
set_option maxRecDepth 100000
namespace Lf
open Go
theorem condP {b:Bool} {p:Prop} (h:cond b p False):b=true/\p:=by
  grind
theorem zvy1 {C:Ctx} {m:Nat->Bool} {L:List Oper} {s:St} {h:Hp}:∀ {ws:List Nat},zub C m L s h ws->∀ {j:Nat} {p:Oper} {ch:Chain},j∈ws->L[j]? =some p->zev L L.length p=some ch->Again C m p ch s h
  | [],_,_,_,_,hj,_,_=>by cases hj
  | r::ws,ha,j,p,ch,hj,hp,hc=>by
    obtain ⟨h1,h2⟩:=ha
    rcases List.mem_cons.1 hj with rfl | hj
    · rw [zda,hp] at h1
      grind
    · exact zvy1 h2 hj hp hc
theorem zif2 {C:Ctx} {m:Nat->Bool} {p:Oper} {ch:Chain} {s:St} {h:Hp} (ha:Again C m p ch s h):∃d,p.dst=some d:=by
  cases hd:p.dst with
  | some d=>simp
  | none=>
    unfold Again at ha
    grind
section
variable {C:Ctx} {L:List Oper} {mok:List Nat} {n:Nat} {lv0:Nat->Prop} {β0:Nat->Nat} {a0:Act} {h0:Hp} {w0:World} {done ls:List Nat} {listed:Array Bool} {β:Nat->Nat} {s:St} {a:Act} {h:Hp} {w:World}
theorem zmc2 (hnd:(modsO L).Nodup) {i:Nat} {o:Oper} (hi:L[i]? =some o) (hid:i∉done) (t:Nat):CurP L (i::done) (i::ls) t↔(o.dst=some t\/CurP L done ls t):=by
  constructor
  · intro hc
    by_cases ht:o.dst=some t
    · exact .inl ht
    · exact .inr fun j p h1 h2 h3=>hc j p (List.mem_cons_of_mem _ h1) (fun e=>by
        grind) h3
  · rintro (ht | hc) j p h1 h2 h3
    · intro e
      exact h2 (by rw [zld hnd h3 hi e ht];simp)
    · rcases List.mem_cons.1 h1 with e | h1
      · grind
      · exact hc j p h1 (fun e=>h2 (List.mem_cons_of_mem _ e)) h3
theorem zck2 (hnd:(modsO L).Nodup) {i:Nat} {o:Oper} (hi:L[i]? =some o) (hid:i∉done) (k:Nat):LivP C L (i::done) (i::ls) k↔(privA C.priv o k\/LivP C L done ls k):=by
  constructor
  · rintro ⟨h1,h2⟩
    by_cases hp:privA C.priv o k
    · exact .inl hp
    · exact .inr ⟨fun j p e1 e2 e3=>h1 j p (List.mem_cons_of_mem _ e1) (fun e=>by
        grind) e3,fun e=>h2 ((zrj hnd hi hid k).2 ⟨hp,e⟩)⟩
  · rintro (hp | ⟨h1,h2⟩)
    · exact ⟨fun j p e1 e2 e3 e4=>e2 (by rw [zld hnd e3 hi e4.2 hp.2];simp),fun e=>((zrj hnd hi hid k).1 e).1 hp⟩
    · refine ⟨fun j p e1 e2 e3=> ?_,fun e=>h2 ((zrj hnd hi hid k).1 e).2⟩
      grind
theorem zem2 (ok:C.tb.Ok C.P) (hnd:(modsO L).Nodup) (hs:Sim C L mok n lv0 β0 a0 h0 w0 done ls listed β s a h w) {i:Nat} {o:Oper} (hi:L[i]? =some o) (hid:i∉done) (hah:∀j∈zce (aheads L []) i,j∈ls)
    {ws:List Nat} (hwatch:(isVal C.tb o=true\/zam C.priv o=true)\/∀j p,j∈done->L[j]? =some p->isVal C.tb p=true->zjn1 C.tb p=true->j∈ws\/j∈zce (aheads L []) i)
    {l:List Nat} {β':Nat->Nat} {s':St} {a':Act} {h':Hp} {w':World} (out:OpOut C l mok n (CurP L done ls) (LivP C L done ls) (DnP L done) (NnP C L done) o β s a h w β' s' a' h' w')
    (hag:zub C (chg o s) L s' h' ws) {j:Nat} {p:Oper} (hjd:j∈done) (hjl:j∉ls) (hj:L[j]? =some p):
    PFact C L p s' h'/\looksOk L (aheads L []) j p=true/\isWar (aheads L []) j p L 0=false/\∀d,privA C.priv p d->d∈mok:=by
  obtain ⟨⟨ch,hch,hg,hpf⟩,hlk,hrest⟩:=hs.facts j p hjd hjl hj
  refine ⟨?_,hlk,hrest⟩
  have k:Like (DnP L done) p s s':=zcj2 hnd hs hi hid out.f hj hjd fun t ht e=>by
    rcases zek2 hlk ht hi e with h1 | h1 | h1
    · exact hid (closD hs hj hjd h1)
    · exact hid (h1▸hjd)
    grind
  have hD:=zzb1 hs hj (hs.dclos j p hj hjd) hlk hch hg
  have hdD:∀d,p.dst=some d->DnP L done d:=fun d e=>⟨j,p,hjd,hj,e⟩
  have hmr:∀t,Operand.tmp t∈p.op.operands->∀b off c,(s.f t=some (.box b off,c)\/s.f t=some (.boxd b off,c))->holds s c->s'.m b=s.m b\/(chg o s b=true/\isVal C.tb o=false):=by
    intro t ht b off c hfb hh
    rcases out.m b with e | e | e
    · exact .inl e
    · exfalso
      have hN:NnP C L done b:=⟨i,o,hid,hi,e⟩
      rcases hfb with hfb | hfb
      · exact (hs.rr.nref b hN t _ c hfb hh off).1 rfl
      · exact (hs.rr.nref b hN t _ c hfb hh off).2 rfl
    grind
  refine ⟨ch,hch,by rw [zri k hD];exact hg,?_⟩
  rcases hpf with ⟨hval,hrd,lv,hl,hrun,hprov,hsh⟩ | ⟨rfl,hval,d,cs,hpa,hfd,hmd',hrun⟩
  · have hsh':LdSh C.tb p ch s' lv:=fun hkd=>hsh (by rw [<-k.kind (s':=s')];exact hkd)
    refine .inl ⟨hval,by rw [k.kind];exact hrd,lv,fun d e=>by rw [k.dn d (hdD d e)];exact hl d e,fun hh'=> ?_,k.prov hprov,hsh'⟩
    have hh:=(k.holds' hD).1 hh'
    have hr:=hrun hh
    have hkk:kindD C.tb p ch s'=kindD C.tb p ch s:=k.kind
    rw [hkk]
    by_cases hpure:kindD C.tb p ch s=.pure
    · rw [hpure] at hr ⊢
      exact ztb k (fun e=>absurd rfl e) (fun e=>by cases e) hr
    · have hread:=hrd.resolve_right hpure
      rcases hwatch with hvp | hwatch
      · have hns:∀b,¬(chg o s b=true/\isVal C.tb o=false):=by
          rintro b ⟨e1,e2⟩
          rcases hvp with e | e
          · grind
          · unfold chg at e1
            unfold zam at e
            grind
        have hhh:h'=h:=by
          rcases hvp with e | e
          · exact out.hv e
          · exact out.hp e
        exact ztb k (fun _ t ht b off c hfb hc=>(hmr t ht b off c hfb hc).resolve_right (hns b)) (fun _=>hhh) hr
      · have hws:j∈ws:=(hwatch j p hjd hj hval hread).resolve_right fun e=>hjl (hah j e)
        have ha:=zvy1 hag hws hj hch
        obtain ⟨d,hd⟩:=zif2 ha
        rcases zza1 rfl ok ha hd ⟨ch,by rw [k.dn d (hdD d hd)];exact hl d hd⟩ hh' hsh' with h1 | ⟨h1,h2⟩ | ⟨h1,h2⟩
        · rw [hkk] at h1
          exact absurd h1 hpure
        · rw [hkk] at h1
          rw [h1] at hr ⊢
          exact ztb k (fun _ t ht b off c hfb hc=>(hmr t ht b off c hfb hc).resolve_right fun e=>by rw [h2 t b off c ht (by rw [k.op t ht];exact hfb)] at e;cases e.1) (fun e=>by cases e) hr
        grind
  · refine .inr ⟨rfl,hval,d,cs,hpa,by rw [k.dn d (hdD d hpa.2)];exact hfd,?_,zgx1 k hrun⟩
    rcases out.m d with e | e | e
    · rw [e];exact hmd'
    · exact absurd hjd (by rw [zld hnd hj hi hpa.2 e.2];exact hid)
    · exact absurd hpa (e.2.2.2.1 j p hjd hjl hj)
theorem zmd2 (ok:C.tb.Ok C.P) {ops:Array Oper} (hops:ops.toList=L) (hnd:(modsO L).Nodup) (hlt:∀d∈modsO L,d<n) (hs:Sim C L mok n lv0 β0 a0 h0 w0 done ls listed β s a h w) {i:Nat} {o:Oper} (hi:L[i]? =some o) (hid:i∉done)
    (hw:∀k∈waits o,k∈ls) (hlk:looksOk L (aheads L []) i o=true) {ws:List Nat}
    (hwatch:(isVal C.tb o=true\/zam C.priv o=true)\/∀j p,j∈done->L[j]? =some p->isVal C.tb p=true->zjn1 C.tb p=true->j∈ws\/j∈zce (aheads L []) i)
    {K:St->Hp->Prop} (hK:∀s1 h1,K s1 h1->zub C (chg o s) L s1 h1 ws) (hv:opW C L mok o s h K) (next:Act->World->Prop) (Q:Exit->Act->World->Prop)
    (hn:∀s' h' β' a' w',K s' h'->Sim C L mok n lv0 β0 a0 h0 w0 (i::done) (i::ls) (listed.setIfInBounds i true) β' s' a' h' w'->next a' w'):wpOp C.P ops Q i next a w:=by
  have hah:∀j∈zce (aheads L []) i,j∈ls:=fun j hj=>zil hj (· ∈ls) hs.clos (fun o' ho'=>by grind)
  have hilt:i<L.length:=(List.getElem?_eq_some_iff.1 hi).1
  have hmem:=List.mem_of_getElem? hi
  refine zhy2 (l:=modsO L) ok (by grind) (by rw [hops];exact hv) hs.rr (fun t ht j p h1 h2 h3 h4=> ?_) (fun j b p d e1 e2 e3=> ?_) (fun d e=>⟨hlt d (zju hmem e),?_,zju hmem e⟩) (fun d hp=> ?_) next Q fun s' h' β' a' w' hk out=> ?_
  · have:=zme1 h4 (hs.facts j p h1 h2 h3).2.2.1 i o hi ht
    grind
  · rw [hops,zda] at e2
    have hjl:=hah _ (zcv1 hlk e1)
    refine ⟨fun j' p' h1 h2 h3 h4=> ?_,j,p,hs.lsub j hjl,e2,e3⟩
    have:=zld hnd h3 e2 h4 e3
    grind
  · rintro ⟨j,p,h1,h2,h3⟩
    exact hid (by rw [<-zld hnd h2 hi h3 e];exact h1)
  · have hN:NnP C L done d:=⟨i,o,hid,hi,hp⟩
    exact ⟨hN,fun e=>e.2 hN⟩
  · refine hn s' h' β' a' w' hk ⟨by simpa using hs.lsz,fun j=>zqs1 hs.lsz hilt hs.lst,List.nodup_cons.2 ⟨fun e=>hid (hs.lsub i e),hs.lnd⟩,fun j hj=> ?_,fun j hj=> ?_,?_,?_,
      ⟨fun o' ho'=>by rw [zld1 hi ho'];exact fun k hk=>hs.lsub k (hw k hk),hs.topo⟩,out.rr.congr (fun t=>zmc2 hnd hi hid t) (fun k=>zck2 hnd hi hid k) zle1 (fun k e=>(zrj hnd hi hid k).1 e),fun j p h1 h2 h3=> ?_,
      hs.seg.trans (out.seg.mono (fun _ e=>e) (fun _ e=>e) (fun _ e=>e) (fun k e=>⟨e.1,(zck2 hnd hi hid k).1 e.2⟩))⟩
    · rcases List.mem_cons.1 hj with rfl | hj
      · simp
      · exact List.mem_cons_of_mem _ (hs.lsub j hj)
    · rcases List.mem_cons.1 hj with rfl | hj
      · exact hilt
      · exact hs.dlt j hj
    · intro j p hj hjm k hk'
      rcases List.mem_cons.1 hjm with rfl | hjm
      · grind
      · exact List.mem_cons_of_mem _ (hs.clos j p hj hjm k hk')
    · intro j p hj hjm k hk'
      rcases List.mem_cons.1 hjm with rfl | hjm
      · rw [zld1 hi hj] at hk'
        exact List.mem_cons_of_mem _ (hs.lsub k (hw k hk'))
      · exact List.mem_cons_of_mem _ (hs.dclos j p hj hjm k hk')
    · have hne:j≠i:=fun e=>h2 (e▸List.mem_cons_self ..)
      exact zem2 ok hnd hs hi hid hah hwatch out (hK _ _ hk) ((List.mem_cons.1 h1).resolve_left hne) (fun e=>h2 (List.mem_cons_of_mem _ e)) h3
theorem zle {ops:Array Oper} (hops:ops.toList=L) (hs:Sim C L mok n lv0 β0 a0 h0 w0 done ls listed β s a h w) {j:Nat}:
    j∈Region.ready .any ops listed↔j∉ls/\∃o,L[j]? =some o/\∀k∈waits o,k∈ls:=by
  rw [mem_ready]
  have hget:∀j:Nat,ops[j]? =L[j]?:=fun j=>by grind
  constructor
  · rintro ⟨h1,o,ho,h2⟩
    rw [hget] at ho
    refine ⟨fun e=> ?_,o,ho,fun k hk=> ?_⟩
    · have hlt:j<listed.size:=by rw [hs.lsz];exact (List.getElem?_eq_some_iff.1 ho).1
      have:=(hs.lst j).2 e
      grind
    · obtain ⟨e,he,rfl,hb⟩:=zie2 hk
      exact (hs.lst _).1 (h2 e he hb)
  · rintro ⟨h1,o,ho,h2⟩
    refine ⟨?_,o,by grind,fun e he hb=>(hs.lst _).2 (h2 _ (zhz2 he hb))⟩
    have hlt:j<listed.size:=by rw [hs.lsz];exact (List.getElem?_eq_some_iff.1 ho).1
    cases e:listed.getD j true with
    | false=>rfl
    | true=>
      refine absurd ((hs.lst j).1 ?_) h1
      grind
theorem zpm {tb:Tb} {priv:List Nat}:∀ {r:List (Nat×List Nat)} {done:List Nat} {last:Option Nat} {dE:List Nat} {lE:Option Nat},planGo tb priv L (aheads L []) r done last=true->znz tb priv L (aheads L []) r done last=(dE,lE)->
    (∀x,x∈dE↔x∈done\/x∈r.map (·.1))/\(done.Nodup->dE.Nodup)/\(∀e,last=some e->∃e',lE=some e'/\(e'=e\/Ahead L e' e))
  | [],done,last,dE,lE,_,he=>by
    cases he
    grind
  | (i,ws)::r,done,last,dE,lE,h,he=>by
    obtain ⟨o,ho,_,_,hid,hlast,hc⟩:=zpl h
    have key:∀l',planGo tb priv L (aheads L []) r (i::done) l'=true->znz tb priv L (aheads L []) r (i::done) l'=(dE,lE)->(l'=last\/l'=some i)->
        (∀x,x∈dE↔x∈done\/x∈((i,ws)::r).map (·.1))/\(done.Nodup->dE.Nodup)/\(∀e,last=some e->∃e',lE=some e'/\(e'=e\/Ahead L e' e)):=by
      intro l' h1 h2 hl
      obtain ⟨g1,g2,g3⟩:=zpm h1 h2
      refine ⟨fun x=> ?_,fun hn=>g2 (List.nodup_cons.2 ⟨hid,hn⟩),fun e he'=> ?_⟩
      · rw [g1,List.mem_cons,List.map_cons,List.mem_cons]
        constructor
        · rintro ((h | h) | h)
          · exact .inr (.inl h)
          · exact .inl h
          · exact .inr (.inr h)
        · rintro (h | h | h)
          · exact .inl (.inr h)
          · exact .inl (.inl h)
          · exact .inr h
      · rcases hl with rfl | rfl
        · exact g3 e he'
        · obtain ⟨e',e1,e2⟩:=g3 i rfl
          have hie:=zil (hlast e he')
          refine ⟨e',e1,.inr ?_⟩
          rcases e2 with rfl | e2
          · exact hie
          · intro X hX hw
            exact hie X hX fun o' ho' k hk=>hX i o' ho' (e2 X hX hw) k hk
    simp only [znz,zda,ho] at he
    grind
theorem zcl2 (ok:C.tb.Ok C.P) {ops:Array Oper} (hops:ops.toList=L) (hnd:(modsO L).Nodup) (hlt:∀d∈modsO L,d<n) {K0:St->Hp->Prop} {Q:Exit->Act->World->Prop} {dE:List Nat} {lE:Option Nat}
    (hLt:∀j,j<L.length->j∉dE->∀e,lE=some e->Ahead L j e)
    (fin:∀(fuel:Nat) (ls:List Nat) (listed:Array Bool) (β:Nat->Nat) (s:St) (a:Act) (h:Hp) (w:World),Sim C L mok n lv0 β0 a0 h0 w0 dE ls listed β s a h w->K0 s h->L.length<=fuel+ls.length->wpAny C.P .any ops Q fuel listed a w):
    ∀(fuel:Nat) (r:List (Nat×List Nat)) (done ls:List Nat) (listed:Array Bool) (last:Option Nat) (β:Nat->Nat) (s:St) (a:Act) (h:Hp) (w:World),
      Sim C L mok n lv0 β0 a0 h0 w0 done ls listed β s a h w->planGo C.tb C.priv L (aheads L []) r done last=true->znz C.tb C.priv L (aheads L []) r done last=(dE,lE)->ordW C L mok r s h K0->
      L.length<=fuel+ls.length->wpAny C.P .any ops Q fuel listed a w:=by
  intro fuel
  induction fuel with
  | zero=>
    intro r done ls listed last β s a h w hs hp he hv hf
    have hall:∀j,j<L.length->j∈ls:=fun j hj=>zcg2 hs.lnd (fun x hx=>hs.dlt x (hs.lsub x hx)) (by omega) hj
    cases r with
    | nil=>cases he;exact fin 0 ls listed β s a h w hs hv hf
    | cons x r=>
      obtain ⟨i,ws⟩:=x
      obtain ⟨o,ho,_,_,hid,_⟩:=zpl hp
      exact absurd (hs.lsub i (hall i (List.getElem?_eq_some_iff.1 ho).1)) hid
  | succ fuel ih=>
    intro r
    induction r with
    | nil=>
      intro done ls listed last β s a h w hs hp he hv hf
      cases he
      exact fin (fuel+1) ls listed β s a h w hs hv hf
    | cons x r ihr=>
      intro done ls listed last β s a h w hs hp he hv hf
      obtain ⟨i,ws⟩:=x
      obtain ⟨o,ho,hw,hlk,hid,hlast,hc⟩:=zpl hp
      obtain ⟨hmem,_,_⟩:=zpm hp he
      simp only [ordW,zda,ho] at hv
      obtain ⟨hkd,hv'⟩:=condP hv
      have rest:planGo C.tb C.priv L (aheads L []) r (i::done) (some i)=true->znz C.tb C.priv L (aheads L []) r (i::done) (some i)=(dE,lE)->
          ((isVal C.tb o=true\/zam C.priv o=true)\/∀j p,j∈done->L[j]? =some p->isVal C.tb p=true->zjn1 C.tb p=true->j∈ws\/j∈zce (aheads L []) i)->wpAny C.P .any ops Q (fuel+1) listed a w:=by
        intro hp' he' hwatch
        have hAll:∀s1 h1,(match (generalizing:=false) ws with
          | []=>ordW C L mok r s1 h1 K0
          | ws=>zub C (chg o s) L s1 h1 ws/\ordW C L mok r s1 h1 K0)->zub C (chg o s) L s1 h1 ws/\ordW C L mok r s1 h1 K0:=by
          intro s1 h1 e
          cases ws with
          | nil=>exact ⟨trivial,e⟩
          | cons x ws=>exact e
        refine ⟨fun hr=> ?_,fun j hj=> ?_⟩
        · exfalso
          by_cases hx:∃j∈done,j∉ls
          · obtain ⟨j,h1,h2,h3⟩:=zal1 hs.topo hx
            have hi:=List.getElem?_eq_getElem (hs.dlt j h1)
            have:j∈Region.ready .any ops listed:=(zle hops hs).2 ⟨h2,_,hi,h3 _ hi⟩
            grind
          · have:i∈Region.ready .any ops listed:=(zle hops hs).2 ⟨fun e=>hid (hs.lsub i e),o,ho,fun k hk=>Classical.byContradiction fun e=>hx ⟨k,hw k hk,e⟩⟩
            grind
        · obtain ⟨h1,p,hp2,h2⟩:=(zle hops hs).1 hj
          by_cases hjd:j∈done
          · exact zmi1 ok hops hnd hs hp2 hjd h1 h2 _ Q fun β' a' w' hs'=>ih ((i,ws)::r) done (j::ls) _ last β' s a' h w' hs' hp he (by
              simp only [ordW,zda,ho]
              omega) (by simp;omega)
          · by_cases hji:j=i
            · subst hji
              rw [ho] at hp2;cases hp2
              exact zmd2 ok hops hnd hlt hs ho hid h2 hlk hwatch (fun s h e=>(hAll s h e).1) hv' _ Q fun s' h' β' a' w' hk hs'=>ih r (j::done) (j::ls) _ (some j) β' s' a' h' w' hs' hp' he' (hAll _ _ hk).2 (by simp;omega)
            · exfalso
              have hjl:=(List.getElem?_eq_some_iff.1 hp2).1
              have hah:Ahead L j i:=by
                by_cases hjr:j∈r.map (·.1)
                · exact zqq1 hp' j hjr
                · have hjE:j∉dE:=fun h=>by
                    grind
                  obtain ⟨_,_,g3⟩:=zpm hp' he'
                  obtain ⟨e',e1,e2⟩:=g3 i rfl
                  have h1:=hLt j hjl hjE e' e1
                  rcases e2 with rfl | e2
                  · exact h1
                  · intro X hX hw
                    exact e2 X hX fun o' ho' k hk=>hX e' o' ho' (h1 X hX hw) k hk
              have:=hah (· ∈ls) hs.clos fun o' ho'=>by grind
              exact hid (hs.lsub i this)
      simp only [znz,zda,ho] at he
      rcases hc with ⟨hvp,hwar,hp'⟩ | ⟨hvp,hwar,hp'⟩ | ⟨hv1,hv2,hwt,hp'⟩
      · obtain ⟨s',hk,hs'⟩:=zmb2 ok hnd hlt hs ho hid hw hlk hwar hvp hkd hv'
        grind
      · grind
      · exact rest hp' (by grind) (.inr fun j p hjd hj hv1 hr1=>zmf1 hwt j hjd p hj hv1 hr1)
theorem zcm2 {tb:Tb} {priv:List Nat} {rows:List (List Nat)}:∀ {r:List (Nat×List Nat)} {done:List Nat} {last:Option Nat},planGo tb priv L rows r done last=true->
    (r.map (·.1)).Nodup/\∀j∈r.map (·.1),j∉done/\j<L.length
  | [],_,_,_=>⟨.nil,fun j hj=>(nomatch hj)⟩
  | (i,ws)::r,done,last,h=>by
    obtain ⟨o,ho,_,_,hid,_,hc⟩:=zpl h
    have main:∀last',planGo tb priv L rows r (i::done) last'=true->_:=fun last' h'=>zcm2 h'
    grind
theorem zqu1 {priv:List Nat} {k:Nat}:∀ {L:List Oper},k∈zba priv L↔∃(i:Nat) (o:Oper),L[i]? =some o/\privA priv o k
  | []=>by simp [zba]
  | o::L=>by
    have ih:=zqu1 (priv:=priv) (k:=k) (L:=L)
    have key:(∃(i:Nat) (p:Oper),(o::L)[i]? =some p/\privA priv p k)↔(privA priv o k\/∃(i:Nat) (p:Oper),L[i]? =some p/\privA priv p k):=by
      constructor
      · grind
      · rintro (h | ⟨i,p,h1,h2⟩)
        · exact ⟨0,o,by simp,h⟩
        · exact ⟨i+1,p,by simpa using h1,h2⟩
    rw [key,<-ih]
    by_cases hp:∃d,privA priv o d
    · obtain ⟨d,hp⟩:=hp
      rw [zrh hp,List.mem_cons]
      refine or_congr ⟨fun e=>e▸hp,fun e=> ?_⟩ .rfl
      have:=e.2
      rw [hp.2] at this;cases this;rfl
    · rw [zct1 fun d e=>hp ⟨d,e⟩]
      grind
end
theorem zuk :∀(l:List Oper) (j i k:Nat),(addE l j i)[k]? =(l[k]?).map fun o=>if k=j then {o with after:=⟨app o.after.toList [⟨i,.data⟩]⟩} else o
  | [],_,_,k=>by simp [addE]
  | o::r,0,i,0=>by simp [addE]
  | o::r,0,i,k+1=>by simp [addE]
  | o::r,j+1,i,0=>by simp [addE]
  | o::r,j+1,i,k+1=>by simp [addE,zuk r j i k]
theorem zam1 :∀(l:List Oper) (j i:Nat),(addE l j i).length=l.length
  | [],_,_=>rfl
  | _::_,0,_=>rfl
  | o::r,j+1,i=>by simp [addE,zam1 r j i]
theorem zns :∀(l:List Oper) (j i:Nat),modsO (addE l j i)=modsO l
  | [],_,_=>rfl
  | _::_,0,_=>rfl
  | o::r,j+1,i=>by simp only [addE,modsO,zns r j i]
section
variable {P:Program} {Q:Exit->Act->World->Prop} {ops ops':Array Oper} {i j:Nat}
theorem zmk1 (he:ops'.toList=addE ops.toList j i) {k:Nat} {K:Act->World->Prop} {a:Act} {w:World} (h:wpOp P ops' Q k K a w):wpOp P ops Q k K a w:=by
  have hget:∀k:Nat,ops'[k]? =(ops[k]?).map fun o=>if k=j then {o with after:=⟨app o.after.toList [⟨i,.data⟩]⟩} else o:=fun k=>by
    rw [<-Array.getElem?_toList,he,zuk,Array.getElem?_toList]
  have hy:∀tm,yielded ops' tm=yielded ops tm:=fun tm=>by
    funext q
    unfold yielded
    grind
  unfold wpOp at*
  rw [hget] at h
  cases ho:ops[k]? with
  | none=>grind
  | some o=>
    rw [ho] at h
    simp only [Option.map_some,hy] at h
    by_cases e:k=j
    · rw [if_pos e] at h;exact h
    grind
theorem ztc (he:ops'.toList=addE ops.toList j i) {k:Nat} {listed:Array Bool}:(k∈Region.ready .any ops' listed->k∈Region.ready .any ops listed)/\(k∈Region.ready .any ops listed->(k≠j\/listed.getD i false=true)->k∈Region.ready .any ops' listed):=by
  have hget:∀k:Nat,ops'[k]? =(ops[k]?).map fun o=>if k=j then {o with after:=⟨app o.after.toList [⟨i,.data⟩]⟩} else o:=fun k=>by
    rw [<-Array.getElem?_toList,he,zuk,Array.getElem?_toList]
  simp only [mem_ready,hget]
  constructor
  · rintro ⟨h0,o',ho,h1⟩
    refine ⟨h0,?_⟩
    cases e:ops[k]? with
    | none=>grind
    | some o=>
      rw [e] at ho
      refine ⟨o,rfl,fun x hx=>h1 x ?_⟩
      simp at ho
      subst ho
      split
      · rw [zjo1];grind
      · exact hx
  · rintro ⟨h0,o,ho,h1⟩ hk
    refine ⟨h0,_,by rw [ho];rfl,fun x hx hb=> ?_⟩
    dsimp only at hx
    by_cases e:k=j
    · rw [if_pos e] at hx
      have hx:x∈(⟨app o.after.toList [⟨i,.data⟩]⟩:Array Edge):=hx
      rw [zjo1] at hx
      simp at hx
      rcases hx with hx | hx
      · exact h1 x (by simpa using hx) hb
      · subst hx
        exact hk.resolve_left fun h=>h e
    grind
theorem zvz1 (he:ops'.toList=addE ops.toList j i):∀(fuel:Nat) (listed:Array Bool) (a:Act) (w:World),listed.getD i false=true->wpAny P .any ops' Q fuel listed a w->wpAny P .any ops Q fuel listed a w:=by
  have hr:∀listed:Array Bool,listed.getD i false=true->Region.ready .any ops listed=[]->Region.ready .any ops' listed=[]:=fun listed hi h0=>by
    refine List.eq_nil_iff_forall_not_mem.2 fun k hk=> ?_
    have:=(ztc he).1 hk
    grind
  have hr':∀listed:Array Bool,listed.getD i false=true->Region.ready .any ops' listed=[]->Region.ready .any ops listed=[]:=fun listed hi h0=>by
    refine List.eq_nil_iff_forall_not_mem.2 fun k hk=> ?_
    have:=(ztc he).2 hk (.inr hi)
    grind
  intro fuel
  induction fuel with
  | zero=>exact fun listed a w hi h=>⟨hr' listed hi h.1,h.2⟩
  | succ fuel ih=>
    intro listed a w hi h
    refine ⟨fun h0=>h.1 (hr listed hi h0),fun k hk=> ?_⟩
    exact wpOp_mono (fun a w h=>ih _ a w (getD_set_true hi) h) (zmk1 he (h.2 k ((ztc he).2 hk (.inr hi))))
end
section
variable {C:Ctx} {L:List Oper} {mok:List Nat} {n:Nat} {lv0:Nat->Prop} {β0:Nat->Nat} {a0:Act} {h0:Hp} {w0:World} {done ls:List Nat} {listed:Array Bool} {β:Nat->Nat} {s:St} {a:Act} {h:Hp} {w:World} {i j:Nat}
theorem zig2 {k:Nat} (hk:k≠j):(addE L j i)[k]? =L[k]?:=by
  rw [zuk]
  grind
theorem zih2 (k:Nat) {o:Oper}:(addE L j i)[k]? =some o->∃p,L[k]? =some p/\o.dst=p.dst/\o.op=p.op/\o.guard=p.guard:=by
  rw [zuk]
  grind
theorem addE_like' (k:Nat) {p:Oper} (h:L[k]? =some p):∃o,(addE L j i)[k]? =some o/\o.dst=p.dst/\o.op=p.op/\o.guard=p.guard:=by
  rw [zuk,h]
  grind
theorem zqv1 :∀(m:Nat) (o:Oper),zev (addE L j i) m o=zev L m o
  | 0,_=>rfl
  | m+1,o=>by
    unfold zev
    cases o.guard with
    | none=>rfl
    | some g=>
      obtain ⟨q,b⟩:=g
      dsimp only
      rw [zda,zda]
      cases e:L[q]? with
      | none=>
        have:(addE L j i)[q]? =none:=by rw [zuk,e];rfl
        rw [this]
      | some p=>
        obtain ⟨p',e1,e2,_,e4⟩:=addE_like' (i:=i) (j:=j) q e
        rw [e1]
        dsimp only
        have:∀m,zev L m p'=zev L m p:=fun m=>by cases m<;>simp [zev,e4]
        rw [zqv1 m p',this,e2]
theorem zqw1 {priv:List Nat} {o p:Oper} (h1:o.dst=p.dst) (h2:o.op=p.op) (k:Nat):privA priv o k↔privA priv p k:=by
  unfold privA zam
  rw [h1,h2]
theorem zcn2 {L0:List Oper} {rows0 rows:List (List Nat)}:∀ {done:List Nat},zqh1 L0 rows0 L rows done=true->∀k∈done,∀o,L[k]? =some o->isWar rows0 k o L0 0=false->looksOk L rows k o=true/\isWar rows k o L 0=false
  | [],_,k,hk,_,_,_=>by cases hk
  | q::r,h,k,hk,o,ho,hw=>by
    unfold zqh1 at h
    obtain ⟨h1,h2⟩:=condT h
    rcases List.mem_cons.1 hk with rfl | hk
    · rw [zda,ho] at h1
      grind
    · exact zcn2 h2 k hk o ho hw
theorem zzc1 {rows:List (List Nat)} {i:Nat} {done:List Nat}:∀ {m:Nat},zqg1 rows i done m=true->∀k,k<m->k∉done->k≠i->i∈zce rows k
  | 0,_,k,hk,_,_=>by omega
  | m+1,h,k,hk,hd,hi=>by
    unfold zqg1 at h
    obtain ⟨h1,h2⟩:=condT h
    by_cases e:k=m
    · subst e
      have e1:has done k=false:=by
        cases e:has done k with
        | false=>rfl
        | true=>exact absurd ((zhw _ _).1 e) hd
      have e2:Nat.beq k i=false:=by
        cases e:Nat.beq k i with
        | false=>rfl
        | true=>exact absurd (Nat.eq_of_beq_eq_true e) hi
      rw [e1,e2] at h1
      exact (zhw _ _).1 h1
    · exact zzc1 h2 k (by omega) hd hi
theorem zii2 (hs:Sim C L mok n lv0 β0 a0 h0 w0 done ls listed β s a h w) (hj:j∉done) (hk:zqh1 L (aheads L []) (addE L j i) (aheads (addE L j i) []) done=true):
    Sim C (addE L j i) mok n lv0 β0 a0 h0 w0 done ls listed β s a h w:=by
  have hne:∀q,q∈done->(addE L j i)[q]? =L[q]?:=fun q hq=>zig2 fun e=>hj (e▸hq)
  have hcur:CurP (addE L j i) done ls=CurP L done ls:=funext fun t=>propext ⟨fun h q o h1 h2 h3=>h q o h1 h2 ((hne q h1).trans h3),fun h q o h1 h2 h3=>h q o h1 h2 ((hne q h1).symm.trans h3)⟩
  have hdn:DnP (addE L j i) done=DnP L done:=funext fun t=>propext ⟨fun ⟨q,o,h1,h2,h3⟩=>⟨q,o,h1,(hne q h1).symm.trans h2,h3⟩,fun ⟨q,o,h1,h2,h3⟩=>⟨q,o,h1,(hne q h1).trans h2,h3⟩⟩
  have hnn:NnP C (addE L j i) done=NnP C L done:=funext fun t=>propext ⟨fun ⟨q,o,h1,h2,h3⟩=>by
      obtain ⟨p,e1,e2,e3,_⟩:=zih2 q h2
      exact ⟨q,p,h1,e1,(zqw1 e2 e3 t).1 h3⟩,fun ⟨q,o,h1,h2,h3⟩=>by
      obtain ⟨p,e1,e2,e3,_⟩:=addE_like' (i:=i) (j:=j) q h2
      exact ⟨q,p,h1,e1,(zqw1 e2 e3 t).2 h3⟩⟩
  have hlv:LivP C (addE L j i) done ls=LivP C L done ls:=funext fun t=>propext (by
    unfold LivP
    rw [hnn]
    grind)
  have hcl:∀X:List Nat,(∀q∈X,q∈done)->Clos L (· ∈X)->Clos (addE L j i) (· ∈X):=fun X hX hc q o ho hq=>hc q o ((hne q (hX q hq)).symm.trans ho) hq
  have htp:∀d:List Nat,(∀q∈d,q∈done)->Topo L d->Topo (addE L j i) d:=by
    intro d
    induction d with
    | nil=>intro _ _;trivial
    | cons q d ih=>
      intro hd ht
      exact ⟨fun o ho=>ht.1 o ((hne q (hd q (List.mem_cons_self ..))).symm.trans ho),ih (fun x hx=>hd x (List.mem_cons_of_mem _ hx)) ht.2⟩
  refine ⟨by rw [zam1];exact hs.lsz,hs.lst,hs.lnd,hs.lsub,fun q hq=>by rw [zam1];exact hs.dlt q hq,hcl ls hs.lsub hs.clos,hcl done (fun _ h=>h) hs.dclos,htp done (fun _ h=>h) hs.topo,?_,fun q o h1 h2 h3=> ?_,?_⟩
  · rw [hcur,hlv,hdn,hnn];exact hs.rr
  · have h3':=(hne q h1).symm.trans h3
    obtain ⟨f1,f2,f3,f4⟩:=hs.facts q o h1 h2 h3'
    obtain ⟨g1,g2⟩:=zcn2 hk q h1 o h3 f3
    refine ⟨?_,g1,g2,f4⟩
    unfold PFact at*
    rw [zam1,zqv1]
    exact f1
  · rw [zns,hlv];exact hs.seg
end
theorem zij2 {l m:List Nat} (hm:m.Nodup) (hl:l.Nodup) (hs:∀x∈l,x∈m):l.length<=m.length:=by
  induction l generalizing m with
  | nil=>simp
  | cons a l ih=>
    obtain ⟨h1,h2⟩:=List.nodup_cons.1 hl
    have ha:=hs a (List.mem_cons_self ..)
    have:=ih (m:=m.erase a) (hm.erase a) h2 fun x hx=>(hm.mem_erase_iff).2 ⟨fun e=>h1 (e▸hx),hs x (List.mem_cons_of_mem _ hx)⟩
    grind
theorem zik2 {C:Ctx} {L:List Oper} {mok:List Nat} {n:Nat} {lv0:Nat->Prop} {β0:Nat->Nat} {a0:Act} {h0:Hp} {w0:World} {K:St->Hp->Prop} {Q:Exit->Act->World->Prop} {done ls:List Nat} {listed:Array Bool} {β:Nat->Nat} {s:St} {a:Act} {h:Hp} {w:World}
    (hs:Sim C L mok n lv0 β0 a0 h0 w0 done ls listed β s a h w) (hall:∀j,j<L.length->j∈done) (hdl:∀j∈done,j∈ls) (hk:K s h)
    (hQ:∀s' h' β' a' w',K s' h'->RR n (fun _=>True) (fun _=>True) (fun _=>True) (fun _=>False) β' s' a' h' w'->Seg (modsO L) mok lv0 β0 a0 h0 w0 (lives s') β' a' h' w'->Q .normal a' w'):Q .normal a w:=by
  have hN:∀k,¬NnP C L done k:=fun k ⟨j,p,h1,h2,_⟩=>h1 (hall j (List.getElem?_eq_some_iff.1 h2).1)
  have hL:∀k,True↔LivP C L done ls k:=fun k=>⟨fun _=>⟨fun j p h1 h2 _=>absurd (hdl j h1) h2,hN k⟩,fun _=>trivial⟩
  exact hQ s h β a w hk (hs.rr.congr (fun t=>⟨fun _ j p h1 h2 _=>absurd (hdl j h1) h2,fun _=>trivial⟩) hL (fun _ _=>trivial) (fun _ e=>e.elim)) (hs.seg.mono (fun _ e=>e) (fun _ e=>e) (fun _ e=>e) (fun k e=>⟨e.1,(hL k).1 trivial⟩))
theorem zen2 {C:Ctx} (ok:C.tb.Ok C.P) {mok:List Nat} {n:Nat} {lv0:Nat->Prop} {β0:Nat->Nat} {a0:Act} {h0:Hp} {w0:World} {K:St->Hp->Prop} {Q:Exit->Act->World->Prop}:
    ∀(A:Ann) (ops:Array Oper) (done:List Nat) (last:Option Nat),(modsO ops.toList).Nodup->(∀d∈modsO ops.toList,d<n)->planT C.tb C.priv A ops.toList done last=true->done.Nodup->
    (∀s' h' β' a' w',K s' h'->RR n (fun _=>True) (fun _=>True) (fun _=>True) (fun _=>False) β' s' a' h' w'->Seg (modsO ops.toList) mok lv0 β0 a0 h0 w0 (lives s') β' a' h' w'->Q .normal a' w')->
    ∀(fuel:Nat) (ls:List Nat) (listed:Array Bool) (β:Nat->Nat) (s:St) (a:Act) (h:Hp) (w:World),Sim C ops.toList mok n lv0 β0 a0 h0 w0 done ls listed β s a h w->regW C mok K A ops.toList s h->ops.toList.length<=fuel+ls.length->
      wpAny C.P .any ops Q fuel listed a w:=by
  intro A
  induction A with
  | rg ord=>
    intro ops done last hnd hlt hp hdn hQ fuel ls listed β s a h w hs hv hf
    unfold planT at hp
    obtain ⟨hlen,hp⟩:=condT hp
    have hlen:=Nat.eq_of_beq_eq_true hlen
    have hall:∀dE lE,znz C.tb C.priv ops.toList (aheads ops.toList []) ord done last=(dE,lE)->∀j,j<ops.toList.length->j∈dE:=fun dE lE he j hj=>by
      obtain ⟨m1,m2,_⟩:=zpm hp he
      have hidx:=zcm2 hp
      refine zcg2 (m2 hdn) (fun x hx=> ?_) ?_ hj
      · rcases (m1 x).1 hx with h1 | h1
        · exact hs.dlt x h1
        grind
      · have h1:(done++ord.map (·.1)).Nodup:=List.nodup_append.2 ⟨hdn,hidx.1,fun x hx y hy e=>(hidx.2 y hy).1 (e▸hx)⟩
        have h2:=zij2 (m2 hdn) h1 fun x hx=>by rw [List.mem_append] at hx;exact (m1 x).2 hx
        grind
    cases he:znz C.tb C.priv ops.toList (aheads ops.toList []) ord done last with
    | mk dE lE=>
      have hall:=hall dE lE he
      refine zcl2 (mok:=mok) (K0:=K) ok rfl hnd hlt (dE:=dE) (lE:=lE) (fun j hj hn=>absurd (hall j hj) hn) ?_ fuel ord done ls listed last β s a h w hs hp he hv hf
      clear hs hv hf
      intro fuel
      induction fuel with
      | zero=>
        intro ls listed β s a h w hs hv hf
        have hl:∀j,j<ops.toList.length->j∈ls:=fun j hj=>zcg2 hs.lnd (fun x hx=>hs.dlt x (hs.lsub x hx)) (by omega) hj
        refine ⟨List.eq_nil_iff_forall_not_mem.2 fun k hk=> ?_,zik2 hs hall (fun j hj=>hl j (hs.dlt j hj)) hv hQ⟩
        obtain ⟨h1,o,ho,_⟩:=(zle rfl hs).1 hk
        grind
      | succ fuel ih=>
        intro ls listed β s a h w hs hv hf
        refine ⟨fun hr=>zik2 hs hall (fun j hj=>Classical.byContradiction fun e=> ?_) hv hQ,fun j hj=> ?_⟩
        · obtain ⟨i,h1,h2,h3⟩:=zal1 hs.topo ⟨j,hj,e⟩
          have hi:=List.getElem?_eq_getElem (hs.dlt i h1)
          have:i∈Region.ready .any ops listed:=(zle rfl hs).2 ⟨h2,_,hi,h3 _ hi⟩
          grind
        · obtain ⟨h1,o,ho,h2⟩:=(zle rfl hs).1 hj
          exact zmi1 ok rfl hnd hs ho (hall j (List.getElem?_eq_some_iff.1 ho).1) h1 h2 _ Q fun β' a' w' hs'=>ih (j::ls) _ β' s a' h w' hs' hv (by grind)
  | r2 pre i j x y ihx ihy=>
    intro ops done last hnd hlt hp hdn hQ fuel ls listed β s a h w hs hv hf
    unfold planT at hp
    obtain ⟨hpre,hp⟩:=condT hp
    cases he:znz C.tb C.priv ops.toList (aheads ops.toList []) pre done last with
    | mk dE lE=>
      rw [he] at hp
      dsimp only at hp
      obtain ⟨hno,hp⟩:=condT hp
      obtain ⟨hpx,hpy⟩:=condT hp
      obtain ⟨m1,m2,_⟩:=zpm hpre he
      unfold zpe2 at hno
      cases hij:Nat.beq i j with
      | true=>grind
      | false=>
        rw [hij] at hno
        have hij:i≠j:=fun e=>by rw [e] at hij;simp at hij
        simp only [cond_false,zda] at hno
        cases hoi:ops.toList[i]? with
        | none=>grind
        | some o=>
          cases hoj:ops.toList[j]? with
          | none=>grind
          | some p=>
            rw [hoi,hoj] at hno
            dsimp only at hno
            cases hdi:has dE i with
            | true=>grind
            | false=>
              cases hdj:has dE j with
              | true=>grind
              | false=>
                rw [hdi,hdj] at hno
                simp only [cond_false] at hno
                have hdi:=zlb hdi
                have hdj:=zlb hdj
                obtain ⟨hwi,hno⟩:=condT hno
                obtain ⟨hwj,hno⟩:=condT hno
                obtain ⟨hla,hno⟩:=condT hno
                obtain ⟨ha1,hno⟩:=condT hno
                obtain ⟨ha2,hno⟩:=condT hno
                obtain ⟨hk1,hk2⟩:=condT hno
                refine zcl2 (mok:=mok) ok rfl hnd hlt (dE:=dE) (lE:=lE) (fun k hk hn e hle=> ?_) ?_ fuel pre done ls listed last β s a h w hs hpre he hv hf
                · subst hle
                  by_cases hke:k=e
                  · subst hke
                    exact absurd ((zhw _ _).1 (condT hla).1) hn
                  · exact zil (zzc1 (condT hla).2 k hk hn hke)
                · clear hs hv hf
                  have hil:i<ops.toList.length:=(List.getElem?_eq_some_iff.1 hoi).1
                  intro fuel
                  induction fuel with
                  | zero=>
                    intro ls listed β s a h w hs hv hf
                    exact absurd (hs.lsub i (zcg2 hs.lnd (fun x hx=>hs.dlt x (hs.lsub x hx)) (by omega) hil)) hdi
                  | succ fuel ih=>
                    intro ls listed β s a h w hs hv hf
                    have s1:=zii2 hs hdj hk1
                    have s2:=zii2 hs hdi hk2
                    have kx:=ihx (addE ops.toList j i).toArray dE lE (by simpa [zns] using hnd) (by simpa [zns] using hlt) hpx (m2 hdn) (by simpa [zns] using hQ) (fuel+1) ls listed β s a h w s1 hv.1 (by simpa [zam1] using hf)
                    have ky:=ihy (addE ops.toList i j).toArray dE lE (by simpa [zns] using hnd) (by simpa [zns] using hlt) hpy (m2 hdn) (by simpa [zns] using hQ) (fuel+1) ls listed β s a h w s2 hv.2 (by simpa [zam1] using hf)
                    have hset:∀ {k:Nat},k∈Region.ready .any ops listed->(listed.setIfInBounds k true).getD k false=true:=fun {k} hk=>by
                      have h0:=(mem_ready.1 hk).1
                      have hlt:k<listed.size:=by
                        grind
                      simp [hlt]
                    refine ⟨fun hr=> ?_,fun k hk=> ?_⟩
                    · exfalso
                      by_cases hx:∃j∈dE,j∉ls
                      · obtain ⟨q,h1,h2,h3⟩:=zal1 hs.topo hx
                        have hi:=List.getElem?_eq_getElem (hs.dlt q h1)
                        have:q∈Region.ready .any ops listed:=(zle rfl hs).2 ⟨h2,_,hi,h3 _ hi⟩
                        grind
                      · have:i∈Region.ready .any ops listed:=(zle rfl hs).2 ⟨fun e=>hdi (hs.lsub i e),o,hoi,fun k hk=>Classical.byContradiction fun e=>hx ⟨k,zta hwi k hk,e⟩⟩
                        grind
                    · obtain ⟨h1,q,hq,h2⟩:=(zle rfl hs).1 hk
                      by_cases hkd:k∈dE
                      · exact zmi1 ok rfl hnd hs hq hkd h1 h2 _ Q fun β' a' w' hs'=>ih (k::ls) _ β' s a' h w' hs' hv (by grind)
                      · by_cases hki:k=i
                        · subst hki
                          exact wpOp_mono (fun a w h=>zvz1 rfl _ _ a w (hset hk) h) (zmk1 rfl (kx.2 k ((ztc rfl).2 hk (.inl hij))))
                        · by_cases hkj:k=j
                          · subst hkj
                            exact wpOp_mono (fun a w h=>zvz1 rfl _ _ a w (hset hk) h) (zmk1 rfl (ky.2 k ((ztc rfl).2 hk (.inl fun e=>hij e.symm))))
                          · exfalso
                            have hkl:=(List.getElem?_eq_some_iff.1 hq).1
                            have hah:=zil (zzc1 ha1 k hkl hkd hki) (· ∈ls) s1.clos fun o' ho'=>by rw [zig2 hkj,hq] at ho';grind
                            exact hdi (hs.lsub i hah)
  | _=>intro ops done last _ _ hp;cases hp
theorem zil2 {C:Ctx} (ok:C.tb.Ok C.P) {ops:Array Oper} {mok:List Nat} {n:Nat} {A:Ann} {β:Nat->Nat} {s:St} {a:Act} {h:Hp} {w:World} {K:St->Hp->Prop} {Q:Exit->Act->World->Prop} {id:Nat}
    (h1:nodup (modsO ops.toList)=true) (hp:planT C.tb C.priv A ops.toList [] none=true) (hlt:∀d∈modsO ops.toList,d<n) (hr:Rel n β s a h w) (hv:regW C mok K A ops.toList (s.dropB (zba C.priv ops.toList)) h)
    (hQ:∀s' h' β' a' w',K s' h'->Rel n β' s'.clean a' h' w'->Seg (modsO ops.toList) mok (lives s) β a h w (lives s') β' a' h' w'->Q .normal a' w'):(Code.region id ops true).wp C.P Q a w:=by
  have hnd:=zew1 h1
  refine wp_region_any ok.mixed ?_
  have hst:Step h h w {w with drawn:=w.drawn+1}:=⟨hr.sub,Nat.le_refl _,fun _ _ e=>⟨rfl,e⟩,rfl,rfl,rfl⟩
  have hr0:=(hr.step hst).start (zba C.priv ops.toList)
  have hN:∀k,NnP C ops.toList [] k↔k∈zba C.priv ops.toList:=fun k=>by
    rw [zqu1]
    exact ⟨fun ⟨i,o,_,h2,h3⟩=>⟨i,o,h2,h3⟩,fun ⟨i,o,h2,h3⟩=>⟨i,o,by simp,h2,h3⟩⟩
  have hL:∀k,LivP C ops.toList [] [] k↔k∉zba C.priv ops.toList:=fun k=>by
    rw [<-hN]
    exact ⟨fun e=>e.2,fun e=>⟨fun i o h1=>absurd h1 List.not_mem_nil,e⟩⟩
  refine zen2 (mok:=mok) (n:=n) (lv0:=lives s) (β0:=β) (a0:=a) (h0:=h) (w0:=w) (K:=K) ok A ops [] none hnd hlt hp .nil (fun s' h' β' a' w' hk hr' hs'=>hQ s' h' β' a' w' hk hr'.clean hs') ops.size [] _ β (s.dropB (zba C.priv ops.toList)) a h _
    ⟨by simp,fun i=> ?_,.nil,fun i e=>absurd e List.not_mem_nil,fun i e=>absurd e List.not_mem_nil,fun i o _ e=>absurd e List.not_mem_nil,fun i o _ e=>absurd e List.not_mem_nil,trivial,?_,fun i o e=>absurd e List.not_mem_nil,?_⟩ hv (by simp)
  · by_cases hi:i<ops.size
    · simp [hi]
    · simp [hi]
  · exact hr0.congr (fun t=>⟨fun _=>trivial,fun _ i o e=>absurd e List.not_mem_nil⟩) hL (fun _ e=>e.elim) (fun k e=>(hN k).1 e)
  · exact (Seg.step (lv:=lives s) hst).mono (fun _ e=>e) (fun _ e=>e) (fun _ e=>e) (fun k e=>zvt1 (l:=zba C.priv ops.toList) ⟨e.1,(hL k).1 e.2⟩)
def exOf :Ex->Exit
  | .nrm=>.normal
  | .ret=>.ret
  | .ext i=>.exit i
  | .gto i=>.goto i
theorem zco2 {p:Nat->Prop}:(∃n,p n)->∃n,p n/\∀m,p m->n<=m:=by
  rintro ⟨n,hn⟩
  induction n using Nat.strongRecOn with
  | _ n ih=>
    grind
theorem zsl1 {P:Program} {c:Code} {Q:Exit->Act->World->Prop} {a:Act} {w:World} (J:Nat->Act->World->Prop) (h0:∃n,J n a w)
    (round:∀n a w,J n a w->c.wp P (Exit.then (fun a' w'=>∃m,m<n/\J m a' w') Q) a w):(Code.loop c).wp P Q a w:=by
  classical
  let μ:Act->World->Nat:=fun a w=>if h:∃n,J n a w then Classical.choose (zco2 h) else 0
  have hμ:∀a w,(h:∃n,J n a w)->J (μ a w) a w/\∀m,J m a w->μ a w<=m:=fun a w h=>by
    have:=Classical.choose_spec (zco2 h)
    simp only [μ,dif_pos h]
    exact this
  refine wp_loop (fun a w=>∃n,J n a w) μ h0 fun a w hJ=> ?_
  refine wp_mono (round (μ a w) a w (hμ a w hJ).1) fun e a' w' hq=> ?_
  grind
section
variable {n:Nat} {β:Nat->Nat} {s:St} {a:Act} {h:Hp} {w:World}
structure Mix (s s' s2:St) (a':Act) (n:Nat) (l mm:List Nat):Prop where
  f:∀t v c,s2.f t=some (v,c)->c=[]/\((s.f t=some (v,[])/\t∉l/\∀k o,(v=.box k o\/v=.boxd k o)->k∉l)\/(∃x,v=.v x/\a'.eval (.tmp t)=x/\t<n))
  m:∀k cs,s2.m k=some cs->(s.m k=some cs/\k∉mm)\/s'.m k=some cs
theorem zsd2 {l mm:List Nat} {β':Nat->Nat} {s' s2:St} {a':Act} {h':Hp} {w':World} (hr:Rel n β s a h w) (hs:Seg l mm (lives s) β a h w (lives s') β' a' h' w') (hr':Rel n β' s' a' h' w') (hm:Mix s s' s2 a' n l mm):
    Rel n β' s2 a' h' w'/\Seg l mm (lives s) β a h w (lives s2) β' a' h' w':=by
  have hkeep:∀k cs,s.m k=some cs->k∉mm->β' k=β k/\β k<w.heap.size/\h' (β k)=none/\∃ct,w'.heap[β k]? =some (.cells cs.toArray ct (0,0)):=by
    intro k cs e hk
    obtain ⟨h1,ct,h2⟩:=hr.box k cs e trivial
    have hne:∀k'∈mm,lives s k'->β k'≠β k:=fun k' hk' hl e'=>hk (by rw [hr.inj k k' (by simp [e]) hl.1 trivial trivial e'.symm];exact hk')
    refine ⟨hs.beta k (.inr hk),heap_lt h2,hs.unk _ (heap_lt h2) h1 hne,ct,?_⟩
    rw [hs.keep _ (heap_lt h2) h1 hne]
    exact h2
  have hnew:∀k,s'.m k≠none->(s.m k≠none/\β' k=β k)\/w.heap.size<=β' k:=fun k e=>(hs.fresh k ⟨e,trivial⟩).imp (fun e=>⟨e.1.1,e.2⟩) id
  refine ⟨⟨hr'.sz,hr'.sub,fun t v c e=> ?_,fun t v c e p hp=> ?_,fun t v c e _ _=> ?_,fun t v c e _ hh=> ?_,fun k cs e _=> ?_,fun k k' e e' _ _ he=> ?_,fun _ e=>e.elim,fun _ e=>e.elim⟩,?_⟩
  · obtain ⟨_,h1 | ⟨x,_,_,h1⟩⟩:=hm.f t v c e
    · exact hr.lt t v [] h1.1
    · exact h1
  · rw [(hm.f t v c e).1] at hp;cases hp
  · refine ⟨?_,fun _ _ _=>trivial⟩
    obtain ⟨_,⟨h1,h2,h3⟩ | ⟨x,rfl,h1,_⟩⟩:=hm.f t v c e
    · rw [hs.tmp t h2,(hr.cur t v [] h1 trivial (holds_nil _)).1]
      cases v with
      | v x=>rfl
      | box k o=>simp only [LVal,hs.beta k (.inl (h3 k o (.inl rfl)))]
      | boxd k o=>simp only [LVal,hs.beta k (.inl (h3 k o (.inr rfl)))]
    · exact h1
  · rw [(hm.f t v c e).1] at hh;exact absurd (holds_nil _) hh
  · rcases hm.m k cs e with ⟨h1,h2⟩ | h1
    · grind
    · exact hr'.box k cs h1 trivial
  · obtain ⟨cs,e⟩:=Option.ne_none_iff_exists'.1 e
    obtain ⟨cs',e'⟩:=Option.ne_none_iff_exists'.1 e'
    rcases hm.m k cs e with ⟨h1,h2⟩ | h1
    · obtain ⟨e1,e2,_⟩:=hkeep k cs h1 h2
      rcases hm.m k' cs' e' with ⟨h1',h2'⟩ | h1'
      · obtain ⟨e1',_⟩:=hkeep k' cs' h1' h2'
        rw [e1,e1'] at he
        exact hr.inj k k' (by simp [h1]) (by simp [h1']) trivial trivial he
      · rcases hnew k' (by simp [h1']) with ⟨e3,e4⟩ | e3
        · rw [e1,e4] at he
          exact hr.inj k k' (by simp [h1]) e3 trivial trivial he
        omega
    · rcases hm.m k' cs' e' with ⟨h1',h2'⟩ | h1'
      · obtain ⟨e1',e2',_⟩:=hkeep k' cs' h1' h2'
        rcases hnew k (by simp [h1]) with ⟨e3,e4⟩ | e3
        · rw [e1',e4] at he
          exact hr.inj k k' e3 (by simp [h1']) trivial trivial he
        omega
      · exact hr'.inj k k' (by simp [h1]) (by simp [h1']) trivial trivial he
  · refine ⟨hs.tmp,hs.beta,hs.size,hs.unk,hs.keep,fun k e=> ?_,hs.os,hs.tape,hs.output,hs.defers⟩
    obtain ⟨cs,e⟩:=Option.ne_none_iff_exists'.1 e.1
    rcases hm.m k cs e with ⟨h1,h2⟩ | h1
    · exact .inl ⟨⟨by simp [h1],trivial⟩,(hkeep k cs h1 h2).1⟩
    · exact hs.fresh k ⟨by simp [h1],trivial⟩
def shO :Option Ty->Shape
  | some e=>e.sh
  | none=>zrf
theorem zim2 (tb:Tb) (t:Nat):shOf tb t=shO (tb.ty t):=by
  unfold shOf shO
  grind
theorem zpv2 {P:Program} {tb:Tb} (ok:tb.Ok P) {t:Nat} (ha:zbq2 tb t=false):∀(x:(shOf tb t).T) (cs:Array Value),(shOf tb t).enc x≠ .agg cs:=by
  rw [zim2]
  unfold zbq2 at ha
  cases he:tb.ty t with
  | none=>intro x cs e;cases e
  | some e=>
    rw [he] at ha
    intro x cs
    exact ((ok.leaf t e he ha).2 x).2 cs
theorem zsm1 {tb:Tb} {t:Nat} {v:Value} {K:(shOf tb t).T->Prop} (h:decK tb t v K):∃x,(shOf tb t).enc x=v/\K x:=by
  unfold decK at h
  cases hi:isIfT tb t with
  | true=>rw [hi] at h;exact h
  | false=>
    rw [hi] at h
    simp only [cond_false] at h
    split at h
    · rename_i x hx;exact ⟨x,(shOf tb t).ok v x hx,h⟩
    · exact h.elim
theorem zcp2 {P:Program} {tb:Tb} (ok:tb.Ok P) {t:Nat} {cs:List Value} {v:Value} {x:(shOf tb t).T} (h1:zrz1 tb t cs=some v) (hv:(shOf tb t).enc x=v):zac ((shOf tb t).enc x)=cs:=by
  rw [hv]
  unfold zrz1 at h1
  cases ha:zbq2 tb t with
  | true=>
    rw [ha] at h1
    cases h1
    rfl
  | false=>
    rw [ha] at h1
    simp only [cond_false] at h1
    split at h1
    · cases h1
      have hne:∀cs,v≠ .agg cs:=fun cs e=>zpv2 ok ha x cs (hv.trans e)
      cases v<;>first | rfl | grind
    · cases h1
theorem zqx1 {P:Program} {tb:Tb} (ok:tb.Ok P) {l mm:List Nat} {β':Nat->Nat} {s' s2:St} {a':Act} {h':Hp} {w':World} (hr':Rel n β' s' a' h' w') {j:J} {K:(shOf tb j.t).T->Prop} (hg:zbr2 tb s' j K)
    (hm:Mix s s' s2 a' n l mm):∃x,K x/\Mix s s' (zvh1 tb j x s2) a' n l mm:=by
  unfold zbr2 at hg
  cases hM:j.isM with
  | true=>
    rw [hM] at hg
    simp only [cond_true] at hg
    split at hg
    · rename_i cs hcs
      split at hg
      · rename_i v hv
        · obtain ⟨x,hx,hg⟩:=zsm1 hg
          refine ⟨x,hg,?_⟩
          have hc:=zcp2 ok hv hx
          unfold zvh1
          rw [hM]
          simp only [cond_true,hc]
          refine ⟨hm.f,fun k cs' e=> ?_⟩
          by_cases hk:k=j.i
          · subst hk
            rw [zeu1] at e;grind
          · rw [zpj _ _ hk] at e
            exact hm.m k cs' e
      · exact hg.elim
    · exact hg.elim
  | false=>
    rw [hM] at hg
    simp only [cond_false] at hg
    split at hg
    · rename_i v hv
      · obtain ⟨x,hx,hg⟩:=zsm1 hg
        refine ⟨x,hg,?_⟩
        unfold zvh1
        rw [hM]
        simp only [cond_false]
        rw [hx]
        refine ⟨fun t u c e=> ?_,fun k cs e=>hm.m k cs (by rwa [put_m] at e)⟩
        by_cases ht:t=j.i
        · subst ht
          rw [zuh] at e;cases e
          exact ⟨rfl,.inr ⟨v,rfl,(hr'.cur j.i _ [] hv trivial (holds_nil _)).1,hr'.lt _ _ _ hv⟩⟩
        · rw [zmd1 _ _ _ ht] at e
          exact hm.f t u c e
    · exact hg.elim
theorem zcq2 {P:Program} {tb:Tb} (ok:tb.Ok P) {l mm:List Nat} {β':Nat->Nat} {s':St} {a':Act} {h':Hp} {w':World} (hr':Rel n β' s' a' h' w'):∀ {js:List J} {s2:St} {K:JTup tb js->Prop},getJ tb js s' K->
    Mix s s' s2 a' n l mm->∃x,K x/\Mix s s' (setJ tb js x s2) a' n l mm
  | [],s2,K,hg,hm=>⟨(),hg,hm⟩
  | [j],s2,K,hg,hm=>zqx1 ok hr' hg hm
  | j::j2::js,s2,K,hg,hm=>by
    obtain ⟨x,hx,hm'⟩:=zqx1 ok hr' hg hm
    obtain ⟨y,hy,hm2⟩:=zcq2 ok hr' (js:=j2::js) hx hm'
    exact ⟨(x,y),hy,hm2⟩
theorem zeo2 (hr:Rel n β s a h w) {l mm:List Nat} {s':St} {a':Act}:Mix s s' (s.forget l mm) a' n l mm:=by
  refine ⟨fun t v c e=> ?_,fun k cs e=> ?_⟩
  · simp only [St.forget] at e
    cases ht:has l t with
    | true=>simp [ht] at e
    | false=>
      simp only [ht,cond_false] at e
      obtain ⟨h1,h2⟩:=dropL'_some e
      have hc:c=[]:=by
        cases c with
        | nil=>rfl
        | cons p c=>exact (hr.chain t v _ h1 p (List.mem_cons_self ..)).elim
      subst hc
      exact ⟨rfl,.inl ⟨h1,zlb ht,h2⟩⟩
  · simp only [St.forget] at e
    cases hk:has mm k with
    | true=>simp [hk] at e
    | false=>
      simp only [hk,cond_false] at e
      exact .inl ⟨e,zlb hk⟩
theorem zey1 {P:Program} {tb:Tb} (ok:tb.Ok P) {l mm:List Nat} {β':Nat->Nat} {s':St} {a':Act} {h':Hp} {w':World} (hr:Rel n β s a h w) (hs:Seg l mm (lives s) β a h w (lives s') β' a' h' w') (hr':Rel n β' s' a' h' w')
    {js:List J} {K:JTup tb js->Prop} (hg:getJ tb js s' K):
    ∃x,K x/\Rel n β' (setJ tb js x (s.forget l mm)) a' h' w'/\Seg l mm (lives s) β a h w (lives (setJ tb js x (s.forget l mm))) β' a' h' w':=by
  obtain ⟨x,hx,hm⟩:=zcq2 ok hr' hg (zeo2 (s':=s') (a':=a') hr)
  obtain ⟨h1,h2⟩:=zsd2 hr hs hr' hm
  grind
end
theorem zpw2 {n:Nat} {β:Nat->Nat} {s:St} {a:Act} {h:Hp} {w:World} {l mm:List Nat} {β':Nat->Nat} {s':St} {a':Act} {h':Hp} {w':World} {k:Nat} {K:St->Hp->Prop} (hk:k∈mm) (hs:Seg l mm (lives s) β a h w (lives s') β' a' h' w') (hr:Rel n β' s' a' h' w') (hp:pubW k s' h' K):
    ∃s2 h2,K s2 h2/\Rel n β' s2 a' h2 w'/\Seg l mm (lives s) β a h w (lives s2) β' a' h2 w':=by
  unfold pubW at hp
  split at hp
  · rename_i k' off cs hf hm
    obtain ⟨h1,hp1⟩:=condP hp
    obtain ⟨h2,hp2⟩:=condP hp1
    clear hp hp1
    have h1:=Nat.eq_of_beq_eq_true h1
    have h2:=Nat.eq_of_beq_eq_true h2
    subst h1 h2
    obtain ⟨hn,ct,hw⟩:=hr.box k cs hm trivial
    have hset:∀x,(h'.set (β' k) (.cells cs.toArray ct (0,0))) x=if x=β' k then some (.cells cs.toArray ct (0,0)) else h' x:=fun x=>rfl
    have hmm:∀i cs',cond (Nat.beq i k) none (s'.m i)=some cs'->i≠k/\s'.m i=some cs':=fun i cs' e=>by
      grind
    have hff:∀t v c,cond (Nat.beq t k) (some (LV.v (.pointer (some ⟨β' k,0,none⟩)),([]:Chain))) (s'.f t)=some (v,c)->(t=k/\v=LV.v (.pointer (some ⟨β' k,0,none⟩))/\c=[])\/s'.f t=some (v,c):=fun t v c e=>by
      by_cases hi:t=k
      · grind
      · rw [zcb1 hi] at e;exact .inr e
    refine ⟨_,_,hp2 (β' k) ct hn,⟨hr.sz,fun b o e=> ?_,fun t v c e=> ?_,fun t v c e p hpp=> ?_,fun t v c e _ hh=> ?_,fun t v c e _ hh=> ?_,fun i cs' e _=> ?_,fun i j e e' _ _ he=> ?_,fun _ e=>e.elim,fun _ e=>e.elim⟩,?_⟩
    · rw [hset] at e
      split at e
      · grind
      · exact hr.sub b o e
    · rcases hff t v c e with ⟨rfl,_,_⟩ | e
      · exact hr.lt t _ _ hf
      · exact hr.lt t v c e
    · rcases hff t v c e with ⟨rfl,_,rfl⟩ | e
      · cases hpp
      · exact hr.chain t v c e p hpp
    · have hh':holds s' c:=by
        have:c=[]:=by
          rcases hff t v c e with ⟨_,_,h⟩ | e
          · exact h
          · cases c with
            | nil=>rfl
            | cons p c=>exact (hr.chain t v _ e p (List.mem_cons_self ..)).elim
        subst this;exact holds_nil _
      rcases hff t v c e with ⟨rfl,rfl,rfl⟩ | e
      · refine ⟨?_,fun _ _ _=>trivial⟩
        exact (hr.cur t _ _ hf trivial (holds_nil _)).1
      · exact ⟨(hr.cur t v c e trivial hh').1,fun _ _ _=>trivial⟩
    · have:c=[]:=by
        rcases hff t v c e with ⟨_,_,h⟩ | e
        · exact h
        · cases c with
          | nil=>rfl
          | cons p c=>exact (hr.chain t v _ e p (List.mem_cons_self ..)).elim
      subst this;exact absurd (holds_nil _) hh
    · obtain ⟨h1,h2⟩:=hmm i cs' e
      obtain ⟨h3,ct',h4⟩:=hr.box i cs' h2 trivial
      refine ⟨?_,ct',h4⟩
      rw [hset,if_neg]
      · exact h3
      · intro e'
        exact h1 (hr.inj i k (by simp [h2]) (by simp [hm]) trivial trivial e')
    · obtain ⟨ci,e⟩:=Option.ne_none_iff_exists'.1 e
      obtain ⟨cj,e'⟩:=Option.ne_none_iff_exists'.1 e'
      exact hr.inj i j (by grind) (by grind) trivial trivial he
    · refine ⟨hs.tmp,hs.beta,hs.size,fun b hb hn' hne=> ?_,hs.keep,fun i hi=> ?_,hs.os,hs.tape,hs.output,hs.defers⟩
      · rw [hset,if_neg]
        · exact hs.unk b hb hn' hne
        · rintro rfl
          rcases hs.fresh k ⟨by simp [hm],trivial⟩ with ⟨e1,e2⟩ | e1
          · grind
          · omega
      · obtain ⟨ci,e⟩:=Option.ne_none_iff_exists'.1 hi.1
        exact hs.fresh i ⟨by grind,trivial⟩
  · exact hp.elim
theorem app_mem {x y:List Nat} {d:Nat}:d∈app x y↔d∈x\/d∈y:=by rw [zjo1,List.mem_append]
theorem condN {α:Type} {c:Bool} {x:Option α} {y:α} (e:cond c x none=some y):c=true/\x=some y:=by
  grind
theorem zqy1 {l:Nat}:∀ {c:Code},noLab c l=true->findLabel c l=none:=by
  intro c
  induction c with
  | seq a b iha ihb=>
    intro e
    simp only [noLab] at e
    cases ha:noLab a l with
    | false=>grind
    | true=>rw [ha] at e;simp only [findLabel,iha ha];exact ihb e
  | label l'=>
    intro e
    simp only [noLab] at e
    by_cases hl:l'=l
    · subst hl;simp at e
    · simp [findLabel,hl]
  | _=>intro _;rfl
theorem zqz1 {x y:Code} {l:Nat} (hx:∀l',x≠ .label l'):zmh (.seq x y) l=cond (noLab x l) (zmh y l) none:=by
  cases x<;>first | rfl | grind
theorem zme2 {C:Ctx} {x y:Code} {l:Nat} {A:Ann} {mok:List Nat} {s:St} {E:Env} {h:Hp} (hx:∀l',x≠ .label l'):
    liftM C (.seq x y) (.fr l) A mok s E h=liftM C x .full A.fst mok s (E.nrm fun s' h'=>liftM C y (.fr l) A.snd mok s' E h') h:=by
  cases x<;>first | rfl | exact absurd rfl (hx _)
theorem zmf2 {C:Ctx} {x y:Code} {l:Nat} {A:Ann} {mok:List Nat} {s:St} {E:Env} {h:Hp} (hx:∀l',x≠ .label l'):
    liftM C (.seq x y) (.pr l) A mok s E h=match (generalizing:=false) A with
      | .gj _ js mm z _=>cond (allIn mm mok) (liftM C x .full .tt mok s (E.noGto.nrm fun s' h'=>
          JoinT (fun (R:JTup C.tb js->Hp->Prop)=>liftM C y (.fr l) z mm s' (E.lab l fun s' h'=>getJ C.tb js s' fun x=>R x h') h')
            (fun x h'=>liftM C y (.rs l) A.snd mok (setJ C.tb js x (s'.forget (mods y) mm)) E.noGto h')) h) False
      | _=>liftM C x .full A.fst mok s (E.noGto.nrm fun s' h'=>liftM C y (.pr l) A.snd mok s' E h') h:=by
  cases x<;>first | rfl | exact absurd rfl (hx _)
theorem zcd1 {l:Nat} {Q:Exit->Act->World->Prop} {J:Act->World->Prop} {e:Exit} {a:Act} {w:World} (he:Exit.noGoto Q e a w):Exit.jump l J Q e a w:=by
  cases e<;>first | exact he | exact he.elim
theorem zmg2 {C:Ctx} {x y:Code} {l:Nat} {A:Ann} {mok:List Nat} {s:St} {E:Env} {h:Hp} (hx:∀l',x≠ .label l'):
    liftM C (.seq x y) (.rs l) A mok s E h=liftM C y (.rs l) A mok s E h:=by
  cases x<;>first | rfl | grind
theorem zzd1 {l:Nat} {r:Code}:∀ {c:Code},zmh c l=some r->findLabel c l=some (.seq .skip r):=by
  intro c
  induction c with
  | seq x y ihx ihy=>
    intro e
    by_cases hx:∃l',x=.label l'
    · obtain ⟨l',rfl⟩:=hx
      obtain ⟨h1,e⟩:=condN e
      obtain rfl:y=r:=Option.some.inj e
      obtain rfl:=Nat.eq_of_beq_eq_true h1
      simp [findLabel]
    · rw [zqz1 (fun l' e=>hx ⟨l',e⟩)] at e
      obtain ⟨h1,e⟩:=condN e
      simp only [findLabel,zqy1 h1]
      exact ihy e
  | _=>intro e;simp [zmh] at e
theorem zml1 {x y:Code} {l:Nat} (hx:∀l',x≠ .label l'):zdl (.seq x y) l=cond (noLab x l) (zdl y l) none:=by
  cases x<;>first | rfl | grind
theorem zmh2 {C:Ctx} {x y:Code} {l:Nat} {A:Ann} {mok:List Nat} {s:St} {E:Env} {h:Hp} (hx:∀l',x≠ .label l'):
    liftM C (.seq x y) (.rz l) A mok s E h=liftM C y (.rz l) A mok s E h:=by
  cases x<;>first | rfl | grind
theorem zwa1 {l:Nat} {r:Code}:∀ {c:Code},zdl c l=some r->findLabel c l=some (.seq .skip r):=by
  intro c
  induction c with
  | seq x y ihx ihy=>
    intro e
    by_cases hx:∃l',x=.label l'
    · obtain ⟨l',rfl⟩:=hx
      by_cases hl:l'=l
      · subst hl
        simp only [zdl,Nat.beq_refl,cond_true] at e
        obtain rfl:y=r:=Option.some.inj e
        simp [findLabel]
      · simp only [zdl,zcb1 hl,cond_false] at e
        have hb:¬((l'==l)=true):=fun h=>hl (by simpa using h)
        simp only [findLabel,if_neg hb]
        exact ihy e
    · rw [zml1 (fun l' e=>hx ⟨l',e⟩)] at e
      obtain ⟨h1,e⟩:=condN e
      simp only [findLabel,zqy1 h1]
      exact ihy e
  | _=>intro e;simp [zdl] at e
def OutOf (P:Program) (x:Code) (Q:Exit->Act->World->Prop) (c:Code) (a:Act) (w:World):Prop:=
  ∀b k cs,∃e a' w',Q e a' w'/\Arrives P (lone (b.at a (.code c:: .inScope x::k)) cs w) b k cs e a' w'
def ToLab (P:Program) (x:Code) (Q:Exit->Act->World->Prop):Exit->Act->World->Prop
  | .goto l,a,w=>∃r,findLabel x l=some r/\OutOf P x Q r a w
  | e,a,w=>Q e a w
theorem zcr2 {P:Program} {x c:Code} {Q:Exit->Act->World->Prop} {a:Act} {w:World} (h:c.wp P (ToLab P x Q) a w):OutOf P x Q c a w:=by
  intro b k cs
  obtain ⟨e,a₁,w₁,hq,harr⟩:=h b (.inScope x::k) cs
  cases e with
  | normal=>exact ⟨.normal,a₁,w₁,hq,Steps.trans harr (.one step_inScope)⟩
  | exit id=>exact ⟨.exit id,a₁,w₁,hq,fun k' hk=>harr k' (by simp [exitTo,hk])⟩
  | goto l=>
    obtain ⟨r,hf,hr⟩:=hq
    have hg:gotoIn l (.inScope x::k)=some (.code r:: .inScope x::k):=by simp [gotoIn,hf]
    obtain ⟨e₂,a₂,w₂,hq₂,harr₂⟩:=hr b k cs
    exact ⟨e₂,a₂,w₂,hq₂,.of_steps (harr _ hg) harr₂⟩
  | ret=>exact ⟨_,a₁,w₁,hq,harr⟩
  | panic ch=>exact ⟨_,a₁,w₁,hq,harr⟩
  | outgrown=>exact ⟨_,a₁,w₁,hq,harr⟩
theorem zwb1 {P:Program} {x:Code} {Q:Exit->Act->World->Prop} {a:Act} {w:World} (h:OutOf P x Q x a w):(Code.scope x).wp P Q a w:=by
  intro b k cs
  obtain ⟨e,a₁,w₁,hq,harr⟩:=h b k cs
  exact ⟨e,a₁,w₁,hq,.of_steps (.one step_scope) harr⟩
theorem zze1 {C:Ctx} (ok:C.tb.Ok C.P) {n:Nat}:∀(c:Code),
    (∀(A:Ann) (mok:List Nat) (s:St) (E:Env) (h:Hp),(∀d∈mods c,d<n)->liftM C c .full A mok s E h->∀(β:Nat->Nat) (a:Act) (w:World),Rel n β s a h w->
      ∀Q:Exit->Act->World->Prop,(∀e s' h' β' a' w',E e s' h'->Rel n β' s' a' h' w'->Seg (mods c) mok (lives s) β a h w (lives s') β' a' h' w'->Q (exOf e) a' w')->c.wp C.P Q a w)/\
    (∀l r,zmh c l=some r->
      (∀(A:Ann) (mok:List Nat) (s:St) (E:Env) (h:Hp),(∀d∈mods c,d<n)->liftM C c (.fr l) A mok s E h->∀(β:Nat->Nat) (a:Act) (w:World),Rel n β s a h w->
        ∀Q:Exit->Act->World->Prop,(∀s' h' β' a' w',E .nrm s' h'->Rel n β' s' a' h' w'->Seg (mods c) mok (lives s) β a h w (lives s') β' a' h' w'->r.wp C.P Q a' w')->
        (∀e s' h' β' a' w',e≠ .nrm->E e s' h'->Rel n β' s' a' h' w'->Seg (mods c) mok (lives s) β a h w (lives s') β' a' h' w'->Q (exOf e) a' w')->c.wp C.P Q a w)/\
      (∀(A:Ann) (mok:List Nat) (s:St) (E:Env) (h:Hp),(∀d∈mods c,d<n)->liftM C c (.rs l) A mok s E h->∀(β:Nat->Nat) (a:Act) (w:World),Rel n β s a h w->
        ∀Q:Exit->Act->World->Prop,(∀e s' h' β' a' w',E e s' h'->Rel n β' s' a' h' w'->Seg (mods c) mok (lives s) β a h w (lives s') β' a' h' w'->Q (exOf e) a' w')->r.wp C.P Q a w)/\
      (∀(A:Ann) (mok:List Nat) (s:St) (E:Env) (h:Hp),(∀d∈mods c,d<n)->liftM C c (.pr l) A mok s E h->∀(β:Nat->Nat) (a:Act) (w:World),Rel n β s a h w->
        ∀Q:Exit->Act->World->Prop,(∀e s' h' β' a' w',(∀i,e≠ .gto i)->E e s' h'->Rel n β' s' a' h' w'->Seg (mods c) mok (lives s) β a h w (lives s') β' a' h' w'->Q (exOf e) a' w')->
        c.wp C.P (Exit.jump l (fun a' w'=>r.wp C.P (Exit.noGoto Q) a' w') Q) a w))/\
    ∀l r,zdl c l=some r->
      ∀(A:Ann) (mok:List Nat) (s:St) (E:Env) (h:Hp),(∀d∈mods c,d<n)->liftM C c (.rz l) A mok s E h->∀(β:Nat->Nat) (a:Act) (w:World),Rel n β s a h w->
        ∀Q:Exit->Act->World->Prop,(∀e s' h' β' a' w',E e s' h'->Rel n β' s' a' h' w'->Seg (mods c) mok (lives s) β a h w (lives s') β' a' h' w'->Q (exOf e) a' w')->r.wp C.P Q a w:=by
  intro c
  induction c with
  | skip=>
    refine ⟨?_,fun l r e=>by simp [zmh] at e,fun l r e=>by simp [zdl] at e⟩
    intro A mok s E h _ hv β a w hr Q hQ;exact wp_skip (hQ .nrm s h β a w hv hr (Seg.refl _ _))
  | ret=>
    refine ⟨?_,fun l r e=>by simp [zmh] at e,fun l r e=>by simp [zdl] at e⟩
    intro A mok s E h _ hv β a w hr Q hQ;exact wp_ret (hQ .ret s h β a w hv hr (Seg.refl _ _))
  | exit i=>
    refine ⟨?_,fun l r e=>by simp [zmh] at e,fun l r e=>by simp [zdl] at e⟩
    intro A mok s E h _ hv β a w hr Q hQ;exact wp_exit (hQ (.ext i) s h β a w hv hr (Seg.refl _ _))
  | goto i=>
    refine ⟨?_,fun l r e=>by simp [zmh] at e,fun l r e=>by simp [zdl] at e⟩
    intro A mok s E h _ hv β a w hr Q hQ;exact wp_goto (hQ (.gto i) s h β a w hv hr (Seg.refl _ _))
  | label i=>
    refine ⟨?_,fun l r e=>by simp [zmh] at e,fun l r e=>by simp [zdl] at e⟩
    intro A mok s E h _ hv β a w hr Q hQ;exact wp_label (hQ .nrm s h β a w hv hr (Seg.refl _ _))
  | region id ops draw=>
    refine ⟨?_,fun l r e=>by simp [zmh] at e,fun l r e=>by simp [zdl] at e⟩
    intro A mok s E h hlt hv β a w hr Q hQ
    have hclean:∀s':St,∀k,lives s'.clean k↔lives s' k:=fun s' k=>.rfl
    cases draw with
    | true=>
      simp only [liftM] at hv
      obtain ⟨hp,hv⟩:=condP hv
      obtain ⟨h1,hp⟩:=condT hp
      exact zil2 ok h1 hp hlt hr hv fun s' h' β' a' w' hk hr' hs'=>hQ .nrm s'.clean h' β' a' w' hk hr' hs'
    | false=>
      simp only [liftM] at hv
      obtain ⟨hp,hv⟩:=condP hv
      unfold seqOk at hp
      obtain ⟨h1,hp⟩:=condT hp
      have hst:=hr.start (zba C.priv ops.toList)
      have main:∀g:Bool,(g=false->zcq1 ops.toList=true)->(g=true->(modsO ops.toList).Nodup/\zij ops.toList 0=true)->(Code.region id ops false).wp C.P Q a w:=by
        intro g hg1 hg2
        refine wp_region ?_
        have:=zvu1 (n:=n) (mok:=mok) (K:=fun s' h'=>E .nrm s'.clean h') (Q:=Q) ok g hlt hg1 hg2 ops.toList [] β _ a h w rfl (zew1 h1) hv
          (hst.congr (fun _=>.rfl) (fun _=>.rfl) (fun _ e=>e.elim) (fun _ e=>e)) (fun s' h' β' a' w' hk hr' hs'=>hQ .nrm s'.clean h' β' a' w' hk hr'.clean
            (hs'.mono (fun _ e=>e) (fun _ e=>e) (fun k e=>zvt1 e) (fun _ e=>e)))
        rw [List.range_eq_range']
        simpa using this
      cases hng:zcq1 ops.toList with
      | true=>exact main false (fun _=>hng) (fun e=>by cases e)
      | false=>
        rw [hng] at hp
        simp only [cond_false] at hp
        obtain ⟨h2,h3⟩:=condT hp
        exact main true (fun e=>by cases e) (fun _=>⟨zew1 h2,h3⟩)
  | seq x y ihx ihy=>
    have hmx:∀d∈mods x,d∈mods (.seq x y):=fun d hd=>app_mem.2 (.inl hd)
    have hmy:∀d∈mods y,d∈mods (.seq x y):=fun d hd=>app_mem.2 (.inr hd)
    refine ⟨?_,fun l r e=> ?_,fun l r e=> ?_⟩
    rotate_left
    rotate_left
    · intro A mok s E h hlt hv β a w hr Q hQ
      have hly:∀d∈mods y,d<n:=fun d hd=>hlt d (hmy d hd)
      by_cases hx:∃l',x=.label l'
      · obtain ⟨l',rfl⟩:=hx
        by_cases hl:l'=l
        · subst hl
          simp only [zdl,Nat.beq_refl,cond_true] at e
          obtain rfl:y=r:=Option.some.inj e
          simp only [liftM,Nat.beq_refl,cond_true] at hv
          exact ihy.1 _ _ _ _ _ hly hv β a w hr Q fun e s' h' β' a' w' he hr' hs'=>hQ e s' h' β' a' w' he hr' (hs'.mono hmy (fun _ e=>e) (fun _ e=>e) (fun _ e=>e))
        · simp only [zdl,zcb1 hl,cond_false] at e
          simp only [liftM,zcb1 hl,cond_false] at hv
          exact ihy.2.2 l r e _ mok s E h hly hv β a w hr Q fun e' s' h' β' a' w' he hr' hs'=>hQ e' s' h' β' a' w' he hr' (hs'.mono hmy (fun _ e=>e) (fun _ e=>e) (fun _ e=>e))
      · rw [zml1 (fun l' e=>hx ⟨l',e⟩)] at e
        obtain ⟨-,e⟩:=condN e
        rw [zmh2 (fun l' e=>hx ⟨l',e⟩)] at hv
        exact ihy.2.2 l r e _ mok s E h hly hv β a w hr Q fun e' s' h' β' a' w' he hr' hs'=>hQ e' s' h' β' a' w' he hr' (hs'.mono hmy (fun _ e=>e) (fun _ e=>e) (fun _ e=>e))
    rotate_left
    · by_cases hx:∃l',x=.label l'
      · obtain ⟨l',rfl⟩:=hx
        obtain ⟨-,e⟩:=condN e
        obtain rfl:y=r:=Option.some.inj e
        refine ⟨fun A mok s E h hlt hv β a w hr Q h1 _=> ?_,fun A mok s E h hlt hv β a w hr Q hQ=> ?_,fun A mok s E h hlt hv=>hv.elim⟩
        · exact wp_seq (wp_label (h1 s h β a w hv hr (Seg.refl _ _)))
        · exact ihy.1 _ _ _ _ _ (fun d hd=>hlt d (hmy d hd)) hv β a w hr Q fun e s' h' β' a' w' he hr' hs'=>hQ e s' h' β' a' w' he hr' (hs'.mono hmy (fun _ e=>e) (fun _ e=>e) (fun _ e=>e))
      · rw [zqz1 (fun l' e=>hx ⟨l',e⟩)] at e
        obtain ⟨-,e⟩:=condN e
        refine ⟨fun A mok s E h hlt hv β a w hr Q h1 h2=> ?_,fun A mok s E h hlt hv β a w hr Q hQ=> ?_,fun A mok s E h hlt hv β a w hr Q hQ=> ?_⟩
        · rw [zme2 (fun l' e=>hx ⟨l',e⟩)] at hv
          refine wp_seq ?_
          refine ihx.1 _ mok s _ h (fun d hd=>hlt d (hmx d hd)) hv β a w hr _ fun e' s' h' β' a' w' he hr' hs'=> ?_
          have hs1:=hs'.mono (mm':=mok) hmx (fun _ e=>e) (fun _ e=>e) (fun _ e=>e)
          cases e' with
          | nrm=>
            exact ((ihy.2.1 l r e).1 _ mok _ E h' (fun d hd=>hlt d (hmy d hd)) he β' a' w' hr' Q
              (fun s2 h2 β2 a2 w2 he2 hrr hss=>h1 s2 h2 β2 a2 w2 he2 hrr (hs1.trans (hss.mono hmy (fun _ e=>e) (fun _ e=>e) (fun _ e=>e))))
              (fun e2 s2 h2' β2 a2 w2 hne he2 hrr hss=>h2 e2 s2 h2' β2 a2 w2 hne he2 hrr (hs1.trans (hss.mono hmy (fun _ e=>e) (fun _ e=>e) (fun _ e=>e)))))
          | ret=>exact h2 .ret s' h' β' a' w' (by simp) he hr' hs1
          | ext i=>exact h2 (.ext i) s' h' β' a' w' (by simp) he hr' hs1
          | gto i=>exact h2 (.gto i) s' h' β' a' w' (by simp) he hr' hs1
        · rw [zmg2 (fun l' e=>hx ⟨l',e⟩)] at hv
          exact (ihy.2.1 l r e).2.1 _ mok s E h (fun d hd=>hlt d (hmy d hd)) hv β a w hr Q fun e' s' h' β' a' w' he hr' hs'=>hQ e' s' h' β' a' w' he hr' (hs'.mono hmy (fun _ e=>e) (fun _ e=>e) (fun _ e=>e))
        · rw [zmf2 (fun l' e=>hx ⟨l',e⟩)] at hv
          have hly:∀d∈mods y,d<n:=fun d hd=>hlt d (hmy d hd)
          refine wp_seq ?_
          split at hv
          · rename_i js mm z _
            obtain ⟨hmm,hv⟩:=condP hv
            have hmm':=zta hmm
            refine ihx.1 _ mok s _ h (fun d hd=>hlt d (hmx d hd)) hv β a w hr _ fun e' s0 h0 β0 a0 w0 he hr0 hs0=> ?_
            have hs0':=hs0.mono (mm':=mok) hmx (fun _ e=>e) (fun _ e=>e) (fun _ e=>e)
            cases e' with
            | nrm=>
              obtain ⟨R,hA,hB⟩:=he
              have joined:∀s' h' β' a' w',Rel n β' s' a' h' w'->Seg (mods y) mm (lives s0) β0 a0 h0 w0 (lives s') β' a' h' w'->getJ C.tb js s' (fun z=>R z h')->r.wp C.P (Exit.noGoto Q) a' w':=by
                intro s' h' β' a' w' hr' hs' hg
                obtain ⟨z,hz,hr2,hs2⟩:=zey1 ok hr0 hs' hr' hg
                refine (ihy.2.1 l r e).2.1 _ mok _ _ h' hly (hB z h' hz) β' a' w' hr2 _ fun e s2 h2 β2 a2 w2 he hr3 hs3=> ?_
                have hs4:=hs0'.trans (((hs2.mono (l':=mods y) (mm':=mok) (fun _ e=>e) hmm' (fun _ e=>e) (fun _ e=>e)).trans hs3).mono hmy (fun _ e=>e) (fun _ e=>e) (fun _ e=>e))
                cases e with
                | nrm=>exact hQ .nrm s2 h2 β2 a2 w2 (by simp) he hr3 hs4
                | ret=>exact hQ .ret s2 h2 β2 a2 w2 (by simp) he hr3 hs4
                | ext i=>exact hQ (.ext i) s2 h2 β2 a2 w2 (by simp) he hr3 hs4
                | gto i=>exact he.elim
              refine (ihy.2.1 l r e).1 _ mm s0 _ h0 hly hA β0 a0 w0 hr0 _ (fun s' h' β' a' w' he hr' hs'=> ?_) fun e s' h' β' a' w' hne he hr' hs'=> ?_
              · exact wp_mono (joined s' h' β' a' w' hr' hs' he) fun _ _ _=>zcd1
              · have hs4:=hs0'.trans (hs'.mono (mm':=mok) hmy hmm' (fun _ e=>e) (fun _ e=>e))
                cases e with
                | nrm=>grind
                | ret=>exact hQ .ret s' h' β' a' w' (by simp) he hr' hs4
                | ext i=>exact hQ (.ext i) s' h' β' a' w' (by simp) he hr' hs4
                | gto i=>
                  by_cases hi:i=l
                  · subst hi
                    simp only [Env.lab,Nat.beq_refl,cond_true] at he
                    exact ⟨rfl,joined s' h' β' a' w' hr' hs' he⟩
                  · simp only [Env.lab,zcb1 hi,cond_false] at he
            | ret=>exact hQ .ret s0 h0 β0 a0 w0 (by simp) he hr0 hs0'
            | ext i=>exact hQ (.ext i) s0 h0 β0 a0 w0 (by simp) he hr0 hs0'
            | gto i=>exact he.elim
          · refine ihx.1 _ mok s _ h (fun d hd=>hlt d (hmx d hd)) hv β a w hr _ fun e' s0 h0 β0 a0 w0 he hr0 hs0=> ?_
            have hs0':=hs0.mono (mm':=mok) hmx (fun _ e=>e) (fun _ e=>e) (fun _ e=>e)
            cases e' with
            | nrm=>exact (ihy.2.1 l r e).2.2 _ mok s0 E h0 hly he β0 a0 w0 hr0 Q fun e' s' h' β' a' w' hne he hr' hs'=>hQ e' s' h' β' a' w' hne he hr' (hs0'.trans (hs'.mono hmy (fun _ e=>e) (fun _ e=>e) (fun _ e=>e)))
            | ret=>exact hQ .ret s0 h0 β0 a0 w0 (by simp) he hr0 hs0'
            | ext i=>exact hQ (.ext i) s0 h0 β0 a0 w0 (by simp) he hr0 hs0'
            | gto i=>exact he.elim
    intro A mok s E h hlt hv β a w hr Q hQ
    have hlx:∀d∈mods x,d<n:=fun d hd=>hlt d (app_mem.2 (.inl hd))
    have hly:∀d∈mods y,d<n:=fun d hd=>hlt d (app_mem.2 (.inr hd))
    refine wp_seq ?_
    unfold liftM at hv
    split at hv
    · rename_i js mm _ _
      obtain ⟨hmm,R,hA,hB⟩:=condP hv
      have hmm':=zta hmm
      refine ihx.1 _ mm s _ h hlx hA β a w hr _ fun e s' h' β' a' w' he hr' hs'=> ?_
      cases e with
      | nrm=>
        obtain ⟨z,hz,hr2,hs2⟩:=zey1 ok hr hs' hr' he
        refine ihy.1 _ mok _ E h' hly (hB z h' hz) β' a' w' hr2 Q fun e2 s2 h2 β2 a2 w2 he2 hrr hss=> ?_
        exact hQ e2 s2 h2 β2 a2 w2 he2 hrr ((hs2.mono hmx hmm' (fun _ e=>e) (fun _ e=>e)).trans (hss.mono hmy (fun _ e=>e) (fun _ e=>e) (fun _ e=>e)))
      | ret=>exact hQ .ret s' h' β' a' w' he hr' (hs'.mono hmx hmm' (fun _ e=>e) (fun _ e=>e))
      | ext i=>exact hQ (.ext i) s' h' β' a' w' he hr' (hs'.mono hmx hmm' (fun _ e=>e) (fun _ e=>e))
      | gto i=>exact hQ (.gto i) s' h' β' a' w' he hr' (hs'.mono hmx hmm' (fun _ e=>e) (fun _ e=>e))
    · rename_i k _ _
      obtain ⟨hk,hv⟩:=condP hv
      have hk:=(zhw _ _).1 hk
      refine ihx.1 _ mok s _ h hlx hv β a w hr _ fun e s' h' β' a' w' he hr' hs'=> ?_
      cases e with
      | nrm=>
        obtain ⟨s1,h1,he,hr1,hs1⟩:=zpw2 (K:=fun s2 h2=>liftM C y .full _ mok s2 E h2) hk hs' hr' he
        refine ihy.1 _ mok _ E h1 hly he β' a' w' hr1 Q fun e2 s2 h2 β2 a2 w2 he2 hrr hss=> ?_
        exact hQ e2 s2 h2 β2 a2 w2 he2 hrr ((hs1.mono hmx (fun _ e=>e) (fun _ e=>e) (fun _ e=>e)).trans (hss.mono hmy (fun _ e=>e) (fun _ e=>e) (fun _ e=>e)))
      | ret=>exact hQ .ret s' h' β' a' w' he hr' (hs'.mono hmx (fun _ e=>e) (fun _ e=>e) (fun _ e=>e))
      | ext i=>exact hQ (.ext i) s' h' β' a' w' he hr' (hs'.mono hmx (fun _ e=>e) (fun _ e=>e) (fun _ e=>e))
      | gto i=>exact hQ (.gto i) s' h' β' a' w' he hr' (hs'.mono hmx (fun _ e=>e) (fun _ e=>e) (fun _ e=>e))
    · refine ihx.1 _ mok s _ h hlx hv β a w hr _ fun e s' h' β' a' w' he hr' hs'=> ?_
      cases e with
      | nrm=>
        refine ihy.1 _ mok _ E h' hly he β' a' w' hr' Q fun e2 s2 h2 β2 a2 w2 he2 hrr hss=> ?_
        exact hQ e2 s2 h2 β2 a2 w2 he2 hrr ((hs'.mono hmx (fun _ e=>e) (fun _ e=>e) (fun _ e=>e)).trans (hss.mono hmy (fun _ e=>e) (fun _ e=>e) (fun _ e=>e)))
      | ret=>exact hQ .ret s' h' β' a' w' he hr' (hs'.mono hmx (fun _ e=>e) (fun _ e=>e) (fun _ e=>e))
      | ext i=>exact hQ (.ext i) s' h' β' a' w' he hr' (hs'.mono hmx (fun _ e=>e) (fun _ e=>e) (fun _ e=>e))
      | gto i=>exact hQ (.gto i) s' h' β' a' w' he hr' (hs'.mono hmx (fun _ e=>e) (fun _ e=>e) (fun _ e=>e))
  | cond c x y ihx ihy=>
    refine ⟨?_,fun l r e=>by simp [zmh] at e,fun l r e=>by simp [zdl] at e⟩
    intro A mok s E h hlt hv β a w hr Q hQ
    have hlx:∀d∈mods x,d<n:=fun d hd=>hlt d (app_mem.2 (.inl hd))
    have hly:∀d∈mods y,d<n:=fun d hd=>hlt d (app_mem.2 (.inr hd))
    simp only [liftM] at hv
    obtain ⟨v,hev,hv⟩:=zas hv
    split at hv
    · rename_i t
      have hc:=ev_ok (zyw1 hr (x:=c) fun _ _=>trivial) (holds_nil s) hev
      refine wp_cond_split (t:=t) hc (fun ht=> ?_) (fun ht=> ?_)
      · rw [if_pos ht] at hv
        exact ihx.1 _ mok s E h hlx hv β a w hr Q fun e s' h' β' a' w' he hr' hs'=>hQ e s' h' β' a' w' he hr' (hs'.mono (fun d hd=>app_mem.2 (.inl hd)) (fun _ e=>e) (fun _ e=>e) (fun _ e=>e))
      · rw [if_neg (by rw [ht];simp)] at hv
        exact ihy.1 _ mok s E h hly hv β a w hr Q fun e s' h' β' a' w' he hr' hs'=>hQ e s' h' β' a' w' he hr' (hs'.mono (fun d hd=>app_mem.2 (.inr hd)) (fun _ e=>e) (fun _ e=>e) (fun _ e=>e))
    · exact hv.elim
  | block id x ih=>
    refine ⟨?_,fun l r e=>by simp [zmh] at e,fun l r e=>by simp [zdl] at e⟩
    intro A mok s E h hlt hv β a w hr Q hQ
    refine wp_block ?_
    unfold liftM at hv
    split at hv
    · rename_i js mm _
      obtain ⟨hmm,R,hA,hB⟩:=condP hv
      have hmm':=zta hmm
      refine ih.1 _ mm s _ h hlt hA β a w hr _ fun e s' h' β' a' w' he hr' hs'=> ?_
      have joined:getJ C.tb js s' (fun x=>R x h')->Q .normal a' w':=fun hg=>by
        obtain ⟨z,hz,hr2,hs2⟩:=zey1 ok hr hs' hr' hg
        exact hQ .nrm _ h' β' a' w' (hB z h' hz) hr2 (hs2.mono (fun _ e=>e) hmm' (fun _ e=>e) (fun _ e=>e))
      cases e with
      | nrm=>exact joined he
      | ret=>exact hQ .ret s' h' β' a' w' he hr' (hs'.mono (fun _ e=>e) hmm' (fun _ e=>e) (fun _ e=>e))
      | ext i=>
        simp only [exOf,Exit.inBlock]
        by_cases hi:i=id
        · subst hi
          simp only [Env.blk,Nat.beq_refl,cond_true] at he
          grind
        · rw [if_neg hi]
          simp only [Env.blk,zcb1 hi,cond_false] at he
          exact hQ (.ext i) s' h' β' a' w' he hr' (hs'.mono (fun _ e=>e) hmm' (fun _ e=>e) (fun _ e=>e))
      | gto i=>exact hQ (.gto i) s' h' β' a' w' he hr' (hs'.mono (fun _ e=>e) hmm' (fun _ e=>e) (fun _ e=>e))
    · refine ih.1 _ mok s _ h hlt hv β a w hr _ fun e s' h' β' a' w' he hr' hs'=> ?_
      cases e with
      | nrm=>exact hQ .nrm s' h' β' a' w' he hr' hs'
      | ret=>exact hQ .ret s' h' β' a' w' he hr' hs'
      | ext i=>
        simp only [exOf,Exit.inBlock]
        by_cases hi:i=id
        · subst hi
          simp only [Env.blk,Nat.beq_refl,cond_true] at he
          rw [if_pos rfl]
          exact hQ .nrm s' h' β' a' w' he hr' hs'
        · rw [if_neg hi]
          simp only [Env.blk,zcb1 hi,cond_false] at he
          exact hQ (.ext i) s' h' β' a' w' he hr' hs'
      | gto i=>exact hQ (.gto i) s' h' β' a' w' he hr' hs'
  | scope x ih=>
    refine ⟨?_,fun l r e=>by simp [zmh] at e,fun l r e=>by simp [zdl] at e⟩
    intro A mok s E h hlt hv β a w hr Q hQ
    unfold liftM at hv
    split at hv
    · rename_i l _
      split at hv
      · rename_i r hrest
        refine wp_scope_jumps l (fun a' w'=>r.wp C.P (Exit.noGoto Q) a' w') (fun _ _=>0) (zzd1 hrest) ?_ fun a' w' hJ=>wp_seq (wp_skip (wp_mono hJ fun _ _ _=>zcd1))
        exact (ih.2.1 l r hrest).2.2 _ mok s E h hlt hv β a w hr Q fun e s' h' β' a' w' _ he hr' hs'=>hQ e s' h' β' a' w' he hr' hs'
      · exact hv.elim
    · rename_i l0 a0 x0
      refine zwb1 (zcr2 ?_)
      have chain:∀(A:Ann) (E':Env),(∀e s' h' β' a' w',E' e s' h'->Rel n β' s' a' h' w'->Seg (mods x) mok (lives s) β a h w (lives s') β' a' h' w'->ToLab C.P x Q (exOf e) a' w')->
          ∀e s' h' β' a' w',gotoE (fun l a' E s h=>match zdl x l with
            | some _=>liftM C x (.rz l) a' mok s E h
            | none=>False) A E' e s' h'->Rel n β' s' a' h' w'->Seg (mods x) mok (lives s) β a h w (lives s') β' a' h' w'->ToLab C.P x Q (exOf e) a' w':=by
        intro A
        induction A with
        | gd l b y _ ihy=>
          intro E' hE
          refine ihy _ fun e s' h' β' a' w' he hr' hs'=> ?_
          cases e with
          | nrm=>exact hE .nrm s' h' β' a' w' he hr' hs'
          | ret=>exact hE .ret s' h' β' a' w' he hr' hs'
          | ext i=>exact hE (.ext i) s' h' β' a' w' he hr' hs'
          | gto i=>
            by_cases hi:i=l
            · subst hi
              simp only [Env.put,Nat.beq_refl,cond_true] at he
              split at he
              · rename_i r hrest
                refine ⟨_,zwa1 hrest,zcr2 (wp_seq (wp_skip ?_))⟩
                exact ih.2.2 i r hrest _ mok s' _ h' hlt he β' a' w' hr' _ fun e2 s2 h2 β2 a2 w2 he2 hr2 hs2=>hE e2 s2 h2 β2 a2 w2 he2 hr2 (hs'.trans hs2)
              · exact he.elim
            · simp only [Env.put,zcb1 hi,cond_false] at he
              exact hE (.gto i) s' h' β' a' w' he hr' hs'
        | _=>intro E' hE;exact hE
      refine ih.1 _ mok s _ h hlt hv β a w hr _ fun e s' h' β' a' w' he hr' hs'=> ?_
      refine chain (.gd l0 a0 x0) E.noGto (fun e s' h' β' a' w' he hr' hs'=> ?_) e s' h' β' a' w' he hr' hs'
      cases e with
      | nrm=>exact hQ .nrm s' h' β' a' w' he hr' hs'
      | ret=>exact hQ .ret s' h' β' a' w' he hr' hs'
      | ext i=>exact hQ (.ext i) s' h' β' a' w' he hr' hs'
      | gto i=>exact he.elim
    · refine wp_scope_straight ?_
      refine ih.1 _ mok s _ h hlt hv β a w hr _ fun e s' h' β' a' w' he hr' hs'=> ?_
      cases e with
      | nrm=>exact hQ .nrm s' h' β' a' w' he hr' hs'
      | ret=>exact hQ .ret s' h' β' a' w' he hr' hs'
      | ext i=>exact hQ (.ext i) s' h' β' a' w' he hr' hs'
      | gto i=>exact he.elim
  | loop x ih=>
    refine ⟨?_,fun l r e=>by simp [zmh] at e,fun l r e=>by simp [zdl] at e⟩
    intro A mok s E h hlt hv β a w hr Q hQ
    unfold liftM at hv
    split at hv
    · rename_i js mm _
      obtain ⟨hmm,hv⟩:=condP hv
      have hmm':=zta hmm
      obtain ⟨x0,hx0,hr0,hs0⟩:=zey1 ok hr (Seg.refl (l:=mods x) (mm:=mm)) hr hv
      obtain ⟨I,μ,hI,hbody⟩:=hx0
      refine zsl1 (fun m a' w'=>∃z h' β',I z h'/\μ z h'=m/\Rel n β' (setJ C.tb js z (s.forget (mods x) mm)) a' h' w'/\Seg (mods x) mm (lives s) β a h w (lives (setJ C.tb js z (s.forget (mods x) mm))) β' a' h' w')
        ⟨_,x0,h,β,hI,rfl,hr0,hs0⟩ ?_
      rintro m a' w' ⟨z,h',β',hz,rfl,hr1,hs1⟩
      refine ih.1 _ mm _ _ h' hlt (hbody z h' hz) β' a' w' hr1 _ fun e s2 h2 β2 a2 w2 he hr2 hs2=> ?_
      have hs12:=hs1.trans hs2
      cases e with
      | nrm=>
        obtain ⟨z2,hz2,hr3,hs3⟩:=zey1 ok hr hs12 hr2 he
        exact ⟨_,hz2.2,z2,h2,β2,hz2.1,rfl,hr3,hs3⟩
      | ret=>exact hQ .ret s2 h2 β2 a2 w2 he hr2 (hs12.mono (fun _ e=>e) hmm' (fun _ e=>e) (fun _ e=>e))
      | ext i=>exact hQ (.ext i) s2 h2 β2 a2 w2 he hr2 (hs12.mono (fun _ e=>e) hmm' (fun _ e=>e) (fun _ e=>e))
      | gto i=>exact hQ (.gto i) s2 h2 β2 a2 w2 he hr2 (hs12.mono (fun _ e=>e) hmm' (fun _ e=>e) (fun _ e=>e))
    · exact hv.elim
  | _=>exact ⟨fun A mok s E h _ hv=>hv.elim,fun l r e=>by simp [zmh] at e,fun l r e=>by simp [zdl] at e⟩
theorem lift_sound {C:Ctx} (ok:C.tb.Ok C.P) {n:Nat} (c:Code) (A:Ann) (mok:List Nat) (s:St) (E:Env) (h:Hp) (hlt:∀d∈mods c,d<n) (hv:liftM C c .full A mok s E h) (β:Nat->Nat) (a:Act) (w:World) (hr:Rel n β s a h w)
    (Q:Exit->Act->World->Prop) (hQ:∀e s' h' β' a' w',E e s' h'->Rel n β' s' a' h' w'->Seg (mods c) mok (lives s) β a h w (lives s') β' a' h' w'->Q (exOf e) a' w'):c.wp C.P Q a w:=
  (zze1 ok c).1 A mok s E h hlt hv β a w hr Q hQ
def zce1 (tmps:Array Value):ResultVar->Sem Value
  | .tmp t=>pure (tmps.getD t undef)
  | .cell a t=>do loadVar t (<-asAddr (tmps.getD a undef))
def zin2 :List Value->Value
  | [v]=>v
  | vs=>.tuple vs.toArray
theorem results_run {P:Program} {fn:Func} {tmps:Array Value} {vs:List Value} {w:World} (h:(fn.results.toList.mapM (zce1 tmps)).run P w=.ok vs w):(results fn tmps).run P w=.ok (zin2 vs) w:=by
  have e:results fn tmps=((fn.results.mapM (zce1 tmps))>>=fun vs=>pure (if h:vs.size=1 then vs[0] else .tuple vs)):=by
    unfold results
    congr 1
  rw [e,Array.mapM_eq_mapM_toList,map_eq_pure_bind]
  simp only [Sem.run_bind,h,Result.andThen_ok,Sem.run_pure]
  cases vs with
  | nil=>rfl
  | cons v vs=>cases vs<;>simp [zin2]
theorem zep2 {P:Program} {tb:Tb} (ok:tb.Ok P) {t:Nat} {e:Ty} (he:tb.ty t=some e) {w:World} {a:Addr} {x:(shOf tb t).T}
    (hc:∀(j:Nat) (v:Value),(zac ((shOf tb t).enc x))[j]? =some v->w.cell? (a.add j)=some v):(loadVar t a).run P w=.ok ((shOf tb t).enc x) w:=by
  revert x
  rw [zim2,he]
  intro x hc
  exact zud ok he hc
section
variable {C:Ctx} {n:Nat} {β:Nat->Nat} {s:St} {a:Act} {h:Hp} {w:World}
theorem zbc (ok:C.tb.Ok C.P) (hr:Rel n β s a h w) {r:ResultVar} {t:Nat} {K:(shOf C.tb t).T->Prop} (hv:zgm C s r t K):∃x,K x/\(zce1 a.tmps r).run C.P w=.ok ((shOf C.tb t).enc x) w:=by
  cases r with
  | tmp i=>
    simp only [zgm] at hv
    split at hv
    · rename_i v hf
      · obtain ⟨x,hx,hv⟩:=zsm1 hv
        refine ⟨x,hv,?_⟩
        have:=(hr.cur i _ [] hf trivial (holds_nil _)).1
        rw [hx]
        simp only [zce1,Sem.run_pure]
        exact congrArg (fun v=>Result.ok v w) this
    · exact hv.elim
  | cell i ct=>
    simp only [zgm] at hv
    obtain ⟨h1,hv⟩:=condP hv
    have h1:=Nat.eq_of_beq_eq_true h1
    subst h1
    split at hv
    · rename_i k e hf he
      split at hv
      · rename_i cs hm
        split at hv
        · rename_i v hcs
          · obtain ⟨x,hx,hv⟩:=zsm1 hv
            refine ⟨x,hv,?_⟩
            have hc:=zcp2 ok hcs hx
            obtain ⟨_,t',hb⟩:=hr.box k cs hm trivial
            have:=(hr.cur i _ [] hf trivial (holds_nil _)).1
            have h2:a.tmps.getD i undef=.pointer (some ⟨β k,0,none⟩):=this
            simp only [zce1,h2,asAddr,Sem.run_bind,Sem.run_pure,Result.andThen_ok]
            refine zep2 ok he fun j v hj=> ?_
            rw [hc] at hj
            rw [zbh,zsb1 hb]
            simpa using hj
        · exact hv.elim
      · exact hv.elim
    · exact hv.elim
theorem retW_run (ok:C.tb.Ok C.P) (hr:Rel n β s a h w) {rs:List ResultVar} {ts:List Nat} {K:(shRes C.tb ts).T->Hp->Prop} (hv:retW C s h rs ts K):
    ∃x vs,K x h/\(rs.mapM (zce1 a.tmps)).run C.P w=.ok vs w/\zin2 vs=(shRes C.tb ts).enc x:=by
  have step:∀ {r:ResultVar} {rs:List ResultVar} {v:Value} {vs:List Value},(zce1 a.tmps r).run C.P w=.ok v w->(rs.mapM (zce1 a.tmps)).run C.P w=.ok vs w->((r::rs).mapM (zce1 a.tmps)).run C.P w=.ok (v::vs) w:=by
    intro r rs v vs h1 h2
    simp only [List.mapM_cons,Sem.run_bind,h1,h2,Result.andThen_ok,Sem.run_pure]
  have nil:(([]:List ResultVar).mapM (zce1 a.tmps)).run C.P w=.ok [] w:=by simp
  unfold retW at hv
  split at hv
  · exact ⟨(),[],hv,nil,rfl⟩
  · obtain ⟨x,hk,h1⟩:=zbc ok hr hv
    exact ⟨x,_,hk,step h1 nil,rfl⟩
  · obtain ⟨x1,hv,h1⟩:=zbc ok hr hv
    obtain ⟨x2,hk,h2⟩:=zbc ok hr hv
    exact ⟨(x1,x2),_,hk,step h1 (step h2 nil),rfl⟩
  · obtain ⟨x1,hv,h1⟩:=zbc ok hr hv
    obtain ⟨x2,hv,h2⟩:=zbc ok hr hv
    obtain ⟨x3,hk,h3⟩:=zbc ok hr hv
    exact ⟨(x1,x2,x3),_,hk,step h1 (step h2 (step h3 nil)),rfl⟩
  · obtain ⟨x1,hv,h1⟩:=zbc ok hr hv
    obtain ⟨x2,hv,h2⟩:=zbc ok hr hv
    obtain ⟨x3,hv,h3⟩:=zbc ok hr hv
    obtain ⟨x4,hk,h4⟩:=zbc ok hr hv
    exact ⟨(x1,x2,x3,x4),_,hk,step h1 (step h2 (step h3 (step h4 nil))),rfl⟩
  · obtain ⟨x1,hv,h1⟩:=zbc ok hr hv
    obtain ⟨x2,hv,h2⟩:=zbc ok hr hv
    obtain ⟨x3,hv,h3⟩:=zbc ok hr hv
    obtain ⟨x4,hv,h4⟩:=zbc ok hr hv
    obtain ⟨x5,hk,h5⟩:=zbc ok hr hv
    exact ⟨(x1,x2,x3,x4,x5),_,hk,step h1 (step h2 (step h3 (step h4 (step h5 nil)))),rfl⟩
  · obtain ⟨x1,hv,h1⟩:=zbc ok hr hv
    obtain ⟨x2,hv,h2⟩:=zbc ok hr hv
    obtain ⟨x3,hv,h3⟩:=zbc ok hr hv
    obtain ⟨x4,hv,h4⟩:=zbc ok hr hv
    obtain ⟨x5,hv,h5⟩:=zbc ok hr hv
    obtain ⟨x6,hv,h6⟩:=zbc ok hr hv
    obtain ⟨x7,hk,h7⟩:=zbc ok hr hv
    exact ⟨(x1,x2,x3,x4,x5,x6,x7),_,hk,step h1 (step h2 (step h3 (step h4 (step h5 (step h6 (step h7 nil)))))),rfl⟩
  · exact hv.elim
end
theorem allLt_mem {n:Nat} {l:List Nat} (h:allLt n l=true):∀d∈l,d<n:=by
  induction l with
  | nil=>simp
  | cons a l ih=>
    simp only [allLt] at h
    obtain ⟨h1,h2⟩:=condT h
    intro d hd
    rcases List.mem_cons.1 hd with rfl | hd
    · have:d+1<=n:=by simpa [Nat.blt] using h1
      exact this
    grind
theorem zaa {C:Ctx} (ok:C.tb.Ok C.P) {g:FuncId} {f:Func} {c:Code} {A:Ann} {args:List Value} {K:(shRes C.tb f.resultTypes.toList).T->Hp->Prop} {h:Hp} (hf:C.P.funcs[g]? =some f) (hb:f.body=some c)
    (hv:funW C f A args K h):CallT C.P g args (shRes C.tb f.resultTypes.toList) K h:=by
  intro w hs
  unfold funW at hv
  obtain ⟨hc,hv⟩:=condP hv
  obtain ⟨h1,h2⟩:=condT hc
  have h1:args.length<=f.ntmps:=Nat.le_of_ble_eq_true h1
  have hbody:zvi1 f=c:=by unfold zvi1;rw [hb]
  rw [hbody] at hv h2
  refine calls_of_wp hf hb ?_
  have hget:∀(t:Nat) (v:Value),args[t]? =some v->(args.toArray++Array.replicate (f.ntmps-args.toArray.size) undef)[t]? =some v:=by
    grind
  have hargs:∀(t:Nat) (l:LV) (c:Chain),argsF args t=some (l,c)->∃v,args[t]? =some v/\l=.v v/\c=[]:=by
    intro t l c e
    unfold argsF at e
    rw [zda] at e
    grind
  have hrel:Rel f.ntmps (fun _=>0) {f:=argsF args,m:=fun _=>none} {tmps:=args.toArray++Array.replicate (f.ntmps-args.toArray.size) undef,defers:=[]} h w:=by
    refine ⟨by simp;omega,hs,fun t l c e=> ?_,fun t l c e p hp=> ?_,fun t l c e _ _=> ?_,fun t l c e _ hh=> ?_,fun k cs e _=>(by cases e),fun k k' e=>absurd rfl e,fun _ e=>e.elim,fun _ e=>e.elim⟩
    · grind
    · grind
    · obtain ⟨v,h3,rfl,rfl⟩:=hargs t l c e
      refine ⟨?_,fun _ _ _=>trivial⟩
      simp only [Act.eval,LVal,Array.getD_eq_getD_getElem?,hget t v h3,Option.getD_some]
    · obtain ⟨v,h3,rfl,rfl⟩:=hargs t l c e
      exact absurd (holds_nil _) hh
  refine lift_sound ok c A C.priv _ _ h (allLt_mem h2) hv _ _ w hrel _ fun e s' h' β' a' w' he hr' hs'=> ?_
  have hst:Step h h' w w':=⟨hr'.sub,hs'.size,fun b hb hn=>⟨hs'.keep b hb hn (fun k _ hl=>absurd rfl hl.1),hs'.unk b hb hn (fun k _ hl=>absurd rfl hl.1)⟩,hs'.os,hs'.tape,hs'.output⟩
  have done:retW C s' h' f.results.toList f.resultTypes.toList K->a'.defers=[]/\∃v,(results f a'.tmps).run C.P w'=.ok v w'/\∃u h2,Ending.returned v=.returned u/\(∃x,u=(shRes C.tb f.resultTypes.toList).enc x/\K x h2)/\Step h h2 w w':=by
    intro hw
    obtain ⟨x,vs,hk,hrun,hval⟩:=retW_run ok hr' hw
    exact ⟨hs'.defers,_,results_run hrun,_,h',rfl,⟨x,hval,hk⟩,hst⟩
  cases e with
  | nrm=>exact done he
  | ret=>exact done he
  | ext i=>exact he.elim
  | gto i=>exact he.elim
def JoinW0 (A:(Hp->Prop)->Prop) (B:Hp->Prop):Prop:=
  JoinT (σ:=Unit) (fun R=>A (fun h=>R () h)) (fun _ h=>B  h)
theorem JoinW0.intro {A:(Hp->Prop)->Prop} {B:Hp->Prop} (R:Hp->Prop) (hA:A R) (hB:∀h,R h->B h):JoinW0 A B:=
  ⟨fun _ h=>R  h,hA,fun _ h hr=>hB  h hr⟩
theorem JoinW0.direct {A:(Hp->Prop)->Prop} {B:Hp->Prop} (hA:A B):JoinW0 A B:=JoinW0.intro B hA (fun _ hr=>hr)
def JoinW1 {α1:Type} (A:(α1->Hp->Prop)->Prop) (B:α1->Hp->Prop):Prop:=
  JoinT (σ:=α1) (fun R=>A (fun x1 h=>R x1 h)) (fun p h=>B p h)
theorem JoinW1.intro {α1:Type} {A:(α1->Hp->Prop)->Prop} {B:α1->Hp->Prop} (R:α1->Hp->Prop) (hA:A R) (hB:∀x1 h,R x1 h->B x1 h):JoinW1 A B:=
  ⟨fun p h=>R p h,hA,fun p h hr=>hB p h hr⟩
theorem JoinW1.direct {α1:Type} {A:(α1->Hp->Prop)->Prop} {B:α1->Hp->Prop} (hA:A B):JoinW1 A B:=JoinW1.intro B hA (fun _ _ hr=>hr)
def LoopW1 {α1:Type} (body:(α1->Hp->Prop)->α1->Hp->Prop) (x1:α1) (h:Hp):Prop:=
  LoopT (σ:=α1) (fun R p h=>body (fun x1 h=>R x1 h) p h) x1 h
theorem LoopW1.intro {α1:Type} {body:(α1->Hp->Prop)->α1->Hp->Prop} {x1:α1} {h:Hp} (I:α1->Hp->Prop) (μ:α1->Hp->Nat)
    (h0:I x1 h) (hr:∀x1 k,I x1 k->body (fun y1 k'=>I y1 k'/\μ y1 k'<μ x1 k) x1 k):LoopW1 body x1 h:=
  ⟨fun p h=>I p h,fun p h=>μ p h,h0,fun p k hk=>hr p k hk⟩
def JoinW2 {α1 α2:Type} (A:(α1->α2->Hp->Prop)->Prop) (B:α1->α2->Hp->Prop):Prop:=
  JoinT (σ:=α1×α2) (fun R=>A (fun x1 x2 h=>R (x1,x2) h)) (fun p h=>B p.1 p.2 h)
theorem JoinW2.intro {α1 α2:Type} {A:(α1->α2->Hp->Prop)->Prop} {B:α1->α2->Hp->Prop} (R:α1->α2->Hp->Prop) (hA:A R) (hB:∀x1 x2 h,R x1 x2 h->B x1 x2 h):JoinW2 A B:=
  ⟨fun p h=>R p.1 p.2 h,hA,fun p h hr=>hB p.1 p.2 h hr⟩
theorem JoinW2.direct {α1 α2:Type} {A:(α1->α2->Hp->Prop)->Prop} {B:α1->α2->Hp->Prop} (hA:A B):JoinW2 A B:=JoinW2.intro B hA (fun _ _ _ hr=>hr)
def LoopW2 {α1 α2:Type} (body:(α1->α2->Hp->Prop)->α1->α2->Hp->Prop) (x1:α1) (x2:α2) (h:Hp):Prop:=
  LoopT (σ:=α1×α2) (fun R p h=>body (fun x1 x2 h=>R (x1,x2) h) p.1 p.2 h) (x1,x2) h
theorem LoopW2.intro {α1 α2:Type} {body:(α1->α2->Hp->Prop)->α1->α2->Hp->Prop} {x1:α1} {x2:α2} {h:Hp} (I:α1->α2->Hp->Prop) (μ:α1->α2->Hp->Nat)
    (h0:I x1 x2 h) (hr:∀x1 x2 k,I x1 x2 k->body (fun y1 y2 k'=>I y1 y2 k'/\μ y1 y2 k'<μ x1 x2 k) x1 x2 k):LoopW2 body x1 x2 h:=
  ⟨fun p h=>I p.1 p.2 h,fun p h=>μ p.1 p.2 h,h0,fun p k hk=>hr p.1 p.2 k hk⟩
def LoopW3 {α1 α2 α3:Type} (body:(α1->α2->α3->Hp->Prop)->α1->α2->α3->Hp->Prop) (x1:α1) (x2:α2) (x3:α3) (h:Hp):Prop:=
  LoopT (σ:=α1×α2×α3) (fun R p h=>body (fun x1 x2 x3 h=>R (x1,x2,x3) h) p.1 p.2.1 p.2.2 h) (x1,x2,x3) h
theorem LoopW3.intro {α1 α2 α3:Type} {body:(α1->α2->α3->Hp->Prop)->α1->α2->α3->Hp->Prop} {x1:α1} {x2:α2} {x3:α3} {h:Hp} (I:α1->α2->α3->Hp->Prop) (μ:α1->α2->α3->Hp->Nat)
    (h0:I x1 x2 x3 h) (hr:∀x1 x2 x3 k,I x1 x2 x3 k->body (fun y1 y2 y3 k'=>I y1 y2 y3 k'/\μ y1 y2 y3 k'<μ x1 x2 x3 k) x1 x2 x3 k):LoopW3 body x1 x2 x3 h:=
  ⟨fun p h=>I p.1 p.2.1 p.2.2 h,fun p h=>μ p.1 p.2.1 p.2.2 h,h0,fun p k hk=>hr p.1 p.2.1 p.2.2 k hk⟩
def Call2 (P:Program) (g:FuncId) (args:List Value) (s1 s2:Shape) (K:s1.T->s2.T->Hp->Prop) (h:Hp):Prop:=
  CallT P g args (zgl s1 s2) (fun p h'=>K p.1 p.2 h') h
def Call3 (P:Program) (g:FuncId) (args:List Value) (s1 s2 s3:Shape) (K:s1.T->s2.T->s3.T->Hp->Prop) (h:Hp):Prop:=
  CallT P g args (zlp1 s1 s2 s3) (fun p h'=>K p.1 p.2.1 p.2.2 h') h
def Call4 (P:Program) (g:FuncId) (args:List Value) (s1 s2 s3 s4:Shape) (K:s1.T->s2.T->s3.T->s4.T->Hp->Prop) (h:Hp):Prop:=
  CallT P g args (zbk2 s1 s2 s3 s4) (fun p h'=>K p.1 p.2.1 p.2.2.1 p.2.2.2 h') h
def Call5 (P:Program) (g:FuncId) (args:List Value) (s1 s2 s3 s4 s5:Shape) (K:s1.T->s2.T->s3.T->s4.T->s5.T->Hp->Prop) (h:Hp):Prop:=
  CallT P g args (zbl2 s1 s2 s3 s4 s5) (fun p h'=>K p.1 p.2.1 p.2.2.1 p.2.2.2.1 p.2.2.2.2 h') h
def Call0 (P:Program) (g:FuncId) (args:List Value) (K:Hp->Prop) (h:Hp):Prop:=
  CallT P g args zrf (fun _ h'=>K h') h
def SemE0 (P:Program) (s:Sem Value) (_:Shape) (K:Hp->Prop) (h:Hp):Prop:=SemE P s zrf (fun _ h'=>K h') h
def Rw {α:Type} (h:Hp) (sz:Nat) (enc:α->List Value) (l:Sl) (xs:List α):Prop:=
  l.len=xs.length/\zei h l.base (xs.length*sz) (xs.flatMap enc)
section
variable {α:Type} {h h':Hp} {sz:Nat} {enc:α->List Value} {l:Sl} {xs:List α}
theorem zra1 (hl:h<=h') {a:Addr} {v:Value} (e:hcell h a=some v):hcell h' a=some v:=by
  unfold hcell at e ⊢
  split at e
  · rename_i c t f hb
    rw [hl _ _ hb]
    exact e
  · cases e
theorem zbl (hl:h<=h') {a:Addr} {cs:List Value} (e:LdIs h a cs):LdIs h' a cs:=fun i v hv=>zra1 hl (e i v hv)
theorem Rw.mono (hl:h<=h') (r:Rw h sz enc l xs):Rw h' sz enc l xs:=by
  obtain ⟨h1,h2,h3⟩:=r
  refine ⟨h1,h2,h3.imp id ?_⟩
  rintro ⟨a,ha,hc⟩
  exact ⟨a,ha,zbl hl hc⟩
theorem zcs2 (henc:∀x,(enc x).length=sz):∀(xs:List α) (i:Nat) (x:α),xs[i]? =some x->∀j v,(enc x)[j]? =some v->(xs.flatMap enc)[i*sz+j]? =some v
  | [],i,x,hx,_,_,_=>by simp at hx
  | y::xs,0,x,hx,j,v,hv=>by
    grind
  | y::xs,i+1,x,hx,j,v,hv=>by
    have:=zcs2 henc xs i x (by simpa using hx) j v hv
    grind
theorem Rw.read (r:Rw h sz enc l xs) (henc:∀x,(enc x).length=sz) (hsz:0<sz) {i:Int} (h0:0<=i) (h1:i<(l.len:Int)):
    InB l.base l.len i/\∃x,xs[i.toNat]? =some x/\LdIs h (sat l.base sz i) (enc x):=by
  obtain ⟨h2,h3,h4⟩:=r
  have hi:i.toNat<xs.length:=by omega
  have hne:xs.length*sz≠0:=by
    have:0<xs.length:=by omega
    exact Nat.ne_of_gt (Nat.mul_pos this hsz)
  obtain ⟨a,ha,hc⟩:=h4.resolve_left hne
  refine ⟨⟨by simp [ha],h0,h1⟩,xs[i.toNat],by simp [hi],fun j v hv=> ?_⟩
  have:=hc (i.toNat*sz+j) v (zcs2 henc xs i.toNat _ (by simp [hi]) j v hv)
  unfold sat
  rw [ha,Option.getD_some,zmr]
  exact this
def Own (h0 h:Hp) (sz:Nat) (enc:α->List Value) (l:Sl) (xs:List α):Prop:=
  l.len=xs.length/\l.len<=l.cap/\((l.base=none/\l.cap=0)\/
    ∃(b:Nat) (cs:List Value) (t:Nat),l.base=some ⟨b,0,none⟩/\h b=some (.cells cs.toArray t (0,0))/\cs.length=l.cap*sz/\cs.take (l.len*sz)=xs.flatMap enc/\h0 b=none)
theorem zaq (henc:∀x,(enc x).length=sz):∀xs:List α,(xs.flatMap enc).length=xs.length*sz
  | []=>by simp
  | x::xs=>by
    simp only [List.flatMap_cons,List.length_append,henc,zaq henc xs,List.length_cons,Nat.add_mul,Nat.one_mul]
    omega
theorem zcw1 (hok:∀x,zax (enc x)=true):∀xs:List α,zax (xs.flatMap enc)=true:=by
  have app:∀a b:List Value,zax a=true->zax b=true->zax (a++b)=true:=by
    intro a b ha hb
    induction a with
    | nil=>exact hb
    | cons v a ih=>cases v<;>first | (exact ih ha) | (cases ha)
  intro xs
  induction xs with
  | nil=>rfl
  | cons x xs ih=>grind
theorem zhz {b:Nat} {cs:List Value} {t:Nat} (e:h b=some (.cells cs.toArray t (0,0))) (i:Nat):hcell h ⟨b,i,none⟩=cs[i]?:=by
  unfold hcell
  simp [e]
theorem Own.rw {h0:Hp} (o:Own h0 h sz enc l xs) (henc:∀x,(enc x).length=sz):Rw h sz enc l xs:=by
  obtain ⟨h1,h2,h3⟩:=o
  refine ⟨h1,zaq henc xs,?_⟩
  rcases h3 with ⟨e,ec⟩ | ⟨b,cs,t,e,hb,hl,ht,_⟩
  · grind
  · right
    refine ⟨_,e,fun j v hv=> ?_⟩
    rw [zbh,zhz hb,Nat.zero_add]
    grind
theorem Own.mono {h0:Hp} (hl:h<=h') (o:Own h0 h sz enc l xs):Own h0 h' sz enc l xs:=by
  obtain ⟨h1,h2,h3⟩:=o
  refine ⟨h1,h2,h3.imp id ?_⟩
  rintro ⟨b,cs,t,e1,e2,e3⟩
  exact ⟨b,cs,t,e1,hl _ _ e2,e3⟩
theorem zzf1 {h0:Hp} {zero:List Value} {bytes:Nat} {x:Sl} {ys:List α} {K:Sl->Hp->Prop} (hw:h0<=h) (o:Own h0 h sz enc l xs) (r:Rw h sz enc x ys) (henc:∀x,(enc x).length=sz) (hok:∀x,zax (enc x)=true)
    (hz:zero.length=sz) (hb:xs.length+ys.length<=140737488355328/\(xs.length+ys.length)*bytes<=140737488355328)
    (hk:∀l' h',h0<=h'->Own h0 h' sz enc l' (xs++ys)->(∀b ob,h b=some ob->(∀a,l.base=some a->a.block≠b)->h' b=some ob)->K l' h'):zai sz bytes zero l x K h:=by
  have hrw:=o.rw henc
  obtain ⟨h1,h2,h3⟩:=o
  obtain ⟨hx1,hx2⟩:=r
  refine ⟨ys.flatMap enc,by grind,xs.flatMap enc,by rw [h1];exact hrw.2,by grind,zcw1 hok ys,fun hcap=> ?_,fun hcap c b t hc hbn=> ?_⟩
  · rcases h3 with ⟨e,ec⟩ | ⟨b,cs,t,e,hbk,hl,ht,hn⟩
    · -- nothing is put
      have e1:ys.length=0:=by omega
      have e2:ys=[]:=List.length_eq_zero_iff.1 e1
      subst e2
      refine ⟨fun a ha=>(by grind),?_⟩
      have e3:putO h l.base (l.len*sz) (([]:List α).flatMap enc)=h:=by rw [e];rfl
      rw [e3,hx1]
      refine hk _ h hw ⟨by simp [h1],by simpa using h2,.inl ⟨e,ec⟩⟩ fun _ _ e _=>e
    · have hle:l.len*sz+(ys.flatMap enc).length<=cs.length:=by
        rw [hl,zaq henc,<-Nat.add_mul]
        exact Nat.mul_le_mul_right sz (by omega)
      obtain ⟨p1,p2⟩:=zev1 b t (ys.flatMap enc) h 0 (l.len*sz) cs (by simpa using hle) hbk
      have hst:∀(k:Nat),l.len*sz+k<=cs.length->StOk h (⟨b,l.len*sz,none⟩:Addr) k:=by
        intro k
        induction k with
        | zero=>intro _;trivial
        | succ k ih=>
          intro hk'
          refine ⟨ih (by omega),⟨cs[l.len*sz+k]'(by omega),?_⟩,?_⟩
          · rw [zbh,zhz hbk]
            simp
          · rw [zbh]
            unfold hfroz
            simp [hbk]
      refine ⟨fun a ha=> ?_,?_⟩
      · rw [e] at ha;cases ha
        rw [zbh,Nat.zero_add]
        refine hst _ ?_
        rw [hx1,<-zaq henc ys]
        exact hle
      · have e3:putO h l.base (l.len*sz) (ys.flatMap enc)=putL h ⟨b,l.len*sz,none⟩ (ys.flatMap enc) 0:=by
          rw [e]
          simp only [putO,zbh,Nat.zero_add]
        rw [e3]
        rw [Nat.add_zero] at p1
        refine hk _ _ (fun b' ob eb=> ?_) ⟨by simp [h1,hx1],hcap,.inr ⟨b,_,t,e,p1,?_,?_,hn⟩⟩ fun b' ob eb hne=> ?_
        · have hne:b'≠b:=fun e'=>by rw [e',hn] at eb;cases eb
          rw [p2 b' hne]
          exact hw _ _ eb
        · rw [zys1 _ _ _ hle,hl]
        · rw [zuf _ _ _ hle]
          have e4:(l.len+x.len)*sz=(cs.take (l.len*sz)++ys.flatMap enc).length:=by
            rw [List.length_append,ht,zaq henc,zaq henc,h1,hx1,Nat.add_mul]
          rw [e4,List.take_left,ht,List.flatMap_append]
        grind
  · have hh:∀b' ob,h b'=some ob->(h.set b (.cells (xs.flatMap enc++ys.flatMap enc++zap zero (c-(l.len+x.len))).toArray t (0,0))) b'=some ob:=fun b' ob eb=>by
      have hne:b'≠b:=fun e'=>by grind
      simp [Hp.set,hne,eb]
    refine hk _ _ (fun b' ob eb=>hh b' ob (hw _ _ eb)) ⟨by simp [h1,hx1],hc,.inr ⟨b,xs.flatMap enc++ys.flatMap enc++zap zero (c-(l.len+x.len)),t,rfl,by simp [Hp.set],?_,?_,?_⟩⟩ fun b' ob eb _=>hh b' ob eb
    · have hzl:∀k,(zap zero k).length=k*sz:=fun k=>by simp [zap,hz]
      rw [List.length_append,List.length_append,zaq henc,zaq henc,hzl,<-Nat.add_mul,<-Nat.add_mul]
      grind
    · have e4:(l.len+x.len)*sz=(xs.flatMap enc++ys.flatMap enc).length:=by
        rw [List.length_append,zaq henc,zaq henc,h1,hx1,Nat.add_mul]
      grind
    · cases e0:h0 b with
      | none=>rfl
      | some ob=>rw [hw _ _ e0] at hbn;cases hbn
end
abbrev Rs (h:Hp) (sh:Shape) (sz:Nat) (l:Sl) (xs:List sh.T):Prop:=Rw h sz (fun x=>zac (sh.enc x)) l xs
section
variable {h h':Hp} {sh:Shape} {sz:Nat} {l:Sl} {xs:List sh.T} {K:sh.T->Prop} {i:Int}
theorem Rs.get (r:Rs h sh sz l xs) (henc:∀x,(zac (sh.enc x)).length=sz) (hsz:0<sz) (h0:0<=i) (h1:i<(xs.length:Int)) (hk:∀x,xs[i.toNat]? =some x->K x):
    InB l.base l.len i/\LdW none sh h (sat l.base sz i) K:=by
  obtain ⟨e1,x,hx,hl⟩:=Rw.read r henc hsz h0 (by rw [r.1];exact h1)
  exact ⟨e1,x,hl,hk x hx⟩
theorem Rs.getC {c:Bool} (r:Rs h sh sz l xs) (x0:sh.T) (henc:∀x,(zac (sh.enc x)).length=sz) (hsz:0<sz) (h0:c=true->0<=i/\i<(xs.length:Int)) (hk:∀x,(c=true->xs[i.toNat]? =some x)->K x):
    (c=true->InB l.base l.len i)/\LdW (some c) sh h (sat l.base sz i) K:=by
  cases c with
  | false=>exact ⟨fun e=>(by cases e),x0,fun e=>(by cases e),hk x0 fun e=>(by cases e)⟩
  | true=>
    obtain ⟨e1,x,hx,hl⟩:=Rw.read r henc hsz (h0 rfl).1 (by rw [r.1];exact (h0 rfl).2)
    exact ⟨fun _=>e1,x,fun _=>hl,hk x fun _=>hx⟩
theorem ld_at {a:Addr} (x:sh.T) (hl:LdIs h a (zac (sh.enc x))) (hk:K x):LdW none sh h a K:=⟨x,hl,hk⟩
theorem letW {α:Type} {x:α} {K:α->Prop} (hk:K x):LetW x K:=fun _ e=>e▸hk
theorem wrap64 {n:Int} (h0: -9223372036854775808<=n) (h1:n<9223372036854775808):IntKind.wrap .i64 n=n:=by
  unfold IntKind.wrap
  simp only [IntKind.signed,IntKind.bits]
  grind
end
theorem zgy1 {α:Type} {h0 h:Hp} {sz:Nat} {enc:α->List Value} {cs:List Value} {xs:List α} {K:Addr->Hp->Prop} (hw:h0<=h) (hc:cs=xs.flatMap enc) (henc:∀x,(enc x).length=sz)
    (hk:∀a h',h<=h'->Own h0 h' sz enc ⟨some a,xs.length,xs.length⟩ xs->K a h'):NewW cs K h:=by
  intro b t hb
  have hle:h<=h.set b (.cells cs.toArray t (0,0)):=fun b' o e=>by
    have hne:b'≠b:=fun e'=>by grind
    simp [Hp.set,hne,e]
  refine hk _ _ hle ⟨rfl,Nat.le_refl _,.inr ⟨b,cs,t,rfl,by simp [Hp.set],?_,?_,?_⟩⟩
  · rw [hc,zaq henc]
  · have:(xs.length*sz)=(xs.flatMap enc).length:=(zaq henc xs).symm
    grind
  · cases e0:h0 b with
    | none=>rfl
    | some ob=>rw [hw _ _ e0] at hb;cases hb
def CKeep (h h':Hp):Prop:=∀a v,hcell h a=some v->hcell h' a=some v
theorem CKeep.of_le {h h':Hp} (hl:h<=h'):CKeep h h':=fun _ _ e=>zra1 hl e
theorem zio2 {h h':Hp} (hl:CKeep h h') {a:Addr} {cs:List Value} (e:LdIs h a cs):LdIs h' a cs:=fun i v hv=>hl _ _ (e i v hv)
theorem Rw.ck {α:Type} {h h':Hp} {sz:Nat} {enc:α->List Value} {l:Sl} {xs:List α} (hl:CKeep h h') (r:Rw h sz enc l xs):Rw h' sz enc l xs:=by
  obtain ⟨h1,h2,h3⟩:=r
  refine ⟨h1,h2,h3.imp id ?_⟩
  rintro ⟨a,ha,hc⟩
  exact ⟨a,ha,zio2 hl hc⟩
theorem zse2 {h:Hp} {m:Nat} {o o':Obj} (e:h m=some o) (hc:isCells o=false):CKeep h (h.set m o'):=by
  intro a v hv
  obtain ⟨c,t,fr,hb,hsp,hg⟩:=zmq hv
  have hne:a.block≠m:=fun e'=>by rw [e',e] at hb;cases hb;cases hc
  unfold hcell at hv ⊢
  have:(h.set m o') a.block=h a.block:=by simp [Hp.set,hne]
  rw [this]
  exact hv
theorem zcu {h:Hp} {b:Nat} {o:Obj} (hn:h b=none):h<=h.set b o:=fun b' o' e=>by
  have hne:b'≠b:=fun e'=>by rw [e',hn] at e;cases e
  simp [Hp.set,hne,e]
theorem zbw {h:Hp} {b:Nat} {o:Obj}:(h.set b o) b=some o:=by simp [Hp.set]
theorem zez1 {h h0:Hp} {b:Nat} {o:Obj} (hl:h0<=h) (hn:h0 b=none):h0<=h.set b o:=fun b' o' e=>by
  have hne:b'≠b:=fun e'=>by rw [e',hn] at e;cases e
  simp only [Hp.set,hne,if_false]
  exact hl _ _ e
theorem zbz {h0 h:Hp} {b:Nat} (hl:h0<=h) (hn:h b=none):h0 b=none:=by
  cases e:h0 b with
  | none=>rfl
  | some o=>rw [hl _ _ e] at hn;cases hn
theorem zul {h:Hp} {b t:Nat} {cs:List Value}:LdIs (h.set b (.cells cs.toArray t (0,0))) ⟨b,0,none⟩ cs:=fun i v hv=>by
  rw [zbh,zhz zbw,Nat.zero_add]
  exact hv
theorem effT {α:Type} {A:(α->Hp->Prop)->Hp->Prop} {K:α->Hp->Prop} {h:Hp} (hk:A K h):EffC (some true) A K h:=⟨fun _=>hk,fun e=>by cases e⟩
theorem zab {p:Addr} {c:Option Bool} {K:Addr->Prop} (hk:K p):NilW c (some p) K:=by
  refine ⟨p,?_,hk⟩
  cases c with
  | none=>rfl
  | some b=>exact fun _=>rfl
theorem zsn1 {P:Program} {t:Nat} {d:TypeDesc} (hu:P.underlying t=some d) {K:TypeDesc->Hp->Prop} {h:Hp} (hk:K d h):semW P (underlying t) K h:=by
  show semW P (match P.underlying t with
    | some d=>Sem.pure d
    | none=>_) K h
  rw [hu]
  exact hk
theorem zmm1 {P:Program} {tb:Tb} (ok:tb.Ok P) {t:Nat} {e:Ty} (he:tb.ty t=some e) {K:Value->Hp->Prop} {h:Hp} (hk:K e.zero h):semW P (zeroValue t) K h:=by
  obtain ⟨i,e1,_,_,e4⟩:=ok.info t e he
  have key:semW P (match P.info? t with
    | some d=>(match d.zero with
      | some v=>Sem.pure v
      | none=>unsupported (.resourceLimit "a value of more than 2^22 cells"))
    | none=>stuck "no such type") K h:=by
    rw [e1]
    dsimp only
    rw [e4]
    exact hk
  cases hi:P.info? t with
  | none=>rw [e1] at hi;cases hi
  | some d=>
    rw [hi] at key
    show semW P (Sem.bind (match P.info? t with
      | some d=>Sem.pure d
      | none=>_) _) K h
    rw [hi]
    exact key
theorem zfa1 {P:Program} {s:Sem Value} {h:Hp} {v:Value} (hi:semW P s (fun u h'=>u=v/\h'=h) h):SemIs P s h v:=by
  intro w hs
  obtain ⟨a,w',h',hr,⟨ha,hh⟩,hst⟩:=zsv s hs hi
  subst ha;subst hh
  exact ⟨w',hr,hst⟩
theorem zys {P:Program} {s:Sem Value} {h:Hp} {v:Value} (hi:∀w,s.run P w=.ok v w):SemIs P s h v:=fun w hs=>⟨w,hi w,.refl hs⟩
theorem zum {P:Program} {t e:Nat} {x y:Operand} {h:Hp} (hu:P.underlying t=some (.slice e)) (s:Sl):SemIs P (binS .eql t x y s.v (.slice none 0 0)) h (.bool s.base.isNone):=by
  have key:∀d,semW P (Op.equalIn (d+1) t s.v (.slice none 0 0)) (fun u h'=>u=s.base.isNone/\h'=h) h:=by
    intro d
    unfold Op.equalIn
    refine (zlo1 _ _).2 (zsn1 hu ?_)
    cases hb:s.base with
    | none=>simp only [Sl.v,hb];exact ⟨rfl,rfl⟩
    | some a=>simp only [Sl.v,hb];exact ⟨rfl,rfl⟩
  refine zfa1 ?_
  show semW P (Sem.bind (Op.equal t s.v (.slice none 0 0)) fun b=>Sem.pure (Value.bool b)) _ h
  refine (zlo1 _ _).2 (zgy2 _ (fun a k hk=> ?_) (key 9999))
  obtain ⟨rfl,rfl⟩:=hk
  exact ⟨rfl,rfl⟩
theorem zip2 {h:Hp} {a:Addr} {cs:List Value} (e:LdIs h a cs) (n:Nat):LdIs h (a.add n) (cs.drop n):=fun i v hv=>by
  rw [zmr]
  exact e (n+i) v (by simpa [List.getElem?_drop] using hv)
theorem zlf {α:Type} {sz:Nat} {enc:α->List Value} (henc:∀x,(enc x).length=sz):∀(xs:List α) (n:Nat),(xs.drop n).flatMap enc=(xs.flatMap enc).drop (n*sz)
  | [],n=>by simp
  | x::xs,0=>by simp
  | x::xs,n+1=>by
    simp only [List.drop_succ_cons,List.flatMap_cons]
    have e:(enc x).drop (n*sz+sz)=[]:=List.drop_eq_nil_of_le (by rw [henc];omega)
    rw [zlf henc xs n,Nat.add_mul,Nat.one_mul,List.drop_append,henc,e,List.nil_append,Nat.add_sub_cancel]
theorem znt {α:Type} {sz:Nat} {enc:α->List Value} (henc:∀x,(enc x).length=sz):∀(xs:List α) (n:Nat),(xs.take n).flatMap enc=(xs.flatMap enc).take (n*sz)
  | [],n=>by simp
  | x::xs,0=>by simp
  | x::xs,n+1=>by
    simp only [List.take_succ_cons,List.flatMap_cons]
    have e:(enc x).take (n*sz+sz)=enc x:=List.take_of_length_le (by rw [henc];omega)
    rw [znt henc xs n,Nat.add_mul,Nat.one_mul,List.take_append,henc,e,Nat.add_sub_cancel]
theorem Rw.cut {α:Type} {h:Hp} {sz:Nat} {enc:α->List Value} {l:Sl} {xs:List α} (r:Rw h sz enc l xs) (henc:∀x,(enc x).length=sz) {a b c n m:Nat} (hab:a<=b) (hb:b<=xs.length) (hc:b<=c) (hn:n=b-a):
    Rw h sz enc ⟨sbase l.base sz a c,n,m⟩ ((xs.drop a).take (b-a)):=by
  obtain ⟨h1,h2,h3⟩:=r
  have hlen:((xs.drop a).take (b-a)).length=b-a:=by rw [List.length_take,List.length_drop];omega
  refine ⟨hn.trans hlen.symm,zaq henc _,?_⟩
  rw [hlen]
  by_cases h0:(b-a)*sz=0
  · exact .inl h0
  · right
    have hba:b-a≠0:=fun e=>h0 (by rw [e,Nat.zero_mul])
    have hsz:sz≠0:=fun e=>h0 (by rw [e,Nat.mul_zero])
    have hx:xs.length*sz≠0:=Nat.mul_ne_zero (by omega) hsz
    obtain ⟨p,hp,hl⟩:=h3.resolve_left hx
    refine ⟨p.add (a*sz),?_,fun i v hv=> ?_⟩
    · unfold sbase
      rw [if_neg (show ¬c=a by omega),hp]
      rfl
    · rw [znt henc,zlf henc,List.getElem?_take] at hv
      split at hv
      · exact zip2 hl (a*sz) i v hv
      · cases hv
structure Mv (F:List Nat) (h:Hp) (F':List Nat) (h':Hp):Prop where
  keep:∀b o,h b=some o->b∉F->h' b=some o
  from_:∀b∈F',b∈F\/h b=none
theorem Mv.refl (F:List Nat) (h:Hp):Mv F h F h:=⟨fun _ _ e _=>e,fun _ e=>.inl e⟩
theorem Mv.trans {F F' F'':List Nat} {h h' h'':Hp} (a:Mv F h F' h') (b:Mv F' h' F'' h''):Mv F h F'' h'':=by
  refine ⟨fun i o e hn=>b.keep i o (a.keep i o e hn) fun hf=> ?_,fun i hi=> ?_⟩
  · rcases a.from_ i hf with h1 | h1
    · exact hn h1
    grind
  · rcases b.from_ i hi with h1 | h1
    · exact a.from_ i h1
    · cases e:h i with
      | none=>exact .inr rfl
      | some o=>
        left
        refine Classical.byContradiction fun hn=> ?_
        rw [a.keep i o e hn] at h1;cases h1
theorem Mv.of_le {h h':Hp} (F:List Nat) (hl:h<=h'):Mv F h F h':=⟨fun b o e _=>hl b o e,fun _ e=>.inl e⟩
theorem Mv.le {F F':List Nat} {h0 h h':Hp} (a:Mv F h F' h') (hl:h0<=h) (hf:∀b∈F,h0 b=none):h0<=h'/\∀b∈F',h0 b=none:=by
  refine ⟨fun b o e=>a.keep b o (hl b o e) fun hb=>(by grind),fun b hb=> ?_⟩
  rcases a.from_ b hb with h1 | h1
  · exact hf b h1
  · exact zbz hl h1
theorem Mv.wide {F F':List Nat} {h h':Hp} (a:Mv F h F' h') (G:List Nat):Mv (F++G) h (F'++G) h':=
  ⟨fun b o e hn=>a.keep b o e fun hb=>hn (List.mem_append_left _ hb),fun b hb=>by
    rcases List.mem_append.1 hb with hb | hb
    · rcases a.from_ b hb with h1 | h1
      · exact .inl (List.mem_append_left _ h1)
      · exact .inr h1
    grind⟩
theorem Mv.sub {F F' G G':List Nat} {h h':Hp} (a:Mv F h F' h') (h1:∀b∈F,b∈G) (h2:∀b∈G',b∈F'\/b∈G\/h b=none):Mv G h G' h':=
  ⟨fun b o e hn=>a.keep b o e fun hb=>hn (h1 b hb),fun b hb=>by
    rcases h2 b hb with h3 | h3
    · rcases a.from_ b h3 with h4 | h4
      · grind
      · exact .inr h4
    · exact h3⟩
theorem Mv.set {h:Hp} {b:Nat} {o:Obj}:Mv [b] h [b] (h.set b o):=by
  refine ⟨fun i x e hn=> ?_,fun i hi=>.inl hi⟩
  have hne:i≠b:=fun e'=>hn (by grind)
  simp only [Hp.set,hne,if_false]
  exact e
theorem Mv.new {h:Hp} {b:Nat} {o:Obj} (hn:h b=none):Mv [] h [b] (h.set b o):=
  ⟨fun i x e _=>zcu hn i x e,fun i hi=>.inr (by grind)⟩
def Blk (h:Hp) (b:Nat) (cs:List Value):Prop:=∃t,h b=some (.cells cs.toArray t (0,0))
theorem Blk.mv {F F':List Nat} {h h':Hp} {b:Nat} {cs:List Value} (k:Blk h b cs) (a:Mv F h F' h') (hn:b∉F):Blk h' b cs:=by
  obtain ⟨t,e⟩:=k
  exact ⟨t,a.keep b _ e hn⟩
theorem Blk.le {h h':Hp} {b:Nat} {cs:List Value} (k:Blk h b cs) (hl:h<=h'):Blk h' b cs:=by
  obtain ⟨t,e⟩:=k
  exact ⟨t,hl _ _ e⟩
theorem Blk.known {h:Hp} {b:Nat} {cs:List Value} (k:Blk h b cs):h b≠none:=by
  obtain ⟨t,e⟩:=k
  rw [e];simp
def at_ (b off:Nat):Addr:=⟨b,off,none⟩
theorem Blk.ldIs {h:Hp} {b:Nat} {cs:List Value} (k:Blk h b cs) {off n:Nat} {vs:List Value} (e:(cs.drop off).take n=vs):LdIs h ⟨b,off,none⟩ vs:=by
  obtain ⟨t,hb⟩:=k
  intro i v hv
  rw [zbh,zhz hb]
  grind
theorem Blk.stOk {h:Hp} {b:Nat} {cs:List Value} (k:Blk h b cs) {off:Nat}:∀n,off+n<=cs.length->StOk h ⟨b,off,none⟩ n
  | 0,_=>trivial
  | n+1,hn=>by
    obtain ⟨t,hb⟩:=k
    refine ⟨Blk.stOk ⟨t,hb⟩ n (by omega),⟨cs[off+n]'(by omega),?_⟩,?_⟩
    · rw [zbh,zhz hb]
      simp
    · rw [zbh]
      unfold hfroz
      simp [hb]
theorem Blk.put {h:Hp} {b:Nat} {cs new:List Value} (k:Blk h b cs) {off:Nat} (hl:off+new.length<=cs.length):
    Blk (putL h ⟨b,off,none⟩ new 0) b (cs.take off++new++cs.drop (off+new.length))/\∀b',b'≠b->(putL h ⟨b,off,none⟩ new 0) b'=h b':=by
  obtain ⟨t,hb⟩:=k
  obtain ⟨p1,p2⟩:=zev1 b t new h 0 off cs (by simpa using hl) hb
  rw [Nat.add_zero,zuf _ _ _ hl] at p1
  exact ⟨⟨t,p1⟩,p2⟩
theorem Mv.of_other {h h':Hp} {b:Nat} (ho:∀b',b'≠b->h' b'=h b'):Mv [b] h [b] h':=
  ⟨fun i o e hn=>by grind,fun i hi=>.inl hi⟩
theorem zmt {h:Hp} {b:Nat} {cs new:List Value} {off:Nat} {K:Hp->Prop} (k:Blk h b cs) (hl:off+new.length<=cs.length)
    (hk:∀h',Mv [b] h [b] h'->Blk h' b (cs.take off++new++cs.drop (off+new.length))->K h'):StW h ⟨b,off,none⟩ new K:=by
  obtain ⟨p1,p2⟩:=k.put hl
  exact ⟨k.stOk _ hl,hk _ (Mv.of_other p2) p1⟩
section
variable {α:Type} {h:Hp} {sz:Nat} {enc:α->List Value} {l:Sl} {xs:List α}
def OwnF (h:Hp) (sz:Nat) (enc:α->List Value) (l:Sl) (xs:List α) (F:List Nat):Prop:=
  l.len=xs.length/\l.len<=l.cap/\((l.base=none/\l.cap=0/\F=[])\/
    ∃(b:Nat) (cs:List Value),l.base=some ⟨b,0,none⟩/\F=[b]/\Blk h b cs/\cs.length=l.cap*sz/\cs.take (l.len*sz)=xs.flatMap enc)
theorem OwnF.own {F:List Nat} {h0:Hp} (o:OwnF h sz enc l xs F) (hf:∀b∈F,h0 b=none):Own h0 h sz enc l xs:=by
  obtain ⟨h1,h2,h3⟩:=o
  refine ⟨h1,h2,?_⟩
  rcases h3 with ⟨e1,e2,_⟩ | ⟨b,cs,e1,rfl,⟨t,e3⟩,e4,e5⟩
  · exact .inl ⟨e1,e2⟩
  grind
theorem OwnF.rw {F:List Nat} (o:OwnF h sz enc l xs F) (henc:∀x,(enc x).length=sz):Rw h sz enc l xs:=(o.own (h0:=fun _=>none) fun _ _=>rfl).rw henc
theorem Own.ownF {h0:Hp} (o:Own h0 h sz enc l xs):∃F,OwnF h sz enc l xs F/\∀b∈F,h0 b=none:=by
  obtain ⟨h1,h2,h3⟩:=o
  rcases h3 with ⟨e1,e2⟩ | ⟨b,cs,t,e1,e3,e4,e5,e6⟩
  · exact ⟨[],⟨h1,h2,.inl ⟨e1,e2,rfl⟩⟩,fun b hb=>by cases hb⟩
  · exact ⟨[b],⟨h1,h2,.inr ⟨b,cs,e1,rfl,⟨t,e3⟩,e4,e5⟩⟩,fun b' hb=>by grind⟩
theorem OwnF.known {F:List Nat} (o:OwnF h sz enc l xs F):∀b∈F,h b≠none:=by
  obtain ⟨_,_,h3⟩:=o
  rcases h3 with ⟨_,_,rfl⟩ | ⟨b,cs,_,rfl,e3,_,_⟩
  · simp
  · intro b' hb;rw [List.mem_singleton.1 hb];exact e3.known
theorem OwnF.same {F:List Nat} {h':Hp} (o:OwnF h sz enc l xs F) (hs:∀b∈F,h' b=h b):OwnF h' sz enc l xs F:=by
  obtain ⟨h1,h2,h3⟩:=o
  refine ⟨h1,h2,h3.imp id ?_⟩
  rintro ⟨b,cs,e1,rfl,⟨t,e3⟩,e4⟩
  exact ⟨b,cs,e1,rfl,⟨t,by grind⟩,e4⟩
theorem OwnF.mv {F G G':List Nat} {h':Hp} (o:OwnF h sz enc l xs F) (a:Mv G h G' h') (hd:∀b∈F,b∉G):OwnF h' sz enc l xs F:=by
  obtain ⟨h1,h2,h3⟩:=o
  refine ⟨h1,h2,h3.imp id ?_⟩
  rintro ⟨b,cs,e1,rfl,e3,e4⟩
  exact ⟨b,cs,e1,rfl,e3.mv a (hd b (List.mem_singleton.2 rfl)),e4⟩
theorem newF {cs:List Value} {K:Addr->Hp->Prop} (hc:cs=xs.flatMap enc) (henc:∀x,(enc x).length=sz)
    (hk:∀b h',h b=none->h<=h'->Mv [] h [b] h'->OwnF h' sz enc ⟨some ⟨b,0,none⟩,xs.length,xs.length⟩ xs [b]->K ⟨b,0,none⟩ h'):NewW cs K h:=by
  intro b t hb
  refine hk b _ hb (zcu hb) (Mv.new hb) ⟨rfl,Nat.le_refl _,.inr ⟨b,cs,rfl,rfl,⟨t,zbw⟩,?_,?_⟩⟩
  · rw [hc,zaq henc]
  · have:(xs.length*sz)=(xs.flatMap enc).length:=(zaq henc xs).symm
    grind
theorem appF {F:List Nat} {zero:List Value} {bytes:Nat} {x:Sl} {ys:List α} {K:Sl->Hp->Prop} (o:OwnF h sz enc l xs F) (r:Rw h sz enc x ys) (henc:∀x,(enc x).length=sz) (hok:∀x,zax (enc x)=true)
    (hz:zero.length=sz) (hb:xs.length+ys.length<=140737488355328/\(xs.length+ys.length)*bytes<=140737488355328)
    (hk:∀l' h' F',OwnF h' sz enc l' (xs++ys) F'->Mv F h F' h'->K l' h'):zai sz bytes zero l x K h:=by
  have hrw:=o.rw henc
  obtain ⟨h1,h2,h3⟩:=o
  obtain ⟨hx1,hx2⟩:=r
  refine ⟨ys.flatMap enc,by grind,xs.flatMap enc,by rw [h1];exact hrw.2,by grind,zcw1 hok ys,fun hcap=> ?_,fun hcap c b t hc hbn=> ?_⟩
  · rcases h3 with ⟨e,ec,rfl⟩ | ⟨b,cs,e,rfl,hbk,hl,ht⟩
    · have e1:ys.length=0:=by omega
      have e2:ys=[]:=List.length_eq_zero_iff.1 e1
      subst e2
      refine ⟨fun a ha=>(by grind),?_⟩
      have e3:putO h l.base (l.len*sz) (([]:List α).flatMap enc)=h:=by rw [e];rfl
      rw [e3,hx1]
      exact hk _ h [] ⟨by simp [h1],by simpa using h2,.inl ⟨e,ec,rfl⟩⟩ (Mv.refl _ _)
    · have hle:l.len*sz+(ys.flatMap enc).length<=cs.length:=by
        rw [hl,zaq henc,<-Nat.add_mul]
        exact Nat.mul_le_mul_right sz (by omega)
      obtain ⟨p1,p2⟩:=hbk.put hle
      refine ⟨fun a ha=> ?_,?_⟩
      · rw [e] at ha;cases ha
        rw [zbh,Nat.zero_add]
        refine hbk.stOk _ ?_
        rw [hx1,<-zaq henc ys]
        exact hle
      · have e3:putO h l.base (l.len*sz) (ys.flatMap enc)=putL h ⟨b,l.len*sz,none⟩ (ys.flatMap enc) 0:=by
          rw [e]
          simp only [putO,zbh,Nat.zero_add]
        rw [e3]
        refine hk _ _ [b] ⟨by simp [h1,hx1],hcap,.inr ⟨b,_,e,rfl,p1,?_,?_⟩⟩ (Mv.of_other p2)
        · grind
        · have e4:(l.len+x.len)*sz=(cs.take (l.len*sz)++ys.flatMap enc).length:=by
            rw [List.length_append,ht,zaq henc,zaq henc,h1,hx1,Nat.add_mul]
          grind
  · have hn:Mv F h [b] (h.set b (.cells (xs.flatMap enc++ys.flatMap enc++zap zero (c-(l.len+x.len))).toArray t (0,0))):=
      (Mv.new hbn).sub (fun b hb=>by cases hb) fun b hb=>.inl hb
    refine hk _ _ [b] ⟨by simp [h1,hx1],hc,.inr ⟨b,xs.flatMap enc++ys.flatMap enc++zap zero (c-(l.len+x.len)),rfl,rfl,⟨t,zbw⟩,?_,?_⟩⟩ hn
    · rw [List.length_append,List.length_append,zaq henc,zaq henc,zik,hz,<-Nat.add_mul,<-Nat.add_mul]
      grind
    · have e4:(l.len+x.len)*sz=(xs.flatMap enc++ys.flatMap enc).length:=by
        rw [List.length_append,zaq henc,zaq henc,h1,hx1,Nat.add_mul]
      grind
end
theorem zgz1 {F F' E:List Nat} {k k':Hp} (m:Mv F k F' k') (hE:∀c∈E,k c≠none) (hd:∀c∈E,c∉F):∀c∈E,k' c=k c:=fun c hc=>by
  cases hk:k c with
  | none=>exact absurd hk (hE c hc)
  | some o=>exact m.keep c o hk (hd c hc)
theorem zpx2 {F F' E:List Nat} {k k':Hp} (m:Mv F k F' k') (hE:∀c∈E,k c≠none) (hd:∀c∈E,c∉F):∀c∈E,c∉F':=fun c hc hf=>by
  rcases m.from_ c hf with h | h
  · exact hd c hc h
  · exact hE c hc h
theorem Mv.less {F F' E:List Nat} {h h':Hp} (a:Mv F h F' h') (hs:∀c∈E,c∈F'):Mv F h E h':=⟨a.keep,fun b hb=>a.from_ b (hs b hb)⟩
structure Regs (h k:Hp) (Rg:List (List Nat)):Prop where
  sep:∀(a b:Nat) E G,Rg[a]? =some E->Rg[b]? =some G->a≠b->∀c∈E,c∉G
  known:∀(a:Nat) E,Rg[a]? =some E->∀c∈E,k c≠none
  fresh:∀(a:Nat) E,Rg[a]? =some E->∀c∈E,h c=none
  le:h<=k
theorem Regs.grow {h k k':Hp} {Rg:List (List Nat)} (r:Regs h k Rg) (hl:k<=k'):Regs h k' Rg:=
  ⟨r.sep,fun a E hE c hc e=>r.known a E hE c hc (zbz hl e),r.fresh,Hp.le_trans r.le hl⟩
theorem Regs.step {h k k':Hp} {Rg:List (List Nat)} {j:Nat} {F F':List Nat} (r:Regs h k Rg) (hj:Rg[j]? =some F) (m:Mv F k F' k') (kn:∀c∈F',k' c≠none):Regs h k' (Rg.set j F'):=by
  have hjl:j<Rg.length:=(List.getElem?_eq_some_iff.1 hj).1
  have hget:∀a E,(Rg.set j F')[a]? =some E->(a=j/\E=F')\/(a≠j/\Rg[a]? =some E):=by
    intro a E hE
    rw [List.getElem?_set,if_pos hjl] at hE
    split at hE
    · rename_i e
      exact .inl ⟨e.symm,(Option.some.inj hE).symm⟩
    · rename_i e
      exact .inr ⟨fun e'=>e e'.symm,hE⟩
  have hdis:∀a E,a≠j->Rg[a]? =some E->∀c∈E,c∉F':=fun a E hne hE=>zpx2 m (r.known a E hE) (r.sep a j E F hE hj hne)
  have hfr:∀c∈F',h c=none:=(m.le r.le (r.fresh j F hj)).2
  refine ⟨fun a b E G hE hG hab c hc hc'=> ?_,fun a E hE c hc=> ?_,fun a E hE c hc=> ?_,(m.le r.le (r.fresh j F hj)).1⟩
  · rcases hget a E hE with ⟨rfl,rfl⟩ | ⟨h1,h2⟩
    · rcases hget b G hG with ⟨rfl,rfl⟩ | ⟨h3,h4⟩
      · exact hab rfl
      · exact hdis b G h3 h4 c hc' hc
    · rcases hget b G hG with ⟨rfl,rfl⟩ | ⟨h3,h4⟩
      · exact hdis a E h1 h2 c hc hc'
      · exact r.sep a b E G h2 h4 hab c hc hc'
  · rcases hget a E hE with ⟨rfl,rfl⟩ | ⟨h1,h2⟩
    · exact kn c hc
    · have:=zgz1 m (r.known a E h2) (r.sep a j E F h2 hj h1) c hc
      rw [this]
      exact r.known a E h2 c hc
  · rcases hget a E hE with ⟨rfl,rfl⟩ | ⟨h1,h2⟩
    · exact hfr c hc
    · exact r.fresh a E h2 c hc
theorem Regs.other {h k k':Hp} {Rg:List (List Nat)} {j a:Nat} {F F' E:List Nat} (r:Regs h k Rg) (hj:Rg[j]? =some F) (m:Mv F k F' k') (ha:Rg[a]? =some E) (hne:a≠j):∀c∈E,k' c=k c:=
  zgz1 m (r.known a E ha) (r.sep a j E F ha hj hne)
theorem Regs.push {h k k':Hp} {Rg:List (List Nat)} {E:List Nat} (r:Regs h k Rg) (hl:k<=k') (hn:∀c∈E,k c=none) (kn:∀c∈E,k' c≠none):Regs h k' (Rg++ [E]):=by
  have hget:∀a G,(Rg++ [E])[a]? =some G->(a=Rg.length/\G=E)\/(a<Rg.length/\Rg[a]? =some G):=by
    intro a G hG
    by_cases h1:a<Rg.length
    · rw [List.getElem?_append_left h1] at hG
      exact .inr ⟨h1,hG⟩
    · rw [List.getElem?_append_right (by omega)] at hG
      have h2:a-Rg.length=0:=by
        have:=(List.getElem?_eq_some_iff.1 hG).1
        simp at this
        omega
      rw [h2] at hG
      exact .inl ⟨by omega,(Option.some.inj hG).symm⟩
  refine ⟨fun a b A B hA hB hab c hc hc'=> ?_,fun a A hA c hc=> ?_,fun a A hA c hc=> ?_,Hp.le_trans r.le hl⟩
  · rcases hget a A hA with ⟨rfl,rfl⟩ | ⟨h1,h2⟩
    · rcases hget b B hB with ⟨rfl,rfl⟩ | ⟨h3,h4⟩
      · exact hab rfl
      · exact r.known b B h4 c hc' (hn c hc)
    · rcases hget b B hB with ⟨rfl,rfl⟩ | ⟨h3,h4⟩
      · exact r.known a A h2 c hc (hn c hc')
      · exact r.sep a b A B h2 h4 hab c hc hc'
  · rcases hget a A hA with ⟨rfl,rfl⟩ | ⟨h1,h2⟩
    · exact kn c hc
    · exact fun e=>r.known a A h2 c hc (zbz hl e)
  · rcases hget a A hA with ⟨rfl,rfl⟩ | ⟨h1,h2⟩
    · exact zbz r.le (hn c hc)
    · exact r.fresh a A h2 c hc
def fset {α:Type} (f:Nat->α) (i:Nat) (x:α):Nat->α:=fun j=>if j=i then x else f j
theorem zbx {α:Type} {f:Nat->α} {i:Nat} {x:α}:fset f i x i=x:=if_pos rfl
theorem zbq {α:Type} {f:Nat->α} {i j:Nat} {x:α} (h:j≠i):fset f i x j=f j:=if_neg h
theorem zmi2 {α β:Type} (g:α->β) {f:Nat->α} {i:Nat} {x:α}:(fun j=>g (fset f i x j))=fset (fun j=>g (f j)) i (g x):=by
 funext j
 unfold fset
 split<;>rfl
theorem zlg {α:Type} {f:Nat->α} {i:Nat}:fset f i (f i)=f:=by
 funext j
 unfold fset
 split
 ·rename_i h;rw [h]
 ·rfl
theorem ztd {α:Type} {f:Nat->α} {i:Nat} {x y:α}:fset (fset f i x) i y=fset f i y:=by
 funext j
 unfold fset
 split<;>rfl
structure Asn where
 R:Hp->(Nat->Prop)->Prop
 same:∀ {k k':Hp} {F:Nat->Prop},R k F->(∀b,F b->k' b=k b)->R k' F
 known:∀ {k:Hp} {F:Nat->Prop},R k F->∀b,F b->k b≠none
def Has (h0:Hp) (A:Asn) (k:Hp):Prop:=h0<=k/\∃F,A.R k F/\∀b,F b->h0 b=none
def Asn.star (A B:Asn):Asn where
 R k F:=∃F1 F2:Nat->Prop,(∀b,F b↔F1 b\/F2 b)/\(∀b,F1 b->¬F2 b)/\A.R k F1/\B.R k F2
 same:=by
  rintro k k' F ⟨F1,F2,e,d,a,b⟩ hs
  exact ⟨F1,F2,e,d,A.same a fun c hc=>hs c ((e c).2 (.inl hc)),B.same b fun c hc=>hs c ((e c).2 (.inr hc))⟩
 known:=by
  rintro k F ⟨F1,F2,e,d,a,b⟩ c hc
  rcases (e c).1 hc with hc | hc
  ·exact A.known a c hc
  ·exact B.known b c hc
def Asn.fact (p:Prop):Asn:=⟨fun _ F=>p/\∀b,¬F b,fun h _=>h,fun h b hb=>absurd hb (h.2 b)⟩
def Asn.some_ {α:Type} (A:α->Asn):Asn:=⟨fun k F=>∃x,(A x).R k F,fun ⟨x,h⟩ hs=>⟨x,(A x).same h hs⟩,fun ⟨x,h⟩=>(A x).known h⟩
def Asn.first (A:Nat->Asn):Nat->Asn
 | 0=>.fact True
 | n+1=>(Asn.first A n).star (A n)
noncomputable def Hp.less (k:Hp) (F:Nat->Prop):Hp:=fun b=>open Classical in if F b then none else k b
theorem Hp.less_le {k:Hp} {F:Nat->Prop}:k.less F<=k:=fun b o e=>by
 unfold Hp.less at e
 grind
theorem Hp.less_at {k:Hp} {F:Nat->Prop} {b:Nat} (h:¬F b):k.less F b=k b:=if_neg h
theorem Hp.less_in {k:Hp} {F:Nat->Prop} {b:Nat} (h:F b):k.less F b=none:=if_pos h
section
variable {h0 h1 k k':Hp} {A A' B C D:Asn}
theorem Has.le (o:Has h0 A k):h0<=k:=o.1
theorem Has.fst (o:Has h0 (A.star B) k):∃h1,h0<=h1/\Has h1 A k/\(∃F2,B.R h1 F2/\∀b,F2 b->h0 b=none)/\∀A' k',Has h1 A' k'->Has h0 (A'.star B) k':=by
 obtain ⟨hl,F,⟨F1,F2,e,d,a,b⟩,hf⟩:=o
 have h2:B.R (k.less F1) F2:=B.same b fun c hc=>Hp.less_at fun h=>d c h hc
 have f2:∀b,F2 b->h0 b=none:=fun c hc=>hf c ((e c).2 (.inr hc))
 have h01:h0<=k.less F1:=fun c o' e'=>by
  have:¬F1 c:=fun h=>by grind
  rw [Hp.less_at this]
  exact hl c o' e'
 refine ⟨k.less F1,h01,⟨Hp.less_le,F1,a,fun c hc=>Hp.less_in hc⟩,⟨F2,h2,f2⟩,fun A' k' o'=> ?_⟩
 obtain ⟨hl',F1',a',hf'⟩:=o'
 refine ⟨Hp.le_trans h01 hl',fun c=>F1' c\/F2 c,⟨F1',F2,fun _=>Iff.rfl,fun c hc hc2=> ?_,a',B.same h2 fun c hc=> ?_⟩,fun c hc=> ?_⟩
 ·exact B.known h2 c hc2 (hf' c hc)
 ·cases e':(k.less F1) c with
  | none=>exact absurd e' (B.known h2 c hc)
  | some o'=>exact hl' c o' e'
 ·rcases hc with hc | hc
  ·cases e':h0 c with
   | none=>rfl
   | some o'=>
    have:=h01 c o' e'
    grind
  ·exact f2 c hc
theorem Has.map (h:∀k F,A.R k F->A'.R k F) (o:Has h0 A k):Has h0 A' k:=by
 obtain ⟨hl,F,a,hf⟩:=o
 exact ⟨hl,F,h k F a,hf⟩
theorem zte {F:Nat->Prop} (h:(A.star B).R k F):(B.star A).R k F:=by
 obtain ⟨F1,F2,e,d,a,b⟩:=h
 exact ⟨F2,F1,fun c=>(e c).trans or_comm,fun c h1 h2=>d c h2 h1,b,a⟩
theorem ztf {F:Nat->Prop} (h:((A.star B).star C).R k F):(A.star (B.star C)).R k F:=by
 obtain ⟨F12,F3,e,d,⟨F1,F2,e',d',a,b⟩,c⟩:=h
 refine ⟨F1,fun x=>F2 x\/F3 x,fun x=> ?_,fun x h1 h2=> ?_,a,F2,F3,fun _=>Iff.rfl,fun x h1 h2=>d x ((e' x).2 (.inr h1)) h2,b,c⟩
 ·rw [e,e',or_assoc]
 grind
theorem zpn {F:Nat->Prop} (ha:∀F,A.R k F->C.R k F) (hb:∀F,B.R k F->D.R k F) (h:(A.star B).R k F):(C.star D).R k F:=by
 obtain ⟨F1,F2,e,d,a,b⟩:=h
 exact ⟨F1,F2,e,d,ha _ a,hb _ b⟩
theorem Has.comm (o:Has h0 (A.star B) k):Has h0 (B.star A) k:=o.map fun _ _=>zte
theorem Has.assoc (o:Has h0 ((A.star B).star C) k):Has h0 (A.star (B.star C)) k:=o.map fun _ _=>ztf
theorem Has.assoc' (o:Has h0 (A.star (B.star C)) k):Has h0 ((A.star B).star C) k:=o.map fun _ _ h=>zte (ztf (zte (ztf (zte h))))
theorem Has.snd (o:Has h0 (A.star B) k):∃h1,h0<=h1/\Has h1 B k/\(∃F2,A.R h1 F2/\∀b,F2 b->h0 b=none)/\∀B' k',Has h1 B' k'->Has h0 (A.star B') k':=by
 obtain ⟨h1,a,b,c,d⟩:=o.comm.fst
 exact ⟨h1,a,b,c,fun B' k' o'=>(d B' k' o').comm⟩
theorem Has.left (o:Has h0 (A.star B) k):Has h0 A k:=by
 obtain ⟨hl,F,⟨F1,F2,e,d,a,b⟩,hf⟩:=o
 exact ⟨hl,F1,a,fun c hc=>hf c ((e c).2 (.inl hc))⟩
theorem Has.right (o:Has h0 (A.star B) k):Has h0 B k:=o.comm.left
theorem Has.mono (o:Has h1 A k) (hl:h0<=h1):Has h0 A k:=by
 obtain ⟨h,F,a,hf⟩:=o
 exact ⟨Hp.le_trans hl h,F,a,fun b hb=>zbz hl (hf b hb)⟩
theorem Has.grow (o:Has h0 A k) (hl:k<=k'):Has h0 A k':=by
 obtain ⟨h,F,a,hf⟩:=o
 refine ⟨Hp.le_trans h hl,F,A.same a fun b hb=> ?_,hf⟩
 cases e:k b with
 | none=>exact absurd e (A.known a b hb)
 | some o'=>exact hl b o' e
theorem Has.beside (o:Has h0 A k) (n:Has k B k'):Has h0 (A.star B) k':=by
 obtain ⟨h,F,a,hf⟩:=o
 obtain ⟨hl,G,b,hg⟩:=n
 refine ⟨Hp.le_trans h hl,fun c=>F c\/G c,⟨F,G,fun _=>Iff.rfl,fun c h1 h2=>A.known a c h1 (hg c h2),A.same a fun c hc=> ?_,b⟩,fun c hc=> ?_⟩
 ·cases e:k c with
  | none=>exact absurd e (A.known a c hc)
  | some o'=>exact hl c o' e
 ·rcases hc with hc | hc
  ·exact hf c hc
  ·exact zbz h (hg c hc)
theorem Has.carry {X:Asn} (put:∀k',Has h1 A k'->Has h0 X k') (o:Has h1 (A.star B) k):Has h0 (X.star B) k:=by
 obtain ⟨hle,F,⟨F1,F2,e,d,a,b⟩,hf⟩:=o
 have ol:Has h1 A (k.less F2):=⟨fun c ob ec=>by
  have hn:¬F2 c:=fun h=>by grind
  rw [Hp.less_at hn];exact hle c ob ec,F1,A.same a fun c hc=>Hp.less_at (fun h=>d c hc h),fun c hc=>hf c ((e c).2 (.inl hc))⟩
 exact (put _ ol).beside ⟨Hp.less_le,F2,b,fun c hc=>Hp.less_in hc⟩
theorem Has.fact {p:Prop} (hp:p) (hl:h0<=k):Has h0 (.fact p) k:=⟨hl,fun _=>False,⟨hp,fun _ h=>h⟩,fun _ h=>h.elim⟩
theorem Has.ofFact {p:Prop} (o:Has h0 (.fact p) k):p:=by
 obtain ⟨_,_,h,_⟩:=o
 exact h.1
theorem Has.withFact {p:Prop} (o:Has h0 A k) (hp:p):Has h0 (A.star (.fact p)) k:=o.beside (Has.fact hp (Hp.le_refl _))
theorem Has.noFact {p:Prop} (o:Has h0 (A.star (.fact p)) k):Has h0 A k/\p:=⟨o.left,o.right.ofFact⟩
theorem Has.ex {α:Type} {A:α->Asn}:Has h0 (.some_ A) k↔∃x,Has h0 (A x) k:=
 ⟨fun ⟨hl,F,⟨x,a⟩,hf⟩=>⟨x,hl,F,a,hf⟩,fun ⟨x,hl,F,a,hf⟩=>⟨hl,F,⟨x,a⟩,hf⟩⟩
end
theorem zci {A B:Nat->Asn}:∀ {n:Nat},(∀i,i<n->A i=B i)->Asn.first A n=Asn.first B n
 | 0,_=>rfl
 | n+1,h=>by
  show (Asn.first A n).star (A n)=(Asn.first B n).star (B n)
  rw [zci fun i hi=>h i (by omega),h n (by omega)]
section
variable {h0 k:Hp} {A:Nat->Asn} {B:Asn}
theorem Has.one {n i:Nat} (hi:i<n) (o:Has h0 (Asn.first A n) k):∃h1,h0<=h1/\Has h1 (A i) k/\(∀j,j<n->j≠i->∃F2,(A j).R h1 F2)/\∀A' k',Has h1 A' k'->Has h0 (Asn.first (fset A i A') n) k':=by
 induction n generalizing h0 with
 | zero=>omega
 | succ n ih=>
  by_cases e:i=n
  ·subst e
   obtain ⟨h1,a,b,c,d⟩:=Has.snd o
   obtain ⟨F2,c1,c2⟩:=c
   refine ⟨h1,a,b,fun j hj hne=> ?_,fun A' k' o'=> ?_⟩
   ·have key:∀m (F:Nat->Prop),(Asn.first A m).R h1 F->j<m->∃F2,(A j).R h1 F2:=by
     intro m
     induction m with
     | zero=>intro F _ hj;omega
     | succ m ih=>
      rintro F ⟨G1,G2,_,_,g1,g2⟩ hj
      by_cases e:j=m
      ·subst e;exact ⟨G2,g2⟩
      ·exact ih G1 g1 (by omega)
    grind
   ·have:=d A' k' o'
    show Has h0 ((Asn.first (fset A i A') i).star (fset A i A' i)) k'
    rw [zbx,zci (B:=A) fun j hj=>zbq (by omega)]
    exact this
  ·obtain ⟨h1,a,b,c,d⟩:=Has.fst o
   obtain ⟨h2,a2,b2,c2,d2⟩:=ih (h0:=h1) (by omega) b
   obtain ⟨F2,c3,c4⟩:=c
   refine ⟨h2,Hp.le_trans a a2,b2,fun j hj hne=> ?_,fun A' k' o'=> ?_⟩
   ·by_cases e2:j=n
    ·subst e2
     refine ⟨F2,(A j).same c3 fun b hb=> ?_⟩
     cases e3:h1 b with
     | none=>exact absurd e3 ((A j).known c3 b hb)
     | some o'=>exact a2 b o' e3
    grind
   ·have:=d _ _ (d2 A' k' o')
    show Has h0 ((Asn.first (fset A i A') n).star (fset A i A' n)) k'
    rw [zbq (by omega)]
    exact this
theorem Has.at_ {n i:Nat} (hi:i<n) (o:Has h0 (Asn.first A n) k):Has h0 (A i) k:=by
 obtain ⟨h1,a,b,_,_⟩:=o.one hi
 exact b.mono a
end
def BlkA (b:Nat) (cs:List Value):Asn:=⟨fun k F=>Blk k b cs/\∀c,F c↔c=b,fun h hs=>⟨h.1.imp fun t e=>(by grind),h.2⟩,fun h c hc=>by rw [(h.2 c).1 hc];exact h.1.known⟩
theorem Has.blk {h0 k:Hp} {b:Nat} {cs:List Value} (o:Has h0 (BlkA b cs) k):Blk k b cs/\h0 b=none:=by
 obtain ⟨_,F,⟨a,e⟩,hf⟩:=o
 grind
theorem Has.ofBlk {h0 k:Hp} {b:Nat} {cs:List Value} (hl:h0<=k) (hb:Blk k b cs) (hn:h0 b=none):Has h0 (BlkA b cs) k:=
 ⟨hl,fun c=>c=b,⟨hb,fun _=>Iff.rfl⟩,fun c hc=>by rw [hc];exact hn⟩
def RecA (sh:Shape) (p:Addr) (x:sh.T):Asn:=(BlkA p.block (zac (sh.enc x))).star (.fact (p=⟨p.block,0,none⟩))
section
variable {h0 k:Hp} {sh:Shape} {p:Addr} {x:sh.T}
theorem Has.rec_ (o:Has h0 (RecA sh p x) k):∃b,p=⟨b,0,none⟩/\Blk k b (zac (sh.enc x))/\h0 b=none:=⟨p.block,o.right.ofFact,(Has.left o).blk⟩
theorem Has.ofRec {b:Nat} (hl:h0<=k) (hb:Blk k b (zac (sh.enc x))) (hn:h0 b=none):Has h0 (RecA sh ⟨b,0,none⟩ x) k:=(Has.ofBlk hl hb hn).withFact rfl
theorem Has.ld (o:Has h0 (RecA sh p x) k) {shf:Shape} (v:shf.T) {off:Nat} (hv:((zac (sh.enc x)).drop off).take (zac (shf.enc v)).length=zac (shf.enc v)) {K:shf.T->Prop} (hk:K v):LdW none shf k (p.add off) K:=by
 obtain ⟨b,rfl,hb,_⟩:=o.rec_
 refine ⟨v,?_,hk⟩
 rw [zbh,Nat.zero_add]
 exact hb.ldIs hv
theorem Has.ld0 (o:Has h0 (RecA sh p x) k) {shf:Shape} (v:shf.T) (hv:(zac (sh.enc x)).take (zac (shf.enc v)).length=zac (shf.enc v)) {K:shf.T->Prop} (hk:K v):LdW none shf k p K:=by
 obtain ⟨b,rfl,hb,_⟩:=o.rec_
 exact ⟨v,hb.ldIs (off:=0) (by simpa using hv),hk⟩
theorem Has.ldC (o:Has h0 (RecA sh p x) k) {shf:Shape} {c:Bool} (v:shf.T) {off:Nat} (hv:((zac (sh.enc x)).drop off).take (zac (shf.enc v)).length=zac (shf.enc v)) {K:shf.T->Prop} (hk:K v):LdW (some c) shf k (p.add off) K:=by
 obtain ⟨b,rfl,hb,_⟩:=o.rec_
 refine ⟨v,fun _=> ?_,hk⟩
 rw [zbh,Nat.zero_add]
 exact hb.ldIs hv
theorem Has.ldis (o:Has h0 (RecA sh p x) k) {off n:Nat} {vs:List Value} (hv:((zac (sh.enc x)).drop off).take n=vs):LdIs k (p.add off) vs:=by
 obtain ⟨b,rfl,hb,_⟩:=o.rec_
 rw [zbh,Nat.zero_add]
 exact hb.ldIs hv
theorem Has.st (o:Has h0 (RecA sh p x) k) (x':sh.T) {off:Nat} {new:List Value} (hl:off+new.length<=(zac (sh.enc x)).length) (hx:(zac (sh.enc x)).take off++new++(zac (sh.enc x)).drop (off+new.length)=zac (sh.enc x'))
  {K:Hp->Prop} (hk:∀k',Has h0 (RecA sh p x') k'->K k'):StW k (p.add off) new K:=by
 obtain ⟨b,rfl,hb,hn⟩:=o.rec_
 rw [zbh,Nat.zero_add]
 refine zmt hb hl fun k' m hb'=>hk k' (Has.ofRec (fun c ob e=> ?_) (by grind) hn)
 exact m.keep c ob (o.1 c ob e) fun hc=>by grind
theorem Has.st0 (o:Has h0 (RecA sh p x) k) (x':sh.T) {new:List Value} (hl:new.length<=(zac (sh.enc x)).length) (hx:new++(zac (sh.enc x)).drop new.length=zac (sh.enc x'))
  {K:Hp->Prop} (hk:∀k',Has h0 (RecA sh p x') k'->K k'):StW k p new K:=by
 obtain ⟨b,e,_⟩:=o.rec_
 have:=o.st x' (off:=0) (new:=new) (by omega) (by grind) hk
 subst e
 simpa [zbh] using this
theorem zjr1 {k:Hp} (x:sh.T) {cs:List Value} (hc:cs=zac (sh.enc x)) {K:Addr->Hp->Prop} (hk:∀p k',k<=k'->Has k (RecA sh p x) k'->K p k'):NewW cs K k:=by
 intro b t hb
 refine hk _ _ (zcu hb) ?_
 exact Has.ofRec (zcu hb) ⟨t,by rw [<-hc];exact zbw⟩ hb
end
section
variable {P:Program} {h:Hp}
theorem semW_bind' {α β:Type} (s:Sem α) (f:α->Sem β) {K:β->Hp->Prop}:semW P (s>>=f) K h↔semW P s (fun a h=>semW P (f a) K h) h:=zlo1 s f
theorem ziq2 {t:Nat} {i:TypeInfo} (hi:P.info? t=some i) {K:Nat->Hp->Prop} (hk:K i.size h):semW P (sizeOf t) K h:=by
  show semW P (Sem.bind (match P.info? t with
    | some d=>Sem.pure d
    | none=>_) _) K h
  rw [hi]
  exact hk
theorem zun {a:Addr} {o:Obj} (e:h a.block=some o) {K:Bool->Hp->Prop} (hk:K (hfroz h a) h):semW P (frozen a) K h:=⟨⟨o,e⟩,hk⟩
theorem zan1 {r:Nat} {o:Obj} (e:h r=some o) {K:Option (TypeId×Nat)->Hp->Prop} (hk:K (zyk1 o) h):semW P (shape r) K h:=⟨o,e,hk⟩
theorem zso1 {b:Nat} {cs:List Value} (k:Blk h b cs) (off:Nat):hfroz h ⟨b,off,none⟩=false:=by
  obtain ⟨t,e⟩:=k
  unfold hfroz
  simp [e]
theorem zmn1 {b off:Nat} {cs:List Value} (k:Blk h b cs) {K:Unit->Hp->Prop} (hk:K () h):semW P (noView ⟨b,off,none⟩) K h:=by
  obtain ⟨t,e⟩:=k
  unfold noView viewAt
  refine (semW_bind' _ _).2 ((semW_bind' _ _).2 (zan1 (r:=b) e ?_))
  exact hk
theorem zcf1 {b off:Nat} {cs:List Value} (k:Blk h b cs) {K:Bool->Hp->Prop} (hk:K false h):semW P (stringish ⟨b,off,none⟩) K h:=by
  have k0:=k
  obtain ⟨t,e⟩:=k
  unfold stringish
  refine (semW_bind' _ _).2 (zun (a:=⟨b,off,none⟩) e ?_)
  rw [zso1 k0]
  refine (semW_bind' _ _).2 (zan1 (r:=b) e ?_)
  refine zun (a:=⟨b,_,none⟩) e ?_
  rw [zso1 k0]
  exact hk
theorem zpg1 {tS tR e:Nat} {i:TypeInfo} {a b ao bo la ca lb cb:Nat} {ca' cb':List Value} {K:Bool->Hp->Prop} (ht:P.underlying tS=some (.slice e)) (hi:P.info? e=some i) (ka:Blk h a ca') (kb:Blk h b cb') (hne:a≠b)
    (hk:K false h):SemE P (Extern.SlicesOverlaps.overlaps #[tS,tS] #[tR] #[.slice (some ⟨a,ao,none⟩) la ca,.slice (some ⟨b,bo,none⟩) lb cb]) zae K h:=by
  have hb1:((⟨a,ao,none⟩:Addr).block !=(⟨b,bo,none⟩:Addr).block)=true:=by simpa using hne
  have hb2:((⟨a,ao,none⟩:Addr).block==(⟨b,bo,none⟩:Addr).block)=false:=by simpa using hne
  obtain ⟨ta,ea⟩:=id ka
  obtain ⟨tb,eb⟩:=id kb
  unfold SemE
  show semW P (α:=Value) (underlying tS>>=fun d=>_) _ h
  refine (semW_bind' _ _).2 (zsn1 ht ?_)
  refine (semW_bind' _ _).2 (ziq2 hi ?_)
  dsimp only
  by_cases h0:la=0\/lb=0\/i.size=0
  · rw [if_pos h0]
    exact ⟨false,rfl,hk⟩
  · rw [if_neg h0]
    refine (semW_bind' _ _).2 (zun (a:=⟨a,ao,none⟩) ea ?_)
    refine (semW_bind' _ _).2 (zun (a:=⟨b,bo,none⟩) eb ?_)
    rw [hb1,zso1 ka]
    simp only [Bool.true_and,Bool.false_and,Bool.false_eq_true,if_false,if_true]
    refine (semW_bind' _ _).2 (zmn1 ka ?_)
    refine (semW_bind' _ _).2 (zmn1 kb ?_)
    refine (semW_bind' _ _).2 ?_
    unfold mayBeOne
    refine (semW_bind' _ _).2 (zcf1 ka ?_)
    refine (semW_bind' _ _).2 (zcf1 kb ?_)
    refine (semW_bind' _ _).2 ((semW_bind' _ _).2 (zan1 (r:=a) ea ?_))
    refine (semW_bind' _ _).2 ((semW_bind' _ _).2 (zan1 (r:=b) eb ?_))
    simp only [Bool.false_and,Bool.or_false]
    refine ⟨false,?_,hk⟩
    rw [hb2]
    rfl
theorem zyt {a:Addr}:∀(vs:List Value) (i:Nat) {h:Hp} {K:Unit->Hp->Prop},zax vs=true->(∀j,j<vs.length->(∃v,hcell h (a.add (i+j))=some v)/\hfroz h (a.add (i+j))=false)->
    K () (putL h a vs i)->semW P (storeCells a vs i) K h
  | [],i,h,K,_,_,hk=>hk
  | v::vs,i,h,K,hok,hst,hk=>by
    obtain ⟨h1,h2⟩:=hst 0 (by simp)
    rw [Nat.add_zero] at h1 h2
    have hok':zax vs=true:=by cases v<;>first | (exact hok) | (cases hok)
    have step:semW P (storeCells a vs (i+1)) K (h.put (a.add i) v):=by
      refine zyt vs (i+1) hok' (fun j hj=> ?_) hk
      obtain ⟨⟨u,h3⟩,h4⟩:=hst (j+1) (by simpa using hj)
      have e:i+(j+1)=i+1+j:=by omega
      rw [e] at h3 h4
      exact ⟨zvo1 ⟨u,h3⟩,(by rw [zvp1];exact h4)⟩
    show semW P (Sem.store Mode.plain (a.add i) v (storeCells a vs (i+1))) K h
    cases v<;>first | (exact ⟨h1,h2,step⟩) | (cases hok)
theorem zwc1 {t e b off n c:Nat} {z:Value} {cs:List Value} {K:Hp->Prop} (ht:P.underlying t=some (.slice e)) (hz:∀ {K:Value->Hp->Prop} {h:Hp},K z h->semW P (zeroValue e) K h) (hok:∀n,zax (zap (zac z) n)=true) (kb:Blk h b cs)
    (hl:off+n*(zac z).length<=cs.length)
    (hk:∀h',Mv [b] h [b] h'->Blk h' b (cs.take off++zap (zac z) n++cs.drop (off+n*(zac z).length))->K h'):
    SemE0 P (Builtin.clear_ #[t] 0 #[.slice (some ⟨b,off,none⟩) n c]) zrf K h:=by
  unfold SemE0 SemE
  show semW P (α:=Value) (underlying t>>=fun d=>_) _ h
  refine (semW_bind' _ _).2 (zsn1 ht ?_)
  cases n with
  | zero=>
    refine ⟨(),rfl,hk h (Mv.refl _ _) ?_⟩
    simp [zap]
    exact kb
  | succ n=>
    refine (semW_bind' _ _).2 ?_
    refine hz ?_
    have hzc:(Builtin.zeroCells z.cells (n+1)).toList=zap (zac z) (n+1):=by rw [zkt,zbb]
    have hlen:(zap (zac z) (n+1)).length=(n+1)*(zac z).length:=zik _ _
    obtain ⟨p1,p2⟩:=kb.put (off:=off) (new:=zap (zac z) (n+1)) (by omega)
    have hst:=kb.stOk (off:=off) (zap (zac z) (n+1)).length (by omega)
    refine (semW_bind' _ _).2 ?_
    rw [hzc]
    refine zyt _ 0 (hok _) (fun j hj=> ?_) ⟨(),rfl,hk _ (Mv.of_other p2) (by grind)⟩
    rw [Nat.zero_add]
    exact zaj1 hst j hj
end
section
variable {α:Type} {h:Hp} {sz:Nat} {enc:α->List Value} {l:Sl} {xs:List α}
theorem Rw.fld (r:Rw h sz enc l xs) (henc:∀x,(enc x).length=sz) (hsz:0<sz) {sh:Shape} (g:α->sh.T) {j:Nat} (hg:∀x,((enc x).drop j).take (zac (sh.enc (g x))).length=zac (sh.enc (g x))) {i:Int} (h0:0<=i) (h1:i<(xs.length:Int))
    {K:sh.T->Prop} (hk:∀x,xs[i.toNat]? =some x->K (g x)):InB l.base l.len i/\LdW none sh h ((sat l.base sz i).add j) K:=by
  obtain ⟨e1,x,hx,hl⟩:=r.read henc hsz h0 (by rw [r.1];exact h1)
  refine ⟨e1,g x,fun q v hv=> ?_,hk x hx⟩
  rw [zmr]
  refine hl (j+q) v ?_
  grind
theorem Rw.fldC (r:Rw h sz enc l xs) (henc:∀x,(enc x).length=sz) (hsz:0<sz) {sh:Shape} (g:α->sh.T) {j:Nat} (hg:∀x,((enc x).drop j).take (zac (sh.enc (g x))).length=zac (sh.enc (g x))) (x0:sh.T) {c:Bool} {i:Int} (h0:c=true->0<=i/\i<(xs.length:Int))
    {K:sh.T->Prop} (hk:∀y,(c=true->∃x,xs[i.toNat]? =some x/\y=g x)->K y):(c=true->InB l.base l.len i)/\LdW (some c) sh h ((sat l.base sz i).add j) K:=by
  cases c with
  | false=>exact ⟨fun e=>(by cases e),x0,fun e=>(by cases e),hk x0 fun e=>(by cases e)⟩
  | true=>
    obtain ⟨h0,h1⟩:=h0 rfl
    obtain ⟨e1,y,hy,hk'⟩:=r.fld henc hsz g hg h0 h1 (K:=fun y=>∃x,xs[i.toNat]? =some x/\y=g x) fun x hx=>⟨x,hx,rfl⟩
    exact ⟨fun _=>e1,y,fun _=>hy,hk y fun _=>hk'⟩
theorem zim {b o a c:Nat} (hne:c≠a):sbase (some ⟨b,o,none⟩) sz a c=some ⟨b,o+a*sz,none⟩:=by
  unfold sbase
  rw [if_neg hne]
  show some ((⟨b,o,none⟩:Addr).add (a*sz))=_
  rw [zbh]
theorem Blk.rd {b:Nat} {cs new:List Value} (k:Blk h b cs) {off n:Nat} (hn:new.length=n) (e:(cs.drop off).take n=new):zei h (some ⟨b,off,none⟩) n new:=⟨hn,.inr ⟨_,rfl,k.ldIs e⟩⟩
theorem zpo {b off dl dc n:Nat} {cs new:List Value} {x:Sl} {K:Int->Hp->Prop} (kb:Blk h b cs) (hn:min x.len dl=n) (hr:zei h x.base (n*sz) new) (hok:zax new=true) (hl:off+n*sz<=cs.length)
    (hk:∀h',Mv [b] h [b] h'->Blk h' b (cs.take off++new++cs.drop (off+n*sz))->K (n:Nat) h'):CopyW sz ⟨some ⟨b,off,none⟩,dl,dc⟩ x K h:=by
  subst hn
  have hlen:new.length=min x.len dl*sz:=hr.1
  refine ⟨new,hr,hok,fun a ha=> ?_,?_⟩
  · cases ha
    exact kb.stOk _ hl
  · obtain ⟨p1,p2⟩:=kb.put (off:=off) (new:=new) (by omega)
    have e:putO h (some ⟨b,off,none⟩) 0 new=putL h ⟨b,off,none⟩ new 0:=by simp only [putO,zbh,Nat.add_zero]
    show K _ (putO h (some ⟨b,off,none⟩) 0 new)
    rw [e]
    rw [hlen] at p1
    exact hk _ (Mv.of_other p2) p1
theorem zmj2 {bytes:Nat} {zero:List Value} {l:Sl} {m:Int} {old:List Value} {K:Sl->Hp->Prop} (hm:0<=m) (hr:zei h l.base (l.len*sz) old) (hb:l.len+m.toNat<=140737488355328/\(l.len+m.toNat)*bytes<=140737488355328)
    (hz:zax (zap zero m.toNat)=true) (hfull:l.cap<l.len+m.toNat) (hk:∀b c h',h b=none->l.len+m.toNat<=c->h<=h'->Mv [] h [b] h'->Blk h' b (old++zap zero m.toNat++zap zero (c-(l.len+m.toNat)))->K ⟨some ⟨b,0,none⟩,l.len+m.toNat,c⟩ h'):
    zlb1 sz bytes zero l m K h:=
  ⟨hm,old,hr,hb,hz,fun h1=>absurd h1 (by omega),fun _ c b t hc hbn=>hk b c _ hbn hc (zcu hbn) (Mv.new hbn) ⟨t,zbw⟩⟩
theorem zpf2 {bytes b off ll lc n:Nat} {zero:List Value} {x:Sl} {cs new old:List Value} {K:Sl->Hp->Prop} (kb:Blk h b cs) (hro:zei h (some ⟨b,off,none⟩) (ll*sz) old) (hrn:zei h x.base (x.len*sz) new) (hn:x.len=n) (hok:zax new=true)
    (hb:ll+n<=140737488355328/\(ll+n)*bytes<=140737488355328) (hroom:ll+n<=lc) (hl:off+ll*sz+n*sz<=cs.length)
    (hk:∀h',Mv [b] h [b] h'->Blk h' b (cs.take (off+ll*sz)++new++cs.drop (off+ll*sz+n*sz))->K ⟨some ⟨b,off,none⟩,ll+n,lc⟩ h'):zai sz bytes zero ⟨some ⟨b,off,none⟩,ll,lc⟩ x K h:=by
  subst hn
  have hlen:new.length=x.len*sz:=hrn.1
  refine ⟨new,hrn,old,hro,hb,hok,fun _=>⟨fun a ha=> ?_,?_⟩,fun h1=>absurd h1 (by grind)⟩
  · cases ha
    rw [zbh]
    exact kb.stOk _ hl
  · obtain ⟨p1,p2⟩:=kb.put (off:=off+ll*sz) (new:=new) (by omega)
    have e:putO h (some ⟨b,off,none⟩) (ll*sz) new=putL h ⟨b,off+ll*sz,none⟩ new 0:=by simp only [putO,zbh]
    show K _ (putO h (some ⟨b,off,none⟩) (ll*sz) new)
    rw [e]
    rw [hlen] at p1
    exact hk _ (Mv.of_other p2) p1
theorem zmo1 {xs:List α} {i:Nat} (x:α) (hi:i<xs.length):xs.set i x=xs.take i++x::xs.drop (i+1):=by
  rw [List.set_eq_take_append_cons_drop,if_pos hi]
theorem OwnF.store {F:List Nat} (o:OwnF h sz enc l xs F) (henc:∀x,(enc x).length=sz) {i:Int} (h0:0<=i) (h1:i<(xs.length:Int)) (x:α) {K:Hp->Prop} (hk:∀h',OwnF h' sz enc l (xs.set i.toNat x) F->Mv F h F h'->K h'):
    InB l.base l.len i/\StW h (sat l.base sz i) (enc x) K:=by
  obtain ⟨o1,o2,o3⟩:=o
  rcases o3 with ⟨_,e2,_⟩ | ⟨b,cs,e1,rfl,kb,e4,e5⟩
  · omega
  · refine ⟨⟨by rw [e1];simp,h0,by omega⟩,?_⟩
    have hi:i.toNat<xs.length:=by omega
    have ha:sat l.base sz i=⟨b,i.toNat*sz,none⟩:=by unfold sat;rw [e1,Option.getD_some,zbh,Nat.zero_add]
    rw [ha]
    have hmul:i.toNat*sz+sz<=l.len*sz:=by
      have:=Nat.mul_le_mul_right sz (show i.toNat+1<=l.len by omega)
      grind
    have hmul2:l.len*sz<=l.cap*sz:=Nat.mul_le_mul_right sz o2
    refine zmt kb (by grind) fun h' m' k'=> ?_
    rw [henc] at k'
    refine hk h' ⟨by simp [o1],o2,.inr ⟨b,_,e1,rfl,k',?_,?_⟩⟩ m'
    · grind
    · rw [zmo1 x hi]
      have t1:cs.take (i.toNat*sz)=(xs.take i.toNat).flatMap enc:=by
        rw [znt henc,<-e5,List.take_take];congr 1;omega
      have t2:(cs.drop (i.toNat*sz+sz)).take (l.len*sz-(i.toNat*sz+sz))=(xs.drop (i.toNat+1)).flatMap enc:=by
        rw [zlf henc,<-e5,Nat.add_mul,Nat.one_mul,List.drop_take]
      have hl1:(cs.take (i.toNat*sz)++enc x).length=i.toNat*sz+sz:=by
        grind
      rw [List.take_append,hl1,t2,List.take_of_length_le (by omega),t1]
      simp
end
section
variable {P:Program} {α:Type} {h:Hp} {sz:Nat} {enc:α->List Value}
def insT (P:Program) (sz bytes:Nat) (zero:List Value) (tS tR:Nat) (R:Sl->(Hp->Prop)->Hp->Prop) (s:Sl) (i:Int) (v:Sl) (Q:Sl->Hp->Prop) (h:Hp):Prop:=
 (((0:Int)<=i/\i<=((s.len:Nat):Int))/\LetW (α:=Sl) ⟨(sbase s.base sz (Int.toNat i) s.cap),(s.len-(Int.toNat i)),(s.cap-(Int.toNat i))⟩ fun _=>
 (if (((v.len:Nat):Int)==(0:Int))=true then
 Q s h
 else
 (if (i==((s.len:Nat):Int))=true then
 zai sz bytes zero s v (fun r h1=>
 Q r h1) h
 else
 (if (decide ((IntKind.wrap .i64 (((s.len:Nat):Int)+((v.len:Nat):Int)))>((s.cap:Nat):Int)))=true then
 (((0:Int)<=i/\i<=((s.cap:Nat):Int))/\LetW (α:=Sl) ⟨(sbase s.base sz 0 s.cap),((Int.toNat i)-0),(s.cap-0)⟩ fun y1=>
 zlb1 sz bytes zero y1 (IntKind.wrap .i64 ((IntKind.wrap .i64 (((s.len:Nat):Int)+((v.len:Nat):Int)))-i)) (fun r h1=>
 (((0:Int)<=i/\i<=((r.len:Nat):Int))/\LetW (α:=Sl) ⟨(sbase r.base sz (Int.toNat i) r.cap),(r.len-(Int.toNat i)),(r.cap-(Int.toNat i))⟩ fun y2=>
 CopyW sz y2 v (fun _ h2=>
 (((0:Int)<=(IntKind.wrap .i64 (i+((v.len:Nat):Int)))/\(IntKind.wrap .i64 (i+((v.len:Nat):Int)))<=((r.len:Nat):Int))/\LetW (α:=Sl) ⟨(sbase r.base sz (Int.toNat (IntKind.wrap .i64 (i+((v.len:Nat):Int)))) r.cap),(r.len-(Int.toNat (IntKind.wrap .i64 (i+((v.len:Nat):Int))))),(r.cap-(Int.toNat (IntKind.wrap .i64 (i+((v.len:Nat):Int)))))⟩ fun y3=>
 (((0:Int)<=i/\i<=((s.len:Nat):Int))/\LetW (α:=Sl) ⟨(sbase s.base sz (Int.toNat i) s.cap),(s.len-(Int.toNat i)),(s.cap-(Int.toNat i))⟩ fun y4=>
 CopyW sz y3 y4 (fun _ h3=>
 Q r h3) h2))) h1)) h)
 else
 (((0:Int)<=(IntKind.wrap .i64 (((s.len:Nat):Int)+((v.len:Nat):Int)))/\(IntKind.wrap .i64 (((s.len:Nat):Int)+((v.len:Nat):Int)))<=((s.cap:Nat):Int))/\LetW (α:=Sl) ⟨(sbase s.base sz 0 s.cap),((Int.toNat (IntKind.wrap .i64 (((s.len:Nat):Int)+((v.len:Nat):Int))))-0),(s.cap-0)⟩ fun y1=>
 (((0:Int)<=(IntKind.wrap .i64 (i+((v.len:Nat):Int)))/\(IntKind.wrap .i64 (i+((v.len:Nat):Int)))<=((y1.len:Nat):Int))/\LetW (α:=Sl) ⟨(sbase y1.base sz (Int.toNat (IntKind.wrap .i64 (i+((v.len:Nat):Int)))) y1.cap),(y1.len-(Int.toNat (IntKind.wrap .i64 (i+((v.len:Nat):Int))))),(y1.cap-(Int.toNat (IntKind.wrap .i64 (i+((v.len:Nat):Int)))))⟩ fun y2=>
 SemE P (Extern.SlicesOverlaps.overlaps #[tS,tS] #[tR] #[v.v,y2.v]) zae (fun r h1=>
 (if (!r)=true then
 (((0:Int)<=(IntKind.wrap .i64 (i+((v.len:Nat):Int)))/\(IntKind.wrap .i64 (i+((v.len:Nat):Int)))<=((y1.len:Nat):Int))/\LetW (α:=Sl) ⟨(sbase y1.base sz (Int.toNat (IntKind.wrap .i64 (i+((v.len:Nat):Int)))) y1.cap),(y1.len-(Int.toNat (IntKind.wrap .i64 (i+((v.len:Nat):Int))))),(y1.cap-(Int.toNat (IntKind.wrap .i64 (i+((v.len:Nat):Int)))))⟩ fun y3=>
 (((0:Int)<=i/\i<=((y1.len:Nat):Int))/\LetW (α:=Sl) ⟨(sbase y1.base sz (Int.toNat i) y1.cap),(y1.len-(Int.toNat i)),(y1.cap-(Int.toNat i))⟩ fun y4=>
 CopyW sz y3 y4 (fun _ h2=>
 (((0:Int)<=i/\i<=((y1.len:Nat):Int))/\LetW (α:=Sl) ⟨(sbase y1.base sz (Int.toNat i) y1.cap),(y1.len-(Int.toNat i)),(y1.cap-(Int.toNat i))⟩ fun y5=>
 CopyW sz y5 v (fun _ h3=>
 Q y1 h3) h2)) h1))
 else
 (((0:Int)<=((s.len:Nat):Int)/\((s.len:Nat):Int)<=((y1.len:Nat):Int))/\LetW (α:=Sl) ⟨(sbase y1.base sz (Int.toNat ((s.len:Nat):Int)) y1.cap),(y1.len-(Int.toNat ((s.len:Nat):Int))),(y1.cap-(Int.toNat ((s.len:Nat):Int)))⟩ fun y3=>
 CopyW sz y3 v (fun _ h2=>
 (((0:Int)<=i/\i<=((y1.len:Nat):Int))/\LetW (α:=Sl) ⟨(sbase y1.base sz (Int.toNat i) y1.cap),(y1.len-(Int.toNat i)),(y1.cap-(Int.toNat i))⟩ fun y4=>
 R y4 (fun h3=>Q y1 h3) h2)) h1))) h))))))
theorem zsf2 {bytes tS tR tE bv:Nat} {i0:TypeInfo} {zero csv:List Value} {R:Sl->(Hp->Prop)->Hp->Prop} {s v:Sl} {xs:List α} {e:α} {F:List Nat} {i:Nat} {Q:Sl->Hp->Prop}
    (ht:P.underlying tS=some (.slice tE)) (hinfo:P.info? tE=some i0) (henc:∀x,(enc x).length=sz) (hsz:0<sz) (hok:∀x,zax (enc x)=true) (hz:zero.length=sz) (hzo:∀n,zax (zap zero n)=true)
    (o:OwnF h sz enc s xs F) (rv:Rw h sz enc v [e]) (hv:v.base=some ⟨bv,0,none⟩) (kv:Blk h bv csv) (hne:bv∉F) (hi:i<=xs.length) (hb:xs.length+1<=140737488355328/\(xs.length+1)*bytes<=140737488355328)
    (hq:∀l' h' F',OwnF h' sz enc l' (xs.take i++e::xs.drop i) F'->Mv F h F' h'->Q l' h'):insT P sz bytes zero tS tR R s (i:Int) v Q h:=by
  have hs:=o.1
  have hsc:=o.2.1
  have hvl:v.len=1:=rv.1
  have w1:IntKind.wrap .i64 ((s.len:Int)+(v.len:Int))=(s.len:Int)+1:=by rw [hvl,wrap64 (by omega) (by omega)];rfl
  have w2:IntKind.wrap .i64 ((i:Int)+(v.len:Int))=((i+1:Nat):Int):=by rw [hvl,wrap64 (by omega) (by omega)];omega
  have rvc:zei h v.base (1*sz) (enc e):=by simpa using rv.2
  unfold insT
  rw [w1,w2]
  have it:(i:Int).toNat=i:=by omega
  have it1:((i+1:Nat):Int).toNat=i+1:=by omega
  rw [it,it1]
  refine ⟨by omega,letW ?_⟩
  rw [if_neg (show ¬(((v.len:Int)==0)=true) by simp;omega)]
  by_cases hil:i=xs.length
  · rw [if_pos (show ((i:Int)==(s.len:Int))=true by simp;omega)]
    refine appF o rv henc hok hz (by simpa using hb) fun l' h' F' o' m'=> ?_
    grind
  rw [if_neg (show ¬(((i:Int)==(s.len:Int))=true) by simp;omega)]
  have hlt:i<xs.length:=by omega
  have hmul:∀a b:Nat,a<=b->a*sz<=b*sz:=fun a b hab=>Nat.mul_le_mul_right sz hab
  have htk:((xs.take i).flatMap enc).length=i*sz:=by rw [zaq henc,List.length_take];congr 1;omega
  have hdr:((xs.drop i).flatMap enc).length=(xs.length-i)*sz:=by rw [zaq henc,List.length_drop]
  have hsplit:xs.flatMap enc=(xs.take i).flatMap enc++(xs.drop i).flatMap enc:=by rw [<-List.flatMap_append,List.take_append_drop]
  have hwhole:(xs.take i++e::xs.drop i).flatMap enc=(xs.take i).flatMap enc++enc e++(xs.drop i).flatMap enc:=by simp
  have hwl:(xs.take i++e::xs.drop i).length=xs.length+1:=by simp;omega
  have e1:(i+1)*sz=i*sz+sz:=by grind
  have e2:(xs.length+1)*sz=i*sz+sz+(xs.length-i)*sz:=by
    grind
  have hds:=zcw1 hok (xs.drop i)
  rcases o.2.2 with ⟨ob,oc,_⟩ | ⟨b,cs,ob,rfl,kb,hcl,hct⟩
  · omega
  have hcs:s.cap≠0:=by omega
  rw [ob]
  rw [hs] at hct
  have hcsl:xs.length*sz<=cs.length:=by rw [hcl];exact hmul _ _ (by omega)
  have hb0:sbase (some (⟨b,0,none⟩:Addr)) sz 0 s.cap=some ⟨b,0,none⟩:=by rw [zim (by omega)];simp
  have hbi:sbase (some (⟨b,0,none⟩:Addr)) sz i s.cap=some ⟨b,i*sz,none⟩:=by rw [zim (by omega)];simp
  have hxi:xs.length*sz=i*sz+(xs.length-i)*sz:=by grind
  have rtk:zei h (some ⟨b,0,none⟩) (i*sz) ((xs.take i).flatMap enc):=kb.rd htk (by
    rw [List.drop_zero]
    have:cs.take (i*sz)=(cs.take (xs.length*sz)).take (i*sz):=by rw [List.take_take];congr 1;omega
    grind)
  have rdr:zei h (some ⟨b,i*sz,none⟩) ((xs.length-i)*sz) ((xs.drop i).flatMap enc):=kb.rd hdr (by
    have:(cs.drop (i*sz)).take ((xs.length-i)*sz)=(cs.take (xs.length*sz)).drop (i*sz):=by rw [List.drop_take];congr 1;omega
    grind)
  by_cases hroom:s.cap<xs.length+1
  · rw [if_pos (show (decide ((s.len:Int)+1>(s.cap:Int)))=true by simp;omega)]
    refine ⟨by omega,letW ?_⟩
    rw [hb0]
    have w3:IntKind.wrap .i64 ((s.len:Int)+1-(i:Int))=((xs.length+1-i:Nat):Int):=by rw [wrap64 (by omega) (by omega)];omega
    rw [w3]
    have hm:(((xs.length+1-i:Nat):Int)).toNat=xs.length+1-i:=by omega
    refine zmj2 (l:=⟨some ⟨b,0,none⟩,i-0,s.cap-0⟩) (by omega) rtk ?_ (hzo _) ?_ fun b2 c h1 hb2 hc l1 m1 k1=> ?_
    · grind
    · grind
    rw [hm] at hc k1
    have ein:(i-0)+(xs.length+1-i)=xs.length+1:=by omega
    have hc':xs.length+1<=c:=by
      grind
    have k1':Blk h1 b2 ((xs.take i).flatMap enc++zap zero (xs.length+1-i)++zap zero (c-(xs.length+1))):=by
      grind
    have hlen:(⟨some ⟨b,0,none⟩,i-0,s.cap-0⟩:Sl).len+(((xs.length+1-i:Nat):Int)).toNat=xs.length+1:=by rw [hm];exact ein
    rw [hlen]
    have hne2:b2≠b:=fun e'=>by rw [e'] at hb2;exact kb.known hb2
    have hne3:b2≠bv:=fun e'=>by rw [e'] at hb2;exact kv.known hb2
    refine ⟨by grind,letW ?_⟩
    rw [zim (show c≠i by omega),Nat.zero_add]
    have hzl:∀n,(zap zero n).length=n*sz:=fun n=>by rw [zik,hz]
    have hbl:((xs.take i).flatMap enc++zap zero (xs.length+1-i)++zap zero (c-(xs.length+1))).length=c*sz:=by
      rw [List.length_append,List.length_append,htk,hzl,hzl,<-Nat.add_mul,<-Nat.add_mul];congr 1;omega
    have rv1:zei h1 v.base (1*sz) (enc e):=by simpa using (rv.mono l1).2
    refine zpo (n:=1) k1' (by grind) rv1 (hok e) (by grind) fun h2 m2 k2=> ?_
    refine ⟨by grind,letW ⟨by omega,letW ?_⟩⟩
    rw [zim (show c≠i+1 by omega),Nat.zero_add,hbi]
    have kb2:Blk h2 b cs:=(kb.le l1).mv m2 (by grind)
    have rdr2:zei h2 (some ⟨b,i*sz,none⟩) ((xs.length-i)*sz) ((xs.drop i).flatMap enc):=kb2.rd hdr (by
      grind)
    have k2':=k2
    rw [Nat.one_mul] at k2'
    have cut1:((xs.take i).flatMap enc++zap zero (xs.length+1-i)++zap zero (c-(xs.length+1))).take (i*sz)=(xs.take i).flatMap enc:=by
      grind
    rw [cut1] at k2'
    have hrest:(((xs.take i).flatMap enc++zap zero (xs.length+1-i)++zap zero (c-(xs.length+1))).drop (i*sz+sz)).length=c*sz-(i*sz+sz):=by grind
    generalize ((xs.take i).flatMap enc++zap zero (xs.length+1-i)++zap zero (c-(xs.length+1))).drop (i*sz+sz)=rest at k2' hrest
    have hcc:=hmul _ _ hc'
    refine zpo (n:=xs.length-i) k2' (by grind) rdr2 hds (by
      grind) fun h3 m3 k3=> ?_
    refine hq _ _ [b2] ⟨hwl.symm,hc',.inr ⟨b2,_,rfl,rfl,k3,?_,?_⟩⟩ ?_
    · grind
    · grind
    · have m1':Mv [b] h [b2] h1:=m1.sub (fun b hb=>by cases hb) fun b hb=>.inl hb
      exact m1'.trans (m2.trans m3)
  · rw [if_neg (show ¬(decide ((s.len:Int)+1>(s.cap:Int)))=true by simp;omega)]
    refine ⟨by omega,letW ⟨?_,letW ?_⟩⟩
    · show (0:Int)<=((i+1:Nat):Int)/\((i+1:Nat):Int)<=(((((s.len:Int)+1).toNat-0:Nat)):Int)
      omega
    have hl1:((s.len:Int)+1).toNat-0=xs.length+1:=by omega
    have hcap0:s.cap-0=s.cap:=by omega
    rw [hb0,hl1,hcap0]
    have hbi1:sbase (some (⟨b,0,none⟩:Addr)) sz (i+1) s.cap=some ⟨b,(i+1)*sz,none⟩:=by rw [zim (by omega)];simp
    show SemE P (Extern.SlicesOverlaps.overlaps #[tS,tS] #[tR] #[.slice v.base v.len v.cap,.slice (sbase (some (⟨b,0,none⟩:Addr)) sz (i+1) s.cap) (xs.length+1-(i+1)) (s.cap-(i+1))]) zae _ h
    rw [hbi1,hv]
    refine zpg1 ht hinfo kv kb (fun e'=>hne (by rw [e'];exact List.mem_singleton.2 rfl)) ?_
    rw [if_pos (by rfl)]
    refine ⟨by show (0:Int)<=((i+1:Nat):Int)/\((i+1:Nat):Int)<=((xs.length+1:Nat):Int);omega,letW ⟨by show (0:Int)<=i/\(i:Int)<=((xs.length+1:Nat):Int);omega,letW ?_⟩⟩
    have hcap1:(xs.length+1)*sz<=s.cap*sz:=hmul _ _ (by omega)
    have hbi':sbase (some (⟨b,0,none⟩:Addr)) sz i s.cap=some ⟨b,i*sz,none⟩:=hbi
    show CopyW sz ⟨some ⟨b,(i+1)*sz,none⟩,xs.length+1-(i+1),s.cap-(i+1)⟩ ⟨sbase (some (⟨b,0,none⟩:Addr)) sz i s.cap,xs.length+1-i,s.cap-i⟩ _ h
    rw [hbi']
    refine zpo (n:=xs.length-i) kb (by show min (xs.length+1-i) (xs.length+1-(i+1))=_;omega) rdr hds (by rw [hcl,e1];omega) fun h2 m2 k2=> ?_
    refine ⟨by show (0:Int)<=i/\(i:Int)<=((xs.length+1:Nat):Int);omega,letW ?_⟩
    have rv2:zei h2 v.base (1*sz) (enc e):=by
      refine ⟨by rw [henc,Nat.one_mul],?_⟩
      rcases rvc.2 with e0 | ⟨a,ha,hl⟩
      · exact .inl e0
      · refine .inr ⟨a,ha,fun q u hu=> ?_⟩
        have:=hl q u hu
        rw [hv] at ha
        cases ha
        rw [zbh] at this ⊢
        obtain ⟨t,ek⟩:=id kv
        obtain ⟨t',ek'⟩:=kv.mv m2 (fun hm=>hne hm)
        rw [zhz ek] at this
        rw [zhz ek']
        exact this
    have cut1:(cs.take ((i+1)*sz)++(xs.drop i).flatMap enc++cs.drop ((i+1)*sz+(xs.length-i)*sz)).take (i*sz)=(xs.take i).flatMap enc:=by
      rw [List.append_assoc,List.take_append_of_le_length (by rw [List.length_take,hcl];rw [e1];omega),List.take_take]
      have:cs.take (min (i*sz) ((i+1)*sz))=(cs.take (xs.length*sz)).take (i*sz):=by rw [List.take_take];congr 1;rw [e1];omega
      rw [this,hct,hsplit,<-htk,List.take_left]
    have cut2:(cs.take ((i+1)*sz)++(xs.drop i).flatMap enc++cs.drop ((i+1)*sz+(xs.length-i)*sz)).drop (i*sz+1*sz)=(xs.drop i).flatMap enc++cs.drop ((i+1)*sz+(xs.length-i)*sz):=by
      have:i*sz+1*sz=(cs.take ((i+1)*sz)).length:=by rw [List.length_take,hcl,e1,Nat.one_mul];omega
      rw [List.append_assoc,this,List.drop_left]
    refine zpo (n:=1) k2 (by show min v.len (xs.length+1-i)=1;omega) rv2 (hok e) (by
      simp only [List.length_append,List.length_take,List.length_drop,hdr,hcl,e1,Nat.one_mul]
      omega) fun h3 m3 k3=> ?_
    rw [cut1,cut2] at k3
    refine hq _ _ [b] ⟨hwl.symm,by show xs.length+1<=s.cap;omega,.inr ⟨b,_,rfl,rfl,k3,?_,?_⟩⟩ (m2.trans m3)
    · simp only [List.length_append,List.length_drop,htk,henc,hdr,hcl,e1]
      show _=s.cap*sz
      omega
    grind
def delT (P:Program) (sz bytes:Nat) (zero:List Value) (tS:Nat) (s:Sl) (i j:Int) (Q:Sl->Hp->Prop) (h:Hp):Prop:=
 (((0:Int)<=i/\(i<=j/\(j<=((s.len:Nat):Int)/\((s.len:Nat):Int)<=((s.cap:Nat):Int))))/\LetW (α:=Sl) ⟨(sbase s.base sz (Int.toNat i) (Int.toNat ((s.len:Nat):Int))),((Int.toNat j)-(Int.toNat i)),((Int.toNat ((s.len:Nat):Int))-(Int.toNat i))⟩ fun _=>
 (if (i==j)=true then
 Q s h
 else
 (((0:Int)<=i/\i<=((s.cap:Nat):Int))/\LetW (α:=Sl) ⟨(sbase s.base sz 0 s.cap),((Int.toNat i)-0),(s.cap-0)⟩ fun y1=>
 (((0:Int)<=j/\j<=((s.len:Nat):Int))/\LetW (α:=Sl) ⟨(sbase s.base sz (Int.toNat j) s.cap),(s.len-(Int.toNat j)),(s.cap-(Int.toNat j))⟩ fun y2=>
 zai sz bytes zero y1 y2 (fun r h1=>
 (((0:Int)<=((r.len:Nat):Int)/\(((r.len:Nat):Int)<=((s.len:Nat):Int)/\((s.len:Nat):Int)<=((r.cap:Nat):Int)))/\LetW (α:=Sl) ⟨(sbase r.base sz (Int.toNat ((r.len:Nat):Int)) r.cap),((Int.toNat ((s.len:Nat):Int))-(Int.toNat ((r.len:Nat):Int))),(r.cap-(Int.toNat ((r.len:Nat):Int)))⟩ fun y3=>
 SemE0 P (Builtin.clear_ #[tS] 0 #[y3.v]) zrf (fun h2=>
 Q r h2) h1)) h))))
theorem zsg2 {bytes tS tE:Nat} {z:Value} {s:Sl} {xs:List α} {F:List Nat} {i j:Nat} {Q:Sl->Hp->Prop}
    (ht:P.underlying tS=some (.slice tE)) (hzv:∀ {K:Value->Hp->Prop} {h:Hp},K z h->semW P (zeroValue tE) K h) (henc:∀x,(enc x).length=sz) (hok:∀x,zax (enc x)=true) (hz:(zac z).length=sz) (hzo:∀n,zax (zap (zac z) n)=true)
    (o:OwnF h sz enc s xs F) (hij:i<j) (hj:j<=xs.length) (hb:xs.length<=140737488355328/\xs.length*bytes<=140737488355328)
    (hq:∀l' h',OwnF h' sz enc l' (xs.take i++xs.drop j) F->Mv F h F h'->Q l' h'):delT P sz bytes (zac z) tS s (i:Int) (j:Int) Q h:=by
  have hs:=o.1
  have hsc:=o.2.1
  unfold delT
  have it:(i:Int).toNat=i:=by omega
  have jt:(j:Int).toNat=j:=by omega
  have st:(s.len:Int).toNat=xs.length:=by omega
  rw [it,jt,st]
  refine ⟨by omega,letW ?_⟩
  rw [if_neg (show ¬(((i:Int)==(j:Int))=true) by simp;omega)]
  have hmul:∀a b:Nat,a<=b->a*sz<=b*sz:=fun a b hab=>Nat.mul_le_mul_right sz hab
  have htk:((xs.take i).flatMap enc).length=i*sz:=by rw [zaq henc,List.length_take];congr 1;omega
  have hdr:((xs.drop j).flatMap enc).length=(xs.length-j)*sz:=by rw [zaq henc,List.length_drop]
  rcases o.2.2 with ⟨ob,oc,_⟩ | ⟨b,cs,ob,rfl,kb,hcl,hct⟩
  · omega
  rw [ob]
  rw [hs] at hct
  have hcsl:xs.length*sz<=cs.length:=by rw [hcl];exact hmul _ _ (by omega)
  have hb0:sbase (some (⟨b,0,none⟩:Addr)) sz 0 s.cap=some ⟨b,0,none⟩:=by rw [zim (by omega)];simp
  have hij2:=hmul i xs.length (by omega)
  have hj2:=hmul j xs.length hj
  have hxj:xs.length*sz=j*sz+(xs.length-j)*sz:=by rw [<-Nat.add_mul];congr 1;omega
  have hxij:i*sz<=j*sz:=hmul _ _ (by omega)
  have hti:cs.take (i*sz)=(xs.take i).flatMap enc:=by
    rw [znt henc,<-hct,List.take_take];congr 1;omega
  have rtk:zei h (some ⟨b,0,none⟩) ((i-0)*sz) ((xs.take i).flatMap enc):=kb.rd htk (by rw [List.drop_zero];exact hti)
  have rdr:zei h (sbase (some (⟨b,0,none⟩:Addr)) sz j s.cap) ((xs.length-j)*sz) ((xs.drop j).flatMap enc):=by
    by_cases hcj:s.cap=j
    · refine ⟨hdr,.inl ?_⟩
      have:xs.length-j=0:=by omega
      rw [this,Nat.zero_mul]
    · rw [zim hcj,Nat.zero_add]
      refine kb.rd hdr ?_
      rw [zlf henc,<-hct,List.drop_take]
      congr 1
      omega
  refine ⟨by omega,letW ⟨by omega,letW ?_⟩⟩
  rw [hb0]
  have hnb:i-0+(xs.length-j)<=xs.length:=by omega
  have hbm:(i-0+(xs.length-j))*bytes<=xs.length*bytes:=Nat.mul_le_mul_right _ hnb
  have hx0:(⟨sbase (some (⟨b,0,none⟩:Addr)) sz j s.cap,s.len-j,s.cap-j⟩:Sl).len=xs.length-j:=by show s.len-j=_;omega
  refine zpf2 (n:=xs.length-j) kb rtk (by rw [hx0];exact rdr) hx0 (zcw1 hok _) ⟨by omega,by omega⟩ (by omega) (by
    have:i-0=i:=by omega
    rw [this,Nat.zero_add,hcl]
    have:=hmul (i+(xs.length-j)) s.cap (by omega)
    rw [Nat.add_mul] at this
    exact this) fun h1 m1 k1=> ?_
  have hi0:i-0=i:=by omega
  rw [hi0,Nat.zero_add] at k1
  show ((0:Int)<=((i-0+(xs.length-j):Nat):Int)/\((i-0+(xs.length-j):Nat):Int)<=(s.len:Int)/\(s.len:Int)<=((s.cap-0:Nat):Int))/\LetW (α:=Sl) ⟨sbase (some ⟨b,0,none⟩) sz (((i-0+(xs.length-j):Nat):Int)).toNat (s.cap-0),xs.length-(((i-0+(xs.length-j):Nat):Int)).toNat,s.cap-0-(((i-0+(xs.length-j):Nat):Int)).toNat⟩ _
  refine ⟨by omega,letW ?_⟩
  have hn:(((i-0+(xs.length-j):Nat):Int)).toNat=i+(xs.length-j):=by omega
  have hcap0:s.cap-0=s.cap:=by omega
  rw [hn,hcap0,zim (show s.cap≠i+(xs.length-j) by omega),Nat.zero_add]
  have hcnt:xs.length-(i+(xs.length-j))=j-i:=by omega
  have hmulij:(i+(xs.length-j))*sz=i*sz+(xs.length-j)*sz:=Nat.add_mul _ _ _
  have hlen1:(cs.take (i*sz)++(xs.drop j).flatMap enc++cs.drop (i*sz+(xs.length-j)*sz)).length=cs.length:=by
    simp only [List.length_append,List.length_take,List.length_drop,hdr]
    omega
  show SemE0 P (Builtin.clear_ #[tS] 0 #[.slice (some ⟨b,(i+(xs.length-j))*sz,none⟩) (xs.length-(i+(xs.length-j))) (s.cap-(i+(xs.length-j)))]) zrf _ h1
  rw [hcnt]
  refine zwc1 ht hzv hzo k1 (by
    rw [hlen1,hz,hmulij]
    have:i*sz+(j-i)*sz=j*sz:=by rw [<-Nat.add_mul];congr 1;omega
    omega) fun h2 m2 k2=> ?_
  have hres:(xs.take i++xs.drop j).length=i+(xs.length-j):=by simp;omega
  refine hq _ _ ⟨?_,?_,.inr ⟨b,_,rfl,rfl,k2,?_,?_⟩⟩ (m1.trans m2)
  · rw [hres,hi0]
  · show i-0+(xs.length-j)<=s.cap
    omega
  · simp only [List.length_append,List.length_take,List.length_drop,hlen1,zik,hz]
    show _=s.cap*sz
    have:i*sz+(j-i)*sz=j*sz:=by rw [<-Nat.add_mul];congr 1;omega
    rw [hmulij]
    omega
  grind
end
def SlA {α:Type} (sz:Nat) (enc:α->List Value) (l:Sl) (xs:List α):Asn where
 R k F:=l.len=xs.length/\l.len<=l.cap/\((l.base=none/\l.cap=0/\∀b,¬F b)\/∃(b off:Nat) (cs:List Value),l.base=some ⟨b,off,none⟩/\(∀c,F c↔c=b)/\Blk k b cs/\off+l.cap*sz<=cs.length/\(cs.drop off).take (l.len*sz)=xs.flatMap enc)
 same:=by
  rintro k k' F ⟨h1,h2,h3⟩ hs
  refine ⟨h1,h2,h3.imp id ?_⟩
  rintro ⟨b,off,cs,e1,e2,⟨t,e3⟩,e4⟩
  exact ⟨b,off,cs,e1,e2,⟨t,by grind⟩,e4⟩
 known:=by
  rintro k F ⟨_,_,h3⟩ c hc
  rcases h3 with ⟨_,_,h⟩ | ⟨b,off,cs,e1,e2,e3,_⟩
  ·grind
  ·rw [(e2 c).1 hc];exact e3.known
section
variable {α:Type} {h0 k:Hp} {sz:Nat} {enc:α->List Value} {l:Sl} {xs:List α}
theorem Has.nilSl {h0 k:Hp} (hl:h0<=k):Has h0 (SlA sz enc ⟨none,0,0⟩ ([]:List α)) k:=⟨hl,fun _=>False,⟨rfl,Nat.le_refl _,.inl ⟨rfl,rfl,fun _ h=>h⟩⟩,fun _ h=>h.elim⟩
theorem Has.slen (o:Has h0 (SlA sz enc l xs) k):l.len=xs.length:=by obtain ⟨_,_,h,_⟩:=o;exact h.1
theorem Has.scap (o:Has h0 (SlA sz enc l xs) k):l.len<=l.cap:=by obtain ⟨_,_,h,_⟩:=o;exact h.2.1
theorem Has.srw (o:Has h0 (SlA sz enc l xs) k) (henc:∀x,(enc x).length=sz):Rw k sz enc l xs:=by
 obtain ⟨_,F,⟨h1,h2,h3⟩,_⟩:=o
 refine ⟨h1,zaq henc xs,?_⟩
 rcases h3 with ⟨e,ec,_⟩ | ⟨b,off,cs,e,_,hb,hl,ht⟩
 ·grind
 ·right
  exact ⟨_,e,hb.ldIs (n:=l.len*sz) ht⟩
theorem Has.ofOwn {b:Nat} {cs:List Value} (hl:h0<=k) (hn:h0 b=none) (hb:Blk k b cs) (hb0:l.base=some ⟨b,0,none⟩) (h1:l.len=xs.length) (h2:l.len<=l.cap) (h3:cs.length=l.cap*sz) (h4:cs.take (l.len*sz)=xs.flatMap enc):Has h0 (SlA sz enc l xs) k:=
 ⟨hl,fun c=>c=b,⟨h1,h2,.inr ⟨b,0,cs,hb0,fun _=>Iff.rfl,hb,by omega,by simpa using h4⟩⟩,fun c hc=>by rw [hc];exact hn⟩
theorem Has.ofOwnF {F:List Nat} (o:OwnF k sz enc l xs F) (hl:h0<=k) (hf:∀b∈F,h0 b=none):Has h0 (SlA sz enc l xs) k:=by
 obtain ⟨h1,h2,h3⟩:=o
 rcases h3 with ⟨e,ec,rfl⟩ | ⟨b,cs,e,rfl,hb,hc,ht⟩
 ·exact ⟨hl,fun _=>False,⟨h1,h2,.inl ⟨e,ec,fun _ h=>h⟩⟩,fun _ h=>h.elim⟩
 ·exact Has.ofOwn hl (hf b (List.mem_singleton.2 rfl)) hb e h1 h2 hc ht
theorem newSl {k:Hp} {cs:List Value} {K:Addr->Hp->Prop} (hc:cs=xs.flatMap enc) (henc:∀x,(enc x).length=sz) (hk:∀a k',k<=k'->Has k (SlA sz enc ⟨some a,xs.length,xs.length⟩ xs) k'->K a k'):NewW cs K k:=by
 intro b t hb
 refine hk _ _ (zcu hb) (Has.ofOwn (b:=b) (cs:=cs) (zcu hb) hb ⟨t,zbw⟩ rfl rfl (Nat.le_refl _) (by rw [hc,zaq henc]) ?_)
 rw [hc]
 show List.take (xs.length*sz) _=_
 rw [<-zaq henc xs,List.take_length]
theorem Has.app {zero:List Value} {bytes:Nat} {x:Sl} {ys:List α} {K:Sl->Hp->Prop} (o:Has h0 (SlA sz enc l xs) k) (r:Rw k sz enc x ys) (henc:∀x,(enc x).length=sz) (hok:∀x,zax (enc x)=true)
  (hz:zero.length=sz) (hb:xs.length+ys.length<=140737488355328/\(xs.length+ys.length)*bytes<=140737488355328)
  (hk:∀l' k',Has h0 (SlA sz enc l' (xs++ys)) k'->K l' k'):zai sz bytes zero l x K k:=by
 have hrw:=o.srw henc
 obtain ⟨hle,F,⟨h1,h2,h3⟩,hf⟩:=o
 obtain ⟨hx1,hx2⟩:=r
 refine ⟨ys.flatMap enc,by grind,xs.flatMap enc,by rw [h1];exact hrw.2,by grind,zcw1 hok ys,fun hcap=> ?_,fun hcap c b t hc hbn=> ?_⟩
 ·rcases h3 with ⟨e,ec,hF⟩ | ⟨b,off,cs,e,hF,hbk,hl,ht⟩
  ·have e1:ys.length=0:=by omega
   have e2:ys=[]:=List.length_eq_zero_iff.1 e1
   subst e2
   refine ⟨fun a ha=>(by grind),?_⟩
   have e3:putO k l.base (l.len*sz) (([]:List α).flatMap enc)=k:=by rw [e];rfl
   rw [e3,hx1]
   exact hk _ k ⟨hle,F,⟨by simp [h1],by simpa using h2,.inl ⟨e,ec,hF⟩⟩,hf⟩
  ·have hmul:l.len*sz+(ys.flatMap enc).length<=l.cap*sz:=by
    rw [zaq henc,<-Nat.add_mul]
    exact Nat.mul_le_mul_right sz (by omega)
   obtain ⟨p1,p2⟩:=hbk.put (off:=off+l.len*sz) (new:=ys.flatMap enc) (by omega)
   have hn:h0 b=none:=hf b ((hF b).2 rfl)
   refine ⟨fun a ha=> ?_,?_⟩
   ·rw [e] at ha;cases ha
    rw [zbh]
    refine hbk.stOk _ ?_
    rw [hx1,<-zaq henc ys]
    omega
   ·have e3:putO k l.base (l.len*sz) (ys.flatMap enc)=putL k ⟨b,off+l.len*sz,none⟩ (ys.flatMap enc) 0:=by
     rw [e]
     simp only [putO,zbh]
    rw [e3]
    refine hk _ _ ⟨fun c ob ec=> ?_,F,⟨by simp [h1,hx1],hcap,.inr ⟨b,off,_,e,hF,p1,?_,?_⟩⟩,hf⟩
    ·have hne:c≠b:=fun e'=>by grind
     rw [p2 c hne]
     exact hle c ob ec
    ·grind
    ·have hle2:off+l.len*sz<=cs.length:=by omega
     have e4:(l.len+x.len)*sz=l.len*sz+(ys.flatMap enc).length:=by rw [hx1,zaq henc,Nat.add_mul]
     have e5:(cs.take (off+l.len*sz)).drop off=xs.flatMap enc:=by
      rw [List.drop_take,<-ht]
      congr 1
      omega
     show List.take ((l.len+x.len)*sz) _=_
     rw [e4,List.append_assoc,List.drop_append_of_le_length (by rw [List.length_take];omega),e5,List.flatMap_append,<-List.append_assoc]
     have e6:l.len*sz+(ys.flatMap enc).length=(xs.flatMap enc++ys.flatMap enc).length:=by rw [List.length_append,zaq henc xs,h1]
     grind
 ·have hn0:h0 b=none:=zbz hle hbn
  refine hk _ _ (Has.ofOwn (b:=b) (cs:=xs.flatMap enc++ys.flatMap enc++zap zero (c-(l.len+x.len))) (Hp.le_trans hle (zcu hbn)) hn0 ⟨t,zbw⟩ rfl (by simp [h1,hx1]) hc ?_ ?_)
  ·rw [List.length_append,List.length_append,zaq henc,zaq henc,zik,hz,<-Nat.add_mul,<-Nat.add_mul]
   grind
  ·have e4:(l.len+x.len)*sz=(xs.flatMap enc++ys.flatMap enc).length:=by
    rw [List.length_append,zaq henc,zaq henc,h1,hx1,Nat.add_mul]
   grind
theorem Has.push {zero:List Value} {bytes:Nat} {e:α} {cs:List Value} {K:Sl->Hp->Prop} (o:Has h0 (SlA sz enc l xs) k) (hcs:cs=enc e) (henc:∀x,(enc x).length=sz) (hok:∀x,zax (enc x)=true)
  (hz:zero.length=sz) (hb:xs.length+1<=140737488355328/\(xs.length+1)*bytes<=140737488355328)
  (hk:∀l' k',Has h0 (SlA sz enc l' (xs++ [e])) k'->K l' k'):NewW cs (fun a k1=>zai sz bytes zero l ⟨some a,1,1⟩ K k1) k:=by
 refine newSl (xs:=[e]) (sz:=sz) (enc:=enc) (by rw [hcs];simp) henc fun a k1 hl1 n=> ?_
 exact (o.grow hl1).app (n.srw henc) henc hok hz hb hk
theorem Has.cutHead (o:Has h0 (SlA sz enc l xs) k) (henc:∀x,(enc x).length=sz) {n c:Nat} (hn:n<=xs.length) (hc:n<=c) (hc2:c<=l.cap):Has h0 (SlA sz enc ⟨sbase l.base sz 0 c,n-0,c-0⟩ (xs.take n)) k:=by
 obtain ⟨hle,F,⟨h1,h2,h3⟩,hf⟩:=o
 have hb:sbase l.base sz 0 c=l.base:=by
  unfold sbase
  split
  ·rfl
  ·cases l.base with
   | none=>rfl
   | some a=>obtain ⟨b,off,sp⟩:=a;simp [Addr.add]
 refine ⟨hle,F,⟨by simp;omega,by simp;omega,?_⟩,hf⟩
 rw [hb]
 rcases h3 with ⟨e,ec,hF⟩ | ⟨b,off,cs,e,hF,hbk,hl,ht⟩
 ·grind
 ·refine .inr ⟨b,off,cs,e,hF,hbk,?_,?_⟩
  ·have:(c-0)*sz<=l.cap*sz:=Nat.mul_le_mul_right sz (by omega)
   grind
  ·show List.take ((n-0)*sz) _=_
   rw [znt henc,<-ht,List.take_take]
   congr 1
   have:n*sz<=l.len*sz:=Nat.mul_le_mul_right sz (by omega)
   grind
theorem Has.cutTail {a:α} {r:List α} (o:Has h0 (SlA sz enc l (a::r)) k) (henc:∀x,(enc x).length=sz) {c:Nat} (hc:l.len<=c) (hc2:c<=l.cap):Has h0 (SlA sz enc ⟨sbase l.base sz 1 c,l.len-1,c-1⟩ r) k:=by
 obtain ⟨hle,F,⟨h1,h2,h3⟩,hf⟩:=o
 have hlen:l.len=r.length+1:=by simpa using h1
 refine ⟨hle,F,⟨by grind,by grind,?_⟩,hf⟩
 rcases h3 with ⟨e,ec,hF⟩ | ⟨b,off,cs,e,hF,hbk,hl,ht⟩
 ·omega
 ·by_cases hc1:c=1
  ·have hr:r=[]:=List.length_eq_zero_iff.1 (by omega)
   subst hr
   refine .inr ⟨b,off,cs,?_,hF,hbk,?_,?_⟩
   ·show sbase l.base sz 1 c=_
    unfold sbase
    rw [if_pos hc1];exact e
   ·show off+(c-1)*sz<=_
    have:(c-1)*sz<=l.cap*sz:=Nat.mul_le_mul_right sz (by omega)
    omega
   grind
  ·refine .inr ⟨b,off+1*sz,cs,?_,hF,hbk,?_,?_⟩
   ·show sbase l.base sz 1 c=_
    rw [e,zim hc1]
   ·show off+1*sz+(c-1)*sz<=_
    have:1*sz+(c-1)*sz<=l.cap*sz:=by rw [<-Nat.add_mul];exact Nat.mul_le_mul_right sz (by omega)
    omega
   ·show List.take ((l.len-1)*sz) _=_
    have e1:(List.flatMap enc (a::r)).drop sz=r.flatMap enc:=by
     grind
    rw [<-e1,<-ht,List.drop_take,List.drop_drop,Nat.one_mul]
    congr 1
    rw [hlen,Nat.add_mul,Nat.one_mul]
    simp
theorem zir2 (henc:∀x,(enc x).length=sz) {off n:Nat} {cs:List Value} (hn:n=xs.length) (hl:off+n*sz<=cs.length) (ht:(cs.drop off).take (n*sz)=xs.flatMap enc) {i:Nat} (hi:i<xs.length) (x:α):
  ((cs.take (off+i*sz)++enc x++cs.drop (off+i*sz+sz)).drop off).take (n*sz)=(xs.set i x).flatMap enc:=by
 have hmul:i*sz+sz<=n*sz:=by
  have:=Nat.mul_le_mul_right sz (show i+1<=n by omega)
  rw [Nat.add_mul,Nat.one_mul] at this
  exact this
 rw [zmo1 x hi,List.flatMap_append,List.flatMap_cons,znt henc,zlf henc,<-ht]
 have t1:((cs.take (off+i*sz)).drop off)=(cs.drop off).take (i*sz):=by rw [List.drop_take];congr 1;omega
 rw [List.append_assoc,List.drop_append_of_le_length (by rw [List.length_take];omega),t1,List.take_take,Nat.min_eq_left (by omega)]
 have l1:((cs.drop off).take (i*sz)).length=i*sz:=by rw [List.length_take,List.length_drop];omega
 rw [List.take_append,l1,List.take_of_length_le (by omega),List.take_append,henc,List.take_of_length_le (l:=enc x) (by rw [henc];omega)]
 congr 2
 rw [List.drop_take,List.drop_drop]
 grind
theorem Has.sput (o:Has h0 (SlA sz enc l xs) k) (henc:∀x,(enc x).length=sz) {i:Nat} {x x':α} (hx:xs[i]? =some x) {off:Nat} {new:List Value} (hoff:off+new.length<=sz) (hn:(enc x).take off++new++(enc x).drop (off+new.length)=enc x')
  {K:Hp->Prop} (hk:∀k',Has h0 (SlA sz enc l (xs.set i x')) k'->K k'):StW k ((sat l.base sz (i:Int)).add off) new K:=by
 have hi:i<xs.length:=(List.getElem?_eq_some_iff.1 hx).1
 obtain ⟨hle,F,⟨h1,h2,h3⟩,hf⟩:=o
 rcases h3 with ⟨e,ec,hF⟩ | ⟨b,off0,cs,e,hF,hbk,hl,ht⟩
 ·omega
 ·have hn0:h0 b=none:=hf b ((hF b).2 rfl)
  have hmul:i*sz+sz<=l.len*sz:=by
   have:=Nat.mul_le_mul_right sz (show i+1<=l.len by omega)
   rw [Nat.add_mul,Nat.one_mul] at this
   exact this
  have hmul2:l.len*sz<=l.cap*sz:=Nat.mul_le_mul_right sz h2
  have ea:(sat l.base sz (i:Int)).add off=⟨b,off0+i*sz+off,none⟩:=by unfold sat;rw [e,Option.getD_some,zbh,zbh,Int.toNat_natCast]
  rw [ea]
  have t3:(cs.drop (off0+i*sz)).take sz=enc x:=by
   have h2:(xs.drop i).flatMap enc=enc x++(xs.drop (i+1)).flatMap enc:=by
    rw [List.drop_eq_getElem_cons hi,List.flatMap_cons]
    rw [List.getElem?_eq_getElem hi] at hx
    rw [Option.some.inj hx]
   have h3:(xs.drop i).flatMap enc=(cs.drop (off0+i*sz)).take (l.len*sz-i*sz):=by
    rw [zlf henc,<-ht,List.drop_take,List.drop_drop]
   rw [h3] at h2
   have h4:=congrArg (List.take sz) h2
   rw [List.take_take,Nat.min_eq_left (by omega),<-henc x,List.take_left] at h4
   rw [henc x] at h4
   exact h4
  have hcs:cs=cs.take (off0+i*sz)++(enc x++cs.drop (off0+i*sz+sz)):=by
   have e8:cs.drop (off0+i*sz+sz)=(cs.drop (off0+i*sz)).drop sz:=by rw [List.drop_drop]
   rw [<-t3,e8,List.take_append_drop,List.take_append_drop]
  have hl0:(cs.take (off0+i*sz)).length=off0+i*sz:=by rw [List.length_take];omega
  have hle':(enc x).length=sz:=henc x
  have d1:cs.take (off0+i*sz+off)=cs.take (off0+i*sz)++(enc x).take off:=by
   conv=>lhs;rw [hcs]
   rw [List.take_append,hl0,List.take_of_length_le (by omega),List.take_append,hle',show off0+i*sz+off-(off0+i*sz)=off by omega,show off-sz=0 by omega,List.take_zero,List.append_nil]
  have d2:cs.drop (off0+i*sz+off+new.length)=(enc x).drop (off+new.length)++cs.drop (off0+i*sz+sz):=by
   conv=>lhs;rw [hcs]
   rw [List.drop_append,hl0,List.drop_eq_nil_of_le (by omega),List.nil_append,List.drop_append,hle',show off0+i*sz+off+new.length-(off0+i*sz)=off+new.length by omega,show off+new.length-sz=0 by omega,List.drop_zero]
  refine zmt hbk (by omega) fun k' m hb'=> ?_
  rw [d1,d2,show cs.take (off0+i*sz)++(enc x).take off++new++((enc x).drop (off+new.length)++cs.drop (off0+i*sz+sz))=cs.take (off0+i*sz)++enc x'++cs.drop (off0+i*sz+sz) by rw [<-hn];simp] at hb'
  refine hk k' ⟨fun c ob ec=>m.keep c ob (hle c ob ec) (fun hc=>(by rw [List.mem_singleton.1 hc,hn0] at ec;cases ec)),F,⟨by simp [h1],h2,.inr ⟨b,off0,_,e,hF,hb',?_,zir2 henc h1 (by omega) ht hi x'⟩⟩,hf⟩
  grind
end
end Lf
namespace Lf
structure PIns where
 op:Int
 a:Int
 b:Int
 c:Int
 imm:Int
def zat (op:Int):Bool×Bool×Bool×Bool:=
 if op=1 then (true,false,false,true)
 else if op=2\/op=20\/op=21\/op=25\/op=26 then (true,true,false,false)
 else if (3<=op/\op<=14)\/(15<=op/\op<=19)\/op=24 then (true,true,true,false)
 else if op=22\/op=29\/op=30 then (false,false,false,true)
 else if op=23 then (true,false,false,true)
 else if op=27\/op=28\/op=31\/op=32\/op=33 then (true,false,false,false)
 else (false,false,false,false)
def regP (has:Bool) (n:Int):Int:=if has=false/\n≠0 then 11 else if n<0\/8<=n then 10 else 0
def zcg (x:PIns) (n locks:Int):Int×Int:=
 if x.op<0\/34<=x.op then (9,0)
 else if regP (zat x.op).1 x.a≠0 then (regP (zat x.op).1 x.a,1)
 else if regP (zat x.op).2.1 x.b≠0 then (regP (zat x.op).2.1 x.b,2)
 else if regP (zat x.op).2.2.1 x.c≠0 then (regP (zat x.op).2.2.1 x.c,3)
 else if (zat x.op).2.2.2=false/\x.imm≠0 then (11,4)
 else if (x.op=22\/x.op=23)/\(x.imm<0\/n<x.imm) then (12,4)
 else if (x.op=29\/x.op=30)/\(x.imm<0\/locks<=x.imm) then (13,4)
 else (0,0)
def codeR (n locks:Int):List PIns->Int->Int×Int
 | [],_=>(0,0)
 | x::r,i=>if (zcg x n locks).1≠0 then ((zcg x n locks).1,i) else codeR n locks r (i+1)
def codeP (l:List PIns) (locks:Int):Int×Int:=
 if locks<0\/8<locks then (1,0) else if 256<l.length then (3,256) else codeR l.length locks l 0
structure PProc where
 part:Int
 code:List PIns
structure PCfg where
 labels:List Int
 table:List Int
 fuel:Int
 lane:Int
 locks:Int
 log:Int
 procs:List PProc
def within (n a b:Int):Bool:=decide (a<=n)&&decide (n<=b)
def zrk (parts locks:Int):List PProc->Int->Int×Int
 | [],_=>(0,0)
 | p::r,i=>if within p.part 0 (parts-1)=false then (2,7+i) else if (codeP p.code locks).1≠0 then ((codeP p.code locks).1,7+i) else zrk parts locks r (i+1)
def cfgP (m:Int) (c:PCfg):Int×Int:=
 if m≠0 then (m,0)
 else if c.table=[] then (1,1)
 else if 64<c.table.length then (3,1)
 else if c.table.all (fun p=>within p 0 (c.labels.length-1))=false then (2,1)
 else if within c.fuel 1 256=false then (2,2)
 else if within c.lane 1 64=false then (2,3)
 else if within c.locks 0 8=false then (2,4)
 else if within c.log 0 4096=false then (2,5)
 else if c.procs=[] then (1,6)
 else if 32<c.procs.length then (3,6)
 else zrk c.labels.length c.locks c.procs 0
def leB (n:Int):Nat->List UInt8
 | 0=> []
 | k+1=>UInt8.ofNat (n%256).toNat::leB (n / 256) k
def valB :List UInt8->Nat
 | []=>0
 | b::r=>b.toNat+256*valB r
theorem zdb (n:Int) (k:Nat):(leB n k).length=k:=by
 induction k generalizing n with
 | zero=>rfl
 | succ k ih=>simp [leB,ih]
theorem zfb1 (n:Int) (k:Nat):(valB (leB n k):Int)=n%((256^k:Nat):Int):=by
 induction k generalizing n with
 | zero=>
  show ((0:Nat):Int)=n%1
  omega
 | succ k ih=>
  have h1:(UInt8.ofNat (n%256).toNat).toNat=(n%256).toNat:=by
   rw [UInt8.toNat_ofNat']
   have:(n%256).toNat<256:=by omega
   omega
  have h2:=ih (n / 256)
  have e:((256^(k+1):Nat):Int)=256*((256^k:Nat):Int):=by
   rw [Nat.pow_succ,Int.natCast_mul,Int.mul_comm];rfl
  rw [e]
  show (((UInt8.ofNat (n%256).toNat).toNat+256*valB (leB (n / 256) k):Nat):Int)=_
  rw [h1]
  generalize ((256^k:Nat):Int)=q at*
  have h3:(0:Int)<=n%256:=by omega
  have h4:=Int.emod_add_mul_ediv n (256*q)
  have h5:=Int.emod_add_mul_ediv (n / 256) q
  have h6:=Int.emod_add_mul_ediv n 256
  have h7:n / (256*q)=n / 256 / q:=(Int.ediv_ediv_of_nonneg (by decide)).symm
  grind
theorem zsp1 :∀l:List UInt8,valB l<256^l.length
 | []=>by simp [valB]
 | b::r=>by
  have h1:=zsp1 r
  have h2:=b.toNat_lt
  simp only [valB,List.length_cons,Nat.pow_succ]
  omega
theorem zao1 :∀l:List UInt8,leB (valB l:Int) l.length=l
 | []=>rfl
 | b::r=>by
  have h2:=b.toNat_lt
  have e1:(((b.toNat+256*valB r:Nat):Int)%256).toNat=b.toNat:=by omega
  have e2:((b.toNat+256*valB r:Nat):Int) / 256=(valB r:Int):=by omega
  simp only [valB,List.length_cons,leB]
  rw [e1,e2,zao1 r]
  simp
def insB (x:PIns):List UInt8:=leB x.op 1++(leB x.a 1++(leB x.b 1++(leB x.c 1++leB x.imm 8)))
def codeB (l:List PIns):List UInt8:=l.flatMap insB
def procB (p:PProc):List UInt8:=leB p.part 1++(leB p.code.length 2++codeB p.code)
def cfgB (c:PCfg):List UInt8:=
 [70,66,67,70,1]++(leB c.labels.length 1++(c.labels.flatMap (fun a=>leB a 8)++(leB c.table.length 1++(c.table.flatMap (fun a=>leB a 1)++
  (leB c.fuel 2++(leB c.lane 1++(leB c.locks 1++(leB c.log 2++(leB c.procs.length 1++c.procs.flatMap procB)))))))))
structure zfc1 where
 tick:Int
 proc:Int
 value:Int
structure zdi where
 proc:Int
 value:Int
structure PLane where
 values:List Int
 waiters:List zdi
 taken:Int
 dropped:Int
structure PProcess where
 state:Int
 pc:Int
 regs:List Int
 cursor:Int
 timer:Int
 fired:Bool
 wake:Int
 lanes:List PLane
structure PPart where
 cursor:Int
 log:List zfc1
 lost:Int
 forbidden:Int
 owners:List Int
 queues:List (List Int)
structure zbi where
 tick:Int
 parts:List PPart
 procs:List PProcess
section
variable (c:PCfg) (s:zbi)
def ofP (p:Int) (i:Nat):Prop:=0<=p/\∃y,c.procs[p.toNat]? =some y/\y.part=(i:Int)
def stP (p:Int) (q:PProcess->Prop):Prop:=∃x,s.procs[p.toNat]? =some x/\q x
def manyP (i:Nat):Nat:=(c.procs.filter fun y=>decide (y.part=(i:Int))).length
def Cnt (n:Int):Prop:=0<=n/\n<=65535
def insP (y:PProc) (pc:Int):Option PIns:=if 0<=pc then y.code[pc.toNat]? else none
def LogG (i:Nat):Int->List zfc1->Prop
 | _,[]=>True
 | last,e::r=>last<=e.tick/\e.tick<s.tick/\ofP c e.proc i/\LogG i e.tick r
def PartG (i:Nat) (x:PPart):Prop:=
 (0<=x.cursor/\(0<x.cursor->x.cursor<manyP c i)/\(x.log.length:Int)<=c.log)/\LogG c s i 0 x.log/\Cnt x.lost/\Cnt x.forbidden/\(0<x.lost->c.log<=x.log.length)/\
 (x.owners.length:Int)=c.locks/\(x.queues.length:Int)=c.locks/\∀p∈x.owners,p≠ -1->ofP c p i/\stP s p fun z=>z.state≠5/\z.state≠6
def Used (l:PLane):Prop:=l.values≠ []\/0<l.taken\/0<l.dropped
def ProcG (fl:Nat->Int->Prop) (x:PProcess) (y:PProc):Prop:=
 (0<=x.state/\x.state<=6)/\(0<=x.pc/\x.pc<=y.code.length)/\x.lanes.length=c.labels.length+1/\(0<=x.cursor/\x.cursor<x.lanes.length)/\
 (0<=x.timer/\x.timer<=s.tick+1099511627776)/\(0<=x.wake/\x.wake<=s.tick+1099511627776)/\(0<x.wake↔x.state=4)/\
 (x.state=5\/x.state=6->x.timer=0/\x.fired=false)/\
 (∀(i:Nat) l,x.lanes[i]? =some l->(l.values.length:Int)<=c.lane/\Cnt l.taken/\Cnt l.dropped/\(Used l->i<c.labels.length->fl i y.part))/\
 (x.state=1->(∃n,insP y x.pc=some n/\n.op=25)/\(∀l∈x.lanes,l.values=[])/\x.fired=false)/\
 (x.state=2->∃n,insP y x.pc=some n/\n.op=24)/\(x.state=3->∃n,insP y x.pc=some n/\n.op=29)/\(x.state=4->∃n,insP y x.pc=some n/\n.op=28)
def atP (p:Int) (q:PProcess->PIns->Prop):Prop:=∃x y n,s.procs[p.toNat]? =some x/\c.procs[p.toNat]? =some y/\insP y x.pc=some n/\q x n
def zsh2 (p v:Int) (r:Nat):Prop:=atP c s p fun x n=>x.state=2/\n.op=24/\x.regs[n.b.toNat]? =some (r:Int)/\x.regs[n.c.toNat]? =some v
def cntQ (p:Int) (x:PPart):Nat:=(x.queues.map fun q=>q.countP (fun z=>decide (z=p))).sum
def cntW (p:Int) (l:PLane):Nat:=l.waiters.countP fun w=>decide (w.proc=p)
def cntL (p:Int) (x:PProcess):Nat:=(x.lanes.map (cntW p)).sum
def zpg2 :Prop:=
 (∀(i:Nat) x,s.parts[i]? =some x->∀(k:Nat) q,x.queues[k]? =some q->∀p∈q,ofP c p i/\(atP c s p fun z n=>z.state=3/\n.imm=(k:Int))/\∃o,x.owners[k]? =some o/\0<=o/\o≠p)/\
 (∀(r:Nat) x y,s.procs[r]? =some x->c.procs[r]? =some y->∀(i:Nat) l,x.lanes[i]? =some l->∀w∈l.waiters,(i:Int)=y.part/\ofP c w.proc i/\(x.state≠5/\x.state≠6)/\(l.values.length:Int)=c.lane/\zsh2 c s w.proc w.value r)/\
 (∀(p:Nat) x,s.procs[p]? =some x->(s.parts.map (cntQ (p:Int))).sum+(s.procs.map (cntL (p:Int))).sum=if x.state=3\/x.state=2 then 1 else 0)
def zsi2 :Prop:=(0<=s.tick/\s.tick<=4611686018427387904)/\s.parts.length=c.labels.length/\s.procs.length=c.procs.length
def MayG (fl:Nat->Int->Prop):Prop:=
 zsi2 c s/\(∀(i:Nat) x,s.parts[i]? =some x->PartG c s i x)/\(∀(p:Nat) x y,s.procs[p]? =some x->c.procs[p]? =some y->ProcG c s fl x y)/\zpg2 c s
end
theorem zfd1 {α:Type} (f:α->Nat):∀(l:List α) (i:Nat),(∀j x,l[j]? =some x->j≠i->f x=0)->(l.map f).sum=((l[i]?).map f).getD 0
 | [],i,_=>by simp
 | x::r,0,h=>by
  have:(r.map f).sum=0:=by
   rw [List.sum_eq_zero_iff_forall_eq_nat]
   intro y hy
   obtain ⟨z,hz,rfl⟩:=List.mem_map.1 hy
   obtain ⟨j,hj⟩:=List.getElem?_of_mem hz
   exact h (j+1) z (by simpa using hj) (by omega)
  simp [this]
 | x::r,i+1,h=>by
  have h0:=h 0 x rfl (by omega)
  have:=zfd1 f r i fun j y hj hne=>h (j+1) y (by simpa using hj) (by omega)
  simp [h0,this]
end Lf
namespace Lf
open Go
structure MS where
 tick:Int
 part:Nat->PPart
 proc:Nat->PProcess
def MS.setP (s:MS) (p:Nat) (x:PProcess):MS:=⟨s.tick,s.part,fset s.proc p x⟩
def MS.setI (s:MS) (i:Nat) (x:PPart):MS:=⟨s.tick,fset s.part i x,s.proc⟩
def pOf (c:PCfg) (p:Nat):Nat:=((c.procs[p]?).map fun y=>y.part.toNat).getD 0
def zcj (c:PCfg) (p:Nat):List PIns:=((c.procs[p]?).map fun y=>y.code).getD []
def nP (c:PCfg):Nat:=c.labels.length
def nQ (c:PCfg):Nat:=c.procs.length
def MS.list (c:PCfg) (s:MS):zbi:=⟨s.tick,(List.range (nP c)).map s.part,(List.range (nQ c)).map s.proc⟩
def insL (l:List PIns) (pc:Int):Option PIns:=if 0<=pc then l[pc.toNat]? else none
def putR (r:List Int) (i v:Int):List Int:=if 0<=i/\i<8 then r.set i.toNat v else r
def regR (r:List Int) (i:Int):Int:=r.getD i.toNat 0
structure Core where
 pc:Int
 regs:List Int
def PProcess.core (x:PProcess):Core:=⟨x.pc,x.regs⟩
def PProcess.put (x:PProcess) (k:Core):PProcess:={x with pc:=k.pc,regs:=k.regs}
def nextC (k:Core):Core:=⟨k.pc+1,k.regs⟩
def toldC (l:List PIns) (k:Core) (v:Int):Core:=match insL l k.pc with
 | some n=>⟨k.pc+1,putR k.regs n.a v⟩
 | none=>nextC k
def tookC (l:List PIns) (k:Core) (v from_:Int):Core:=match insL l k.pc with
 | some n=>⟨k.pc+1,putR (putR k.regs n.a v) n.b from_⟩
 | none=>nextC k
structure Want where
 kind:Int
 to:Int
 value:Int
def wantP (x:PIns) (r:List Int):Option (Want×Bool):=
 if x.op=0 then some (⟨1,0,0⟩,true)
 else if x.op=24 then some (⟨2,regR r x.b,regR r x.c⟩,true)
 else if x.op=25 then some (⟨3,0,0⟩,true)
 else if x.op=26 then some (⟨4,0,0⟩,true)
 else if x.op=27 then some (⟨5,0,regR r x.a⟩,false)
 else if x.op=28 then some (⟨6,0,regR r x.a⟩,true)
 else if x.op=29 then some (⟨7,x.imm,0⟩,true)
 else if x.op=30 then some (⟨8,x.imm,0⟩,false)
 else if x.op=31 then some (⟨9,0,regR r x.a⟩,false)
 else none
def zcx1 (D:Int->Int->Int->Int) (x:PIns) (k:Core) (tick self:Int):Core:=
 if x.op=1 then ⟨k.pc+1,putR k.regs x.a x.imm⟩
 else if x.op=2 then ⟨k.pc+1,putR k.regs x.a (regR k.regs x.b)⟩
 else if x.op=32 then ⟨k.pc+1,putR k.regs x.a tick⟩
 else if x.op=33 then ⟨k.pc+1,putR k.regs x.a self⟩
 else if x.op=22 then ⟨x.imm,k.regs⟩
 else if x.op=23 then if regR k.regs x.a=0 then nextC k else ⟨x.imm,k.regs⟩
 else ⟨k.pc+1,putR k.regs x.a (D x.op (regR k.regs x.b) (regR k.regs x.c))⟩
def stepP (D:Int->Int->Int->Int) (l:List PIns) (k:Core) (tick self:Int):Core×Want:=match insL l k.pc with
 | none=>(k,⟨1,0,0⟩)
 | some x=>if (zcg x l.length 8).1≠0 then (k,⟨1,0,0⟩) else match wantP x k.regs with
  | some (w,stays)=>(if stays then k else nextC k,w)
  | none=>(zcx1 D x k tick self,⟨0,0,0⟩)
section
variable (c:PCfg) (D:Int->Int->Int->Int) (fl:Nat->Nat->Bool)
def more (n:Int):Int:=if n+1<=65535 then n+1 else 65535
def zcv (x:PProcess):Bool:=decide (x.state≠5)&&decide (x.state≠6)
def goX (x:PProcess) (k:Core):PProcess:={x with state:=0,pc:=k.pc,regs:=k.regs}
def goesS (s:MS) (p:Nat):MS:=s.setP p (goX (s.proc p) (nextC (s.proc p).core))
def zck (s:MS) (who:Int):MS:=if 0<=who then goesS s who.toNat else s
def toldS (s:MS) (p:Nat) (v:Int):MS:=s.setP p (goX (s.proc p) (toldC (zcj c p) (s.proc p).core v))
def wakeX (x:PProcess):PProcess:={x with state:=if x.state=1 then 0 else x.state}
def laneX (x:PProcess) (i:Nat) (f:PLane->PLane):PProcess:={x with lanes:=x.lanes.modify i f}
def inL (v:Int) (l:PLane):PLane:={l with values:=l.values++ [v]}
def missL (l:PLane):PLane:={l with dropped:=more l.dropped}
def waitL (p v:Int) (l:PLane):PLane:={l with waiters:=l.waiters++ [⟨p,v⟩]}
def fullX (x:PProcess) (i:Nat):Bool:=match x.lanes[i]? with
 | some l=>decide (c.lane<=(l.values.length:Int))
 | none=>true
def sendS (s:MS) (p:Nat) (to v:Int):MS:=
 if to<0\/(nQ c:Int)<=to then toldS c s p 1
 else if fl (pOf c p) (pOf c to.toNat)=false then toldS c (s.setI (pOf c p) {s.part (pOf c p) with forbidden:=more (s.part (pOf c p)).forbidden}) p 0
 else if pOf c p=pOf c to.toNat then
  if zcv (s.proc to.toNat)=false then toldS c s p 2
  else if fullX c (s.proc to.toNat) (pOf c p) then
   let s1:=s.setP to.toNat (laneX (s.proc to.toNat) (pOf c p) (waitL p v))
   s1.setP p {s1.proc p with state:=2}
  else toldS c (s.setP to.toNat (wakeX (laneX (s.proc to.toNat) (pOf c p) (inL v)))) p 0
 else if zcv (s.proc to.toNat)=false\/fullX c (s.proc to.toNat) (pOf c p) then toldS c (s.setP to.toNat (laneX (s.proc to.toNat) (pOf c p) missL)) p 0
 else toldS c (s.setP to.toNat (wakeX (laneX (s.proc to.toNat) (pOf c p) (inL v)))) p 0
def zcg1 (cursor:Int) (l:List PLane):Option Nat:=
 ((List.range l.length).map fun k=>(cursor.toNat+k)%l.length).find? fun i=>match l[i]? with
  | some x=> !x.values.isEmpty
  | none=>false
def tookL (l:PLane):PLane:=match l.waiters with
 | []=>{l with values:=l.values.tail,taken:=more l.taken}
 | w::r=>{l with values:=l.values.tail++ [w.value],waiters:=r,taken:=more l.taken}
def takeS (s:MS) (p:Nat) (try_:Bool):MS:=
 let x:=s.proc p
 match zcg1 x.cursor x.lanes with
 | some i=>
  let l:=x.lanes.getD i ⟨[],[],0,0⟩
  let x1:={laneX x i tookL with cursor:=((i+1:Nat):Int)%(x.lanes.length:Int)}
  let s1:=s.setP p (x1.put (tookC (zcj c p) x.core (l.values.headD 0) i))
  match l.waiters with
  | []=>s1
  | w::_=>toldS c s1 w.proc.toNat 0
 | none=>
  if x.fired then s.setP p {x.put (tookC (zcj c p) x.core 0 (-2)) with fired:=false}
  else if try_ then s.setP p (x.put (tookC (zcj c p) x.core 0 (-1)))
  else s.setP p {x with state:=1}
def zaf {α:Type} (f:α->Bool):List α->List α
 | []=> []
 | a::l=>if f a then l else a::zaf f l
def zoq (p:Int) (x:PProcess):PProcess:={x with lanes:=x.lanes.map fun l=>{l with waiters:=zaf (fun w=>decide (w.proc=p)) l.waiters}}
def zca (p:Int):List Int->List (List Int)->List Int×List (List Int)×List Int
 | o::os,q::qs=>
  let r:=zca p os qs
  if o=p then match q with
   | []=>(-1::r.1,[]::r.2.1, -1::r.2.2)
   | a::q'=>(a::r.1,q'::r.2.1,a::r.2.2)
  else (o::r.1,q::r.2.1,r.2.2)
 | os,qs=>(os,qs,[])
def zlh (p:Int) (x:PPart):PPart×List Int:=
 let r:=zca p x.owners (x.queues.map (zaf fun z=>decide (z=p)))
 ({x with owners:=r.1,queues:=r.2.1},r.2.2)
def endS (s:MS) (p:Nat) (st:Int):MS:=
 let i:=pOf c p
 let s1:=s.setP p {s.proc p with state:=st,fired:=false}
 let s2:MS:=⟨s1.tick,s1.part,fun q=>if q<nQ c/\pOf c q=i then zoq p (s1.proc q) else s1.proc q⟩
 let r:=zlh p (s2.part i)
 let s3:=r.2.foldl zck (s2.setI i r.1)
 let s4:=s3.setP p {s3.proc p with timer:=0,wake:=0}
 let ws:=(s4.proc p).lanes.flatMap (·.waiters)
 ws.foldl (fun s w=>toldS c s w.proc.toNat 2) (s4.setP p {s4.proc p with lanes:=(s4.proc p).lanes.map fun l=>{l with waiters:=[]}})
def outS (s:MS) (p:Nat) (v:Int):MS:=
 let x:=s.part (pOf c p)
 s.setI (pOf c p) (if (x.log.length:Int)<c.log then {x with log:=x.log++ [⟨s.tick,p,v⟩]} else {x with lost:=more x.lost})
def lockS (s:MS) (p:Nat) (n:Int):MS:=
 let x:=s.part (pOf c p)
 let o:=x.owners.getD n.toNat 0
 if o= -1\/o=p then goK (s.setI (pOf c p) {x with owners:=x.owners.set n.toNat p}) p
 else (s.setI (pOf c p) {x with queues:=x.queues.modify n.toNat (· ++ [(p:Int)])}).setP p {s.proc p with state:=3}
where
 goK (s:MS) (p:Nat):MS:=s.setP p ((s.proc p).put (nextC (s.proc p).core))
def zuo (s:MS) (p:Nat) (n:Int):MS:=
 let x:=s.part (pOf c p)
 if x.owners.getD n.toNat (-1)=p then match x.queues.getD n.toNat [] with
  | []=>s.setI (pOf c p) {x with owners:=x.owners.set n.toNat (-1)}
  | a::r=>zck (s.setI (pOf c p) {x with owners:=x.owners.set n.toNat a,queues:=x.queues.set n.toNat r}) a
 else s
def mnI (a b:Int):Int:=if a<=b then a else b
def mxI (a b:Int):Int:=if a<=b then b else a
def doS (s:MS) (p:Nat):MS:=
 let r:=stepP D (zcj c p) (s.proc p).core s.tick p
 let s1:=s.setP p ((s.proc p).put r.1)
 let w:=r.2
 if w.kind=1 then endS c s1 p 5
 else if w.kind=2 then sendS c fl s1 p w.to w.value
 else if w.kind=3 then takeS c s1 p false
 else if w.kind=4 then takeS c s1 p true
 else if w.kind=5 then s1.setP p {s1.proc p with fired:=false,timer:=if 0<w.value then s.tick+mnI w.value 1099511627776 else 0}
 else if w.kind=6 then s1.setP p {s1.proc p with state:=4,wake:=s.tick+mnI (mxI w.value 1) 1099511627776}
 else if w.kind=7 then lockS c s1 p w.to
 else if w.kind=8 then zuo c s1 p w.to
 else if w.kind=9 then outS c s1 p w.value
 else s1
def dueX (t:Int) (x:PProcess):PProcess:=
 let y:PProcess:=if 0<x.wake/\x.wake<=t then {x with wake:=0,state:=0,pc:=x.pc+1} else x
 if 0<y.timer/\y.timer<=t then {y with timer:=0,fired:=true,state:=if y.state=1 then 0 else y.state} else y
def dueS (s:MS) (i:Nat):MS:=⟨s.tick,s.part,fun q=>if q<nQ c/\pOf c q=i then dueX s.tick (s.proc q) else s.proc q⟩
def ofI (i:Nat):List Nat:=(List.range (nQ c)).filter fun q=>decide (pOf c q=i)
def pickI (s:MS) (i:Nat):Option Nat:=
 ((List.range (ofI c i).length).map fun k=>((s.part i).cursor.toNat+k)%(ofI c i).length).find? fun a=>decide ((s.proc ((ofI c i).getD a 0)).state=0)
def turnS (s:MS) (i a:Nat):MS:=doS c D fl (s.setI i {s.part i with cursor:=((a+1:Nat):Int)%((ofI c i).length:Int)}) ((ofI c i).getD a 0)
def zix (i:Nat):Nat->MS->MS
 | 0,s=>s
 | n+1,s=>match pickI c s i with
  | none=>s
  | some a=>zix i n (turnS c D fl s i a)
def zds (t:Int):Nat:=(c.table.getD (t.toNat%c.table.length) 0).toNat
def tickS (s:MS):MS:=
 let s1:=zix c D fl (zds c s.tick) c.fuel.toNat (dueS c s (zds c s.tick))
 ⟨s1.tick+1,s1.part,s1.proc⟩
def ztg (s:MS) (p:Int):Int:=if p<0\/(nQ c:Int)<=p then 17 else if zcv (s.proc p.toNat)=false then 18 else 0
def zoa (s:MS) (p v:Int):MS×Int:=
 if ztg c s p≠0 then (s,ztg c s p)
 else if fullX c (s.proc p.toNat) (nP c) then (s.setP p.toNat (laneX (s.proc p.toNat) (nP c) missL),19)
 else (s.setP p.toNat (wakeX (laneX (s.proc p.toNat) (nP c) (inL v))),0)
def killS (s:MS) (p:Int):MS×Int:=
 if ztg c s p≠0 then (s,ztg c s p) else (endS c s p.toNat 6,0)
def zth :MS:=⟨0,fun _=>⟨0,[],0,0,List.replicate c.locks.toNat (-1),List.replicate c.locks.toNat []⟩,
 fun _=>⟨0,0,List.replicate 8 0,0,0,false,0,List.replicate (nP c+1) ⟨[],[],0,0⟩⟩⟩
end
section
variable {P:Program} {α:Type} {h0 k:Hp} {sz:Nat} {enc:α->List Value} {s:Sl} {xs:List α}
theorem zwd1 {tS tE bytes:Nat} {zero:List Value} {x y:Operand} {Q:Sl->Hp->Prop} (hu:P.underlying tS=some (.slice tE)) (r:Rw k sz enc s xs) (hsz:0<sz) (henc:∀x,(enc x).length=sz) (hok:∀x,zax (enc x)=true) (hz:zero.length=sz)
  (hb:xs.length<=140737488355328/\xs.length*bytes<=140737488355328) (hk:∀l' k',k<=k'->Has k (SlA sz enc l' xs) k'->Q l' k'):
  SemV none P (binS .eql tS x y s.v (.slice none 0 0)) zae k fun x=>(if x=true then Q ⟨none,0,0⟩ k else NewW [] (fun a h1=>zai sz bytes zero ⟨(some a),0,0⟩ s (fun r h2=>Q r h2) h1) k):=by
 refine ⟨s.base.isNone,zum hu s,?_⟩
 cases hb0:s.base with
 | none=>
  rw [if_pos (show (none:Option Addr).isNone=true from rfl)]
  have:xs=[]:=by
   rcases r.2.2 with e | ⟨a,ha,_⟩
   ·exact List.length_eq_zero_iff.1 ((Nat.mul_eq_zero.1 e).resolve_right (by omega))
   grind
  subst this
  exact hk _ k (Hp.le_refl k) (Has.nilSl (Hp.le_refl k))
 | some a=>
  rw [if_neg (by simp)]
  refine newSl (xs:=([]:List α)) (enc:=enc) (sz:=sz) rfl henc fun a k1 hl1 n=> ?_
  refine n.app (Rw.mono hl1 r) henc hok hz (by simpa using hb) fun l' k' o=> ?_
  exact hk l' k' o.le (by simpa using o)
def posF (f:α->Bool) (xs:List α):Int:=match xs.findIdx? f with
 | some i=>i
 | none=> -1
theorem zyu (f:α->Bool):∀xs:List α,zaf f xs=if 0<=posF f xs then xs.take (posF f xs).toNat++xs.drop ((posF f xs).toNat+1) else xs
 | []=>by simp [zaf,posF]
 | a::l=>by
  unfold zaf
  by_cases h:f a=true
  ·have:posF f (a::l)=0:=by unfold posF;grind
   rw [if_pos h,this]
   simp
  ·have ih:=zyu f l
   rw [if_neg h,ih]
   unfold posF
   grind
theorem zis2 {f:α->Bool} {xs:List α} (h:0<=posF f xs):posF f xs<xs.length:=by
 unfold posF at*
 cases e:xs.findIdx? f with
 | none=>grind
 | some i=>
  have:=(List.findIdx?_eq_some_iff_getElem.1 e).1
  grind
theorem zit2 {f:α->Bool} {xs:List α} {t:Nat} {x:α} (hx:xs[t]? =some x) (hf:f x=true) (hn:∀(j:Nat) y,j<t->xs[j]? =some y->f y=false):posF f xs=t:=by
 have:xs.findIdx? f=some t:=by
  rw [List.findIdx?_eq_some_iff_getElem]
  grind
 unfold posF
 rw [this]
theorem zfe1 {f:α->Bool} {xs:List α} (hn:∀x∈xs,f x=false):posF f xs= -1:=by
 have:xs.findIdx? f=none:=List.findIdx?_eq_none_iff.2 hn
 unfold posF
 rw [this]
theorem Has.sdel {bytes tS tE:Nat} {z:Value} {i j:Nat} {Q:Sl->Hp->Prop} (ht:P.underlying tS=some (.slice tE)) (hzv:∀ {K:Value->Hp->Prop} {h:Hp},K z h->semW P (zeroValue tE) K h) (henc:∀x,(enc x).length=sz) (hok:∀x,zax (enc x)=true) (hz:(zac z).length=sz) (hzo:∀n,zax (zap (zac z) n)=true)
  (o:Has h0 (SlA sz enc s xs) k) (hij:i<j) (hj:j<=xs.length) (hb:xs.length<=140737488355328/\xs.length*bytes<=140737488355328)
  (hq:∀l' k',Has h0 (SlA sz enc l' (xs.take i++xs.drop j)) k'->Q l' k'):delT P sz bytes (zac z) tS s (i:Int) (j:Int) Q k:=by
 obtain ⟨hle,F,⟨hs,hsc,h3⟩,hf⟩:=o
 unfold delT
 have it:(i:Int).toNat=i:=by omega
 have jt:(j:Int).toNat=j:=by omega
 have st:(s.len:Int).toNat=xs.length:=by omega
 rw [it,jt,st]
 refine ⟨by omega,letW ?_⟩
 rw [if_neg (show ¬(((i:Int)==(j:Int))=true) by simp;omega)]
 have hmul:∀a b:Nat,a<=b->a*sz<=b*sz:=fun a b hab=>Nat.mul_le_mul_right sz hab
 have htk:((xs.take i).flatMap enc).length=i*sz:=by rw [zaq henc,List.length_take];congr 1;omega
 have hdr:((xs.drop j).flatMap enc).length=(xs.length-j)*sz:=by rw [zaq henc,List.length_drop]
 rcases h3 with ⟨ob,oc,_⟩ | ⟨b,off,cs,ob,hF,kb,hcl,hct⟩
 ·omega
 rw [ob]
 rw [hs] at hct
 have hn:h0 b=none:=hf b ((hF b).2 rfl)
 have hcsl:off+xs.length*sz<=cs.length:=by grind
 have hb0:sbase (some (⟨b,off,none⟩:Addr)) sz 0 s.cap=some ⟨b,off,none⟩:=by rw [zim (by omega)];simp
 have hij2:=hmul i xs.length (by omega)
 have hj2:=hmul j xs.length hj
 have hxj:xs.length*sz=j*sz+(xs.length-j)*sz:=by rw [<-Nat.add_mul];congr 1;omega
 have hxij:i*sz<=j*sz:=hmul _ _ (by omega)
 have hti:(cs.drop off).take (i*sz)=(xs.take i).flatMap enc:=by
  rw [znt henc,<-hct,List.take_take];congr 1;omega
 have rtk:zei k (some ⟨b,off,none⟩) ((i-0)*sz) ((xs.take i).flatMap enc):=kb.rd htk (by omega)
 have rdr:zei k (sbase (some (⟨b,off,none⟩:Addr)) sz j s.cap) ((xs.length-j)*sz) ((xs.drop j).flatMap enc):=by
  by_cases hcj:s.cap=j
  ·refine ⟨hdr,.inl ?_⟩
   grind
  ·rw [zim hcj]
   refine kb.rd hdr ?_
   rw [zlf henc,<-hct,List.drop_take,List.drop_drop]
   grind
 refine ⟨by omega,letW ⟨by omega,letW ?_⟩⟩
 rw [hb0]
 have hnb:i-0+(xs.length-j)<=xs.length:=by omega
 have hbm:(i-0+(xs.length-j))*bytes<=xs.length*bytes:=Nat.mul_le_mul_right _ hnb
 have hx0:(⟨sbase (some (⟨b,off,none⟩:Addr)) sz j s.cap,s.len-j,s.cap-j⟩:Sl).len=xs.length-j:=by grind
 have hi0:i-0=i:=by omega
 refine zpf2 (n:=xs.length-j) kb rtk (by rw [hx0];exact rdr) hx0 (zcw1 hok _) ⟨by omega,by omega⟩ (by omega) (by
  grind) fun h1 m1 k1=> ?_
 rw [hi0] at k1
 show ((0:Int)<=((i-0+(xs.length-j):Nat):Int)/\((i-0+(xs.length-j):Nat):Int)<=(s.len:Int)/\(s.len:Int)<=((s.cap-0:Nat):Int))/\LetW (α:=Sl) ⟨sbase (some ⟨b,off,none⟩) sz (((i-0+(xs.length-j):Nat):Int)).toNat (s.cap-0),xs.length-(((i-0+(xs.length-j):Nat):Int)).toNat,s.cap-0-(((i-0+(xs.length-j):Nat):Int)).toNat⟩ _
 refine ⟨by omega,letW ?_⟩
 have hnn:(((i-0+(xs.length-j):Nat):Int)).toNat=i+(xs.length-j):=by omega
 have hcap0:s.cap-0=s.cap:=by omega
 rw [hnn,hcap0,zim (show s.cap≠i+(xs.length-j) by omega)]
 have hcnt:xs.length-(i+(xs.length-j))=j-i:=by omega
 have hmulij:(i+(xs.length-j))*sz=i*sz+(xs.length-j)*sz:=Nat.add_mul _ _ _
 have hlen1:(cs.take (off+i*sz)++(xs.drop j).flatMap enc++cs.drop (off+i*sz+(xs.length-j)*sz)).length=cs.length:=by
  grind
 show SemE0 P (Builtin.clear_ #[tS] 0 #[.slice (some ⟨b,off+(i+(xs.length-j))*sz,none⟩) (xs.length-(i+(xs.length-j))) (s.cap-(i+(xs.length-j)))]) zrf _ h1
 rw [hcnt]
 have hji:i*sz+(j-i)*sz=j*sz:=by rw [<-Nat.add_mul];congr 1;omega
 refine zwc1 ht hzv hzo k1 (by
  grind) fun h2 m2 k2=> ?_
 have hres:(xs.take i++xs.drop j).length=i+(xs.length-j):=by simp;omega
 have m:=m1.trans m2
 refine hq _ _ ⟨fun c ob2 ec=>m.keep c ob2 (hle c ob2 ec) (fun hc=>(by grind)),F,⟨?_,?_,.inr ⟨b,off,_,rfl,hF,k2,?_,?_⟩⟩,hf⟩
 ·rw [hres,hi0]
 ·grind
 ·simp only [List.length_append,List.length_take,List.length_drop,hlen1,zik,hz]
  omega
 ·show List.take ((i-0+(xs.length-j))*sz) _=_
  have t1:((cs.take (off+i*sz)).drop off)=(xs.take i).flatMap enc:=by grind
  have e3:i*sz+(xs.length-j)*sz=((xs.take i).flatMap enc++(xs.drop j).flatMap enc).length:=by grind
  have e4:List.drop off (List.take (off+(i+(xs.length-j))*sz) (cs.take (off+i*sz)++(xs.drop j).flatMap enc++cs.drop (off+i*sz+(xs.length-j)*sz)))=(xs.take i).flatMap enc++(xs.drop j).flatMap enc:=by
   rw [List.drop_take,show off+(i+(xs.length-j))*sz-off=i*sz+(xs.length-j)*sz by rw [hmulij];omega,List.append_assoc,List.drop_append_of_le_length (by grind),t1,<-List.append_assoc,e3,List.take_left]
  rw [hi0,List.append_assoc,List.drop_append_of_le_length (by rw [List.length_take,hlen1,hmulij];omega),e4,hmulij,e3,List.flatMap_append,List.take_left]
end
structure S_api_Config where
 Labels:Sl
 Table:Sl
 Fuel:Int
 Lane:Int
 Locks:Int
 Log:Int
 Procs:Sl
def S_api_Config.v (x:S_api_Config):Value:=.agg #[.slice x.Labels.base x.Labels.len x.Labels.cap,.slice x.Table.base x.Table.len x.Table.cap,.int .i64 x.Fuel,.int .i64 x.Lane,.int .i64 x.Locks,.int .i64 x.Log,.slice x.Procs.base x.Procs.len x.Procs.cap]
@[reducible] def sh_api_Config : Shape where
 T:=S_api_Config
 enc:=fun x=>.agg #[.slice x.Labels.base x.Labels.len x.Labels.cap,.slice x.Table.base x.Table.len x.Table.cap,.int .i64 x.Fuel,.int .i64 x.Lane,.int .i64 x.Locks,.int .i64 x.Log,.slice x.Procs.base x.Procs.len x.Procs.cap]
 dec:=fun v=>match v with
  | .agg ⟨[.slice a0 b0 c0,.slice a1 b1 c1,.int .i64 a2,.int .i64 a3,.int .i64 a4,.int .i64 a5,.slice a6 b6 c6]⟩=>some ⟨⟨a0,b0,c0⟩,⟨a1,b1,c1⟩,a2,a3,a4,a5,⟨a6,b6,c6⟩⟩
  | _=>none
 ok:=by intro v x h;split at h<;>cases h;rfl
structure S_api_Step where
 Kind:Int
 N:Int
 V:Int
def S_api_Step.v (x:S_api_Step):Value:=.agg #[.int .i64 x.Kind,.int .i64 x.N,.int .i64 x.V]
@[reducible] def zpp : Shape where
 T:=S_api_Step
 enc:=fun x=>.agg #[.int .i64 x.Kind,.int .i64 x.N,.int .i64 x.V]
 dec:=fun v=>match v with
  | .agg ⟨[.int .i64 a0,.int .i64 a1,.int .i64 a2]⟩=>some ⟨a0,a1,a2⟩
  | _=>none
 ok:=by intro v x h;split at h<;>cases h;rfl
structure S_api_Answer where
 E:Int
 Tick:Int
 Owner:Int
def S_api_Answer.v (x:S_api_Answer):Value:=.agg #[.int .i64 x.E,.int .i64 x.Tick,.int .i64 x.Owner]
@[reducible] def zoy : Shape where
 T:=S_api_Answer
 enc:=fun x=>.agg #[.int .i64 x.E,.int .i64 x.Tick,.int .i64 x.Owner]
 dec:=fun v=>match v with
  | .agg ⟨[.int .i64 a0,.int .i64 a1,.int .i64 a2]⟩=>some ⟨a0,a1,a2⟩
  | _=>none
 ok:=by intro v x h;split at h<;>cases h;rfl
structure S_api_Ins where
 Op:Int
 A:Int
 B:Int
 C:Int
 Imm:Int
def S_api_Ins.v (x:S_api_Ins):Value:=.agg #[.int .i64 x.Op,.int .i64 x.A,.int .i64 x.B,.int .i64 x.C,.int .i64 x.Imm]
@[reducible] def sh_api_Ins : Shape where
 T:=S_api_Ins
 enc:=fun x=>.agg #[.int .i64 x.Op,.int .i64 x.A,.int .i64 x.B,.int .i64 x.C,.int .i64 x.Imm]
 dec:=fun v=>match v with
  | .agg ⟨[.int .i64 a0,.int .i64 a1,.int .i64 a2,.int .i64 a3,.int .i64 a4]⟩=>some ⟨a0,a1,a2,a3,a4⟩
  | _=>none
 ok:=by intro v x h;split at h<;>cases h;rfl
structure S_api_Proc where
 Part:Int
 Code:Sl
def S_api_Proc.v (x:S_api_Proc):Value:=.agg #[.int .i64 x.Part,.slice x.Code.base x.Code.len x.Code.cap]
@[reducible] def sh_api_Proc : Shape where
 T:=S_api_Proc
 enc:=fun x=>.agg #[.int .i64 x.Part,.slice x.Code.base x.Code.len x.Code.cap]
 dec:=fun v=>match v with
  | .agg ⟨[.int .i64 a0,.slice a1 b1 c1]⟩=>some ⟨a0,⟨a1,b1,c1⟩⟩
  | _=>none
 ok:=by intro v x h;split at h<;>cases h;rfl
structure S_twin_Twins where
 A_Labels:Sl
 A_Table:Sl
 A_Fuel:Int
 A_Lane:Int
 A_Locks:Int
 A_Log:Int
 A_Procs:Sl
 B_Labels:Sl
 B_Table:Sl
 B_Fuel:Int
 B_Lane:Int
 B_Locks:Int
 B_Log:Int
 B_Procs:Sl
 S:Sl
 T:Sl
 Label:Int
def S_twin_Twins.v (x:S_twin_Twins):Value:=.agg #[.slice x.A_Labels.base x.A_Labels.len x.A_Labels.cap,.slice x.A_Table.base x.A_Table.len x.A_Table.cap,.int .i64 x.A_Fuel,.int .i64 x.A_Lane,.int .i64 x.A_Locks,.int .i64 x.A_Log,.slice x.A_Procs.base x.A_Procs.len x.A_Procs.cap,.slice x.B_Labels.base x.B_Labels.len x.B_Labels.cap,.slice x.B_Table.base x.B_Table.len x.B_Table.cap,.int .i64 x.B_Fuel,.int .i64 x.B_Lane,.int .i64 x.B_Locks,.int .i64 x.B_Log,.slice x.B_Procs.base x.B_Procs.len x.B_Procs.cap,.slice x.S.base x.S.len x.S.cap,.slice x.T.base x.T.len x.T.cap,.int .u64 x.Label]
@[reducible] def zsq1 : Shape where
 T:=S_twin_Twins
 enc:=fun x=>.agg #[.slice x.A_Labels.base x.A_Labels.len x.A_Labels.cap,.slice x.A_Table.base x.A_Table.len x.A_Table.cap,.int .i64 x.A_Fuel,.int .i64 x.A_Lane,.int .i64 x.A_Locks,.int .i64 x.A_Log,.slice x.A_Procs.base x.A_Procs.len x.A_Procs.cap,.slice x.B_Labels.base x.B_Labels.len x.B_Labels.cap,.slice x.B_Table.base x.B_Table.len x.B_Table.cap,.int .i64 x.B_Fuel,.int .i64 x.B_Lane,.int .i64 x.B_Locks,.int .i64 x.B_Log,.slice x.B_Procs.base x.B_Procs.len x.B_Procs.cap,.slice x.S.base x.S.len x.S.cap,.slice x.T.base x.T.len x.T.cap,.int .u64 x.Label]
 dec:=fun v=>match v with
  | .agg ⟨[.slice a0 b0 c0,.slice a1 b1 c1,.int .i64 a2,.int .i64 a3,.int .i64 a4,.int .i64 a5,.slice a6 b6 c6,.slice a7 b7 c7,.slice a8 b8 c8,.int .i64 a9,.int .i64 a10,.int .i64 a11,.int .i64 a12,.slice a13 b13 c13,.slice a14 b14 c14,.slice a15 b15 c15,.int .u64 a16]⟩=>some ⟨⟨a0,b0,c0⟩,⟨a1,b1,c1⟩,a2,a3,a4,a5,⟨a6,b6,c6⟩,⟨a7,b7,c7⟩,⟨a8,b8,c8⟩,a9,a10,a11,a12,⟨a13,b13,c13⟩,⟨a14,b14,c14⟩,⟨a15,b15,c15⟩,a16⟩
  | _=>none
 ok:=by intro v x h;split at h<;>cases h;rfl
structure S_api_State where
 Tick:Int
 Parts:Sl
 Procs:Sl
def S_api_State.v (x:S_api_State):Value:=.agg #[.int .i64 x.Tick,.slice x.Parts.base x.Parts.len x.Parts.cap,.slice x.Procs.base x.Procs.len x.Procs.cap]
@[reducible] def zfg : Shape where
 T:=S_api_State
 enc:=fun x=>.agg #[.int .i64 x.Tick,.slice x.Parts.base x.Parts.len x.Parts.cap,.slice x.Procs.base x.Procs.len x.Procs.cap]
 dec:=fun v=>match v with
  | .agg ⟨[.int .i64 a0,.slice a1 b1 c1,.slice a2 b2 c2]⟩=>some ⟨a0,⟨a1,b1,c1⟩,⟨a2,b2,c2⟩⟩
  | _=>none
 ok:=by intro v x h;split at h<;>cases h;rfl
structure S_n8_int64 where
 a0:Int
 a1:Int
 a2:Int
 a3:Int
 a4:Int
 a5:Int
 a6:Int
 a7:Int
def S_n8_int64.v (x:S_n8_int64):Value:=.agg #[.int .i64 x.a0,.int .i64 x.a1,.int .i64 x.a2,.int .i64 x.a3,.int .i64 x.a4,.int .i64 x.a5,.int .i64 x.a6,.int .i64 x.a7]
@[reducible] def zej : Shape where
 T:=S_n8_int64
 enc:=fun x=>.agg #[.int .i64 x.a0,.int .i64 x.a1,.int .i64 x.a2,.int .i64 x.a3,.int .i64 x.a4,.int .i64 x.a5,.int .i64 x.a6,.int .i64 x.a7]
 dec:=fun v=>match v with
  | .agg ⟨[.int .i64 a0,.int .i64 a1,.int .i64 a2,.int .i64 a3,.int .i64 a4,.int .i64 a5,.int .i64 a6,.int .i64 a7]⟩=>some ⟨a0,a1,a2,a3,a4,a5,a6,a7⟩
  | _=>none
 ok:=by intro v x h;split at h<;>cases h;rfl
structure S_api_Process where
 State:Int
 PC:Int
 Regs_0:Int
 Regs_1:Int
 Regs_2:Int
 Regs_3:Int
 Regs_4:Int
 Regs_5:Int
 Regs_6:Int
 Regs_7:Int
 Cursor:Int
 Timer:Int
 Fired:Bool
 Wake:Int
 Lanes:Sl
def S_api_Process.v (x:S_api_Process):Value:=.agg #[.int .i64 x.State,.int .i64 x.PC,.int .i64 x.Regs_0,.int .i64 x.Regs_1,.int .i64 x.Regs_2,.int .i64 x.Regs_3,.int .i64 x.Regs_4,.int .i64 x.Regs_5,.int .i64 x.Regs_6,.int .i64 x.Regs_7,.int .i64 x.Cursor,.int .i64 x.Timer,.bool x.Fired,.int .i64 x.Wake,.slice x.Lanes.base x.Lanes.len x.Lanes.cap]
@[reducible] def sh_api_Process : Shape where
 T:=S_api_Process
 enc:=fun x=>.agg #[.int .i64 x.State,.int .i64 x.PC,.int .i64 x.Regs_0,.int .i64 x.Regs_1,.int .i64 x.Regs_2,.int .i64 x.Regs_3,.int .i64 x.Regs_4,.int .i64 x.Regs_5,.int .i64 x.Regs_6,.int .i64 x.Regs_7,.int .i64 x.Cursor,.int .i64 x.Timer,.bool x.Fired,.int .i64 x.Wake,.slice x.Lanes.base x.Lanes.len x.Lanes.cap]
 dec:=fun v=>match v with
  | .agg ⟨[.int .i64 a0,.int .i64 a1,.int .i64 a2,.int .i64 a3,.int .i64 a4,.int .i64 a5,.int .i64 a6,.int .i64 a7,.int .i64 a8,.int .i64 a9,.int .i64 a10,.int .i64 a11,.bool a12,.int .i64 a13,.slice a14 b14 c14]⟩=>some ⟨a0,a1,a2,a3,a4,a5,a6,a7,a8,a9,a10,a11,a12,a13,⟨a14,b14,c14⟩⟩
  | _=>none
 ok:=by intro v x h;split at h<;>cases h;rfl
structure S_run_Run where
 m:Option Addr
 ticks:Int
 owner:Int
def S_run_Run.v (x:S_run_Run):Value:=.agg #[.pointer x.m,.int .i64 x.ticks,.int .i64 x.owner]
@[reducible] def zpg : Shape where
 T:=S_run_Run
 enc:=fun x=>.agg #[.pointer x.m,.int .i64 x.ticks,.int .i64 x.owner]
 dec:=fun v=>match v with
  | .agg ⟨[.pointer a0,.int .i64 a1,.int .i64 a2]⟩=>some ⟨a0,a1,a2⟩
  | _=>none
 ok:=by intro v x h;split at h<;>cases h;rfl
structure S_firebreakref14_Reader where
 B:Sl
 At:Int
 E:Int
 P_:Int
def S_firebreakref14_Reader.v (x:S_firebreakref14_Reader):Value:=.agg #[.slice x.B.base x.B.len x.B.cap,.int .i64 x.At,.int .i64 x.E,.int .i64 x.P_]
@[reducible] def zti : Shape where
 T:=S_firebreakref14_Reader
 enc:=fun x=>.agg #[.slice x.B.base x.B.len x.B.cap,.int .i64 x.At,.int .i64 x.E,.int .i64 x.P_]
 dec:=fun v=>match v with
  | .agg ⟨[.slice a0 b0 c0,.int .i64 a1,.int .i64 a2,.int .i64 a3]⟩=>some ⟨⟨a0,b0,c0⟩,a1,a2,a3⟩
  | _=>none
 ok:=by intro v x h;split at h<;>cases h;rfl
structure S_twin_side where
 m:Option Addr
 l:Sl
 at_:Int
 left:Int
 ticks:Int
 owner:Int
def S_twin_side.v (x:S_twin_side):Value:=.agg #[.pointer x.m,.slice x.l.base x.l.len x.l.cap,.int .i64 x.at_,.int .i64 x.left,.int .i64 x.ticks,.int .i64 x.owner]
@[reducible] def zwe1 : Shape where
 T:=S_twin_side
 enc:=fun x=>.agg #[.pointer x.m,.slice x.l.base x.l.len x.l.cap,.int .i64 x.at_,.int .i64 x.left,.int .i64 x.ticks,.int .i64 x.owner]
 dec:=fun v=>match v with
  | .agg ⟨[.pointer a0,.slice a1 b1 c1,.int .i64 a2,.int .i64 a3,.int .i64 a4,.int .i64 a5]⟩=>some ⟨a0,⟨a1,b1,c1⟩,a2,a3,a4,a5⟩
  | _=>none
 ok:=by intro v x h;split at h<;>cases h;rfl
structure S_conf_reader where
 b:Sl
 at_:Int
 e:Int
 place:Int
def S_conf_reader.v (x:S_conf_reader):Value:=.agg #[.slice x.b.base x.b.len x.b.cap,.int .i64 x.at_,.int .i64 x.e,.int .i64 x.place]
@[reducible] def zph1 : Shape where
 T:=S_conf_reader
 enc:=fun x=>.agg #[.slice x.b.base x.b.len x.b.cap,.int .i64 x.at_,.int .i64 x.e,.int .i64 x.place]
 dec:=fun v=>match v with
  | .agg ⟨[.slice a0 b0 c0,.int .i64 a1,.int .i64 a2,.int .i64 a3]⟩=>some ⟨⟨a0,b0,c0⟩,a1,a2,a3⟩
  | _=>none
 ok:=by intro v x h;split at h<;>cases h;rfl
structure S_api_Part where
 Cursor:Int
 Log:Sl
 Lost:Int
 Forbidden:Int
 Owners:Sl
 Queues:Sl
def S_api_Part.v (x:S_api_Part):Value:=.agg #[.int .i64 x.Cursor,.slice x.Log.base x.Log.len x.Log.cap,.int .i64 x.Lost,.int .i64 x.Forbidden,.slice x.Owners.base x.Owners.len x.Owners.cap,.slice x.Queues.base x.Queues.len x.Queues.cap]
@[reducible] def sh_api_Part : Shape where
 T:=S_api_Part
 enc:=fun x=>.agg #[.int .i64 x.Cursor,.slice x.Log.base x.Log.len x.Log.cap,.int .i64 x.Lost,.int .i64 x.Forbidden,.slice x.Owners.base x.Owners.len x.Owners.cap,.slice x.Queues.base x.Queues.len x.Queues.cap]
 dec:=fun v=>match v with
  | .agg ⟨[.int .i64 a0,.slice a1 b1 c1,.int .i64 a2,.int .i64 a3,.slice a4 b4 c4,.slice a5 b5 c5]⟩=>some ⟨a0,⟨a1,b1,c1⟩,a2,a3,⟨a4,b4,c4⟩,⟨a5,b5,c5⟩⟩
  | _=>none
 ok:=by intro v x h;split at h<;>cases h;rfl
structure S_machine_Machine where
 c_Labels:Sl
 c_Table:Sl
 c_Fuel:Int
 c_Lane:Int
 c_Locks:Int
 c_Log:Int
 c_Procs:Sl
 table:Option Addr
 slots:Option Addr
 tick:Int
 parts:Sl
 procs:Sl
def S_machine_Machine.v (x:S_machine_Machine):Value:=.agg #[.slice x.c_Labels.base x.c_Labels.len x.c_Labels.cap,.slice x.c_Table.base x.c_Table.len x.c_Table.cap,.int .i64 x.c_Fuel,.int .i64 x.c_Lane,.int .i64 x.c_Locks,.int .i64 x.c_Log,.slice x.c_Procs.base x.c_Procs.len x.c_Procs.cap,.pointer x.table,.pointer x.slots,.int .i64 x.tick,.slice x.parts.base x.parts.len x.parts.cap,.slice x.procs.base x.procs.len x.procs.cap]
@[reducible] def zed : Shape where
 T:=S_machine_Machine
 enc:=fun x=>.agg #[.slice x.c_Labels.base x.c_Labels.len x.c_Labels.cap,.slice x.c_Table.base x.c_Table.len x.c_Table.cap,.int .i64 x.c_Fuel,.int .i64 x.c_Lane,.int .i64 x.c_Locks,.int .i64 x.c_Log,.slice x.c_Procs.base x.c_Procs.len x.c_Procs.cap,.pointer x.table,.pointer x.slots,.int .i64 x.tick,.slice x.parts.base x.parts.len x.parts.cap,.slice x.procs.base x.procs.len x.procs.cap]
 dec:=fun v=>match v with
  | .agg ⟨[.slice a0 b0 c0,.slice a1 b1 c1,.int .i64 a2,.int .i64 a3,.int .i64 a4,.int .i64 a5,.slice a6 b6 c6,.pointer a7,.pointer a8,.int .i64 a9,.slice a10 b10 c10,.slice a11 b11 c11]⟩=>some ⟨⟨a0,b0,c0⟩,⟨a1,b1,c1⟩,a2,a3,a4,a5,⟨a6,b6,c6⟩,a7,a8,a9,⟨a10,b10,c10⟩,⟨a11,b11,c11⟩⟩
  | _=>none
 ok:=by intro v x h;split at h<;>cases h;rfl
structure S_machine_part where
 procs:Sl
 cursor:Int
 log:Sl
 lost:Int
 forbidden:Int
 locks:Option Addr
 wheel:Option Addr
def S_machine_part.v (x:S_machine_part):Value:=.agg #[.slice x.procs.base x.procs.len x.procs.cap,.int .i64 x.cursor,.slice x.log.base x.log.len x.log.cap,.int .i64 x.lost,.int .i64 x.forbidden,.pointer x.locks,.pointer x.wheel]
@[reducible] def zbr : Shape where
 T:=S_machine_part
 enc:=fun x=>.agg #[.slice x.procs.base x.procs.len x.procs.cap,.int .i64 x.cursor,.slice x.log.base x.log.len x.log.cap,.int .i64 x.lost,.int .i64 x.forbidden,.pointer x.locks,.pointer x.wheel]
 dec:=fun v=>match v with
  | .agg ⟨[.slice a0 b0 c0,.int .i64 a1,.slice a2 b2 c2,.int .i64 a3,.int .i64 a4,.pointer a5,.pointer a6]⟩=>some ⟨⟨a0,b0,c0⟩,a1,⟨a2,b2,c2⟩,a3,a4,a5,a6⟩
  | _=>none
 ok:=by intro v x h;split at h<;>cases h;rfl
structure S_api_Entry where
 Tick:Int
 Proc:Int
 Value_:Int
def S_api_Entry.v (x:S_api_Entry):Value:=.agg #[.int .i64 x.Tick,.int .i64 x.Proc,.int .i64 x.Value_]
@[reducible] def sh_api_Entry : Shape where
 T:=S_api_Entry
 enc:=fun x=>.agg #[.int .i64 x.Tick,.int .i64 x.Proc,.int .i64 x.Value_]
 dec:=fun v=>match v with
  | .agg ⟨[.int .i64 a0,.int .i64 a1,.int .i64 a2]⟩=>some ⟨a0,a1,a2⟩
  | _=>none
 ok:=by intro v x h;split at h<;>cases h;rfl
structure S_cpu_Core where
 PC:Int
 Regs_0:Int
 Regs_1:Int
 Regs_2:Int
 Regs_3:Int
 Regs_4:Int
 Regs_5:Int
 Regs_6:Int
 Regs_7:Int
def S_cpu_Core.v (x:S_cpu_Core):Value:=.agg #[.int .i64 x.PC,.int .i64 x.Regs_0,.int .i64 x.Regs_1,.int .i64 x.Regs_2,.int .i64 x.Regs_3,.int .i64 x.Regs_4,.int .i64 x.Regs_5,.int .i64 x.Regs_6,.int .i64 x.Regs_7]
@[reducible] def zad : Shape where
 T:=S_cpu_Core
 enc:=fun x=>.agg #[.int .i64 x.PC,.int .i64 x.Regs_0,.int .i64 x.Regs_1,.int .i64 x.Regs_2,.int .i64 x.Regs_3,.int .i64 x.Regs_4,.int .i64 x.Regs_5,.int .i64 x.Regs_6,.int .i64 x.Regs_7]
 dec:=fun v=>match v with
  | .agg ⟨[.int .i64 a0,.int .i64 a1,.int .i64 a2,.int .i64 a3,.int .i64 a4,.int .i64 a5,.int .i64 a6,.int .i64 a7,.int .i64 a8]⟩=>some ⟨a0,a1,a2,a3,a4,a5,a6,a7,a8⟩
  | _=>none
 ok:=by intro v x h;split at h<;>cases h;rfl
structure S_machine_proc where
 id_:Int
 part:Int
 code:Sl
 state:Int
 core_PC:Int
 core_Regs_0:Int
 core_Regs_1:Int
 core_Regs_2:Int
 core_Regs_3:Int
 core_Regs_4:Int
 core_Regs_5:Int
 core_Regs_6:Int
 core_Regs_7:Int
 fired:Bool
 post:Option Addr
def S_machine_proc.v (x:S_machine_proc):Value:=.agg #[.int .i64 x.id_,.int .i64 x.part,.slice x.code.base x.code.len x.code.cap,.int .i64 x.state,.int .i64 x.core_PC,.int .i64 x.core_Regs_0,.int .i64 x.core_Regs_1,.int .i64 x.core_Regs_2,.int .i64 x.core_Regs_3,.int .i64 x.core_Regs_4,.int .i64 x.core_Regs_5,.int .i64 x.core_Regs_6,.int .i64 x.core_Regs_7,.bool x.fired,.pointer x.post]
@[reducible] def sh_machine_proc : Shape where
 T:=S_machine_proc
 enc:=fun x=>.agg #[.int .i64 x.id_,.int .i64 x.part,.slice x.code.base x.code.len x.code.cap,.int .i64 x.state,.int .i64 x.core_PC,.int .i64 x.core_Regs_0,.int .i64 x.core_Regs_1,.int .i64 x.core_Regs_2,.int .i64 x.core_Regs_3,.int .i64 x.core_Regs_4,.int .i64 x.core_Regs_5,.int .i64 x.core_Regs_6,.int .i64 x.core_Regs_7,.bool x.fired,.pointer x.post]
 dec:=fun v=>match v with
  | .agg ⟨[.int .i64 a0,.int .i64 a1,.slice a2 b2 c2,.int .i64 a3,.int .i64 a4,.int .i64 a5,.int .i64 a6,.int .i64 a7,.int .i64 a8,.int .i64 a9,.int .i64 a10,.int .i64 a11,.int .i64 a12,.bool a13,.pointer a14]⟩=>some ⟨a0,a1,⟨a2,b2,c2⟩,a3,a4,a5,a6,a7,a8,a9,a10,a11,a12,a13,a14⟩
  | _=>none
 ok:=by intro v x h;split at h<;>cases h;rfl
structure S_api_Lane where
 Values:Sl
 Waiters:Sl
 Taken:Int
 Dropped:Int
def S_api_Lane.v (x:S_api_Lane):Value:=.agg #[.slice x.Values.base x.Values.len x.Values.cap,.slice x.Waiters.base x.Waiters.len x.Waiters.cap,.int .i64 x.Taken,.int .i64 x.Dropped]
@[reducible] def sh_api_Lane : Shape where
 T:=S_api_Lane
 enc:=fun x=>.agg #[.slice x.Values.base x.Values.len x.Values.cap,.slice x.Waiters.base x.Waiters.len x.Waiters.cap,.int .i64 x.Taken,.int .i64 x.Dropped]
 dec:=fun v=>match v with
  | .agg ⟨[.slice a0 b0 c0,.slice a1 b1 c1,.int .i64 a2,.int .i64 a3]⟩=>some ⟨⟨a0,b0,c0⟩,⟨a1,b1,c1⟩,a2,a3⟩
  | _=>none
 ok:=by intro v x h;split at h<;>cases h;rfl
structure S_api_Waiter where
 Proc:Int
 Value_:Int
def S_api_Waiter.v (x:S_api_Waiter):Value:=.agg #[.int .i64 x.Proc,.int .i64 x.Value_]
@[reducible] def sh_api_Waiter : Shape where
 T:=S_api_Waiter
 enc:=fun x=>.agg #[.int .i64 x.Proc,.int .i64 x.Value_]
 dec:=fun v=>match v with
  | .agg ⟨[.int .i64 a0,.int .i64 a1]⟩=>some ⟨a0,a1⟩
  | _=>none
 ok:=by intro v x h;split at h<;>cases h;rfl
structure S_locks_Locks where
 l:Sl
def S_locks_Locks.v (x:S_locks_Locks):Value:=.agg #[.slice x.l.base x.l.len x.l.cap]
@[reducible] def zgu : Shape where
 T:=S_locks_Locks
 enc:=fun x=>.agg #[.slice x.l.base x.l.len x.l.cap]
 dec:=fun v=>match v with
  | .agg ⟨[.slice a0 b0 c0]⟩=>some ⟨⟨a0,b0,c0⟩⟩
  | _=>none
 ok:=by intro v x h;split at h<;>cases h;rfl
structure S_locks_lock where
 owner:Int
 queue:Sl
def S_locks_lock.v (x:S_locks_lock):Value:=.agg #[.int .i64 x.owner,.slice x.queue.base x.queue.len x.queue.cap]
@[reducible] def sh_locks_lock : Shape where
 T:=S_locks_lock
 enc:=fun x=>.agg #[.int .i64 x.owner,.slice x.queue.base x.queue.len x.queue.cap]
 dec:=fun v=>match v with
  | .agg ⟨[.int .i64 a0,.slice a1 b1 c1]⟩=>some ⟨a0,⟨a1,b1,c1⟩⟩
  | _=>none
 ok:=by intro v x h;split at h<;>cases h;rfl
structure S_post_Post where
 lanes:Sl
 cursor:Int
def S_post_Post.v (x:S_post_Post):Value:=.agg #[.slice x.lanes.base x.lanes.len x.lanes.cap,.int .i64 x.cursor]
@[reducible] def zrl : Shape where
 T:=S_post_Post
 enc:=fun x=>.agg #[.slice x.lanes.base x.lanes.len x.lanes.cap,.int .i64 x.cursor]
 dec:=fun v=>match v with
  | .agg ⟨[.slice a0 b0 c0,.int .i64 a1]⟩=>some ⟨⟨a0,b0,c0⟩,a1⟩
  | _=>none
 ok:=by intro v x h;split at h<;>cases h;rfl
structure S_wheel_entry where
 due:Int
 id_:Int
def S_wheel_entry.v (x:S_wheel_entry):Value:=.agg #[.int .i64 x.due,.int .i64 x.id_]
@[reducible] def sh_wheel_entry : Shape where
 T:=S_wheel_entry
 enc:=fun x=>.agg #[.int .i64 x.due,.int .i64 x.id_]
 dec:=fun v=>match v with
  | .agg ⟨[.int .i64 a0,.int .i64 a1]⟩=>some ⟨a0,a1⟩
  | _=>none
 ok:=by intro v x h;split at h<;>cases h;rfl
structure S_wheel_Wheel where
 l:Sl
 of_:Option Nat
def S_wheel_Wheel.v (x:S_wheel_Wheel):Value:=.agg #[.slice x.l.base x.l.len x.l.cap,.map x.of_]
@[reducible] def zpi1 : Shape where
 T:=S_wheel_Wheel
 enc:=fun x=>.agg #[.slice x.l.base x.l.len x.l.cap,.map x.of_]
 dec:=fun v=>match v with
  | .agg ⟨[.slice a0 b0 c0,.map a1]⟩=>some ⟨⟨a0,b0,c0⟩,a1⟩
  | _=>none
 ok:=by intro v x h;split at h<;>cases h;rfl
structure S_n4_bool where
 a0:Bool
 a1:Bool
 a2:Bool
 a3:Bool
def S_n4_bool.v (x:S_n4_bool):Value:=.agg #[.bool x.a0,.bool x.a1,.bool x.a2,.bool x.a3]
@[reducible] def zeq2 : Shape where
 T:=S_n4_bool
 enc:=fun x=>.agg #[.bool x.a0,.bool x.a1,.bool x.a2,.bool x.a3]
 dec:=fun v=>match v with
  | .agg ⟨[.bool a0,.bool a1,.bool a2,.bool a3]⟩=>some ⟨a0,a1,a2,a3⟩
  | _=>none
 ok:=by intro v x h;split at h<;>cases h;rfl
structure S_slots_Slots where
 table:Sl
 parts:Int
def S_slots_Slots.v (x:S_slots_Slots):Value:=.agg #[.slice x.table.base x.table.len x.table.cap,.int .i64 x.parts]
@[reducible] def zpj1 : Shape where
 T:=S_slots_Slots
 enc:=fun x=>.agg #[.slice x.table.base x.table.len x.table.cap,.int .i64 x.parts]
 dec:=fun v=>match v with
  | .agg ⟨[.slice a0 b0 c0,.int .i64 a1]⟩=>some ⟨⟨a0,b0,c0⟩,a1⟩
  | _=>none
 ok:=by intro v x h;split at h<;>cases h;rfl
structure S_table_Table where
 labels:Sl
 by_:Option Nat
def S_table_Table.v (x:S_table_Table):Value:=.agg #[.slice x.labels.base x.labels.len x.labels.cap,.map x.by_]
@[reducible] def zpk1 : Shape where
 T:=S_table_Table
 enc:=fun x=>.agg #[.slice x.labels.base x.labels.len x.labels.cap,.map x.by_]
 dec:=fun v=>match v with
  | .agg ⟨[.slice a0 b0 c0,.map a1]⟩=>some ⟨⟨a0,b0,c0⟩,a1⟩
  | _=>none
 ok:=by intro v x h;split at h<;>cases h;rfl
structure S_locks_Given where
 Lock:Int
 Proc:Int
def S_locks_Given.v (x:S_locks_Given):Value:=.agg #[.int .i64 x.Lock,.int .i64 x.Proc]
@[reducible] def znp : Shape where
 T:=S_locks_Given
 enc:=fun x=>.agg #[.int .i64 x.Lock,.int .i64 x.Proc]
 dec:=fun v=>match v with
  | .agg ⟨[.int .i64 a0,.int .i64 a1]⟩=>some ⟨a0,a1⟩
  | _=>none
 ok:=by intro v x h;split at h<;>cases h;rfl
structure S_lane_Lane where
 room:Int
 values:Sl
 waiters:Sl
 taken:Int
 dropped:Int
def S_lane_Lane.v (x:S_lane_Lane):Value:=.agg #[.int .i64 x.room,.slice x.values.base x.values.len x.values.cap,.slice x.waiters.base x.waiters.len x.waiters.cap,.int .i64 x.taken,.int .i64 x.dropped]
@[reducible] def zia : Shape where
 T:=S_lane_Lane
 enc:=fun x=>.agg #[.int .i64 x.room,.slice x.values.base x.values.len x.values.cap,.slice x.waiters.base x.waiters.len x.waiters.cap,.int .i64 x.taken,.int .i64 x.dropped]
 dec:=fun v=>match v with
  | .agg ⟨[.int .i64 a0,.slice a1 b1 c1,.slice a2 b2 c2,.int .i64 a3,.int .i64 a4]⟩=>some ⟨a0,⟨a1,b1,c1⟩,⟨a2,b2,c2⟩,a3,a4⟩
  | _=>none
 ok:=by intro v x h;split at h<;>cases h;rfl
structure S_cpu_Want where
 Kind:Int
 To:Int
 Value_:Int
def S_cpu_Want.v (x:S_cpu_Want):Value:=.agg #[.int .i64 x.Kind,.int .i64 x.To,.int .i64 x.Value_]
@[reducible] def zkf : Shape where
 T:=S_cpu_Want
 enc:=fun x=>.agg #[.int .i64 x.Kind,.int .i64 x.To,.int .i64 x.Value_]
 dec:=fun v=>match v with
  | .agg ⟨[.int .i64 a0,.int .i64 a1,.int .i64 a2]⟩=>some ⟨a0,a1,a2⟩
  | _=>none
 ok:=by intro v x h;split at h<;>cases h;rfl
structure S_struct_has_bool_n_int where
 has:Bool
 n:Int
def S_struct_has_bool_n_int.v (x:S_struct_has_bool_n_int):Value:=.agg #[.bool x.has,.int .i64 x.n]
@[reducible] def zcb : Shape where
 T:=S_struct_has_bool_n_int
 enc:=fun x=>.agg #[.bool x.has,.int .i64 x.n]
 dec:=fun v=>match v with
  | .agg ⟨[.bool a0,.int .i64 a1]⟩=>some ⟨a0,a1⟩
  | _=>none
 ok:=by intro v x h;split at h<;>cases h;rfl
def fldT (n:String) (t o b:Nat):Field:={name:=n,type:=t,offset:=o,embedded:=false,tag:= "",pkgPath:= "",byteOffset:=b}
def ty0 :Ty:={und:=(.tuple #[]),size:=1,bytes:=0,zero:=(.tuple #[]),sh:=zrf}
def ty2 :Ty:={und:=(.int .i64),size:=1,bytes:=8,zero:=(.int .i64 0),sh:=shInt .i64}
def ty3 :Ty:={und:=(.int .i64),size:=1,bytes:=8,zero:=(.int .i64 0),sh:=shInt .i64}
def ty4 :Ty:={und:=.bool,size:=1,bytes:=1,zero:=(.bool false),sh:=zae}
def ty5 :Ty:={und:=(.int .u8),size:=1,bytes:=1,zero:=(.int .u8 0),sh:=shInt .u8}
def ty9 :Ty:={und:=.string,size:=1,bytes:=16,zero:=(.string ByteArray.empty),sh:=shStr}
def ty20 :Ty:={und:=(.interface #[]),size:=1,bytes:=16,zero:=.nilIface,sh:=shLeaf}
def ty22 :Ty:={und:=(.slice 28),size:=1,bytes:=24,zero:=(.slice none 0 0),sh:=shSl}
def ty23 :Ty:={und:=(.slice 3),size:=1,bytes:=24,zero:=(.slice none 0 0),sh:=shSl}
def ty24 :Ty:={und:=(.slice 50),size:=1,bytes:=24,zero:=(.slice none 0 0),sh:=shSl}
def ty26 :Ty:={und:=(.struct #[fldT "Labels" 22 0 0,fldT "Table" 23 1 24,fldT "Fuel" 3 2 48,fldT "Lane" 3 3 56,fldT "Locks" 3 4 64,fldT "Log" 3 5 72,fldT "Procs" 24 6 80]),size:=7,bytes:=104,zero:=(.agg #[(.slice none 0 0),(.slice none 0 0),(.int .i64 0),(.int .i64 0),(.int .i64 0),(.int .i64 0),(.slice none 0 0)]),sh:=sh_api_Config}
def ty27 :Ty:={und:=(.slice 32),size:=1,bytes:=24,zero:=(.slice none 0 0),sh:=shSl}
def ty28 :Ty:={und:=(.int .u64),size:=1,bytes:=8,zero:=(.int .u64 0),sh:=shInt .u64}
def ty32 :Ty:={und:=(.struct #[fldT "Kind" 3 0 0,fldT "N" 3 1 8,fldT "V" 2 2 16]),size:=3,bytes:=24,zero:=(.agg #[(.int .i64 0),(.int .i64 0),(.int .i64 0)]),sh:=zpp}
def ty34 :Ty:={und:=(.slice 5),size:=1,bytes:=24,zero:=(.slice none 0 0),sh:=shSl}
def ty35 :Ty:={und:=(.pointer 73),size:=1,bytes:=8,zero:=(.pointer none),sh:=shPtr}
def ty36 :Ty:={und:=(.int .i64),size:=1,bytes:=8,zero:=(.int .i64 0),sh:=shInt .i64}
def ty37 :Ty:={und:=(.tuple #[35,36,3]),size:=1,bytes:=0,zero:=(.tuple #[(.pointer none),(.int .i64 0),(.int .i64 0)]),sh:=zlp1 shPtr (shInt .i64) (shInt .i64)}
def ty39 :Ty:={und:=(.tuple #[26,36,3]),size:=1,bytes:=0,zero:=(.tuple #[(.agg #[(.slice none 0 0),(.slice none 0 0),(.int .i64 0),(.int .i64 0),(.int .i64 0),(.int .i64 0),(.slice none 0 0)]),(.int .i64 0),(.int .i64 0)]),sh:=zlp1 sh_api_Config (shInt .i64) (shInt .i64)}
def ty41 :Ty:={und:=(.map 3 2),size:=1,bytes:=8,zero:=(.map none),sh:=shMap}
def ty43 :Ty:={und:=(.struct #[fldT "E" 36 0 0,fldT "Tick" 2 1 8,fldT "Owner" 3 2 16]),size:=3,bytes:=24,zero:=(.agg #[(.int .i64 0),(.int .i64 0),(.int .i64 0)]),sh:=zoy}
def ty47 :Ty:={und:=(.struct #[fldT "Op" 3 0 0,fldT "A" 3 1 8,fldT "B" 3 2 16,fldT "C" 3 3 24,fldT "Imm" 2 4 32]),size:=5,bytes:=40,zero:=(.agg #[(.int .i64 0),(.int .i64 0),(.int .i64 0),(.int .i64 0),(.int .i64 0)]),sh:=sh_api_Ins}
def ty48 :Ty:={und:=(.slice 47),size:=1,bytes:=24,zero:=(.slice none 0 0),sh:=shSl}
def ty50 :Ty:={und:=(.struct #[fldT "Part" 3 0 0,fldT "Code" 48 1 8]),size:=2,bytes:=32,zero:=(.agg #[(.int .i64 0),(.slice none 0 0)]),sh:=sh_api_Proc}
def ty52 :Ty:={und:=(.struct #[fldT "A" 26 0 0,fldT "B" 26 7 104,fldT "S" 27 14 208,fldT "T" 27 15 232,fldT "Label" 28 16 256]),size:=17,bytes:=264,zero:=(.agg #[(.slice none 0 0),(.slice none 0 0),(.int .i64 0),(.int .i64 0),(.int .i64 0),(.int .i64 0),(.slice none 0 0),(.slice none 0 0),(.slice none 0 0),(.int .i64 0),(.int .i64 0),(.int .i64 0),(.int .i64 0),(.slice none 0 0),(.slice none 0 0),(.slice none 0 0),(.int .u64 0)]),sh:=zsq1}
def ty53 :Ty:={und:=(.tuple #[4,2]),size:=1,bytes:=0,zero:=(.tuple #[(.bool false),(.int .i64 0)]),sh:=zgl zae (shInt .i64)}
def ty58 :Ty:={und:=(.tuple #[34,4]),size:=1,bytes:=0,zero:=(.tuple #[(.slice none 0 0),(.bool false)]),sh:=zgl shSl zae}
def ty60 :Ty:={und:=(.slice 115),size:=1,bytes:=24,zero:=(.slice none 0 0),sh:=shSl}
def ty61 :Ty:={und:=(.slice 68),size:=1,bytes:=24,zero:=(.slice none 0 0),sh:=shSl}
def ty63 :Ty:={und:=(.struct #[fldT "Tick" 2 0 0,fldT "Parts" 60 1 8,fldT "Procs" 61 2 32]),size:=3,bytes:=56,zero:=(.agg #[(.int .i64 0),(.slice none 0 0),(.slice none 0 0)]),sh:=zfg}
def ty65 :Ty:={und:=(.array 8 2),size:=8,bytes:=64,zero:=(.agg #[(.int .i64 0),(.int .i64 0),(.int .i64 0),(.int .i64 0),(.int .i64 0),(.int .i64 0),(.int .i64 0),(.int .i64 0)]),sh:=zej}
def ty66 :Ty:={und:=(.slice 187),size:=1,bytes:=24,zero:=(.slice none 0 0),sh:=shSl}
def ty68 :Ty:={und:=(.struct #[fldT "State" 3 0 0,fldT "PC" 3 1 8,fldT "Regs" 65 2 16,fldT "Cursor" 3 10 80,fldT "Timer" 2 11 88,fldT "Fired" 4 12 96,fldT "Wake" 2 13 104,fldT "Lanes" 66 14 112]),size:=15,bytes:=136,zero:=(.agg #[(.int .i64 0),(.int .i64 0),(.int .i64 0),(.int .i64 0),(.int .i64 0),(.int .i64 0),(.int .i64 0),(.int .i64 0),(.int .i64 0),(.int .i64 0),(.int .i64 0),(.int .i64 0),(.bool false),(.int .i64 0),(.slice none 0 0)]),sh:=sh_api_Process}
def ty69 :Ty:={und:=(.pointer 123),size:=1,bytes:=8,zero:=(.pointer none),sh:=shPtr}
def ty70 :Ty:={und:=(.tuple #[69,36]),size:=1,bytes:=0,zero:=(.tuple #[(.pointer none),(.int .i64 0)]),sh:=zgl shPtr (shInt .i64)}
def ty73 :Ty:={und:=(.struct #[{name:= "m",type:=69,offset:=0,embedded:=false,tag:= "",pkgPath:= "firebreak/run",byteOffset:=0},{name:= "ticks",type:=3,offset:=1,embedded:=false,tag:= "",pkgPath:= "firebreak/run",byteOffset:=8},{name:= "owner",type:=3,offset:=2,embedded:=false,tag:= "",pkgPath:= "firebreak/run",byteOffset:=16}]),size:=3,bytes:=24,zero:=(.agg #[(.pointer none),(.int .i64 0),(.int .i64 0)]),sh:=zpg}
def ty74 :Ty:={und:=(.pointer 76),size:=1,bytes:=8,zero:=(.pointer none),sh:=shPtr}
def ty76 :Ty:={und:=(.struct #[fldT "B" 34 0 0,fldT "At" 3 1 24,fldT "E" 36 2 32,fldT "P" 3 3 40]),size:=4,bytes:=48,zero:=(.agg #[(.slice none 0 0),(.int .i64 0),(.int .i64 0),(.int .i64 0)]),sh:=zti}
def ty79 :Ty:={und:=(.func #[35,32] #[36] false),size:=1,bytes:=8,zero:=.nilFunc,sh:=shLeaf}
def ty80 :Ty:={und:=(.tuple #[79,4]),size:=1,bytes:=0,zero:=(.tuple #[.nilFunc,(.bool false)]),sh:=zgl shLeaf zae}
def ty81 :Ty:={und:=(.map 3 79),size:=1,bytes:=8,zero:=(.map none),sh:=shMap}
def ty83 :Ty:={und:=(.pointer 85),size:=1,bytes:=8,zero:=(.pointer none),sh:=shPtr}
def ty85 :Ty:={und:=(.struct #[{name:= "m",type:=69,offset:=0,embedded:=false,tag:= "",pkgPath:= "firebreak/twin",byteOffset:=0},{name:= "l",type:=27,offset:=1,embedded:=false,tag:= "",pkgPath:= "firebreak/twin",byteOffset:=8},{name:= "at",type:=3,offset:=2,embedded:=false,tag:= "",pkgPath:= "firebreak/twin",byteOffset:=32},{name:= "left",type:=3,offset:=3,embedded:=false,tag:= "",pkgPath:= "firebreak/twin",byteOffset:=40},{name:= "ticks",type:=3,offset:=4,embedded:=false,tag:= "",pkgPath:= "firebreak/twin",byteOffset:=48},{name:= "owner",type:=3,offset:=5,embedded:=false,tag:= "",pkgPath:= "firebreak/twin",byteOffset:=56}]),size:=6,bytes:=64,zero:=(.agg #[(.pointer none),(.slice none 0 0),(.int .i64 0),(.int .i64 0),(.int .i64 0),(.int .i64 0)]),sh:=zwe1}
def ty92 :Ty:={und:=(.tuple #[34,36]),size:=1,bytes:=0,zero:=(.tuple #[(.slice none 0 0),(.int .i64 0)]),sh:=zgl shSl (shInt .i64)}
def ty94 :Ty:={und:=(.pointer 96),size:=1,bytes:=8,zero:=(.pointer none),sh:=shPtr}
def ty96 :Ty:={und:=(.struct #[{name:= "b",type:=34,offset:=0,embedded:=false,tag:= "",pkgPath:= "firebreak/conf",byteOffset:=0},{name:= "at",type:=3,offset:=1,embedded:=false,tag:= "",pkgPath:= "firebreak/conf",byteOffset:=24},{name:= "e",type:=36,offset:=2,embedded:=false,tag:= "",pkgPath:= "firebreak/conf",byteOffset:=32},{name:= "place",type:=3,offset:=3,embedded:=false,tag:= "",pkgPath:= "firebreak/conf",byteOffset:=40}]),size:=4,bytes:=48,zero:=(.agg #[(.slice none 0 0),(.int .i64 0),(.int .i64 0),(.int .i64 0)]),sh:=zph1}
def ty98 :Ty:={und:=(.pointer 26),size:=1,bytes:=8,zero:=(.pointer none),sh:=shPtr}
def ty101 :Ty:={und:=(.tuple #[36,3]),size:=1,bytes:=0,zero:=(.tuple #[(.int .i64 0),(.int .i64 0)]),sh:=zgl (shInt .i64) (shInt .i64)}
def ty111 :Ty:={und:=(.func #[3] #[36] false),size:=1,bytes:=8,zero:=.nilFunc,sh:=shFn}
def ty112 :Ty:={und:=(.slice 133),size:=1,bytes:=24,zero:=(.slice none 0 0),sh:=shSl}
def ty113 :Ty:={und:=(.slice 23),size:=1,bytes:=24,zero:=(.slice none 0 0),sh:=shSl}
def ty115 :Ty:={und:=(.struct #[fldT "Cursor" 3 0 0,fldT "Log" 112 1 8,fldT "Lost" 3 2 32,fldT "Forbidden" 3 3 40,fldT "Owners" 23 4 48,fldT "Queues" 113 5 72]),size:=6,bytes:=96,zero:=(.agg #[(.int .i64 0),(.slice none 0 0),(.int .i64 0),(.int .i64 0),(.slice none 0 0),(.slice none 0 0)]),sh:=sh_api_Part}
def ty118 :Ty:={und:=(.pointer 231),size:=1,bytes:=8,zero:=(.pointer none),sh:=shPtr}
def ty119 :Ty:={und:=(.pointer 225),size:=1,bytes:=8,zero:=(.pointer none),sh:=shPtr}
def ty120 :Ty:={und:=(.slice 124),size:=1,bytes:=24,zero:=(.slice none 0 0),sh:=shSl}
def ty121 :Ty:={und:=(.slice 134),size:=1,bytes:=24,zero:=(.slice none 0 0),sh:=shSl}
def ty123 :Ty:={und:=(.struct #[{name:= "c",type:=26,offset:=0,embedded:=false,tag:= "",pkgPath:= "firebreak/machine",byteOffset:=0},{name:= "table",type:=118,offset:=7,embedded:=false,tag:= "",pkgPath:= "firebreak/machine",byteOffset:=104},{name:= "slots",type:=119,offset:=8,embedded:=false,tag:= "",pkgPath:= "firebreak/machine",byteOffset:=112},{name:= "tick",type:=2,offset:=9,embedded:=false,tag:= "",pkgPath:= "firebreak/machine",byteOffset:=120},{name:= "parts",type:=120,offset:=10,embedded:=false,tag:= "",pkgPath:= "firebreak/machine",byteOffset:=128},{name:= "procs",type:=121,offset:=11,embedded:=false,tag:= "",pkgPath:= "firebreak/machine",byteOffset:=152}]),size:=12,bytes:=176,zero:=(.agg #[(.slice none 0 0),(.slice none 0 0),(.int .i64 0),(.int .i64 0),(.int .i64 0),(.int .i64 0),(.slice none 0 0),(.pointer none),(.pointer none),(.int .i64 0),(.slice none 0 0),(.slice none 0 0)]),sh:=zed}
def ty124 :Ty:={und:=(.pointer 129),size:=1,bytes:=8,zero:=(.pointer none),sh:=shPtr}
def ty125 :Ty:={und:=(.tuple #[23,113]),size:=1,bytes:=0,zero:=(.tuple #[(.slice none 0 0),(.slice none 0 0)]),sh:=zgl shSl shSl}
def ty126 :Ty:={und:=(.pointer 194),size:=1,bytes:=8,zero:=(.pointer none),sh:=shPtr}
def ty127 :Ty:={und:=(.pointer 208),size:=1,bytes:=8,zero:=(.pointer none),sh:=shPtr}
def ty129 :Ty:={und:=(.struct #[{name:= "procs",type:=23,offset:=0,embedded:=false,tag:= "",pkgPath:= "firebreak/machine",byteOffset:=0},{name:= "cursor",type:=3,offset:=1,embedded:=false,tag:= "",pkgPath:= "firebreak/machine",byteOffset:=24},{name:= "log",type:=112,offset:=2,embedded:=false,tag:= "",pkgPath:= "firebreak/machine",byteOffset:=32},{name:= "lost",type:=3,offset:=3,embedded:=false,tag:= "",pkgPath:= "firebreak/machine",byteOffset:=56},{name:= "forbidden",type:=3,offset:=4,embedded:=false,tag:= "",pkgPath:= "firebreak/machine",byteOffset:=64},{name:= "locks",type:=126,offset:=5,embedded:=false,tag:= "",pkgPath:= "firebreak/machine",byteOffset:=72},{name:= "wheel",type:=127,offset:=6,embedded:=false,tag:= "",pkgPath:= "firebreak/machine",byteOffset:=80}]),size:=7,bytes:=88,zero:=(.agg #[(.slice none 0 0),(.int .i64 0),(.slice none 0 0),(.int .i64 0),(.int .i64 0),(.pointer none),(.pointer none)]),sh:=zbr}
def ty133 :Ty:={und:=(.struct #[fldT "Tick" 2 0 0,fldT "Proc" 3 1 8,fldT "Value" 2 2 16]),size:=3,bytes:=24,zero:=(.agg #[(.int .i64 0),(.int .i64 0),(.int .i64 0)]),sh:=sh_api_Entry}
def ty134 :Ty:={und:=(.pointer 140),size:=1,bytes:=8,zero:=(.pointer none),sh:=shPtr}
def ty135 :Ty:={und:=(.tuple #[66,3]),size:=1,bytes:=0,zero:=(.tuple #[(.slice none 0 0),(.int .i64 0)]),sh:=zgl shSl (shInt .i64)}
def ty137 :Ty:={und:=(.struct #[fldT "PC" 3 0 0,fldT "Regs" 65 1 8]),size:=9,bytes:=72,zero:=(.agg #[(.int .i64 0),(.int .i64 0),(.int .i64 0),(.int .i64 0),(.int .i64 0),(.int .i64 0),(.int .i64 0),(.int .i64 0),(.int .i64 0)]),sh:=zad}
def ty138 :Ty:={und:=(.pointer 199),size:=1,bytes:=8,zero:=(.pointer none),sh:=shPtr}
def ty140 :Ty:={und:=(.struct #[{name:= "id",type:=3,offset:=0,embedded:=false,tag:= "",pkgPath:= "firebreak/machine",byteOffset:=0},{name:= "part",type:=3,offset:=1,embedded:=false,tag:= "",pkgPath:= "firebreak/machine",byteOffset:=8},{name:= "code",type:=48,offset:=2,embedded:=false,tag:= "",pkgPath:= "firebreak/machine",byteOffset:=16},{name:= "state",type:=3,offset:=3,embedded:=false,tag:= "",pkgPath:= "firebreak/machine",byteOffset:=40},{name:= "core",type:=137,offset:=4,embedded:=false,tag:= "",pkgPath:= "firebreak/machine",byteOffset:=48},{name:= "fired",type:=4,offset:=13,embedded:=false,tag:= "",pkgPath:= "firebreak/machine",byteOffset:=120},{name:= "post",type:=138,offset:=14,embedded:=false,tag:= "",pkgPath:= "firebreak/machine",byteOffset:=128}]),size:=15,bytes:=136,zero:=(.agg #[(.int .i64 0),(.int .i64 0),(.slice none 0 0),(.int .i64 0),(.int .i64 0),(.int .i64 0),(.int .i64 0),(.int .i64 0),(.int .i64 0),(.int .i64 0),(.int .i64 0),(.int .i64 0),(.int .i64 0),(.bool false),(.pointer none)]),sh:=sh_machine_proc}
def ty142 :Ty:={und:=(.tuple #[2,4]),size:=1,bytes:=0,zero:=(.tuple #[(.int .i64 0),(.bool false)]),sh:=zgl (shInt .i64) zae}
def ty145 :Ty:={und:=(.func #[115,115] #[4] false),size:=1,bytes:=8,zero:=.nilFunc,sh:=shFn}
def ty147 :Ty:={und:=(.func #[68,68] #[4] false),size:=1,bytes:=8,zero:=.nilFunc,sh:=shFn}
def ty149 :Ty:={und:=(.func #[50,50] #[4] false),size:=1,bytes:=8,zero:=.nilFunc,sh:=shFn}
def ty151 :Ty:={und:=(.func #[23,23] #[4] false),size:=1,bytes:=8,zero:=.nilFunc,sh:=shFn}
def ty157 :Ty:={und:=(.func #[28] #[36] false),size:=1,bytes:=8,zero:=.nilFunc,sh:=shFn}
def ty163 :Ty:={und:=(.tuple #[119,36,3]),size:=1,bytes:=0,zero:=(.tuple #[(.pointer none),(.int .i64 0),(.int .i64 0)]),sh:=zlp1 shPtr (shInt .i64) (shInt .i64)}
def ty168 :Ty:={und:=(.tuple #[118,36,3]),size:=1,bytes:=0,zero:=(.tuple #[(.pointer none),(.int .i64 0),(.int .i64 0)]),sh:=zlp1 shPtr (shInt .i64) (shInt .i64)}
def ty170 :Ty:={und:=(.tuple #[126,36]),size:=1,bytes:=0,zero:=(.tuple #[(.pointer none),(.int .i64 0)]),sh:=zgl shPtr (shInt .i64)}
def ty173 :Ty:={und:=(.tuple #[138,36]),size:=1,bytes:=0,zero:=(.tuple #[(.pointer none),(.int .i64 0)]),sh:=zgl shPtr (shInt .i64)}
def ty184 :Ty:={und:=(.slice 2),size:=1,bytes:=24,zero:=(.slice none 0 0),sh:=shSl}
def ty185 :Ty:={und:=(.slice 191),size:=1,bytes:=24,zero:=(.slice none 0 0),sh:=shSl}
def ty187 :Ty:={und:=(.struct #[fldT "Values" 184 0 0,fldT "Waiters" 185 1 24,fldT "Taken" 3 2 48,fldT "Dropped" 3 3 56]),size:=4,bytes:=64,zero:=(.agg #[(.slice none 0 0),(.slice none 0 0),(.int .i64 0),(.int .i64 0)]),sh:=sh_api_Lane}
def ty191 :Ty:={und:=(.struct #[fldT "Proc" 3 0 0,fldT "Value" 2 1 8]),size:=2,bytes:=16,zero:=(.agg #[(.int .i64 0),(.int .i64 0)]),sh:=sh_api_Waiter}
def ty192 :Ty:={und:=(.slice 196),size:=1,bytes:=24,zero:=(.slice none 0 0),sh:=shSl}
def ty194 :Ty:={und:=(.struct #[{name:= "l",type:=192,offset:=0,embedded:=false,tag:= "",pkgPath:= "firebreak/locks",byteOffset:=0}]),size:=1,bytes:=24,zero:=(.agg #[(.slice none 0 0)]),sh:=zgu}
def ty196 :Ty:={und:=(.struct #[{name:= "owner",type:=3,offset:=0,embedded:=false,tag:= "",pkgPath:= "firebreak/locks",byteOffset:=0},{name:= "queue",type:=23,offset:=1,embedded:=false,tag:= "",pkgPath:= "firebreak/locks",byteOffset:=8}]),size:=2,bytes:=32,zero:=(.agg #[(.int .i64 0),(.slice none 0 0)]),sh:=sh_locks_lock}
def ty197 :Ty:={und:=(.slice 200),size:=1,bytes:=24,zero:=(.slice none 0 0),sh:=shSl}
def ty199 :Ty:={und:=(.struct #[{name:= "lanes",type:=197,offset:=0,embedded:=false,tag:= "",pkgPath:= "firebreak/post",byteOffset:=0},{name:= "cursor",type:=3,offset:=1,embedded:=false,tag:= "",pkgPath:= "firebreak/post",byteOffset:=24}]),size:=2,bytes:=32,zero:=(.agg #[(.slice none 0 0),(.int .i64 0)]),sh:=zrl}
def ty200 :Ty:={und:=(.pointer 253),size:=1,bytes:=8,zero:=(.pointer none),sh:=shPtr}
def ty203 :Ty:={und:=(.struct #[{name:= "due",type:=2,offset:=0,embedded:=false,tag:= "",pkgPath:= "firebreak/wheel",byteOffset:=0},{name:= "id",type:=3,offset:=1,embedded:=false,tag:= "",pkgPath:= "firebreak/wheel",byteOffset:=8}]),size:=2,bytes:=16,zero:=(.agg #[(.int .i64 0),(.int .i64 0)]),sh:=sh_wheel_entry}
def ty204 :Ty:={und:=(.tuple #[203,4]),size:=1,bytes:=0,zero:=(.tuple #[(.agg #[(.int .i64 0),(.int .i64 0)]),(.bool false)]),sh:=zgl sh_wheel_entry zae}
def ty205 :Ty:={und:=(.slice 203),size:=1,bytes:=24,zero:=(.slice none 0 0),sh:=shSl}
def ty206 :Ty:={und:=(.map 3 203),size:=1,bytes:=8,zero:=(.map none),sh:=shMap}
def ty208 :Ty:={und:=(.struct #[{name:= "l",type:=205,offset:=0,embedded:=false,tag:= "",pkgPath:= "firebreak/wheel",byteOffset:=0},{name:= "of",type:=206,offset:=1,embedded:=false,tag:= "",pkgPath:= "firebreak/wheel",byteOffset:=24}]),size:=2,bytes:=32,zero:=(.agg #[(.slice none 0 0),(.map none)]),sh:=zpi1}
def ty210 :Ty:={und:=(.func #[3,3] #[4] false),size:=1,bytes:=8,zero:=.nilFunc,sh:=shFn}
def ty212 :Ty:={und:=(.func #[133,133] #[4] false),size:=1,bytes:=8,zero:=.nilFunc,sh:=shFn}
def ty215 :Ty:={und:=(.func #[187,187] #[4] false),size:=1,bytes:=8,zero:=.nilFunc,sh:=shFn}
def ty219 :Ty:={und:=(.array 4 4),size:=4,bytes:=4,zero:=(.agg #[(.bool false),(.bool false),(.bool false),(.bool false)]),sh:=zeq2}
def ty223 :Ty:={und:=(.func #[3] #[4] false),size:=1,bytes:=8,zero:=.nilFunc,sh:=shFn}
def ty225 :Ty:={und:=(.struct #[{name:= "table",type:=23,offset:=0,embedded:=false,tag:= "",pkgPath:= "firebreak/slots",byteOffset:=0},{name:= "parts",type:=3,offset:=1,embedded:=false,tag:= "",pkgPath:= "firebreak/slots",byteOffset:=24}]),size:=2,bytes:=32,zero:=(.agg #[(.slice none 0 0),(.int .i64 0)]),sh:=zpj1}
def ty229 :Ty:={und:=(.map 28 3),size:=1,bytes:=8,zero:=(.map none),sh:=shMap}
def ty231 :Ty:={und:=(.struct #[{name:= "labels",type:=22,offset:=0,embedded:=false,tag:= "",pkgPath:= "firebreak/table",byteOffset:=0},{name:= "by",type:=229,offset:=1,embedded:=false,tag:= "",pkgPath:= "firebreak/table",byteOffset:=24}]),size:=2,bytes:=32,zero:=(.agg #[(.slice none 0 0),(.map none)]),sh:=zpk1}
def ty232 :Ty:={und:=(.tuple #[3,4]),size:=1,bytes:=0,zero:=(.tuple #[(.int .i64 0),(.bool false)]),sh:=zgl (shInt .i64) zae}
def ty234 :Ty:={und:=(.tuple #[200,36]),size:=1,bytes:=0,zero:=(.tuple #[(.pointer none),(.int .i64 0)]),sh:=zgl shPtr (shInt .i64)}
def ty237 :Ty:={und:=(.func #[203,203] #[3] false),size:=1,bytes:=8,zero:=.nilFunc,sh:=shFn}
def ty239 :Ty:={und:=(.int .u64),size:=1,bytes:=8,zero:=(.int .u64 0),sh:=shInt .u64}
def ty240 :Ty:={und:=(.tuple #[239,239]),size:=1,bytes:=0,zero:=(.tuple #[(.int .u64 0),(.int .u64 0)]),sh:=zgl (shInt .u64) (shInt .u64)}
def ty242 :Ty:={und:=(.tuple #[4,4,4,4]),size:=1,bytes:=0,zero:=(.tuple #[(.bool false),(.bool false),(.bool false),(.bool false)]),sh:=zbk2 zae zae zae zae}
def ty246 :Ty:={und:=(.slice 249),size:=1,bytes:=24,zero:=(.slice none 0 0),sh:=shSl}
def ty249 :Ty:={und:=(.struct #[fldT "Lock" 3 0 0,fldT "Proc" 3 1 8]),size:=2,bytes:=16,zero:=(.agg #[(.int .i64 0),(.int .i64 0)]),sh:=znp}
def ty253 :Ty:={und:=(.struct #[{name:= "room",type:=3,offset:=0,embedded:=false,tag:= "",pkgPath:= "firebreak/lane",byteOffset:=0},{name:= "values",type:=184,offset:=1,embedded:=false,tag:= "",pkgPath:= "firebreak/lane",byteOffset:=8},{name:= "waiters",type:=185,offset:=2,embedded:=false,tag:= "",pkgPath:= "firebreak/lane",byteOffset:=32},{name:= "taken",type:=3,offset:=3,embedded:=false,tag:= "",pkgPath:= "firebreak/lane",byteOffset:=56},{name:= "dropped",type:=3,offset:=4,embedded:=false,tag:= "",pkgPath:= "firebreak/lane",byteOffset:=64}]),size:=5,bytes:=72,zero:=(.agg #[(.int .i64 0),(.slice none 0 0),(.slice none 0 0),(.int .i64 0),(.int .i64 0)]),sh:=zia}
def ty255 :Ty:={und:=(.func #[2,2] #[4] false),size:=1,bytes:=8,zero:=.nilFunc,sh:=shFn}
def ty257 :Ty:={und:=(.func #[191,191] #[4] false),size:=1,bytes:=8,zero:=.nilFunc,sh:=shFn}
def ty262 :Ty:={und:=(.struct #[fldT "Kind" 3 0 0,fldT "To" 2 1 8,fldT "Value" 2 2 16]),size:=3,bytes:=24,zero:=(.agg #[(.int .i64 0),(.int .i64 0),(.int .i64 0)]),sh:=zkf}
def ty263 :Ty:={und:=(.tuple #[137,262]),size:=1,bytes:=0,zero:=(.tuple #[(.agg #[(.int .i64 0),(.int .i64 0),(.int .i64 0),(.int .i64 0),(.int .i64 0),(.int .i64 0),(.int .i64 0),(.int .i64 0),(.int .i64 0)]),(.agg #[(.int .i64 0),(.int .i64 0),(.int .i64 0)])]),sh:=zgl zad zkf}
def ty267 :Ty:={und:=(.tuple #[4,36]),size:=1,bytes:=0,zero:=(.tuple #[(.bool false),(.int .i64 0)]),sh:=zgl zae (shInt .i64)}
def ty271 :Ty:={und:=(.tuple #[3,36]),size:=1,bytes:=0,zero:=(.tuple #[(.int .i64 0),(.int .i64 0)]),sh:=zgl (shInt .i64) (shInt .i64)}
def ty274 :Ty:={und:=(.struct #[{name:= "has",type:=4,offset:=0,embedded:=false,tag:= "",pkgPath:= "firebreak/conf",byteOffset:=0},{name:= "n",type:=3,offset:=1,embedded:=false,tag:= "",pkgPath:= "firebreak/conf",byteOffset:=8}]),size:=2,bytes:=16,zero:=(.agg #[(.bool false),(.int .i64 0)]),sh:=zcb}
def ty275 :Ty:={und:=(.slice 274),size:=1,bytes:=24,zero:=(.slice none 0 0),sh:=shSl}
def ty283 :Ty:={und:=(.int .u32),size:=1,bytes:=4,zero:=(.int .u32 0),sh:=shInt .u32}
def ty284 :Ty:={und:=(.tuple #[283,283]),size:=1,bytes:=0,zero:=(.tuple #[(.int .u32 0),(.int .u32 0)]),sh:=zgl (shInt .u32) (shInt .u32)}
def ty286 :Ty:={und:=(.tuple #[28,28]),size:=1,bytes:=0,zero:=(.tuple #[(.int .u64 0),(.int .u64 0)]),sh:=zgl (shInt .u64) (shInt .u64)}
def ty291 :Ty:={und:=(.tuple #[47,4]),size:=1,bytes:=0,zero:=(.tuple #[(.agg #[(.int .i64 0),(.int .i64 0),(.int .i64 0),(.int .i64 0),(.int .i64 0)]),(.bool false)]),sh:=zgl sh_api_Ins zae}
def ty293 :Ty:={und:=(.tuple #[262,4,4]),size:=1,bytes:=0,zero:=(.tuple #[(.agg #[(.int .i64 0),(.int .i64 0),(.int .i64 0)]),(.bool false),(.bool false)]),sh:=zlp1 zkf zae zae}
def ty296 :Ty:={und:=(.tuple #[2,36]),size:=1,bytes:=0,zero:=(.tuple #[(.int .i64 0),(.int .i64 0)]),sh:=zgl (shInt .i64) (shInt .i64)}
def ty299 :Ty:={und:=(.tuple #[2,3,191,4,36]),size:=1,bytes:=0,zero:=(.tuple #[(.int .i64 0),(.int .i64 0),(.agg #[(.int .i64 0),(.int .i64 0)]),(.bool false),(.int .i64 0)]),sh:=zbl2 (shInt .i64) (shInt .i64) sh_api_Waiter zae (shInt .i64)}
def ty302 :Ty:={und:=(.pointer 196),size:=1,bytes:=8,zero:=(.pointer none),sh:=shPtr}
def ty307 :Ty:={und:=(.func #[9] #[4] false),size:=1,bytes:=8,zero:=.nilFunc,sh:=shFn}
def ty308 :Ty:={und:=(.map 3 3),size:=1,bytes:=8,zero:=(.map none),sh:=shMap}
def ty311 :Ty:={und:=(.pointer 137),size:=1,bytes:=8,zero:=(.pointer none),sh:=shPtr}
def ty314 :Ty:={und:=(.float .f64),size:=1,bytes:=8,zero:=(.float .f64 0),sh:=shFlt .f64}
def ty318 :Ty:={und:=(.func #[223] #[] false),size:=1,bytes:=8,zero:=.nilFunc,sh:=shFn}
def ty319 :Ty:={und:=(.func #[223] #[] false),size:=1,bytes:=8,zero:=.nilFunc,sh:=shFn}
def ty321 :Ty:={und:=(.tuple #[2,191,4,36]),size:=1,bytes:=0,zero:=(.tuple #[(.int .i64 0),(.agg #[(.int .i64 0),(.int .i64 0)]),(.bool false),(.int .i64 0)]),sh:=zbk2 (shInt .i64) sh_api_Waiter zae (shInt .i64)}
def ty323 :Ty:={und:=(.array 34 9),size:=34,bytes:=544,zero:=(.agg (List.toArray (List.replicate 34 (.string ByteArray.empty)))),sh:=zpp2 34}
def ty327 :Ty:={und:=(.func #[191] #[4] false),size:=1,bytes:=8,zero:=.nilFunc,sh:=shFn}
def tyRows :List (List (Option Ty)):=[[some ty0,none,some ty2,some ty3,some ty4,some ty5,none,none,none,some ty9,none,none,none,none,none,none],
 [none,none,none,none,some ty20,none,some ty22,some ty23,some ty24,none,some ty26,some ty27,some ty28,none,none,none],
 [some ty32,none,some ty34,some ty35,some ty36,some ty37,none,some ty39,none,some ty41,none,some ty43,none,none,none,some ty47],
 [some ty48,none,some ty50,none,some ty52,some ty53,none,none,none,none,some ty58,none,some ty60,some ty61,none,some ty63],
 [none,some ty65,some ty66,none,some ty68,some ty69,some ty70,none,none,some ty73,some ty74,none,some ty76,none,none,some ty79],
 [some ty80,some ty81,none,some ty83,none,some ty85,none,none,none,none,none,none,some ty92,none,some ty94,none],
 [some ty96,none,some ty98,none,none,some ty101,none,none,none,none,none,none,none,none,none,some ty111],
 [some ty112,some ty113,none,some ty115,none,none,some ty118,some ty119,some ty120,some ty121,none,some ty123,some ty124,some ty125,some ty126,some ty127],
 [none,some ty129,none,none,none,some ty133,some ty134,some ty135,none,some ty137,some ty138,none,some ty140,none,some ty142,none],
 [none,some ty145,none,some ty147,none,some ty149,none,some ty151,none,none,none,none,none,some ty157,none,none],
 [none,none,none,some ty163,none,none,none,none,some ty168,none,some ty170,none,none,some ty173,none,none],
 [none,none,none,none,none,none,none,none,some ty184,some ty185,none,some ty187,none,none,none,some ty191],
 [some ty192,none,some ty194,none,some ty196,some ty197,none,some ty199,some ty200,none,none,some ty203,some ty204,some ty205,some ty206,none],
 [some ty208,none,some ty210,none,some ty212,none,none,some ty215,none,none,none,some ty219,none,none,none,some ty223],
 [none,some ty225,none,none,none,some ty229,none,some ty231,some ty232,none,some ty234,none,none,some ty237,none,some ty239],
 [some ty240,none,some ty242,none,none,none,some ty246,none,none,some ty249,none,none,none,some ty253,none,some ty255],
 [none,some ty257,none,none,none,none,some ty262,some ty263,none,none,none,some ty267,none,none,none,some ty271],
 [none,none,some ty274,some ty275,none,none,none,none,none,none,none,some ty283,some ty284,none,some ty286,none],
 [none,none,none,some ty291,none,some ty293,none,none,some ty296,none,none,some ty299,none,none,some ty302,none],
 [none,none,none,some ty307,some ty308,none,none,some ty311,none,none,some ty314,none,none,none,some ty318,some ty319],
 [none,some ty321,none,some ty323,none,none,none,some ty327]]
def tyAt (t:Nat):Option Ty:=match nth tyRows (t / 16) with
 | some r=>match nth r (t%16) with
  | some e=>e
  | none=>none
 | none=>none
def fnRows :List (List Bool):=[[false,false,true,true,true,true,true,true,true,true,true,true,true,true,true,true],
 [true,true,true,true,true,true,true,true,true,true,true,true,true,true,true,true],
 [true,true,true,true,true,true,true,true,true,true,true,true,true,true,true,true],
 [true,true,true,true,true,true,true,true,true,true,true,true,true,true,true,true],
 [true,true,true,true,true,true,true,true,true,true,true,true,true,true,true,true],
 [true,true,true,true,true,true,true,true,true,true,true,true,true,true,true,true],
 [true,true,true,true,true,true,true,true,true,true,true,true,true,true,true,true],
 [true,true,true,true,true,true,true,true,true,true,true,true,true,true,true,true],
 [true,true,true,true,true,true,true,true,true,true,true,true,true,true,true,true],
 [true,true,true,true,true,true,true,true,true,true,true,true,true,true,true,true],
 [true,true,true,true,true,true,true,true,true,true,true,true,true,true,true,true],
 [true,true,true,true,true,true,true,true,true,true,true,true,true,false,true,true],
 [true,true,true,true,true,true,true,true,true,true,true,true,true,true,true,true],
 [true,true,true,true,true,true,true,true,true,true,true,true,true,true,true,true],
 [true,true,true,true,true,true,true,true,true,true,true,true,true,true,false,false],
 [true,true,true,true,true,false,true,true,false,true]]
def fnAt (g:Nat):Bool:=match nth fnRows (g / 16) with
 | some r=>match nth r (g%16) with
  | some e=>e
  | none=>false
 | none=>false
def extAt (g:Nat):Option (Array Value->Sem Value):=cond (Nat.beq g 189) (some (Extern.SlicesOverlaps.overlaps #[205,205] #[4])) (cond (Nat.beq g 238) (some Extern.MathFloatBits.float64frombits) (cond (Nat.beq g 239) (some Extern.MathFloatBits.float64bits) (cond (Nat.beq g 248) (some Extern.BytealgIndexByte.indexByte) (none))))
def tb :Tb:={ty:=tyAt,call:=fnAt,ext:=extAt}
abbrev zrr :Nat:=4
abbrev zmi :Nat:=9
abbrev zha1 :Nat:=10
abbrev zyv :Nat:=12
abbrev zey :Nat:=17
abbrev zyw :Nat:=18
abbrev zup :Nat:=19
abbrev zuq :Nat:=20
abbrev zrb1 :Nat:=23
abbrev zli :Nat:=26
abbrev zfk :Nat:=35
abbrev zbj :Nat:=36
abbrev zjc :Nat:=37
abbrev zay :Nat:=38
abbrev zjd :Nat:=39
abbrev zkg :Nat:=40
abbrev zcn :Nat:=41
abbrev zee :Nat:=42
abbrev zlj :Nat:=43
abbrev zhb1 :Nat:=44
abbrev zch1 :Nat:=45
abbrev zyx :Nat:=46
abbrev zpl1 :Nat:=51
abbrev zkc1 :Nat:=52
abbrev zpm1 :Nat:=53
abbrev zku :Nat:=54
abbrev zmj :Nat:=55
abbrev zfl :Nat:=58
abbrev zaw :Nat:=59
abbrev zin :Nat:=60
abbrev zdr :Nat:=61
abbrev zbs :Nat:=62
abbrev zcl :Nat:=63
abbrev zmk :Nat:=68
abbrev zff1 :Nat:=74
abbrev zje :Nat:=75
abbrev zcm :Nat:=76
abbrev zor :Nat:=77
abbrev zav :Nat:=78
abbrev zgw :Nat:=79
abbrev zgx :Nat:=80
abbrev zfm :Nat:=81
abbrev zez :Nat:=82
abbrev zgy :Nat:=83
abbrev zur :Nat:=84
abbrev zfn :Nat:=85
abbrev zus :Nat:=86
abbrev zjf :Nat:=87
abbrev ztj :Nat:=88
abbrev zut :Nat:=89
abbrev zuu :Nat:=90
abbrev zio :Nat:=91
abbrev zhc1 :Nat:=92
abbrev zwx :Nat:=93
abbrev zcy1 :Nat:=94
abbrev zuv :Nat:=95
abbrev zcz1 :Nat:=96
abbrev zap1 :Nat:=97
abbrev zbg :Nat:=98
abbrev zag :Nat:=99
abbrev zgz :Nat:=101
abbrev zfo :Nat:=102
abbrev zlk :Nat:=103
abbrev zgn :Nat:=104
abbrev zcr :Nat:=105
abbrev zdt :Nat:=106
abbrev zdu :Nat:=107
abbrev zdy :Nat:=110
abbrev zbt :Nat:=111
abbrev zmu :Nat:=112
abbrev zpq :Nat:=123
abbrev zib :Nat:=124
abbrev zha :Nat:=125
abbrev zjg :Nat:=127
abbrev zll :Nat:=128
abbrev zbe :Nat:=129
abbrev zjh :Nat:=130
abbrev zek :Nat:=131
abbrev zkh :Nat:=132
abbrev zfp :Nat:=133
abbrev zrm :Nat:=134
abbrev zfg1 :Nat:=135
abbrev ziy :Nat:=136
abbrev zlm :Nat:=137
abbrev zdm :Nat:=138
abbrev zer :Nat:=139
abbrev zfh :Nat:=140
abbrev zfq :Nat:=141
abbrev zhd1 :Nat:=142
abbrev zby :Nat:=143
abbrev zah :Nat:=144
abbrev zln :Nat:=145
abbrev zbm :Nat:=146
abbrev zpr :Nat:=147
abbrev zfr :Nat:=148
abbrev zcx :Nat:=149
abbrev zlo :Nat:=150
abbrev zip :Nat:=151
abbrev zyy :Nat:=152
abbrev zob :Nat:=153
abbrev zmv :Nat:=154
abbrev ztk :Nat:=155
abbrev zbf :Nat:=156
abbrev zyz :Nat:=157
abbrev zal :Nat:=158
abbrev ztl :Nat:=167
abbrev zcs :Nat:=168
abbrev zgv :Nat:=169
abbrev zhe1 :Nat:=170
abbrev zfs :Nat:=171
abbrev zft :Nat:=172
abbrev zhn :Nat:=173
abbrev zcy :Nat:=174
abbrev zfu :Nat:=175
abbrev zef :Nat:=176
abbrev znq :Nat:=177
abbrev zml :Nat:=179
abbrev zza :Nat:=180
abbrev zoz :Nat:=181
abbrev zhf1 :Nat:=182
abbrev zpa :Nat:=183
abbrev zjs1 :Nat:=184
abbrev zdc :Nat:=185
abbrev zjt1 :Nat:=186
abbrev zps :Nat:=187
abbrev ztm :Nat:=188
abbrev zes :Nat:=190
abbrev zmw :Nat:=192
abbrev zoc :Nat:=193
abbrev zda1 :Nat:=194
abbrev ztn :Nat:=195
abbrev zhb :Nat:=196
abbrev zlp :Nat:=197
abbrev zzb :Nat:=198
abbrev zrc1 :Nat:=199
abbrev zfh1 :Nat:=202
abbrev zdb1 :Nat:=203
abbrev zbu :Nat:=204
abbrev zsr1 :Nat:=205
abbrev zss1 :Nat:=206
abbrev zpt :Nat:=207
abbrev zfa :Nat:=208
abbrev zod :Nat:=209
abbrev zaq1 :Nat:=210
abbrev zki :Nat:=211
abbrev zlq :Nat:=212
abbrev zfi1 :Nat:=213
abbrev zfj1 :Nat:=214
abbrev zzc :Nat:=215
abbrev zrn :Nat:=216
abbrev zmx :Nat:=217
abbrev zpu :Nat:=218
abbrev zmy :Nat:=220
abbrev zdj :Nat:=221
abbrev zrs :Nat:=222
abbrev zrd1 :Nat:=223
abbrev zmp1 :Nat:=224
abbrev zmq1 :Nat:=225
abbrev zdc1 :Nat:=226
abbrev zph :Nat:=227
abbrev zmr1 :Nat:=228
abbrev zoe :Nat:=229
abbrev zwy :Nat:=230
abbrev zto :Nat:=231
abbrev zms1 :Nat:=232
abbrev zof :Nat:=233
abbrev zcw :Nat:=236
abbrev zfv :Nat:=237
abbrev ztp :Nat:=240
abbrev zwz :Nat:=241
end Lf
