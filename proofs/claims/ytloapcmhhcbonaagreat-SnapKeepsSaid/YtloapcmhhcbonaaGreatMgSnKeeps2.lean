/-
  Part 3 of the texts that the claim leans on.
-/
import Derived.Orders
import Derived.ScopeJumps
import Derived.Test.YtloapcmhhcbonaaGreatMgSnKeeps1
namespace Lf
open Go
section
variable {P:Program} {tb:Tb} {o:Oper} {ch:Chain} {s:St} {h:Hp} {K:LV→Prop}
theorem zqo1 (hh:holds s ch):cnd s ch=none∨cnd s ch=some true:=by
  cases ch with
  | nil=>exact .inl rfl
  | cons q r=>
    obtain ⟨t,w⟩:=q
    obtain ⟨b,hb,hi⟩:=zvn1 (s:=s) t w r
    rw [hb,hi hh]
    exact .inr rfl
theorem zzr1 (ok:tb.Ok P) {t:Nat} {x:Operand} {lo hi mx:Option Operand} (hop:o.op=.slice t x lo hi mx) (hv:onV (ev s ch x) fun v=>match optI s ch lo,optI s ch hi,optI s ch mx with
    | some lo,some hi,some mx=>zzh1 (cnd s ch) tb t v lo hi mx K
    | _,_,_=>False):ValOk P tb o ch s h K:=by
  obtain ⟨v,hev,hv'⟩:=zbh hv
  clear hv
  split at hv'
  · rename_i l n m hl hn hm
    have opt:holds s ch→∀(β:Nat→Nat) (ρ:Operand→Value),(∀x∈o.op.operands,Opnd β s ρ x)→∀ {y:Option Operand} {r:Option Int},optI s ch y=some r→(∀z,y=some z→z∈o.op.operands)→
        (r=none∧y.map ρ=none∨∃k n,r=some n∧y.map ρ=some (.int k n)):=by
      intro hh β ρ ho y r he hm
      rcases zdl2 hh he (fun z hz=>ho z (hm z hz)) with ⟨h1,h2⟩ | ⟨z,k,n,h1,h2,h3⟩
      · exact .inl ⟨h2,by rw [h1];rfl⟩
      · exact .inr ⟨k,n,h3,by rw [h1];simp [h2]⟩
    unfold zzh1 at hv'
    split at hv'
    · rename_i base len cap
      split at hv'
      · rename_i e hel
        obtain ⟨y,u,hy,hu,hg⟩:=zfm hel
        obtain ⟨l',x',m',hq,hrun⟩:=zzq1 (P:=P) hv'
        refine zau _ (hq _ rfl) fun hh β ρ w ho=> ?_
        have hx:=ev_ok (ho x (by simp [hop,Op.operands])) hh hev
        have hun:=run_underlying' ok hy w
        have hsz:=run_sizeOf' ok hg w
        rw [hu] at hun
        have hr:=hrun (zqo1 hh) _ _ _ (opt hh β ρ ho hl (by intro z hz;simp [hop,Op.operands,hz])) (opt hh β ρ ho hn (by intro z hz;simp [hop,Op.operands,hz]))
          (opt hh β ρ ho hm (by intro z hz;simp [hop,Op.operands,hz])) w
        simp only [execOp,hop,hx,LVal,Instr.sliceAt,Instr.slice,Sem.run_bind,hun,Result.andThen_ok,hr,hsz,Sem.run_pure,sbase]
      · exact hv'.elim
    · rename_i b
      split at hv'
      · rename_i e hy
        split at hv'
        · rename_i hu
          obtain ⟨l',x',m',hq,hrun⟩:=zzq1 (P:=P) hv'
          refine zau _ hq fun hh β ρ w ho=> ?_
          have hx:=ev_ok (ho x (by simp [hop,Op.operands])) hh hev
          have hun:=run_underlying' ok hy w
          rw [hu] at hun
          have hmx:mx=none:=by
            cases mx with
            | none=>rfl
            | some z=>simp only [optI] at hm;split at hm<;>cases hm
          have hr:=hrun (zqo1 hh) _ _ none (opt hh β ρ ho hl (by intro z hz;simp [hop,Op.operands,hz])) (opt hh β ρ ho hn (by intro z hz;simp [hop,Op.operands,hz])) (.inl ⟨rfl,rfl⟩) w
          subst hmx
          simp [execOp,hop,hx,LVal,Instr.sliceAt,Instr.slice,hun,hr]
        · exact hv'.elim
      · exact hv'.elim
    · exact hv'.elim
  · exact hv'.elim
theorem zzs1 (ok:tb.Ok P) {t:Nat} {x:Operand} (hop:o.op=.makeInterface t x) (hv:onV (ev s ch x) fun v=>match tb.ty t with
    | some e=>match e.und with
      | .interface _=>False
      | _=>K (.v (.iface t v))
    | none=>False):ValOk P tb o ch s h K:=by
  obtain ⟨v,hev,hv'⟩:=zbh hv
  clear hv
  split at hv'
  · rename_i e he
    have run:(∀ms,e.und≠ .interface ms)→K (.v (.iface t v))→ValOk P tb o ch s h K:=fun hne hk=>
      zau _ hk fun hh β ρ w ho=>by
        have hx:=ev_ok (ho x (by simp [hop,Op.operands])) hh hev
        have hun:=run_underlying' ok he w
        simp only [execOp,hop,hx,LVal,Instr.makeInterface,Sem.run_bind,hun,Result.andThen_ok]
        cases hu:e.und<;>first | exact absurd hu (hne _) | rfl
    split at hv'
    · exact hv'.elim
    · rename_i hne;exact run (fun ms h=>hne ms h) hv'
  · exact hv'.elim
theorem zdm2 {fn:Fn} {first captured:Array Operand} (hop:o.op=.makeFunc fn first captured)
    (hv:onVs (vals s ch first.toList) fun a=>onVs (vals s ch captured.toList) fun b=>K (.v (.func fn a.toArray b.toArray))):ValOk P tb o ch s h K:=by
  obtain ⟨a,ha,hv1⟩:=zue hv
  obtain ⟨b,hb,hk⟩:=zue hv1
  refine zau _ hk fun hh β ρ w ho=> ?_
  have h1:=zwn (β:=β) (ρ:=ρ) hh ha fun x hx=>ho x (by simp [hop,Op.operands];simp at hx;exact .inl hx)
  have h2:=zwn (β:=β) (ρ:=ρ) hh hb fun x hx=>ho x (by simp [hop,Op.operands];simp at hx;exact .inr hx)
  have e1:first.map ρ=a.toArray:=by apply Array.ext';simpa using h1
  have e2:captured.map ρ=b.toArray:=by apply Array.ext';simpa using h2
  simp only [execOp,hop,Instr.makeFunc,Sem.run_bind,Sem.run_pure,Result.andThen_ok,e1,e2,LVal]
theorem ztd1 (ok:tb.Ok P) {src dst:Nat} {x:Operand} (hop:o.op=.convert src dst x) (hv:onV (ev s ch x) fun v=>match tb.ty src,tb.ty dst,v with
    | some _,some e,.int _ n=>match e.und with
      | .int k=>K (.v (.int k (k.wrap n)))
      | _=>genV (cnd s ch) P tb dst (convert src dst v) h K
    | some _,some _,v=>genV (cnd s ch) P tb dst (convert src dst v) h K
    | _,_,_=>False):ValOk P tb o ch s h K:=by
  obtain ⟨v,hev,hv'⟩:=zbh hv
  clear hv
  have hex:holds s ch→∀(β:Nat→Nat) (ρ:Operand→Value),(∀x∈o.op.operands,Opnd β s ρ x)→∀(w w':World) (u:Value),(convert src dst v).run P w=.ok u w'→(execOp ρ o).run P w=.ok (.value u) w':=by
    intro hh β ρ ho w w' u hr
    have hx:=ev_ok (ho x (by simp [hop,Op.operands])) hh hev
    simp only [execOp,hop,hx,LVal,Sem.run_bind,hr,Result.andThen_ok,Sem.run_pure]
  split at hv'
  · rename_i e0 e k n hs hd
    split at hv'
    · rename_i k' hu
      refine zau _ hv' fun hh β ρ w ho=>hex hh β ρ ho w w _ ?_
      have h1:=run_underlying' ok hs w
      have h2:=run_underlying' ok hd w
      rw [hu] at h2
      generalize e0.und=u0 at h1
      simp only [convert,Sem.run_bind,h1,h2,Result.andThen_ok]
      cases u0<;>rfl
    · exact zef1 (by simp_all [kindD]) hv' fun hh β ρ ho w w' u hr=>hex hh β ρ ho w w' u hr
  · exact zef1 (by simp_all [kindD]) hv' fun hh β ρ ho w w' u hr=>hex hh β ρ ho w w' u hr
  · exact hv'.elim
theorem zwo :∀(l:List Value) (i:Nat) (new:List Value),i+new.length≤l.length→layL l i new=l.take i++new++l.drop (i+new.length)
  | l,0,[],_=>by cases l<;>simp [layL]
  | [],0,b::new,h=>by simp at h
  | a::l,0,b::new,h=>by
    have:=zwo l 0 new (by simp at h ⊢;omega)
    simp only [layL,this]
    simp
  | [],n+1,new,h=>by simp at h
  | a::l,n+1,new,h=>by
    have:=zwo l n new (by simp at h ⊢;omega)
    simp only [layL,this]
    simp [show n+1+new.length=n+new.length+1 from by omega]
theorem zte1 (l:List Value) (i:Nat) (new:List Value) (h:i+new.length≤l.length):(layL l i new).length=l.length:=by
  rw [zwo l i new h];simp;omega
theorem zvu1 :∀(new:List Value) (k:Nat) (l:List Value) (off:Nat),off+k+new.length≤l.length→
    ((new.zipIdx k).foldl (fun (cs:Array Value) (p:Value×Nat)=>cs.setIfInBounds (off+p.2) p.1) l.toArray).toList=l.take (off+k)++new++l.drop (off+k+new.length)
  | [],k,l,off,_=>by simp
  | v::new,k,l,off,h=>by
    simp only [List.zipIdx_cons,List.foldl_cons]
    have h':off+(k+1)+new.length≤(l.set (off+k) v).length:=by simp at h ⊢;omega
    have:=zvu1 new (k+1) (l.set (off+k) v) off h'
    rw [show (l.toArray.setIfInBounds (off+k) v)=(l.set (off+k) v).toArray by simp]
    rw [this]
    simp at h
    apply List.ext_getElem?
    intro j
    simp only [List.getElem?_append,List.length_append,List.length_take,List.length_set,List.length_cons,List.getElem?_take,List.getElem?_drop,List.getElem?_set]
    rcases Nat.lt_trichotomy j (off+k) with hj | hj | hj
    · have e1:j<min (off+(k+1)) l.length+new.length:=by omega
      have e2:j<min (off+(k+1)) l.length:=by omega
      have e3:j<off+(k+1):=by omega
      have e4:¬off+k=j:=by omega
      have e5:j<min (off+k) l.length+(new.length+1):=by omega
      have e6:j<min (off+k) l.length:=by omega
      simp [e1,e2,e3,e4,e5,e6,hj]
    · subst hj
      have e1:off+k<min (off+(k+1)) l.length+new.length:=by omega
      have e2:off+k<min (off+(k+1)) l.length:=by omega
      have e5:off+k<min (off+k) l.length+(new.length+1):=by omega
      have e6:¬off+k<min (off+k) l.length:=by omega
      have e7:off+k-min (off+k) l.length=0:=by omega
      have e8:off+k<l.length:=by omega
      have e9:off+k<off+(k+1):=by omega
      simp [e1,e2,e5,e6,e7,e8,e9]
    · by_cases hj2:j<off+k+(new.length+1)
      · have e1:j<min (off+(k+1)) l.length+new.length:=by omega
        have e2:¬j<min (off+(k+1)) l.length:=by omega
        have e5:j<min (off+k) l.length+(new.length+1):=by omega
        have e6:¬j<min (off+k) l.length:=by omega
        obtain ⟨m,hm⟩:∃m,j-min (off+k) l.length=m+1:=⟨j-min (off+k) l.length-1,by omega⟩
        have e7:j-min (off+(k+1)) l.length=m:=by omega
        simp [e1,e2,e5,e6,hm,e7]
      · have e1:¬j<min (off+(k+1)) l.length+new.length:=by omega
        have e5:¬j<min (off+k) l.length+(new.length+1):=by omega
        have e7:off+(k+1)+new.length+(j-(min (off+(k+1)) l.length+new.length))=j:=by omega
        have e8:off+k+(new.length+1)+(j-(min (off+k) l.length+(new.length+1)))=j:=by omega
        have e9:¬off+k=j:=by omega
        simp [e1,e5,e7,e8,e9]
theorem zvv1 (v:Value) (l:List Value) (off:Nat) (h:off+(zad v).length≤l.length):
    (v.cells.zipIdx.foldl (fun (cs:Array Value) (p:Value×Nat)=>cs.setIfInBounds (off+p.2) p.1) l.toArray)=(layL l off (zad v)).toArray:=by
  apply Array.ext'
  rw [←Array.foldl_toList]
  have:v.cells.zipIdx.toList=(zad v).zipIdx:=by
    rw [Array.toList_zipIdx,zbr]
  rw [this,zvu1 (zad v) 0 l off (by omega),zwo l off _ h]
  simp
theorem zot1 {size:Nat}:∀ {ps:List (Nat×Value)} {cs cs':List Value},fillA size cs ps=some cs'→
    Instr.fill (fun i=>some (i*size,size)) cs.toArray ps=some cs'.toArray
  | [],cs,cs',h=>by cases h;rfl
  | (i,v)::r,cs,cs',h=>by
    simp only [fillA] at h
    cases h1:Nat.beq (zad v).length size with
    | false=>simp [h1] at h
    | true=>
      cases h2:Nat.ble (i*size+size) cs.length with
      | false=>simp [h1,h2] at h
      | true=>
        simp only [h1,h2,cond_true] at h
        have e1:=Nat.eq_of_beq_eq_true h1
        have e2:=Nat.le_of_ble_eq_true h2
        have hc:v.cells.size=size:=by rw [←Array.length_toList,zbr,e1]
        have:=zot1 h
        simp only [Instr.fill,hc,ne_eq,not_true,decide_false,Bool.false_or,decide_eq_true_eq]
        rw [if_neg (by simp;omega)]
        have hst:=zvv1 v cs (i*size) (by omega)
        rw [hst]
        exact this
theorem zvw1 {fs:List Field} {pl:Nat→Option (Nat×Nat)} (hpl:∀i f e,fs[i]?=some f→tb.ty f.type=some e→pl i=some (f.offset,e.size)):
    ∀ {ps:List (Nat×Value)} {cs cs':List Value},fillW tb fs cs ps=some cs'→Instr.fill pl cs.toArray ps=some cs'.toArray
  | [],cs,cs',h=>by cases h;rfl
  | (i,v)::r,cs,cs',h=>by
    simp only [fillW] at h
    split at h
    · rename_i f hf
      split at h
      · rename_i e he
        cases h1:Nat.beq (zad v).length e.size with
        | false=>simp [h1] at h
        | true=>
          cases h2:Nat.ble (f.offset+e.size) cs.length with
          | false=>simp [h1,h2] at h
          | true=>
            simp only [h1,h2,cond_true] at h
            have e1:=Nat.eq_of_beq_eq_true h1
            have e2:=Nat.le_of_ble_eq_true h2
            have hc:v.cells.size=e.size:=by rw [←Array.length_toList,zbr,e1]
            have:=zvw1 hpl h
            rw [zfl] at hf
            simp only [Instr.fill,hpl i f e hf he,hc]
            rw [if_neg (by simp;omega)]
            rw [zvv1 v cs f.offset (by omega)]
            exact this
      · cases h
    · cases h
theorem zmj1 (ok:tb.Ok P) {w:World}:∀(fs:List Field),(∀f∈fs,∃e,tb.ty f.type=some e)→
    ∃ps:List (Nat×Nat),(fs.mapM fun f=>(do pure (f.offset,←Go.sizeOf f.type):Sem (Nat×Nat))).run P w=.ok ps w∧ps.length=fs.length∧
      ∀(i:Nat) f e,fs[i]?=some f→tb.ty f.type=some e→ps[i]?=some (f.offset,e.size)
  | [],_=>⟨[],by simp,rfl,by simp⟩
  | f::fs,hf=>by
    obtain ⟨e,he⟩:=hf f (List.mem_cons_self ..)
    obtain ⟨ps,hr,hl,hp⟩:=zmj1 ok (w:=w) fs fun g hg=>hf g (List.mem_cons_of_mem _ hg)
    refine ⟨(f.offset,e.size)::ps,?_,by simp [hl],?_⟩
    · simp only [List.mapM_cons,Sem.run_bind,run_sizeOf' ok he,Result.andThen_ok,Sem.run_pure,hr]
    · intro i g e' hg he'
      cases i with
      | zero=>simp at hg;subst hg;rw [he] at he';cases he';simp
      | succ i=>simp at hg ⊢;exact hp i g e' hg he'
theorem zqp1 :∀ {fs:List Field},tysIn tb fs=true→∀f∈fs,∃e,tb.ty f.type=some e
  | [],_,f,hf=>by cases hf
  | g::fs,h,f,hf=>by
    simp only [tysIn] at h
    split at h
    · rename_i e he
      rcases List.mem_cons.1 hf with rfl | hf
      · exact ⟨e,he⟩
      · exact zqp1 h f hf
    · cases h
theorem zzt1 (ok:tb.Ok P) {t:Nat} {parts:Array (Nat×Operand)} (hop:o.op=.build t parts)
    (hv:onVs ((pairs s ch parts.toList).map fun _=> []) fun _=>match pairs s ch parts.toList,tb.ty t with
    | some ps,some e=>match e.und with
      | .struct fs=>cond (tysIn tb fs.toList) (match fillW tb fs.toList (zad e.zero) ps with
        | some cs=>K (.v (.agg cs.toArray))
        | none=>False) False
      | .array _ u=>match tb.ty u with
        | some g=>match fillA g.size (zad e.zero) ps with
          | some cs=>K (.v (.agg cs.toArray))
          | none=>False
        | none=>False
      | _=>False
    | _,_=>False):ValOk P tb o ch s h K:=by
  obtain ⟨_,_,hv'⟩:=zue hv
  clear hv
  split at hv'
  · rename_i ps e hps he
    have hparts:holds s ch→∀(β:Nat→Nat) (ρ:Operand→Value),(∀x∈o.op.operands,Opnd β s ρ x)→(parts.map fun (i,x)=>(i,ρ x)).toList=ps:=by
      intro hh β ρ ho
      have:=zoq1 (β:=β) (ρ:=ρ) hh hps fun x hx=>ho x (by simp [hop,Op.operands];simpa using hx)
      simpa using this
    split at hv'
    · rename_i fs hu
      cases hty:tysIn tb fs.toList with
      | false=>simp [hty] at hv'
      | true=>
        simp only [hty,cond_true] at hv'
        split at hv'
        · rename_i cs hcs
          refine zau _ hv' fun hh β ρ w ho=> ?_
          have hun:=run_underlying' ok he w
          rw [hu] at hun
          have hz:=run_zeroValue' ok he w
          obtain ⟨pl,hr,hl,hp⟩:=zmj1 ok (w:=w) fs.toList (zqp1 hty)
          have hm:(fs.mapM fun f=>(do pure (f.offset,←Go.sizeOf f.type):Sem (Nat×Nat))).run P w=.ok pl.toArray w:=by
            rw [Array.mapM_eq_mapM_toList]
            simp only [Sem.run_map,hr,Result.andThen_ok]
          have hfill:=zvw1 (tb:=tb) (fs:=fs.toList) (pl:=fun (i:Nat)=>pl[i]?) hp hcs
          have e1:(parts.map fun (i,x)=>(i,ρ x)).toList=ps:=hparts hh β ρ ho
          have e2:(zad e.zero).toArray=e.zero.cells:=by apply Array.ext';simp [zbr]
          rw [e2] at hfill
          simp only [execOp,hop,Instr.build,Sem.run_bind,hz,Result.andThen_ok,hun,hm,e1]
          have e3:(fun (i:Nat)=>pl.toArray[i]?)=fun (i:Nat)=>pl[i]?:=by funext i;simp
          rw [e3,hfill]
          simp [LVal]
        · exact hv'.elim
    · rename_i n u hu
      split at hv'
      · rename_i g hg
        split at hv'
        · rename_i cs hcs
          refine zau _ hv' fun hh β ρ w ho=> ?_
          have hun:=run_underlying' ok he w
          rw [hu] at hun
          have hz:=run_zeroValue' ok he w
          have hsz:=run_sizeOf' ok hg w
          have hfill:=zot1 hcs
          have e1:(parts.map fun (i,x)=>(i,ρ x)).toList=ps:=hparts hh β ρ ho
          have e2:(zad e.zero).toArray=e.zero.cells:=by apply Array.ext';simp [zbr]
          rw [e2] at hfill
          simp only [execOp,hop,Instr.build,Sem.run_bind,hz,Result.andThen_ok,hun,hsz,e1,hfill]
          simp [LVal]
        · exact hv'.elim
      · exact hv'.elim
    · exact hv'.elim
  · exact hv'.elim
end
end Lf

namespace Lf
open Go
section
variable {P:Program} {tb:Tb} {o:Oper} {ch:Chain} {s:St} {h:Hp} {K:LV→Prop}
theorem ziw (ok:tb.Ok P) {k:Nat} {e:Ty} {b:Bool} {v:Value} {w:World} (he:tb.ty k=some e) (hk:zpi e.und=true):
    (Instr.checkKey b 10000 k v).run P w=.ok () w:=by
  have hu:=run_underlying' ok he w
  have key:∀n,(Instr.checkKey b (n+1) k v).run P w=.ok () w:=by
    intro n
    unfold Instr.checkKey
    simp only [Sem.run_bind,hu,Result.andThen_ok]
    generalize e.und=d at hk
    cases d<;>first | rfl | (simp [zpi] at hk)
  exact key 9999
theorem zix (ok:tb.Ok P) {k:Nat} {e:Ty} {v:Value} {es:List MapEntry} {r:Option (Nat×Value)} {w:World} (he:tb.ty k=some e)
    (hf:Instr.findNow e.und v es 0=some r):(Instr.findKey k v es).run P w=.ok r w:=by
  simp only [Instr.findKey,Sem.run_bind,run_underlying' ok he,Result.andThen_ok,hf,Sem.run_pure]
theorem zug {r:Nat} {es:Array MapEntry} {ck:Nat} {w:World} (hb:w.heap[r]?=some (.map es ck)):(getObj r).run P w=.ok (.map es ck) w:=by
  simp [getObj,Sem.run,hb]
theorem zbe1 (ok:tb.Ok P) {t k u:Nat} {e ke ue:Ty} {m:Option Nat} {b v:Value} {y cok:Bool} {w:World} (he:tb.ty t=some e) (hu:e.und=.map k u)
    (hk:tb.ty k=some ke) (hue:tb.ty u=some ue) (hkd:zpi ke.und=true) (hs:Sub h w) (hl:zvg1 ke.und ue.zero m b h v y):
    (Instr.lookup t (.map m) b cok).run P w=.ok (if cok then .tuple #[v,.bool y] else v) w:=by
  have hun:=run_underlying' ok he w
  rw [hu] at hun
  obtain ⟨es,hm,hl⟩:=hl
  rcases hm with ⟨rfl,rfl⟩ | ⟨r,ck,rfl,hr⟩
  · simp only [Instr.lookup,Sem.run_bind,hun,Result.andThen_ok,Sem.run_pure,ziw ok hk hkd]
    rcases hl with ⟨hf,hv,hy⟩ | ⟨i,hf,hy⟩
    · simp only [zix ok hk hf,Result.andThen_ok,Sem.run_bind,run_zeroValue' ok hue,Sem.run_pure,hv,hy]
    · simp only [zix ok hk hf,Result.andThen_ok,Sem.run_bind,Sem.run_pure,hy]
  · simp only [Instr.lookup,Sem.run_bind,hun,Result.andThen_ok,zug (hs r _ hr),Sem.run_pure,ziw ok hk hkd]
    rcases hl with ⟨hf,hv,hy⟩ | ⟨i,hf,hy⟩
    · simp only [zix ok hk hf,Result.andThen_ok,Sem.run_bind,run_zeroValue' ok hue,Sem.run_pure,hv,hy]
    · simp only [zix ok hk hf,Result.andThen_ok,Sem.run_bind,Sem.run_pure,hy]
theorem zxs1 (ok:tb.Ok P) {t:Nat} {x i:Operand} {cok:Bool} (hop:o.op=.lookup t x i cok) (hv:onV (ev s ch x) fun a=>onV (ev s ch i) fun b=>match a,tb.ty t with
    | .map m,some e=>match e.und with
      | .map k u=>match tb.ty k,tb.ty u with
        | some ke,some ue=>cond (zpi ke.und) (LookW (cnd s ch) ke.und ue.sh ue.zero m b h fun x y=>cond cok (K (.v (.tuple #[ue.sh.enc x,.bool y]))) (K (.v (ue.sh.enc x))))
            (genV (cnd s ch) P tb o.type (Instr.lookup t a b cok) h K)
        | _,_=>False
      | _=>False
    | _,_=>False):ValOk P tb o ch s h K:=by
  obtain ⟨a,hea,hv1⟩:=zbh hv
  clear hv
  obtain ⟨b,heb,hv⟩:=zbh hv1
  clear hv1
  have hex:holds s ch→∀(β:Nat→Nat) (ρ:Operand→Value),(∀x∈o.op.operands,Opnd β s ρ x)→∀(w w':World) (u:Value),(Instr.lookup t a b cok).run P w=.ok u w'→(execOp ρ o).run P w=.ok (.value u) w':=by
    intro hh β ρ ho w w' u hr
    have hx:=ev_ok (ho x (by simp [hop,Op.operands])) hh hea
    have hi:=ev_ok (ho i (by simp [hop,Op.operands])) hh heb
    simp only [execOp,hop,hx,hi,LVal,Sem.run_bind,hr,Result.andThen_ok,Sem.run_pure]
  split at hv
  · rename_i m e he
    split at hv
    · rename_i k u hu
      split at hv
      · rename_i ke ue hk hue
        cases hkd:zpi ke.und with
        | false=>
          simp only [hkd,cond_false] at hv
          exact zef1 (by simp_all [kindD]) hv fun hh β ρ ho w w' u hr=>hex hh β ρ ho w w' u hr
        | true=>
          simp only [hkd,cond_true] at hv
          obtain ⟨y,z,hr,hq⟩:=hv
          cases cok with
          | true=>
            refine zjy1 (by simp [kindD,hop]) _ hq fun hh β ρ w ho hs=>hex hh β ρ ho w w _ ?_
            rw [zbe1 ok he hu hk hue hkd hs (zel hr hh)]
            rfl
          | false=>
            refine zjy1 (by simp [kindD,hop]) _ hq fun hh β ρ w ho hs=>hex hh β ρ ho w w _ ?_
            rw [zbe1 ok he hu hk hue hkd hs (zel hr hh)]
            rfl
      · exact hv.elim
    · exact hv.elim
  · exact hv.elim
theorem zzu1 {k:IntKind} {w:World}:∀ {r:List Value} {x:Int} {v:Value},minI min2I k x r=some v→(r.foldlM Builtin.min2 (.int k x)).run P w=.ok v w
  | [],x,v,h=>by cases h;rfl
  | a::r,x,v,h=>by
    cases a<;>simp only [minI] at h<;>first
      | cases h
      | (simp only [List.foldlM_cons,Sem.run_bind,Builtin.min2,Sem.run_pure,Result.andThen_ok]
         exact zzu1 h)
theorem zzv1 {k:IntKind} {w:World}:∀ {r:List Value} {x:Int} {v:Value},minI max2I k x r=some v→(r.foldlM Builtin.max2 (.int k x)).run P w=.ok v w
  | [],x,v,h=>by cases h;rfl
  | a::r,x,v,h=>by
    cases a<;>simp only [minI] at h<;>first
      | cases h
      | (simp only [List.foldlM_cons,Sem.run_bind,Builtin.max2,Sem.run_pure,Result.andThen_ok]
         exact zzv1 h)
theorem ztf1 (ok:tb.Ok P) {b:Builtin} {xs:Array Operand} {ts:Array TypeId} (hop:o.op=.call {callee:=.builtin b,args:=xs,argTypes:=ts})
    (hv:onVs (vals s ch xs.toList) fun vs=>biV (cnd s ch) P tb b vs ts.toList o.type h K):ValOk P tb o ch s h K:=by
  obtain ⟨vs,hvs,hv'⟩:=zue hv
  clear hv
  have hargs:holds s ch→∀(β:Nat→Nat) (ρ:Operand→Value),(∀x∈o.op.operands,Opnd β s ρ x)→xs.map ρ=vs.toArray:=by
    intro hh β ρ ho
    have:=zwn (β:=β) (ρ:=ρ) hh hvs fun x hx=>ho x (by simp [hop,Op.operands,Call.operands];simpa using hx)
    apply Array.ext';simpa using this
  unfold biV at hv'
  split at hv'
  · rename_i x ty hts
    have hts':ts= #[ty]:=by apply Array.ext';simpa using hts
    have hex:holds s ch→∀(β:Nat→Nat) (ρ:Operand→Value),(∀x∈o.op.operands,Opnd β s ρ x)→∀(w w':World) (u:Value),(Builtin.len_ #[ty] o.type #[x]).run P w=.ok u w'→(execOp ρ o).run P w=.ok (.value u) w':=by
      intro hh β ρ ho w w' u hr
      have ha:=hargs hh β ρ ho
      simp only [execOp,hop,resolve,invoke,builtin,Sem.run_bind,Sem.run_pure,Result.andThen_ok,ha,hts',hr]
    unfold lenW at hv'
    split at hv'
    · rename_i e he
      have hu:=fun w=>run_underlying' ok he w
      split at hv'
      · rename_i bs heu
        refine zau _ hv' fun hh β ρ w ho=>hex hh β ρ ho w w _ ?_
        simp [Builtin.len_,hu,heu,goInt,LVal]
      · rename_i el p n c heu
        refine zau _ hv' fun hh β ρ w ho=>hex hh β ρ ho w w _ ?_
        simp [Builtin.len_,hu,heu,goInt,LVal]
      · rename_i y n el heu
        refine zau _ hv' fun hh β ρ w ho=>hex hh β ρ ho w w _ ?_
        cases y<;>simp [Builtin.len_,hu,heu,goInt,LVal]
      · exact zef1 (by simp_all [kindD]) hv' fun hh β ρ ho w w' u hr=>hex hh β ρ ho w w' u hr
    · exact hv'.elim
  · rename_i p n c ty hts
    have hts':ts= #[ty]:=by apply Array.ext';simpa using hts
    split at hv'
    · rename_i e he
      split at hv'
      · rename_i u hu
        refine zau _ hv' fun hh β ρ w ho=> ?_
        have ha:=hargs hh β ρ ho
        have hun:=run_underlying' ok he w
        rw [hu] at hun
        simp [execOp,hop,resolve,invoke,builtin,ha,hts',Builtin.cap_,hun,goInt,LVal]
      · exact hv'.elim
    · exact hv'.elim
  · rename_i k x r
    split at hv'
    · rename_i v hm
      refine zau _ hv' fun hh β ρ w ho=> ?_
      have ha:=hargs hh β ρ ho
      simp [execOp,hop,resolve,invoke,builtin,ha,Builtin.min_,zzu1 hm,LVal]
    · exact hv'.elim
  · rename_i k x r
    split at hv'
    · rename_i v hm
      refine zau _ hv' fun hh β ρ w ho=> ?_
      have ha:=hargs hh β ρ ho
      simp [execOp,hop,resolve,invoke,builtin,ha,Builtin.max_,zzv1 hm,LVal]
    · exact hv'.elim
  · exact hv'.elim
theorem zmk1 (ok:tb.Ok P) (hv:valW P tb o ch s h K):ValOk P tb o ch s h K:=by
  obtain ⟨dst,op,ty,pos,after,guard⟩:=o
  cases op with
  | move x=>exact zvr1 (.inl rfl) hv
  | assign x=>exact zvr1 (.inr rfl) hv
  | pick x a b=>exact zdj2 rfl hv
  | extract x i=>exact ztc1 rfl hv
  | binOp op t x y yt=>exact zgh2 ok rfl hv
  | unOp op t x=>exact zid2 rfl hv
  | nilCheck x=>exact zgi2 rfl hv
  | load t x=>exact zdk2 ok rfl hv
  | fieldAddr t x i=>exact zor1 ok rfl hv
  | field t x i=>exact zzo1 ok rfl hv
  | indexAddr t x i=>exact zos1 ok rfl hv
  | index t x i=>exact zzp1 ok rfl hv
  | slice t x lo hi mx=>exact zzr1 ok rfl hv
  | makeInterface t x=>exact zzs1 ok rfl hv
  | makeFunc fn a b=>exact zdm2 rfl hv
  | convert a b x=>exact ztd1 ok rfl hv
  | build t ps=>exact zzt1 ok rfl hv
  | lookup t x i k=>exact zxs1 ok rfl hv
  | call c=>
    obtain ⟨callee,args,ats⟩:=c
    cases callee with
    | builtin b=>exact ztf1 ok rfl hv
    | value f=>exact hv.elim
    | invoke r m=>exact hv.elim
  | _=>exact hv.elim
end
end Lf

namespace Lf
open Go
section
variable {P:Program} {tb:Tb} {o:Oper} {ch:Chain} {s:St} {h:Hp} {K:LV→Hp→Prop}
theorem zgj2 (s:St) (t:Nat) (w:Bool) (r:Chain):∃b,cnd s ((t,w)::r)=some b∧(b=true↔holds s ((t,w)::r)):=by
  induction r generalizing t w with
  | nil=>
    simp only [cnd]
    split
    · rename_i b c hf
      refine ⟨_,rfl,fun h=> ?_,fun h=> ?_⟩
      · intro p hp
        simp at hp
        subst hp
        simp only [hb,hf]
        cases w<;>cases b<;>first | rfl | cases h
      · have:=h (t,w) (List.mem_cons_self ..)
        simp only [hb,hf] at this
        injection this with this
        subst this
        cases b<;>rfl
    · refine ⟨false,rfl,fun h=>(by cases h),fun h=> ?_⟩
      have:=h (t,w) (List.mem_cons_self ..)
      unfold hb at this
      split at this
      · rename_i hn _ b c hf;exact absurd hf (hn b c)
      · cases this
  | cons p r ih=>
    obtain ⟨t',w'⟩:=p
    obtain ⟨b',hb',hh'⟩:=ih t' w'
    simp only [cnd]
    split
    · rename_i b c hf
      rw [hb']
      refine ⟨_,rfl,fun h=> ?_,fun h=> ?_⟩
      · have h2:b'=true∧b=w:=by cases w<;>cases b<;>cases b'<;>first | exact ⟨rfl,rfl⟩ | cases h
        intro q hq
        rcases List.mem_cons.1 hq with rfl | hq
        · simp only [hb,hf,h2.2]
        · exact hh'.1 h2.1 q hq
      · have h1:=h (t,w) (List.mem_cons_self ..)
        simp only [hb,hf] at h1
        injection h1 with h1
        have h2:b'=true:=hh'.2 fun q hq=>h q (List.mem_cons_of_mem _ hq)
        subst h1;subst h2
        cases b<;>rfl
    · refine ⟨false,rfl,fun h=>(by cases h),fun h=> ?_⟩
      have:=h (t,w) (List.mem_cons_self ..)
      unfold hb at this
      split at this
      · rename_i hn _ b c hf;exact absurd hf (hn b c)
      · cases this
def EffOk (P:Program) (o:Oper) (ch:Chain) (s:St) (h:Hp) (K:LV→Hp→Prop):Prop:=
  (holds s ch→∀(β:Nat→Nat) (a:Act) (w:World),(∀x∈o.op.operands,Opnd β s a.eval x)→Sub h w→∀(next:Act→World→Prop) (Q:Exit→Act→World→Prop),
    (∀x h' w',K (.v x) h'→Step h h' w w'→next (a.put o.dst x) w')→o.wp P a w next Q)∧
  (¬holds s ch→∃x,K (.v x) h)
theorem zkb1 {α:Type} {A:(α→Hp→Prop)→Hp→Prop} {K:α→Hp→Prop} (he:EffC (cnd s ch) A K h):(holds s ch→A K h)∧(¬holds s ch→∃x,K x h):=by
  cases ch with
  | nil=>exact ⟨fun _=>he,fun hn=>absurd (zbn s) hn⟩
  | cons p r=>
    obtain ⟨t,w⟩:=p
    obtain ⟨b,hb,hi⟩:=zgj2 s t w r
    rw [hb] at he
    exact ⟨fun hh=>he.1 (hi.2 hh),fun hn=>he.2 (by cases b with
      | false=>rfl
      | true=>exact absurd (hi.1 rfl) hn)⟩
theorem zfn {α:Type} {A:(α→Hp→Prop)→Hp→Prop} {f:α→Value} (he:EffC (cnd s ch) A (fun x h'=>K (.v (f x)) h') h)
    (hr:holds s ch→∀(β:Nat→Nat) (ρ:Operand→Value) (w:World),(∀x∈o.op.operands,Opnd β s ρ x)→Sub h w→∀(K:α→Hp→Prop),A K h→
      ∃x h' w',(execOp ρ o).run P w=.ok (.value (f x)) w'∧K x h'∧Step h h' w w'):EffOk P o ch s h K:=by
  obtain ⟨h1,h2⟩:=zkb1 he
  refine ⟨fun hh β a w ho hs next Q hn=> ?_,fun hn=> ?_⟩
  · obtain ⟨x,h',w',hr,hk,hst⟩:=hr hh β a.eval w ho hs _ (h1 hh)
    unfold Oper.wp
    rw [hr,Oper.upon_value]
    exact hn _ _ _ hk hst
  · obtain ⟨x,hx⟩:=h2 hn
    exact ⟨_,hx⟩
theorem zzw1 {h:Hp} {a a':Addr} {v:Value} (he:∃u,hcell h a'=some u):∃u,hcell (h.put a v) a'=some u:=by
  obtain ⟨u,hu⟩:=he
  obtain ⟨c,t,fr,hb,hsp,hc⟩:=zno hu
  unfold Hp.put
  split
  · rename_i c' e' fr' hb'
    unfold hcell Hp.set
    by_cases hbl:a'.block=a.block
    · rw [hbl] at hb
      rw [hb] at hb'
      cases hb'
      simp only [hbl,if_true,hsp,Option.isSome_none,Bool.false_eq_true,if_false]
      split
      · exact ⟨u,hc⟩
      · rw [Array.getElem?_setIfInBounds]
        split
        · rename_i hoff
          have:a'.off<c.size:=by
            rcases Nat.lt_or_ge a'.off c.size with h | h
            · exact h
            · rw [Array.getElem?_eq_none h] at hc;cases hc
          rw [if_pos (by omega)]
          exact ⟨v,rfl⟩
        · exact ⟨u,hc⟩
    · simp only [if_neg hbl,hb,hsp]
      exact ⟨u,by simpa using hc⟩
  · exact ⟨u,hu⟩
theorem zzx1 (h:Hp) (a a':Addr) (v:Value):hfroz (h.put a v) a'=hfroz h a':=by
  unfold Hp.put
  split
  · rename_i c e fr hb
    unfold hfroz Hp.set
    by_cases hbl:a'.block=a.block
    · simp only [hbl,if_true,hb]
    · simp only [if_neg hbl]
  · rfl
theorem zgc1 {h:Hp} {a:Addr}:∀ {n:Nat},StOk h a n→∀i,i<n→(∃v,hcell h (a.add i)=some v)∧hfroz h (a.add i)=false
  | 0,_,i,hi=>by omega
  | n+1,hs,i,hi=>by
    rcases Nat.lt_or_ge i n with h | h
    · exact zgc1 hs.1 i h
    · have:i=n:=by omega
      subst this
      exact hs.2
theorem zha {a:Addr}:∀(cs:List Value) (i:Nat) (h:Hp) (w:World),Sub h w→zcz cs=true→
    (∀j,j<cs.length→(∃v,hcell h (a.add (i+j))=some v)∧hfroz h (a.add (i+j))=false)→
    ∃w',(storeCells a cs i).run P w=.ok () w'∧Step h (putL h a cs i) w w'
  | [],i,h,w,hs,_,_=>⟨w,rfl,.refl hs⟩
  | v::cs,i,h,w,hs,hok,hc=>by
    obtain ⟨⟨v0,h0⟩,hf⟩:=hc 0 (by simp)
    rw [Nat.add_zero] at h0 hf
    have hst:=zve1 (v:=v) hs h0
    have hok':zcz cs=true∧v.oneCell'=true:=by
      cases v<;>simp only [zcz] at hok<;>first | exact ⟨hok,rfl⟩ | cases hok
    obtain ⟨w',hr,hst'⟩:=zha cs (i+1) (h.put (a.add i) v) (w.setCell (a.add i) v) hst.sub hok'.1 (fun j hj=>by
      have:=hc (j+1) (by simp;omega)
      rw [show i+1+j=i+(j+1) from by omega]
      exact ⟨zzw1 this.1,by rw [zzx1];exact this.2⟩)
    refine ⟨w',?_,hst.trans hst'⟩
    simp only [storeCells,Sem.run_bind]
    have hst1:(store (a.add i) v).run P w=.ok () (w.setCell (a.add i) v):=by
      have hcl:=zqu hs h0
      obtain ⟨c,t,fr,hb,_,_⟩:=zno h0
      have hfr:w.frozen? (a.add i)=false:=by rw [zjm1 hs hb];exact hf
      have hv:=hok'.2
      cases v<;>first
        | (simp [Value.oneCell'] at hv;done)
        | simp only [store,Sem.run,hcl,hfr,Bool.false_eq_true,if_false]
    rw [hst1]
    simp only [Result.andThen_ok]
    exact hr
theorem zzy1 (ok:tb.Ok P) {t:Nat} {x y:Operand} (hop:o.op=.store t x y) (hv:match ev s ch x,ev s ch y with
    | some (.v (.pointer (some a))),some (.v v)=>match ch,tb.ty t with
      | [],some e=>cond (Nat.beq (zad v).length e.size) (cond (zcz (zad v)) (StW h a (zad v) fun h'=>K (.v (.tuple #[])) h') False) False
      | _,_=>False
    | _,_=>False):EffOk P o ch s h K:=by
  split at hv
  · rename_i a v hea hev
    split at hv
    · rename_i e he
      cases h1:Nat.beq (zad v).length e.size with
      | false=>simp [h1] at hv
      | true=>
        cases h2:zcz (zad v) with
        | false=>simp [h1,h2] at hv
        | true=>
          simp only [h1,h2,cond_true] at hv
          refine ⟨fun hh β act w ho hs next Q hn=> ?_,fun hn=>absurd (zbn s) hn⟩
          have hx:act.eval x=_:=ev_ok (ho x (by simp [hop,Op.operands])) hh hea
          have hy:act.eval y=_:=ev_ok (ho y (by simp [hop,Op.operands])) hh hev
          obtain ⟨w',hr,hst⟩:=zha (P:=P) (zad v) 0 h w hs h2 (fun j hj=>by simpa using zgc1 hv.1 j hj)
          have hsz:=run_sizeOf' ok he w
          have hlen:v.cells.size=e.size:=by rw [←Array.length_toList,zbr];exact Nat.eq_of_beq_eq_true h1
          unfold Oper.wp
          have hrun:(execOp act.eval o).run P w=.ok .skip w':=by
            simp only [execOp,hop,hx,hy,LVal,Instr.storeAt,Instr.sureAddr,Sem.run_bind,Sem.run_pure,Result.andThen_ok,storeVar,hsz,hlen,ne_eq,not_true,if_false,zbr]
            have:(if False then (stuck "storeVar: the value has not the size of the variable" :Sem Unit) else pure PUnit.unit).run P w=.ok () w:=rfl
            first | rw [this] | skip
            simp only [hr,Result.andThen_ok]
          rw [hrun,Oper.upon_skip]
          exact hn _ _ _ hv.2 hst
    · exact hv.elim
  · exact hv.elim
theorem zdk {e:TypeId} {cs:Array Value} {w:World}:(newRow e cs).run P w=.ok ⟨w.heap.size,0,none⟩ {w with heap:=w.heap.push (.cells cs e)}:=by
  simp [newRow]
theorem zou1 {cs:List Value} {K:Addr→Hp→Prop} {t:Nat} {w:World} (hs:Sub h w) (hk:NewW cs K h):
    ∃h',K ⟨w.heap.size,0,none⟩ h'∧Step h h' w {w with heap:=w.heap.push (.cells cs.toArray t)}:=by
  obtain ⟨hn,hst⟩:=zur hs (.cells cs.toArray t)
  exact ⟨_,hk _ t hn,hst⟩
theorem zzz1 (ok:tb.Ok P) {t:Nat} (hop:o.op=.alloc t) (hv:match tb.ty t with
    | some e=>EffC (cnd s ch) (NewW (zad e.zero)) (fun a h'=>K (.v (.pointer (some a))) h') h
    | none=>False):EffOk P o ch s h K:=by
  split at hv
  · rename_i e he
    refine zfn (f:=fun a=>.pointer (some a)) hv fun hh β ρ w ho hs K hk=> ?_
    obtain ⟨h',hk',hst⟩:=zou1 (t:=t) hs hk
    refine ⟨_,h',_,?_,hk',hst⟩
    have e2:(zad e.zero).toArray=e.zero.cells:=by apply Array.ext';simp [zbr]
    rw [e2]
    simp [execOp,hop,Instr.alloc,run_zeroValue' ok he,newVar,zdk]
  · exact hv.elim
theorem zgk2 {t:Nat} {x:Operand} (hop:o.op=.box t x) (hv:onV (ev s ch x) fun v=>EffC (cnd s ch) (NewW (zad v)) (fun a h'=>K (.v (.pointer (some a))) h') h):
    EffOk P o ch s h K:=by
  obtain ⟨v,hev,hv'⟩:=zbh hv
  refine zfn (f:=fun a=>.pointer (some a)) hv' fun hh β ρ w ho hs K hk=> ?_
  obtain ⟨h',hk',hst⟩:=zou1 (t:=t) hs hk
  refine ⟨_,h',_,?_,hk',hst⟩
  have hx:=ev_ok (ho x (by simp [hop,Op.operands])) hh hev
  have e2:(zad v).toArray=v.cells:=by apply Array.ext';simp [zbr]
  rw [e2]
  simp [execOp,hop,hx,LVal,Instr.box,newVar,zdk]
theorem zwp {α:Type} (l:List α):∀n,(repL l n).length=n*l.length
  | 0=>by simp [repL]
  | n+1=>by simp [repL,zwp l n,Nat.add_mul,Nat.add_comm]
theorem zvx1 (l:List Value):∀n i,i<n*l.length→(repL l n)[i]?=l[i%l.length]?
  | 0,i,h=>by simp at h
  | n+1,i,h=>by
    simp only [repL]
    rcases Nat.lt_or_ge i l.length with hi | hi
    · rw [List.getElem?_append_left hi,Nat.mod_eq_of_lt hi]
    · rw [List.getElem?_append_right hi,zvx1 l n (i-l.length) (by rw [Nat.add_mul] at h;omega)]
      congr 1
      rw [←Nat.mod_eq_sub_mod hi]
theorem zkc1 (z:List Value) (n size:Nat) (hz:z.length=size):((Array.range (n*size)).map (fun i=>z.toArray[i%z.toArray.size]!))=(repL z n).toArray:=by
  apply Array.ext'
  apply List.ext_getElem?
  intro i
  rcases Nat.lt_or_ge i (n*size) with hi | hi
  · have h1:(repL z n)[i]?=z[i%z.length]?:=zvx1 z n i (by rw [hz];exact hi)
    have hpos:0<size:=by
      rcases Nat.eq_zero_or_pos size with h | h
      · subst h;simp at hi
      · exact h
    have hlt:i%z.length<z.length:=Nat.mod_lt _ (by omega)
    simp only [List.getElem?_toArray,h1]
    simp [hi,List.getElem?_eq_getElem hlt]
  · have h1:(repL z n).length≤i:=by rw [zwp,hz];exact hi
    simp [List.getElem?_eq_none h1,Nat.not_lt.2 hi]
theorem zlz1 (ok:tb.Ok P) {t len:Nat} {parts:Array (Nat×Operand)} (hop:o.op=.buildSlice t len parts) (hv:match pairs s ch parts.toList,elemS tb t with
    | some ps,some e=>cond (Nat.ble (len*e.size) 16777216) (match fillA e.size (repL (zad e.zero) len) ps with
      | some cs=>EffC (cnd s ch) (NewW cs) (fun a h'=>K (.v (.slice (some a) len len)) h') h
      | none=>False) False
    | _,_=>False):EffOk P o ch s h K:=by
  split at hv
  · rename_i ps e hps hel
    obtain ⟨y,u,hy,hu,hg⟩:=zfm hel
    cases h1:Nat.ble (len*e.size) 16777216 with
    | false=>simp [h1] at hv
    | true=>
      simp only [h1,cond_true] at hv
      have hle:=Nat.le_of_ble_eq_true h1
      split at hv
      · rename_i cs hcs
        refine zfn (f:=fun a=>.slice (some a) len len) hv fun hh β ρ w ho hs K hk=> ?_
        obtain ⟨h',hk',hst⟩:=zou1 (t:=u) hs hk
        refine ⟨_,h',_,?_,hk',hst⟩
        have hparts:(parts.map fun (i,x)=>(i,ρ x)).toList=ps:=by
          have:=zoq1 (β:=β) (ρ:=ρ) hh hps fun x hx=>ho x (by simp [hop,Op.operands];simpa using hx)
          simpa using this
        have hun:=run_underlying' ok hy w
        rw [hu] at hun
        have hsz:=run_sizeOf' ok hg w
        have hz:=run_zeroValue' ok hg w
        have hzl:=ok.zlen u e hg
        have hfill:=zot1 hcs
        have e2:e.zero.cells=(zad e.zero).toArray:=by apply Array.ext';simp [zbr]
        simp only [execOp,hop,Instr.buildSlice,Sem.run_bind,hun,Result.andThen_ok,hsz,hparts]
        rw [if_neg (by omega)]
        by_cases h0:len*e.size=0
        · have hr0:repL (zad e.zero) len=[]:=by
            apply List.length_eq_zero_iff.1
            rw [zwp,hzl];exact h0
          rw [hr0] at hfill
          have e3:(Array.map (fun x=>(#[]:Array Value)[x%(#[]:Array Value).size]!) (Array.range (len*e.size)))=([]:List Value).toArray:=by rw [h0];simp
          simp only [h0,if_true,Sem.run_pure,Result.andThen_ok,Sem.run_bind]
          rw [h0] at e3
          simp only [e3,hfill,Sem.run_bind,zdk,Result.andThen_ok,Sem.run_pure]
        · have e3:=zkc1 (zad e.zero) len e.size hzl
          simp only [h0,if_false,Sem.run_bind,hz,Result.andThen_ok,Sem.run_pure,e2]
          simp only [e3,hfill,Sem.run_bind,zdk,Result.andThen_ok,Sem.run_pure]
      · exact hv.elim
  · exact hv.elim
end
end Lf

namespace Lf
open Go
section
variable {P:Program} {tb:Tb} {o:Oper} {ch:Chain} {s:St} {h:Hp} {K:LV→Hp→Prop}
theorem ziz1 {base:Option Addr} {n:Nat} {cs:List Value} {w:World} (hs:Sub h w) (hr:zhf1 h base n cs) {m c:Nat} {size:Nat} (hn:n=m*size):
    (Builtin.firstCells size m (.slice base m c)).run P w=.ok cs.toArray w:=by
  obtain ⟨hl,hc⟩:=hr
  subst hn
  cases base with
  | none=>
    rcases hc with h0 | ⟨a,ha,_⟩
    · have:cs=[]:=List.length_eq_zero_iff.1 (by omega)
      subst this
      rfl
    · cases ha
  | some a=>
    have hld:∀j v,cs[j]?=some v→w.cell? (a.add j)=some v:=by
      intro j v hj
      rcases hc with h0 | ⟨a',ha,hld⟩
      · have:cs=[]:=List.length_eq_zero_iff.1 (by omega)
        subst this;simp at hj
      · cases ha;exact zqu hs (hld j v hj)
    simp only [Builtin.firstCells]
    rw [←hl]
    exact zwl hld
theorem zkd1 {need cap:Nat} (h:cap<need):Builtin.nextslicecap need cap≤2*need:=by
  unfold Builtin.nextslicecap
  split
  · omega
  · split
    · omega
    · have key:∀r c,c<2*need→(c<need→256≤c)→Builtin.growBy need r c≤2*need:=by
        intro r
        induction r with
        | zero=>intro c hc _;simp only [Builtin.growBy];omega
        | succ r ih=>
          intro c hc h256
          simp only [Builtin.growBy]
          split
          · omega
          · rename_i hlt
            have:=h256 (by omega)
            exact ih _ (by omega) (by omega)
      exact key 4 cap (by omega) (by omega)
theorem zaf1 (z:List Value):∀n,zbu z n=repL z n
  | 0=>rfl
  | n+1=>by simp only [zbu,List.replicate_succ,List.flatten_cons,repL];rw [←zaf1 z n,zbu]
theorem zos (z:Array Value) (n:Nat):Builtin.zeroCells z n=(zbu z.toList n).toArray:=by
  rw [zaf1]
  have:=zkc1 z.toList n z.size (by simp)
  unfold Builtin.zeroCells
  rw [←this]
theorem zaa2 :IntKind.i64.max=9223372036854775807:=by decide
theorem zml1 (ok:tb.Ok P) {t t' u rt n:Nat} {y e e':Ty} {l:Sl} {x:Value} {new:List Value} {K:Sl→Hp→Prop} {w:World}
    (hy:tb.ty t=some y) (hu:y.und=.slice u) (hg:tb.ty u=some e) (hy':tb.ty t'=some e') (hnint:∀k,e'.und≠ .int k)
    (hs:Sub h w) (ha:zba1 e.size e.bytes (zad e.zero) l n new K h) (hlen:∀w:World,(Builtin.lenOf x).run P w=.ok n w)
    (hnew:∀w:World,Sub h w→(Builtin.firstCells e.size n x).run P w=.ok new.toArray w) (hnl:new.length=n*e.size):
    ∃r h' w',(Builtin.append_ #[t,t'] rt #[.slice l.base l.len l.cap,x]).run P w=.ok (.slice r.base r.len r.cap) w'∧K r h'∧Step h h' w w':=by
  obtain ⟨old,hold,⟨hbn,hbd⟩,hokc,hin,hgrow⟩:=ha
  have h1:=fun w=>run_underlying' ok hy w
  have h2:=fun w=>run_underlying' ok hy' w
  have h3:=fun w=>run_sizeOf' ok hg w
  have h5:=fun w=>run_zeroValue' ok hg w
  obtain ⟨i,hi,_,hib,_⟩:=ok.info u e hg
  have h4:∀w,(typeInfo u).run P w=.ok i w:=fun w=>by simp [typeInfo,hi]
  have hz:(match e'.und with | .int _=>true | _=>false)=false:=by
    generalize e'.und=d at hnint
    cases d<;>first | rfl | exact absurd rfl (hnint _)
  simp only [hu] at h1
  by_cases hle:l.len+n≤l.cap
  · obtain ⟨hst,hk⟩:=hin hle
    cases hb:l.base with
    | none=>
      refine ⟨_,_,w,?_,hk,?_⟩
      · simp [Builtin.append_,h1,h2,h3,hz,hlen,hle,hnew w hs,hb]
      · simp only [putO,hb];exact .refl hs
    | some a=>
      obtain ⟨w',hr,hstep⟩:=zha (P:=P) new 0 h w hs hokc (a:=a.add (l.len*e.size)) (fun j hj=>by
        have:=zgc1 (hst a hb) j (by omega)
        simpa using this)
      refine ⟨_,_,w',?_,hk,?_⟩
      · simp [Builtin.append_,h1,h2,h3,hz,hlen,hle,hnew w hs,hb,hr]
      · simp only [putO,hb];exact hstep
  · have hlt:l.cap<l.len+n:=by omega
    have hcap:=zkd1 hlt
    have hby:¬(Builtin.nextslicecap (l.len+n) l.cap*e.bytes>281474976710656):=by
      have:Builtin.nextslicecap (l.len+n) l.cap*e.bytes≤2*(l.len+n)*e.bytes:=Nat.mul_le_mul_right _ hcap
      have h':2*(l.len+n)*e.bytes=2*((l.len+n)*e.bytes):=by rw [Nat.mul_assoc]
      omega
    have hmax:¬(((l.len+n:Nat):Int)>IntKind.i64.max):=by rw [zaa2];omega
    have hw1:Sub h {w with drawn:=w.drawn+1}:=hs
    have hold':∀w:World,Sub h w→(Builtin.firstCells e.size l.len (.slice l.base l.len l.cap)).run P w=.ok old.toArray w:=fun w hs=>ziz1 hs hold rfl
    let c:=(Question.appendCap (l.len+n) l.cap u).cut (w.tape w.drawn (.appendCap (l.len+n) l.cap u))
    have hc:l.len+n≤c:=by simp only [c,Question.cut];omega
    have hrow:(old.toArray++new.toArray++Builtin.zeroCells e.zero.cells (c-(l.len+n)))=(old++new++zbu (zad e.zero) (c-(l.len+n))).toArray:=by
      rw [zos,zbr];simp
    obtain ⟨hn,hst⟩:=zur hw1 (.cells (old++new++zbu (zad e.zero) (c-(l.len+n))).toArray u)
    refine ⟨_,_,_,?_,hgrow hlt c _ u hc hn,hst.drew⟩
    have hmax':¬(9223372036854775807<(l.len:Int)+(n:Int)):=by omega
    have hw2:Sub h w.drew:=hs
    have hby':¬(281474976710656<Builtin.nextslicecap (l.len+n) l.cap*i.bytes):=by rw [hib];omega
    have hrow':old.toArray++(new.toArray++Builtin.zeroCells e.zero.cells (c-(l.len+n)))=(old++(new++zbu (zad e.zero) (c-(l.len+n)))).toArray:=by
      rw [←Array.append_assoc,hrow,List.append_assoc]
    simp [Builtin.append_,h1,h2,h3,h4,h5,hz,hlen,Nat.not_le.2 hlt,hmax',hby',Question.forced,hold' _ hw2,hnew _ hw2,zdk]
    refine ⟨rfl,?_⟩
    rw [←hrow']
    rfl
theorem zbf1 (z:List Value) (n:Nat):(zbu z n).length=n*z.length:=by simp [zbu]
theorem ztg1 (ok:tb.Ok P) {t t' u rt:Nat} {m:Int} {y e e':Ty} {l:Sl} {K:Sl→Hp→Prop} {w:World}
    (hy:tb.ty t=some y) (hu:y.und=.slice u) (hg:tb.ty u=some e) (hy':tb.ty t'=some e') (hint:e'.und=.int .i64)
    (hs:Sub h w) (hm:0≤m) (ha:zba1 e.size e.bytes (zad e.zero) l m.toNat (zbu (zad e.zero) m.toNat) K h):
    ∃r h' w',(Builtin.append_ #[t,t'] rt #[.slice l.base l.len l.cap,.int .i64 m]).run P w=.ok (.slice r.base r.len r.cap) w'∧K r h'∧Step h h' w w':=by
  obtain ⟨old,hold,⟨hbn,hbd⟩,hokc,hin,hgrow⟩:=ha
  have h1:=fun w=>run_underlying' ok hy w
  have h2:=fun w=>run_underlying' ok hy' w
  have h3:=fun w=>run_sizeOf' ok hg w
  have h5:=fun w=>run_zeroValue' ok hg w
  obtain ⟨i,hi,_,hib,_⟩:=ok.info u e hg
  have h4:∀w,(typeInfo u).run P w=.ok i w:=fun w=>by simp [typeInfo,hi]
  simp only [hu] at h1
  simp only [hint] at h2
  have hzl:=ok.zlen u e hg
  have hwm:IntKind.i64.wrap m=m:=by
    unfold IntKind.wrap
    simp only [IntKind.signed,IntKind.bits]
    first | omega | (simp;omega)
  have hneg:¬m<0:=by omega
  obtain ⟨n,rfl⟩:=Int.eq_ofNat_of_zero_le hm
  have hmn:((n:Int)).toNat=n:=by omega
  rw [hmn] at hbn hbd hokc hin hgrow
  have hbig:¬((n:Int)*(i.bytes:Int)>281474976710656):=by
    rw [hib]
    have:n*e.bytes≤(l.len+n)*e.bytes:=Nat.mul_le_mul_right _ (by omega)
    have:n*e.bytes≤140737488355328:=by omega
    have h':((n:Int)*(e.bytes:Int))=((n*e.bytes:Nat):Int):=by simp
    rw [h']
    omega
  have hbig':¬(281474976710656<(n:Int)*(i.bytes:Int)):=by omega
  have happ:∀w:World,(if n*e.size=0 then (pure #[]:Sem (Array Value)) else do pure (Builtin.zeroCells (←zeroValue u).cells n)).run P w=.ok (zbu (zad e.zero) n).toArray w:=by
    intro w
    by_cases h0:n*e.size=0
    · have:zbu (zad e.zero) n=[]:=List.length_eq_zero_iff.1 (by rw [zbf1,hzl];exact h0)
      rw [if_pos h0,this]
      rfl
    · rw [if_neg h0]
      simp only [Sem.run_bind,h5,Result.andThen_ok,Sem.run_pure]
      congr 1
      rw [zos,zbr]
  have hasI:∀w:World,(asInt (.int .i64 (n:Int))).run P w=.ok (n:Int) w:=fun w=>rfl
  have hnn:¬(n:Int)<0:=by omega
  have hzc:Builtin.zeroCells e.zero.cells n=(zbu (zad e.zero) n).toArray:=by rw [zos,zbr]
  have hz0:n*e.size=0→zbu (zad e.zero) n=[]:=fun h0=>List.length_eq_zero_iff.1 (by rw [zbf1,hzl];exact h0)
  by_cases hle:l.len+n≤l.cap
  · obtain ⟨hst,hk⟩:=hin hle
    cases hb:l.base with
    | none=>
      refine ⟨_,_,w,?_,hk,?_⟩
      · by_cases h0:n*e.size=0
        · simp [Builtin.append_,h1,h2,h3,h4,hasI,hwm,hnn,hbig',hle,h0,hb]
        · simp [Builtin.append_,h1,h2,h3,h4,h5,hasI,hwm,hnn,hbig',hle,h0,hb]
      · simp only [putO,hb];exact .refl hs
    | some a=>
      obtain ⟨w',hr,hstep⟩:=zha (P:=P) (zbu (zad e.zero) n) 0 h w hs hokc (a:=a.add (l.len*e.size)) (fun j hj=>by
        have:=zgc1 (hst a hb) j (by rw [zbf1,hzl] at hj;exact hj)
        simpa using this)
      refine ⟨_,_,w',?_,hk,?_⟩
      · by_cases h0:n*e.size=0
        · rw [hz0 h0] at hr
          simp [Builtin.append_,h1,h2,h3,h4,hasI,hwm,hnn,hbig',hle,h0,hb,hr]
        · simp [Builtin.append_,h1,h2,h3,h4,h5,hasI,hwm,hnn,hbig',hle,h0,hzc,hb,hr]
      · simp only [putO,hb];exact hstep
  · have hlt:l.cap<l.len+n:=by omega
    have hcap:=zkd1 hlt
    have hby:¬(Builtin.nextslicecap (l.len+n) l.cap*e.bytes>281474976710656):=by
      have:Builtin.nextslicecap (l.len+n) l.cap*e.bytes≤2*(l.len+n)*e.bytes:=Nat.mul_le_mul_right _ hcap
      have h':2*(l.len+n)*e.bytes=2*((l.len+n)*e.bytes):=by rw [Nat.mul_assoc]
      omega
    have hw1:Sub h {w with drawn:=w.drawn+1}:=hs
    have hold':∀w:World,Sub h w→(Builtin.firstCells e.size l.len (.slice l.base l.len l.cap)).run P w=.ok old.toArray w:=fun w hs=>ziz1 hs hold rfl
    let c:=(Question.appendCap (l.len+n) l.cap u).cut (w.tape w.drawn (.appendCap (l.len+n) l.cap u))
    have hc:l.len+n≤c:=by simp only [c,Question.cut];omega
    have hrow:(old.toArray++(zbu (zad e.zero) n).toArray++Builtin.zeroCells e.zero.cells (c-(l.len+n)))=(old++zbu (zad e.zero) n++zbu (zad e.zero) (c-(l.len+n))).toArray:=by
      rw [zos,zbr];simp
    obtain ⟨hn,hst⟩:=zur hw1 (.cells (old++zbu (zad e.zero) n++zbu (zad e.zero) (c-(l.len+n))).toArray u)
    refine ⟨_,_,_,?_,hgrow hlt c _ u hc hn,hst.drew⟩
    have hmax':¬(9223372036854775807<(l.len:Int)+(n:Int)):=by omega
    have hw2:Sub h w.drew:=hs
    have hby':¬(281474976710656<Builtin.nextslicecap (l.len+n) l.cap*i.bytes):=by rw [hib];omega
    have hrow':old.toArray++((zbu (zad e.zero) n).toArray++Builtin.zeroCells e.zero.cells (c-(l.len+n)))=(old++(zbu (zad e.zero) n++zbu (zad e.zero) (c-(l.len+n)))).toArray:=by
      rw [←Array.append_assoc,hrow,List.append_assoc]
    have hzc':∀k,Builtin.zeroCells e.zero.cells k=(zbu (zad e.zero) k).toArray:=fun k=>by rw [zos,zbr]
    by_cases h0:n*e.size=0
    · simp only [hz0 h0] at hrow' ⊢
      simp [Builtin.append_,h1,h2,h3,h4,h5,hasI,hwm,hnn,hbig',Nat.not_le.2 hlt,zaa2,hmax',hby',Question.forced,hold' _ hw2,h0,zdk,hzc']
      exact ⟨rfl,rfl⟩
    · simp [Builtin.append_,h1,h2,h3,h4,h5,hasI,hwm,hnn,hbig',Nat.not_le.2 hlt,zaa2,hmax',hby',Question.forced,hold' _ hw2,h0,zdk,hzc']
      exact ⟨rfl,rfl⟩
theorem zxt1 (ok:tb.Ok P) {xs:Array Operand} {ts:Array TypeId} (hop:o.op=.call {callee:=.builtin .append,args:=xs,argTypes:=ts}) {vs:List Value} (hvs:vals s ch xs.toList=some vs)
    (hv:appW tb (cnd s ch) ts.toList vs h K):EffOk P o ch s h K:=by
  have hargs:holds s ch→∀(β:Nat→Nat) (ρ:Operand→Value),(∀x∈o.op.operands,Opnd β s ρ x)→xs.map ρ=vs.toArray:=by
    intro hh β ρ ho
    have:=zwn (β:=β) (ρ:=ρ) hh hvs fun x hx=>ho x (by simp [hop,Op.operands,Call.operands];simpa using hx)
    apply Array.ext';simpa using this
  unfold appW at hv
  split at hv
  · rename_i p n c p' n' c' t t' hts
    have hts':ts= #[t,t']:=by apply Array.ext';simpa using hts
    split at hv
    · rename_i e e' hel hel'
      obtain ⟨y,u,hy,hu,hg⟩:=zfm hel
      obtain ⟨y',u',hy',hu',hg'⟩:=zfm hel'
      refine zfn (f:=fun (l:Sl)=>.slice l.base l.len l.cap) hv fun hh β ρ w ho hs K hk=> ?_
      obtain ⟨new,hnew,happ⟩:=hk
      obtain ⟨r,h',w',hr,hk',hst⟩:=zml1 (P:=P) (rt:=o.type) (x:=.slice p' n' c') (l:=⟨p,n,c⟩) ok hy hu hg hy' (by rw [hu'];intro k h;cases h) hs happ (fun w=>rfl)
        (fun w hs=>ziz1 hs hnew rfl) hnew.1
      refine ⟨r,h',w',?_,hk',hst⟩
      simp only [execOp,hop,resolve,invoke,builtin,Sem.run_bind,Sem.run_pure,Result.andThen_ok,hargs hh β ρ ho,hts',hr]
    · exact hv.elim
  · rename_i p n c x t t' hts
    have hts':ts= #[t,t']:=by apply Array.ext';simpa using hts
    split at hv
    · rename_i e e' hel he'
      obtain ⟨y,u,hy,hu,hg⟩:=zfm hel
      split at hv
      · rename_i hu8 hstr
        cases hb1:Nat.beq e.bytes 1 with
        | false=>simp [hb1] at hv
        | true=>
          simp only [hb1,cond_true] at hv
          have hb1':=Nat.eq_of_beq_eq_true hb1
          have hsz:e.size=1:=(ok.leaf u e hg (by rw [hu8];rfl)).1
          refine zfn (f:=fun (l:Sl)=>.slice l.base l.len l.cap) hv fun hh β ρ w ho hs K hk=> ?_
          have hz:zad e.zero=[.int .u8 0]:=ok.zero8 u e hg hu8
          have happ:zba1 e.size e.bytes (zad e.zero) ⟨p,n,c⟩ x.size (zeu1 x) K h:=by rw [hsz,hb1',hz];exact hk
          obtain ⟨r,h',w',hr,hk',hst⟩:=zml1 (P:=P) (rt:=o.type) (x:=.string x) (l:=⟨p,n,c⟩) ok hy hu hg he' (by rw [hstr];intro k h;cases h) hs happ (fun w=>rfl)
            (fun w hs=>by
              have:(x.extract 0 x.size)=x:=by simp
              simp only [Builtin.firstCells,this,Sem.run_pure]
              congr 1
              apply Array.ext'
              simp [zeu1]) (by simp [zeu1,hsz])
          refine ⟨r,h',w',?_,hk',hst⟩
          simp only [execOp,hop,resolve,invoke,builtin,Sem.run_bind,Sem.run_pure,Result.andThen_ok,hargs hh β ρ ho,hts',hr]
      · exact hv.elim
    · exact hv.elim
  · rename_i p n c m t t' hts
    have hts':ts= #[t,t']:=by apply Array.ext';simpa using hts
    split at hv
    · rename_i e e' hel he'
      obtain ⟨y,u,hy,hu,hg⟩:=zfm hel
      split at hv
      · rename_i hint
        refine zfn (f:=fun (l:Sl)=>.slice l.base l.len l.cap) hv fun hh β ρ w ho hs K hk=> ?_
        obtain ⟨hm,happ⟩:=hk
        obtain ⟨r,h',w',hr,hk',hst⟩:=ztg1 (P:=P) (rt:=o.type) (l:=⟨p,n,c⟩) ok hy hu hg he' hint hs hm happ
        refine ⟨r,h',w',?_,hk',hst⟩
        simp only [execOp,hop,resolve,invoke,builtin,Sem.run_bind,Sem.run_pure,Result.andThen_ok,hargs hh β ρ ho,hts',hr]
      · exact hv.elim
    · exact hv.elim
  · exact hv.elim
theorem zdn2 (ok:tb.Ok P) {xs:Array Operand} {ts:Array TypeId} (hop:o.op=.call {callee:=.builtin .copy,args:=xs,argTypes:=ts}) {p p':Option Addr} {n n' c c':Nat} {t t':Nat}
    (hvs:vals s ch xs.toList=some [.slice p n c,.slice p' n' c']) (hts:ts.toList=[t,t']) {e:Ty} (hel:elemS tb t=some e)
    (hv:EffC (cnd s ch) (CopyW e.size ⟨p,n,c⟩ ⟨p',n',c'⟩) (fun k h'=>K (.v (.int .i64 k)) h') h):EffOk P o ch s h K:=by
  have hargs:holds s ch→∀(β:Nat→Nat) (ρ:Operand→Value),(∀x∈o.op.operands,Opnd β s ρ x)→xs.map ρ= #[.slice p n c,.slice p' n' c']:=by
    intro hh β ρ ho
    have:=zwn (β:=β) (ρ:=ρ) hh hvs fun x hx=>ho x (by simp [hop,Op.operands,Call.operands];simpa using hx)
    apply Array.ext';simpa using this
  have hts':ts= #[t,t']:=by apply Array.ext';simpa using hts
  obtain ⟨y,u,hy,hu,hg⟩:=zfm hel
  refine zfn (f:=fun (k:Int)=>.int .i64 k) hv fun hh β ρ w ho hs K hk=> ?_
  obtain ⟨new,hnew,hokc,hst,hk'⟩:=hk
  have h1:=fun w=>run_underlying' ok hy w
  have h3:=fun w=>run_sizeOf' ok hg w
  rw [hu] at h1
  have hmin:Nat.min n' n=min n' n:=rfl
  have hrd:(Builtin.firstCells e.size (min n' n) (.slice p' n' c')).run P w=.ok new.toArray w:=by
    have:=ziz1 (P:=P) (m:=min n' n) (c:=c') hs hnew rfl
    cases p'<;>exact this
  cases hp:p with
  | none=>
    subst hp
    refine ⟨_,_,w,?_,hk',by simp only [putO];exact .refl hs⟩
    simp only [execOp,hop,resolve,invoke,builtin,Sem.run_bind,Sem.run_pure,Result.andThen_ok,hargs hh β ρ ho,hts']
    simp [Builtin.copy_,h1,h3,Builtin.lenOf,hmin,hrd,goInt]
  | some a=>
    subst hp
    obtain ⟨w',hr,hstep⟩:=zha (P:=P) (a:=a) new 0 h w hs hokc (fun j hj=>by
      have:=zgc1 (hst a rfl) j (by rw [hnew.1] at hj;exact hj)
      simpa using this)
    refine ⟨_,_,w',?_,hk',by simp only [putO,show a.add 0=a from by simp [Addr.add]];exact hstep⟩
    simp only [execOp,hop,resolve,invoke,builtin,Sem.run_bind,Sem.run_pure,Result.andThen_ok,hargs hh β ρ ho,hts']
    simp [Builtin.copy_,h1,h3,Builtin.lenOf,hmin,hrd,goInt,hr]
theorem zdo2 (ok:tb.Ok P) {t:Nat} {x y:Operand} (hop:o.op=.makeSlice t x y) {m n:Int} {e:Ty} (hex:ev s ch x=some (.v (.int .i64 m))) (hey:ev s ch y=some (.v (.int .i64 n)))
    (hel:elemS tb t=some e) (hv:EffC (cnd s ch) (MakeW e.bytes (zad e.zero) m n) (fun l h'=>K (.v (.slice l.base l.len l.cap)) h') h):EffOk P o ch s h K:=by
  obtain ⟨y',u,hy,hu,hg⟩:=zfm hel
  refine zfn (f:=fun (l:Sl)=>.slice l.base l.len l.cap) hv fun hh β ρ w ho hs K hk=> ?_
  obtain ⟨⟨h0,hle,hc1,hc2⟩,hk'⟩:=hk
  have hx:ρ x=_:=ev_ok (ho x (by simp [hop,Op.operands])) hh hex
  have hy2:ρ y=_:=ev_ok (ho y (by simp [hop,Op.operands])) hh hey
  have h1:=run_underlying' ok hy w
  rw [hu] at h1
  have h3:=fun w=>run_sizeOf' ok hg w
  have h5:=fun w=>run_zeroValue' ok hg w
  obtain ⟨i,hi,_,hib,_⟩:=ok.info u e hg
  have h4:∀w,(typeInfo u).run P w=.ok i w:=fun w=>by simp [typeInfo,hi]
  have hzl:=ok.zlen u e hg
  have wm:IntKind.i64.wrap m=m:=by simp [IntKind.wrap,IntKind.bits,IntKind.signed];omega
  have wn:IntKind.i64.wrap n=n:=by simp [IntKind.wrap,IntKind.bits,IntKind.signed];omega
  have hc2':¬((e.bytes:Int)*n>281474976710656):=by
    have e1:((n.toNat*e.bytes:Nat):Int)=(e.bytes:Int)*n:=by
      rw [Int.natCast_mul,Int.toNat_of_nonneg (by omega),Int.mul_comm]
    omega
  obtain ⟨hn,hst⟩:=zur hs (.cells (zbu (zad e.zero) n.toNat).toArray u)
  refine ⟨_,_,_,?_,hk' _ u hn,hst⟩
  have g1:¬n<0:=by omega
  have g2:¬m<0:=by omega
  have g3:¬m>n:=by omega
  have hcond:((n<0 || decide ((e.bytes:Int)*n>2^48)) || decide (m<0) || decide (m>n))=false:=by
    simp [g1,g2,g3];omega
  have hrow:(if n.toNat*e.size=0 then (#[]:Array Value) else e.zero.cells)=e.zero.cells∨n.toNat*e.size=0:=by
    by_cases h:n.toNat*e.size=0
    · exact .inr h
    · exact .inl (by simp [h])
  have hz:(Array.range (n.toNat*e.size)).map (fun i=>e.zero.cells[i%e.zero.cells.size]!)=(zbu (zad e.zero) n.toNat).toArray:=by
    have:=zkc1 (zad e.zero) n.toNat e.size hzl
    rw [zaf1,←this]
    have e2:e.zero.cells=(zad e.zero).toArray:=by apply Array.ext';simp [zbr]
    rw [e2]
  simp only [execOp,hop,hx,hy2,LVal,Instr.makeSlice,Sem.run_bind,h1,Result.andThen_ok,asInt,asIntOf,Sem.run_pure,h4,wm,wn,hib]
  have hb:((n<0 || decide ((e.bytes:Int)*n>2^48)) || decide (m<0) || decide (m>n))=false:=hcond
  simp only [hb,Bool.false_eq_true,if_false,Sem.run_bind,run_askRoom,Result.andThen_ok,h3]
  by_cases h00:n.toNat*e.size=0
  · have hz0:(zbu (zad e.zero) n.toNat).toArray= #[]:=by rw [←hz,h00];simp
    simp [h00,hz0,zdk]
    have:∀g:Nat→Value,Array.map g (Array.range 0)= #[]:=fun g=>by apply Array.ext';simp
    rw [this]
  · simp [h00,h5,zdk,hz]
end
end Lf

namespace Lf
open Go
section
variable {P:Program} {tb:Tb} {o:Oper} {ch:Chain} {s:St} {h:Hp} {K:LV→Hp→Prop}
theorem zth1 {t:Nat} (hop:o.op=.makeMap t none) (hv:EffC (cnd s ch) znj1 (fun m h'=>K (.v (.map m)) h') h):EffOk P o ch s h K:=by
  refine zfn (f:=fun m=>.map m) hv fun hh β ρ w ho hs K hk=> ?_
  obtain ⟨hn,hst⟩:=zur hs (.map #[] 0)
  refine ⟨_,_,_,?_,hk _ hn,hst⟩
  simp [execOp,hop,Instr.makeMap]
theorem zti1 (h:Array Obj) (o:Obj) (g:Obj→Obj):(h.push o).modify h.size g=h.push (g o):=by
  apply Array.ext_getElem?
  intro i
  rw [Array.getElem?_modify]
  by_cases hi:h.size=i
  · subst hi;simp
  · simp only [if_neg hi,Array.getElem?_push,if_neg (Ne.symm hi)]
theorem zab2 (ok:tb.Ok P) {src dst:Nat} {x:Operand} (hop:o.op=.convert src dst x) {b:ByteArray} {e g:Ty} (hex:ev s ch x=some (.v (.string b))) (hsrc:tb.ty src=some e)
    (hel:elemS tb dst=some g) (he:e.und=.string) (hg8:g.und=.int .u8)
    (hv:EffC (cnd s ch) (zfp2 b) (fun l h'=>K (.v (.slice l.base l.len l.cap)) h') h):EffOk P o ch s h K:=by
  obtain ⟨y,u,hy,hu,hg⟩:=zfm hel
  refine zfn (f:=fun (l:Sl)=>.slice l.base l.len l.cap) hv fun hh β ρ w ho hs K hk=> ?_
  have hx:ρ x=_:=ev_ok (ho x (by simp [hop,Op.operands])) hh hex
  have h1:=fun w=>run_underlying' ok hsrc w
  have h2:=fun w=>run_underlying' ok hy w
  have h3:=fun w=>run_underlying' ok hg w
  rw [he] at h1;rw [hu] at h2;rw [hg8] at h3
  let c:=(Question.appendCap b.size 0 u).cut (w.tape w.drawn (.appendCap b.size 0 u))
  have hc:b.size≤c:=by simp only [c,Question.cut];omega
  have hw1:Sub h w.drew:=hs
  let cs:=zeu1 b++zbu [.int .u8 0] (c-b.size)
  have hcl:cs.length=c:=by
    have:(zeu1 b).length=b.size:=by simp [zeu1]
    simp only [cs,List.length_append,zaf1,zwp,this];simp;omega
  obtain ⟨hn,hst⟩:=zur hw1 (.cells cs.toArray u (c,c+1))
  refine ⟨_,_,_,?_,hk c _ u hc hn,Step.drew hst⟩
  have harr:(b.data.map fun x=>(.int .u8 x.toNat:Value))++Array.replicate (c-b.size) (.int .u8 0)=cs.toArray:=by
    apply Array.ext'
    simp only [cs,zeu1,zaf1]
    have:∀n,List.replicate n (.int .u8 0:Value)=repL [.int .u8 0] n:=by
      intro n;induction n with
      | zero=>rfl
      | succ n ih=>simp only [List.replicate_succ,repL,ih];rfl
    simp [this]
  simp only [execOp,hop,hx,LVal,convert,Sem.run_bind,h1,h2,h3,Result.andThen_ok,Conv.stringToBytes,run_choose,Question.forced,Bool.false_eq_true,if_false,zdk,Sem.run_pure]
  change _=Result.ok (Next.value (.slice (some ⟨w.heap.size,0,none⟩) b.size c)) _
  rw [show ((Question.appendCap b.size 0 u).cut (w.tape w.drawn (.appendCap b.size 0 u)))=c from rfl,harr]
  have hsh:({w.drew with heap:=w.heap.push (.cells cs.toArray u)}:World).shape? w.heap.size=some (u,c):=by
    simp [World.shape?,hcl]
  have hfz:({w.drew with heap:=w.heap.push (.cells cs.toArray u)}:World).freeze ⟨w.heap.size,c,none⟩ 1={w.drew with heap:=w.heap.push (.cells cs.toArray u (c,c+1))}:=by
    simp only [World.freeze,Nat.one_ne_zero,if_false]
    congr 1
    exact zti1 _ _ _
  have hms:(markStringish ⟨w.heap.size,0,none⟩).run P {w.drew with heap:=w.heap.push (.cells cs.toArray u)}=.ok () {w.drew with heap:=w.heap.push (.cells cs.toArray u (c,c+1))}:=by
    simp only [markStringish,Sem.run_bind,run_shape,Result.andThen_ok,hsh,run_freeze]
    rw [hfz]
  change (((markStringish ⟨w.heap.size,0,none⟩).run P {w.drew with heap:=w.heap.push (.cells cs.toArray u)}).andThen _).andThen _=_
  rw [hms]
  rfl
theorem zac2 (h:Array Obj) (b:Nat) (o:Obj) (g:Obj→Obj) (e:h[b]?=some o):h.modify b g=h.setIfInBounds b (g o):=by
  apply Array.ext_getElem?
  intro i
  rw [Array.getElem?_modify,Array.getElem?_setIfInBounds]
  by_cases hi:b=i
  · subst hi
    have hlt:b<h.size:=(Array.getElem?_eq_some_iff.1 e).1
    rw [if_pos rfl,if_pos rfl,e]
    simp [hlt]
  · rw [if_neg hi,if_neg hi]
theorem zdp2 (ok:tb.Ok P) {src dst:Nat} {x:Operand} (hop:o.op=.convert src dst x) {p:Option Addr} {n c:Nat} {e g:Ty} {u0:Nat} (hex:ev s ch x=some (.v (.slice p n c))) (hsrc:tb.ty src=some e)
    (hel:elemS tb dst=some g) (he:e.und=.slice u0) (hg8:g.und=.int .u8) (hsd:src=dst)
    (hv:EffC (cnd s ch) (MarkW p) (fun _ h'=>K (.v (.slice p n c)) h') h):EffOk P o ch s h K:=by
  obtain ⟨y,u,hy,hu,hg⟩:=zfm hel
  refine zfn (f:=fun (_:Unit)=>.slice p n c) hv fun hh β ρ w ho hs K hk=> ?_
  have hx:ρ x=_:=ev_ok (ho x (by simp [hop,Op.operands])) hh hex
  have h1:=fun w=>run_underlying' ok hsrc w
  have h2:=fun w=>run_underlying' ok hy w
  have h3:=fun w=>run_underlying' ok hg w
  rw [he] at h1;rw [hu] at h2;rw [hg8] at h3
  obtain ⟨b,off,cs,t,rfl,hb,hk⟩:=hk
  have hst:=zaz1 hs hb (o:=.cells cs t (cs.size,cs.size+1))
  refine ⟨_,_,_,?_,hk,hst⟩
  have hbw:w.heap[b]?=some (.cells cs t (0,0)):=hs _ _ hb
  have hfz:w.freeze ⟨b,cs.size,none⟩ 1={w with heap:=w.heap.setIfInBounds b (.cells cs t (cs.size,cs.size+1))}:=by
    simp only [World.freeze,Nat.one_ne_zero,if_false]
    congr 1
    exact zac2 _ _ _ _ hbw
  have hms:(markStringish ⟨b,off,none⟩).run P w=.ok () {w with heap:=w.heap.setIfInBounds b (.cells cs t (cs.size,cs.size+1))}:=by
    have hsh:w.shape? b=some (t,cs.size):=by simp [World.shape?,hbw]
    simp only [markStringish,Sem.run_bind,run_shape,Result.andThen_ok,hsh,run_freeze]
    rw [hfz]
  have hbe:(src==dst)=true:=by rw [hsd];simp
  simp only [execOp,hop,hx,LVal,convert,Sem.run_bind,h1,h2,h3,Result.andThen_ok,hbe,hms,Sem.run_pure]
end
end Lf

namespace Lf
open Go
section
variable {P:Program} {tb:Tb} {o:Oper} {ch:Chain} {s:St} {h:Hp} {K:LV→Hp→Prop}
theorem zov1 {α:Type} {A:(α→Hp→Prop)→Hp→Prop} (he:EffC (cnd s ch) A (fun _ h'=>K (.v (.tuple #[])) h') h)
    (hr:holds s ch→∀(β:Nat→Nat) (ρ:Operand→Value) (w:World),(∀x∈o.op.operands,Opnd β s ρ x)→Sub h w→∀(K:α→Hp→Prop),A K h→
      ∃x h' w',(execOp ρ o).run P w=.ok .skip w'∧K x h'∧Step h h' w w'):EffOk P o ch s h K:=by
  obtain ⟨h1,h2⟩:=zkb1 he
  refine ⟨fun hh β a w ho hs next Q hn=> ?_,fun hn=> ?_⟩
  · obtain ⟨x,h',w',hr,hk,hst⟩:=hr hh β a.eval w ho hs _ (h1 hh)
    unfold Oper.wp
    rw [hr,Oper.upon_skip]
    exact hn _ _ _ hk hst
  · obtain ⟨x,hx⟩:=h2 hn
    exact ⟨_,hx⟩
theorem zvy1 {sh:Shape} {sem:Sem Value} (hv:shE (cnd s ch) P sh sem K h)
    (hx:holds s ch→∀(β:Nat→Nat) (ρ:Operand→Value),(∀x∈o.op.operands,Opnd β s ρ x)→∀(w w':World) (v:Value),sem.run P w=.ok v w'→(execOp ρ o).run P w=.ok (.value v) w'):
    EffOk P o ch s h K:=by
  refine zfn (f:=sh.enc) hv fun hh β ρ w ho hs K hk=> ?_
  obtain ⟨v,w',h',hr,⟨x,hvx,hkx⟩,hst⟩:=ztw sem hs hk
  subst hvx
  exact ⟨x,h',w',hx hh β ρ ho w w' _ hr,hkx,hst⟩
theorem zow1 {t:Nat} {sem:Sem Value} (hv:genE (cnd s ch) P tb t sem K h)
    (hx:holds s ch→∀(β:Nat→Nat) (ρ:Operand→Value),(∀x∈o.op.operands,Opnd β s ρ x)→∀(w w':World) (v:Value),sem.run P w=.ok v w'→(execOp ρ o).run P w=.ok (.value v) w'):
    EffOk P o ch s h K:=by
  unfold genE at hv
  split at hv
  · exact zvy1 hv hx
  · exact hv.elim
theorem zad2 {a b:ByteArray} (h:(a==b)=true):(b==a)=true:=by
  have:a=b:=by
    cases a;cases b
    congr
    exact eq_of_beq h
  subst this
  exact h
theorem zae2 {kd:TypeDesc} {a b:Value} {n:Nat} (hk:zpi kd=true) (h:Instr.sameNow kd a b=some true):Instr.sameBits n b a=true:=by
  cases kd with
  | bool=>
    cases a<;>cases b<;>simp only [Instr.sameNow] at h<;>try (cases h;done)
    injection h with h
    have:∀x y:Bool,(x==y)=true→(y==x)=true:=by decide
    cases n<;>exact this _ _ h
  | int k=>
    cases a<;>cases b<;>simp only [Instr.sameNow] at h<;>try (cases h;done)
    split at h
    · injection h with h
      have hxy:=eq_of_beq h
      subst hxy
      rename_i hkk
      cases n<;>simp_all [Instr.sameBits]
    · cases h
  | string=>
    cases a<;>cases b<;>simp only [Instr.sameNow] at h<;>try (cases h;done)
    injection h with h
    cases n<;>exact zad2 h
  | _=>simp [zpi] at hk
theorem zke1 {kd:TypeDesc} {k:Value}:∀ {es:List MapEntry} {j i:Nat} {u:Value},Instr.findNow kd k es j=some (some (i,u))→
    j≤i∧∃e,es[i-j]?=some e∧e.val=u∧Instr.sameNow kd k e.key=some true
  | [],j,i,u,h=>by simp [Instr.findNow] at h
  | e::es,j,i,u,h=>by
    simp only [Instr.findNow] at h
    split at h
    · rename_i hs
      simp at h
      obtain ⟨rfl,rfl⟩:=h
      exact ⟨Nat.le_refl _,e,by simp,rfl,hs⟩
    · obtain ⟨hle,e',he,hu,hs⟩:=zke1 h
      refine ⟨by omega,e',?_,hu,hs⟩
      rw [show i-j=(i-(j+1))+1 from by omega]
      simpa using he
    · cases h
theorem zbg1 {r:Nat} {o o':Obj} {w:World} (hb:w.heap[r]?=some o') (hc:zdi1 o'=false):(setObj r o).run P w=.ok () {w with heap:=w.heap.setIfInBounds r o}:=by
  simp only [setObj,Sem.run,hb]
  cases o'<;>first | rfl | simp [zdi1] at hc
theorem zxu1 (ok:tb.Ok P) {t k u:Nat} {e ke:Ty} {m:Option Nat} {b v:Value} {w:World} {K:Hp→Prop} (he:tb.ty t=some e) (hu:e.und=.map k u)
    (hk:tb.ty k=some ke) (hkd:zpi ke.und=true) (hs:Sub h w) (hm:zso1 ke.und m b v K h):
    ∃h' w',(Instr.mapUpdate t (.map m) b v).run P w=.ok () w'∧K h'∧Step h h' w w':=by
  obtain ⟨r,es,ck,rfl,hr,hf⟩:=hm
  have hun:=run_underlying' ok he w
  rw [hu] at hun
  have hb:=hs r _ hr
  rcases hf with ⟨hf,hK⟩ | ⟨i,x,hf,hK⟩
  · refine ⟨_,_,?_,hK,zaz1 hs hr⟩
    simp only [Instr.mapUpdate,Sem.run_bind,hun,Result.andThen_ok,zug hb,ziw ok hk hkd,zix ok hk hf,zbg1 hb rfl]
  · refine ⟨_,_,?_,hK,zaz1 hs hr⟩
    obtain ⟨_,en,hen,_,hsn⟩:=zke1 hf
    have hen':es[i]?=some en:=by simpa using hen
    have hsb:=zae2 (n:=10000) hkd hsn
    simp only [Instr.mapUpdate,Sem.run_bind,hun,Result.andThen_ok,zug hb,ziw ok hk hkd,zix ok hk hf,hen',Option.map_some,Option.getD_some,Instr.keyThatStays,hsb,if_true,Sem.run_pure,
      zbg1 hb rfl]
theorem zxv1 (ok:tb.Ok P) {t k u rt:Nat} {t':TypeId} {e ke:Ty} {m:Option Nat} {b:Value} {w:World} {K:Hp→Prop} (he:tb.ty t=some e) (hu:e.und=.map k u)
    (hk:tb.ty k=some ke) (hkd:zpi ke.und=true) (hs:Sub h w) (hm:zzg1 ke.und m b K h):
    ∃h' w',(Builtin.delete_ #[t,t'] rt #[.map m,b]).run P w=.ok (.tuple #[]) w'∧K h'∧Step h h' w w':=by
  have hun:=run_underlying' ok he w
  rw [hu] at hun
  rcases hm with ⟨rfl,hK⟩ | ⟨r,es,ck,rfl,hr,hf⟩
  · refine ⟨_,w,?_,hK,.refl hs⟩
    simp [Builtin.delete_,hun,ziw ok hk hkd]
  · have hb:=hs r _ hr
    rcases hf with ⟨hf,hK⟩ | ⟨i,x,hf,hK⟩
    · refine ⟨_,_,?_,hK,zaz1 hs hr⟩
      simp [Builtin.delete_,hun,zug hb,ziw ok hk hkd,zix ok hk hf,zbg1 hb rfl]
    · refine ⟨_,_,?_,hK,zaz1 hs hr⟩
      simp [Builtin.delete_,hun,zug hb,ziw ok hk hkd,zix ok hk hf,zbg1 hb rfl]
theorem zmm1 (ok:tb.Ok P) {t:Nat} {x y z:Operand} (hop:o.op=.mapUpdate t x y z∨o.op=.insert t x y z)
    (hv:zsq1 P tb (cnd s ch) t (ev s ch x) (ev s ch y) (ev s ch z) K h):EffOk P o ch s h K:=by
  obtain ⟨a,hea,hv1⟩:=zbh hv
  obtain ⟨b,heb,hv2⟩:=zbh hv1
  obtain ⟨v,hev,hv3⟩:=zbh hv2
  clear hv hv1 hv2
  have run:holds s ch→∀(β:Nat→Nat) (ρ:Operand→Value),(∀x∈o.op.operands,Opnd β s ρ x)→∀(w w':World),(Instr.mapUpdate t a b v).run P w=.ok () w'→(execOp ρ o).run P w=.ok .skip w':=by
    intro hh β ρ ho w w' hr
    have hx:ρ x=_:=ev_ok (ho x (by rcases hop with h | h<;>simp [h,Op.operands])) hh hea
    have hy:ρ y=_:=ev_ok (ho y (by rcases hop with h | h<;>simp [h,Op.operands])) hh heb
    have hz:ρ z=_:=ev_ok (ho z (by rcases hop with h | h<;>simp [h,Op.operands])) hh hev
    rcases hop with h | h<;>simp only [execOp,h,hx,hy,hz,LVal,Sem.run_bind,hr,Result.andThen_ok,Sem.run_pure]
  split at hv3
  · rename_i m e he
    split at hv3
    · rename_i k u hu
      split at hv3
      · rename_i ke hk
        cases hkd:zpi ke.und with
        | true=>
          simp only [hkd,cond_true] at hv3
          refine zov1 hv3 fun hh β ρ w ho hs K hk'=> ?_
          obtain ⟨h',w',hr,hK,hst⟩:=zxu1 ok he hu hk hkd hs hk'
          exact ⟨(),h',w',run hh β ρ ho w w' hr,hK,hst⟩
        | false=>
          simp only [hkd,cond_false] at hv3
          refine zov1 hv3 fun hh β ρ w ho hs K hk'=> ?_
          obtain ⟨u',w',h',hr,hK,hst⟩:=ztw _ hs hk'
          exact ⟨(),h',w',run hh β ρ ho w w' hr,hK,hst⟩
      · exact hv3.elim
    · exact hv3.elim
  · exact hv3.elim
theorem zaf2 (ok:tb.Ok P) {f:Operand} {xs:Array Operand} {ats:Array TypeId} {g:FuncId} {first captured:Array Value} {vs:List Value} {e:Ty} {a:Act} {w:World}
    (hop:o.op=.call {callee:=.value f,args:=xs,argTypes:=ats}) (hg:tb.call g=true) (hf:a.eval f=.func (.func g) first captured) (hxs:xs.map a.eval=vs.toArray)
    {K':e.sh.T→Hp→Prop} (hc:CallT P g (first.toList++vs++captured.toList) e.sh K' h) (hs:Sub h w) {next:Act→World→Prop} {Q:Exit→Act→World→Prop}
    (hn:∀x h' w',K' x h'→Step h h' w w'→next (a.put o.dst (e.sh.enc x)) w'):o.wp P a w next Q:=by
  have hrun:(execOp a.eval o).run P w=.ok (.enter g (first.toList++vs++captured.toList).toArray) w:=by
    have hargs:first++vs.toArray++captured=(first.toList++vs++captured.toList).toArray:=by apply Array.ext';simp
    simp only [execOp,hop,resolve,Deferred.ofValue,hf,hxs,Sem.run_bind,Sem.run_pure,Result.andThen_ok,invoke,hargs]
    exact ok.call g hg _ w
  unfold Oper.wp
  rw [hrun,Oper.upon_enter]
  refine (hc w hs).mono ?_
  rintro en w' ⟨v,h',rfl,⟨x,rfl,hk⟩,hst⟩
  exact hn x h' w' hk hst
theorem zkf1 {α:Type} {A:(α→Hp→Prop)→Hp→Prop} {f:α→Value} (he:EffC (cnd s ch) A (fun x h'=>K (.v (f x)) h') h)
    (hr:holds s ch→∀(β:Nat→Nat) (a:Act) (w:World),(∀x∈o.op.operands,Opnd β s a.eval x)→Sub h w→∀(K:α→Hp→Prop),A K h→∀(next:Act→World→Prop) (Q:Exit→Act→World→Prop),
      (∀x h' w',K x h'→Step h h' w w'→next (a.put o.dst (f x)) w')→o.wp P a w next Q):EffOk P o ch s h K:=by
  obtain ⟨h1,h2⟩:=zkb1 he
  refine ⟨fun hh β a w ho hs next Q hn=> ?_,fun hn=> ?_⟩
  · exact hr hh β a w ho hs _ (h1 hh) next Q fun x h' w' hk hst=>hn _ _ _ hk hst
  · obtain ⟨x,hx⟩:=h2 hn
    exact ⟨_,hx⟩
theorem zxw1 (ok:tb.Ok P) (hv:effW P tb o ch s h K):EffOk P o ch s h K:=by
  obtain ⟨dst,op,ty,pos,after,guard⟩:=o
  cases op with
  | store t x y=>exact zzy1 ok rfl hv
  | alloc t=>exact zzz1 ok rfl hv
  | box t x=>exact zgk2 rfl hv
  | buildSlice t n ps=>exact zlz1 ok rfl hv
  | makeMap t r=>
    cases r with
    | none=>exact zth1 rfl hv
    | some x=>exact hv.elim
  | makeSlice t x y=>
    obtain ⟨a,hea,hv1⟩:=zbh hv
    obtain ⟨b,heb,hv2⟩:=zbh hv1
    clear hv hv1
    split at hv2
    · rename_i m n e hel
      exact zdo2 ok rfl hea heb hel hv2
    · exact hv2.elim
  | mapUpdate t x y z=>exact zmm1 ok (.inl rfl) hv
  | insert t x y z=>exact zmm1 ok (.inr rfl) hv
  | mapEntry t x y=>
    obtain ⟨a,hea,hv1⟩:=zbh hv
    obtain ⟨b,heb,hv2⟩:=zbh hv1
    refine zow1 hv2 fun hh β ρ ho w w' v hr=> ?_
    have hx:ρ x=_:=ev_ok (ho x (by simp [Op.operands])) hh hea
    have hy:ρ y=_:=ev_ok (ho y (by simp [Op.operands])) hh heb
    simp only [execOp,hx,hy,LVal,Sem.run_bind,hr,Result.andThen_ok,Sem.run_pure]
  | entryStore t x y z=>
    obtain ⟨a,hea,hv1⟩:=zbh hv
    obtain ⟨b,heb,hv2⟩:=zbh hv1
    obtain ⟨c,hec,hv3⟩:=zbh hv2
    refine zov1 hv3 fun hh β ρ w ho hs K hk=> ?_
    have hx:ρ x=_:=ev_ok (ho x (by simp [Op.operands])) hh hea
    have hy:ρ y=_:=ev_ok (ho y (by simp [Op.operands])) hh heb
    have hz:ρ z=_:=ev_ok (ho z (by simp [Op.operands])) hh hec
    obtain ⟨u',w',h',hr,hK,hst⟩:=ztw _ hs hk
    refine ⟨(),h',w',?_,hK,hst⟩
    simp only [execOp,hx,hy,hz,LVal,Sem.run_bind,hr,Result.andThen_ok,Sem.run_pure]
  | range t x=>
    obtain ⟨a,hea,hv1⟩:=zbh hv
    refine zvy1 hv1 fun hh β ρ ho w w' v hr=> ?_
    have hx:ρ x=_:=ev_ok (ho x (by simp [Op.operands])) hh hea
    simp only [execOp,hx,LVal,Sem.run_bind,hr,Result.andThen_ok,Sem.run_pure]
  | next x b=>
    obtain ⟨a,hea,hv1⟩:=zbh hv
    refine zvy1 hv1 fun hh β ρ ho w w' v hr=> ?_
    have hx:ρ x=_:=ev_ok (ho x (by simp [Op.operands])) hh hea
    simp only [execOp,hx,LVal,Sem.run_bind,hr,Result.andThen_ok,Sem.run_pure]
  | convert src dst' x=>
    obtain ⟨a,hea,hv1⟩:=zbh hv
    clear hv
    split at hv1
    · rename_i b e g he hel
      split at hv1
      · rename_i h1 h2
        exact zab2 ok rfl hea he hel h1 h2 hv1
      · exact hv1.elim
    · rename_i p n c e g he hel
      split at hv1
      · rename_i u0 h1 h2
        cases hb:Nat.beq src dst' with
        | false=>simp only [hb,cond_false] at hv1
        | true=>
          simp only [hb,cond_true] at hv1
          exact zdp2 ok rfl hea he hel h1 h2 (Nat.eq_of_beq_eq_true hb) hv1
      · exact hv1.elim
    · exact hv1.elim
  | call c=>
    obtain ⟨callee,xs,ats⟩:=c
    cases callee with
    | invoke r m=>exact hv.elim
    | builtin b=>
      obtain ⟨vs,hvs,hv'⟩:=zue hv
      clear hv
      have hargs:holds s ch→∀(β:Nat→Nat) (ρ:Operand→Value),(∀x∈(Op.call {callee:=.builtin b,args:=xs,argTypes:=ats}).operands,Opnd β s ρ x)→xs.map ρ=vs.toArray:=by
        intro hh β ρ ho
        have:=zwn (β:=β) (ρ:=ρ) hh hvs fun x hx=>ho x (by simp [Op.operands,Call.operands];simpa using hx)
        apply Array.ext';simpa using this
      cases b with
      | append=>exact zxt1 ok rfl hvs hv'
      | copy=>
        replace hv':copyW _ _ _ _ _ _ _ _:=hv'
        unfold copyW at hv'
        split at hv'
        · rename_i p n c p' n' c' t t' hts
          split at hv'
          · rename_i e hel
            exact zdn2 ok rfl hvs hts hel hv'
          · exact hv'.elim
        · refine zow1 hv' fun hh β ρ ho w w' v hr=> ?_
          simp only [execOp,resolve,invoke,builtin,Sem.run_bind,Sem.run_pure,Result.andThen_ok,hargs hh β ρ ho,hr]
      | delete=>
        replace hv':delW _ _ _ _ _ _ _ _:=hv'
        unfold delW at hv'
        split at hv'
        · rename_i m k t t' hts
          have hts':ats= #[t,t']:=by apply Array.ext';simpa using hts
          split at hv'
          · rename_i e he
            split at hv'
            · rename_i kt u hu
              split at hv'
              · rename_i ke hk
                cases hkd:zpi ke.und with
                | true=>
                  simp only [hkd,cond_true] at hv'
                  refine zfn (f:=fun _=>.tuple #[]) hv' fun hh β ρ w ho hs K hk'=> ?_
                  obtain ⟨h',w',hr,hK,hst⟩:=zxv1 (rt:=ty) (t':=t') ok he hu hk hkd hs hk'
                  refine ⟨(),h',w',?_,hK,hst⟩
                  have ha:=hargs hh β ρ ho
                  simp only [execOp,resolve,invoke,builtin,Sem.run_bind,Sem.run_pure,Result.andThen_ok,ha,hts',hr]
                | false=>
                  simp only [hkd,cond_false] at hv'
                  refine zow1 hv' fun hh β ρ ho w w' v hr=> ?_
                  simp only [execOp,resolve,invoke,builtin,Sem.run_bind,Sem.run_pure,Result.andThen_ok,hargs hh β ρ ho,hr]
              · exact hv'.elim
            · exact hv'.elim
          · exact hv'.elim
        · exact hv'.elim
      | clear=>
        refine zow1 hv' fun hh β ρ ho w w' v hr=> ?_
        simp only [execOp,resolve,invoke,builtin,Sem.run_bind,Sem.run_pure,Result.andThen_ok,hargs hh β ρ ho,hr]
      | _=>exact hv'.elim
    | value f=>
      obtain ⟨vs,hvs,hv'⟩:=zue hv
      clear hv
      have hargs:holds s ch→∀(β:Nat→Nat) (ρ:Operand→Value),(∀x∈(Op.call {callee:=.value f,args:=xs,argTypes:=ats}).operands,Opnd β s ρ x)→xs.map ρ=vs.toArray:=by
        intro hh β ρ ho
        have:=zwn (β:=β) (ρ:=ρ) hh hvs fun x hx=>ho x (by simp [Op.operands,Call.operands];right;simpa using hx)
        apply Array.ext';simpa using this
      cases f with
      | func g=>
        replace hv':zzi1 _ _ _ _ _ _ _ _:=hv'
        unfold zzi1 at hv'
        split at hv'
        · rename_i e he
          cases hg:tb.call g with
          | false=>
            simp only [hg,cond_false] at hv'
            split at hv'
            · rename_i fx hx
              refine zkf1 (f:=e.sh.enc) hv' fun hh β a w ho hs K hk next Q hn=> ?_
              obtain ⟨u,w',h',hr,⟨x,rfl,hK⟩,hst⟩:=ztw _ hs hk
              have hf:a.eval (.func g)=.func (.func g) #[] #[]:=rfl
              have hrun:(execOp a.eval {dst:=dst,op:=.call {callee:=.value (.func g),args:=xs,argTypes:=ats},type:=ty,pos:=pos,after:=after,guard:=guard}).run P w=.ok (.value (e.sh.enc x)) w':=by
                simp only [execOp,resolve,Deferred.ofValue,hf,hargs hh β a.eval ho,Sem.run_bind,Sem.run_pure,Result.andThen_ok,invoke]
                have e1: #[]++vs.toArray++ #[]=vs.toArray:=by simp
                rw [e1,ok.ext g fx hx _ w,hr]
                rfl
              unfold Oper.wp
              rw [hrun,Oper.upon_value]
              exact hn x h' w' hK hst
            · exact hv'.elim
          | true=>
            simp only [hg,cond_true] at hv'
            refine zkf1 (f:=e.sh.enc) hv' fun hh β a w ho hs K hk next Q hn=> ?_
            have hf:a.eval (.func g)=.func (.func g) #[] #[]:=rfl
            exact zaf2 (first:= #[]) (captured:= #[]) ok rfl hg hf (hargs hh β a.eval ho) (by simpa using hk) hs hn
        · exact hv'.elim
      | tmp t=>
        replace hv':zzj1 _ _ _ _ _ _ _ _:=hv'
        unfold zzj1 at hv'
        split at hv'
        · rename_i e he
          obtain ⟨fv,hfv,hv2⟩:=zbh hv'
          refine zkf1 (f:=e.sh.enc) hv2 fun hh β a w ho hs K hk next Q hn=> ?_
          obtain ⟨g,first,captured,rfl,hg,hk⟩:=hk
          have hf:a.eval (.tmp t)=_:=ev_ok (ho (.tmp t) (by simp [Op.operands,Call.operands])) hh hfv
          exact zaf2 ok rfl hg hf (hargs hh β a.eval ho) hk hs hn
        · exact hv'.elim
      | const v=>exact hv'.elim
      | global g=>exact hv'.elim
  | _=>exact hv.elim
theorem zxx1 {C:Ctx} {ops:List Oper} (hv:entW C ops o ch s h K):EffOk C.P o ch s h K:=by
  obtain ⟨dst,op,ty,pos,after,guard⟩:=o
  unfold entW at hv
  split at hv
  · rename_i x d he hd
    subst he
    obtain ⟨a,hea,hv1⟩:=zbh hv
    refine zvy1 hv1 fun hh β ρ ho w w' v hr=> ?_
    have hx:ρ x=_:=ev_ok (ho x (by simp [Op.operands])) hh hea
    simp only [execOp,hx,LVal,Sem.run_bind,hr,Result.andThen_ok,Sem.run_pure]
  · exact hv.elim
end
end Lf

namespace Lf
open Go
theorem zeg1 {s s':St} {c:Chain} (hf:∀p∈c,s'.f p.1=s.f p.1):holds s' c↔holds s c:=by
  have key:∀p∈c,hb s' p.1=hb s p.1:=fun p hp=>by unfold hb;rw [hf p hp]
  exact ⟨fun h p hp=>by rw [←key p hp];exact h p hp,fun h p hp=>by rw [key p hp];exact h p hp⟩
theorem zwq (s:St) (d:Nat) (l:LV) (ch:Chain):(s.put (some d) l ch).f d=some (l,ch):=by simp [St.put]
theorem zkg1 {i j:Nat} (h:i≠j):Nat.beq i j=false:=by
  cases e:Nat.beq i j with
  | false=>rfl
  | true=>exact absurd (Nat.eq_of_beq_eq_true e) h
theorem zkh1 (s:St) {d t:Nat} (l:LV) (ch:Chain) (h:t≠d):(s.put (some d) l ch).f t=s.f t:=by
  simp [St.put,zkg1 h]
theorem zgd1 (s:St) (k:Nat) (cs:List Value):(s.putM k cs).m k=some cs:=by simp [St.putM]
theorem zrn (s:St) {k j:Nat} (cs:List Value) (h:j≠k):(s.putM k cs).m j=s.m j:=by
  simp [St.putM,zkg1 h]
theorem zwr {a:Act} {d:Nat} {v:Value} (h:d<a.tmps.size):(a.put (some d) v).eval (.tmp d)=v:=by simp [Act.put,Act.eval,h]
theorem znt {a:Act} {d t:Nat} {v:Value} (h:t≠d):(a.put (some d) v).eval (.tmp t)=a.eval (.tmp t):=by
  simp [Act.put,Act.eval,Array.getElem?_setIfInBounds_ne (Ne.symm h)]
structure RR (n:Nat) (Cur Liv D N:Nat→Prop) (β:Nat→Nat) (s:St) (a:Act) (h:Hp) (w:World):Prop where
  sz:a.tmps.size=n
  sub:Sub h w
  lt:∀t l c,s.f t=some (l,c)→t<n
  chain:∀t l c,s.f t=some (l,c)→∀p∈c,D p.1
  cur:∀t l c,s.f t=some (l,c)→Cur t→holds s c→a.eval (.tmp t)=LVal β l∧∀k o,(l=.box k o∨l=.boxd k o)→Liv k
  und:∀t l c,s.f t=some (l,c)→Cur t→¬holds s c→a.eval (.tmp t)=undef
  box:∀k cs,s.m k=some cs→Liv k→h (β k)=none∧∃ct,w.heap[β k]?=some (.cells cs.toArray ct (0,0))
  inj:∀k k',s.m k≠none→s.m k'≠none→Liv k→Liv k'→β k=β k'→k=k'
  nrefm:∀k,N k→s.m k=none
  nref:∀k,N k→∀t l c,s.f t=some (l,c)→holds s c→∀o,l≠ .box k o∧l≠ .boxd k o
def live (s:St) (Liv:Nat→Prop) (k:Nat):Prop:=s.m k≠none∧Liv k
structure Seg (l mm:List Nat) (lv:Nat→Prop) (β:Nat→Nat) (a:Act) (h:Hp) (w:World) (lv':Nat→Prop) (β':Nat→Nat) (a':Act) (h':Hp) (w':World):Prop where
  tmp:∀i,i∉l→a'.eval (.tmp i)=a.eval (.tmp i)
  beta:∀k,(k∉l∨k∉mm)→β' k=β k
  size:w.heap.size≤w'.heap.size
  unk:∀b,b<w.heap.size→h b=none→(∀k∈mm,lv k→β k≠b)→h' b=none
  keep:∀b,b<w.heap.size→h b=none→(∀k∈mm,lv k→β k≠b)→w'.heap[b]?=w.heap[b]?
  fresh:∀k,lv' k→(lv k∧β' k=β k)∨w.heap.size≤β' k
  os:w'.os=w.os
  tape:w'.tape=w.tape
  output:w'.output=w.output
  defers:a'.defers=a.defers
section
variable {n:Nat} {Cur Liv D N:Nat→Prop} {β:Nat→Nat} {s:St} {a:Act} {h:Hp} {w:World}
theorem zhr1 {w:World} {b:Nat} {o:Obj} (h:w.heap[b]?=some o):b<w.heap.size:=by
  rcases Nat.lt_or_ge b w.heap.size with h' | h'
  · exact h'
  · simp [Array.getElem?_eq_none h'] at h
theorem zdq2 (hs:Sub h w) {b:Nat} (hb:w.heap.size≤b):h b=none:=by
  cases e:h b with
  | none=>rfl
  | some x=>exact absurd (hs.lt e) (Nat.not_lt.2 hb)
theorem Seg.refl (l mm:List Nat):Seg l mm (live s Liv) β a h w (live s Liv) β a h w:=
  ⟨fun _ _=>rfl,fun _ _=>rfl,Nat.le_refl _,fun _ _ e _=>e,fun _ _ _ _=>rfl,fun _ e=>.inl ⟨e,rfl⟩,rfl,rfl,rfl,rfl⟩
theorem Seg.trans {l mm:List Nat} {lv lv1 lv2:Nat→Prop} {β β1 β2:Nat→Nat} {a a1 a2:Act} {h h1 h2:Hp} {w w1 w2:World}
    (x:Seg l mm lv β a h w lv1 β1 a1 h1 w1) (y:Seg l mm lv1 β1 a1 h1 w1 lv2 β2 a2 h2 w2):Seg l mm lv β a h w lv2 β2 a2 h2 w2:=by
  have hk1:∀b,b<w.heap.size→(∀k∈mm,lv k→β k≠b)→∀k∈mm,lv1 k→β1 k≠b:=fun b hb hk k hm hl=>by
    rcases x.fresh k hl with ⟨h1,h2⟩ | h1
    · rw [h2];exact hk k hm h1
    · intro e;rw [e] at h1;exact absurd hb (Nat.not_lt.2 h1)
  refine ⟨fun i hi=>(y.tmp i hi).trans (x.tmp i hi),fun k hk=>(y.beta k hk).trans (x.beta k hk),Nat.le_trans x.size y.size,fun b hb hn hk=> ?_,fun b hb hn hk=> ?_,fun k hk=> ?_,
    y.os.trans x.os,y.tape.trans x.tape,y.output.trans x.output,y.defers.trans x.defers⟩
  · exact y.unk b (Nat.lt_of_lt_of_le hb x.size) (x.unk b hb hn hk) (hk1 b hb hk)
  · exact (y.keep b (Nat.lt_of_lt_of_le hb x.size) (x.unk b hb hn hk) (hk1 b hb hk)).trans (x.keep b hb hn hk)
  · rcases y.fresh k hk with ⟨h1,h2⟩ | h1
    · rw [h2];exact x.fresh k h1
    · exact .inr (Nat.le_trans x.size h1)
theorem Seg.mono {l mm l' mm':List Nat} {lv lv1 lv' lv1':Nat→Prop} {β β1:Nat→Nat} {a a1:Act} {h h1:Hp} {w w1:World}
    (x:Seg l mm lv β a h w lv1 β1 a1 h1 w1) (hl:∀i∈l,i∈l') (hm:∀i∈mm,i∈mm') (hv:∀k,lv k→lv' k) (hv1:∀k,lv1' k→lv1 k):Seg l' mm' lv' β a h w lv1' β1 a1 h1 w1:=
  ⟨fun i hi=>x.tmp i fun e=>hi (hl i e),fun k hk=>x.beta k (hk.imp (fun e e'=>e (hl k e')) (fun e e'=>e (hm k e'))),x.size,fun b hb hn hk=>x.unk b hb hn fun k h1 h2=>hk k (hm k h1) (hv k h2),fun b hb hn hk=>x.keep b hb hn fun k h1 h2=>hk k (hm k h1) (hv k h2),
    fun k hk=>(x.fresh k (hv1 k hk)).imp (fun e=>⟨hv k e.1,e.2⟩) id,x.os,x.tape,x.output,x.defers⟩
theorem Seg.step {l mm:List Nat} {lv:Nat→Prop} {h':Hp} {w':World} (hst:Step h h' w w'):Seg l mm lv β a h w lv β a h' w':=
  ⟨fun _ _=>rfl,fun _ _=>rfl,hst.size,fun b hb hn _=>(hst.keep b hb hn).2,fun b hb hn _=>(hst.keep b hb hn).1,fun _ e=>.inl ⟨e,rfl⟩,hst.os,hst.tape,hst.output,rfl⟩
theorem Seg.put {l mm:List Nat} {lv:Nat→Prop} {d:Option Nat} {v:Value} (hd:∀i,d=some i→i∈l):Seg l mm lv β a h w lv β (a.put d v) h w:=by
  refine ⟨fun i hi=> ?_,fun _ _=>rfl,Nat.le_refl _,fun _ _ e _=>e,fun _ _ _ _=>rfl,fun _ e=>.inl ⟨e,rfl⟩,rfl,rfl,rfl,by cases d<;>rfl⟩
  cases d with
  | none=>rfl
  | some d=>exact znt fun e=>hi (e▸hd d rfl)
theorem RR.step (hr:RR n Cur Liv D N β s a h w) {h':Hp} {w':World} (hst:Step h h' w w'):RR n Cur Liv D N β s a h' w':=
  ⟨hr.sz,hst.sub,hr.lt,hr.chain,hr.cur,hr.und,fun k cs hm hl=>by
    obtain ⟨h1,ct,h2⟩:=hr.box k cs hm hl
    obtain ⟨h3,h4⟩:=hst.keep _ (zhr1 h2) h1
    exact ⟨h4,ct,by rw [h3];exact h2⟩,hr.inj,hr.nrefm,hr.nref⟩
theorem RR.congr (hr:RR n Cur Liv D N β s a h w) {Cur' Liv' D' N':Nat→Prop} (hc:∀t,Cur' t↔Cur t) (hl:∀t,Liv' t↔Liv t) (hd:∀t,D t→D' t) (hn:∀t,N' t→N t):
    RR n Cur' Liv' D' N' β s a h w:=
  ⟨hr.sz,hr.sub,hr.lt,fun t l c e p hp=>hd _ (hr.chain t l c e p hp),fun t l c e h1 h2=>⟨(hr.cur t l c e ((hc t).1 h1) h2).1,fun k o e'=>(hl k).2 ((hr.cur t l c e ((hc t).1 h1) h2).2 k o e')⟩,
    fun t l c e h1 h2=>hr.und t l c e ((hc t).1 h1) h2,fun k cs e h1=>hr.box k cs e ((hl k).1 h1),fun k k' e e' h1 h2=>hr.inj k k' e e' ((hl k).1 h1) ((hl k').1 h2),
    fun k e=>hr.nrefm k (hn k e),fun k e=>hr.nref k (hn k e)⟩
theorem zro {d:Nat} {l:LV} {ch c:Chain} (hD:¬D d) (hc:∀p∈c,D p.1):holds (s.put (some d) l ch) c↔holds s c:=
  zeg1 fun p hp=>zkh1 s l ch fun e=>hD (e▸hc p hp)
theorem ztj1 (hr:RR n Cur Liv D N β s a h w) {x:Operand} (hx:∀t,x=.tmp t→Cur t):Opnd β s a.eval x:=by
  cases x with
  | tmp t=>exact fun l c e hc=>(hr.cur t l c e (hx t rfl) hc).1
  | const v=>rfl
  | global g=>rfl
  | func f=>rfl
theorem zag2 (hr:RR n Cur Liv D N β s a h w) {o:Oper} (hx:∀t,Operand.tmp t∈o.op.operands→Cur t):BoxU β s o w:=by
  intro t ht k off c hf hc cs hm
  rcases hf with hf | hf
  · exact (hr.box k cs hm ((hr.cur t _ c hf (hx t ht) hc).2 k off (.inl rfl))).2
  · exact (hr.box k cs hm ((hr.cur t _ c hf (hx t ht) hc).2 k off (.inr rfl))).2
theorem RR.lift (hr:RR n Cur Liv D N β s a h w) {d:Nat} {l:LV} {ch:Chain} (hd:d<n) (hD:¬D d) (hch:∀p∈ch,D p.1) (h1:holds s ch→∀k o,(l=.box k o∨l=.boxd k o)→¬N k):
    RR n (fun t=>t≠d∧Cur t) Liv D N β (s.put (some d) l ch) a h w:=by
  have key:∀t l' c,(s.put (some d) l ch).f t=some (l',c)→t=d∧l'=l∧c=ch∨t≠d∧s.f t=some (l',c):=fun t l' c e=>by
    by_cases ht:t=d
    · subst ht;rw [zwq] at e;cases e;exact .inl ⟨rfl,rfl,rfl⟩
    · rw [zkh1 _ _ _ ht] at e;exact .inr ⟨ht,e⟩
  refine ⟨hr.sz,hr.sub,fun t l' c e=> ?_,fun t l' c e=> ?_,fun t l' c e hc hh=> ?_,fun t l' c e hc hh=> ?_,hr.box,hr.inj,hr.nrefm,fun k hk t l' c e hh o=> ?_⟩
  · rcases key t l' c e with ⟨rfl,_,_⟩ | ⟨_,e'⟩
    · exact hd
    · exact hr.lt t l' c e'
  · rcases key t l' c e with ⟨_,_,rfl⟩ | ⟨_,e'⟩
    · exact hch
    · exact hr.chain t l' c e'
  · rcases key t l' c e with ⟨rfl,_,_⟩ | ⟨_,e'⟩
    · exact absurd rfl hc.1
    · exact hr.cur t l' c e' hc.2 ((zro hD (hr.chain t l' c e')).1 hh)
  · rcases key t l' c e with ⟨rfl,_,_⟩ | ⟨_,e'⟩
    · exact absurd rfl hc.1
    · exact hr.und t l' c e' hc.2 fun hc'=>hh ((zro hD (hr.chain t l' c e')).2 hc')
  · rcases key t l' c e with ⟨_,rfl,rfl⟩ | ⟨_,e'⟩
    · have hh':=(zro hD hch).1 hh
      exact ⟨fun e'=>h1 hh' k o (.inl e') hk,fun e'=>h1 hh' k o (.inr e') hk⟩
    · exact hr.nref k hk t l' c e' ((zro hD (hr.chain t l' c e')).1 hh) o
theorem RR.exec (hr:RR n Cur Liv D N β s a h w) {d:Nat} {l:LV} {ch:Chain} {v:Value} (hf:s.f d=some (l,ch)) (hc:¬Cur d)
    (h1:holds s ch→v=LVal β l∧∀k o,(l=.box k o∨l=.boxd k o)→Liv k) (h2:¬holds s ch→v=undef):
    RR n (fun t=>t=d∨Cur t) Liv D N β s (a.put (some d) v) h w:=by
  have hd:=hr.lt d l ch hf
  refine ⟨by simpa [Act.put] using hr.sz,hr.sub,hr.lt,hr.chain,fun t l' c e hc' hh=> ?_,fun t l' c e hc' hh=> ?_,hr.box,hr.inj,hr.nrefm,hr.nref⟩
  · by_cases ht:t=d
    · subst ht
      rw [hf] at e;cases e
      rw [zwr (by rw [hr.sz];exact hd)]
      exact h1 hh
    · rw [znt ht]
      exact hr.cur t l' c e (hc'.resolve_left ht) hh
  · by_cases ht:t=d
    · subst ht
      rw [hf] at e;cases e
      rw [zwr (by rw [hr.sz];exact hd)]
      exact h2 hh
    · rw [znt ht]
      exact hr.und t l' c e (hc'.resolve_left ht) hh
theorem RR.liftA (hr:RR n Cur Liv D N β s a h w) {d:Nat} (cs:List Value) (hd:d<n) (hD:¬D d) (hN:N d):
    RR n (fun t=>t≠d∧Cur t) (fun k=>k≠d∧Liv k) D (fun k=>k≠d∧N k) β ((s.put (some d) (.box d 0) []).putM d cs) a h w:=by
  have hf:∀t,t≠d→((s.put (some d) (.box d 0) []).putM d cs).f t=s.f t:=fun t ht=>zkh1 s _ _ ht
  have hfd:((s.put (some d) (.box d 0) []).putM d cs).f d=some (.box d 0,[]):=zwq s _ _ _
  have hm:∀k,k≠d→((s.put (some d) (.box d 0) []).putM d cs).m k=s.m k:=fun k hk=>zrn _ _ hk
  have hh:∀c:Chain,(∀p∈c,D p.1)→(holds ((s.put (some d) (.box d 0) []).putM d cs) c↔holds s c):=fun c hc=>zeg1 fun p hp=>hf _ fun e=>hD (e▸hc p hp)
  refine ⟨hr.sz,hr.sub,fun t l c e=> ?_,fun t l c e=> ?_,fun t l c e hc hl=> ?_,fun t l c e hc hl=> ?_,fun k cs' e hk=> ?_,fun k k' e e' hk hk'=> ?_,fun k hk=> ?_,fun k hk t l c e hl o=> ?_⟩
  · by_cases ht:t=d
    · exact ht▸hd
    · exact hr.lt t l c (by rwa [hf t ht] at e)
  · by_cases ht:t=d
    · subst ht;rw [hfd] at e;cases e;simp
    · exact hr.chain t l c (by rwa [hf t ht] at e)
  · rw [hf t hc.1] at e
    have hl':=(hh c (hr.chain t l c e)).1 hl
    have:=hr.cur t l c e hc.2 hl'
    refine ⟨this.1,fun k o e'=>⟨fun ek=> ?_,this.2 k o e'⟩⟩
    subst ek
    have:=hr.nref k hN t l c e hl' o
    rcases e' with e' | e'
    · exact this.1 e'
    · exact this.2 e'
  · rw [hf t hc.1] at e
    exact hr.und t l c e hc.2 fun hl'=>hl ((hh c (hr.chain t l c e)).2 hl')
  · rw [hm k hk.1] at e
    exact hr.box k cs' e hk.2
  · rw [hm k hk.1] at e
    rw [hm k' hk'.1] at e'
    exact hr.inj k k' e e' hk.2 hk'.2
  · rw [hm k hk.1]
    exact hr.nrefm k hk.2
  · by_cases ht:t=d
    · subst ht
      rw [hfd] at e;cases e
      exact ⟨fun e'=>by cases e';exact hk.1 rfl,fun e'=>by cases e'⟩
    · rw [hf t ht] at e
      exact hr.nref k hk.2 t l c e ((hh c (hr.chain t l c e)).1 hl) o
theorem zqq1 (hs:Sub h w) (o:Obj):Step h h w {w with heap:=w.heap.push o}:=by
  refine ⟨fun b x e=> ?_,by simp,fun b hb hn=>⟨?_,hn⟩,rfl,rfl,rfl⟩
  · have hl:=hs.lt e
    simp only [Array.getElem?_push,if_neg (Nat.ne_of_lt hl)]
    exact hs b x e
  · simp only [Array.getElem?_push,if_neg (Nat.ne_of_lt hb)]
def upd (β:Nat→Nat) (d b:Nat):Nat→Nat:=fun k=>if k=d then b else β k
theorem RR.execA (hr:RR n Cur Liv D N β s a h w) {d:Nat} {cs:List Value} (t:Nat) (hf:s.f d=some (.box d 0,[])) (hm:s.m d=some cs) (hc:¬Cur d) (hL:¬Liv d):
    RR n (fun t=>t=d∨Cur t) (fun k=>k=d∨Liv k) D N (upd β d w.heap.size) s (a.put (some d) (.pointer (some ⟨w.heap.size,0,none⟩))) h {w with heap:=w.heap.push (.cells cs.toArray t (0,0))}:=by
  have hn0:h w.heap.size=none:=zdq2 hr.sub (Nat.le_refl _)
  have hlt:∀k,s.m k≠none→Liv k→β k<w.heap.size:=fun k hk hl=>by
    obtain ⟨cs',e⟩:=Option.ne_none_iff_exists'.1 hk
    obtain ⟨_,ct,e2⟩:=hr.box k cs' e hl
    exact zhr1 e2
  have hr:=hr.step (zqq1 hr.sub (.cells cs.toArray t (0,0)))
  have hd:=hr.lt d _ _ hf
  have hup:∀k,k≠d→upd β d w.heap.size k=β k:=fun k hk=>by simp [upd,hk]
  refine ⟨by simpa [Act.put] using hr.sz,hr.sub,hr.lt,hr.chain,fun t' l' c e hc' hh=> ?_,fun t' l' c e hc' hh=> ?_,fun k cs' e hk=> ?_,fun k k' e e' hk hk' he=> ?_,hr.nrefm,hr.nref⟩
  · by_cases ht:t'=d
    · subst ht
      rw [hf] at e;cases e
      rw [zwr (by rw [hr.sz];exact hd)]
      refine ⟨by simp [LVal,upd],fun k o e'=>.inl ?_⟩
      rcases e' with e' | e'<;>cases e'
      rfl
    · rw [znt ht]
      have:=hr.cur t' l' c e (hc'.resolve_left ht) hh
      refine ⟨?_,fun k o e'=>.inr (this.2 k o e')⟩
      rw [this.1]
      cases l' with
      | v x=>rfl
      | box k o=>
        have hk:k≠d:=fun ek=>hL (ek▸this.2 k o (.inl rfl))
        simp [LVal,hup k hk]
      | boxd k o=>
        have hk:k≠d:=fun ek=>hL (ek▸this.2 k o (.inr rfl))
        simp [LVal,hup k hk]
  · by_cases ht:t'=d
    · subst ht
      rw [hf] at e;cases e
      exact absurd (zbn s) hh
    · rw [znt ht]
      exact hr.und t' l' c e (hc'.resolve_left ht) hh
  · by_cases ek:k=d
    · subst ek
      rw [hm] at e;cases e
      refine ⟨?_,t,?_⟩
      · simpa [upd] using hn0
      · simp [upd]
    · rw [hup k ek]
      exact hr.box k cs' e (hk.resolve_left ek)
  · by_cases ek:k=d
    · by_cases ek':k'=d
      · rw [ek,ek']
      · rw [hup k' ek',ek] at he
        have:=hlt k' e' (hk'.resolve_left ek')
        simp only [upd,if_true] at he
        omega
    · by_cases ek':k'=d
      · rw [hup k ek,ek'] at he
        have:=hlt k e (hk.resolve_left ek)
        simp only [upd,if_true] at he
        omega
      · rw [hup k ek,hup k' ek'] at he
        exact hr.inj k k' e e' (hk.resolve_left ek) (hk'.resolve_left ek') he
theorem segA {l mm:List Nat} {d:Nat} {cs:List Value} (t:Nat) (hs:Sub h w) (hm:s.m d=some cs) (hL:¬Liv d) (hl:d∈l) (hmm:d∈mm):
    Seg l mm (live s Liv) β a h w (live s fun k=>k=d∨Liv k) (upd β d w.heap.size) (a.put (some d) (.pointer (some ⟨w.heap.size,0,none⟩))) h {w with heap:=w.heap.push (.cells cs.toArray t (0,0))}:=by
  refine ⟨fun i hi=>znt fun e=>hi (e▸hl),fun k hk=> ?_,by simp,fun _ _ e _=>e,fun b hb hn _=>((zqq1 hs _).keep b hb hn).1,fun k hk=> ?_,rfl,rfl,rfl,rfl⟩
  · have : k ≠ d := fun e => by rcases hk with hk | hk
                                · exact hk (e▸hl)
                                · exact hk (e▸hmm)
    simp [upd,this]
  · by_cases ek:k=d
    · subst ek
      exact .inr (by simp [upd])
    · exact .inl ⟨⟨hk.1,hk.2.resolve_left ek⟩,by simp [upd,ek]⟩
theorem zge1 (b:Nat) (ct:Nat):∀(new:List Value) (h:Hp) (i off:Nat) (cs:List Value),off+i+new.length≤cs.length→h b=some (.cells cs.toArray ct (0,0))→
    (putL h ⟨b,off,none⟩ new i) b=some (.cells (layL cs (off+i) new).toArray ct (0,0))∧∀b',b'≠b→(putL h ⟨b,off,none⟩ new i) b'=h b'
  | [],h,i,off,cs,hl,e=>by
    refine ⟨?_,fun _ _=>rfl⟩
    rw [zwo _ _ _ (by simpa using hl)]
    simpa [putL] using e
  | v::new,h,i,off,cs,hl,e=>by
    simp at hl
    have e1:(h.put ((⟨b,off,none⟩:Addr).add i) v)=h.set b (.cells (cs.set (off+i) v).toArray ct (0,0)):=by
      rw [zdh]
      unfold Hp.put
      simp only [e]
      simp
    have e2:(h.set b (.cells (cs.set (off+i) v).toArray ct (0,0))) b=some (.cells (cs.set (off+i) v).toArray ct (0,0)):=by simp [Hp.set]
    obtain ⟨h1,h2⟩:=zge1 b ct new _ (i+1) off (cs.set (off+i) v) (by simp;omega) e2
    simp only [putL,e1]
    refine ⟨?_,fun b' hb'=> ?_⟩
    · rw [h1,zwo _ _ _ (by simp;omega),zwo _ _ _ (by simp;omega)]
      congr 3
      apply List.ext_getElem?
      intro j
      simp only [List.getElem?_append,List.length_append,List.length_take,List.length_set,List.length_cons,List.getElem?_take,List.getElem?_drop,List.getElem?_set]
      rcases Nat.lt_trichotomy j (off+i) with hj | hj | hj
      · have e1:j<min (off+(i+1)) cs.length+new.length:=by omega
        have e2:j<min (off+(i+1)) cs.length:=by omega
        have e3:j<off+(i+1):=by omega
        have e4:¬off+i=j:=by omega
        have e5:j<min (off+i) cs.length+(new.length+1):=by omega
        have e6:j<min (off+i) cs.length:=by omega
        simp [e1,e2,e3,e4,e5,e6,hj]
      · subst hj
        have e1:off+i<min (off+(i+1)) cs.length+new.length:=by omega
        have e2:off+i<min (off+(i+1)) cs.length:=by omega
        have e5:off+i<min (off+i) cs.length+(new.length+1):=by omega
        have e6:¬off+i<min (off+i) cs.length:=by omega
        have e7:off+i-min (off+i) cs.length=0:=by omega
        have e8:off+i<cs.length:=by omega
        have e9:off+i<off+(i+1):=by omega
        simp [e1,e2,e5,e6,e7,e8,e9]
      · by_cases hj2:j<off+i+(new.length+1)
        · have e1:j<min (off+(i+1)) cs.length+new.length:=by omega
          have e2:¬j<min (off+(i+1)) cs.length:=by omega
          have e5:j<min (off+i) cs.length+(new.length+1):=by omega
          have e6:¬j<min (off+i) cs.length:=by omega
          obtain ⟨m,hm⟩:∃m,j-min (off+i) cs.length=m+1:=⟨j-min (off+i) cs.length-1,by omega⟩
          have e7:j-min (off+(i+1)) cs.length=m:=by omega
          simp [e1,e2,e5,e6,hm,e7]
        · have e1:¬j<min (off+(i+1)) cs.length+new.length:=by omega
          have e5:¬j<min (off+i) cs.length+(new.length+1):=by omega
          have e7:off+(i+1)+new.length+(j-(min (off+(i+1)) cs.length+new.length))=j:=by omega
          have e8:off+i+(new.length+1)+(j-(min (off+i) cs.length+(new.length+1)))=j:=by omega
          have e9:¬off+i=j:=by omega
          simp [e1,e5,e7,e8,e9]
    · rw [h2 b' hb']
      simp [Hp.set,hb']
theorem zqr1 {P:Program} {b ct off:Nat} {cs new:List Value} (hs:Sub h w) (hb:w.heap[b]?=some (.cells cs.toArray ct (0,0))) (hn:h b=none) (hok:zcz new=true) (hl:off+new.length≤cs.length):
    ∃w',(storeCells ⟨b,off,none⟩ new 0).run P w=.ok () w'∧w'.heap[b]?=some (.cells (layL cs off new).toArray ct (0,0))∧(∀b',b'<w.heap.size→b'≠b→h b'=none→w'.heap[b']?=w.heap[b']?)∧
      Sub h w'∧w.heap.size≤w'.heap.size∧w'.os=w.os∧w'.tape=w.tape∧w'.output=w.output:=by
  have hs':Sub (h.set b (.cells cs.toArray ct (0,0))) w:=by
    intro i o e
    unfold Hp.set at e
    by_cases hi:i=b
    · subst hi;simp at e;subst e;exact hb
    · simp [hi] at e;exact hs i o e
  have e0:(h.set b (.cells cs.toArray ct (0,0))) b=some (.cells cs.toArray ct (0,0)):=by simp [Hp.set]
  obtain ⟨w',hr,hst⟩:=zha (P:=P) (a:=⟨b,off,none⟩) new 0 _ w hs' hok (fun j hj=>by
    rw [zdh]
    refine ⟨⟨cs[off+(0+j)]'(by omega),?_⟩,?_⟩
    · simp only [hcell,e0]
      simp
    · simp only [hfroz,e0]
      simp)
  obtain ⟨h1,h2⟩:=zge1 b ct new _ 0 off cs (by omega) e0
  refine ⟨w',hr,hst.sub _ _ h1,fun b' hb' hne hn'=>(hst.keep b' hb' (by simp [Hp.set,hne,hn'])).1,fun i o e=>hst.sub i o ?_,hst.size,hst.os,hst.tape,hst.output⟩
  have hi:i≠b:=fun e'=>by rw [e',hn] at e;cases e
  rw [h2 i hi]
  simp [Hp.set,hi,e]
theorem RR.storeM (hr:RR n Cur Liv D N β s a h w) {k ct:Nat} {cs cs':List Value} {w':World} (hm:s.m k=some cs) (hL:Liv k)
    (hb:w'.heap[β k]?=some (.cells cs'.toArray ct (0,0))) (ho:∀b',b'<w.heap.size→b'≠β k→h b'=none→w'.heap[b']?=w.heap[b']?) (hs:Sub h w'):
    RR n Cur Liv D N β (s.putM k cs') a h w':=by
  refine ⟨hr.sz,hs,hr.lt,hr.chain,hr.cur,hr.und,fun k' cs2 e hl=> ?_,fun k1 k2 e1 e2=>hr.inj k1 k2 ?_ ?_,fun k' hk'=> ?_,hr.nref⟩
  · by_cases ek:k'=k
    · subst ek
      rw [zgd1] at e;cases e
      exact ⟨(hr.box k' cs hm hL).1,ct,hb⟩
    · rw [zrn _ _ ek] at e
      obtain ⟨h1,ct',h2⟩:=hr.box k' cs2 e hl
      refine ⟨h1,ct',?_⟩
      rw [ho _ (zhr1 h2) (fun e'=>ek (hr.inj k' k (by simp [e]) (by simp [hm]) hl hL e')) h1]
      exact h2
  · intro e
    by_cases ek:k1=k
    · rw [ek,hm] at e;cases e
    · exact e1 (by rw [zrn _ _ ek];exact e)
  · intro e
    by_cases ek:k2=k
    · rw [ek,hm] at e;cases e
    · exact e2 (by rw [zrn _ _ ek];exact e)
  · by_cases ek:k'=k
    · have:=hr.nrefm k' hk'
      rw [ek,hm] at this;cases this
    · rw [zrn _ _ ek]
      exact hr.nrefm k' hk'
end
end Lf

namespace Lf
open Go
section
variable {n:Nat} {Cur Liv D N:Nat→Prop} {β:Nat→Nat} {s:St} {a:Act} {h:Hp} {w:World}
theorem RR.putO (hr:RR n Cur Liv D N β s a h w) {dst:Option Nat} {l:LV} {ch:Chain} {v:Value} (hd:∀d,dst=some d→d<n∧¬D d) (hch:∀p∈ch,D p.1)
    (h1:holds s ch→v=LVal β l∧∀k o,(l=.box k o∨l=.boxd k o)→Liv k∧¬N k) (h2:¬holds s ch→v=undef):
    RR n (fun t=>dst=some t∨Cur t) Liv D N β (s.put dst l ch) (a.put dst v) h w:=by
  cases dst with
  | none=>exact hr.congr (fun t=>by simp) (fun _=>.rfl) (fun _ e=>e) (fun _ e=>e)
  | some d=>
    obtain ⟨hdn,hD⟩:=hd d rfl
    have h3:=(hr.lift hdn hD hch fun hh k o e=>(((h1 hh).2 k o e).2)).exec (v:=v) (zwq s d l ch) (fun e=>e.1 rfl)
      (fun hh=>⟨(h1 ((zro hD hch).1 hh)).1,fun k o e=>((h1 ((zro hD hch).1 hh)).2 k o e).1⟩) (fun hh=>h2 fun e=>hh ((zro hD hch).2 e))
    refine h3.congr (fun t=> ?_) (fun _=>.rfl) (fun _ e=>e) (fun _ e=>e)
    by_cases ht:t=d
    · simp [ht]
    · simp [ht,Ne.symm ht]
theorem zah2 (hr:RR n Cur Liv D N β s a h w) {c:Chain} {ops:List Oper} {m:Nat} {o:Oper} (hch:zlp ops m o=some c) (hg:zlq s c=true)
    (hgd:∀j b p d,o.guard=some (j,b)→nth ops j=some p→p.dst=some d→D d):∀p∈c,D p.1:=by
  cases m with
  | zero=>simp [zlp] at hch
  | succ m=>
    simp only [zlp] at hch
    split at hch
    · cases hch;simp
    · rename_i j b hgu
      split at hch
      · rename_i p hp
        split at hch
        · rename_i d c' hd hc'
          cases hch
          simp only [zlq] at hg
          split at hg
          · rename_i t c2 hf
            cases h1:chEq c2 c' with
            | false=>simp [h1] at hg
            | true=>
              have:=zoo1 h1
              subst this
              intro q hq
              rcases List.mem_cons.1 hq with rfl | hq
              · exact hgd j b p d hgu hp hd
              · exact hr.chain d _ _ hf q hq
          · cases hg
        · cases hch
      · cases hch
theorem zmn1 (hr:RR n Cur Liv D N β s a h w) {ch:Chain} {ops:Array Oper} {m:Nat} {o:Oper} (hch:zlp ops.toList m o=some ch) (hg:zlq s ch=true)
    (hgc:∀j b p d,o.guard=some (j,b)→nth ops.toList j=some p→p.dst=some d→Cur d):Region.wanted o (yielded ops a.tmps)=true↔holds s ch:=by
  cases m with
  | zero=>simp [zlp] at hch
  | succ m=>
    simp only [zlp] at hch
    split at hch
    · rename_i hgu
      cases hch
      simp [Region.wanted,hgu,zbn]
    · rename_i j b hgu
      split at hch
      · rename_i p hp
        split at hch
        · rename_i d c' hd hc'
          cases hch
          simp only [zlq] at hg
          split at hg
          · rename_i t c2 hf
            cases h1:chEq c2 c' with
            | false=>simp [h1] at hg
            | true=>
              have:=zoo1 h1
              subst this
              have hC:=hgc j b p d hgu hp hd
              have hlt:d<a.tmps.size:=by rw [hr.sz];exact hr.lt d _ _ hf
              have hpj:ops[j]?=some p:=by rw [zfl] at hp;simpa using hp
              have hy:yielded ops a.tmps j=match a.eval (.tmp d) with | .bool b=>some b | _=>none:=by
                unfold yielded
                simp only [hpj,Option.bind_some,hd,Act.eval]
                have:a.tmps[d]?=some (a.tmps[d]'hlt):=Array.getElem?_eq_getElem hlt
                simp only [this,Array.getD_eq_getD_getElem?,Option.getD_some]
                generalize a.tmps[d]=v
                cases v<;>rfl
              simp only [Region.wanted,hgu,hy]
              by_cases hh:holds s c2
              · have:=(hr.cur d _ _ hf hC hh).1
                rw [this]
                simp only [LVal]
                constructor
                · intro e
                  have e:t=b:=by simpa using e
                  subst e
                  intro q hq
                  rcases List.mem_cons.1 hq with rfl | hq
                  · simp [hb,hf]
                  · exact hh q hq
                · intro e
                  have:=e (d,b) (List.mem_cons_self ..)
                  simp only [hb,hf] at this
                  simpa using this
              · have:=hr.und d _ _ hf hC hh
                rw [this]
                simp only [undef]
                refine ⟨fun e=>by simp at e,fun e=>absurd (fun q hq=>e q (List.mem_cons_of_mem _ hq)) hh⟩
          · cases hg
        · cases hch
      · cases hch
def privA (priv:List Nat) (o:Oper) (k:Nat):Prop:=zaw priv o=true∧o.dst=some k
structure OpOut (C:Ctx) (l mok:List Nat) (n:Nat) (Cur Liv D N:Nat→Prop) (o:Oper) (β:Nat→Nat) (s:St) (a:Act) (h:Hp) (w:World) (β':Nat→Nat) (s':St) (a':Act) (h':Hp) (w':World):Prop where
  rr:RR n (fun t=>o.dst=some t∨Cur t) (fun k=>privA C.priv o k∨Liv k) D (fun k=>¬privA C.priv o k∧N k) β' s' a' h' w'
  seg:Seg l mok (live s Liv) β a h w (live s' fun k=>privA C.priv o k∨Liv k) β' a' h' w'
  f:∀t,o.dst≠some t→s'.f t=s.f t
  m:∀k,s'.m k=s.m k∨privA C.priv o k∨(chg o s k=true∧isVal C.tb o=false∧s.m k≠none∧Liv k)
  hv:isVal C.tb o=true→h'=h
  hp:zaw C.priv o=true→h'=h
theorem zox1 {C:Ctx} {o:Oper} (h:zaw C.priv o=false) (k:Nat):¬privA C.priv o k:=fun e=>by have:=e.1;rw [h] at this;cases this
theorem zvz1 {C:Ctx} {l mok:List Nat} {o:Oper} {s':St} {a':Act} {h':Hp} {w':World} (hp:zaw C.priv o=false)
    (rr:RR n (fun t=>o.dst=some t∨Cur t) Liv D N β s' a' h' w') (seg:Seg l mok (live s Liv) β a h w (live s' Liv) β a' h' w')
    (f:∀t,o.dst≠some t→s'.f t=s.f t) (m:∀k,s'.m k=s.m k∨(chg o s k=true∧isVal C.tb o=false∧s.m k≠none∧Liv k)) (hv:isVal C.tb o=true→h'=h):
    OpOut C l mok n Cur Liv D N o β s a h w β s' a' h' w':=by
  have e1:∀k,(privA C.priv o k∨Liv k)↔Liv k:=fun k=>⟨fun e=>e.resolve_left (zox1 hp k),.inr⟩
  refine ⟨rr.congr (fun _=>.rfl) e1 (fun _ e=>e) (fun _ e=>e.2),seg.mono (fun _ e=>e) (fun _ e=>e) (fun _ e=>e) (fun k e=>⟨e.1,(e1 k).1 e.2⟩),f,fun k=>(m k).imp id .inr,hv,fun e=>by rw [hp] at e;cases e⟩
theorem put_f (s:St) (d:Option Nat) (l:LV) (ch:Chain) (t:Nat) (h:d≠some t):(s.put d l ch).f t=s.f t:=by
  cases d with
  | none=>rfl
  | some d=>exact zkh1 s l ch fun e=>h (by rw [e])
theorem put_m (s:St) (d:Option Nat) (l:LV) (ch:Chain):(s.put d l ch).m=s.m:=by cases d<;>rfl
theorem zsj {C:Ctx} {o:Oper} (h:isVal C.tb o=true):zaw C.priv o=false:=by
  obtain ⟨dst,op,ty,pos,after,guard⟩:=o
  cases op<;>first | rfl | (simp [isVal] at h;done) | (cases dst<;>simp [isVal,zaw] at h ⊢)
theorem zai2 (hr:RR n Cur Liv D N β s a h w) {o:Oper} {ch:Chain} {l:LV} (hp:Prov o ch s l) (hh:holds s ch) (hcur:∀t,Operand.tmp t∈o.op.operands→Cur t):
    ∀k off,(l=.box k off∨l=.boxd k off)→Liv k∧¬N k:=by
  intro k off e
  obtain ⟨x,hx,off',hev⟩:=hp k off e
  rcases hev with hev | hev
  · obtain ⟨t,c,rfl,hf,hc⟩:=zjx1 hev (by simp) hh
    exact ⟨(hr.cur t _ c hf (hcur t hx) hc).2 k off' (.inl rfl),fun hN=>(hr.nref k hN t _ c hf hc off').1 rfl⟩
  · obtain ⟨t,c,rfl,hf,hc⟩:=zjx1 hev (by simp) hh
    exact ⟨(hr.cur t _ c hf (hcur t hx) hc).2 k off' (.inr rfl),fun hN=>(hr.nref k hN t _ c hf hc off').2 rfl⟩
theorem zaj2 {C:Ctx} (ok:C.tb.Ok C.P) {ops:Array Oper} {l mok:List Nat} {K:St→Hp→Prop} {i:Nat} {o:Oper} (hi:ops[i]?=some o) (hv:opW C ops.toList mok o s h K)
    (hr:RR n Cur Liv D N β s a h w) (hcur:∀t,Operand.tmp t∈o.op.operands→Cur t)
    (hgc:∀j b p d,o.guard=some (j,b)→nth ops.toList j=some p→p.dst=some d→Cur d∧D d) (hdn:∀d,o.dst=some d→d<n∧¬D d∧d∈l)
    (hN:∀d,privA C.priv o d→N d∧¬Liv d) (next:Act→World→Prop) (Q:Exit→Act→World→Prop)
    (hn:∀s' h' β' a' w',K s' h'→OpOut C l mok n Cur Liv D N o β s a h w β' s' a' h' w'→next a' w'):wpOp C.P ops Q i next a w:=by
  unfold opW at hv
  split at hv
  · exact hv.elim
  rename_i ch hch
  cases hg:zlq s ch with
  | false=>simp [hg] at hv
  | true=>
  simp only [hg,cond_true] at hv
  have hgc':∀j b p d,o.guard=some (j,b)→nth ops.toList j=some p→p.dst=some d→Cur d:=fun j b p d e1 e2 e3=>(hgc j b p d e1 e2 e3).1
  have hw:=zmn1 hr hch hg hgc'
  have hD:=zah2 hr hch hg fun j b p d e1 e2 e3=>(hgc j b p d e1 e2 e3).2
  have hopnd:∀x∈o.op.operands,Opnd β s a.eval x:=fun x hx=>ztj1 hr fun t e=>hcur t (e▸hx)
  have hd1:∀d,o.dst=some d→d<n∧¬D d:=fun d e=>⟨(hdn d e).1,(hdn d e).2.1⟩
  have hdl:∀d,o.dst=some d→d∈l:=fun d e=>(hdn d e).2.2
  unfold wpOp
  simp only [hi]
  have live_put:∀(l:LV) k,live (s.put o.dst l ch) Liv k↔live s Liv k:=fun l k=>by unfold live;rw [put_m]
  have doVal:∀(lv:LV) (h':Hp) (v:Value) (w':World),K (s.put o.dst lv ch) h'→zaw C.priv o=false→(isVal C.tb o=true→h'=h)→Step h h' w w'→
      (holds s ch→v=LVal β lv∧∀k off,(lv=.box k off∨lv=.boxd k off)→Liv k∧¬N k)→(¬holds s ch→v=undef)→next (a.put o.dst v) w':=by
    intro lv h' v w' hk hp hvv hst h1 h2
    refine hn _ _ β _ _ hk (zvz1 hp ((hr.step hst).putO hd1 hD h1 h2) ?_ (fun t ht=>put_f s _ _ _ t ht) (fun k=>.inl (by rw [put_m])) hvv)
    refine ((Seg.step hst).trans (Seg.put (lv:=live s Liv) hdl)).mono (fun _ e=>e) (fun _ e=>e) (fun _ e=>e) (fun k e=>(live_put lv k).1 e)
  cases hval:isVal C.tb o with
  | true=>
    simp only [hval,cond_true] at hv
    obtain ⟨lv,hk,hrun,hprov⟩:=zmk1 ok hv
    by_cases hh:holds s ch
    · rw [if_pos (hw.2 hh)]
      left
      obtain ⟨w',hrw,hw1,hst⟩:=hrun hh β a.eval w hopnd (fun _=>hr.sub) (fun _=>zag2 hr hcur)
      unfold Oper.wp
      rw [hrw]
      have hst':Step h h w w':=by
        cases hkd:kindD C.tb o ch s with
        | mem=>exact hst hkd
        | pure=>rw [hw1 (by rw [hkd];simp)];exact .refl hr.sub
        | box=>rw [hw1 (by rw [hkd];simp)];exact .refl hr.sub
      exact doVal lv h _ w' hk (zsj hval) (fun _=>rfl) hst' (fun _=>⟨rfl,zai2 hr hprov hh hcur⟩) (fun e=>absurd hh e)
    · rw [if_neg (fun e=>hh (hw.1 e))]
      exact doVal lv h _ w hk (zsj hval) (fun _=>rfl) (.refl hr.sub) (fun e=>absurd e hh) (fun _=>rfl)
  | false=>
    simp only [hval,cond_false] at hv
    have doEff0:zaw C.priv o=false→(EffOk C.P o ch s h fun l h'=>K (s.put o.dst l ch) h')→
        if Region.wanted o (yielded ops a.tmps)=true then o.wp C.P a w next Q∨o.asks C.P a w∧LetsOut Q else next (a.put o.dst undef) w:=by
      intro hp hv
      obtain ⟨h1,h2⟩:=hv
      by_cases hh:holds s ch
      · rw [if_pos (hw.2 hh)]
        left
        refine h1 hh β a w hopnd hr.sub next Q fun x h' w' hk hst=> ?_
        exact doVal (.v x) h' x w' hk hp (fun e=>by rw [hval] at e;cases e) hst (fun _=>⟨rfl,fun k off e=>by rcases e with e | e<;>cases e⟩) (fun e=>absurd hh e)
      · rw [if_neg (fun e=>hh (hw.1 e))]
        obtain ⟨x,hk⟩:=h2 hh
        exact doVal (.v x) h undef w hk hp (fun _=>rfl) (.refl hr.sub) (fun e=>absurd e hh) (fun _=>rfl)
    have doEff:zaw C.priv o=false→(effW C.P C.tb o ch s h fun l h'=>K (s.put o.dst l ch) h')→
        if Region.wanted o (yielded ops a.tmps)=true then o.wp C.P a w next Q∨o.asks C.P a w∧LetsOut Q else next (a.put o.dst undef) w:=fun hp hv=>doEff0 hp (zxw1 ok hv)
    have doNew:∀(d:Nat) (cs:List Value) (t:Nat),K ((s.put (some d) (.box d 0) []).putM d cs) h→privA C.priv o d→ch=[]→has mok d=true→
        (execOp a.eval o).run C.P w=.ok (.value (.pointer (some ⟨w.heap.size,0,none⟩))) {w with heap:=w.heap.push (.cells cs.toArray t (0,0))}→
        if Region.wanted o (yielded ops a.tmps)=true then o.wp C.P a w next Q∨o.asks C.P a w∧LetsOut Q else next (a.put o.dst undef) w:=by
      intro d cs t hk hp he hmd hrun
      subst he
      rw [if_pos (hw.2 (zbn s))]
      left
      unfold Oper.wp
      rw [hrun]
      show next (a.put o.dst _) _
      rw [hp.2]
      obtain ⟨hdn1,hdD,hdl1⟩:=hdn d hp.2
      obtain ⟨hNd,hLd⟩:=hN d hp
      have hl:=hr.liftA cs hdn1 hdD hNd
      have hfd:((s.put (some d) (.box d 0) []).putM d cs).f d=some (.box d 0,[]):=zwq s _ _ _
      have hmd':((s.put (some d) (.box d 0) []).putM d cs).m d=some cs:=zgd1 _ _ _
      have hx:=hl.execA t hfd hmd' (fun e=>e.1 rfl) (fun e=>e.1 rfl)
      have hiff:∀k,privA C.priv o k↔k=d:=fun k=>⟨fun e=>by have:=e.2;rw [hp.2] at this;cases this;rfl,fun e=>e▸hp⟩
      refine hn _ _ _ _ _ hk ⟨hx.congr (fun t=> ?_) (fun k=> ?_) (fun _ e=>e) (fun k e=> ?_),?_,fun t ht=> ?_,fun k=> ?_,fun _=>rfl,fun _=>rfl⟩
      · rw [hp.2]
        by_cases e:t=d
        · simp [e]
        · simp [e,Ne.symm e]
      · rw [hiff]
        by_cases e:k=d
        · simp [e]
        · simp [e]
      · rw [hiff] at e
        exact ⟨e.1,e.2⟩
      · refine (segA (s:=(s.put (some d) (.box d 0) []).putM d cs) (Liv:=fun k=>k≠d∧Liv k) (β:=β) (a:=a) (l:=l) (mm:=mok) t hr.sub hmd' (fun e=>e.1 rfl) hdl1 ((zmk _ _).1 hmd)).mono
          (fun _ e=>e) (fun _ e=>e) (fun k e=>⟨fun e'=>e.1 ?_,e.2.2⟩) (fun k e=>⟨e.1,?_⟩)
        · rw [zrn _ _ e.2.1];exact e'
        · rcases e.2 with e2 | e2
          · exact .inl ((hiff k).1 e2)
          · by_cases ek:k=d
            · exact .inl ek
            · exact .inr ⟨ek,e2⟩
      · exact zkh1 s _ _ fun e=>ht (by rw [hp.2,e])
      · by_cases ek:k=d
        · exact .inr (.inl ((hiff k).2 ek))
        · exact .inl (zrn _ _ ek)
    split at hv
    · rename_i d hdst
      have hd0:o.dst=some d∧has C.priv d=true:=by
        unfold dstIn at hdst
        split at hdst
        · rename_i d' e
          cases h1:has C.priv d' with
          | true=>simp [h1] at hdst;subst hdst;exact ⟨e,h1⟩
          | false=>simp [h1] at hdst
        · cases hdst
      cases hmd:has mok d with
      | false=>simp [hmd] at hv
      | true=>
        simp only [hmd,cond_true] at hv
        split at hv
        · rename_i t hop
          split at hv
          · rename_i e he
            refine doNew d (zad e.zero) t hv ⟨by simp [zaw,hop,hd0],hd0.1⟩ rfl hmd ?_
            have e2:(zad e.zero).toArray=e.zero.cells:=by apply Array.ext';simp [zbr]
            rw [e2]
            simp [execOp,hop,Instr.alloc,run_zeroValue' ok he,newVar,zdk]
          · exact hv.elim
        · rename_i t x hop
          obtain ⟨v,hev,hv'⟩:=zbh hv
          refine doNew d (zad v) t hv' ⟨by simp [zaw,hop,hd0],hd0.1⟩ rfl hmd ?_
          have hx:=ev_ok (hopnd x (by simp [hop,Op.operands])) (zbn s) hev
          have e2:(zad v).toArray=v.cells:=by apply Array.ext';simp [zbr]
          rw [e2]
          simp [execOp,hop,hx,LVal,Instr.box,newVar,zdk]
        · exact hv.elim
    · exact hv.elim
    · rename_i hdst
      have hpa:zaw C.priv o=false:=by
        unfold dstIn at hdst
        unfold zaw
        split at hdst
        · rename_i d' e
          cases h1:has C.priv d' with
          | true=>simp [h1] at hdst
          | false=>rw [e];cases o.op<;>simp [h1]
        · rename_i e
          rw [e];cases o.op<;>simp
      split at hv
      · rename_i t x y hop
        split at hv
        · rename_i k off v hex hey
          split at hv
          · rename_i cs e hmk hte
            cases h1:has mok k with
            | false=>simp [h1] at hv
            | true=>
            cases h2:Nat.beq (zad v).length e.size with
            | false=>simp [h1,h2] at hv
            | true=>
            cases h3:Nat.ble (off+e.size) cs.length with
            | false=>simp [h1,h2,h3] at hv
            | true=>
            cases h4:zcz (zad v) with
            | false=>simp [h1,h2,h3,h4] at hv
            | true=>
            simp only [h1,h2,h3,h4,cond_true] at hv
            rw [if_pos (hw.2 (zbn s))]
            left
            have hxm:x∈o.op.operands:=by simp [hop,Op.operands]
            have hx:=ev_ok (hopnd x hxm) (zbn s) hex
            have hy:=ev_ok (hopnd y (by simp [hop,Op.operands])) (zbn s) hey
            obtain ⟨tt,c,rfl,hf,hc⟩:=zjx1 hex (by simp) (zbn s)
            have hL:Liv k:=(hr.cur tt _ c hf (hcur tt hxm) hc).2 k off (.inl rfl)
            obtain ⟨hb0,ct,hb1⟩:=hr.box k cs hmk hL
            have hlen0:(zad v).length=e.size:=Nat.eq_of_beq_eq_true h2
            obtain ⟨w',hrun,hb',hoth,hsub,hsize,h5,h6,h7⟩:=zqr1 (P:=C.P) (off:=off) hr.sub hb1 hb0 h4 (by rw [hlen0];exact Nat.le_of_ble_eq_true h3)
            have hsz:=run_sizeOf' ok hte w
            have hlen:v.cells.size=e.size:=by rw [←Array.length_toList,zbr];exact hlen0
            unfold Oper.wp
            have hrun2:(execOp a.eval o).run C.P w=.ok .skip w':=by
              simp only [execOp,hop,hx,hy,LVal,Instr.storeAt,Instr.sureAddr,Sem.run_bind,Sem.run_pure,Result.andThen_ok,storeVar,hsz,hlen,ne_eq,not_true,if_false,zbr]
              have:(if False then (stuck "storeVar: the value has not the size of the variable" :Sem Unit) else pure PUnit.unit).run C.P w=.ok () w:=rfl
              first | rw [this] | skip
              simp only [hrun,Result.andThen_ok]
            rw [hrun2,Oper.upon_skip]
            have hr2:=(hr.storeM hmk hL hb' hoth hsub).putO (dst:=o.dst) (l:=.v (.tuple #[])) (ch:=[]) (v:=undef) hd1 (by simp) (fun _=>⟨rfl,fun k off e=>by rcases e with e | e<;>cases e⟩) (fun e=>absurd (zbn _) e)
            have hes:((s.putM k (layL cs off (zad v))).put o.dst (.v (.tuple #[])) [])=((s.put o.dst (.v (.tuple #[])) []).putM k (layL cs off (zad v))):=by cases o.dst<;>rfl
            rw [hes] at hr2
            have hsm:∀j,((s.put o.dst (.v (.tuple #[])) []).putM k (layL cs off (zad v))).m j≠none→s.m j≠none:=fun j hj=>by
              by_cases ej:j=k
              · rw [ej,hmk];simp
              · rw [zrn _ _ ej,put_m] at hj;exact hj
            refine hn _ _ _ _ _ hv (zvz1 hpa hr2 ?_ (fun t ht=>put_f s _ _ _ t ht) (fun j=> ?_) (fun _=>rfl))
            · refine Seg.trans (lv1:=live s Liv) (β1:=β) (a1:=a) (h1:=h) (w1:=w') ⟨fun _ _=>rfl,fun _ _=>rfl,hsize,fun _ _ e _=>e,fun b hb hn hk=> ?_,fun _ e=>.inl ⟨e,rfl⟩,h5,h6,h7,rfl⟩ ((Seg.put (lv:=live s Liv) hdl).mono (fun _ e=>e) (fun _ e=>e) (fun _ e=>e) (fun j e=>⟨hsm j e.1,e.2⟩))
              exact hoth b hb (fun e=>hk k ((zmk _ _).1 h1) ⟨by rw [hmk];simp,hL⟩ e.symm) hn
            · by_cases ej:j=k
              · subst ej
                exact .inr ⟨by simp [chg,hop,hex],hval,by rw [hmk];simp,hL⟩
              · exact .inl (by rw [zrn _ _ ej,put_m])
          · exact hv.elim
        · exact doEff hpa hv
      · exact doEff0 hpa (zxx1 hv)
      · exact doEff hpa hv
end
end Lf

namespace Lf
open Go
abbrev Rel (n:Nat) (β:Nat→Nat) (s:St) (a:Act) (h:Hp) (w:World):Prop:=
  RR n (fun _=>True) (fun _=>True) (fun _=>False) (fun _=>False) β s a h w
abbrev lives (s:St):Nat→Prop:=live s fun _=>True
section
variable {n:Nat} {Cur Liv D N:Nat→Prop} {β:Nat→Nat} {s:St} {a:Act} {h:Hp} {w:World}
theorem zoy1 {s:St} {t:Nat} {l:LV} {c:Chain} (e:s.clean.f t=some (l,c)):s.f t=some (l,[])∧c=[]:=by
  simp only [St.clean] at e
  split at e
  · rename_i l' hf
    cases e
    exact ⟨hf,rfl⟩
  · cases e
theorem RR.clean (hr:RR n (fun _=>True) (fun _=>True) D N β s a h w):Rel n β s.clean a h w:=by
  refine ⟨hr.sz,hr.sub,fun t l c e=>hr.lt t l _ (zoy1 e).1,fun t l c e p hp=> ?_,fun t l c e _ _=>hr.cur t l _ (zoy1 e).1 trivial (zbn _),fun t l c e _ hh=> ?_,hr.box,hr.inj,fun _ e=>e.elim,fun _ e=>e.elim⟩
  · rw [(zoy1 e).2] at hp;cases hp
  · rw [(zoy1 e).2] at hh;exact absurd (zbn _) hh
theorem dropL'_some {l:List Nat} {x:Option (LV×Chain)} {v:LV} {c:Chain} (e:dropL' l x=some (v,c)):x=some (v,c)∧∀k o,(v=.box k o∨v=.boxd k o)→k∉l:=by
  unfold dropL' at e
  split at e
  · rename_i k o c'
    cases hk:has l k with
    | true=>simp [hk] at e
    | false=>
      simp only [hk,cond_false] at e
      cases e
      refine ⟨rfl,fun k' o' e'=> ?_⟩
      rcases e' with e' | e'<;>cases e'
      exact zrm hk
  · rename_i k o c'
    cases hk:has l k with
    | true=>simp [hk] at e
    | false=>
      simp only [hk,cond_false] at e
      cases e
      refine ⟨rfl,fun k' o' e'=> ?_⟩
      rcases e' with e' | e'<;>cases e'
      exact zrm hk
  · cases e
    exact ⟨rfl,fun k' o' e'=>by rcases e' with e' | e'<;>cases e'⟩
  · cases e
theorem zid1 {l:List Nat} {t:Nat} {v:LV} {c:Chain} (e:(s.dropB l).f t=some (v,c)):s.f t=some (v,c)∧∀k o,(v=.box k o∨v=.boxd k o)→k∉l:=by
  cases l with
  | nil=>exact ⟨e,fun _ _ _ e=>by cases e⟩
  | cons x l=>exact dropL'_some e
theorem zqs1 {l:List Nat} {k:Nat} {cs:List Value} (e:(s.dropB l).m k=some cs):s.m k=some cs∧k∉l:=by
  cases l with
  | nil=>exact ⟨e,fun e=>by cases e⟩
  | cons x l=>
    simp only [St.dropB] at e
    cases hk:has (x::l) k with
    | true=>simp [hk] at e
    | false=>
      simp only [hk,cond_false] at e
      exact ⟨e,zrm hk⟩
theorem RR.start (hr:Rel n β s a h w) (l:List Nat):RR n (fun _=>True) (fun k=>k∉l) (fun _=>False) (fun k=>k∈l) β (s.dropB l) a h w:=by
  refine ⟨hr.sz,hr.sub,fun t v c e=>hr.lt t v c (zid1 e).1,fun t v c e=>hr.chain t v c (zid1 e).1,fun t v c e _ hh=> ?_,fun t v c e _ hh=> ?_,fun k cs e _=>hr.box k cs (zqs1 e).1 trivial,fun k k' e e' _ _ he=> ?_,fun k hk=> ?_,fun k hk t v c e _ o=> ?_⟩
  · have hc:c=[]:=by
      cases c with
      | nil=>rfl
      | cons p c=>exact (hr.chain t v _ (zid1 e).1 p (List.mem_cons_self ..)).elim
    subst hc
    exact ⟨(hr.cur t v [] (zid1 e).1 trivial (zbn _)).1,(zid1 e).2⟩
  · have hc:c=[]:=by
      cases c with
      | nil=>rfl
      | cons p c=>exact (hr.chain t v _ (zid1 e).1 p (List.mem_cons_self ..)).elim
    subst hc
    exact absurd (zbn _) hh
  · obtain ⟨cs,e1⟩:=Option.ne_none_iff_exists'.1 e
    obtain ⟨cs',e1'⟩:=Option.ne_none_iff_exists'.1 e'
    exact hr.inj k k' (by simp [(zqs1 e1).1]) (by simp [(zqs1 e1').1]) trivial trivial he
  · cases e:(s.dropB l).m k with
    | none=>rfl
    | some cs=>exact absurd hk (zqs1 e).2
  · exact ⟨fun e'=>(zid1 e).2 k o (.inl e') hk,fun e'=>(zid1 e).2 k o (.inr e') hk⟩
theorem zqt1 {l:List Nat} {k:Nat} (e:live (s.dropB l) (fun k=>k∉l) k):lives s k:=by
  obtain ⟨cs,e1⟩:=Option.ne_none_iff_exists'.1 e.1
  exact ⟨by simp [(zqs1 e1).1],trivial⟩
theorem zag1 :∀(x y:List Oper),modsO (x++y)=modsO x++modsO y
  | [],y=>rfl
  | o::x,y=>by
    simp only [List.cons_append,modsO,zag1 x y]
    cases o.dst<;>rfl
theorem zkq {l:List Oper} {o:Oper} {d:Nat} (hm:o∈l) (hd:o.dst=some d):d∈modsO l:=by
  induction l with
  | nil=>cases hm
  | cons p l ih=>
    rcases List.mem_cons.1 hm with rfl | hm
    · simp [modsO,hd]
    · have:=ih hm
      simp only [modsO]
      cases p.dst<;>simp [this]
theorem zgf1 :∀ {l:List Nat},nodup l=true→l.Nodup
  | [],_=>.nil
  | a::l,h=>by
    simp only [nodup] at h
    cases ha:has l a with
    | true=>simp [ha] at h
    | false=>
      simp only [ha,cond_false] at h
      exact List.nodup_cons.2 ⟨zrm ha,zgf1 h⟩
theorem ztk1 {l:List Oper} {o:Oper} (h:zdk1 l=true) (hm:o∈l):o.guard=none:=by
  induction l with
  | nil=>cases hm
  | cons p l ih=>
    simp only [zdk1] at h
    split at h
    · rename_i hp
      rcases List.mem_cons.1 hm with rfl | hm
      · exact hp
      · exact ih h hm
    · cases h
theorem zde1 :∀ {l:List Oper} {i j:Nat} {o:Oper} {g:Nat} {b:Bool},zjb l i=true→l[j]?=some o→o.guard=some (g,b)→g<i+j
  | [],_,_,_,_,_,_,e,_=>by simp at e
  | p::l,i,0,o,g,b,h,e,hg=>by
    simp at e
    subst e
    simp only [zjb,hg] at h
    cases hb:Nat.blt g i with
    | true=>simp [Nat.blt] at hb;omega
    | false=>simp [hb] at h
  | p::l,i,j+1,o,g,b,h,e,hg=>by
    simp at e
    have h':zjb l (i+1)=true:=by
      simp only [zjb] at h
      split at h
      · exact h
      · rename_i j' b' _
        cases hb:Nat.blt j' i with
        | true=>simpa [hb] using h
        | false=>simp [hb] at h
    have:=zde1 h' e hg
    omega
theorem zsk {priv:List Nat} {o:Oper} {d:Nat} {r:List Oper} (h:privA priv o d):zbl priv (o::r)=d::zbl priv r:=by
  simp [zbl,h.1,h.2]
theorem zeh1 {priv:List Nat} {o:Oper} {r:List Oper} (h:∀d,¬privA priv o d):zbl priv (o::r)=zbl priv r:=by
  cases hp:zaw priv o with
  | false=>simp [zbl,hp]
  | true=>
    cases hd:o.dst with
    | none=>simp [zbl,hp,hd]
    | some d=>exact absurd ⟨hp,hd⟩ (h d)
theorem zqu1 {C:Ctx} (ok:C.tb.Ok C.P) {ops:Array Oper} {mok:List Nat} {K:St→Hp→Prop} {Q:Exit→Act→World→Prop} (g:Bool)
    (hlt:∀d∈modsO ops.toList,d<n) (hg:g=false→zdk1 ops.toList=true) (hg':g=true→(modsO ops.toList).Nodup∧zjb ops.toList 0=true):
    ∀(r pre:List Oper) (β:Nat→Nat) (s:St) (a:Act) (h:Hp) (w:World),ops.toList=pre++r→(zbl C.priv r).Nodup→seqW C ops.toList mok r s h K→
      RR n (fun _=>True) (fun k=>k∉zbl C.priv r) (fun t=>g=true∧t∈modsO pre) (fun k=>k∈zbl C.priv r) β s a h w→
      (∀s' h' β' a' w',K s' h'→RR n (fun _=>True) (fun _=>True) (fun t=>g=true∧t∈modsO ops.toList) (fun _=>False) β' s' a' h' w'→
        Seg (modsO ops.toList) mok (live s fun k=>k∉zbl C.priv r) β a h w (lives s') β' a' h' w'→Q .normal a' w')→
      wpOps C.P ops Q (List.range' pre.length r.length) a w
  | [],pre,β,s,a,h,w,hops,_,hv,hr,hn=>by
    simp only [List.length_nil,List.range'_zero]
    rw [List.append_nil] at hops
    exact hn s h β a w hv (hr.congr (fun _=>.rfl) (fun k=>by simp [zbl]) (fun t e=>by rw [hops];exact e) (fun k e=>e.elim)) ((Seg.refl _ _).mono (fun _ e=>e) (fun _ e=>e) (fun _ e=>e) (fun k e=>⟨e.1,by simp [zbl]⟩))
  | o::r,pre,β,s,a,h,w,hops,hnd,hv,hr,hn=>by
    simp only [List.length_cons,List.range'_succ,wpOps_cons]
    have hi:ops[pre.length]?=some o:=by
      have:ops.toList[pre.length]?=some o:=by rw [hops];simp
      simpa using this
    have hmem:o∈ops.toList:=by rw [hops];simp
    have hA:∀k,(privA C.priv o k∨k∉zbl C.priv (o::r))↔k∉zbl C.priv r:=by
      intro k
      by_cases hp:∃d,privA C.priv o d
      · obtain ⟨d,hp⟩:=hp
        rw [zsk hp] at hnd ⊢
        have hnd:=List.nodup_cons.1 hnd
        constructor
        · rintro (e | e)
          · have:k=d:=by have h1:=e.2;rw [hp.2] at h1;cases h1;rfl
            rw [this];exact hnd.1
          · exact fun e'=>e (List.mem_cons_of_mem _ e')
        · intro e
          by_cases ek:k=d
          · rw [ek];exact .inl hp
          · exact .inr fun e' => by rcases List.mem_cons.1 e' with e' | e'
                                    · exact ek e'
                                    · exact e e'
      · have hp':∀d,¬privA C.priv o d:=fun d e=>hp ⟨d,e⟩
        rw [zeh1 hp']
        exact ⟨fun e=>e.resolve_left (hp' k),.inr⟩
    have hA':∀k,k∈zbl C.priv r→¬privA C.priv o k∧k∈zbl C.priv (o::r):=fun k hk=>
      ⟨fun e=>(hA k).1 (.inl e) hk,Classical.byContradiction fun e=>(hA k).1 (.inr e) hk⟩
    have hnd':(zbl C.priv r).Nodup:=by
      by_cases hp:∃d,privA C.priv o d
      · obtain ⟨d,hp⟩:=hp
        rw [zsk hp] at hnd
        exact (List.nodup_cons.1 hnd).2
      · rwa [zeh1 fun d e=>hp ⟨d,e⟩] at hnd
    refine zaj2 (l:=modsO ops.toList) ok hi hv hr (fun _ _=>trivial) (fun j b p d e1 e2 e3=>⟨trivial,?_⟩) (fun d e=>⟨hlt d (zkq hmem e),fun e'=> ?_,zkq hmem e⟩) (fun d hp=> ?_) _ Q fun s' h' β' a' w' hk out=> ?_
    · cases g with
      | false=>rw [ztk1 (hg rfl) hmem] at e1;cases e1
      | true=>
        refine ⟨rfl,?_⟩
        have hj:=zde1 (j:=pre.length) (hg' rfl).2 (by rw [hops];simp) e1
        rw [zfl,hops,List.getElem?_append_left (by omega)] at e2
        exact zkq (List.mem_of_getElem? e2) e3
    · have hN:=(hg' e'.1).1
      rw [hops,zag1] at hN
      have h1:d∈modsO (o::r):=zkq (List.mem_cons_self ..) e
      exact (List.nodup_append.1 hN).2.2 d e'.2 d h1 rfl
    · have:d∈zbl C.priv (o::r):=by rw [zsk hp];simp
      exact ⟨this,fun e=>e this⟩
    · have hops':ops.toList=(pre++ [o])++r:=by rw [hops];simp
      have:=zqu1 ok g hlt hg hg' r (pre++ [o]) β' s' a' h' w' hops' hnd' hk
        (out.rr.congr (fun t=>by simp) (fun k=>(hA k).symm) (fun t e=>⟨e.1,by rw [zag1];exact List.mem_append_left _ e.2⟩) hA')
        (fun s2 h2 β2 a2 w2 hk2 hr2 hs2=>hn s2 h2 β2 a2 w2 hk2 hr2 (out.seg.trans (hs2.mono (fun _ e=>e) (fun _ e=>e) (fun k e=>⟨e.1,(hA k).2 e.2⟩) (fun _ e=>e))))
      simpa using this
end
end Lf

namespace Lf
open Go
theorem condT {b x:Bool} (h:cond b x false=true):b=true∧x=true:=by
  cases b
  · cases h
  · exact ⟨rfl,h⟩
theorem zei1 :∀(n:Nat) (l:List Nat),l.Nodup→(∀x∈l,x<n)→l.length≤n
  | 0,l,_,h=>by
    cases l with
    | nil=>simp
    | cons a l=>exact absurd (h a (List.mem_cons_self ..)) (Nat.not_lt_zero _)
  | n+1,l,hn,h=>by
    by_cases hm:n∈l
    · have h1:=zei1 n (l.erase n) (hn.erase n) (fun x hx=>by
        have h2:=(hn.mem_erase_iff).1 hx
        have:=h x h2.2
        have:=h2.1
        omega)
      rw [List.length_erase_of_mem hm] at h1
      omega
    · have:=zei1 n l hn (fun x hx=>by
        have h1:=h x hx
        have:x≠n:=fun e=>hm (e▸hx)
        omega)
      omega
theorem zfr2 {n:Nat} {l:List Nat} (hn:l.Nodup) (h:∀x∈l,x<n) (hl:n≤l.length) {j:Nat} (hj:j<n):j∈l:=by
  refine Classical.byContradiction fun e=> ?_
  have:=zei1 n (j::l) (List.nodup_cons.2 ⟨e,hn⟩) (fun x hx=>by
    rcases List.mem_cons.1 hx with rfl | hx
    · exact hj
    · exact h x hx)
  simp at this
  omega
def Clos (L:List Oper) (X:Nat→Prop):Prop:=∀i o,L[i]?=some o→X i→∀j∈waits o,X j
def Ahead (L:List Oper) (i j:Nat):Prop:=∀X:Nat→Prop,Clos L X→(∀o,L[i]?=some o→∀k∈waits o,X k)→X j
theorem zah1 {l m:List Nat} (h:allIn l m=true):∀x∈l,x∈m:=by
  induction l with
  | nil=>intro x hx;cases hx
  | cons a l ih=>
    simp only [allIn] at h
    cases ha:has m a with
    | false=>simp [ha] at h
    | true=>
      simp only [ha,cond_true] at h
      intro x hx
      rcases List.mem_cons.1 hx with rfl | hx
      · exact (zmk _ _).1 ha
      · exact ih h x hx
theorem zak2 {o:Oper} {e:Edge} (he:e∈o.after) (hb:Region.binds .any e=true):e.on∈waits o:=by
  have key:∀l:List Edge,e∈l→e.on∈waits.go l:=by
    intro l
    induction l with
    | nil=>intro h;cases h
    | cons x l ih=>
      intro h
      simp only [waits.go]
      rcases List.mem_cons.1 h with rfl | h
      · have:zut e=true:=by
          unfold Region.binds at hb
          unfold zut
          cases hg:e.ground<;>simp [hg] at hb ⊢
        simp [this]
      · cases zut x
        · exact ih h
        · exact List.mem_cons_of_mem _ (ih h)
  exact key _ (by simpa using he)
theorem zwa1 {k:Nat} {l:List Nat} {j:Nat} (h:j∈addN k l):j=k∨j∈l:=by
  unfold addN at h
  cases hh:has l k with
  | true=>rw [hh] at h;exact .inr h
  | false=>rw [hh] at h;exact List.mem_cons.1 h
theorem zwb1 {j:Nat}:∀ {a b:List Nat},j∈mrgN a b→j∈a∨j∈b
  | [],_,h=>.inr h
  | k::r,b,h=>by
    rcases zwb1 (a:=r) (b:=addN k b) h with h | h
    · exact .inl (List.mem_cons_of_mem _ h)
    · rcases zwa1 h with rfl | h
      · exact .inl (List.mem_cons_self ..)
      · exact .inr h
theorem zqv1 {acc:List (List Nat)}:∀ {l:List Nat} {j:Nat},j∈aheads.union l acc→j∈l∨∃k∈l,∃x,nth acc k=some x∧j∈x
  | [],j,h=>by simp [aheads.union] at h
  | k::l,j,h=>by
    simp only [aheads.union] at h
    rcases zwa1 h with rfl | h
    · exact .inl (List.mem_cons_self ..)
    · rcases zwb1 h with h | h
      · split at h
        · rename_i x hx
          exact .inr ⟨k,List.mem_cons_self ..,x,hx,h⟩
        · cases h
      · rcases zqv1 h with h | ⟨k',h1,h2⟩
        · exact .inl (List.mem_cons_of_mem _ h)
        · exact .inr ⟨k',List.mem_cons_of_mem _ h1,h2⟩
theorem zqw1 {L:List Oper}:∀(r pre:List Oper) (acc:List (List Nat)),L=pre++r→acc.length=pre.length→(∀i x,nth acc i=some x→∀j∈x,Ahead L i j)→
    ∀i x,nth (aheads r acc) i=some x→∀j∈x,Ahead L i j
  | [],_,acc,_,_,h=>h
  | o::r,pre,acc,hL,hl,h=>by
    refine zqw1 r (pre++ [o]) _ (by simp [hL]) (by simp [zmg1,hl]) fun i x hx j hj=> ?_
    rw [zfl,zmg1] at hx
    rcases Nat.lt_trichotomy i acc.length with hi | hi | hi
    · rw [List.getElem?_append_left hi,←zfl] at hx
      exact h i x hx j hj
    · subst hi
      simp at hx
      subst hx
      intro X hX hw
      have ho:L[acc.length]?=some o:=by rw [hL,hl];simp
      rcases zqv1 hj with hj | ⟨k,hk,y,hy,hjy⟩
      · exact hw o ho j hj
      · exact h k y hy j hjy X hX fun o' ho' k' hk'=>hX k o' ho' (hw o ho k hk) k' hk'
    · rw [List.getElem?_append_right (Nat.le_of_lt hi),List.getElem?_eq_none (by simp;omega)] at hx
      cases hx
theorem zqt {L:List Oper} {i j:Nat} (h:j∈zct (aheads L []) i):Ahead L i j:=by
  unfold zct at h
  split at h
  · rename_i x hx
    exact zqw1 L [] [] rfl rfl (fun i x hx=>by simp [nth] at hx) i x hx j h
  · cases h
theorem ztl1 :∀l:List (Nat×Operand),sndL l=l.map (·.2)
  | []=>rfl
  | (_,x)::l=>by simp [sndL,ztl1 l]
theorem zal2 :∀l:Option Operand,optL l=l.toArray.toList
  | none=>rfl
  | some x=>rfl
theorem zmo1 {op:Op} {l:List Operand} (h:zzl1 op=some l):∀x∈op.operands,x∈l:=by
  cases op with
  | call c=>
    obtain ⟨callee,args,ats⟩:=c
    cases callee with
    | value f=>cases h;intro x hx;simpa [Op.operands,Call.operands] using hx
    | builtin b=>cases h;intro x hx;simpa [Op.operands,Call.operands] using hx
    | invoke r m=>cases h
  | build t ps=>cases h;intro x hx;simpa [Op.operands,ztl1] using hx
  | buildSlice t n ps=>cases h;intro x hx;simpa [Op.operands,ztl1] using hx
  | makeFunc fn a b=>cases h;intro x hx;simpa [Op.operands,zmg1] using hx
  | makeMap t r=>cases h;intro x hx;simpa [Op.operands,zal2] using hx
  | slice t x lo hi mx=>cases h;intro x hx;simpa [Op.operands,zmg1,zal2,or_assoc] using hx
  | alloc t=>cases h;intro x hx;simp [Op.operands] at hx
  | _=>first | (cases h;done) | (cases h;intro x hx;simpa [Op.operands] using hx)
theorem zmp1 {rows:List (List Nat)} {i t:Nat}:∀ {l:List Oper} {j0:Nat},zmf1 rows i t l j0=true→∀j p,l[j]?=some p→p.dst=some t→
    j0+j∈zct rows i∨i=j0+j∨i∈zct rows (j0+j)
  | [],_,_,j,p,e,_=>by simp at e
  | q::l,j0,h,j,p,e,hd=>by
    simp only [zmf1] at h
    cases h1:(cond (dstIs q t) (cond (has (zct rows i) j0) true (cond (Nat.beq i j0) true (has (zct rows j0) i))) true) with
    | false=>rw [h1] at h;cases h
    | true=>
      rw [h1] at h
      cases j with
      | zero=>
        simp at e
        subst e
        have:dstIs q t=true:=by simp [dstIs,hd]
        rw [this] at h1
        simp only [cond_true] at h1
        cases h2:has (zct rows i) j0 with
        | true=>exact .inl ((zmk _ _).1 h2)
        | false=>
          rw [h2] at h1
          simp only [cond_false] at h1
          cases h3:Nat.beq i j0 with
          | true=>exact .inr (.inl (Nat.eq_of_beq_eq_true h3))
          | false=>
            rw [h3] at h1
            exact .inr (.inr ((zmk _ _).1 h1))
      | succ j=>
        have:=zmp1 (l:=l) (j0:=j0+1) h j p (by simpa using e) hd
        rwa [show j0+1+j=j0+(j+1) from by omega] at this
theorem zej1 {L:List Oper} {rows:List (List Nat)} {i t:Nat}:∀ {l:List Operand},looksOk.go L rows i l=true→Operand.tmp t∈l→zmf1 rows i t L 0=true
  | [],_,hm=>by cases hm
  | x::l,h,hm=>by
    cases x with
    | tmp u=>
      simp only [looksOk.go] at h
      cases h1:zmf1 rows i u L 0 with
      | false=>simp [h1] at h
      | true=>
        simp only [h1,cond_true] at h
        rcases List.mem_cons.1 hm with e | hm
        · cases e;exact h1
        · exact zej1 h hm
    | _=>
      simp only [looksOk.go] at h
      rcases List.mem_cons.1 hm with e | hm
      · cases e
      · exact zej1 h hm
theorem zxy1 {L:List Oper} {rows:List (List Nat)} {i t:Nat} {o:Oper} (h:looksOk L rows i o=true) (hm:Operand.tmp t∈o.op.operands) {j:Nat} {p:Oper} (hj:L[j]?=some p) (hd:p.dst=some t):
    j∈zct rows i∨i=j∨i∈zct rows j:=by
  unfold looksOk at h
  split at h
  · rename_i l hl
    cases h1:looksOk.go L rows i l with
    | false=>simp [h1] at h
    | true=>
      have:=zmp1 (zej1 h1 (zmo1 hl _ hm)) j p hj hd
      simpa using this
  · cases h
theorem zek1 {L:List Oper} {rows:List (List Nat)} {i j:Nat} {b:Bool} {o:Oper} (h:looksOk L rows i o=true) (hg:o.guard=some (j,b)):j∈zct rows i:=by
  unfold looksOk at h
  split at h
  · rename_i l hl
    cases h1:looksOk.go L rows i l with
    | false=>simp [h1] at h
    | true=>
      simp only [h1,cond_true,hg] at h
      exact (zmk _ _).1 h
  · cases h
theorem ztm1 {o:Oper} {t:Nat} (hm:Operand.tmp t∈o.op.operands):looksAt o t=true:=by
  unfold looksAt
  split
  · rename_i l hl
    have hm':=zmo1 hl _ hm
    clear hl hm
    induction l with
    | nil=>cases hm'
    | cons x l ih=>
      rcases List.mem_cons.1 hm' with e | hm'
      · subst e;simp [looksAt.go]
      · have:=ih hm'
        cases x<;>simp only [looksAt.go]
        · rw [this];simp
        all_goals exact this
  · rfl
theorem zki1 {rows:List (List Nat)} {j d:Nat} {o:Oper} (hd:o.dst=some d):∀ {l:List Oper} {i0:Nat},isWar rows j o l i0=false→∀i p,l[i]?=some p→Operand.tmp d∈p.op.operands→j∈zct rows (i0+i)
  | [],_,_,i,p,e,_=>by simp at e
  | q::l,i0,h,i,p,e,hm=>by
    simp only [isWar,hd] at h
    cases h1:(cond (looksAt q d) (cond (has (zct rows i0) j) false true) false) with
    | true=>rw [h1] at h;cases h
    | false=>
      rw [h1] at h
      cases i with
      | zero=>
        simp at e
        subst e
        rw [ztm1 hm] at h1
        simp only [cond_true] at h1
        cases h2:has (zct rows i0) j with
        | true=>exact (zmk _ _).1 h2
        | false=>rw [h2] at h1;cases h1
      | succ i=>
        have:=zki1 hd (l:=l) (i0:=i0+1) h i p (by simpa using e) hm
        rwa [show i0+1+i=i0+(i+1) from by omega] at this
theorem zws {tb:Tb} {priv:List Nat} {ops:List Oper} {rows:List (List Nat)} {i:Nat} {ws:List Nat} {r:List (Nat×List Nat)} {done:List Nat} {last:Option Nat}
    (h:planGo tb priv ops rows ((i,ws)::r) done last=true):∃o,ops[i]?=some o∧(∀k∈waits o,k∈done)∧looksOk ops rows i o=true∧i∉done∧(∀e,last=some e→e∈zct rows i)∧
      (((isVal tb o=true∨zaw priv o=true)∧isWar rows i o ops 0=false∧planGo tb priv ops rows r (i::done) last=true)∨
       ((isVal tb o=true∨zaw priv o=true)∧isWar rows i o ops 0=true∧planGo tb priv ops rows r (i::done) (some i)=true)∨
       (isVal tb o=false∧zaw priv o=false∧planGo.watched tb ops rows ws i done=true∧planGo tb priv ops rows r (i::done) (some i)=true)):=by
  simp only [planGo] at h
  split at h
  · rename_i o ho
    rw [zfl] at ho
    obtain ⟨h12,h⟩:=condT h
    obtain ⟨h1,h2⟩:=condT h12
    cases h3:has done i with
    | true=>simp [h3] at h
    | false=>
      simp only [h3,cond_false] at h
      obtain ⟨h4,h⟩:=condT h
      refine ⟨o,ho,zah1 h1,h2,zrm h3,fun e he=> ?_,?_⟩
      · subst he
        exact (zmk _ _).1 h4
      · have hvp:∀x,(cond (isVal tb o) true (zaw priv o))=x→(x=true→isVal tb o=true∨zaw priv o=true)∧(x=false→isVal tb o=false∧zaw priv o=false):=by
          intro x e
          cases hv:isVal tb o<;>rw [hv] at e<;>simp at e<;>subst e<;>simp
        split at h
        · rename_i e1 e2
          exact .inl ⟨(hvp _ e1).1 rfl,e2,h⟩
        · rename_i e1 e2
          exact .inr (.inl ⟨(hvp _ e1).1 rfl,e2,h⟩)
        · rename_i e1
          cases h5:planGo.watched tb ops rows ws i done with
          | false=>simp [h5] at h
          | true=>
            simp only [h5,cond_true] at h
            exact .inr (.inr ⟨((hvp _ e1).2 rfl).1,((hvp _ e1).2 rfl).2,rfl,h⟩)
  · cases h
theorem zkj1 {tb:Tb} {ops:List Oper} {rows:List (List Nat)} {ws:List Nat} {e:Nat}:∀ {l:List Nat},planGo.watched tb ops rows ws e l=true→∀i∈l,∀o,ops[i]?=some o→isVal tb o=true→zev1 tb o=true→
    i∈ws∨i∈zct rows e
  | [],_,i,hi,_,_,_,_=>by cases hi
  | r::l,h,i,hi,o,ho,hv,hrd=>by
    simp only [planGo.watched] at h
    obtain ⟨h2,h⟩:=condT h
    rcases List.mem_cons.1 hi with rfl | hi
    · rw [zfl,ho] at h2
      simp only [hv,hrd,cond_true] at h2
      cases h3:has ws i with
      | true=>exact .inl ((zmk _ _).1 h3)
      | false=>
        rw [h3] at h2
        exact .inr ((zmk _ _).1 h2)
    · exact zkj1 h i hi o ho hv hrd
theorem zmq1 {tb:Tb} {priv:List Nat} {L:List Oper}:∀ {r:List (Nat×List Nat)} {done:List Nat} {e:Nat},planGo tb priv L (aheads L []) r done (some e)=true→
    ∀j∈r.map (·.1),Ahead L j e
  | [],_,_,_,j,hj=>by cases hj
  | (i,ws)::r,done,e,h,j,hj=>by
    obtain ⟨o,ho,_,_,_,hlast,hc⟩:=zws h
    have hie:=zqt (hlast e rfl)
    rcases List.mem_cons.1 hj with rfl | hj
    · exact hie
    · have step:∀e',(e'=e∨e'=i)→planGo tb priv L (aheads L []) r (i::done) (some e')=true→Ahead L j e:=by
        intro e' he' h'
        have h1:=zmq1 h' j hj
        rcases he' with rfl | rfl
        · exact h1
        · intro X hX hw
          have hXi:X e':=h1 X hX hw
          exact hie X hX fun o' ho' k hk=>hX e' o' ho' hXi k hk
      rcases hc with ⟨_,_,h'⟩ | ⟨_,_,h'⟩ | ⟨_,_,_,h'⟩
      · exact step e (.inl rfl) h'
      · exact step i (.inr rfl) h'
      · exact step i (.inr rfl) h'
end Lf

namespace Lf
open Go
def LdSh (tb:Tb) (o:Oper) (ch:Chain) (s:St) (l:LV):Prop:=
  kindD tb o ch s=.mem→∀t x,o.op=.load t x→∃(e:Ty) (y:e.sh.T),tb.ty t=some e∧l=.v (e.sh.enc y)
theorem zam2 {P:Program} {tb:Tb} (ok:tb.Ok P) {o:Oper} {ch:Chain} {s:St} {h:Hp} {K:LV→Prop} (hv:valW P tb o ch s h K):
    ∃l,K l∧(holds s ch→RunsK (kindD tb o ch s) P o s h l)∧Prov o ch s l∧LdSh tb o ch s l:=by
  by_cases hl:∃t x a,o.op=.load t x∧ev s ch x=some (.v (.pointer (some a)))
  · obtain ⟨t,x,a,hop,hx⟩:=hl
    unfold valW at hv
    simp only [hop,hx] at hv
    split at hv
    · rename_i e hte
      obtain ⟨y,hr,hk⟩:=hv
      refine ⟨.v (e.sh.enc y),hk,fun hh=> ?_,zqk1 _ _ _ _,fun _ t' x' e'=> ?_⟩
      · intro β ρ w ho hs hb
        have hkd:kindD tb o ch s=.mem:=by simp [kindD,hop,hx]
        have hx':=ev_ok (ho x (by simp [hop,Op.operands])) hh hx
        have hr':=zwm ok hte (fun j v hj=>zqu (hs hkd) (zel hr hh j v hj))
        refine ⟨w,?_,fun _=>rfl,fun e=>.refl (hs e)⟩
        simp only [execOp,hop,hx',LVal,Instr.loadAt,Instr.sureAddr,Sem.run_bind,Sem.run_pure,Result.andThen_ok,hr']
      · rw [hop] at e'
        cases e'
        exact ⟨e,y,hte,rfl⟩
    · exact hv.elim
  · obtain ⟨l,hk,hr,hp⟩:=zmk1 ok hv
    refine ⟨l,hk,hr,hp,fun hkd t x hop=> ?_⟩
    refine absurd ?_ hl
    unfold valW at hv
    simp only [hop] at hv
    simp only [kindD,hop] at hkd
    split at hv
    · rename_i a hx
      exact ⟨t,x,a,hop,hx⟩
    · rename_i k off hx
      rw [hx] at hkd;cases hkd
    · rename_i k off hx
      rw [hx] at hkd;cases hkd
    · exact hv.elim
def PFact (C:Ctx) (L:List Oper) (o:Oper) (s:St) (h:Hp):Prop:=
  ∃ch,zlp L L.length o=some ch∧zlq s ch=true∧
    ((isVal C.tb o=true∧(zev1 C.tb o=true∨kindD C.tb o ch s=.pure)∧∃l,(∀d,o.dst=some d→s.f d=some (l,ch))∧(holds s ch→RunsK (kindD C.tb o ch s) C.P o s h l)∧Prov o ch s l∧LdSh C.tb o ch s l)∨
     (ch=[]∧isVal C.tb o=false∧∃d cs,privA C.priv o d∧s.f d=some (.box d 0,[])∧s.m d=some cs∧
        ∀(β:Nat→Nat) (ρ:Operand→Value) (w:World),(∀x∈o.op.operands,Opnd β s ρ x)→
          ∃t,(execOp ρ o).run C.P w=.ok (.value (.pointer (some ⟨w.heap.size,0,none⟩))) {w with heap:=w.heap.push (.cells cs.toArray t (0,0))}))
section
variable {C:Ctx} {L:List Oper} {o:Oper} {s s':St} {h h':Hp} {D:Nat→Prop}
structure Like (D:Nat→Prop) (o:Oper) (s s':St):Prop where
  dn:∀t,D t→s'.f t=s.f t
  op:∀t,Operand.tmp t∈o.op.operands→s'.f t=s.f t
  ch:∀t l c,s.f t=some (l,c)→∀p∈c,D p.1
theorem Like.holds' (k:Like D o s s') {c:Chain} (hc:∀p∈c,D p.1):holds s' c↔holds s c:=zeg1 fun p hp=>k.dn _ (hc p hp)
theorem Like.opnd (k:Like D o s s') {β:Nat→Nat} {ρ:Operand→Value} {x:Operand} (hx:x∈o.op.operands) (ho:Opnd β s' ρ x):Opnd β s ρ x:=by
  cases x with
  | tmp t=>exact fun l c e hc=>ho l c (by rw [k.op t hx];exact e) ((k.holds' (k.ch t l c e)).2 hc)
  | const v=>exact ho
  | global g=>exact ho
  | func f=>exact ho
theorem Like.ev' (k:Like D o s s') {ch:Chain} {x:Operand} (hx:x∈o.op.operands):ev s' ch x=ev s ch x:=by
  cases x with
  | tmp t=>simp only [ev,k.op t hx]
  | const v=>rfl
  | global g=>rfl
  | func f=>rfl
theorem zmr1 {s s':St} {ch:Chain}:∀ {l:List Operand},(∀x∈l,ev s' ch x=ev s ch x)→vals s' ch l=vals s ch l
  | [],_=>rfl
  | x::l,h=>by
    simp only [vals]
    rw [h x (List.mem_cons_self ..),zmr1 fun y hy=>h y (List.mem_cons_of_mem _ hy)]
theorem Like.kind (k:Like D o s s') {tb:Tb} {ch:Chain}:kindD tb o ch s'=kindD tb o ch s:=by
  unfold kindD
  cases hop:o.op with
  | load t x=>simp only [k.ev' (ch:=ch) (x:=x) (by simp [hop,Op.operands])]
  | binOp op t x y u=>simp only [k.ev' (ch:=ch) (x:=x) (by simp [hop,Op.operands]),k.ev' (ch:=ch) (x:=y) (by simp [hop,Op.operands])]
  | convert a b x=>simp only [k.ev' (ch:=ch) (x:=x) (by simp [hop,Op.operands])]
  | call c=>
    obtain ⟨callee,xs,ts⟩:=c
    cases callee with
    | builtin b=>
      cases b with
      | len=>
        have:vals s' ch xs.toList=vals s ch xs.toList:=zmr1 fun x hx=>k.ev' (by simp [hop,Op.operands,Call.operands];simpa using hx)
        simp only [this]
      | _=>rfl
    | _=>rfl
  | _=>rfl
theorem Like.prov (k:Like D o s s') {ch:Chain} {l:LV} (hp:Prov o ch s l):Prov o ch s' l:=fun b off e=>by
  obtain ⟨x,hx,off',h⟩:=hp b off e
  exact ⟨x,hx,off',by rw [k.ev' hx];exact h⟩
theorem zsl (k:Like D o s s'):∀ {ch:Chain},(∀p∈ch,D p.1)→zlq s' ch=zlq s ch
  | [],_=>rfl
  | (d,b)::c,hc=>by
    simp only [zlq,k.dn d (hc (d,b) (List.mem_cons_self ..)),zsl k fun p hp=>hc p (List.mem_cons_of_mem _ hp)]
theorem zan2 (k:Like D o s s') {β:Nat→Nat} {w:World} (hm:∀t,Operand.tmp t∈o.op.operands→∀b off c,(s.f t=some (.box b off,c)∨s.f t=some (.boxd b off,c))→holds s c→s'.m b=s.m b)
    (hb:BoxU β s' o w):BoxU β s o w:=by
  intro t ht b off c hf hc cs hcs
  refine hb t ht b off c (by rw [k.op t ht];exact hf) ?_ cs (by rw [hm t ht b off c hf hc];exact hcs)
  rcases hf with hf | hf
  · exact (k.holds' (k.ch t _ c hf)).2 hc
  · exact (k.holds' (k.ch t _ c hf)).2 hc
theorem zuh (k:Like D o s s') {kd:Kd} {P:Program} {l:LV} (hm:kd≠ .pure→∀t,Operand.tmp t∈o.op.operands→∀b off c,(s.f t=some (.box b off,c)∨s.f t=some (.boxd b off,c))→holds s c→s'.m b=s.m b)
    (hh:kd=.mem→h'=h) (hr:RunsK kd P o s h l):RunsK kd P o s' h' l:=by
  intro β ρ w ho hs hb
  obtain ⟨w',h1,h2,h3⟩:=hr β ρ w (fun x hx=>k.opnd hx (ho x hx)) (fun e=>by rw [←hh e];exact hs e) (fun e=>zan2 k (hm e) (hb e))
  exact ⟨w',h1,h2,fun e=>by rw [hh e];exact h3 e⟩
theorem zhs1 (k:Like D o s s') {P:Program} {cs:List Value}
    (hr : ∀ (β : Nat → Nat) (ρ : Operand → Value) (w : World), (∀ x ∈ o.op.operands, Opnd β s ρ x) →
          ∃t,(execOp ρ o).run P w=.ok (.value (.pointer (some ⟨w.heap.size,0,none⟩))) {w with heap:=w.heap.push (.cells cs.toArray t (0,0))}):
    ∀ (β : Nat → Nat) (ρ : Operand → Value) (w : World), (∀ x ∈ o.op.operands, Opnd β s' ρ x) →
          ∃t,(execOp ρ o).run P w=.ok (.value (.pointer (some ⟨w.heap.size,0,none⟩))) {w with heap:=w.heap.push (.cells cs.toArray t (0,0))}:=
  fun β ρ w ho=>hr β ρ w fun x hx=>k.opnd hx (ho x hx)
theorem zoz1 {s:St} {ch:Chain} {t:Nat} {l l':LV} {c:Chain} (h:ev s ch (.tmp t)=some l) (hf:s.f t=some (l',c)):l=l':=by
  simp only [ev,hf] at h
  cases hs:sufx c ch with
  | true=>
    rw [hs] at h
    cases h
    rfl
  | false=>rw [hs] at h;cases h
theorem ztn1 {tb:Tb} (hC:C.tb=tb) (ok:tb.Ok C.P) {mch:Nat→Bool} {ch:Chain} {l:LV} {d:Nat} (ha:Again C mch o ch s' h') (hd:o.dst=some d) (hf:∃c,s'.f d=some (l,c)) (hh:holds s' ch)
    (hs:LdSh tb o ch s' l):kindD tb o ch s'=.pure∨(kindD tb o ch s'=.box∧∀t b off c,Operand.tmp t∈o.op.operands→(s'.f t=some (.box b off,c)∨s'.f t=some (.boxd b off,c))→mch b=false)∨(kindD tb o ch s'=.mem∧RunsK .mem C.P o s' h' l):=by
  subst hC
  obtain ⟨c,hf⟩:=hf
  unfold Again at ha
  split at ha
  · rename_i t x d' hop hd'
    rw [hd] at hd';cases hd'
    rw [hf] at ha
    split at ha
    · rename_i v c' e
      cases e
      split at ha
      · rename_i a hx
        right;right
        have hkd:kindD C.tb o ch s'=.mem:=by simp [kindD,hop,hx]
        obtain ⟨e,y,hte,hl⟩:=hs hkd t x hop
        cases hl
        refine ⟨hkd,fun β ρ w ho hs hb=> ?_⟩
        have hx':=ev_ok (ho x (by simp [hop,Op.operands])) hh hx
        have hr:=zwm ok hte (fun j v hj=>zqu (hs rfl) (zel ha hh j v hj))
        refine ⟨w,?_,fun e=>absurd rfl e,fun _=>.refl (hs rfl)⟩
        simp only [execOp,hop,hx',LVal,Instr.loadAt,Instr.sureAddr,Sem.run_bind,Sem.run_pure,Result.andThen_ok,hr]
      · rename_i k off hx
        cases hm:mch k with
        | true=>rw [hm] at ha;exact ha.elim
        | false=>
          refine .inr (.inl ⟨by simp [kindD,hop,hx],fun t1 b off1 c1 ht hf1=> ?_⟩)
          have hx1:x=.tmp t1:=by simpa [hop,Op.operands,eq_comm] using ht
          rw [hx1] at hx
          rcases hf1 with hf1 | hf1
          · have:=zoz1 hx hf1
            cases this
            exact hm
          · have:=zoz1 hx hf1
            cases this
      · rename_i k off hx
        cases hm:mch k with
        | true=>rw [hm] at ha;exact ha.elim
        | false=>
          refine .inr (.inl ⟨by simp [kindD,hop,hx],fun t1 b off1 c1 ht hf1=> ?_⟩)
          have hx1:x=.tmp t1:=by simpa [hop,Op.operands,eq_comm] using ht
          rw [hx1] at hx
          rcases hf1 with hf1 | hf1
          · have:=zoz1 hx hf1
            cases this
          · have:=zoz1 hx hf1
            cases this
            exact hm
      · exact ha.elim
    · exact ha.elim
  · rename_i t x i cok d' hop hd'
    rw [hd] at hd';cases hd'
    rw [hf] at ha
    split at ha
    · rename_i v c' e
      cases e
      obtain ⟨a,hea,ha1⟩:=zbh ha
      obtain ⟨b,heb,ha2⟩:=zbh ha1
      have hl:=zel ha2 hh
      right;right
      have main:∀w,Sub h' w→∃w',(Instr.lookup t a b cok).run C.P w=.ok v w'∧Step h' h' w w':=by
        intro w hsub
        unfold zqe1 at hl
        split at hl
        · rename_i m e he
          split at hl
          · rename_i k u hu
            split at hl
            · rename_i ke ue hk hue
              cases hkd:zpi ke.und with
              | true=>
                simp only [hkd,cond_true] at hl
                cases cok with
                | true=>
                  simp only [cond_true] at hl
                  split at hl
                  · rename_i x1 y1
                    exact ⟨w,by rw [zbe1 ok he hu hk hue hkd hsub hl];rfl,.refl hsub⟩
                  · exact hl.elim
                | false=>
                  simp only [cond_false] at hl
                  obtain ⟨y1,hl⟩:=hl
                  exact ⟨w,by rw [zbe1 ok he hu hk hue hkd hsub hl];rfl,.refl hsub⟩
              | false=>
                simp only [hkd,cond_false] at hl
                exact zjz1 hl hsub
            · exact hl.elim
          · exact hl.elim
        · exact hl.elim
      refine ⟨by simp [kindD,hop],fun β ρ w ho hs hb=> ?_⟩
      have hx:=ev_ok (ho x (by simp [hop,Op.operands])) hh hea
      have hi:=ev_ok (ho i (by simp [hop,Op.operands])) hh heb
      obtain ⟨w',hr,hst⟩:=main w (hs rfl)
      refine ⟨w',?_,fun e=>absurd rfl e,fun _=>hst⟩
      simp only [execOp,hop,hx,hi,LVal,Sem.run_bind,hr,Result.andThen_ok,Sem.run_pure]
    · exact ha.elim
  · rename_i xs ts d' hop hd'
    rw [hd] at hd';cases hd'
    rw [hf] at ha
    split at ha
    · rename_i v c' e
      cases e
      split at ha
      · rename_i x hvs
        have hkd:kindD C.tb o ch s'=.pure∨kindD C.tb o ch s'=.mem:=by
          unfold kindD
          rw [hop]
          simp only []
          repeat' split
          all_goals simp
        rcases hkd with hkd | hkd
        · exact .inl hkd
        right;right
        refine ⟨hkd,fun β ρ w ho hs hb=> ?_⟩
        have hargs:xs.map ρ= #[x]:=by
          have:=zwn (β:=β) (ρ:=ρ) hh hvs fun x hx=>ho x (by simp [hop,Op.operands,Call.operands];simpa using hx)
          apply Array.ext';simpa using this
        obtain ⟨w',hr,hst⟩:=zjz1 (zel ha hh) (hs rfl)
        refine ⟨w',?_,fun e=>absurd rfl e,fun _=>hst⟩
        simp only [execOp,hop,resolve,invoke,builtin,Sem.run_bind,Sem.run_pure,Result.andThen_ok,hargs,hr,LVal]
      · exact ha.elim
    · exact ha.elim
  · exact ha.elim
end
end Lf

namespace Lf
open Go
theorem zao2 (e:Edge):zut e=Region.binds .any e:=by
  unfold Region.binds zut
  cases e.ground<;>rfl
theorem zap2 {o:Oper} {k:Nat} (h:k∈waits o):∃e∈o.after,e.on=k∧Region.binds .any e=true:=by
  have key:∀l:List Edge,k∈waits.go l→∃e∈l,e.on=k∧Region.binds .any e=true:=by
    intro l
    induction l with
    | nil=>intro h;cases h
    | cons x l ih=>
      intro h
      simp only [waits.go] at h
      cases hx:zut x with
      | false=>
        simp only [hx,cond_false] at h
        obtain ⟨e,h1,h2⟩:=ih h
        exact ⟨e,List.mem_cons_of_mem _ h1,h2⟩
      | true=>
        simp only [hx,cond_true] at h
        rcases List.mem_cons.1 h with e | h
        · exact ⟨x,List.mem_cons_self ..,e.symm,by rw [←zao2,hx]⟩
        · obtain ⟨e,h1,h2⟩:=ih h
          exact ⟨e,List.mem_cons_of_mem _ h1,h2⟩
  obtain ⟨e,h1,h2⟩:=key _ h
  exact ⟨e,by simpa using h1,h2⟩
theorem zli {t:Nat}:∀ {L:List Oper} {i j:Nat} {o p:Oper},(modsO L).Nodup→L[i]?=some o→L[j]?=some p→o.dst=some t→p.dst=some t→i=j
  | [],_,_,_,_,_,e,_,_,_=>by simp at e
  | x::L,0,0,_,_,_,_,_,_,_=>rfl
  | x::L,0,j+1,o,p,hn,e,e',h,h'=>by
    simp at e e'
    subst e
    simp only [modsO,h] at hn
    exact absurd (zkq (List.mem_of_getElem? e') h') (List.nodup_cons.1 hn).1
  | x::L,i+1,0,o,p,hn,e,e',h,h'=>by
    simp at e e'
    subst e'
    simp only [modsO,h'] at hn
    exact absurd (zkq (List.mem_of_getElem? e) h) (List.nodup_cons.1 hn).1
  | x::L,i+1,j+1,o,p,hn,e,e',h,h'=>by
    have hn':(modsO L).Nodup:=by
      simp only [modsO] at hn
      split at hn
      · exact (List.nodup_cons.1 hn).2
      · exact hn
    have e1:L[i]?=some o:=by simpa using e
    have e2:L[j]?=some p:=by simpa using e'
    have:=zli hn' e1 e2 h h'
    omega
def Topo (L:List Oper):List Nat→Prop
  | []=>True
  | i::d=>(∀o,L[i]?=some o→∀k∈waits o,k∈d)∧Topo L d
theorem zht1 {L:List Oper} {ls:List Nat}:∀ {d:List Nat},Topo L d→(∃i∈d,i∉ls)→∃i∈d,i∉ls∧∀o,L[i]?=some o→∀k∈waits o,k∈ls
  | [],_,⟨i,hi,_⟩=>by cases hi
  | i::d,ht,hx=>by
    by_cases hd:∃j∈d,j∉ls
    · obtain ⟨j,h1,h2⟩:=zht1 ht.2 hd
      exact ⟨j,List.mem_cons_of_mem _ h1,h2⟩
    · have hall:∀j∈d,j∈ls:=fun j hj=>Classical.byContradiction fun e=>hd ⟨j,hj,e⟩
      obtain ⟨j,hj,hn⟩:=hx
      rcases List.mem_cons.1 hj with rfl | hj
      · exact ⟨j,List.mem_cons_self ..,hn,fun o ho k hk=>hall k (ht.1 o ho k hk)⟩
      · exact absurd (hall j hj) hn
def CurP (L:List Oper) (done ls:List Nat) (t:Nat):Prop:=∀i o,i∈done→i∉ls→L[i]?=some o→o.dst≠some t
def DnP (L:List Oper) (done:List Nat) (t:Nat):Prop:=∃i o,i∈done∧L[i]?=some o∧o.dst=some t
def NnP (C:Ctx) (L:List Oper) (done:List Nat) (k:Nat):Prop:=∃i o,i∉done∧L[i]?=some o∧privA C.priv o k
def LivP (C:Ctx) (L:List Oper) (done ls:List Nat) (k:Nat):Prop:=(∀i o,i∈done→i∉ls→L[i]?=some o→¬privA C.priv o k)∧¬NnP C L done k
structure Sim (C:Ctx) (L:List Oper) (mok:List Nat) (n:Nat) (lv0:Nat→Prop) (β0:Nat→Nat) (a0:Act) (h0:Hp) (w0:World) (done ls:List Nat) (listed:Array Bool) (β:Nat→Nat) (s:St) (a:Act) (h:Hp) (w:World):Prop where
  lsz:listed.size=L.length
  lst:∀i,listed.getD i false=true↔i∈ls
  lnd:ls.Nodup
  lsub:∀i∈ls,i∈done
  dlt:∀i∈done,i<L.length
  clos:Clos L (· ∈ls)
  dclos:Clos L (· ∈done)
  topo:Topo L done
  rr:RR n (CurP L done ls) (LivP C L done ls) (DnP L done) (NnP C L done) β s a h w
  facts:∀i o,i∈done→i∉ls→L[i]?=some o→PFact C L o s h∧looksOk L (aheads L []) i o=true∧isWar (aheads L []) i o L 0=false∧∀d,privA C.priv o d→d∈mok
  seg:Seg (modsO L) mok lv0 β0 a0 h0 w0 (live s (LivP C L done ls)) β a h w
section
variable {C:Ctx} {L:List Oper} {mok:List Nat} {n:Nat} {lv0:Nat→Prop} {β0:Nat→Nat} {a0:Act} {h0:Hp} {w0:World} {done ls:List Nat} {listed:Array Bool} {β:Nat→Nat} {s:St} {a:Act} {h:Hp} {w:World}
theorem zef {i:Nat} {o p:Oper} (h:L[i]?=some o) (h':L[i]?=some p):p=o:=by rw [h] at h';cases h';rfl
theorem zkk1 (hnd:(modsO L).Nodup) {i:Nat} {o:Oper} (hi:L[i]?=some o) (hd:i∈done) (t:Nat):CurP L done (i::ls) t↔(o.dst=some t∨CurP L done ls t):=by
  constructor
  · intro hc
    by_cases ht:o.dst=some t
    · exact .inl ht
    · refine .inr fun j p h1 h2 h3=> ?_
      by_cases hj:j=i
      · subst hj;rw [zef hi h3];exact ht
      · exact hc j p h1 (fun e => by rcases List.mem_cons.1 e with e | e
                                     · exact hj e
                                     · exact h2 e) h3
  · rintro (ht | hc) j p h1 h2 h3
    · intro e
      exact h2 (by rw [zli hnd h3 hi e ht];exact List.mem_cons_self ..)
    · exact hc j p h1 (fun e=>h2 (List.mem_cons_of_mem _ e)) h3
theorem zkl1 (hnd:(modsO L).Nodup) {i:Nat} {o:Oper} (hi:L[i]?=some o) (hd:i∈done) (k:Nat):LivP C L done (i::ls) k↔(privA C.priv o k∨LivP C L done ls k):=by
  constructor
  · rintro ⟨h1,h2⟩
    by_cases hp:privA C.priv o k
    · exact .inl hp
    · refine .inr ⟨fun j p e1 e2 e3=> ?_,h2⟩
      by_cases hj:j=i
      · subst hj;rw [zef hi e3];exact hp
      · exact h1 j p e1 (fun e => by rcases List.mem_cons.1 e with e | e
                                     · exact hj e
                                     · exact e2 e) e3
  · rintro (hp | ⟨h1,h2⟩)
    · refine ⟨fun j p e1 e2 e3 e4=>e2 (by rw [zli hnd e3 hi e4.2 hp.2];exact List.mem_cons_self ..),?_⟩
      rintro ⟨j,p,e1,e2,e3⟩
      exact e1 (by rw [zli hnd e2 hi e3.2 hp.2];exact hd)
    · exact ⟨fun j p e1 e2 e3=>h1 j p e1 (fun e=>e2 (List.mem_cons_of_mem _ e)) e3,h2⟩
theorem zms1 {i j:Nat} (hsz:listed.size=L.length) (hi:i<L.length) (hl:∀i,listed.getD i false=true↔i∈ls):(listed.setIfInBounds i true).getD j false=true↔j∈i::ls:=by
  by_cases hj:j=i
  · subst hj
    simp [hsz,hi]
  · have:=hl j
    simp [Array.getElem?_setIfInBounds_ne (Ne.symm hj),hj] at this ⊢
    exact this
theorem zto1 (hs:Sim C L mok n lv0 β0 a0 h0 w0 done ls listed β s a h w) {i:Nat} {o:Oper} (hi:L[i]?=some o) (hw:∀k∈waits o,k∈done) (hlk:looksOk L (aheads L []) i o=true) {ch:Chain}
    (hch:zlp L L.length o=some ch) (hg:zlq s ch=true):∀p∈ch,DnP L done p.1:=
  zah2 hs.rr hch hg fun j b p d e1 e2 e3=>⟨j,p,zqt (zek1 hlk e1) (· ∈done) hs.dclos (fun o' ho'=>by rw [zef hi ho'];exact hw),by rw [←zfl];exact e2,e3⟩
theorem zqx1 (ok:C.tb.Ok C.P) {ops:Array Oper} (hops:ops.toList=L) (hnd:(modsO L).Nodup)
    (hs:Sim C L mok n lv0 β0 a0 h0 w0 done ls listed β s a h w) {i:Nat} {o:Oper} (hi:L[i]?=some o) (hd:i∈done) (hn:i∉ls) (hw:∀k∈waits o,k∈ls)
    (next:Act→World→Prop) (Q:Exit→Act→World→Prop)
    (hk:∀β' a' w',Sim C L mok n lv0 β0 a0 h0 w0 done (i::ls) (listed.setIfInBounds i true) β' s a' h w'→next a' w'):wpOp C.P ops Q i next a w:=by
  obtain ⟨⟨ch,hch,hg,hpf⟩,hlk,hwar,hmm⟩:=hs.facts i o hd hn hi
  have hah:∀j∈zct (aheads L []) i,j∈ls:=fun j hj=>zqt hj (· ∈ls) hs.clos (fun o' ho'=>by rw [zef hi ho'];exact hw)
  have hcur:∀t,Operand.tmp t∈o.op.operands→CurP L done ls t:=fun t ht j p h1 h2 h3 h4=>by
    have:=zki1 h4 (hs.facts j p h1 h2 h3).2.2.1 i o hi ht
    rw [Nat.zero_add] at this
    exact h2 (hah j this)
  have hgc:∀j b p d,o.guard=some (j,b)→nth L j=some p→p.dst=some d→CurP L done ls d:=fun j b p d e1 e2 e3 j' p' h1 h2 h3 h4=>by
    rw [zfl] at e2
    have:=zli hnd h3 e2 h4 e3
    subst this
    exact h2 (hah _ (zek1 hlk e1))
  have hopnd:∀x∈o.op.operands,Opnd β s a.eval x:=fun x hx=>ztj1 hs.rr fun t e=>hcur t (e▸hx)
  have hw':=zmn1 (ops:=ops) hs.rr (by rw [hops];exact hch) hg (by rw [hops];exact hgc)
  have hoi:ops[i]?=some o:=by rw [←hops] at hi;simpa using hi
  have hilt:i<L.length:=hs.dlt i hd
  have hncur:∀d,o.dst=some d→¬CurP L done ls d:=fun d e hc=>hc i o hd hn hi e
  have fin:∀β' a' w',RR n (CurP L done (i::ls)) (LivP C L done (i::ls)) (DnP L done) (NnP C L done) β' s a' h w'→Seg (modsO L) mok (live s (LivP C L done ls)) β a h w (live s (LivP C L done (i::ls))) β' a' h w'→next a' w':=by
    intro β' a' w' hr hsg
    refine hk β' a' w' ⟨by simpa using hs.lsz,fun j=>zms1 hs.lsz hilt hs.lst,List.nodup_cons.2 ⟨hn,hs.lnd⟩,fun j hj=> ?_,hs.dlt,?_,hs.dclos,hs.topo,hr,fun j p h1 h2 h3=>hs.facts j p h1 (fun e=>h2 (List.mem_cons_of_mem _ e)) h3,hs.seg.trans hsg⟩
    · rcases List.mem_cons.1 hj with rfl | hj
      · exact hd
      · exact hs.lsub j hj
    · intro j p hj hjm k hk'
      rcases List.mem_cons.1 hjm with rfl | hjm
      · rw [zef hi hj] at hk'
        exact List.mem_cons_of_mem _ (hw k hk')
      · exact List.mem_cons_of_mem _ (hs.clos j p hj hjm k hk')
  have hdl:∀d,o.dst=some d→d∈modsO L:=fun d e=>zkq (List.mem_of_getElem? hi) e
  unfold wpOp
  simp only [hoi]
  rcases hpf with ⟨hval,_,l,hl,hrun,hprov,_⟩ | ⟨rfl,hval,d,cs,hp,hfd,hmd,hrun⟩
  · have hnp:∀k,¬privA C.priv o k:=zox1 (zsj hval)
    have hliv:∀k,LivP C L done (i::ls) k↔LivP C L done ls k:=fun k=>by
      rw [zkl1 hnd hi hd k]
      exact ⟨fun e=>e.resolve_left (hnp k),.inr⟩
    have main:∀(v:Value) (w':World),Step h h w w'→(holds s ch→v=LVal β l)→(¬holds s ch→v=undef)→next (a.put o.dst v) w':=by
      intro v w' hst h1 h2
      refine fin β _ w' ?_ (((Seg.step hst).trans (Seg.put (lv:=live s (LivP C L done ls)) hdl)).mono (fun _ e=>e) (fun _ e=>e) (fun _ e=>e) (fun k e=>⟨e.1,(hliv k).1 e.2⟩))
      have hr:=hs.rr.step hst
      cases hdst:o.dst with
      | none=>exact hr.congr (fun t=>by rw [zkk1 hnd hi hd t];simp [hdst]) hliv (fun _ e=>e) (fun _ e=>e)
      | some d=>
        have:=hr.exec (v:=v) (hl d hdst) (hncur d hdst) (fun hh=>⟨h1 hh,fun k off e=>(zai2 hs.rr hprov hh hcur k off e).1⟩) h2
        refine this.congr (fun t=> ?_) hliv (fun _ e=>e) (fun _ e=>e)
        rw [zkk1 hnd hi hd t,hdst]
        constructor
        · rintro (e | e)
          · cases e;exact .inl rfl
          · exact .inr e
        · rintro (e | e)
          · exact .inl (by rw [e])
          · exact .inr e
    by_cases hh:holds s ch
    · rw [if_pos (hw'.2 hh)]
      left
      obtain ⟨w',hrw,hw1,hst⟩:=hrun hh β a.eval w hopnd (fun _=>hs.rr.sub) (fun _=>zag2 hs.rr hcur)
      unfold Oper.wp
      rw [hrw]
      have hst':Step h h w w':=by
        cases hkd:kindD C.tb o ch s with
        | mem=>exact hst hkd
        | pure=>rw [hw1 (by rw [hkd];simp)];exact .refl hs.rr.sub
        | box=>rw [hw1 (by rw [hkd];simp)];exact .refl hs.rr.sub
      exact main _ w' hst' (fun _=>rfl) (fun e=>absurd hh e)
    · rw [if_neg (fun e=>hh (hw'.1 e))]
      exact main _ w (.refl hs.rr.sub) (fun e=>absurd e hh) (fun _=>rfl)
  · rw [if_pos (hw'.2 (zbn s))]
    left
    obtain ⟨t,hrw⟩:=hrun β a.eval w hopnd
    unfold Oper.wp
    rw [hrw]
    show next (a.put o.dst _) _
    have hnl:¬LivP C L done ls d:=fun e=>e.1 i o hd hn hi hp
    rw [hp.2]
    have hiff:∀k,privA C.priv o k↔k=d:=fun k=>⟨fun e=>by have:=e.2;rw [hp.2] at this;cases this;rfl,fun e=>e▸hp⟩
    refine fin _ _ _ ((hs.rr.execA t hfd hmd (hncur d hp.2) hnl).congr (fun t=> ?_) (fun k=> ?_) (fun _ e=>e) (fun _ e=>e)) ((segA (a:=a) (β:=β) t hs.rr.sub hmd hnl (hdl d hp.2) (hmm d hp)).mono (fun _ e=>e) (fun _ e=>e) (fun _ e=>e) (fun k e=>⟨e.1,?_⟩))
    · rw [zkk1 hnd hi hd t,hp.2]
      constructor
      · rintro (e | e)
        · cases e;exact .inl rfl
        · exact .inr e
      · rintro (e | e)
        · exact .inl (by rw [e])
        · exact .inr e
    · rw [zkl1 hnd hi hd k,hiff]
    · have:=e.2
      rw [zkl1 hnd hi hd k,hiff] at this
      exact this
end
end Lf

namespace Lf
open Go
section
variable {C:Ctx} {L:List Oper} {mok:List Nat} {n:Nat} {lv0:Nat→Prop} {β0:Nat→Nat} {a0:Act} {h0:Hp} {w0:World} {done ls:List Nat} {listed:Array Bool} {β:Nat→Nat} {s:St} {a:Act} {h:Hp} {w:World}
theorem zxz1 {D:Nat→Prop} {o:Oper} {s':St} (k:Like D o s s') (hD:∀ch,zlp L L.length o=some ch→zlq s ch=true→∀p∈ch,D p.1) (hdD:∀d,o.dst=some d→D d)
    (hm:∀t,Operand.tmp t∈o.op.operands→∀b off c,(s.f t=some (.box b off,c)∨s.f t=some (.boxd b off,c))→holds s c→s'.m b=s.m b) (hmd:∀d,privA C.priv o d→s'.m d=s.m d)
    (hp:PFact C L o s h):PFact C L o s' h:=by
  obtain ⟨ch,hch,hg,hpf⟩:=hp
  have hD:=hD ch hch hg
  refine ⟨ch,hch,by rw [zsl k hD];exact hg,?_⟩
  rcases hpf with ⟨hval,hrd,l,hl,hrun,hprov,hsh⟩ | ⟨rfl,hval,d,cs,hpa,hfd,hmd',hrun⟩
  · refine .inl ⟨hval,by rw [k.kind];exact hrd,l,fun d e=>by rw [k.dn d (hdD d e)];exact hl d e,fun hh=> ?_,k.prov hprov,fun hkd=>hsh (by rw [←k.kind (s':=s')];exact hkd)⟩
    rw [k.kind]
    exact zuh k (fun _=>hm) (fun _=>rfl) (hrun ((k.holds' hD).1 hh))
  · exact .inr ⟨rfl,hval,d,cs,hpa,by rw [k.dn d (hdD d hpa.2)];exact hfd,by rw [hmd d hpa];exact hmd',zhs1 k hrun⟩
theorem zwc1 (hnd:(modsO L).Nodup) (hs:Sim C L mok n lv0 β0 a0 h0 w0 done ls listed β s a h w) {i:Nat} {o:Oper} (hi:L[i]?=some o) (hnd':i∉done) {s':St} (hf:∀t,o.dst≠some t→s'.f t=s.f t)
    {j:Nat} {p:Oper} (hj:L[j]?=some p) (hjd:j∈done) (hno:∀t,Operand.tmp t∈p.op.operands→o.dst=some t→False):Like (DnP L done) p s s':=by
  refine ⟨fun t ht=>hf t fun e=> ?_,fun t ht=>hf t fun e=>hno t ht e,fun t l c e q hq=>hs.rr.chain t l c e q hq⟩
  obtain ⟨j',p',h1,h2,h3⟩:=ht
  have:=zli hnd h2 hi h3 e
  subst this
  exact hnd' h1
theorem closD (hs:Sim C L mok n lv0 β0 a0 h0 w0 done ls listed β s a h w) {j:Nat} {p:Oper} (hj:L[j]?=some p) (hjd:j∈done) {i:Nat} (h:i∈zct (aheads L []) j):i∈done:=
  zqt h (· ∈done) hs.dclos fun o' ho'=>hs.dclos j o' ho' hjd
theorem zmt1 (hnd:(modsO L).Nodup) (hs:Sim C L mok n lv0 β0 a0 h0 w0 done ls listed β s a h w) {i:Nat} {o:Oper} (hi:L[i]?=some o) (hid:i∉done) (hwar:isWar (aheads L []) i o L 0=false)
    {s':St} (hf:∀t,o.dst≠some t→s'.f t=s.f t) (hm:∀k,s'.m k=s.m k∨privA C.priv o k) {j:Nat} {p:Oper} (hjd:j∈done) (hjl:j∉ls) (hj:L[j]?=some p):
    PFact C L p s' h∧looksOk L (aheads L []) j p=true∧isWar (aheads L []) j p L 0=false∧∀d,privA C.priv p d→d∈mok:=by
  obtain ⟨h1,h2,h3⟩:=hs.facts j p hjd hjl hj
  refine ⟨?_,h2,h3⟩
  have k:Like (DnP L done) p s s':=zwc1 hnd hs hi hid hf hj hjd fun t ht e=>by
    have:=zki1 e hwar j p hj ht
    rw [Nat.zero_add] at this
    exact hid (closD hs hj hjd this)
  refine zxz1 k (fun ch hch hg=>zto1 hs hj (hs.dclos j p hj hjd) h2 hch hg) (fun d e=>⟨j,p,hjd,hj,e⟩) (fun t ht b off c hfb hh=> ?_) (fun d hp=> ?_) h1
  · refine (hm b).resolve_right fun hp=> ?_
    have hN:NnP C L done b:=⟨i,o,hid,hi,hp⟩
    rcases hfb with hfb | hfb
    · exact (hs.rr.nref b hN t _ c hfb hh off).1 rfl
    · exact (hs.rr.nref b hN t _ c hfb hh off).2 rfl
  · refine (hm d).resolve_right fun hp'=> ?_
    have:=zli hnd hi hj hp'.2 hp.2
    subst this
    exact hid hjd
theorem zqy1 (hs:Sim C L mok n lv0 β0 a0 h0 w0 done ls listed β s a h w) {i:Nat} {o:Oper} (hi:L[i]?=some o) (hid:i∉done) (hw:∀k∈waits o,k∈done) {s':St}
    (hr:RR n (CurP L (i::done) ls) (LivP C L (i::done) ls) (DnP L (i::done)) (NnP C L (i::done)) β s' a h w)
    (hfacts:∀j p,j∈i::done→j∉ls→L[j]?=some p→PFact C L p s' h∧looksOk L (aheads L []) j p=true∧isWar (aheads L []) j p L 0=false∧∀d,privA C.priv p d→d∈mok)
    (hseg:Seg (modsO L) mok lv0 β0 a0 h0 w0 (live s' (LivP C L (i::done) ls)) β a h w):Sim C L mok n lv0 β0 a0 h0 w0 (i::done) ls listed β s' a h w:=by
  refine ⟨hs.lsz,hs.lst,hs.lnd,fun j hj=>List.mem_cons_of_mem _ (hs.lsub j hj),fun j hj=> ?_,hs.clos,?_,⟨fun o' ho'=>by rw [zef hi ho'];exact hw,hs.topo⟩,hr,hfacts,hseg⟩
  · rcases List.mem_cons.1 hj with rfl | hj
    · exact (List.getElem?_eq_some_iff.1 hi).1
    · exact hs.dlt j hj
  · intro j p hj hjm k hk
    rcases List.mem_cons.1 hjm with rfl | hjm
    · rw [zef hi hj] at hk
      exact List.mem_cons_of_mem _ (hw k hk)
    · exact List.mem_cons_of_mem _ (hs.dclos j p hj hjm k hk)
theorem zkm1 (hs:Sim C L mok n lv0 β0 a0 h0 w0 done ls listed β s a h w) {i:Nat} {o:Oper} (hi:L[i]?=some o) (hid:i∉done) (t:Nat):CurP L (i::done) ls t↔(o.dst≠some t∧CurP L done ls t):=by
  constructor
  · exact fun hc=>⟨hc i o (List.mem_cons_self ..) (fun e=>hid (hs.lsub i e)) hi,fun j p h1 h2 h3=>hc j p (List.mem_cons_of_mem _ h1) h2 h3⟩
  · rintro ⟨h1,h2⟩ j p e1 e2 e3
    rcases List.mem_cons.1 e1 with rfl | e1
    · rw [zef hi e3];exact h1
    · exact h2 j p e1 e2 e3
theorem zsm (hnd:(modsO L).Nodup) {i:Nat} {o:Oper} (hi:L[i]?=some o) (hid:i∉done) (k:Nat):NnP C L (i::done) k↔(¬privA C.priv o k∧NnP C L done k):=by
  constructor
  · rintro ⟨j,p,h1,h2,h3⟩
    refine ⟨fun e=> ?_,j,p,fun e=>h1 (List.mem_cons_of_mem _ e),h2,h3⟩
    exact h1 (by rw [zli hnd h2 hi h3.2 e.2];exact List.mem_cons_self ..)
  · rintro ⟨h0,j,p,h1,h2,h3⟩
    refine ⟨j,p,fun e=> ?_,h2,h3⟩
    rcases List.mem_cons.1 e with rfl | e
    · rw [zef hi h2] at h3;exact h0 h3
    · exact h1 e
theorem zgg1 (hnd:(modsO L).Nodup) (hs:Sim C L mok n lv0 β0 a0 h0 w0 done ls listed β s a h w) {i:Nat} {o:Oper} (hi:L[i]?=some o) (hid:i∉done) (k:Nat):
    LivP C L (i::done) ls k↔(¬privA C.priv o k∧LivP C L done ls k):=by
  constructor
  · rintro ⟨h1,h2⟩
    have hp:¬privA C.priv o k:=h1 i o (List.mem_cons_self ..) (fun e=>hid (hs.lsub i e)) hi
    exact ⟨hp,fun j p e1 e2 e3=>h1 j p (List.mem_cons_of_mem _ e1) e2 e3,fun e=>h2 ((zsm hnd hi hid k).2 ⟨hp,e⟩)⟩
  · rintro ⟨hp,h1,h2⟩
    refine ⟨fun j p e1 e2 e3=> ?_,fun e=>h2 ((zsm hnd hi hid k).1 e).2⟩
    rcases List.mem_cons.1 e1 with rfl | e1
    · rw [zef hi e3];exact hp
    · exact h1 j p e1 e2 e3
theorem zja1 {i:Nat} (t:Nat) (h:DnP L done t):DnP L (i::done) t:=by
  obtain ⟨j,p,h1,h2,h3⟩:=h
  exact ⟨j,p,List.mem_cons_of_mem _ h1,h2,h3⟩
theorem zdr2 (ok:C.tb.Ok C.P) (hnd:(modsO L).Nodup) (hlt:∀d∈modsO L,d<n) (hs:Sim C L mok n lv0 β0 a0 h0 w0 done ls listed β s a h w) {i:Nat} {o:Oper} (hi:L[i]?=some o) (hid:i∉done)
    (hw:∀k∈waits o,k∈done) (hlk:looksOk L (aheads L []) i o=true) (hwar:isWar (aheads L []) i o L 0=false) (hvp:isVal C.tb o=true∨zaw C.priv o=true) {K:St→Hp→Prop}
    (hkd:zzk1 C L o s=true) (hv:opW C L mok o s h K):∃s',K s' h∧Sim C L mok n lv0 β0 a0 h0 w0 (i::done) ls listed β s' a h w:=by
  unfold opW at hv
  split at hv
  · exact hv.elim
  rename_i ch hch
  cases hg:zlq s ch with
  | false=>simp [hg] at hv
  | true=>
  simp only [hg,cond_true] at hv
  have hD:∀p∈ch,DnP L done p.1:=zto1 hs hi hw hlk hch hg
  have hdD:∀d,o.dst=some d→¬DnP L done d:=fun d e ⟨j,p,h1,h2,h3⟩=>hid (by rw [←zli hnd h2 hi h3 e];exact h1)
  have hdn:∀d,o.dst=some d→d<n:=fun d e=>hlt d (zkq (List.mem_of_getElem? hi) e)
  have hself:∀ {s':St},(∀t,o.dst≠some t→s'.f t=s.f t)→Like (DnP L done) o s s':=fun hf=>by
    refine ⟨fun t ⟨j,p,h1,h2,h3⟩=>hf t fun e=>hid (by rw [←zli hnd h2 hi h3 e];exact h1),fun t ht=>hf t fun e=> ?_,fun t l c e q hq=>hs.rr.chain t l c e q hq⟩
    have:=zki1 e hwar i o hi ht
    rw [Nat.zero_add] at this
    exact hid (zqt this (· ∈done) hs.dclos fun o' ho'=>by rw [zef hi ho'];exact hw)
  cases hval:isVal C.tb o with
  | true=>
    simp only [hval,cond_true] at hv
    obtain ⟨l,hk,hrun,hprov,hsh⟩:=zam2 ok hv
    have hnp:∀k,¬privA C.priv o k:=zox1 (zsj hval)
    have hrd:zev1 C.tb o=true∨kindD C.tb o ch s=.pure:=by
      unfold zzk1 at hkd
      rw [hval,hch] at hkd
      cases hr:zev1 C.tb o with
      | true=>exact .inl rfl
      | false=>
        rw [hr] at hkd
        simp only [cond_true,cond_false] at hkd
        cases hk':kindD C.tb o ch s with
        | pure=>exact .inr rfl
        | box=>rw [hk'] at hkd;cases hkd
        | mem=>rw [hk'] at hkd;cases hkd
    have hf:∀t,o.dst≠some t→(s.put o.dst l ch).f t=s.f t:=fun t ht=>put_f s _ _ _ t ht
    have k:=hself hf
    refine ⟨_,hk,zqy1 hs hi hid hw ?_ (fun j p h1 h2 h3=> ?_) ?_⟩
    · have hb:holds s ch→∀k o',(l=.box k o'∨l=.boxd k o')→¬NnP C L done k:=fun hh b off e hN=>by
        obtain ⟨x,hx,off',hev⟩:=hprov b off e
        rcases hev with hev | hev
        · obtain ⟨t,c,rfl,hfb,hc⟩:=zjx1 hev (by simp) hh
          exact (hs.rr.nref b hN t _ c hfb hc off').1 rfl
        · obtain ⟨t,c,rfl,hfb,hc⟩:=zjx1 hev (by simp) hh
          exact (hs.rr.nref b hN t _ c hfb hc off').2 rfl
      have hliv:∀k,LivP C L (i::done) ls k↔LivP C L done ls k:=fun k=>by rw [zgg1 hnd hs hi hid k];exact ⟨fun e=>e.2,fun e=>⟨hnp k,e⟩⟩
      have hnn:∀k,NnP C L (i::done) k→NnP C L done k:=fun k e=>((zsm hnd hi hid k).1 e).2
      cases hdst:o.dst with
      | none=>exact hs.rr.congr (fun t=>by rw [zkm1 hs hi hid t,hdst];simp) hliv zja1 hnn
      | some d=>
        refine (hs.rr.lift (l:=l) (ch:=ch) (hdn d hdst) (hdD d hdst) hD hb).congr (fun t=> ?_) hliv zja1 hnn
        rw [zkm1 hs hi hid t,hdst]
        exact ⟨fun e=>⟨fun e'=>e.1 (by rw [e']),e.2⟩,fun e=>⟨fun e'=>e.1 (by cases e';rfl),e.2⟩⟩
    · rcases List.mem_cons.1 h1 with rfl | h1
      · rw [zef hi h3]
        refine ⟨⟨ch,hch,by rw [zsl k hD];exact hg,.inl ⟨hval,by rw [k.kind];exact hrd,l,fun d e=>by rw [e];exact zwq _ _ _ _,fun hh=> ?_,k.prov hprov,fun hkd=>hsh (by rw [←k.kind (s':=s.put o.dst l ch)];exact hkd)⟩⟩,hlk,hwar,fun d hp=>absurd hp (hnp d)⟩
        rw [k.kind]
        exact zuh k (fun _ t _ b off c _ _=>by rw [put_m]) (fun _=>rfl) (hrun ((k.holds' hD).1 hh))
      · exact zmt1 hnd hs hi hid hwar hf (fun k=>.inl (by rw [put_m])) h1 h2 h3
    · refine hs.seg.mono (fun _ e=>e) (fun _ e=>e) (fun _ e=>e) (fun k e=>⟨?_,((zgg1 hnd hs hi hid k).1 e.2).2⟩)
      have:=e.1
      rwa [put_m] at this
  | false=>
    simp only [hval,cond_false] at hv
    have hpa:zaw C.priv o=true:=hvp.resolve_left (by rw [hval];simp)
    have doNew:∀(d:Nat) (cs:List Value),K ((s.put (some d) (.box d 0) []).putM d cs) h→privA C.priv o d→ch=[]→has mok d=true→
        (∀(β:Nat→Nat) (ρ:Operand→Value) (w:World),(∀x∈o.op.operands,Opnd β s ρ x)→
          ∃t,(execOp ρ o).run C.P w=.ok (.value (.pointer (some ⟨w.heap.size,0,none⟩))) {w with heap:=w.heap.push (.cells cs.toArray t (0,0))})→
        ∃s',K s' h∧Sim C L mok n lv0 β0 a0 h0 w0 (i::done) ls listed β s' a h w:=by
      intro d cs hk hp he hmd hrun
      subst he
      have hiff:∀k,privA C.priv o k↔k=d:=fun k=>⟨fun e=>by have:=e.2;rw [hp.2] at this;cases this;rfl,fun e=>e▸hp⟩
      have hf:∀t,o.dst≠some t→((s.put (some d) (.box d 0) []).putM d cs).f t=s.f t:=fun t ht=>zkh1 s _ _ fun e=>ht (by rw [hp.2,e])
      have hm:∀k,k≠d→((s.put (some d) (.box d 0) []).putM d cs).m k=s.m k:=fun k hk=>zrn _ _ hk
      have k:=hself hf
      have hN:NnP C L done d:=⟨i,o,hid,hi,hp⟩
      refine ⟨_,hk,zqy1 hs hi hid hw ?_ (fun j p h1 h2 h3=> ?_) ?_⟩
      · refine (hs.rr.liftA cs (hdn d hp.2) (hdD d hp.2) hN).congr (fun t=> ?_) (fun k=> ?_) zja1 (fun k e=> ?_)
        · rw [zkm1 hs hi hid t,hp.2]
          exact ⟨fun e=>⟨fun e'=>e.1 (by rw [e']),e.2⟩,fun e=>⟨fun e'=>e.1 (by cases e';rfl),e.2⟩⟩
        · rw [zgg1 hnd hs hi hid k,hiff]
        · have:=(zsm hnd hi hid k).1 e
          rw [hiff] at this
          exact this
      · rcases List.mem_cons.1 h1 with rfl | h1
        · rw [zef hi h3]
          refine ⟨⟨[],hch,rfl,.inr ⟨rfl,hval,d,cs,hp,zwq _ _ _ _,zgd1 _ _ _,zhs1 k hrun⟩⟩,hlk,hwar,fun d' hp'=> ?_⟩
          rw [(hiff d').1 hp']
          exact (zmk _ _).1 hmd
        · exact zmt1 hnd hs hi hid hwar hf (fun k=>by
            by_cases ek:k=d
            · exact .inr ((hiff k).2 ek)
            · exact .inl (hm k ek)) h1 h2 h3
      · refine hs.seg.mono (fun _ e=>e) (fun _ e=>e) (fun _ e=>e) (fun k e=> ?_)
        have hl:=(zgg1 hnd hs hi hid k).1 e.2
        rw [hiff] at hl
        refine ⟨?_,hl.2⟩
        have:=e.1
        rwa [hm k hl.1] at this
    split at hv
    · rename_i d hdst
      have hd0:o.dst=some d∧has C.priv d=true:=by
        unfold dstIn at hdst
        split at hdst
        · rename_i d' e
          cases h1:has C.priv d' with
          | true=>simp [h1] at hdst;subst hdst;exact ⟨e,h1⟩
          | false=>simp [h1] at hdst
        · cases hdst
      cases hmd:has mok d with
      | false=>simp [hmd] at hv
      | true=>
        simp only [hmd,cond_true] at hv
        split at hv
        · rename_i t hop
          split at hv
          · rename_i e he
            refine doNew d (zad e.zero) hv ⟨hpa,hd0.1⟩ rfl hmd fun β ρ w _=>⟨t,?_⟩
            have e2:(zad e.zero).toArray=e.zero.cells:=by apply Array.ext';simp [zbr]
            rw [e2]
            simp [execOp,hop,Instr.alloc,run_zeroValue' ok he,newVar,zdk]
          · exact hv.elim
        · rename_i t x hop
          obtain ⟨v,hev,hv'⟩:=zbh hv
          refine doNew d (zad v) hv' ⟨hpa,hd0.1⟩ rfl hmd fun β ρ w ho=>⟨t,?_⟩
          have hx:=ev_ok (ho x (by simp [hop,Op.operands])) (zbn s) hev
          have e2:(zad v).toArray=v.cells:=by apply Array.ext';simp [zbr]
          rw [e2]
          simp [execOp,hop,hx,LVal,Instr.box,newVar,zdk]
        · exact hv.elim
    · exact hv.elim
    · rename_i hdst
      exfalso
      unfold dstIn at hdst
      unfold zaw at hpa
      split at hdst
      · rename_i d' e
        cases h1:has C.priv d' with
        | true=>simp [h1] at hdst
        | false=>rw [e] at hpa;cases hop:o.op<;>simp [hop,h1] at hpa
      · rename_i e
        rw [e] at hpa;cases hop:o.op<;>simp [hop] at hpa
end
end Lf

namespace Lf
open Go
theorem condP {b:Bool} {p:Prop} (h:cond b p False):b=true∧p:=by
  cases b
  · exact h.elim
  · exact ⟨rfl,h⟩
theorem zqz1 {C:Ctx} {m:Nat→Bool} {L:List Oper} {s:St} {h:Hp}:∀ {ws:List Nat},zus C m L s h ws→∀ {j:Nat} {p:Oper} {ch:Chain},j∈ws→L[j]?=some p→zlp L L.length p=some ch→Again C m p ch s h
  | [],_,_,_,_,hj,_,_=>by cases hj
  | r::ws,ha,j,p,ch,hj,hp,hc=>by
    obtain ⟨h1,h2⟩:=ha
    rcases List.mem_cons.1 hj with rfl | hj
    · rw [zfl,hp] at h1
      simp only [hc] at h1
      exact h1
    · exact zqz1 h2 hj hp hc
theorem zaq2 {C:Ctx} {m:Nat→Bool} {p:Oper} {ch:Chain} {s:St} {h:Hp} (ha:Again C m p ch s h):∃d,p.dst=some d:=by
  cases hd:p.dst with
  | some d=>exact ⟨d,rfl⟩
  | none=>
    unfold Again at ha
    rw [hd] at ha
    split at ha
    · rename_i e;cases e
    · rename_i e;cases e
    · rename_i e;cases e
    · exact ha.elim
section
variable {C:Ctx} {L:List Oper} {mok:List Nat} {n:Nat} {lv0:Nat→Prop} {β0:Nat→Nat} {a0:Act} {h0:Hp} {w0:World} {done ls:List Nat} {listed:Array Bool} {β:Nat→Nat} {s:St} {a:Act} {h:Hp} {w:World}
theorem zds2 (hnd:(modsO L).Nodup) {i:Nat} {o:Oper} (hi:L[i]?=some o) (hid:i∉done) (t:Nat):CurP L (i::done) (i::ls) t↔(o.dst=some t∨CurP L done ls t):=by
  constructor
  · intro hc
    by_cases ht:o.dst=some t
    · exact .inl ht
    · exact .inr fun j p h1 h2 h3=>hc j p (List.mem_cons_of_mem _ h1) (fun e=>by
        rcases List.mem_cons.1 e with e | e
        · exact hid (e▸h1)
        · exact h2 e) h3
  · rintro (ht | hc) j p h1 h2 h3
    · intro e
      exact h2 (by rw [zli hnd h3 hi e ht];exact List.mem_cons_self ..)
    · rcases List.mem_cons.1 h1 with e | h1
      · exact absurd (e▸List.mem_cons_self ..) h2
      · exact hc j p h1 (fun e=>h2 (List.mem_cons_of_mem _ e)) h3
theorem zwd1 (hnd:(modsO L).Nodup) {i:Nat} {o:Oper} (hi:L[i]?=some o) (hid:i∉done) (k:Nat):LivP C L (i::done) (i::ls) k↔(privA C.priv o k∨LivP C L done ls k):=by
  constructor
  · rintro ⟨h1,h2⟩
    by_cases hp:privA C.priv o k
    · exact .inl hp
    · exact .inr ⟨fun j p e1 e2 e3=>h1 j p (List.mem_cons_of_mem _ e1) (fun e=>by
        rcases List.mem_cons.1 e with e | e
        · exact hid (e▸e1)
        · exact e2 e) e3,fun e=>h2 ((zsm hnd hi hid k).2 ⟨hp,e⟩)⟩
  · rintro (hp | ⟨h1,h2⟩)
    · exact ⟨fun j p e1 e2 e3 e4=>e2 (by rw [zli hnd e3 hi e4.2 hp.2];exact List.mem_cons_self ..),fun e=>((zsm hnd hi hid k).1 e).1 hp⟩
    · refine ⟨fun j p e1 e2 e3=> ?_,fun e=>h2 ((zsm hnd hi hid k).1 e).2⟩
      rcases List.mem_cons.1 e1 with e | e1
      · exact absurd (e▸List.mem_cons_self ..) e2
      · exact h1 j p e1 (fun e=>e2 (List.mem_cons_of_mem _ e)) e3
theorem zya1 (ok:C.tb.Ok C.P) (hnd:(modsO L).Nodup) (hs:Sim C L mok n lv0 β0 a0 h0 w0 done ls listed β s a h w) {i:Nat} {o:Oper} (hi:L[i]?=some o) (hid:i∉done) (hah:∀j∈zct (aheads L []) i,j∈ls)
    {ws:List Nat} (hwatch:(isVal C.tb o=true∨zaw C.priv o=true)∨∀j p,j∈done→L[j]?=some p→isVal C.tb p=true→zev1 C.tb p=true→j∈ws∨j∈zct (aheads L []) i)
    {l:List Nat} {β':Nat→Nat} {s':St} {a':Act} {h':Hp} {w':World} (out:OpOut C l mok n (CurP L done ls) (LivP C L done ls) (DnP L done) (NnP C L done) o β s a h w β' s' a' h' w')
    (hag:zus C (chg o s) L s' h' ws) {j:Nat} {p:Oper} (hjd:j∈done) (hjl:j∉ls) (hj:L[j]?=some p):
    PFact C L p s' h'∧looksOk L (aheads L []) j p=true∧isWar (aheads L []) j p L 0=false∧∀d,privA C.priv p d→d∈mok:=by
  obtain ⟨⟨ch,hch,hg,hpf⟩,hlk,hrest⟩:=hs.facts j p hjd hjl hj
  refine ⟨?_,hlk,hrest⟩
  have k:Like (DnP L done) p s s':=zwc1 hnd hs hi hid out.f hj hjd fun t ht e=>by
    rcases zxy1 hlk ht hi e with h1 | h1 | h1
    · exact hid (closD hs hj hjd h1)
    · exact hid (h1▸hjd)
    · exact hjl (hah j h1)
  have hD:=zto1 hs hj (hs.dclos j p hj hjd) hlk hch hg
  have hdD:∀d,p.dst=some d→DnP L done d:=fun d e=>⟨j,p,hjd,hj,e⟩
  have hmr:∀t,Operand.tmp t∈p.op.operands→∀b off c,(s.f t=some (.box b off,c)∨s.f t=some (.boxd b off,c))→holds s c→s'.m b=s.m b∨(chg o s b=true∧isVal C.tb o=false):=by
    intro t ht b off c hfb hh
    rcases out.m b with e | e | e
    · exact .inl e
    · exfalso
      have hN:NnP C L done b:=⟨i,o,hid,hi,e⟩
      rcases hfb with hfb | hfb
      · exact (hs.rr.nref b hN t _ c hfb hh off).1 rfl
      · exact (hs.rr.nref b hN t _ c hfb hh off).2 rfl
    · exact .inr ⟨e.1,e.2.1⟩
  refine ⟨ch,hch,by rw [zsl k hD];exact hg,?_⟩
  rcases hpf with ⟨hval,hrd,lv,hl,hrun,hprov,hsh⟩ | ⟨rfl,hval,d,cs,hpa,hfd,hmd',hrun⟩
  · have hsh':LdSh C.tb p ch s' lv:=fun hkd=>hsh (by rw [←k.kind (s':=s')];exact hkd)
    refine .inl ⟨hval,by rw [k.kind];exact hrd,lv,fun d e=>by rw [k.dn d (hdD d e)];exact hl d e,fun hh'=> ?_,k.prov hprov,hsh'⟩
    have hh:=(k.holds' hD).1 hh'
    have hr:=hrun hh
    have hkk:kindD C.tb p ch s'=kindD C.tb p ch s:=k.kind
    rw [hkk]
    by_cases hpure:kindD C.tb p ch s=.pure
    · rw [hpure] at hr ⊢
      exact zuh k (fun e=>absurd rfl e) (fun e=>by cases e) hr
    · have hread:=hrd.resolve_right hpure
      rcases hwatch with hvp | hwatch
      · have hns:∀b,¬(chg o s b=true∧isVal C.tb o=false):=by
          rintro b ⟨e1,e2⟩
          rcases hvp with e | e
          · rw [e] at e2;cases e2
          · unfold chg at e1
            unfold zaw at e
            cases hop:o.op<;>rw [hop] at e1 e<;>first | (cases e1;done) | (cases hd:o.dst<;>simp at e)
        have hhh:h'=h:=by
          rcases hvp with e | e
          · exact out.hv e
          · exact out.hp e
        exact zuh k (fun _ t ht b off c hfb hc=>(hmr t ht b off c hfb hc).resolve_right (hns b)) (fun _=>hhh) hr
      · have hws:j∈ws:=(hwatch j p hjd hj hval hread).resolve_right fun e=>hjl (hah j e)
        have ha:=zqz1 hag hws hj hch
        obtain ⟨d,hd⟩:=zaq2 ha
        rcases ztn1 rfl ok ha hd ⟨ch,by rw [k.dn d (hdD d hd)];exact hl d hd⟩ hh' hsh' with h1 | ⟨h1,h2⟩ | ⟨h1,h2⟩
        · rw [hkk] at h1
          exact absurd h1 hpure
        · rw [hkk] at h1
          rw [h1] at hr ⊢
          exact zuh k (fun _ t ht b off c hfb hc=>(hmr t ht b off c hfb hc).resolve_right fun e=>by rw [h2 t b off c ht (by rw [k.op t ht];exact hfb)] at e;cases e.1) (fun e=>by cases e) hr
        · rw [hkk] at h1
          rw [h1]
          exact h2
  · refine .inr ⟨rfl,hval,d,cs,hpa,by rw [k.dn d (hdD d hpa.2)];exact hfd,?_,zhs1 k hrun⟩
    rcases out.m d with e | e | e
    · rw [e];exact hmd'
    · exact absurd hjd (by rw [zli hnd hj hi hpa.2 e.2];exact hid)
    · exact absurd hpa (e.2.2.2.1 j p hjd hjl hj)
theorem zdt2 (ok:C.tb.Ok C.P) {ops:Array Oper} (hops:ops.toList=L) (hnd:(modsO L).Nodup) (hlt:∀d∈modsO L,d<n) (hs:Sim C L mok n lv0 β0 a0 h0 w0 done ls listed β s a h w) {i:Nat} {o:Oper} (hi:L[i]?=some o) (hid:i∉done)
    (hw:∀k∈waits o,k∈ls) (hlk:looksOk L (aheads L []) i o=true) {ws:List Nat}
    (hwatch:(isVal C.tb o=true∨zaw C.priv o=true)∨∀j p,j∈done→L[j]?=some p→isVal C.tb p=true→zev1 C.tb p=true→j∈ws∨j∈zct (aheads L []) i)
    {K:St→Hp→Prop} (hK:∀s1 h1,K s1 h1→zus C (chg o s) L s1 h1 ws) (hv:opW C L mok o s h K) (next:Act→World→Prop) (Q:Exit→Act→World→Prop)
    (hn:∀s' h' β' a' w',K s' h'→Sim C L mok n lv0 β0 a0 h0 w0 (i::done) (i::ls) (listed.setIfInBounds i true) β' s' a' h' w'→next a' w'):wpOp C.P ops Q i next a w:=by
  have hah:∀j∈zct (aheads L []) i,j∈ls:=fun j hj=>zqt hj (· ∈ls) hs.clos (fun o' ho'=>by rw [zef hi ho'];exact hw)
  have hilt:i<L.length:=(List.getElem?_eq_some_iff.1 hi).1
  have hmem:=List.mem_of_getElem? hi
  refine zaj2 (l:=modsO L) ok (by rw [←hops] at hi;simpa using hi) (by rw [hops];exact hv) hs.rr (fun t ht j p h1 h2 h3 h4=> ?_) (fun j b p d e1 e2 e3=> ?_) (fun d e=>⟨hlt d (zkq hmem e),?_,zkq hmem e⟩) (fun d hp=> ?_) next Q fun s' h' β' a' w' hk out=> ?_
  · have:=zki1 h4 (hs.facts j p h1 h2 h3).2.2.1 i o hi ht
    rw [Nat.zero_add] at this
    exact h2 (hah j this)
  · rw [hops,zfl] at e2
    have hjl:=hah _ (zek1 hlk e1)
    refine ⟨fun j' p' h1 h2 h3 h4=> ?_,j,p,hs.lsub j hjl,e2,e3⟩
    have:=zli hnd h3 e2 h4 e3
    subst this
    exact h2 hjl
  · rintro ⟨j,p,h1,h2,h3⟩
    exact hid (by rw [←zli hnd h2 hi h3 e];exact h1)
  · have hN:NnP C L done d:=⟨i,o,hid,hi,hp⟩
    exact ⟨hN,fun e=>e.2 hN⟩
  · refine hn s' h' β' a' w' hk ⟨by simpa using hs.lsz,fun j=>zms1 hs.lsz hilt hs.lst,List.nodup_cons.2 ⟨fun e=>hid (hs.lsub i e),hs.lnd⟩,fun j hj=> ?_,fun j hj=> ?_,?_,?_,
      ⟨fun o' ho'=>by rw [zef hi ho'];exact fun k hk=>hs.lsub k (hw k hk),hs.topo⟩,out.rr.congr (fun t=>zds2 hnd hi hid t) (fun k=>zwd1 hnd hi hid k) zja1 (fun k e=>(zsm hnd hi hid k).1 e),fun j p h1 h2 h3=> ?_,
      hs.seg.trans (out.seg.mono (fun _ e=>e) (fun _ e=>e) (fun _ e=>e) (fun k e=>⟨e.1,(zwd1 hnd hi hid k).1 e.2⟩))⟩
    · rcases List.mem_cons.1 hj with rfl | hj
      · exact List.mem_cons_self ..
      · exact List.mem_cons_of_mem _ (hs.lsub j hj)
    · rcases List.mem_cons.1 hj with rfl | hj
      · exact hilt
      · exact hs.dlt j hj
    · intro j p hj hjm k hk'
      rcases List.mem_cons.1 hjm with rfl | hjm
      · rw [zef hi hj] at hk'
        exact List.mem_cons_of_mem _ (hw k hk')
      · exact List.mem_cons_of_mem _ (hs.clos j p hj hjm k hk')
    · intro j p hj hjm k hk'
      rcases List.mem_cons.1 hjm with rfl | hjm
      · rw [zef hi hj] at hk'
        exact List.mem_cons_of_mem _ (hs.lsub k (hw k hk'))
      · exact List.mem_cons_of_mem _ (hs.dclos j p hj hjm k hk')
    · have hne:j≠i:=fun e=>h2 (e▸List.mem_cons_self ..)
      exact zya1 ok hnd hs hi hid hah hwatch out (hK _ _ hk) ((List.mem_cons.1 h1).resolve_left hne) (fun e=>h2 (List.mem_cons_of_mem _ e)) h3
theorem zui {ops:Array Oper} (hops:ops.toList=L) (hs:Sim C L mok n lv0 β0 a0 h0 w0 done ls listed β s a h w) {j:Nat}:
    j∈Region.ready .any ops listed↔j∉ls∧∃o,L[j]?=some o∧∀k∈waits o,k∈ls:=by
  rw [mem_ready]
  have hget:∀j:Nat,ops[j]?=L[j]?:=fun j=>by rw [←hops,Array.getElem?_toList]
  constructor
  · rintro ⟨h1,o,ho,h2⟩
    rw [hget] at ho
    refine ⟨fun e=> ?_,o,ho,fun k hk=> ?_⟩
    · have hlt:j<listed.size:=by rw [hs.lsz];exact (List.getElem?_eq_some_iff.1 ho).1
      have:=(hs.lst j).2 e
      have h3:listed.getD j true=listed.getD j false:=by simp only [Array.getD,hlt,dif_pos]
      rw [h3,this] at h1
      cases h1
    · obtain ⟨e,he,rfl,hb⟩:=zap2 hk
      exact (hs.lst _).1 (h2 e he hb)
  · rintro ⟨h1,o,ho,h2⟩
    refine ⟨?_,o,by rw [hget];exact ho,fun e he hb=>(hs.lst _).2 (h2 _ (zak2 he hb))⟩
    have hlt:j<listed.size:=by rw [hs.lsz];exact (List.getElem?_eq_some_iff.1 ho).1
    cases e:listed.getD j true with
    | false=>rfl
    | true=>
      refine absurd ((hs.lst j).1 ?_) h1
      simpa [hlt] using e
theorem zgl2 (ok:C.tb.Ok C.P) {ops:Array Oper} (hops:ops.toList=L) (hnd:(modsO L).Nodup) (hlt:∀d∈modsO L,d<n) {K0:St→Hp→Prop} {Q:Exit→Act→World→Prop}
    (hQ:∀s' h' β' a' w',K0 s' h'→RR n (fun _=>True) (fun _=>True) (fun _=>True) (fun _=>False) β' s' a' h' w'→Seg (modsO L) mok lv0 β0 a0 h0 w0 (lives s') β' a' h' w'→Q .normal a' w'):
    ∀(fuel:Nat) (r:List (Nat×List Nat)) (done ls:List Nat) (listed:Array Bool) (last:Option Nat) (β:Nat→Nat) (s:St) (a:Act) (h:Hp) (w:World),
      Sim C L mok n lv0 β0 a0 h0 w0 done ls listed β s a h w→planGo C.tb C.priv L (aheads L []) r done last=true→(∀j,j<L.length→j∈done∨j∈r.map (·.1))→ordW C L mok r s h K0→
      L.length≤fuel+ls.length→wpAny C.P .any ops Q fuel listed a w:=by
  have finish:∀(done ls:List Nat) (listed:Array Bool) (β:Nat→Nat) (s:St) (a:Act) (h:Hp) (w:World),Sim C L mok n lv0 β0 a0 h0 w0 done ls listed β s a h w→(∀j,j<L.length→j∈done)→(∀j∈done,j∈ls)→
      K0 s h→Q .normal a w:=by
    intro done ls listed β s a h w hs hall hdl hk
    have hN:∀k,¬NnP C L done k:=fun k ⟨j,p,h1,h2,_⟩=>h1 (hall j (List.getElem?_eq_some_iff.1 h2).1)
    have hL:∀k,True↔LivP C L done ls k:=fun k=>⟨fun _=>⟨fun j p h1 h2 _=>absurd (hdl j h1) h2,hN k⟩,fun _=>trivial⟩
    exact hQ s h β a w hk (hs.rr.congr (fun t=>⟨fun _ j p h1 h2 _=>absurd (hdl j h1) h2,fun _=>trivial⟩) hL (fun _ _=>trivial) (fun _ e=>e.elim)) (hs.seg.mono (fun _ e=>e) (fun _ e=>e) (fun _ e=>e) (fun k e=>⟨e.1,(hL k).1 trivial⟩))
  intro fuel
  induction fuel with
  | zero=>
    intro r done ls listed last β s a h w hs hp hcov hv hf
    have hall:∀j,j<L.length→j∈ls:=fun j hj=>zfr2 hs.lnd (fun x hx=>hs.dlt x (hs.lsub x hx)) (by omega) hj
    have hrdy:Region.ready .any ops listed=[]:=by
      cases hr:Region.ready .any ops listed with
      | nil=>rfl
      | cons j js=>
        have:j∈Region.ready .any ops listed:=by rw [hr];exact List.mem_cons_self ..
        obtain ⟨h1,o,ho,_⟩:=(zui hops hs).1 this
        exact absurd (hall j (List.getElem?_eq_some_iff.1 ho).1) h1
    refine ⟨hrdy,?_⟩
    cases r with
    | nil=>exact finish done ls listed β s a h w hs (fun j hj=>hs.lsub j (hall j hj)) (fun j hj=>hall j (hs.dlt j hj)) hv
    | cons x r=>
      obtain ⟨i,ws⟩:=x
      obtain ⟨o,ho,_,_,hid,_⟩:=zws hp
      exact absurd (hs.lsub i (hall i (List.getElem?_eq_some_iff.1 ho).1)) hid
  | succ fuel ih=>
    intro r
    induction r with
    | nil=>
      intro done ls listed last β s a h w hs hp hcov hv hf
      have hall:∀j,j<L.length→j∈done:=fun j hj=>(hcov j hj).resolve_right (by simp)
      refine ⟨fun hr=>finish done ls listed β s a h w hs hall (fun j hj=>Classical.byContradiction fun e=> ?_) hv,fun j hj=> ?_⟩
      · obtain ⟨i,h1,h2,h3⟩:=zht1 hs.topo ⟨j,hj,e⟩
        have hi:=List.getElem?_eq_getElem (hs.dlt i h1)
        have:i∈Region.ready .any ops listed:=(zui hops hs).2 ⟨h2,_,hi,h3 _ hi⟩
        rw [hr] at this
        cases this
      · obtain ⟨h1,o,ho,h2⟩:=(zui hops hs).1 hj
        exact zqx1 ok hops hnd hs ho (hall j (List.getElem?_eq_some_iff.1 ho).1) h1 h2 _ Q fun β' a' w' hs'=>ih [] done (j::ls) _ last β' s a' h w' hs' hp hcov hv (by simp;omega)
    | cons x r ihr=>
      intro done ls listed last β s a h w hs hp hcov hv hf
      obtain ⟨i,ws⟩:=x
      obtain ⟨o,ho,hw,hlk,hid,hlast,hc⟩:=zws hp
      have hcov':∀j,j<L.length→j∈i::done∨j∈r.map (·.1):=fun j hj=>by
        rcases hcov j hj with e | e
        · exact .inl (List.mem_cons_of_mem _ e)
        · rcases List.mem_cons.1 e with e | e
          · exact .inl (e▸List.mem_cons_self ..)
          · exact .inr e
      simp only [ordW,zfl,ho] at hv
      obtain ⟨hkd,hv'⟩:=condP hv
      have rest:planGo C.tb C.priv L (aheads L []) r (i::done) (some i)=true→
          ((isVal C.tb o=true∨zaw C.priv o=true)∨∀j p,j∈done→L[j]?=some p→isVal C.tb p=true→zev1 C.tb p=true→j∈ws∨j∈zct (aheads L []) i)→wpAny C.P .any ops Q (fuel+1) listed a w:=by
        intro hp' hwatch
        have hAll:∀s1 h1,(match (generalizing:=false) ws with
          | []=>ordW C L mok r s1 h1 K0
          | ws=>zus C (chg o s) L s1 h1 ws∧ordW C L mok r s1 h1 K0)→zus C (chg o s) L s1 h1 ws∧ordW C L mok r s1 h1 K0:=by
          intro s1 h1 e
          cases ws with
          | nil=>exact ⟨trivial,e⟩
          | cons x ws=>exact e
        refine ⟨fun hr=> ?_,fun j hj=> ?_⟩
        · exfalso
          by_cases hx:∃j∈done,j∉ls
          · obtain ⟨j,h1,h2,h3⟩:=zht1 hs.topo hx
            have hi:=List.getElem?_eq_getElem (hs.dlt j h1)
            have:j∈Region.ready .any ops listed:=(zui hops hs).2 ⟨h2,_,hi,h3 _ hi⟩
            rw [hr] at this
            cases this
          · have:i∈Region.ready .any ops listed:=(zui hops hs).2 ⟨fun e=>hid (hs.lsub i e),o,ho,fun k hk=>Classical.byContradiction fun e=>hx ⟨k,hw k hk,e⟩⟩
            rw [hr] at this
            cases this
        · obtain ⟨h1,p,hp2,h2⟩:=(zui hops hs).1 hj
          by_cases hjd:j∈done
          · exact zqx1 ok hops hnd hs hp2 hjd h1 h2 _ Q fun β' a' w' hs'=>ih ((i,ws)::r) done (j::ls) _ last β' s a' h w' hs' hp hcov (by
              simp only [ordW,zfl,ho]
              rw [hkd]
              exact hv') (by simp;omega)
          · by_cases hji:j=i
            · subst hji
              rw [ho] at hp2;cases hp2
              exact zdt2 ok hops hnd hlt hs ho hid h2 hlk hwatch (fun s h e=>(hAll s h e).1) hv' _ Q fun s' h' β' a' w' hk hs'=>ih r (j::done) (j::ls) _ (some j) β' s' a' h' w' hs' hp' hcov' (hAll _ _ hk).2 (by simp;omega)
            · exfalso
              have hjr:j∈r.map (·.1):=((hcov' j (List.getElem?_eq_some_iff.1 hp2).1).resolve_left fun e=>by
                rcases List.mem_cons.1 e with e | e
                · exact hji e
                · exact hjd e)
              have:=zmq1 hp' j hjr (· ∈ls) hs.clos fun o' ho'=>by rw [zef hp2 ho'];exact h2
              exact hid (hs.lsub i this)
      rcases hc with ⟨hvp,hwar,hp'⟩ | ⟨hvp,_,hp'⟩ | ⟨_,_,hwt,hp'⟩
      · obtain ⟨s',hk,hs'⟩:=zdr2 ok hnd hlt hs ho hid hw hlk hwar hvp hkd hv'
        refine ihr (i::done) ls listed last β s' a h w hs' hp' hcov' ?_ hf
        cases ws with
        | nil=>exact hk
        | cons x ws=>exact hk.2
      · exact rest hp' (.inl hvp)
      · exact rest hp' (.inr fun j p hjd hj hv1 hr1=>zkj1 hwt j hjd p hj hv1 hr1)
theorem zwe1 {tb:Tb} {priv:List Nat} {rows:List (List Nat)}:∀ {r:List (Nat×List Nat)} {done:List Nat} {last:Option Nat},planGo tb priv L rows r done last=true→
    (r.map (·.1)).Nodup∧∀j∈r.map (·.1),j∉done∧j<L.length
  | [],_,_,_=>⟨.nil,fun j hj=>(nomatch hj)⟩
  | (i,ws)::r,done,last,h=>by
    obtain ⟨o,ho,_,_,hid,_,hc⟩:=zws h
    have main:∀last',planGo tb priv L rows r (i::done) last'=true→_:=fun last' h'=>zwe1 h'
    have:(r.map (·.1)).Nodup∧∀j∈r.map (·.1),j∉i::done∧j<L.length:=by
      rcases hc with ⟨_,_,h'⟩ | ⟨_,_,h'⟩ | ⟨_,_,_,h'⟩
      · exact main _ h'
      · exact main _ h'
      · exact main _ h'
    refine ⟨List.nodup_cons.2 ⟨fun e=>(this.2 i e).1 (List.mem_cons_self ..),this.1⟩,fun j hj=> ?_⟩
    rcases List.mem_cons.1 hj with rfl | hj
    · exact ⟨hid,(List.getElem?_eq_some_iff.1 ho).1⟩
    · exact ⟨fun e=>(this.2 j hj).1 (List.mem_cons_of_mem _ e),(this.2 j hj).2⟩
theorem zmu1 {priv:List Nat} {k:Nat}:∀ {L:List Oper},k∈zbl priv L↔∃(i:Nat) (o:Oper),L[i]?=some o∧privA priv o k
  | []=>by simp [zbl]
  | o::L=>by
    have ih:=zmu1 (priv:=priv) (k:=k) (L:=L)
    have key:(∃(i:Nat) (p:Oper),(o::L)[i]?=some p∧privA priv p k)↔(privA priv o k∨∃(i:Nat) (p:Oper),L[i]?=some p∧privA priv p k):=by
      constructor
      · rintro ⟨i,p,h1,h2⟩
        cases i with
        | zero=>simp at h1;subst h1;exact .inl h2
        | succ i=>exact .inr ⟨i,p,by simpa using h1,h2⟩
      · rintro (h | ⟨i,p,h1,h2⟩)
        · exact ⟨0,o,by simp,h⟩
        · exact ⟨i+1,p,by simpa using h1,h2⟩
    rw [key,←ih]
    by_cases hp:∃d,privA priv o d
    · obtain ⟨d,hp⟩:=hp
      rw [zsk hp,List.mem_cons]
      refine or_congr ⟨fun e=>e▸hp,fun e=> ?_⟩ .rfl
      have:=e.2
      rw [hp.2] at this;cases this;rfl
    · rw [zeh1 fun d e=>hp ⟨d,e⟩]
      exact ⟨.inr,fun e=>e.resolve_left fun e=>hp ⟨k,e⟩⟩
end
theorem zar2 {C:Ctx} (ok:C.tb.Ok C.P) {ops:Array Oper} {mok:List Nat} {n:Nat} {ord:List (Nat×List Nat)} {β:Nat→Nat} {s:St} {a:Act} {h:Hp} {w:World} {K:St→Hp→Prop} {Q:Exit→Act→World→Prop} {id:Nat}
    (hp:zzm1 C.tb C.priv ops.toList ord=true) (hlt:∀d∈modsO ops.toList,d<n) (hr:Rel n β s a h w) (hv:ordW C ops.toList mok ord (s.dropB (zbl C.priv ops.toList)) h K)
    (hQ:∀s' h' β' a' w',K s' h'→Rel n β' s'.clean a' h' w'→Seg (modsO ops.toList) mok (lives s) β a h w (lives s') β' a' h' w'→Q .normal a' w'):(Code.region id ops true).wp C.P Q a w:=by
  unfold zzm1 at hp
  obtain ⟨h1,hp⟩:=condT hp
  obtain ⟨h2,hp⟩:=condT hp
  have hnd:=zgf1 h1
  refine wp_region_any ok.mixed ?_
  have hst:Step h h w {w with drawn:=w.drawn+1}:=⟨hr.sub,Nat.le_refl _,fun _ _ e=>⟨rfl,e⟩,rfl,rfl,rfl⟩
  have hr0:=(hr.step hst).start (zbl C.priv ops.toList)
  have hN:∀k,NnP C ops.toList [] k↔k∈zbl C.priv ops.toList:=fun k=>by
    rw [zmu1]
    exact ⟨fun ⟨i,o,_,h2,h3⟩=>⟨i,o,h2,h3⟩,fun ⟨i,o,h2,h3⟩=>⟨i,o,by simp,h2,h3⟩⟩
  have hL:∀k,LivP C ops.toList [] [] k↔k∉zbl C.priv ops.toList:=fun k=>by
    rw [←hN]
    exact ⟨fun e=>e.2,fun e=>⟨fun i o h1=>absurd h1 List.not_mem_nil,e⟩⟩
  have hidx:=zwe1 hp
  refine zgl2 (L:=ops.toList) (mok:=mok) (n:=n) (lv0:=lives s) (β0:=β) (a0:=a) (h0:=h) (w0:=w) ok rfl hnd hlt (K0:=K) (fun s' h' β' a' w' hk hr' hs'=>hQ s' h' β' a' w' hk hr'.clean hs') ops.size ord [] [] _ none β (s.dropB (zbl C.priv ops.toList)) a h _
    ⟨by simp,fun i=> ?_,.nil,fun i e=>absurd e List.not_mem_nil,fun i e=>absurd e List.not_mem_nil,fun i o _ e=>absurd e List.not_mem_nil,fun i o _ e=>absurd e List.not_mem_nil,trivial,?_,fun i o e=>absurd e List.not_mem_nil,?_⟩ hp (fun j hj=>.inr (zfr2 hidx.1 (fun x hx=>(hidx.2 x hx).2) ?_ hj)) hv (by simp)
  · by_cases hi:i<ops.size
    · simp [hi]
    · simp [hi]
  · exact hr0.congr (fun t=>⟨fun _=>trivial,fun _ i o e=>absurd e List.not_mem_nil⟩) hL (fun _ e=>e.elim) (fun k e=>(hN k).1 e)
  · exact (Seg.step (lv:=lives s) hst).mono (fun _ e=>e) (fun _ e=>e) (fun _ e=>e) (fun k e=>zqt1 (l:=zbl C.priv ops.toList) ⟨e.1,(hL k).1 e.2⟩)
  · have:=Nat.eq_of_beq_eq_true h2
    simp [this]
end Lf

namespace Lf
open Go
def exOf :Ex→Exit
  | .nrm=>.normal
  | .ret=>.ret
  | .ext i=>.exit i
  | .gto i=>.goto i
theorem zwf1 {p:Nat→Prop}:(∃n,p n)→∃n,p n∧∀m,p m→n≤m:=by
  rintro ⟨n,hn⟩
  induction n using Nat.strongRecOn with
  | _ n ih=>
    by_cases h:∃m,m<n∧p m
    · obtain ⟨m,h1,h2⟩:=h
      exact ih m h1 h2
    · exact ⟨n,hn,fun m hm=>Nat.le_of_not_lt fun e=>h ⟨m,e,hm⟩⟩
theorem zpa1 {P:Program} {c:Code} {Q:Exit→Act→World→Prop} {a:Act} {w:World} (J:Nat→Act→World→Prop) (h0:∃n,J n a w)
    (round:∀n a w,J n a w→c.wp P (Exit.then (fun a' w'=>∃m,m<n∧J m a' w') Q) a w):(Code.loop c).wp P Q a w:=by
  classical
  let μ:Act→World→Nat:=fun a w=>if h:∃n,J n a w then Classical.choose (zwf1 h) else 0
  have hμ:∀a w,(h:∃n,J n a w)→J (μ a w) a w∧∀m,J m a w→μ a w≤m:=fun a w h=>by
    have:=Classical.choose_spec (zwf1 h)
    simp only [μ,dif_pos h]
    exact this
  refine wp_loop (fun a w=>∃n,J n a w) μ h0 fun a w hJ=> ?_
  refine wp_mono (round (μ a w) a w (hμ a w hJ).1) fun e a' w' hq=> ?_
  cases e with
  | normal=>
    obtain ⟨m,h1,h2⟩:=hq
    exact ⟨⟨m,h2⟩,Nat.lt_of_le_of_lt ((hμ a' w' ⟨m,h2⟩).2 m h2) h1⟩
  | _=>exact hq
section
variable {n:Nat} {β:Nat→Nat} {s:St} {a:Act} {h:Hp} {w:World}
structure Mix (s s' s2:St) (a':Act) (n:Nat) (l mm:List Nat):Prop where
  f:∀t v c,s2.f t=some (v,c)→c=[]∧((s.f t=some (v,[])∧t∉l∧∀k o,(v=.box k o∨v=.boxd k o)→k∉l)∨(∃x,v=.v x∧a'.eval (.tmp t)=x∧t<n))
  m:∀k cs,s2.m k=some cs→(s.m k=some cs∧k∉mm)∨s'.m k=some cs
theorem zie2 {l mm:List Nat} {β':Nat→Nat} {s' s2:St} {a':Act} {h':Hp} {w':World} (hr:Rel n β s a h w) (hs:Seg l mm (lives s) β a h w (lives s') β' a' h' w') (hr':Rel n β' s' a' h' w') (hm:Mix s s' s2 a' n l mm):
    Rel n β' s2 a' h' w'∧Seg l mm (lives s) β a h w (lives s2) β' a' h' w':=by
  have hkeep:∀k cs,s.m k=some cs→k∉mm→β' k=β k∧β k<w.heap.size∧h' (β k)=none∧∃ct,w'.heap[β k]?=some (.cells cs.toArray ct (0,0)):=by
    intro k cs e hk
    obtain ⟨h1,ct,h2⟩:=hr.box k cs e trivial
    have hne:∀k'∈mm,lives s k'→β k'≠β k:=fun k' hk' hl e'=>hk (by rw [hr.inj k k' (by simp [e]) hl.1 trivial trivial e'.symm];exact hk')
    refine ⟨hs.beta k (.inr hk),zhr1 h2,hs.unk _ (zhr1 h2) h1 hne,ct,?_⟩
    rw [hs.keep _ (zhr1 h2) h1 hne]
    exact h2
  have hnew:∀k,s'.m k≠none→(s.m k≠none∧β' k=β k)∨w.heap.size≤β' k:=fun k e=>(hs.fresh k ⟨e,trivial⟩).imp (fun e=>⟨e.1.1,e.2⟩) id
  refine ⟨⟨hr'.sz,hr'.sub,fun t v c e=> ?_,fun t v c e p hp=> ?_,fun t v c e _ _=> ?_,fun t v c e _ hh=> ?_,fun k cs e _=> ?_,fun k k' e e' _ _ he=> ?_,fun _ e=>e.elim,fun _ e=>e.elim⟩,?_⟩
  · obtain ⟨_,h1 | ⟨x,_,_,h1⟩⟩:=hm.f t v c e
    · exact hr.lt t v [] h1.1
    · exact h1
  · rw [(hm.f t v c e).1] at hp;cases hp
  · refine ⟨?_,fun _ _ _=>trivial⟩
    obtain ⟨_,⟨h1,h2,h3⟩ | ⟨x,rfl,h1,_⟩⟩:=hm.f t v c e
    · rw [hs.tmp t h2,(hr.cur t v [] h1 trivial (zbn _)).1]
      cases v with
      | v x=>rfl
      | box k o=>simp only [LVal,hs.beta k (.inl (h3 k o (.inl rfl)))]
      | boxd k o=>simp only [LVal,hs.beta k (.inl (h3 k o (.inr rfl)))]
    · exact h1
  · rw [(hm.f t v c e).1] at hh;exact absurd (zbn _) hh
  · rcases hm.m k cs e with ⟨h1,h2⟩ | h1
    · obtain ⟨e1,_,e2,e3⟩:=hkeep k cs h1 h2
      rw [e1]
      exact ⟨e2,e3⟩
    · exact hr'.box k cs h1 trivial
  · obtain ⟨cs,e⟩:=Option.ne_none_iff_exists'.1 e
    obtain ⟨cs',e'⟩:=Option.ne_none_iff_exists'.1 e'
    rcases hm.m k cs e with ⟨h1,h2⟩ | h1
    · obtain ⟨e1,e2,_⟩:=hkeep k cs h1 h2
      rcases hm.m k' cs' e' with ⟨h1',h2'⟩ | h1'
      · obtain ⟨e1',_⟩:=hkeep k' cs' h1' h2'
        rw [e1,e1'] at he
        exact hr.inj k k' (by simp [h1]) (by simp [h1']) trivial trivial he
      · rcases hnew k' (by simp [h1']) with ⟨e3,e4⟩ | e3
        · rw [e1,e4] at he
          exact hr.inj k k' (by simp [h1]) e3 trivial trivial he
        · rw [e1] at he;omega
    · rcases hm.m k' cs' e' with ⟨h1',h2'⟩ | h1'
      · obtain ⟨e1',e2',_⟩:=hkeep k' cs' h1' h2'
        rcases hnew k (by simp [h1]) with ⟨e3,e4⟩ | e3
        · rw [e1',e4] at he
          exact hr.inj k k' e3 (by simp [h1']) trivial trivial he
        · rw [e1'] at he;omega
      · exact hr'.inj k k' (by simp [h1]) (by simp [h1']) trivial trivial he
  · refine ⟨hs.tmp,hs.beta,hs.size,hs.unk,hs.keep,fun k e=> ?_,hs.os,hs.tape,hs.output,hs.defers⟩
    obtain ⟨cs,e⟩:=Option.ne_none_iff_exists'.1 e.1
    rcases hm.m k cs e with ⟨h1,h2⟩ | h1
    · exact .inl ⟨⟨by simp [h1],trivial⟩,(hkeep k cs h1 h2).1⟩
    · exact hs.fresh k ⟨by simp [h1],trivial⟩
def shO :Option Ty→Shape
  | some e=>e.sh
  | none=>zmd1
theorem zas2 (tb:Tb) (t:Nat):shOf tb t=shO (tb.ty t):=by
  unfold shOf shO
  cases tb.ty t<;>rfl
theorem zgm2 {P:Program} {tb:Tb} (ok:tb.Ok P) {t:Nat} (ha:zvj1 tb t=false):∀(x:(shOf tb t).T) (cs:Array Value),(shOf tb t).enc x≠ .agg cs:=by
  rw [zas2]
  unfold zvj1 at ha
  cases he:tb.ty t with
  | none=>intro x cs e;cases e
  | some e=>
    rw [he] at ha
    intro x cs
    exact ((ok.leaf t e he ha).2 x).2 cs
theorem zwg1 {P:Program} {tb:Tb} (ok:tb.Ok P) {t:Nat} {cs:List Value} {v:Value} {x:(shOf tb t).T} (h1:znl1 tb t cs=some v) (h2:(shOf tb t).dec v=some x):zad ((shOf tb t).enc x)=cs:=by
  have hv:=(shOf tb t).ok v x h2
  rw [hv]
  unfold znl1 at h1
  cases ha:zvj1 tb t with
  | true=>
    rw [ha] at h1
    cases h1
    rfl
  | false=>
    rw [ha] at h1
    simp only [cond_false] at h1
    split at h1
    · cases h1
      have hne:∀cs,v≠ .agg cs:=fun cs e=>zgm2 ok ha x cs (hv.trans e)
      cases v<;>first | rfl | exact absurd rfl (hne _)
    · cases h1
theorem zmv1 {P:Program} {tb:Tb} (ok:tb.Ok P) {l mm:List Nat} {β':Nat→Nat} {s' s2:St} {a':Act} {h':Hp} {w':World} (hr':Rel n β' s' a' h' w') {j:J} {K:(shOf tb j.t).T→Prop} (hg:zvk1 tb s' j K)
    (hm:Mix s s' s2 a' n l mm):∃x,K x∧Mix s s' (zqf1 tb j x s2) a' n l mm:=by
  unfold zvk1 at hg
  cases hM:j.isM with
  | true=>
    rw [hM] at hg
    simp only [cond_true] at hg
    split at hg
    · rename_i cs hcs
      split at hg
      · rename_i v hv
        split at hg
        · rename_i x hx
          refine ⟨x,hg,?_⟩
          have hc:=zwg1 ok hv hx
          unfold zqf1
          rw [hM]
          simp only [cond_true,hc]
          refine ⟨hm.f,fun k cs' e=> ?_⟩
          by_cases hk:k=j.i
          · subst hk
            rw [zgd1] at e;cases e
            exact .inr hcs
          · rw [zrn _ _ hk] at e
            exact hm.m k cs' e
        · exact hg.elim
      · exact hg.elim
    · exact hg.elim
  | false=>
    rw [hM] at hg
    simp only [cond_false] at hg
    split at hg
    · rename_i v hv
      split at hg
      · rename_i x hx
        refine ⟨x,hg,?_⟩
        unfold zqf1
        rw [hM]
        simp only [cond_false]
        rw [(shOf tb j.t).ok v x hx]
        refine ⟨fun t u c e=> ?_,fun k cs e=>hm.m k cs (by rwa [put_m] at e)⟩
        by_cases ht:t=j.i
        · subst ht
          rw [zwq] at e;cases e
          exact ⟨rfl,.inr ⟨v,rfl,(hr'.cur j.i _ [] hv trivial (zbn _)).1,hr'.lt _ _ _ hv⟩⟩
        · rw [zkh1 _ _ _ ht] at e
          exact hm.f t u c e
      · exact hg.elim
    · exact hg.elim
theorem zwh1 {P:Program} {tb:Tb} (ok:tb.Ok P) {l mm:List Nat} {β':Nat→Nat} {s':St} {a':Act} {h':Hp} {w':World} (hr':Rel n β' s' a' h' w'):∀ {js:List J} {s2:St} {K:JTup tb js→Prop},getJ tb js s' K→
    Mix s s' s2 a' n l mm→∃x,K x∧Mix s s' (setJ tb js x s2) a' n l mm
  | [],s2,K,hg,hm=>⟨(),hg,hm⟩
  | [j],s2,K,hg,hm=>zmv1 ok hr' hg hm
  | j::j2::js,s2,K,hg,hm=>by
    obtain ⟨x,hx,hm'⟩:=zmv1 ok hr' hg hm
    obtain ⟨y,hy,hm2⟩:=zwh1 ok hr' (js:=j2::js) hx hm'
    exact ⟨(x,y),hy,hm2⟩
theorem zyb1 (hr:Rel n β s a h w) {l mm:List Nat} {s':St} {a':Act}:Mix s s' (s.forget l mm) a' n l mm:=by
  refine ⟨fun t v c e=> ?_,fun k cs e=> ?_⟩
  · simp only [St.forget] at e
    cases ht:has l t with
    | true=>simp [ht] at e
    | false=>
      simp only [ht,cond_false] at e
      obtain ⟨h1,h2⟩:=dropL'_some e
      have hc:c=[]:=by
        cases c with
        | nil=>rfl
        | cons p c=>exact (hr.chain t v _ h1 p (List.mem_cons_self ..)).elim
      subst hc
      exact ⟨rfl,.inl ⟨h1,zrm ht,h2⟩⟩
  · simp only [St.forget] at e
    cases hk:has mm k with
    | true=>simp [hk] at e
    | false=>
      simp only [hk,cond_false] at e
      exact .inl ⟨e,zrm hk⟩
theorem zgh1 {P:Program} {tb:Tb} (ok:tb.Ok P) {l mm:List Nat} {β':Nat→Nat} {s':St} {a':Act} {h':Hp} {w':World} (hr:Rel n β s a h w) (hs:Seg l mm (lives s) β a h w (lives s') β' a' h' w') (hr':Rel n β' s' a' h' w')
    {js:List J} {K:JTup tb js→Prop} (hg:getJ tb js s' K):
    ∃x,K x∧Rel n β' (setJ tb js x (s.forget l mm)) a' h' w'∧Seg l mm (lives s) β a h w (lives (setJ tb js x (s.forget l mm))) β' a' h' w':=by
  obtain ⟨x,hx,hm⟩:=zwh1 ok hr' hg (zyb1 (s':=s') (a':=a') hr)
  obtain ⟨h1,h2⟩:=zie2 hr hs hr' hm
  exact ⟨x,hx,h1,h2⟩
end
theorem zgn2 {n:Nat} {β:Nat→Nat} {s:St} {a:Act} {h:Hp} {w:World} {l mm:List Nat} {β':Nat→Nat} {s':St} {a':Act} {h':Hp} {w':World} {k:Nat} {K:St→Hp→Prop} (hk:k∈mm) (hs:Seg l mm (lives s) β a h w (lives s') β' a' h' w') (hr:Rel n β' s' a' h' w') (hp:pubW k s' h' K):
    ∃s2 h2,K s2 h2∧Rel n β' s2 a' h2 w'∧Seg l mm (lives s) β a h w (lives s2) β' a' h2 w':=by
  unfold pubW at hp
  split at hp
  · rename_i k' off cs hf hm
    obtain ⟨h1,hp1⟩:=condP hp
    obtain ⟨h2,hp2⟩:=condP hp1
    clear hp hp1
    have h1:=Nat.eq_of_beq_eq_true h1
    have h2:=Nat.eq_of_beq_eq_true h2
    subst h1 h2
    obtain ⟨hn,ct,hw⟩:=hr.box k cs hm trivial
    have hset:∀x,(h'.set (β' k) (.cells cs.toArray ct (0,0))) x=if x=β' k then some (.cells cs.toArray ct (0,0)) else h' x:=fun x=>rfl
    have hmm:∀i cs',cond (Nat.beq i k) none (s'.m i)=some cs'→i≠k∧s'.m i=some cs':=fun i cs' e=>by
      by_cases hi:i=k
      · subst hi;simp at e
      · rw [zkg1 hi] at e;exact ⟨hi,e⟩
    have hff:∀t v c,cond (Nat.beq t k) (some (LV.v (.pointer (some ⟨β' k,0,none⟩)),([]:Chain))) (s'.f t)=some (v,c)→(t=k∧v=LV.v (.pointer (some ⟨β' k,0,none⟩))∧c=[])∨s'.f t=some (v,c):=fun t v c e=>by
      by_cases hi:t=k
      · subst hi;simp at e;exact .inl ⟨rfl,e.1.symm,by first | exact e.2 | exact e.2.symm⟩
      · rw [zkg1 hi] at e;exact .inr e
    refine ⟨_,_,hp2 (β' k) ct hn,⟨hr.sz,fun b o e=> ?_,fun t v c e=> ?_,fun t v c e p hpp=> ?_,fun t v c e _ hh=> ?_,fun t v c e _ hh=> ?_,fun i cs' e _=> ?_,fun i j e e' _ _ he=> ?_,fun _ e=>e.elim,fun _ e=>e.elim⟩,?_⟩
    · rw [hset] at e
      split at e
      · rename_i hb;cases e;rw [hb];exact hw
      · exact hr.sub b o e
    · rcases hff t v c e with ⟨rfl,_,_⟩ | e
      · exact hr.lt t _ _ hf
      · exact hr.lt t v c e
    · rcases hff t v c e with ⟨rfl,_,rfl⟩ | e
      · cases hpp
      · exact hr.chain t v c e p hpp
    · have hh':holds s' c:=by
        have:c=[]:=by
          rcases hff t v c e with ⟨_,_,h⟩ | e
          · exact h
          · cases c with
            | nil=>rfl
            | cons p c=>exact (hr.chain t v _ e p (List.mem_cons_self ..)).elim
        subst this;exact zbn _
      rcases hff t v c e with ⟨rfl,rfl,rfl⟩ | e
      · refine ⟨?_,fun _ _ _=>trivial⟩
        exact (hr.cur t _ _ hf trivial (zbn _)).1
      · exact ⟨(hr.cur t v c e trivial hh').1,fun _ _ _=>trivial⟩
    · have:c=[]:=by
        rcases hff t v c e with ⟨_,_,h⟩ | e
        · exact h
        · cases c with
          | nil=>rfl
          | cons p c=>exact (hr.chain t v _ e p (List.mem_cons_self ..)).elim
      subst this;exact absurd (zbn _) hh
    · obtain ⟨h1,h2⟩:=hmm i cs' e
      obtain ⟨h3,ct',h4⟩:=hr.box i cs' h2 trivial
      refine ⟨?_,ct',h4⟩
      rw [hset,if_neg]
      · exact h3
      · intro e'
        exact h1 (hr.inj i k (by simp [h2]) (by simp [hm]) trivial trivial e')
    · obtain ⟨ci,e⟩:=Option.ne_none_iff_exists'.1 e
      obtain ⟨cj,e'⟩:=Option.ne_none_iff_exists'.1 e'
      exact hr.inj i j (by simp [(hmm i ci e).2]) (by simp [(hmm j cj e').2]) trivial trivial he
    · refine ⟨hs.tmp,hs.beta,hs.size,fun b hb hn' hne=> ?_,hs.keep,fun i hi=> ?_,hs.os,hs.tape,hs.output,hs.defers⟩
      · rw [hset,if_neg]
        · exact hs.unk b hb hn' hne
        · rintro rfl
          rcases hs.fresh k ⟨by simp [hm],trivial⟩ with ⟨e1,e2⟩ | e1
          · exact hne k hk e1 e2.symm
          · omega
      · obtain ⟨ci,e⟩:=Option.ne_none_iff_exists'.1 hi.1
        exact hs.fresh i ⟨by simp [(hmm i ci e).2],trivial⟩
  · exact hp.elim
theorem app_mem {x y:List Nat} {d:Nat}:d∈app x y↔d∈x∨d∈y:=by rw [zmg1,List.mem_append]
theorem condN {α:Type} {c:Bool} {x:Option α} {y:α} (e:cond c x none=some y):c=true∧x=some y:=by
  cases c
  · cases e
  · exact ⟨rfl,e⟩
theorem zyc1 {l:Nat}:∀ {c:Code},noLab c l=true→findLabel c l=none:=by
  intro c
  induction c with
  | seq a b iha ihb=>
    intro e
    simp only [noLab] at e
    cases ha:noLab a l with
    | false=>rw [ha] at e;cases e
    | true=>rw [ha] at e;simp only [findLabel,iha ha];exact ihb e
  | label l'=>
    intro e
    simp only [noLab] at e
    by_cases hl:l'=l
    · subst hl;simp at e
    · simp [findLabel,hl]
  | _=>intro _;rfl
theorem zmw1 {x y:Code} {l:Nat} (hx:∀l',x≠ .label l'):znh (.seq x y) l=cond (noLab x l) (znh y l) none:=by
  cases x<;>first | rfl | exact absurd rfl (hx _)
theorem zdu2 {C:Ctx} {x y:Code} {l:Nat} {A:Ann} {mok:List Nat} {s:St} {E:Env} {h:Hp} (hx:∀l',x≠ .label l'):
    liftM C (.seq x y) (.fr l) A mok s E h=liftM C x .full A.fst mok s (E.nrm fun s' h'=>liftM C y (.fr l) A.snd mok s' E h') h:=by
  cases x<;>first | rfl | exact absurd rfl (hx _)
theorem zdv2 {C:Ctx} {x y:Code} {l:Nat} {A:Ann} {mok:List Nat} {s:St} {E:Env} {h:Hp} (hx:∀l',x≠ .label l'):
    liftM C (.seq x y) (.pr l) A mok s E h=match (generalizing:=false) A with
      | .gj _ js mm z _=>cond (allIn mm mok) (liftM C x .full .tt mok s (E.noGto.nrm fun s' h'=>
          JoinT (fun (R:JTup C.tb js→Hp→Prop)=>liftM C y (.fr l) z mm s' (E.lab l fun s' h'=>getJ C.tb js s' fun x=>R x h') h')
            (fun x h'=>liftM C y (.rs l) A.snd mok (setJ C.tb js x (s'.forget (mods y) mm)) E.noGto h')) h) False
      | _=>liftM C x .full A.fst mok s (E.noGto.nrm fun s' h'=>liftM C y (.pr l) A.snd mok s' E h') h:=by
  cases x<;>first | rfl | exact absurd rfl (hx _)
theorem zdf1 {l:Nat} {Q:Exit→Act→World→Prop} {J:Act→World→Prop} {e:Exit} {a:Act} {w:World} (he:Exit.noGoto Q e a w):Exit.jump l J Q e a w:=by
  cases e<;>first | exact he | exact he.elim
theorem zdw2 {C:Ctx} {x y:Code} {l:Nat} {A:Ann} {mok:List Nat} {s:St} {E:Env} {h:Hp} (hx:∀l',x≠ .label l'):
    liftM C (.seq x y) (.rs l) A mok s E h=liftM C y (.rs l) A mok s E h:=by
  cases x<;>first | rfl | exact absurd rfl (hx _)
theorem ztp1 {l:Nat} {r:Code}:∀ {c:Code},znh c l=some r→findLabel c l=some (.seq .skip r):=by
  intro c
  induction c with
  | seq x y ihx ihy=>
    intro e
    by_cases hx:∃l',x=.label l'
    · obtain ⟨l',rfl⟩:=hx
      obtain ⟨h1,e⟩:=condN e
      obtain rfl:y=r:=Option.some.inj e
      obtain rfl:=Nat.eq_of_beq_eq_true h1
      simp [findLabel]
    · rw [zmw1 (fun l' e=>hx ⟨l',e⟩)] at e
      obtain ⟨h1,e⟩:=condN e
      simp only [findLabel,zyc1 h1]
      exact ihy e
  | _=>intro e;simp [znh] at e
theorem ztq1 {C:Ctx} (ok:C.tb.Ok C.P) {n:Nat}:∀(c:Code),
    (∀(A:Ann) (mok:List Nat) (s:St) (E:Env) (h:Hp),(∀d∈mods c,d<n)→liftM C c .full A mok s E h→∀(β:Nat→Nat) (a:Act) (w:World),Rel n β s a h w→
      ∀Q:Exit→Act→World→Prop,(∀e s' h' β' a' w',E e s' h'→Rel n β' s' a' h' w'→Seg (mods c) mok (lives s) β a h w (lives s') β' a' h' w'→Q (exOf e) a' w')→c.wp C.P Q a w)∧
    ∀l r,znh c l=some r→
      (∀(A:Ann) (mok:List Nat) (s:St) (E:Env) (h:Hp),(∀d∈mods c,d<n)→liftM C c (.fr l) A mok s E h→∀(β:Nat→Nat) (a:Act) (w:World),Rel n β s a h w→
        ∀Q:Exit→Act→World→Prop,(∀s' h' β' a' w',E .nrm s' h'→Rel n β' s' a' h' w'→Seg (mods c) mok (lives s) β a h w (lives s') β' a' h' w'→r.wp C.P Q a' w')→
        (∀e s' h' β' a' w',e≠ .nrm→E e s' h'→Rel n β' s' a' h' w'→Seg (mods c) mok (lives s) β a h w (lives s') β' a' h' w'→Q (exOf e) a' w')→c.wp C.P Q a w)∧
      (∀(A:Ann) (mok:List Nat) (s:St) (E:Env) (h:Hp),(∀d∈mods c,d<n)→liftM C c (.rs l) A mok s E h→∀(β:Nat→Nat) (a:Act) (w:World),Rel n β s a h w→
        ∀Q:Exit→Act→World→Prop,(∀e s' h' β' a' w',E e s' h'→Rel n β' s' a' h' w'→Seg (mods c) mok (lives s) β a h w (lives s') β' a' h' w'→Q (exOf e) a' w')→r.wp C.P Q a w)∧
      (∀(A:Ann) (mok:List Nat) (s:St) (E:Env) (h:Hp),(∀d∈mods c,d<n)→liftM C c (.pr l) A mok s E h→∀(β:Nat→Nat) (a:Act) (w:World),Rel n β s a h w→
        ∀Q:Exit→Act→World→Prop,(∀e s' h' β' a' w',(∀i,e≠ .gto i)→E e s' h'→Rel n β' s' a' h' w'→Seg (mods c) mok (lives s) β a h w (lives s') β' a' h' w'→Q (exOf e) a' w')→
        c.wp C.P (Exit.jump l (fun a' w'=>r.wp C.P (Exit.noGoto Q) a' w') Q) a w):=by
  intro c
  induction c with
  | skip=>
    refine ⟨?_,fun l r e=>by simp [znh] at e⟩
    intro A mok s E h _ hv β a w hr Q hQ;exact wp_skip (hQ .nrm s h β a w hv hr (Seg.refl _ _))
  | ret=>
    refine ⟨?_,fun l r e=>by simp [znh] at e⟩
    intro A mok s E h _ hv β a w hr Q hQ;exact wp_ret (hQ .ret s h β a w hv hr (Seg.refl _ _))
  | exit i=>
    refine ⟨?_,fun l r e=>by simp [znh] at e⟩
    intro A mok s E h _ hv β a w hr Q hQ;exact wp_exit (hQ (.ext i) s h β a w hv hr (Seg.refl _ _))
  | goto i=>
    refine ⟨?_,fun l r e=>by simp [znh] at e⟩
    intro A mok s E h _ hv β a w hr Q hQ;exact wp_goto (hQ (.gto i) s h β a w hv hr (Seg.refl _ _))
  | label i=>
    refine ⟨?_,fun l r e=>by simp [znh] at e⟩
    intro A mok s E h _ hv β a w hr Q hQ;exact wp_label (hQ .nrm s h β a w hv hr (Seg.refl _ _))
  | region id ops draw=>
    refine ⟨?_,fun l r e=>by simp [znh] at e⟩
    intro A mok s E h hlt hv β a w hr Q hQ
    have hclean:∀s':St,∀k,lives s'.clean k↔lives s' k:=fun s' k=>.rfl
    cases draw with
    | true=>
      simp only [liftM] at hv
      split at hv
      · rename_i ord
        obtain ⟨hp,hv⟩:=condP hv
        exact zar2 ok hp hlt hr hv fun s' h' β' a' w' hk hr' hs'=>hQ .nrm s'.clean h' β' a' w' hk hr' hs'
      · exact hv.elim
    | false=>
      simp only [liftM] at hv
      obtain ⟨hp,hv⟩:=condP hv
      unfold seqOk at hp
      obtain ⟨h1,hp⟩:=condT hp
      have hst:=hr.start (zbl C.priv ops.toList)
      have main:∀g:Bool,(g=false→zdk1 ops.toList=true)→(g=true→(modsO ops.toList).Nodup∧zjb ops.toList 0=true)→(Code.region id ops false).wp C.P Q a w:=by
        intro g hg1 hg2
        refine wp_region ?_
        have:=zqu1 (n:=n) (mok:=mok) (K:=fun s' h'=>E .nrm s'.clean h') (Q:=Q) ok g hlt hg1 hg2 ops.toList [] β _ a h w rfl (zgf1 h1) hv
          (hst.congr (fun _=>.rfl) (fun _=>.rfl) (fun _ e=>e.elim) (fun _ e=>e)) (fun s' h' β' a' w' hk hr' hs'=>hQ .nrm s'.clean h' β' a' w' hk hr'.clean
            (hs'.mono (fun _ e=>e) (fun _ e=>e) (fun k e=>zqt1 e) (fun _ e=>e)))
        rw [List.range_eq_range']
        simpa using this
      cases hng:zdk1 ops.toList with
      | true=>exact main false (fun _=>hng) (fun e=>by cases e)
      | false=>
        rw [hng] at hp
        simp only [cond_false] at hp
        obtain ⟨h2,h3⟩:=condT hp
        exact main true (fun e=>by cases e) (fun _=>⟨zgf1 h2,h3⟩)
  | seq x y ihx ihy=>
    have hmx:∀d∈mods x,d∈mods (.seq x y):=fun d hd=>app_mem.2 (.inl hd)
    have hmy:∀d∈mods y,d∈mods (.seq x y):=fun d hd=>app_mem.2 (.inr hd)
    refine ⟨?_,fun l r e=> ?_⟩
    rotate_left
    · by_cases hx:∃l',x=.label l'
      · obtain ⟨l',rfl⟩:=hx
        obtain ⟨-,e⟩:=condN e
        obtain rfl:y=r:=Option.some.inj e
        refine ⟨fun A mok s E h hlt hv β a w hr Q h1 _=> ?_,fun A mok s E h hlt hv β a w hr Q hQ=> ?_,fun A mok s E h hlt hv=>hv.elim⟩
        · exact wp_seq (wp_label (h1 s h β a w hv hr (Seg.refl _ _)))
        · exact ihy.1 _ _ _ _ _ (fun d hd=>hlt d (hmy d hd)) hv β a w hr Q fun e s' h' β' a' w' he hr' hs'=>hQ e s' h' β' a' w' he hr' (hs'.mono hmy (fun _ e=>e) (fun _ e=>e) (fun _ e=>e))
      · rw [zmw1 (fun l' e=>hx ⟨l',e⟩)] at e
        obtain ⟨-,e⟩:=condN e
        refine ⟨fun A mok s E h hlt hv β a w hr Q h1 h2=> ?_,fun A mok s E h hlt hv β a w hr Q hQ=> ?_,fun A mok s E h hlt hv β a w hr Q hQ=> ?_⟩
        · rw [zdu2 (fun l' e=>hx ⟨l',e⟩)] at hv
          refine wp_seq ?_
          refine ihx.1 _ mok s _ h (fun d hd=>hlt d (hmx d hd)) hv β a w hr _ fun e' s' h' β' a' w' he hr' hs'=> ?_
          have hs1:=hs'.mono (mm':=mok) hmx (fun _ e=>e) (fun _ e=>e) (fun _ e=>e)
          cases e' with
          | nrm=>
            exact ((ihy.2 l r e).1 _ mok _ E h' (fun d hd=>hlt d (hmy d hd)) he β' a' w' hr' Q
              (fun s2 h2 β2 a2 w2 he2 hrr hss=>h1 s2 h2 β2 a2 w2 he2 hrr (hs1.trans (hss.mono hmy (fun _ e=>e) (fun _ e=>e) (fun _ e=>e))))
              (fun e2 s2 h2' β2 a2 w2 hne he2 hrr hss=>h2 e2 s2 h2' β2 a2 w2 hne he2 hrr (hs1.trans (hss.mono hmy (fun _ e=>e) (fun _ e=>e) (fun _ e=>e)))))
          | ret=>exact h2 .ret s' h' β' a' w' (by simp) he hr' hs1
          | ext i=>exact h2 (.ext i) s' h' β' a' w' (by simp) he hr' hs1
          | gto i=>exact h2 (.gto i) s' h' β' a' w' (by simp) he hr' hs1
        · rw [zdw2 (fun l' e=>hx ⟨l',e⟩)] at hv
          exact (ihy.2 l r e).2.1 _ mok s E h (fun d hd=>hlt d (hmy d hd)) hv β a w hr Q fun e' s' h' β' a' w' he hr' hs'=>hQ e' s' h' β' a' w' he hr' (hs'.mono hmy (fun _ e=>e) (fun _ e=>e) (fun _ e=>e))
        · rw [zdv2 (fun l' e=>hx ⟨l',e⟩)] at hv
          have hly:∀d∈mods y,d<n:=fun d hd=>hlt d (hmy d hd)
          refine wp_seq ?_
          split at hv
          · rename_i js mm z _
            obtain ⟨hmm,hv⟩:=condP hv
            have hmm':=zah1 hmm
            refine ihx.1 _ mok s _ h (fun d hd=>hlt d (hmx d hd)) hv β a w hr _ fun e' s0 h0 β0 a0 w0 he hr0 hs0=> ?_
            have hs0':=hs0.mono (mm':=mok) hmx (fun _ e=>e) (fun _ e=>e) (fun _ e=>e)
            cases e' with
            | nrm=>
              obtain ⟨R,hA,hB⟩:=he
              have joined:∀s' h' β' a' w',Rel n β' s' a' h' w'→Seg (mods y) mm (lives s0) β0 a0 h0 w0 (lives s') β' a' h' w'→getJ C.tb js s' (fun z=>R z h')→r.wp C.P (Exit.noGoto Q) a' w':=by
                intro s' h' β' a' w' hr' hs' hg
                obtain ⟨z,hz,hr2,hs2⟩:=zgh1 ok hr0 hs' hr' hg
                refine (ihy.2 l r e).2.1 _ mok _ _ h' hly (hB z h' hz) β' a' w' hr2 _ fun e s2 h2 β2 a2 w2 he hr3 hs3=> ?_
                have hs4:=hs0'.trans (((hs2.mono (l':=mods y) (mm':=mok) (fun _ e=>e) hmm' (fun _ e=>e) (fun _ e=>e)).trans hs3).mono hmy (fun _ e=>e) (fun _ e=>e) (fun _ e=>e))
                cases e with
                | nrm=>exact hQ .nrm s2 h2 β2 a2 w2 (by simp) he hr3 hs4
                | ret=>exact hQ .ret s2 h2 β2 a2 w2 (by simp) he hr3 hs4
                | ext i=>exact hQ (.ext i) s2 h2 β2 a2 w2 (by simp) he hr3 hs4
                | gto i=>exact he.elim
              refine (ihy.2 l r e).1 _ mm s0 _ h0 hly hA β0 a0 w0 hr0 _ (fun s' h' β' a' w' he hr' hs'=> ?_) fun e s' h' β' a' w' hne he hr' hs'=> ?_
              · exact wp_mono (joined s' h' β' a' w' hr' hs' he) fun _ _ _=>zdf1
              · have hs4:=hs0'.trans (hs'.mono (mm':=mok) hmy hmm' (fun _ e=>e) (fun _ e=>e))
                cases e with
                | nrm=>exact absurd rfl hne
                | ret=>exact hQ .ret s' h' β' a' w' (by simp) he hr' hs4
                | ext i=>exact hQ (.ext i) s' h' β' a' w' (by simp) he hr' hs4
                | gto i=>
                  by_cases hi:i=l
                  · subst hi
                    simp only [Env.lab,Nat.beq_refl,cond_true] at he
                    exact ⟨rfl,joined s' h' β' a' w' hr' hs' he⟩
                  · simp only [Env.lab,zkg1 hi,cond_false] at he
            | ret=>exact hQ .ret s0 h0 β0 a0 w0 (by simp) he hr0 hs0'
            | ext i=>exact hQ (.ext i) s0 h0 β0 a0 w0 (by simp) he hr0 hs0'
            | gto i=>exact he.elim
          · refine ihx.1 _ mok s _ h (fun d hd=>hlt d (hmx d hd)) hv β a w hr _ fun e' s0 h0 β0 a0 w0 he hr0 hs0=> ?_
            have hs0':=hs0.mono (mm':=mok) hmx (fun _ e=>e) (fun _ e=>e) (fun _ e=>e)
            cases e' with
            | nrm=>exact (ihy.2 l r e).2.2 _ mok s0 E h0 hly he β0 a0 w0 hr0 Q fun e' s' h' β' a' w' hne he hr' hs'=>hQ e' s' h' β' a' w' hne he hr' (hs0'.trans (hs'.mono hmy (fun _ e=>e) (fun _ e=>e) (fun _ e=>e)))
            | ret=>exact hQ .ret s0 h0 β0 a0 w0 (by simp) he hr0 hs0'
            | ext i=>exact hQ (.ext i) s0 h0 β0 a0 w0 (by simp) he hr0 hs0'
            | gto i=>exact he.elim
    intro A mok s E h hlt hv β a w hr Q hQ
    have hlx:∀d∈mods x,d<n:=fun d hd=>hlt d (app_mem.2 (.inl hd))
    have hly:∀d∈mods y,d<n:=fun d hd=>hlt d (app_mem.2 (.inr hd))
    refine wp_seq ?_
    unfold liftM at hv
    split at hv
    · rename_i js mm _ _
      obtain ⟨hmm,R,hA,hB⟩:=condP hv
      have hmm':=zah1 hmm
      refine ihx.1 _ mm s _ h hlx hA β a w hr _ fun e s' h' β' a' w' he hr' hs'=> ?_
      cases e with
      | nrm=>
        obtain ⟨z,hz,hr2,hs2⟩:=zgh1 ok hr hs' hr' he
        refine ihy.1 _ mok _ E h' hly (hB z h' hz) β' a' w' hr2 Q fun e2 s2 h2 β2 a2 w2 he2 hrr hss=> ?_
        exact hQ e2 s2 h2 β2 a2 w2 he2 hrr ((hs2.mono hmx hmm' (fun _ e=>e) (fun _ e=>e)).trans (hss.mono hmy (fun _ e=>e) (fun _ e=>e) (fun _ e=>e)))
      | ret=>exact hQ .ret s' h' β' a' w' he hr' (hs'.mono hmx hmm' (fun _ e=>e) (fun _ e=>e))
      | ext i=>exact hQ (.ext i) s' h' β' a' w' he hr' (hs'.mono hmx hmm' (fun _ e=>e) (fun _ e=>e))
      | gto i=>exact hQ (.gto i) s' h' β' a' w' he hr' (hs'.mono hmx hmm' (fun _ e=>e) (fun _ e=>e))
    · rename_i k _ _
      obtain ⟨hk,hv⟩:=condP hv
      have hk:=(zmk _ _).1 hk
      refine ihx.1 _ mok s _ h hlx hv β a w hr _ fun e s' h' β' a' w' he hr' hs'=> ?_
      cases e with
      | nrm=>
        obtain ⟨s1,h1,he,hr1,hs1⟩:=zgn2 (K:=fun s2 h2=>liftM C y .full _ mok s2 E h2) hk hs' hr' he
        refine ihy.1 _ mok _ E h1 hly he β' a' w' hr1 Q fun e2 s2 h2 β2 a2 w2 he2 hrr hss=> ?_
        exact hQ e2 s2 h2 β2 a2 w2 he2 hrr ((hs1.mono hmx (fun _ e=>e) (fun _ e=>e) (fun _ e=>e)).trans (hss.mono hmy (fun _ e=>e) (fun _ e=>e) (fun _ e=>e)))
      | ret=>exact hQ .ret s' h' β' a' w' he hr' (hs'.mono hmx (fun _ e=>e) (fun _ e=>e) (fun _ e=>e))
      | ext i=>exact hQ (.ext i) s' h' β' a' w' he hr' (hs'.mono hmx (fun _ e=>e) (fun _ e=>e) (fun _ e=>e))
      | gto i=>exact hQ (.gto i) s' h' β' a' w' he hr' (hs'.mono hmx (fun _ e=>e) (fun _ e=>e) (fun _ e=>e))
    · refine ihx.1 _ mok s _ h hlx hv β a w hr _ fun e s' h' β' a' w' he hr' hs'=> ?_
      cases e with
      | nrm=>
        refine ihy.1 _ mok _ E h' hly he β' a' w' hr' Q fun e2 s2 h2 β2 a2 w2 he2 hrr hss=> ?_
        exact hQ e2 s2 h2 β2 a2 w2 he2 hrr ((hs'.mono hmx (fun _ e=>e) (fun _ e=>e) (fun _ e=>e)).trans (hss.mono hmy (fun _ e=>e) (fun _ e=>e) (fun _ e=>e)))
      | ret=>exact hQ .ret s' h' β' a' w' he hr' (hs'.mono hmx (fun _ e=>e) (fun _ e=>e) (fun _ e=>e))
      | ext i=>exact hQ (.ext i) s' h' β' a' w' he hr' (hs'.mono hmx (fun _ e=>e) (fun _ e=>e) (fun _ e=>e))
      | gto i=>exact hQ (.gto i) s' h' β' a' w' he hr' (hs'.mono hmx (fun _ e=>e) (fun _ e=>e) (fun _ e=>e))
  | cond c x y ihx ihy=>
    refine ⟨?_,fun l r e=>by simp [znh] at e⟩
    intro A mok s E h hlt hv β a w hr Q hQ
    have hlx:∀d∈mods x,d<n:=fun d hd=>hlt d (app_mem.2 (.inl hd))
    have hly:∀d∈mods y,d<n:=fun d hd=>hlt d (app_mem.2 (.inr hd))
    simp only [liftM] at hv
    obtain ⟨v,hev,hv⟩:=zbh hv
    split at hv
    · rename_i t
      have hc:=ev_ok (ztj1 hr (x:=c) fun _ _=>trivial) (zbn s) hev
      refine wp_cond_split (t:=t) hc (fun ht=> ?_) (fun ht=> ?_)
      · rw [if_pos ht] at hv
        exact ihx.1 _ mok s E h hlx hv β a w hr Q fun e s' h' β' a' w' he hr' hs'=>hQ e s' h' β' a' w' he hr' (hs'.mono (fun d hd=>app_mem.2 (.inl hd)) (fun _ e=>e) (fun _ e=>e) (fun _ e=>e))
      · rw [if_neg (by rw [ht];simp)] at hv
        exact ihy.1 _ mok s E h hly hv β a w hr Q fun e s' h' β' a' w' he hr' hs'=>hQ e s' h' β' a' w' he hr' (hs'.mono (fun d hd=>app_mem.2 (.inr hd)) (fun _ e=>e) (fun _ e=>e) (fun _ e=>e))
    · exact hv.elim
  | block id x ih=>
    refine ⟨?_,fun l r e=>by simp [znh] at e⟩
    intro A mok s E h hlt hv β a w hr Q hQ
    refine wp_block ?_
    unfold liftM at hv
    split at hv
    · rename_i js mm _
      obtain ⟨hmm,R,hA,hB⟩:=condP hv
      have hmm':=zah1 hmm
      refine ih.1 _ mm s _ h hlt hA β a w hr _ fun e s' h' β' a' w' he hr' hs'=> ?_
      have joined:getJ C.tb js s' (fun x=>R x h')→Q .normal a' w':=fun hg=>by
        obtain ⟨z,hz,hr2,hs2⟩:=zgh1 ok hr hs' hr' hg
        exact hQ .nrm _ h' β' a' w' (hB z h' hz) hr2 (hs2.mono (fun _ e=>e) hmm' (fun _ e=>e) (fun _ e=>e))
      cases e with
      | nrm=>exact joined he
      | ret=>exact hQ .ret s' h' β' a' w' he hr' (hs'.mono (fun _ e=>e) hmm' (fun _ e=>e) (fun _ e=>e))
      | ext i=>
        simp only [exOf,Exit.inBlock]
        by_cases hi:i=id
        · subst hi
          simp only [Env.blk,Nat.beq_refl,cond_true] at he
          simpa using joined he
        · rw [if_neg hi]
          simp only [Env.blk,zkg1 hi,cond_false] at he
          exact hQ (.ext i) s' h' β' a' w' he hr' (hs'.mono (fun _ e=>e) hmm' (fun _ e=>e) (fun _ e=>e))
      | gto i=>exact hQ (.gto i) s' h' β' a' w' he hr' (hs'.mono (fun _ e=>e) hmm' (fun _ e=>e) (fun _ e=>e))
    · refine ih.1 _ mok s _ h hlt hv β a w hr _ fun e s' h' β' a' w' he hr' hs'=> ?_
      cases e with
      | nrm=>exact hQ .nrm s' h' β' a' w' he hr' hs'
      | ret=>exact hQ .ret s' h' β' a' w' he hr' hs'
      | ext i=>
        simp only [exOf,Exit.inBlock]
        by_cases hi:i=id
        · subst hi
          simp only [Env.blk,Nat.beq_refl,cond_true] at he
          rw [if_pos rfl]
          exact hQ .nrm s' h' β' a' w' he hr' hs'
        · rw [if_neg hi]
          simp only [Env.blk,zkg1 hi,cond_false] at he
          exact hQ (.ext i) s' h' β' a' w' he hr' hs'
      | gto i=>exact hQ (.gto i) s' h' β' a' w' he hr' hs'
  | scope x ih=>
    refine ⟨?_,fun l r e=>by simp [znh] at e⟩
    intro A mok s E h hlt hv β a w hr Q hQ
    unfold liftM at hv
    split at hv
    · rename_i l _
      split at hv
      · rename_i r hrest
        refine wp_scope_jumps l (fun a' w'=>r.wp C.P (Exit.noGoto Q) a' w') (fun _ _=>0) (ztp1 hrest) ?_ fun a' w' hJ=>wp_seq (wp_skip (wp_mono hJ fun _ _ _=>zdf1))
        exact (ih.2 l r hrest).2.2 _ mok s E h hlt hv β a w hr Q fun e s' h' β' a' w' _ he hr' hs'=>hQ e s' h' β' a' w' he hr' hs'
      · exact hv.elim
    · refine wp_scope_straight ?_
      refine ih.1 _ mok s _ h hlt hv β a w hr _ fun e s' h' β' a' w' he hr' hs'=> ?_
      cases e with
      | nrm=>exact hQ .nrm s' h' β' a' w' he hr' hs'
      | ret=>exact hQ .ret s' h' β' a' w' he hr' hs'
      | ext i=>exact hQ (.ext i) s' h' β' a' w' he hr' hs'
      | gto i=>exact he.elim
  | loop x ih=>
    refine ⟨?_,fun l r e=>by simp [znh] at e⟩
    intro A mok s E h hlt hv β a w hr Q hQ
    unfold liftM at hv
    split at hv
    · rename_i js mm _
      obtain ⟨hmm,hv⟩:=condP hv
      have hmm':=zah1 hmm
      obtain ⟨x0,hx0,hr0,hs0⟩:=zgh1 ok hr (Seg.refl (l:=mods x) (mm:=mm)) hr hv
      obtain ⟨I,μ,hI,hbody⟩:=hx0
      refine zpa1 (fun m a' w'=>∃z h' β',I z h'∧μ z h'=m∧Rel n β' (setJ C.tb js z (s.forget (mods x) mm)) a' h' w'∧Seg (mods x) mm (lives s) β a h w (lives (setJ C.tb js z (s.forget (mods x) mm))) β' a' h' w')
        ⟨_,x0,h,β,hI,rfl,hr0,hs0⟩ ?_
      rintro m a' w' ⟨z,h',β',hz,rfl,hr1,hs1⟩
      refine ih.1 _ mm _ _ h' hlt (hbody z h' hz) β' a' w' hr1 _ fun e s2 h2 β2 a2 w2 he hr2 hs2=> ?_
      have hs12:=hs1.trans hs2
      cases e with
      | nrm=>
        obtain ⟨z2,hz2,hr3,hs3⟩:=zgh1 ok hr hs12 hr2 he
        exact ⟨_,hz2.2,z2,h2,β2,hz2.1,rfl,hr3,hs3⟩
      | ret=>exact hQ .ret s2 h2 β2 a2 w2 he hr2 (hs12.mono (fun _ e=>e) hmm' (fun _ e=>e) (fun _ e=>e))
      | ext i=>exact hQ (.ext i) s2 h2 β2 a2 w2 he hr2 (hs12.mono (fun _ e=>e) hmm' (fun _ e=>e) (fun _ e=>e))
      | gto i=>exact hQ (.gto i) s2 h2 β2 a2 w2 he hr2 (hs12.mono (fun _ e=>e) hmm' (fun _ e=>e) (fun _ e=>e))
    · exact hv.elim
  | _=>exact ⟨fun A mok s E h _ hv=>hv.elim,fun l r e=>by simp [znh] at e⟩
theorem zyd1 {C:Ctx} (ok:C.tb.Ok C.P) {n:Nat} (c:Code) (A:Ann) (mok:List Nat) (s:St) (E:Env) (h:Hp) (hlt:∀d∈mods c,d<n) (hv:liftM C c .full A mok s E h) (β:Nat→Nat) (a:Act) (w:World) (hr:Rel n β s a h w)
    (Q:Exit→Act→World→Prop) (hQ:∀e s' h' β' a' w',E e s' h'→Rel n β' s' a' h' w'→Seg (mods c) mok (lives s) β a h w (lives s') β' a' h' w'→Q (exOf e) a' w'):c.wp C.P Q a w:=
  (ztq1 ok c).1 A mok s E h hlt hv β a w hr Q hQ
end Lf

namespace Lf
open Go
def zdg1 (tmps:Array Value):ResultVar→Sem Value
  | .tmp t=>pure (tmps.getD t undef)
  | .cell a t=>do loadVar t (←asAddr (tmps.getD a undef))
def zat2 :List Value→Value
  | [v]=>v
  | vs=>.tuple vs.toArray
theorem ztr1 {P:Program} {fn:Func} {tmps:Array Value} {vs:List Value} {w:World} (h:(fn.results.toList.mapM (zdg1 tmps)).run P w=.ok vs w):(results fn tmps).run P w=.ok (zat2 vs) w:=by
  have e:results fn tmps=((fn.results.mapM (zdg1 tmps))>>=fun vs=>pure (if h:vs.size=1 then vs[0] else .tuple vs)):=by
    unfold results
    congr 1
  rw [e,Array.mapM_eq_mapM_toList,map_eq_pure_bind]
  simp only [Sem.run_bind,h,Result.andThen_ok,Sem.run_pure]
  cases vs with
  | nil=>rfl
  | cons v vs=>cases vs<;>simp [zat2]
theorem zye1 {P:Program} {tb:Tb} (ok:tb.Ok P) {t:Nat} {e:Ty} (he:tb.ty t=some e) {w:World} {a:Addr} {x:(shOf tb t).T}
    (hc:∀(j:Nat) (v:Value),(zad ((shOf tb t).enc x))[j]?=some v→w.cell? (a.add j)=some v):(loadVar t a).run P w=.ok ((shOf tb t).enc x) w:=by
  revert x
  rw [zas2,he]
  intro x hc
  exact zwm ok he hc
section
variable {C:Ctx} {n:Nat} {β:Nat→Nat} {s:St} {a:Act} {h:Hp} {w:World}
theorem zda (ok:C.tb.Ok C.P) (hr:Rel n β s a h w) {r:ResultVar} {t:Nat} {K:(shOf C.tb t).T→Prop} (hv:zni C s r t K):∃x,K x∧(zdg1 a.tmps r).run C.P w=.ok ((shOf C.tb t).enc x) w:=by
  cases r with
  | tmp i=>
    simp only [zni] at hv
    split at hv
    · rename_i v hf
      split at hv
      · rename_i x hx
        refine ⟨x,hv,?_⟩
        have:=(hr.cur i _ [] hf trivial (zbn _)).1
        rw [(shOf C.tb t).ok v x hx]
        simp only [zdg1,Sem.run_pure]
        exact congrArg (fun v=>Result.ok v w) this
      · exact hv.elim
    · exact hv.elim
  | cell i ct=>
    simp only [zni] at hv
    obtain ⟨h1,hv⟩:=condP hv
    have h1:=Nat.eq_of_beq_eq_true h1
    subst h1
    split at hv
    · rename_i k e hf he
      split at hv
      · rename_i cs hm
        split at hv
        · rename_i v hcs
          split at hv
          · rename_i x hx
            refine ⟨x,hv,?_⟩
            have hc:=zwg1 ok hcs hx
            obtain ⟨_,t',hb⟩:=hr.box k cs hm trivial
            have:=(hr.cur i _ [] hf trivial (zbn _)).1
            have h2:a.tmps.getD i undef=.pointer (some ⟨β k,0,none⟩):=this
            simp only [zdg1,h2,asAddr,Sem.run_bind,Sem.run_pure,Result.andThen_ok]
            refine zye1 ok he fun j v hj=> ?_
            rw [hc] at hj
            rw [zdh,zop1 hb]
            simpa using hj
          · exact hv.elim
        · exact hv.elim
      · exact hv.elim
    · exact hv.elim
theorem zdx2 (ok:C.tb.Ok C.P) (hr:Rel n β s a h w) {rs:List ResultVar} {ts:List Nat} {K:(shRes C.tb ts).T→Hp→Prop} (hv:retW C s h rs ts K):
    ∃x vs,K x h∧(rs.mapM (zdg1 a.tmps)).run C.P w=.ok vs w∧zat2 vs=(shRes C.tb ts).enc x:=by
  have step:∀ {r:ResultVar} {rs:List ResultVar} {v:Value} {vs:List Value},(zdg1 a.tmps r).run C.P w=.ok v w→(rs.mapM (zdg1 a.tmps)).run C.P w=.ok vs w→((r::rs).mapM (zdg1 a.tmps)).run C.P w=.ok (v::vs) w:=by
    intro r rs v vs h1 h2
    simp only [List.mapM_cons,Sem.run_bind,h1,h2,Result.andThen_ok,Sem.run_pure]
  have nil:(([]:List ResultVar).mapM (zdg1 a.tmps)).run C.P w=.ok [] w:=by simp only [List.mapM_nil,Sem.run_pure]
  unfold retW at hv
  split at hv
  · exact ⟨(),[],hv,nil,rfl⟩
  · obtain ⟨x,hk,h1⟩:=zda ok hr hv
    exact ⟨x,_,hk,step h1 nil,rfl⟩
  · obtain ⟨x1,hv,h1⟩:=zda ok hr hv
    obtain ⟨x2,hk,h2⟩:=zda ok hr hv
    exact ⟨(x1,x2),_,hk,step h1 (step h2 nil),rfl⟩
  · obtain ⟨x1,hv,h1⟩:=zda ok hr hv
    obtain ⟨x2,hv,h2⟩:=zda ok hr hv
    obtain ⟨x3,hk,h3⟩:=zda ok hr hv
    exact ⟨(x1,x2,x3),_,hk,step h1 (step h2 (step h3 nil)),rfl⟩
  · obtain ⟨x1,hv,h1⟩:=zda ok hr hv
    obtain ⟨x2,hv,h2⟩:=zda ok hr hv
    obtain ⟨x3,hv,h3⟩:=zda ok hr hv
    obtain ⟨x4,hk,h4⟩:=zda ok hr hv
    exact ⟨(x1,x2,x3,x4),_,hk,step h1 (step h2 (step h3 (step h4 nil))),rfl⟩
  · obtain ⟨x1,hv,h1⟩:=zda ok hr hv
    obtain ⟨x2,hv,h2⟩:=zda ok hr hv
    obtain ⟨x3,hv,h3⟩:=zda ok hr hv
    obtain ⟨x4,hv,h4⟩:=zda ok hr hv
    obtain ⟨x5,hk,h5⟩:=zda ok hr hv
    exact ⟨(x1,x2,x3,x4,x5),_,hk,step h1 (step h2 (step h3 (step h4 (step h5 nil)))),rfl⟩
  · exact hv.elim
end
theorem zau2 {n:Nat} {l:List Nat} (h:allLt n l=true):∀d∈l,d<n:=by
  induction l with
  | nil=>intro d hd;cases hd
  | cons a l ih=>
    simp only [allLt] at h
    obtain ⟨h1,h2⟩:=condT h
    intro d hd
    rcases List.mem_cons.1 hd with rfl | hd
    · have:d+1≤n:=by simpa [Nat.blt] using h1
      exact this
    · exact ih h2 d hd
theorem zaa {C:Ctx} (ok:C.tb.Ok C.P) {g:FuncId} {f:Func} {c:Code} {A:Ann} {args:List Value} {K:(shRes C.tb f.resultTypes.toList).T→Hp→Prop} {h:Hp} (hf:C.P.funcs[g]?=some f) (hb:f.body=some c)
    (hv:funW C f A args K h):CallT C.P g args (shRes C.tb f.resultTypes.toList) K h:=by
  intro w hs
  unfold funW at hv
  obtain ⟨hc,hv⟩:=condP hv
  obtain ⟨h1,h2⟩:=condT hc
  have h1:args.length≤f.ntmps:=Nat.le_of_ble_eq_true h1
  have hbody:zvl1 f=c:=by unfold zvl1;rw [hb]
  rw [hbody] at hv h2
  refine calls_of_wp hf hb ?_
  have hget:∀(t:Nat) (v:Value),args[t]?=some v→(args.toArray++Array.replicate (f.ntmps-args.toArray.size) undef)[t]?=some v:=by
    intro t v e
    have hlt:t<args.length:=(List.getElem?_eq_some_iff.1 e).1
    rw [Array.getElem?_append_left (by simpa using hlt)]
    simpa using e
  have hargs:∀(t:Nat) (l:LV) (c:Chain),argsF args t=some (l,c)→∃v,args[t]?=some v∧l=.v v∧c=[]:=by
    intro t l c e
    unfold argsF at e
    rw [zfl] at e
    split at e
    · rename_i v hv
      cases e
      exact ⟨v,hv,rfl,rfl⟩
    · cases e
  have hrel:Rel f.ntmps (fun _=>0) {f:=argsF args,m:=fun _=>none} {tmps:=args.toArray++Array.replicate (f.ntmps-args.toArray.size) undef,defers:=[]} h w:=by
    refine ⟨by simp;omega,hs,fun t l c e=> ?_,fun t l c e p hp=> ?_,fun t l c e _ _=> ?_,fun t l c e _ hh=> ?_,fun k cs e _=>(by cases e),fun k k' e=>absurd rfl e,fun _ e=>e.elim,fun _ e=>e.elim⟩
    · obtain ⟨v,h3,_,_⟩:=hargs t l c e
      have:=(List.getElem?_eq_some_iff.1 h3).1
      omega
    · obtain ⟨v,h3,_,rfl⟩:=hargs t l c e
      cases hp
    · obtain ⟨v,h3,rfl,rfl⟩:=hargs t l c e
      refine ⟨?_,fun _ _ _=>trivial⟩
      simp only [Act.eval,LVal,Array.getD_eq_getD_getElem?,hget t v h3,Option.getD_some]
    · obtain ⟨v,h3,rfl,rfl⟩:=hargs t l c e
      exact absurd (zbn _) hh
  refine zyd1 ok c A C.priv _ _ h (zau2 h2) hv _ _ w hrel _ fun e s' h' β' a' w' he hr' hs'=> ?_
  have hst:Step h h' w w':=⟨hr'.sub,hs'.size,fun b hb hn=>⟨hs'.keep b hb hn (fun k _ hl=>absurd rfl hl.1),hs'.unk b hb hn (fun k _ hl=>absurd rfl hl.1)⟩,hs'.os,hs'.tape,hs'.output⟩
  have done:retW C s' h' f.results.toList f.resultTypes.toList K→a'.defers=[]∧∃v,(results f a'.tmps).run C.P w'=.ok v w'∧∃u h2,Ending.returned v=.returned u∧(∃x,u=(shRes C.tb f.resultTypes.toList).enc x∧K x h2)∧Step h h2 w w':=by
    intro hw
    obtain ⟨x,vs,hk,hrun,hval⟩:=zdx2 ok hr' hw
    exact ⟨hs'.defers,_,ztr1 hrun,_,h',rfl,⟨x,hval,hk⟩,hst⟩
  cases e with
  | nrm=>exact done he
  | ret=>exact done he
  | ext i=>exact he.elim
  | gto i=>exact he.elim
end Lf

