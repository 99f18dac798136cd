/-
  Part 6 of the texts that the claim leans on.
-/
import Derived.ChangeKeysEq
import Derived.ProofKit
import Derived.SizedLaws
import Derived.OpenShut
import Derived.Laws.IdiomStrings
import Derived.Test.YtgplfmccdkfddaaGreatMgRnNames4
set_option maxRecDepth 100000
namespace Lf
open Go Go.Proofs
theorem mid {P M S M2 B':List Nat} {k:Hp} (nd:(P++(M++S)).Nodup) (h2:M2.Nodup) (hf:∀c∈M2,c∈M++B'\/k c=none) (kp:∀c∈P++S,k c≠none) (hb:∀c∈B',c∉P++S):(P++(M2++S)).Nodup:=by
 grind
section
variable {d h0 k:Hp} {rb cb:Nat} {bl:Sl} {bs:List UInt8} {r:RS} {x:S_api_Config} {c:PCfg} {B:List Nat}
theorem CB.new_ (s:CB d h0 rb cb bl bs k r x c B) {b:Nat} (e:k b=none):h0 b=none:=by
 cases h:h0 b with
 | none=>rfl
 | some o=>
  have h1:b≠rb:=fun h=>by
   obtain ⟨p,q,t,kb,_⟩:=s.rd.blk
   exact kb.known (h▸e)
  have h2:b≠cb:=fun h=>s.blk.known (h▸e)
  rw [s.keep b o h h1 h2] at e
  cases e
abbrev CB.Next (d h0:Hp) (rb cb:Nat) (bl:Sl) (bs:List UInt8) (k3:Hp) (r:RS) (x x':S_api_Config) (c':PCfg) (off:Nat) (v:Value):Prop:=
 (∀b o,h0 b=some o->b≠rb->b≠cb->k3 b=some o)/\Blk k3 cb (cfgL x)/\∀Kf:Hp->Prop,(∀k4 B',CB d h0 rb cb bl bs k4 r x' c' B'->Kf k4)->StW k3 ⟨cb,off,none⟩ [v] Kf
theorem CB.labels (s:CB d h0 rb cb bl bs k r x c B) {v:Int} {y:Sl} (hy:Us k y [v]) (hb:c.labels.length<=1000000) {K:Sl->Hp->Prop}
  (hk:∀l' k3,CB.Next d h0 rb cb bl bs k3 r x {x with Labels:=l'} {c with labels:=c.labels++ [v]} 0 l'.v->K l' k3):zai 1 8 [.int .u64 (0:Int)] x.Labels y K k:=by
 obtain ⟨B1,B2,B3,eB,o1,o2,o3,f⟩:=s.own
 have nd:=s.nd
 rw [eB] at nd
 have k2:∀b∈B2++B3,k b≠none:=fun b hb=>okCfg.known s.own b (by rw [eB];exact mem_b hb)
 refine zgg1 (PureO.ok Eq) o1 (B':=[]) (v:=v) (p:=v) ⟨rfl,rfl⟩ (by rw [List.append_nil];exact (List.nodup_append.1 nd).1) hy (fun _=>rfl) (fun _=>rfl) rfl (by omega) fun l' k3 B'' o1' nd' keep' from'=> ?_
 have hd1:∀b∈B2++B3,b∉B1:=fun b hb hb1=>(List.nodup_append.1 nd).2.2 b hb1 b hb rfl
 have hs:∀b∈B2++B3,k3 b=k b:=fun b hb=>by
  cases e:k b with
  | none=>exact absurd e (k2 b hb)
  | some o=>exact keep' b o e (hd1 b hb)
 have h:=s.fin (k3:=k3) (x':={x with Labels:=l'}) (c':={c with labels:=c.labels++ [v]}) (B3:=B''++(B2++B3)) (off:=0) (v:=l'.v) (fun b ob e hn=>keep' b ob e fun h=>hn (by rw [eB];exact mem_a h))
  ⟨B'',B2,B3,rfl,o1',okIs.same o2 fun b hb=>hs b (mem_a hb),okProcs.same o3 fun b hb=>hs b (mem_b hb),f⟩ (mid (P:=[]) (M:=B1) (S:=B2++B3) nd nd' from' k2 (fun b hb=>by cases hb))
  (fun b hb=>by
   rcases List.mem_append.1 hb with hb | hb
   ·rcases from' b hb with hb | hb
    ·exact s.fresh b (by rw [eB];exact mem_a (by simpa using hb))
    ·exact s.new_ hb
   ·exact s.fresh b (by rw [eB];exact mem_b hb)) (by omega) rfl
 grind
theorem CB.table (s:CB d h0 rb cb bl bs k r x c B) {v:Int} {y:Sl} (hy:Is k y [v]) (hb:c.table.length<=1000000) {K:Sl->Hp->Prop}
  (hk:∀l' k3,CB.Next d h0 rb cb bl bs k3 r x {x with Table:=l'} {c with table:=c.table++ [v]} 1 l'.v->K l' k3):zai 1 8 [.int .i64 (0:Int)] x.Table y K k:=by
 obtain ⟨B1,B2,B3,eB,o1,o2,o3,f⟩:=s.own
 have nd:=s.nd
 rw [eB] at nd
 have k2:∀b∈B1++B3,k b≠none:=fun b hb=>okCfg.known s.own b (by
  rw [eB]
  rcases List.mem_append.1 hb with hb | hb
  ·exact mem_a hb
  ·exact mem_b (mem_b hb))
 have nd2:=List.nodup_append.1 (List.nodup_append.1 nd).2.1
 refine zgg1 (PureO.ok Eq) o2 (B':=[]) (v:=v) (p:=v) ⟨rfl,rfl⟩ (by rw [List.append_nil];exact nd2.1) hy (fun _=>rfl) (fun _=>rfl) rfl (by omega) fun l' k3 B'' o1' nd' keep' from'=> ?_
 have hs:∀b∈B1++B3,k3 b=k b:=fun b hb=>by
  cases e:k b with
  | none=>exact absurd e (k2 b hb)
  | some o=>
   refine keep' b o e fun h=> ?_
   rcases List.mem_append.1 hb with hb | hb
   ·exact (List.nodup_append.1 nd).2.2 b hb b (mem_a h) rfl
   ·exact nd2.2.2 b h b hb rfl
 have h:=s.fin (k3:=k3) (x':={x with Table:=l'}) (c':={c with table:=c.table++ [v]}) (B3:=B1++(B''++B3)) (off:=1) (v:=l'.v) (fun b ob e hn=>keep' b ob e fun h=>hn (by rw [eB];exact mem_b (mem_a h)))
  ⟨B1,B'',B3,rfl,okUs.same o1 fun b hb=>hs b (mem_a hb),o1',okProcs.same o3 fun b hb=>hs b (mem_b hb),f⟩ (mid (M:=B2) nd nd' from' k2 (fun b hb=>by cases hb))
  (fun b hb=>by
   rcases List.mem_append.1 hb with hb | hb
   ·exact s.fresh b (by rw [eB];exact mem_a hb)
   rcases List.mem_append.1 hb with hb | hb
   ·rcases from' b hb with hb | hb
    ·exact s.fresh b (by rw [eB];exact mem_b (mem_a (by simpa using hb)))
    ·exact s.new_ hb
   ·exact s.fresh b (by rw [eB];exact mem_b (mem_b hb))) (by omega) rfl
 grind
theorem CB.procs (s:CB d h0 rb cb bl bs k r x c B) {v:S_api_Proc} {p:PProc} {B':List Nat} (e:ProcO v p k B') (ndB:B'.Nodup) (hB:∀b∈B',h0 b=none/\b∉B) {y:Sl} (hy:Rs k sh_api_Proc 2 y [v]) (hb:c.procs.length<=1000000) {K:Sl->Hp->Prop}
  (hk:∀l' k3,CB.Next d h0 rb cb bl bs k3 r x {x with Procs:=l'} {c with procs:=c.procs++ [p]} 6 l'.v->K l' k3):zai 2 32 [.int .i64 (0:Int),.slice none 0 0] x.Procs y K k:=by
 obtain ⟨B1,B2,B3,eB,o1,o2,o3,f⟩:=s.own
 have nd:=s.nd
 rw [eB] at nd
 have nd0:=List.nodup_append.1 nd
 have nd2:=List.nodup_append.1 nd0.2.1
 have k2:∀b∈B1++B2,k b≠none:=fun b hb=>okCfg.known s.own b (by
  rw [eB]
  rcases List.mem_append.1 hb with hb | hb
  ·exact mem_a hb
  ·exact mem_b (mem_a hb))
 refine zgg1 zrm1 o3 (v:=v) (p:=p) e (by
   rw [List.nodup_append]
   exact ⟨nd2.2.1,ndB,fun a ha b hb e=>(hB b hb).2 (by rw [eB,<-e];exact mem_b (mem_b ha))⟩) hy (fun _=>rfl) (fun _=>rfl) rfl (by omega) fun l' k3 B'' o1' nd' keep' from'=> ?_
 have hs:∀b∈B1++B2,k3 b=k b:=fun b hb=>by
  cases e:k b with
  | none=>exact absurd e (k2 b hb)
  | some o=>
   refine keep' b o e fun h=> ?_
   rcases List.mem_append.1 hb with hb | hb
   ·exact nd0.2.2 b hb b (mem_b h) rfl
   ·exact nd2.2.2 b hb b h rfl
 have hmid:=mid (P:=B1++B2) (M:=B3) (S:=[]) (by simpa using nd) nd' from' (by simpa using k2) (fun b hb h=>(hB b hb).2 (by
  rw [eB]
  rw [List.append_nil] at h
  rcases List.mem_append.1 h with h | h
  ·exact mem_a h
  ·exact mem_b (mem_a h)))
 have h:=s.fin (k3:=k3) (x':={x with Procs:=l'}) (c':={c with procs:=c.procs++ [p]}) (B3:=B1++(B2++B'')) (off:=6) (v:=l'.v) (fun b ob e hn=>keep' b ob e fun h=>hn (by rw [eB];exact mem_b (mem_b h)))
  ⟨B1,B2,B'',rfl,okUs.same o1 fun b hb=>hs b (mem_a hb),okIs.same o2 fun b hb=>hs b (mem_b hb),o1',f⟩ (by simpa using hmid)
  (fun b hb=>by
   rcases List.mem_append.1 hb with hb | hb
   ·exact s.fresh b (by rw [eB];exact mem_a hb)
   rcases List.mem_append.1 hb with hb | hb
   ·exact s.fresh b (by rw [eB];exact mem_b (mem_a hb))
   rcases from' b hb with hb | hb
   ·rcases List.mem_append.1 hb with hb | hb
    ·exact s.fresh b (by rw [eB];exact mem_b (mem_b hb))
    ·exact (hB b hb).1
   ·exact s.new_ hb) (by omega) rfl
 grind
end
theorem zgo2 {P:Program} {ab cb:Nat} {x:S_api_Config} {xs:List Int} {h:Hp} {a:Int} (ha:LdIs h ⟨ab,0,none⟩ [.pointer (some ⟨cb,0,none⟩)]) (kc:Blk h cb (cfgL x)) (hu:Us h x.Labels xs) (hlen:xs.length<=1000)
  {Q:Int->Hp->Prop} (hq:Q (labE xs a) h):zhe P a ⟨ab,0,none⟩ Q h:=by
 unfold zhe
 have hl:x.Labels.len=xs.length:=hu.1
 refine ld_at (sh:=shPtr) (some ⟨cb,0,none⟩) ha (zab (ld_at (sh:=shSl) x.Labels (kc.ldIs (off:=0) (n:=1) rfl) ?_))
 rw [hl,wrap64 (by omega) (by omega)]
 refine ldC (sh:=shPtr) (some ⟨cb,0,none⟩) ha (zab (ldC (sh:=shSl) x.Labels (kc.ldIs (off:=0) (n:=1) rfl) ?_))
 refine Rs.getC (sh:=shInt .u64) hu (0:Int) (fun _=>rfl) (by omega) (fun e=>by simp at e;omega) fun (x4:Int) hx4=>letW ?_
 unfold labE at hq
 rw [List.getLast?_eq_getElem?] at hq
 by_cases hn:xs.length=0
 ·have hd:decide (((xs.length:Nat):Int)-1>=0)=false:=decide_eq_false (by omega)
  rw [List.getElem?_eq_none (by omega)] at hq
  rw [hd,if_neg (by simp)]
  refine ⟨none,fun e=>(by cases e),⟨cb,0,none⟩,fun e=>(by cases e),⟨none,0,0⟩,fun e=>(by cases e),fun e=>(by cases e),(0:Int),fun e=>(by cases e),letW ?_⟩
  rw [if_neg (by simp)]
  exact hq
 ·have hd:decide (((xs.length:Nat):Int)-1>=0)=true:=decide_eq_true (by omega)
  have hg:xs[xs.length-1]? =some (xs[xs.length-1]'(by omega)):=List.getElem?_eq_getElem (by omega)
  have hi:(((xs.length:Nat):Int)-1).toNat=xs.length-1:=by omega
  have hx4:=hx4 hd
  rw [hi,hg] at hx4
  have hx4:xs[xs.length-1]'(by omega)=x4:=Option.some.inj hx4
  rw [hg,hx4] at hq
  have hq:Q (if a=x4 then 8 else if a<x4 then 7 else 0) h:=hq
  rw [hd,Bool.true_and]
  by_cases h1:a=x4
  ·rw [if_pos (by simpa using h1)]
   rw [if_pos h1] at hq
   exact hq
  ·rw [if_neg (by simpa using h1)]
   rw [if_neg h1] at hq
   refine ldC (sh:=shPtr) (some ⟨cb,0,none⟩) ha (zab (ldC (sh:=shSl) x.Labels (kc.ldIs (off:=0) (n:=1) rfl) ?_))
   refine Rs.getC (sh:=shInt .u64) hu (0:Int) (fun _=>rfl) (by omega) (fun e=>by omega) fun (x7:Int) hx7=>letW ?_
   have hx7:=hx7 rfl
   rw [hi,hg] at hx7
   have hx7:xs[xs.length-1]'(by omega)=x7:=Option.some.inj hx7
   rw [<-hx7,hx4,Bool.true_and]
   by_cases h2:a<x4
   ·rw [if_pos (decide_eq_true h2)]
    rw [if_pos h2] at hq
    exact hq
   ·rw [if_neg (fun e=>h2 (of_decide_eq_true e))]
    rw [if_neg h2] at hq
    exact hq
abbrev labD (acc:List Int):D Int:=D.must (zD 8) (labE acc)
section
variable {d h0 k:Hp} {rb cb:Nat} {bl:Sl} {bs:List UInt8} {r:RS} {x:S_api_Config} {c:PCfg} {B:List Nat}
theorem zgs1 {α:Type} (g:List α->D α) (n:Nat) (acc:List α):D.many g (n+1) acc=D.bind (g acc) fun x=>D.many g n (acc++ [x]):=rfl
theorem zlc2 (s:CB d h0 rb cb bl bs k r x c B) (hl:c.labels=[]) {Q:Hp->Prop}
  (hq:∀(xs:List Int) r1 k' x' B',xs.length<=255->CB d h0 rb cb bl bs k' r1 x' {c with labels:=xs} B'->
   (∀(β:Type) (f:Int->List Int->D β),stepD r (D.bind (D.must (zD 1) (cntE 8)) fun nl=>D.bind (D.many labD nl.toNat []) fun labels=>f nl labels) bs=stepD r1 (f xs.length xs) bs)->Q k'):
  zjj Tryz.prog (some ⟨rb,0,none⟩) (some ⟨cb,0,none⟩) Q k:=by
 unfold zjj
 refine newB2 fun ab k1 hn1 hle1 hA1=> ?_
 have s1:=s.grow hle1
 have hab:ab∉B:=fun h=>okCfg.known s.own ab h hn1
 have har:ab≠rb:=fun h=>by
  obtain ⟨p,q,t,kb,_⟩:=s.rd.blk
  exact kb.known (h▸hn1)
 have hac:ab≠cb:=fun h=>s.blk.known (h▸hn1)
 have hcutA:∃o,cutH k1 B ab=some o/\∀kk:Hp,kk ab=some o->LdIs kk ⟨ab,0,none⟩ [.pointer (some ⟨cb,0,none⟩)]:=by
  obtain ⟨t,e⟩:=hA1
  refine ⟨_,by rw [zoa1 hab];exact e,fun kk e2=>Blk.ldIs ⟨t,e2⟩ (off:=0) (n:=1) rfl⟩
 obtain ⟨oA,hoA,hldA⟩:=hcutA
 refine zfd (zjk1 s1.rd fun v r1 k2 hv m2 a2 hc2=> ?_)
 have s2:=s1.rebase.step m2 a2
 refine LoopW1.intro (fun n k3=>∃(i:Nat) (xs:List Int) (r':RS) (x':S_api_Config) (B':List Nat),n=(i:Int)/\(i+xs.length=v)/\CB d (cutH k1 B) rb cb bl bs k3 r' x' {c with labels:=xs} B'/\
   ∀(β:Type) (f:List Int->D β),stepD r1 (D.bind (D.many labD v []) f) bs=stepD r' (D.bind (D.many labD i xs) f) bs) (fun n _=>n.toNat)
  ⟨v,[],r1,x,B,rfl,by simp,by have:=s2;rw [show c={c with labels:=[]} by rw [<-hl]] at this;exact this,fun _ _=>rfl⟩ ?_
 rintro n k3 ⟨i,xs,r',x',B',rfl,hix,s3,hcn⟩
 refine effI (fun b=>b=true↔∃e,r'=.error e) false (fun _ hk=>zao (s3.rd.bad hk)) fun b hb=>letW ?_
 have hend:(i=0\/∃e,r'=.error e)->Q k3:=fun hor=>by
  refine hq xs r' k3 x' B' (by omega) (s1.back s3) fun β f=> ?_
  rw [hc2]
  have e:=hcn β fun labels=>f v labels
  rw [show ((v:Int)).toNat=v from rfl,e]
  rcases hor with rfl | ⟨e,rfl⟩
  ·have:v=xs.length:=by omega
   rw [this];rfl
  ·rfl
 by_cases hi:i=0
 ·rw [if_neg (by simp [hi])]
  exact hend (.inl hi)
 have hb:=hb (decide_eq_true (by omega))
 cases b with
 | true=>
  rw [if_neg (by simp)]
  exact hend (.inr (hb.1 rfl))
 | false=>
  rw [if_pos (by simp;omega)]
  obtain ⟨j,rfl⟩:∃j,i=j+1:=⟨i-1,by omega⟩
  have hUs:Us k3 x'.Labels xs:=by
   obtain ⟨B1,B2,B3,_,o1,_⟩:=s3.own
   exact o1.rd
  refine zdo (wrong:=⟨zgx, #[], #[.pointer (some ⟨ab,0,none⟩)]⟩) (zgr1 (k:=8) s3.rd (by omega) (by omega) (fun n=>labE xs (toZ n)) (fun n hn2 K hK=> ?_) fun w r2 k4 hw m4 a4 hc4=> ?_)
  ·refine zhq (g:=zgx) rfl (zsm ?_)
   exact zgo2 (hldA k3 (s3.keep ab oA hoA har hac)) s3.blk hUs (by omega) (hK k3 (Hp.le_refl _))
  ·have s4:=s3.step m4 a4
   have hc5:Cn bs r' (labD xs) r2 (w:Int):=by
    show Cn bs r' (D.must (zD 8) (labE xs)) r2 (toZ w)
    rw [zpo2]
    exact hc4.map
   have lA:∀kk:Hp,(∀b o,cutH k1 B b=some o->b≠rb->b≠cb->kk b=some o)->LdIs kk ⟨ab,0,none⟩ [.pointer (some ⟨cb,0,none⟩)]:=fun kk hkk=>hldA kk (hkk ab oA hoA har hac)
   refine ld_at (sh:=shPtr) (some ⟨cb,0,none⟩) (lA k4 s4.keep) (ld_at (sh:=shPtr) (some ⟨cb,0,none⟩) (lA k4 s4.keep) (zab (ld_at (sh:=shSl) x'.Labels (s4.blk.ldIs (off:=0) (n:=1) rfl) ?_)))
   refine newF (xs:=[(w:Int)]) (enc:=fun x=>zac ((shInt .u64).enc x)) (sz:=1) rfl (fun _=>rfl) fun b5 k5 _ hle5 _ o5=> ?_
   have s5:=s4.grow hle5
   refine ⟨⟨lA k5 s5.keep,lA k5 s5.keep,s5.blk.ldIs (off:=0) (n:=1) rfl,trivial⟩,?_⟩
   refine s5.labels (v:=(w:Int)) (o5.rw fun _=>rfl) (by show xs.length<=_;omega) fun l' k6 hN=> ?_
   refine ⟨⟨lA k6 hN.1,trivial⟩,zab (hN.2.2 _ fun k7 B7 s7=> ?_)⟩
   rw [wrap64 (by omega) (by omega)]
   refine ⟨⟨j,xs++ [(w:Int)],r2,_,B7,by omega,by simp;omega,s7,fun β f=> ?_⟩,by omega⟩
   rw [hcn,zgs1,ziv,hc5]
theorem zoo2 (s:CB d h0 rb cb bl bs k r x c B) (hl:c.table=[]) (hsm:c.labels.length<=255) {Q:Hp->Prop}
  (hq:∀(xs:List Int) r1 k' x' B',xs.length<=255->CB d h0 rb cb bl bs k' r1 x' {c with table:=xs} B'->
   (∀(β:Type) (f:List Int->D β),stepD r (D.bind (D.must (zD 1) (cntE 64)) fun nt=>D.bind (D.many (fun _=>D.must (zD 1) (rngE 0 ((c.labels.length:Int)-1))) nt.toNat []) fun table=>f table) bs=stepD r1 (f xs) bs)->Q k'):
  zkj Tryz.prog (some ⟨rb,0,none⟩) (some ⟨cb,0,none⟩) Q k:=by
 unfold zkj
 refine zfd (zjk1 s.rd fun v r1 k2 hv m2 a2 hc2=> ?_)
 have s2:=s.step m2 a2
 refine LoopW1.intro (fun n k3=>∃(i:Nat) (xs:List Int) (r':RS) (x':S_api_Config) (B':List Nat),n=(i:Int)/\(i+xs.length=v)/\CB d h0 rb cb bl bs k3 r' x' {c with table:=xs} B'/\
   ∀(β:Type) (f:List Int->D β),stepD r1 (D.bind (D.many (fun _=>D.must (zD 1) (rngE 0 ((c.labels.length:Int)-1))) v []) f) bs=stepD r' (D.bind (D.many (fun _=>D.must (zD 1) (rngE 0 ((c.labels.length:Int)-1))) i xs) f) bs) (fun n _=>n.toNat)
  ⟨v,[],r1,x,B,rfl,by simp,by have:=s2;rw [show c={c with table:=[]} by rw [<-hl]] at this;exact this,fun _ _=>rfl⟩ ?_
 rintro n k3 ⟨i,xs,r',x',B',rfl,hix,s3,hcn⟩
 refine effI (fun b=>b=true↔∃e,r'=.error e) false (fun _ hk=>zao (s3.rd.bad hk)) fun b hb=>letW ?_
 have hend:(i=0\/∃e,r'=.error e)->Q k3:=fun hor=>by
  refine hq xs r' k3 x' B' (by omega) s3 fun β f=> ?_
  rw [hc2]
  have e:=hcn β f
  rw [show ((v:Int)).toNat=v from rfl,e]
  rcases hor with rfl | ⟨e,rfl⟩
  ·rfl
  ·rfl
 by_cases hi:i=0
 ·rw [if_neg (by simp [hi])]
  exact hend (.inl hi)
 have hb:=hb (decide_eq_true (by omega))
 cases b with
 | true=>
  rw [if_neg (by simp)]
  exact hend (.inr (hb.1 rfl))
 | false=>
  rw [if_pos (by simp;omega)]
  obtain ⟨j,rfl⟩:∃j,i=j+1:=⟨i-1,by omega⟩
  have hll:x'.Labels.len=c.labels.length:=by
   obtain ⟨B1,B2,B3,_,o1,_⟩:=s3.own
   exact o1.len
  refine zab (ld_at (sh:=shSl) x'.Table (s3.blk.ldIs (off:=1) (n:=1) rfl) ?_)
  refine ziz (zkb1 s3.rd s3.blk (by omega) fun w r2 k4 hw m4 a4 hc4=> ?_)
  have s4:=s3.step m4 a4
  rw [hll] at hc4
  refine ⟨⟨s4.blk.ldIs (off:=1) (n:=1) rfl,trivial⟩,?_⟩
  refine newF (xs:=[(w:Int)]) (enc:=fun x=>zac ((shInt .i64).enc x)) (sz:=1) rfl (fun _=>rfl) fun b5 k5 _ hle5 _ o5=> ?_
  have s5:=s4.grow hle5
  refine ⟨⟨s5.blk.ldIs (off:=1) (n:=1) rfl,trivial⟩,?_⟩
  refine s5.table (v:=(w:Int)) (o5.rw fun _=>rfl) (by show xs.length<=_;omega) fun l' k6 hN=> ?_
  refine zab (hN.2.2 _ fun k7 B7 s7=> ?_)
  rw [wrap64 (by omega) (by omega)]
  refine ⟨⟨j,xs++ [(w:Int)],r2,_,B7,by omega,by simp;omega,s7,fun β f=> ?_⟩,by omega⟩
  rw [hcn,zgs1,ziv,hc4]
end
theorem zop2 {v:Nat} (h:v<18446744073709551616):IntKind.wrap .i64 (v:Int)=i64 v:=by
 unfold IntKind.wrap i64
 simp only [IntKind.signed,IntKind.bits]
 simp
 split<;>split<;>omega
theorem zva1 {has:Bool} {n:Int} (h:0<=n):regP has n≠0↔((has&&decide (n>=8)) || ((!has)&&(n !=0)))=true:=by
 unfold regP
 cases has with
 | true=>
  rw [if_neg (by simp)]
  by_cases h1:n<0\/8<=n
  ·rw [if_pos h1];simp;omega
  ·rw [if_neg h1];simp;omega
 | false=>
  by_cases h1:n≠0
  ·rw [if_pos ⟨rfl,h1⟩];simpa using h1
  ·rw [if_neg (fun e=>h1 e.2),if_neg (by omega)]
   simpa using h1
def zjl1 (x:PIns):Int:=if regP (zat x.op).1 x.a≠0 then 1 else if regP (zat x.op).2.1 x.b≠0 then 2 else if regP (zat x.op).2.2.1 x.c≠0 then 3 else 4
theorem zrv1 {x:PIns} {n locks:Int} (h:(zcg x n locks).1≠0):(zcg x n locks).2=if (zcg x n locks).1=9 then 0 else zjl1 x:=by
 have h9:∀b m,regP b m≠9:=fun b m=>by
  unfold regP
  split
  ·decide
  ·split<;>decide
 unfold zcg at h ⊢
 unfold zjl1
 by_cases h1:x.op<0\/34<=x.op
 ·rw [if_pos h1] at h ⊢;rw [if_pos rfl]
 rw [if_neg h1] at h ⊢
 by_cases h2:regP (zat x.op).1 x.a≠0
 ·rw [if_pos h2] at h ⊢;rw [if_neg (h9 _ _),if_pos h2]
 rw [if_neg h2] at h ⊢
 rw [if_neg h2]
 by_cases h3:regP (zat x.op).2.1 x.b≠0
 ·rw [if_pos h3] at h ⊢;rw [if_neg (h9 _ _),if_pos h3]
 rw [if_neg h3] at h ⊢
 rw [if_neg h3]
 by_cases h4:regP (zat x.op).2.2.1 x.c≠0
 ·rw [if_pos h4] at h ⊢;rw [if_neg (h9 _ _),if_pos h4]
 rw [if_neg h4] at h ⊢
 rw [if_neg h4]
 by_cases h5:(zat x.op).2.2.2=false/\x.imm≠0
 ·rw [if_pos h5] at h ⊢;rfl
 rw [if_neg h5] at h ⊢
 by_cases h6:(x.op=22\/x.op=23)/\(x.imm<0\/n<x.imm)
 ·rw [if_pos h6] at h ⊢;rfl
 rw [if_neg h6] at h ⊢
 by_cases h7:(x.op=29\/x.op=30)/\(x.imm<0\/locks<=x.imm)
 ·rw [if_pos h7] at h ⊢;rfl
 rw [if_neg h7] at h
 exact absurd rfl h
theorem zld2 {h:Hp} {x:S_api_Ins} {e:Int} {Q:Int->Hp->Prop} (ha:0<=x.A) (hb:0<=x.B) (hc:0<=x.C) (hq:∀h',h<=h'->Q (if e=9 then 0 else zjl1 (insOf x)) h'):zvc Tryz.prog x e Q h:=by
 unfold zvc
 by_cases h9:e=9
 ·rw [if_pos (by simpa using h9)]
  rw [if_pos h9] at hq
  exact hq h (Hp.le_refl _)
 rw [if_neg (by simpa using h9)]
 rw [if_neg h9] at hq
 refine zxe (zgd1 fun h1 hle1=> ?_)
 generalize hf:zat x.Op=f at*
 obtain ⟨f1,f2,f3,f4⟩:=f
 dsimp only
 refine newB2 (cs:=[.bool f1,.int .i64 x.A,.bool f2,.int .i64 x.B,.bool f3,.int .i64 x.C]) fun b h2 _ hle2 hB=> ?_
 have hq:=fun h' hl=>hq h' (Hp.le_trans hle1 (Hp.le_trans hle2 hl))
 have p1:=zva1 (has:=f1) ha
 have p2:=zva1 (has:=f2) hb
 have p3:=zva1 (has:=f3) hc
 have hsp:zjl1 (insOf x)=if regP f1 x.A≠0 then 1 else if regP f2 x.B≠0 then 2 else if regP f3 x.C≠0 then 3 else 4:=by
  unfold zjl1
  have e:zat (insOf x).op=(f1,f2,f3,f4):=hf
  rw [e]
  rfl
 rw [hsp] at hq
 refine forI (n:=3) rfl (by omega) (fun i h'=>h'=h2/\(1<=i->¬regP f1 x.A≠0)/\(2<=i->¬regP f2 x.B≠0)/\(3<=i->¬regP f3 x.C≠0)) ⟨rfl,fun h=>by omega,fun h=>by omega,fun h=>by omega⟩ ?_ ?_
 ·rintro i hi h3 ⟨rfl,q1,q2,q3⟩ K hK
  refine ⟨⟨by simp,by omega,by omega⟩,?_⟩
  match i,hi with
  | 0,_=>
   refine ld_at (sh:=zcb) ⟨f1,x.A⟩ (hB.ldIs (off:=0) (n:=2) rfl) (letW (letW (letW ?_)))
   dsimp only
   by_cases hbad:regP f1 x.A≠0
   ·rw [if_pos (p1.1 hbad),wrap64 (by omega) (by omega)]
    rw [if_pos hbad] at hq
    exact hq h3 (Hp.le_refl _)
   ·rw [if_neg (fun e=>hbad (p1.2 e))]
    exact hK h3 ⟨rfl,fun _=>hbad,fun h=>by omega,fun h=>by omega⟩
  | 1,_=>
   refine ld_at (sh:=zcb) ⟨f2,x.B⟩ (hB.ldIs (off:=2) (n:=2) rfl) (letW (letW (letW ?_)))
   dsimp only
   by_cases hbad:regP f2 x.B≠0
   ·rw [if_pos (p2.1 hbad),wrap64 (by omega) (by omega)]
    rw [if_neg (q1 (by omega)),if_pos hbad] at hq
    exact hq h3 (Hp.le_refl _)
   ·rw [if_neg (fun e=>hbad (p2.2 e))]
    exact hK h3 ⟨rfl,fun _=>q1 (by omega),fun _=>hbad,fun h=>by omega⟩
  | 2,_=>
   refine ld_at (sh:=zcb) ⟨f3,x.C⟩ (hB.ldIs (off:=4) (n:=2) rfl) (letW (letW (letW ?_)))
   dsimp only
   by_cases hbad:regP f3 x.C≠0
   ·rw [if_pos (p3.1 hbad),wrap64 (by omega) (by omega)]
    rw [if_neg (q1 (by omega)),if_neg (q2 (by omega)),if_pos hbad] at hq
    exact hq h3 (Hp.le_refl _)
   ·rw [if_neg (fun e=>hbad (p3.2 e))]
    exact hK h3 ⟨rfl,fun _=>q1 (by omega),fun _=>q2 (by omega),fun _=>hbad⟩
 ·rintro h3 ⟨rfl,q1,q2,q3⟩
  rw [if_neg (q1 (by omega)),if_neg (q2 (by omega)),if_neg (q3 (by omega))] at hq
  exact hq h3 (Hp.le_refl _)
def Only5 {α:Type} (d:D α):Prop:=∀bs at_ e,d bs at_=.error e->e=(5,bs.length)
theorem zgt1 (k:Nat):Only5 (D.num k):=fun bs at_ e h=>by
 unfold D.num at h
 split at h<;>cases h
 rfl
theorem zkc {α β:Type} {d:D α} {f:α->D β} (h1:Only5 d) (h2:∀x,Only5 (f x)):Only5 (D.bind d f):=fun bs at_ e h=>by
 unfold D.bind at h
 cases hd:d bs at_ with
 | error e1=>rw [hd] at h;cases h;exact h1 bs at_ _ hd
 | ok x=>rw [hd] at h;exact h2 _ bs _ e h
theorem zaw1 {α:Type} (x:α):Only5 (D.ret x):=fun _ _ _ h=>by cases h
theorem zoq2 :Only5 zgb1:=
 zkc (zkc (zgt1 1) fun _=>zaw1 _) fun _=>zkc (zkc (zgt1 1) fun _=>zaw1 _) fun _=>zkc (zkc (zgt1 1) fun _=>zaw1 _) fun _=>
  zkc (zkc (zgt1 1) fun _=>zaw1 _) fun _=>zkc (zkc (zgt1 8) fun _=>zaw1 _) fun _=>zaw1 _
theorem zsu2 {α:Type} (d:D α):D.must d (fun _=>0)=d:=by
 funext b a
 unfold D.must
 cases d b a with
 | error e=>rfl
 | ok x=>rfl
section
variable {d h:Hp} {rb:Nat} {bl:Sl} {bs:List UInt8} {r:RS}
theorem zpd1 {k:Nat} {Q:Int->Hp->Prop} (a:RAt d h rb bl bs r) (hk1:1<=k) (hk8:k<=8)
  (hq:∀(v:Nat) r1 h',v<256^k->Mv [rb] h [rb] h'->RAt d h' rb bl bs r1->Cn bs r (D.num k) r1 v->Q (v:Int) h'):
  CallT Tryz.prog zav [(.pointer (some ⟨rb,0,none⟩)),(.int .i64 (k:Int)),(.func (.func zfp) #[] #[])] (shInt .u64) Q h:=by
 refine zdo (wrong:=⟨zfp, #[], #[]⟩) (zgr1 (k:=k) a hk1 hk8 (fun _=>0) (fun n hn2 K hK=> ?_) fun v r1 h2 hv m a2 hc=> ?_)
 ·refine zhq (g:=zfp) rfl (zym ?_)
  unfold zqa
  exact hK h (Hp.le_refl _)
 ·rw [zsu2] at hc
  exact hq v r1 h2 hv m a2 hc
theorem zsv2 {n locks:Int} {Q:S_api_Ins->Hp->Prop} (a:RAt d h rb bl bs r) (hq:∀(v:S_api_Ins) r1 h',Mv [rb] h [rb] h'->RAt d h' rb bl bs r1->Cn bs r (insD n locks) r1 (insOf v)->Q v h'):
  znb Tryz.prog (some ⟨rb,0,none⟩) n locks Q h:=by
 unfold znb
 obtain ⟨p,e,pl,kb,hs⟩:=a.blk
 have hlen:bl.len=bs.length:=a.src.1
 have hsm:=a.small
 refine zao (zru1 kb ?_)
 cases r with
 | error x=>
  obtain ⟨er,q⟩:=x
  rw [if_pos (by rw [hs.1];simpa using hs.2.1)]
  exact hq _ _ h (Mv.refl _ _) a Cn.stay
 | ok at_=>
  obtain ⟨rfl,rfl,hn⟩:=hs
  have hn:at_<=bs.length:=by omega
  rw [if_neg (by simp)]
  refine zab (ld_at (sh:=shInt .i64) (at_:Int) (kb.ldIs (off:=1) (n:=1) rfl) (zab (ld_at (sh:=shSl) bl (kb.ldIs (off:=0) (n:=1) rfl) ?_)))
  rw [wrap64 (by omega) (by omega)]
  by_cases hsh:bs.length<at_+12
  ·rw [if_pos (decide_eq_true (by omega))]
   refine zab (ld_at (sh:=shSl) bl (kb.ldIs (off:=0) (n:=1) rfl) (zbn (zeq1 kb fun h' m k'=> ?_)))
   rw [if_pos ⟨by decide,rfl⟩,if_pos ⟨by decide,rfl⟩] at k'
   refine hq _ (.error (5,bs.length)) h' m ⟨(m.le a.le fun c hc=>by rw [List.mem_singleton.1 hc];exact a.out).1,a.out,a.src,a.cap,a.small,_,_,_,k',rfl,by decide,by rw [hlen]⟩ (Cn.err ?_)
   unfold insD D.mustAt
   cases hi:zgb1 bs at_ with
   | error e=>rw [zoq2 bs at_ e hi]
   | ok y=>
    obtain ⟨y,a2⟩:=y
    have h1:=(law_ins.sound bs at_ y a2 hi hn).2.1
    have h2:=law_ins.within hi hn
    simp [insB,zdb] at h1
    omega
  ·rw [if_neg (fun e=>hsh (by have:=of_decide_eq_true e;omega))]
   refine zpd1 (k:=1) a (by omega) (by omega) fun v1 r1 h1 hv1 m1 a1 c1=> ?_
   refine zpd1 (k:=1) a1 (by omega) (by omega) fun v2 r2 h2 hv2 m2 a2 c2=> ?_
   refine zpd1 (k:=1) a2 (by omega) (by omega) fun v3 r3 h3 hv3 m3 a3 c3=> ?_
   refine zpd1 (k:=1) a3 (by omega) (by omega) fun v4 r4 h4 hv4 m4 a4 c4=> ?_
   refine zpd1 (k:=8) a4 (by omega) (by omega) fun v5 r5 h5 hv5 m5 a5 c5=> ?_
   have m:=m1.trans (m2.trans (m3.trans (m4.trans m5)))
   have hc:Cn bs (.ok at_) zgb1 r5 (insOf ⟨(v1:Int),(v2:Int),(v3:Int),(v4:Int),i64 v5⟩):=
    Cn.seq c1.map (Cn.seq c2.map (Cn.seq c3.map (Cn.seq c4.map (Cn.seq c5.map Cn.ret))))
   rw [zop2 (v:=v5) (by omega)]
   rw [wrap64 (n:=(v1:Int)) (by omega) (by omega),wrap64 (n:=(v2:Int)) (by omega) (by omega),wrap64 (n:=(v3:Int)) (by omega) (by omega),wrap64 (n:=(v4:Int)) (by omega) (by omega)]
   have hx:(⟨(v1:Int),(v2:Int),(v3:Int),(v4:Int),i64 v5⟩:S_api_Ins).A=(v2:Int):=rfl
   refine zqm (x:=⟨(v1:Int),(v2:Int),(v3:Int),(v4:Int),i64 v5⟩) (zuh1 fun h6 hle6=> ?_)
   have hA:0<=(⟨(v1:Int),(v2:Int),(v3:Int),(v4:Int),i64 v5⟩:S_api_Ins).A:=by show (0:Int)<=(v2:Int);omega
   have hB:0<=(⟨(v1:Int),(v2:Int),(v3:Int),(v4:Int),i64 v5⟩:S_api_Ins).B:=by show (0:Int)<=(v3:Int);omega
   have hC:0<=(⟨(v1:Int),(v2:Int),(v3:Int),(v4:Int),i64 v5⟩:S_api_Ins).C:=by show (0:Int)<=(v4:Int);omega
   have hdone:=hc.done
   have m6:=m.trans (Mv.of_le [rb] hle6)
   have a6:=a5.grow hle6
   have hval:(sh_api_Ins.enc ⟨(v1:Int),(v2:Int),(v3:Int),(v4:Int),i64 v5⟩)=.agg #[.int .i64 (v1:Int),.int .i64 (v2:Int),.int .i64 (v3:Int),.int .i64 (v4:Int),.int .i64 (i64 v5)]:=rfl
   rw [<-hval]
   generalize (⟨(v1:Int),(v2:Int),(v3:Int),(v4:Int),i64 v5⟩:S_api_Ins)=y at*
   by_cases hw:(zcg (insOf y) n locks).1=0
   ·rw [if_neg (by simpa using hw)]
    refine hq y r5 h6 m6 a6 ?_
    cases r5 with
    | ok a2=>
     refine Cn.ok ?_
     have hdone:zgb1 bs at_=.ok (insOf y,a2):=hdone
     unfold insD D.mustAt
     rw [hdone]
     dsimp only
     rw [if_pos hw]
    | error e=>
     refine Cn.err ?_
     have hdone:zgb1 bs at_=.error e:=hdone
     unfold insD D.mustAt
     rw [hdone]
   ·rw [if_pos (by simpa using hw)]
    refine zky1 (zld2 hA hB hC fun h7 hle7=> ?_)
    rw [<-zrv1 (n:=n) (locks:=locks) hw]
    have hsp:0<=(zcg (insOf y) n locks).2/\(zcg (insOf y) n locks).2<=4:=by
     rw [zrv1 hw]
     split
     ·omega
     ·unfold zjl1
      split
      ·omega
      ·split
       ·omega
       ·split<;>omega
    have a7:=a6.grow hle7
    obtain ⟨p7,e7,pl7,k7,hs7⟩:=a7.blk
    rw [wrap64 (by omega) (by omega)]
    refine zbn (zeq1 k7 fun h8 m8 k8=> ?_)
    have m9:=(m6.trans (Mv.of_le [rb] hle7)).trans m8
    have hd8:=(m9.le a.le fun c hc=>by rw [List.mem_singleton.1 hc];exact a.out).1
    cases r5 with
    | ok a2=>
     have hdone:zgb1 bs at_=.ok (insOf y,a2):=hdone
     obtain ⟨rfl,rfl,hs7⟩:=hs7
     simp only [ne_eq,hw,not_false_eq_true,and_self,if_true] at k8
     refine hq y (.error ((zcg (insOf y) n locks).1,at_+(zcg (insOf y) n locks).2.toNat)) h8 m9 ⟨hd8,a.out,a.src,a.cap,a.small,_,_,_,k8,rfl,hw,by push_cast;omega⟩ (Cn.err ?_)
     unfold insD D.mustAt
     rw [hdone]
     dsimp only
     rw [if_neg hw]
    | error e=>
     have hdone:zgb1 bs at_=.error e:=hdone
     obtain ⟨er,q⟩:=e
     obtain ⟨rfl,hne,rfl⟩:=hs7
     rw [if_neg (fun hh=>hne hh.2),if_neg (fun hh=>hne hh.2)] at k8
     refine hq y (.error (e7,q)) h8 m9 ⟨hd8,a.out,a.src,a.cap,a.small,_,_,_,k8,rfl,hne,rfl⟩ (Cn.err ?_)
     unfold insD D.mustAt
     rw [hdone]
end
section
variable {d h0 k:Hp} {rb cb:Nat} {bl:Sl} {bs:List UInt8} {r:RS} {x:S_api_Config} {c:PCfg} {B:List Nat}
theorem CB.other (s:CB d h0 rb cb bl bs k r x c B) {k':Hp} {B5:List Nat} (keep:∀b o,k b=some o->b∉B5->k' b=some o) (hB:∀b∈B5,h0 b=none/\b∉B):CB d h0 rb cb bl bs k' r x c B:=by
 have h5r:rb∉B5:=fun h=>s.kr (hB rb h).1
 have h5c:cb∉B5:=fun h=>s.kc (hB cb h).1
 have hk:∀b o,h0 b=some o->b∉B5:=fun b o e h=>by rw [(hB b h).1] at e;cases e
 exact {
  base:=s.base
  kr:=s.kr
  kc:=s.kc
  ne:=s.ne
  dc:=s.dc
  keep:=fun b o e h1 h2=>keep b o (s.keep b o e h1 h2) (hk b o e)
  rd:=by
   obtain ⟨p,q,t,⟨ty,kb⟩,hs⟩:=s.rd.blk
   exact ⟨fun b o e=>keep b o (s.rd.le b o e) (hk b o (s.base b o e)),s.rd.out,s.rd.src,s.rd.cap,s.rd.small,p,q,t,⟨ty,keep rb _ kb h5r⟩,hs⟩
  blk:=by
   obtain ⟨t,e⟩:=s.blk
   exact ⟨t,keep cb _ e h5c⟩
  own:=okCfg.same s.own fun b hb=>by
   cases e:k b with
   | none=>exact absurd e (okCfg.known s.own b hb)
   | some o=>exact keep b o e fun h=>(hB b h).2 hb
  nd:=s.nd
  fresh:=s.fresh}
theorem zor2 {P:Program} {n:Int} {Q:Int->Hp->Prop} {h:Hp} (hq:Q (if 256<n then 3 else 0) h):zjo P n Q h:=by
 unfold zjo
 by_cases hn:256<n
 ·rw [if_pos hn] at hq;rw [if_pos (decide_eq_true hn)];exact hq
 ·rw [if_neg hn] at hq;rw [if_neg (fun e=>hn (of_decide_eq_true e))];exact hq
theorem zos2 (s:CB d h0 rb cb bl bs k r x c B) (hsm:c.labels.length<=255) (hps:c.procs.length<=255) {Q:Hp->Prop}
  (hq:∀p r1 k' x' B',CB d h0 rb cb bl bs k' r1 x' {c with procs:=c.procs++ [p]} B'->Cn bs r (procD (c.labels.length:Int) c.locks) r1 p->Q k'):
  zls Tryz.prog (some ⟨rb,0,none⟩) (some ⟨cb,0,none⟩) Q k:=by
 unfold zls
 have hll:x.Labels.len=c.labels.length:=by
  obtain ⟨B1,B2,B3,_,o1,_⟩:=s.own
  exact o1.len
 have hlk:x.Locks=c.locks:=by
  obtain ⟨B1,B2,B3,_,_,_,_,_,_,e,_⟩:=s.own
  exact e
 refine ziz (zkb1 s.rd s.blk (by omega) fun part r1 k1 hpart m1 a1 hc1=> ?_)
 rw [hll] at hc1
 have s1:=s.step m1 a1
 refine zeu (wrong:=⟨zjf, #[], #[]⟩) (zea2 (k:=2) s1.rd (by omega) (by omega) (fun n=>if 256<n then 3 else 0) (fun n hn2 h1 hle1 K hK=>zhq (g:=zjf) rfl (zwp (zor2 (hK h1 (Hp.le_refl _))))) fun v r2 k2 hv m2 a2 hc2=> ?_)
 have s2:=s1.step m2 a2
 refine LoopW2.intro (fun i p k3=>∃(j:Nat) (ps:List PIns) (r':RS) (B5:List Nat),i=(j:Int)/\j=ps.length/\j<=v/\CB d h0 rb cb bl bs k3 r' x c B/\p.Part=(part:Int)/\InsO p.Code ps k3 B5/\B5.Nodup/\(∀b∈B5,h0 b=none/\b∉B)/\
   ∀(β:Type) (f:List PIns->D β),stepD r2 (D.bind (D.many (fun _=>insD (v:Int) c.locks) v []) f) bs=stepD r' (D.bind (D.many (fun _=>insD (v:Int) c.locks) (v-j) ps) f) bs) (fun i _ _=>(v-i).toNat)
  ⟨0,[],r2,[],rfl,rfl,by omega,s2,rfl,RowsO.nil,List.nodup_nil,fun b hb=>by (cases hb),fun _ _=>rfl⟩ ?_
 rintro i p k3 ⟨j,ps,r',B5,rfl,hjl,hjv,s3,hpp,o5,nd5,hB5,hcn⟩
 refine effI (fun b=>b=true↔∃e,r'=.error e) false (fun _ hk=>zao (s3.rd.bad hk)) fun b hb=>letW ?_
 have hend:(j=v\/∃e,r'=.error e)->NilW none (some ⟨cb,0,none⟩) fun p1=>LdW none shSl k3 (Addr.add p1 6) fun x=>NewW [(.int .i64 p.Part),p.Code.v] (fun a h5=>(((LdIs h5 (Addr.add p1 6) [x.v])/\True)/\zai 2 32 [(.int .i64 (0:Int)),(.slice none 0 0)] x ⟨(some a),1,1⟩ (fun r4 h6=>
   NilW none (some ⟨cb,0,none⟩) fun p2=>StW h6 (Addr.add p2 6) [r4.v] (fun h7=>Q h7)) h5)) k3:=fun hor=>by
  refine zab (ld_at (sh:=shSl) x.Procs (s3.blk.ldIs (off:=6) (n:=1) rfl) ?_)
  refine newF (xs:=[p]) (enc:=fun x=>zac (sh_api_Proc.enc x)) (sz:=2) rfl (fun _=>rfl) fun b6 k6 _ hle6 _ o6=> ?_
  have s6:=s3.grow hle6
  have o5':InsO p.Code ps k6 B5:=okIns.same o5 fun b hb=>by
   cases e:k3 b with
   | none=>exact absurd e (okIns.known o5 b hb)
   | some o=>exact hle6 b o e
  refine ⟨⟨s6.blk.ldIs (off:=6) (n:=1) rfl,trivial⟩,?_⟩
  refine s6.procs (v:=p) (p:=⟨(part:Int),ps⟩) ⟨hpp,o5'⟩ nd5 hB5 (o6.rw fun _=>rfl) (by omega) fun l' k7 hN=>zab (hN.2.2 _ fun k8 B8 s8=> ?_)
  refine hq ⟨(part:Int),ps⟩ r' k8 _ B8 s8 fun β f=> ?_
  unfold procD
  rw [ziv,hc1,ziv,hc2,ziv]
  have e:=hcn β fun code=>f ⟨(part:Int),code⟩
  rcases hor with rfl | ⟨e2,rfl⟩
  ·rw [Nat.sub_self] at e
   exact e
  ·exact e
 by_cases hjv':j=v
 ·rw [if_neg (by simp [hjv'])]
  exact hend (.inl hjv')
 have hb:=hb (decide_eq_true (by omega))
 cases b with
 | true=>
  rw [if_neg (by simp)]
  exact hend (.inr (hb.1 rfl))
 | false=>
  rw [if_pos (by simp;omega)]
  refine zab (ld_at (sh:=shInt .i64) x.Locks (s3.blk.ldIs (off:=4) (n:=1) rfl) ?_)
  rw [hlk]
  refine zbr1 (zsv2 s3.rd fun y r4 k4 m4 a4 hc4=> ?_)
  have s4:=s3.step m4 a4
  have o4:InsO p.Code ps k4 B5:=okIns.same o5 (zgz1 m4 (okIns.known o5) fun b hb e=>s3.kr (by rw [<-List.mem_singleton.1 e];exact (hB5 b hb).1))
  refine ⟨⟨trivial,trivial⟩,?_⟩
  refine newF (xs:=[y]) (enc:=fun x=>zac (sh_api_Ins.enc x)) (sz:=5) rfl (fun _=>rfl) fun b5 k5 _ hle5 _ o5''=> ?_
  have s5:=s4.grow hle5
  have o5':InsO p.Code ps k5 B5:=okIns.same o4 fun b hb=>by
   cases e:k4 b with
   | none=>exact absurd e (okIns.known o4 b hb)
   | some o=>exact hle5 b o e
  refine ⟨⟨trivial,trivial⟩,?_⟩
  refine zgg1 (PureO.ok _) o5' (v:=y) (p:=insOf y) (B':=[]) ⟨rfl,rfl⟩ (by simpa using nd5) (o5''.rw fun _=>rfl) (fun _=>rfl) (fun _=>rfl) rfl (by omega) fun l' k6 B6 o6 nd6 keep6 from6=> ?_
  have s6:=s5.other keep6 hB5
  rw [wrap64 (by omega) (by omega)]
  refine ⟨⟨j+1,ps++ [insOf y],r4,B6,by omega,by simp [hjl],by omega,s6,hpp,o6,nd6,fun b hb=> ?_,fun β f=> ?_⟩,by omega⟩
  ·rcases from6 b hb with hb | hb
   ·exact hB5 b (by simpa using hb)
   ·exact ⟨s5.new_ hb,fun h=>okCfg.known s5.own b h hb⟩
  ·have e1:v-j=(v-(j+1))+1:=by omega
   rw [hcn,e1,zgs1,ziv,hc4]
end
section
variable {d h:Hp} {rb:Nat} {bl:Sl} {bs:List UInt8} {r:RS}
theorem zgp2 {P:Program} {ab:Nat} {i:Nat} {n:Nat} {h:Hp} (hi:i<5) (hn:n<256) (ha:LdIs h ⟨ab,0,none⟩ [.int .i64 (i:Int)]) {c:UInt8} (hc:([70,66,67,70,1]:List UInt8)[i]? =some c)
  {Q:Int->Hp->Prop} (hq:Q (if n=c.toNat then 0 else 4) h):zhd P (n:Int) ⟨ab,0,none⟩ Q h:=by
 unfold zhd
 have h5:(i:Int)<5:=by omega
 refine ld_at (sh:=shInt .i64) (i:Int) ha ⟨⟨Int.natCast_nonneg i,h5⟩,?_⟩
 have e1:IntKind.wrap .u8 (n:Int)=(n:Int):=by
  rw [wrap8,zrk1];omega
 have e2:List.getD [70,66,67,70,1] (Int.toNat (i:Int)) (0:UInt8)=c:=by
  rw [List.getD_eq_getElem?_getD,show (Int.toNat (i:Int))=i from rfl,hc];rfl
 rw [e1,e2]
 by_cases h1:n=c.toNat
 ·rw [if_pos h1] at hq
  rw [if_neg (by simp [h1])]
  exact hq
 ·rw [if_neg h1] at hq
  rw [if_pos (by rw [bne_iff_ne];omega)]
  exact hq
theorem zle2 {Q:Hp->Prop} (a:RAt d h rb bl bs r) (hq:∀r1 h',Mv [rb] h [rb] h'->RAt d h' rb bl bs r1->Cn bs r (markD [70,66,67,70,1]) r1 ()->Q h'):zji Tryz.prog (some ⟨rb,0,none⟩) Q h:=by
 unfold zji
 refine forI (n:=5) rfl (by omega) (fun i k=>∃r',Mv [rb] h [rb] k/\RAt d k rb bl bs r'/\∀(β:Type) (f:Unit->D β),stepD r (D.bind (markD [70,66,67,70,1]) f) bs=stepD r' (D.bind (markD (([70,66,67,70,1]:List UInt8).drop i)) f) bs) ⟨r,Mv.refl _ _,a,fun _ _=>rfl⟩ ?_ ?_
 ·rintro i hi k ⟨r',m,a',hcn⟩ K hK
  refine newB2 fun ab k1 hn1 hle1 hA1=> ?_
  have a1:=a'.grow hle1
  have har:rb≠ab:=fun h=>by
   obtain ⟨p,q,t,kb,_⟩:=a'.blk
   exact kb.known (h▸hn1)
  refine zmt (b:=ab) (off:=0) hA1 (by simp) fun k2 m2 hA2=> ?_
  have a2:=a1.mv m2 (fun h=>har (List.mem_singleton.1 h)) fun b hb=>by
   rw [List.mem_singleton.1 hb]
   exact zbz a'.le hn1
  have lA:LdIs k2 ⟨ab,0,none⟩ [.int .i64 (i:Int)]:=by
   refine hA2.ldIs (off:=0) (n:=1) ?_
   simp
  have hc:([70,66,67,70,1]:List UInt8)[i]? =some (([70,66,67,70,1]:List UInt8)[i]'(by simpa using hi)):=List.getElem?_eq_getElem (by simpa using hi)
  generalize ([70,66,67,70,1]:List UInt8)[i]'(by simpa using hi)=c at hc
  refine zdo (wrong:=⟨zgw, #[], #[.pointer (some ⟨ab,0,none⟩)]⟩) (zgr1 (k:=1) a2 (by omega) (by omega) (fun n=>if n=c.toNat then 0 else 4) (fun n hn2 K hK=> ?_) fun v r2 k3 hv m3 a3 hc3=> ?_)
  ·refine zhq (g:=zgw) rfl (zsl ?_)
   exact zgp2 hi (by simpa using hn2) lA hc (hK k2 (Hp.le_refl _))
  ·refine hK k3 ⟨r2,⟨fun b o e hb=>m3.keep b o (m2.keep b o (hle1 b o (m.keep b o e hb)) fun h=> ?_) hb,fun b hb=>.inl hb⟩,a3,fun β f=> ?_⟩
   ·rw [List.mem_singleton.1 h] at e hb
    have:=m.keep ab o e hb
    rw [hn1] at this
    cases this
   ·rw [hcn,zpc1 hc]
    show stepD r' (D.bind (D.bind (D.must (D.num 1) fun n=>if n=c.toNat then 0 else 4) fun _=>markD (([70,66,67,70,1]:List UInt8).drop (i+1))) f) bs=_
    rw [ziv,hc3]
 ·rintro k ⟨r',m,a',hcn⟩
  exact hq r' k m a' fun β f=>by rw [hcn];rfl
end
theorem rp2 :zec 2=rngE 1 256:=by funext n;simp [zec]
theorem rp3 :zec 3=rngE 1 64:=by funext n;simp [zec]
theorem rp4 :zec 4=rngE 0 8:=by funext n;simp [zec]
theorem rp5 :zec 5=rngE 0 4096:=by funext n;simp [zec]
def cfg0 :S_api_Config:=⟨⟨none,0,0⟩,⟨none,0,0⟩,0,0,0,0,⟨none,0,0⟩⟩
def EndC (h h2:Hp) (rb cb:Nat) (b:Sl) (bs:List UInt8) (k:Hp):Prop:=
 (Blk k rb (zco1 b 0 22 1048576)/\h<=k/\zhp bs=.error (22,1048576))\/
 ∃(r:RS) (x:S_api_Config) (c:PCfg) (B:List Nat),CB h h2 rb cb b bs k r x c B/\match r with
  | .error e=>zhp bs=.error e
  | .ok _=>zhp bs=.ok c
theorem zny {bs:List UInt8} {e:Int×Nat} (hl:bs.length<=1048576) (h:stepD (.ok 0) zzs bs=.error e):zhp bs=.error e:=by
 unfold zhp zcz2
 rw [if_neg (by omega)]
 have h:zzs bs 0=.error e:=h
 rw [h]
theorem zbf2 {bs:List UInt8} {c:PCfg} {a:Nat} (hl:bs.length<=1048576) (h:stepD (.ok 0) zzs bs=.ok (c,a)):zhp bs=if a<bs.length then .error (6,a) else .ok c:=by
 unfold zhp zcz2
 rw [if_neg (by omega)]
 have h:zzs bs 0=.ok (c,a):=h
 rw [h]
theorem zvb1 {h:Hp} {b:Sl} {bs:List UInt8} {Q:S_api_Config->Int->Int->Hp->Prop} (hB:Bs h b bs) (hcap:b.len<=b.cap)
  (he:∀e p h',h<=h'->zhp bs=.error (e,p)->e≠0->Q cfg0 e (p:Int) h') (hok:∀x c B h',h<=h'->zhp bs=.ok c->CfgO x c h' B->B.Nodup->(∀b∈B,h b=none)->Q x 0 0 h'):
  zuw Tryz.prog b Q h:=by
 unfold zuw
 have hlen:b.len=bs.length:=hB.1
 refine newB2 fun cb h1 hn1 hle1 hC1=>newB2 fun rb h2 hn2 hle2 hR2=> ?_
 have hle:=Hp.le_trans hle1 hle2
 have hne:rb≠cb:=fun e=>hC1.known (e▸hn2)
 have hrn:h rb=none:=zbz hle1 hn2
 have hC2:=hC1.le hle2
 refine JoinW1.intro (fun _ k=>EndC h h2 rb cb b bs k) ?_ ?_
 ·by_cases hbig:1048576<bs.length
  ·rw [if_pos (decide_eq_true (by omega))]
   refine zbn (zeq1 (at_:=0) (e:=0) (pl:=0) hR2 fun h3 m3 k3=> ?_)
   rw [if_pos ⟨by decide,rfl⟩,if_pos ⟨by decide,rfl⟩] at k3
   refine .inl ⟨k3,(m3.le hle fun c hc=>by rw [List.mem_singleton.1 hc];exact hrn).1,?_⟩
   unfold zhp zcz2
   rw [if_pos hbig]
  ·rw [if_neg (fun e=>hbig (by have:=of_decide_eq_true e;omega))]
   have hsm:bs.length<=1048576:=by omega
   have s0:CB h h2 rb cb b bs h2 (.ok 0) cfg0 ⟨[],[],0,0,0,0,[]⟩ []:=
    ⟨hle,hR2.known,hC2.known,hne,hn1,fun b o e _ _=>e,⟨hle,hrn,hB,hcap,by omega,0,0,0,hR2,rfl,rfl,by omega⟩,hC2,⟨[],[],[],rfl,RowsO.nil,RowsO.nil,RowsO.nil,rfl,rfl,rfl,rfl⟩,List.nodup_nil,fun b hb=>by (cases hb)⟩
   refine zwk (zle2 s0.rd fun r1 k1 m1 a1 hc1=> ?_)
   have s1:=s0.step m1 a1
   have hc1':stepD (.ok 0) zzs bs=_:=hc1 PCfg _
   refine zao (s1.rd.bad fun q hq=> ?_)
   cases q with
   | true=>
    rw [if_pos rfl]
    obtain ⟨e,rfl⟩:=hq.1 rfl
    exact .inr ⟨_,_,_,_,s1,zny hsm hc1'⟩
   | false=>
   rw [if_neg (by simp)]
   refine zwl (zlc2 s1 rfl fun ls r2 k2 x2 B2 hls s2 hc2=> ?_)
   have hc2':=hc1'.trans (hc2 PCfg _)
   refine zao (s2.rd.bad fun q hq=> ?_)
   cases q with
   | true=>
    rw [if_pos rfl]
    obtain ⟨e,rfl⟩:=hq.1 rfl
    exact .inr ⟨_,_,_,_,s2,zny hsm hc2'⟩
   | false=>
   rw [if_neg (by simp)]
   refine zyi (zoo2 s2 rfl hls fun ts r3 k3 x3 B3 hts s3 hc3=> ?_)
   have hc3':=hc2'.trans (hc3 PCfg _)
   refine zao (s3.rd.bad fun q hq=> ?_)
   cases q with
   | true=>
    rw [if_pos rfl]
    obtain ⟨e,rfl⟩:=hq.1 rfl
    exact .inr ⟨_,_,_,_,s3,zny hsm hc3'⟩
   | false=>
   rw [if_neg (by simp)]
   have num:∀ {k:Nat} {part:Int} {hi lo:Int} {r:RS} {x:S_api_Config} {c:PCfg} {B:List Nat} {kk:Hp} {Q:Int->Hp->Prop},CB h h2 rb cb b bs kk r x c B->1<=k->k<=2->zec part=rngE lo hi->
     (∀(v:Nat) r1 k1,v<65536->CB h h2 rb cb b bs k1 r1 x c B->Cn bs r (D.must (zD k) (rngE lo hi)) r1 (v:Int)->Q (v:Int) k1)->CallT Tryz.prog zcn [(.pointer (some ⟨rb,0,none⟩)),(.int .i64 part),(.int .i64 (k:Int))] (shInt .i64) Q kk:=
    fun {k part hi lo r x c B kk Q} s hk1 hk2 hp hq=>zwm (zlb2 (k:=k) s.rd hk1 hk2 fun v r1 k1 hv m a hc=>hq v r1 k1 (by
     have:256^k<=65536:=Nat.pow_le_pow_right (by omega:256>0) hk2
     omega) (s.step m a) (by rw [<-hp];exact hc))
   refine num (k:=2) s3 (by omega) (by omega) rp2 fun v4 r4 k4 hv4 s4 hc4=> ?_
   have hc4':=hc3'.trans (hc4 PCfg _)
   refine s4.num (x':={x3 with Fuel:=(v4:Int)}) (c':=⟨ls,ts,(v4:Int),0,0,0,[]⟩) (off:=2) (fun o=>by
    obtain ⟨B1,B2,B3,e,o1,o2,o3,f1,f2,f3,f4⟩:=o
    exact ⟨B1,B2,B3,e,o1,o2,o3,rfl,f2,f3,f4⟩) (by omega) rfl fun k5 s5=> ?_
   refine num (k:=1) s5 (by omega) (by omega) rp3 fun v6 r6 k6 hv6 s6 hc6=> ?_
   have hc6':=hc4'.trans (hc6 PCfg _)
   refine s6.num (x':={x3 with Fuel:=(v4:Int),Lane:=(v6:Int)}) (c':=⟨ls,ts,(v4:Int),(v6:Int),0,0,[]⟩) (off:=3) (fun o=>by
    obtain ⟨B1,B2,B3,e,o1,o2,o3,f1,f2,f3,f4⟩:=o
    exact ⟨B1,B2,B3,e,o1,o2,o3,f1,rfl,f3,f4⟩) (by omega) rfl fun k7 s7=> ?_
   refine num (k:=1) s7 (by omega) (by omega) rp4 fun v8 r8 k8 hv8 s8 hc8=> ?_
   have hc8':=hc6'.trans (hc8 PCfg _)
   refine s8.num (x':={x3 with Fuel:=(v4:Int),Lane:=(v6:Int),Locks:=(v8:Int)}) (c':=⟨ls,ts,(v4:Int),(v6:Int),(v8:Int),0,[]⟩) (off:=4) (fun o=>by
    obtain ⟨B1,B2,B3,e,o1,o2,o3,f1,f2,f3,f4⟩:=o
    exact ⟨B1,B2,B3,e,o1,o2,o3,f1,f2,rfl,f4⟩) (by omega) rfl fun k9 s9=> ?_
   refine num (k:=2) s9 (by omega) (by omega) rp5 fun v10 r10 k10 hv10 s10 hc10=> ?_
   have hc10':=hc8'.trans (hc10 PCfg _)
   refine s10.num (x':={x3 with Fuel:=(v4:Int),Lane:=(v6:Int),Locks:=(v8:Int),Log:=(v10:Int)}) (c':=⟨ls,ts,(v4:Int),(v6:Int),(v8:Int),(v10:Int),[]⟩) (off:=5) (fun o=>by
    obtain ⟨B1,B2,B3,e,o1,o2,o3,f1,f2,f3,f4⟩:=o
    exact ⟨B1,B2,B3,e,o1,o2,o3,f1,f2,f3,rfl⟩) (by omega) rfl fun k11 s11=> ?_
   refine zfd (zjk1 s11.rd fun np r12 k12 hnp m12 a12 hc12=> ?_)
   have s12:=s11.step m12 a12
   have hc12':=hc10'.trans (hc12 PCfg _)
   refine LoopW1.intro (fun n kk=>∃(i:Nat) (ps:List PProc) (r':RS) (x':S_api_Config) (B':List Nat),n=(i:Int)/\i+ps.length=np/\CB h h2 rb cb b bs kk r' x' ⟨ls,ts,(v4:Int),(v6:Int),(v8:Int),(v10:Int),ps⟩ B'/\
     stepD (.ok 0) zzs bs=stepD r' (D.bind (D.many (fun _=>procD (ls.length:Int) (v8:Int)) i ps) fun procs=>D.ret (⟨ls,ts,(v4:Int),(v6:Int),(v8:Int),(v10:Int),procs⟩:PCfg)) bs) (fun n _=>n.toNat)
    ⟨np,[],r12,_,_,rfl,by simp,s12,hc12'⟩ ?_
   rintro n kk ⟨i,ps,r',x',B',rfl,hil,s13,hcn⟩
   refine effI (fun b=>b=true↔∃e,r'=.error e) false (fun _ hk=>zao (s13.rd.bad hk)) fun q hqb=>letW ?_
   have hend:(i=0\/∃e,r'=.error e)->NilW none (some ⟨rb,0,none⟩) fun p=>LdW none (shInt .i64) kk (Addr.add p 1) fun x=>
     (if (decide (x<((b.len:Nat):Int)))=true then
     NilW none (some ⟨rb,0,none⟩) fun p1=>
     LdW none (shInt .i64) kk (Addr.add p1 1) fun x1=>
     Call0 Tryz.prog zbj [(.pointer (some ⟨rb,0,none⟩)),(.int .i64 (6:Int)),(.int .i64 x1)] (fun h20=>EndC h h2 rb cb b bs h20) kk
     else EndC h h2 rb cb b bs kk):=fun hor=>by
    obtain ⟨p,e,pl,kb,hs⟩:=s13.rd.blk
    refine zab (ld_at (sh:=shInt .i64) p (kb.ldIs (off:=1) (n:=1) rfl) ?_)
    cases r' with
    | error e0=>
     obtain ⟨er,q0⟩:=e0
     obtain ⟨rfl,hne0,rfl⟩:=hs
     have hfin:EndC h h2 rb cb b bs kk:=.inr ⟨_,_,_,_,s13,zny hsm hcn⟩
     by_cases hlt:p<((b.len:Nat):Int)
     ·rw [if_pos (decide_eq_true hlt)]
      refine zab (ld_at (sh:=shInt .i64) p (kb.ldIs (off:=1) (n:=1) rfl) (zbn (zeq1 kb fun h20 m20 k20=> ?_)))
      rw [if_neg (fun hh=>hne0 hh.2),if_neg (fun hh=>hne0 hh.2)] at k20
      refine .inr ⟨.error (e,q0),_,_,_,s13.step m20 ⟨(m20.le s13.rd.le fun c hc=>by rw [List.mem_singleton.1 hc];exact hrn).1,hrn,hB,hcap,by omega,_,_,_,k20,rfl,hne0,rfl⟩,zny hsm hcn⟩
     ·rw [if_neg (fun e=>hlt (of_decide_eq_true e))]
      exact hfin
    | ok at_=>
     obtain ⟨rfl,rfl,hat⟩:=hs
     have h0:i=0:=by
      rcases hor with h0 | ⟨e,h0⟩
      ·exact h0
      ·cases h0
     subst h0
     have hcfg:=zbf2 hsm (hcn:stepD (.ok 0) zzs bs=.ok (_,at_))
     by_cases hlt:at_<bs.length
     ·have hlt':(at_:Int)<((b.len:Nat):Int):=by omega
      rw [if_pos (decide_eq_true hlt')]
      rw [if_pos hlt] at hcfg
      refine zab (ld_at (sh:=shInt .i64) (at_:Int) (kb.ldIs (off:=1) (n:=1) rfl) (zbn (zeq1 kb fun h20 m20 k20=> ?_)))
      rw [if_pos ⟨by decide,rfl⟩,if_pos ⟨by decide,rfl⟩] at k20
      exact .inr ⟨.error (6,at_),_,_,_,s13.step m20 ⟨(m20.le s13.rd.le fun c hc=>by rw [List.mem_singleton.1 hc];exact hrn).1,hrn,hB,hcap,by omega,_,_,_,k20,rfl,by decide,rfl⟩,hcfg⟩
     ·rw [if_neg (fun e=>hlt (by have e:(at_:Int)<((b.len:Nat):Int):=of_decide_eq_true e;omega))]
      rw [if_neg hlt] at hcfg
      exact .inr ⟨_,_,_,_,s13,hcfg⟩
   by_cases hi:i=0
   ·rw [if_neg (by simp [hi])]
    exact hend (.inl hi)
   have hqb:=hqb (decide_eq_true (by omega))
   cases q with
   | true=>
    rw [if_neg (by simp)]
    exact hend (.inr (hqb.1 rfl))
   | false=>
    rw [if_pos (by simp;omega)]
    obtain ⟨j,rfl⟩:∃j,i=j+1:=⟨i-1,by omega⟩
    refine zzp (zos2 s13 hls (by show ps.length<=255;omega) fun p r14 k14 x14 B14 s14 hc14=> ?_)
    rw [wrap64 (by omega) (by omega)]
    refine ⟨⟨j,ps++ [p],r14,x14,B14,by omega,by simp;omega,s14,?_⟩,by omega⟩
    rw [hcn,zgs1,ziv,hc14]
 ·intro t2 k hE
  rcases hE with ⟨kb,hl,hcfg⟩ | ⟨r,x,c,B,s,hcfg⟩
  ·refine zao (zru1 kb ?_)
   rw [if_pos (by simp)]
   refine zab (ld_at (sh:=shInt .i64) (22:Int) (kb.ldIs (off:=2) (n:=1) rfl) (zab (ld_at (sh:=shInt .i64) (1048576:Int) (kb.ldIs (off:=3) (n:=1) rfl) ?_)))
   exact ⟨⟨kb.ldIs (off:=2) (n:=1) rfl,kb.ldIs (off:=3) (n:=1) rfl,trivial⟩,he 22 1048576 k hl hcfg (by decide)⟩
  ·obtain ⟨p,e,pl,kb,hs⟩:=s.rd.blk
   refine zao (zru1 kb ?_)
   cases r with
   | error e0=>
    obtain ⟨er,q0⟩:=e0
    obtain ⟨rfl,hne0,rfl⟩:=hs
    rw [if_pos (by simpa using hne0)]
    refine zab (ld_at (sh:=shInt .i64) e (kb.ldIs (off:=2) (n:=1) rfl) (zab (ld_at (sh:=shInt .i64) (q0:Int) (kb.ldIs (off:=3) (n:=1) rfl) ?_)))
    exact ⟨⟨kb.ldIs (off:=2) (n:=1) rfl,kb.ldIs (off:=3) (n:=1) rfl,trivial⟩,he e q0 k s.rd.le hcfg hne0⟩
   | ok at_=>
    obtain ⟨rfl,rfl,_⟩:=hs
    rw [if_neg (by simp)]
    refine ld_at (sh:=sh_api_Config) x (s.blk.ldIs (off:=0) (n:=7) rfl) ?_
    exact hok x c B k s.rd.le hcfg s.own s.nd fun b' hb'=>zbz hle (s.fresh b' hb')
theorem forA {α:Type} {len:Int} {n:Nat} (hn:len=(n:Int)) (hb:n<=4611686018427387904) (I:Nat->α->Hp->Prop) {B:(α->Int->Hp->Prop)->α->Int->Hp->Prop} {X:α->Int->Hp->Prop} {x0:α} {h0:Hp} (h00:I 0 x0 h0)
  (hs:∀i:Nat,i<n->∀x h,I i x h->∀K:α->Int->Hp->Prop,(∀x' h',I (i+1) x' h'->K x' (IntKind.wrap .i64 ((i:Int)+1)) h')->B K x (i:Int) h) (hx:∀x h,I n x h->X x (n:Int) h):
  LoopW2 (fun again x t h=>if decide (t<len)=true then B again x t h else X x t h) x0 (0:Int) h0:=by
 refine LoopW2.intro (fun x t h=>∃i:Nat,t=(i:Int)/\i<=n/\I i x h) (fun _ t _=>(len-t).toNat) ⟨0,rfl,by omega,h00⟩ ?_
 rintro x t h ⟨i,rfl,hi,hI⟩
 by_cases hlt:i<n
 ·rw [if_pos (decide_eq_true (by omega))]
  refine hs i hlt x h hI _ fun x' h' hI'=> ?_
  rw [wrap64 (by omega) (by omega)]
  exact ⟨⟨i+1,by omega,by omega,hI'⟩,by omega⟩
 ·rw [if_neg (fun e=>hlt (by have:=of_decide_eq_true e;omega))]
  have:i=n:=by omega
  subst this
  exact hx x h hI
section
variable {d h0 k:Hp} {rb:Nat} {bl:Sl} {bs:List UInt8} {r:RS} {x:S_api_Config} {B:List Nat}
end
section
variable {d h:Hp} {rb:Nat} {bl:Sl} {bs:List UInt8} {r:RS} {x:S_api_Config}
end
def st0 :S_api_State:=⟨0,⟨none,0,0⟩,⟨none,0,0⟩⟩
structure zsw2 (l:PLane):Prop where
 values:l.values.length<=140737488355328
 waiters:l.waiters.length<=140737488355328
structure StLe (s:zbi):Prop where
 parts:s.parts.length<=140737488355328
 procs:s.procs.length<=140737488355328
 log:∀x∈s.parts,x.log.length<=140737488355328/\x.owners.length<=140737488355328/\x.queues.length<=140737488355328/\∀q∈x.queues,q.length<=140737488355328
 lanes:∀x∈s.procs,x.lanes.length<=140737488355328/\∀l∈x.lanes,zsw2 l
section
variable {h:Hp} {Q:Bool->Hp->Prop}
end
theorem Blk.rows {α:Type} {h:Hp} {b:Nat} {cs:List Value} {sz:Nat} {enc:α->List Value} (k:Blk h b cs) (xs:List α) {n m:Nat} (hc:cs=xs.flatMap enc) (hn:n=xs.length) (henc:∀x,(enc x).length=sz):Rw h sz enc ⟨some ⟨b,0,none⟩,n,m⟩ xs:=by
 refine ⟨hn,by rw [zaq henc],.inr ⟨_,rfl,?_⟩⟩
 refine k.ldIs (off:=0) (n:=cs.length) ?_
 rw [List.drop_zero,List.take_length,hc]
end Lf
namespace Lf
open Go Go.ChangeShapes Go.WideShapes Go.ChangeAt Go.RowKit
def whole (W:World):Hp:=fun b=>W.heap[b]?
theorem zlf2 (W:World):Sub (whole W) W:=fun _ _ e=>e
theorem zvc1 {W W':World} {h':Hp} (hle:whole W<=h') (st:Step (whole W) h' W W'):Below W.heap.size W W':=
  ⟨st.os,st.tape,st.output,st.size,fun k hk=>by
    cases e:W.heap[k]? with
    | some o=>exact st.sub _ _ (hle _ _ e)
    | none=>simp at e;omega⟩
theorem zgu1 {H:Type} {enc:TypeId×Value->H} {P:Program} (hl:laidOutB P=true) {W W':World} {sp:Nat->Bool} (hb:Below W.heap.size W W'):∀ {ts:List TypeId} {vs:List Value} {ds:List (DataW H)} {ps:List MemPlace},
    (∀t∈ts,P.readableRec t=true/\t<P.types.size)->DataW.TrodAll enc P W 0 (fun _=>true) true ts vs ds ps->(∀x∈ps,x.block<W.heap.size)->(∀x∈ps,sp x.block=true)->DataW.TrodAll enc P W' 0 sp true ts vs ds ps
  | [],_,_,_,_,h,_,_=>by
    obtain ⟨rfl,rfl,rfl⟩:=trodAll_nil h
    exact trodAll_mk0
  | t::ts,_,_,_,hr,h,hlt,hs=>by
    obtain ⟨v,vs,d,ds,p,q,rfl,rfl,rfl,h1,h2⟩:=trodAll_cons h
    obtain ⟨hr1,hr2⟩:=hr t (List.mem_cons_self ..)
    exact ⟨p,q,WideElems.Trod_stays hl hr1 hr2 h1 (fun x hx=>hb.same (hlt x (List.mem_append_left _ hx))) (fun x hx=>hs x (List.mem_append_left _ hx)),
      zgu1 hl hb (fun t ht=>hr t (List.mem_cons_of_mem _ ht)) h2 (fun x hx=>hlt x (List.mem_append_right _ hx)) (fun x hx=>hs x (List.mem_append_right _ hx)),rfl⟩
theorem zot2 {H:Type} {enc:TypeId×Value->H} {P:Program} {f:Func} {s:ChangeSpec} {W W':World} {h':Hp} {args:Array Value} {ds gs:List (DataW H)} {before:List MemPlace} {t:TypeId} (hl:laidOutB P=true)
    (hrd:∀t∈f.params.toList,P.readableRec t=true/\t<P.types.size) (hvars:s.vars=[]) (hres:f.resultTypes= #[t]) (ht:P.underlying t=some .bool)
    (hfn:gs=[]->s.fn H (ds++gs)={results:=[.lit (.bool true)],args:=ds}) (hW:DataW.Whole enc P f.params.toList s.vars false W args.toList ds gs before) (hle:whole W<=h') (st:Step (whole W) h' W W'):
    s.post enc P f false true false false W args (.bool true) W':=by
  have hb:=zvc1 hle st
  have hlt:∀p∈before,p.block<W.heap.size:=fun p hp=>hW.lt p hp
  have hW':=hW
  obtain ⟨p,q,hA,hV,rfl,hfz,hnd⟩:=hW'
  rw [hvars] at hV
  obtain ⟨rfl,rfl⟩:=trodVars_none hV
  rw [List.append_nil] at hlt
  have hsp:=hfn rfl
  refine ⟨ds,[],p++ [],[],p,[],hW,?_,?_,?_,Below.frame hb _,fun e=>(by cases e)⟩
  · rw [hsp,hres]
    exact trodAll_mk1 (shut_bool ht true)
  · rw [hsp]
    exact zgu1 hl hb hrd hA hlt (fun x hx=>by grind)
  · rw [hsp,hvars]
    exact rfl
theorem law_lifted {H:Type} {enc:TypeId×Value->H} {C:Checked} {os:Os} {f:FuncId} {fn:Func} {s:ChangeSpec} {t:TypeId} (own:ownKnob C.prog.godebug=none) (started:os.Started) (noInit:C.prog.inits.idxOf? f=none) (hf:C.prog.funcs[f]? =some fn)
    (witness:∃(w:World) (tape:Tape) (i:Input),w.os=os/\(w.forCall tape i).Shaped C.prog/\i.vars=[]/\Input.okWide C.prog (w.forCall tape i) .any w.heap.size f i/\
      s.pre6 enc C.prog fn [] false (w.forCall tape i).memory i.args/\({}:Assume).holds C.prog (lone (Frame.enter C.prog f i.args .normal) [] (w.forCall tape i)))
    (hl:laidOutB C.prog=true) (hrd:∀t∈fn.params.toList,C.prog.readableRec t=true/\t<C.prog.types.size) (hvars:s.vars=[]) (hres:fn.resultTypes= #[t]) (ht:C.prog.underlying t=some .bool)
    (walk:∀(W:World) (base:Nat) (args:Array Value) (ds:List (DataW H)) (p:List MemPlace),(∀(j:Nat) t v,fn.params[j]? =some t->args[j]? =some v->Value.okWide C.prog W .any base t v)->DataW.TrodAll enc C.prog W 0 (fun _=>true) true fn.params.toList args.toList ds p->
      s.fn H ds={results:=[.lit (.bool true)],args:=ds}/\CallT C.prog f args.toList zae (fun r h'=>r=true/\whole W<=h') (whole W)):
    ReturnsInHanded {} C os f .any (s.pre6 enc C.prog fn [] false) (s.post enc C.prog fn false true false false):=by
  refine returnsInHanded_of_change own started noInit hf witness ?_
  intro W base args ds gs before hval hW hcnd _
  have hW':=hW
  obtain ⟨p,q,hA,hV,_,hfz,hnd⟩:=hW'
  obtain ⟨hsp,hc⟩:=walk W base args ds p hval hA
  have hc':=hc W (zlf2 W)
  simp only [Array.toArray_toList] at hc'
  refine hc'.mono fun e W' hh=> ?_
  obtain ⟨v,h',rfl,⟨x,rfl,rfl,hle⟩,hst⟩:=hh
  exact ⟨_,rfl,zot2 hl hrd hvars hres ht (fun e=>by rw [e,List.append_nil];exact hsp) hW hle hst⟩
end Lf
namespace Lf
open Go Go.Proofs Go.ChangeShapes Go.WideShapes Go.ChangeAt Go.RowKit
section
variable {H:Type} {enc:TypeId×Value->H} {W:World}
abbrev eU (x:Int):List Value:=zac ((shInt .u64).enc x)
end
end Lf
namespace Lf
open Go Go.Proofs
section
variable {c:PCfg} {t:zbi} {s:MS}
theorem zou2 (m:CfgM c):MayP c t↔MayG c t fun i y=>flC c i y.toNat=true:=by
 have key:∀(p:Nat) x y,t.procs[p]? =some x->c.procs[p]? =some y->(ProcG c t (fun (i:Nat) q=>fl c.labels (i:Int) q=true) x y↔ProcG c t (fun i y=>flC c i y.toNat=true) x y):=fun p x y _ hy=>by
  have hp:=(m.part y (List.mem_of_getElem? hy)).1
  have e:∀i:Nat,flC c i y.part.toNat=fl c.labels (i:Int) y.part:=fun i=>by
   unfold flC
   rw [show ((y.part.toNat:Nat):Int)=y.part by omega]
  unfold ProcG
  simp only [e]
 unfold MayP MayG
 constructor
 ·rintro ⟨h1,h2,h3,h4⟩
  exact ⟨h1,h2,fun p x y hx hy=>(key p x y hx hy).1 (h3 p x y hx hy),h4⟩
 ·rintro ⟨h1,h2,h3,h4⟩
  exact ⟨h1,h2,fun p x y hx hy=>(key p x y hx hy).2 (h3 p x y hx hy),h4⟩
theorem regs8 {h:Hp} {y:S_api_State} (b:StateAt h y t):∀x∈t.procs,x.regs.length=8:=fun x hx=>by
 obtain ⟨ps,_,hall⟩:=b.procs
 obtain ⟨i,hi⟩:=List.mem_iff_getElem?.1 hx
 have:∃z,ps[i]? =some z/\ProcessAt h z x:=by
  have hl:=hall.len
  have hlt:=(List.getElem?_eq_some_iff.1 hi).1
  obtain ⟨z,hz,ha⟩:=hall.get (i:=i) (List.getElem?_eq_getElem (show i<ps.length by omega))
  rw [hi] at hz
  cases hz
  exact ⟨_,List.getElem?_eq_getElem (show i<ps.length by omega),ha⟩
 obtain ⟨z,_,ha⟩:=this
 rw [<-ha.regs]
 rfl
end
section
variable {k:Hp} {x:S_api_Config} {y:S_api_State} {c:PCfg} {t:zbi}
structure Stands (k:Hp) (c:PCfg) (t:zbi) (pm:Addr) (k':Hp):Prop where
 ex:∃K tm h1,K.c=c/\MkOk h1 K/\k<=h1/\Has h1 (MachA K pm (msOf t) tm) k'/\Tied c tm (msOf t)
 good:Good c (flC c) (msOf t) No No t.tick
 parts:t.parts.length=nP c
 procs:t.procs.length=nQ c
theorem zru2 {Q:Option Addr->Int->Hp->Prop} (a:CfgAt k x c) (hu:∀l∈c.labels,InU l) (hbad:∀k',k<=k'->(cfgE c).1≠0->Q none (cfgE c).1 k')
  (hok:∀pm k',(cfgE c).1=0->k<=k'->Stands k c ((zth c).list c) pm k'->Q (some pm) 0 k'):zux Tryz.prog x Q k:=by
 unfold zux
 refine ztv1 (zfx2 a fun k1 l1=> ?_)
 by_cases he:(cfgE c).1=0
 ·rw [he,if_neg (by decide)]
  have mc:=zba2 he
  refine zfu1 (zok2 (a.mono l1) mc fun r k2 l2 hr=>⟨⟨trivial,trivial⟩,?_⟩)
  have hp:((zth c).list c).parts.length=nP c:=by show ((List.range (nP c)).map _).length=_;simp
  have hq:((zth c).list c).procs.length=nQ c:=by show ((List.range (nQ c)).map _).length=_;simp
  have l12:=Hp.le_trans l1 l2
  have g:=zkr2 mc (Good.may mc (Good.first (fl:=flC c) mc) (by show (0:Int)<=_;decide)) (regs8 hr)
  refine zjc1 (zrn2 (a.mono l12) hr hu he (zro2 mc g hp hq) fun K pm tm h1 k' e1 mk l3 o td=>hok pm k' he (Hp.le_trans l12 (Hp.le_trans l3 o.le)) ⟨⟨K,tm,h1,e1,mk,Hp.le_trans l12 l3,o,td⟩,g,hp,hq⟩)
 ·rw [if_pos (by simpa using he)]
  exact hbad k1 l1 he
end
section
variable {c:PCfg} {s:MS} {t:zbi}
theorem zrv2 {i:Nat} (hi:i<nP c):(msOf (s.list c)).part i=s.part i:=by
 show ((List.range (nP c)).map s.part).getD i part0=_
 grind
theorem zlg2 {i:Nat} (hi:i<nQ c):(msOf (s.list c)).proc i=s.proc i:=by
 show ((List.range (nQ c)).map s.proc).getD i proc0=_
 grind
theorem zgq2 :(s.list c).parts.length=nP c:=by show ((List.range (nP c)).map _).length=_;simp
theorem zgr2 :(s.list c).procs.length=nQ c:=by show ((List.range (nQ c)).map _).length=_;simp
theorem zjm1 {K:MK} {pm:Addr} {tm:Nat->Nat->Int} (e:K.c=c):MachA K pm (msOf (s.list c)) tm=MachA K pm s tm:=by
 subst e
 unfold MachA
 have e1:Asn.first (fun i=>PartA K i ((msOf (s.list K.c)).part i) (tm i)) (nP K.c)=Asn.first (fun i=>PartA K i (s.part i) (tm i)) (nP K.c):=zci fun i hi=>by rw [zrv2 hi]
 have e2:Asn.first (fun p=>ProcA K p ((msOf (s.list K.c)).proc p)) (nQ K.c)=Asn.first (fun p=>ProcA K p (s.proc p)) (nQ K.c):=zci fun i hi=>by rw [zlg2 hi]
 rw [e1,e2]
 rfl
theorem zpe1 {tm:Nat->Nat->Int} (td:Tied c tm s):Tied c tm (msOf (s.list c)):=fun i id hi=>by
 rw [td i id hi]
 unfold zhr
 by_cases h:id / 2<nQ c/\pOf c (id / 2)=i
 ·rw [if_pos h,if_pos h,zlg2 h.1]
 omega
theorem zrw2 (sa:Sane c (msOf t)) (m:CfgM c) (hp:t.parts.length=nP c) (hq:t.procs.length=nQ c):StLe t:=by
 have h1:=m.parts
 have h2:=m.procs
 refine ⟨by omega,by omega,fun x hx=> ?_,fun x hx=> ?_⟩
 ·obtain ⟨i,hi⟩:=List.mem_iff_getElem?.1 hx
  have hlt:=(List.getElem?_eq_some_iff.1 hi).1
  have e:(msOf t).part i=x:=zhm hi
  have sp:=sa.part i (by omega)
  rw [e] at sp
  have:=sp.logl
  have:=sp.ownl
  have:=sp.few.1
  exact ⟨by omega,by omega,by omega,fun q hq=>by have:=sp.few.2 q hq;omega⟩
 ·obtain ⟨i,hi⟩:=List.mem_iff_getElem?.1 hx
  have hlt:=(List.getElem?_eq_some_iff.1 hi).1
  have e:(msOf t).proc i=x:=zhm hi
  have sp:=sa.proc i (by omega)
  rw [e] at sp
  have:=sp.len
  exact ⟨by omega,fun l hl=>⟨by have:=(sp.lan l hl).values;omega,by have:=(sp.lan l hl).waiters;omega⟩⟩
end
def optA (K2:MK) (n:Option Addr) (t2:zbi) (tm2:Nat->Nat->Int):Asn:=match n with
 | none=>.fact True
 | some p=>MachA K2 p (msOf t2) tm2
structure Pair (h k:Hp) (c:PCfg) (t1 t2:zbi) (pm:Addr) (n:Option Addr):Prop where
 ex:∃K tm K2 tm2,K.c=c/\MkOk h K/\Tied c tm (msOf t1)/\(n≠none->K2.c=c/\MkOk h K2/\Tied c tm2 (msOf t2))/\Has h ((MachA K pm (msOf t1) tm).star (optA K2 n t2 tm2)) k
section
variable {h k:Hp} {c:PCfg} {t1 t2 t:zbi} {pm p2:Addr} {n:Option Addr}
theorem Pair.le (q:Pair h k c t1 t2 pm n):h<=k:=by
 obtain ⟨_,_,_,_,_,_,_,_,o⟩:=q.ex
 exact o.le
theorem Stands.pair (q:Stands k c t pm h):∃h1,k<=h1/\Pair h1 h c t t pm none:=by
 obtain ⟨K,tm,h1,e,mk,l,o,td⟩:=q.ex
 exact ⟨h1,l,⟨K,tm,K,tm,e,mk,td,fun hn=>absurd rfl hn,o.beside (Has.fact trivial (Hp.le_refl _))⟩⟩
theorem Pair.one (q:Pair h k c t1 t2 pm n):∃K tm h1,K.c=c/\MkOk h1 K/\Tied c tm (msOf t1)/\h<=h1/\Has h1 (MachA K pm (msOf t1) tm) k/\∀s' tm' k',Has h1 (MachA K pm s' tm') k'->Tied c tm' s'->Pair h k' c (s'.list c) t2 pm n:=by
 obtain ⟨K,tm,K2,tm2,e,mk,td,h2,o⟩:=q.ex
 obtain ⟨h1,l1,o1,_,put⟩:=o.fst
 refine ⟨K,tm,h1,e,mk.mono l1,td,l1,o1,fun s' tm' k' o' td'=>⟨K,tm',K2,tm2,e,mk,zpe1 td',h2,?_⟩⟩
 rw [zjm1 e]
 exact put _ _ o'
theorem Pair.two (q:Pair h k c t1 t2 pm (some p2)):∃K tm h1,K.c=c/\MkOk h1 K/\Tied c tm (msOf t2)/\h<=h1/\Has h1 (MachA K p2 (msOf t2) tm) k/\∀s' tm' k',Has h1 (MachA K p2 s' tm') k'->Tied c tm' s'->Pair h k' c t1 (s'.list c) pm (some p2):=by
 obtain ⟨K,tm,K2,tm2,e,mk,td,h2,o⟩:=q.ex
 obtain ⟨e2,mk2,td2⟩:=h2 (by simp)
 obtain ⟨h1,l1,o1,_,put⟩:=o.snd
 refine ⟨K2,tm2,h1,e2,mk2.mono l1,td2,l1,o1,fun s' tm' k' o' td'=>⟨K,tm,K2,tm',e,mk,td,fun _=>⟨e2,mk2,zpe1 td'⟩,?_⟩⟩
 unfold optA
 dsimp only
 rw [zjm1 e2]
 exact put _ _ o'
theorem Pair.base {P:Program} {g:FuncId} {args:List Value} {sh:Shape} {K0 K:sh.T->Hp->Prop} (q:Pair h k c t1 t2 pm n) (hc:CallT P g args sh (fun x h'=>h<=h'/\K0 x h') h) (hk:∀x h' k',h<=h'->K0 x h'->Pair h' k' c t1 t2 pm n->K x k'):CallT P g args sh K k:=by
 obtain ⟨K1,tm,K2,tm2,e,mk,td,h2,o⟩:=q.ex
 refine zjj1 o hc ?_
 rintro x h' k' ⟨l,h0⟩ o'
 exact hk x h' k' l h0 ⟨K1,tm,K2,tm2,e,mk.mono l,td,fun hn=>⟨(h2 hn).1,(h2 hn).2.1.mono l,(h2 hn).2.2⟩,o'⟩
theorem Pair.grow {k':Hp} (q:Pair h k c t1 t2 pm n) (l:k<=k'):Pair h k' c t1 t2 pm n:=by
 obtain ⟨K1,tm,K2,tm2,e,mk,td,h2,o⟩:=q.ex
 exact ⟨K1,tm,K2,tm2,e,mk,td,h2,o.grow l⟩
theorem Pair.alone (q:Pair h k c t1 t2 pm n):Pair h k c t1 t1 pm none:=by
 obtain ⟨K1,tm,K2,tm2,e,mk,td,h2,o⟩:=q.ex
 exact ⟨K1,tm,K1,tm,e,mk,td,fun hn=>absurd rfl hn,(Has.left o).beside (Has.fact trivial (Hp.le_refl _))⟩
theorem zlh2 {s:MS} {p v:Int}:TW (zoa c s p v).1=TW s:=by
 unfold zoa
 split
 ·rfl
 ·split
  ·exact zii rfl
  ·exact zat2 rfl
end
section
variable {h k:Hp} {c:PCfg} {t1 t2 t:zbi} {pm p2:Addr} {n:Option Addr}
def tickP (c:PCfg) (t:zbi):zbi:=(tickS c cpuD (flC c) (msOf t)).list c
def injP (c:PCfg) (t:zbi) (p v:Int):zbi:=(zoa c (msOf t) p v).1.list c
def killP (c:PCfg) (t:zbi) (p:Int):zbi:=(killS c (msOf t) p).1.list c
end
section
variable {P:Program} {h:Hp}
theorem join1 {α:Type} {v:α} {A:(α->Hp->Prop)->Prop} {B:α->Hp->Prop} (hA:∀k:α->Hp->Prop,k v h->A k) (hB:B v h):JoinW1 A B:=JoinW1.intro (fun x h'=>x=v/\h'=h) (hA _ ⟨rfl,rfl⟩) (by grind)
def zli2 (op:Int) (k:Bool->Hp->Prop) (h:Hp):List Int->Prop
 | []=>True
 | [a]=>k (op==a) h
 | a::b::r=>if (op==a)=true then k (op==a) h else zli2 op k h (b::r)
theorem zax1 {op:Int} {k:Bool->Hp->Prop}:∀l:List Int,l≠ []->k (decide (op∈l)) h->zli2 op k h l
 | [],hn,_=>absurd rfl hn
 | [a],_,hk=>by
  have:(op==a)=decide (op∈ [a]):=by rw [Bool.eq_iff_iff];simp
  show k (op==a) h
  grind
 | a::b::r,_,hk=>by
  show if (op==a)=true then k (op==a) h else zli2 op k h (b::r)
  by_cases e:op=a
  ·grind
  ·rw [if_neg (by simpa using e)]
   refine zax1 (b::r) (by simp) ?_
   grind
theorem zyf1 {op:Int} {Q:Bool->Bool->Bool->Bool->Hp->Prop} (hq:Q (zat op).1 (zat op).2.1 (zat op).2.2.1 (zat op).2.2.2 h):zge P op Q h:=by
 unfold zge
 unfold zat at hq
 by_cases h1:op=1
 ·rw [if_pos h1] at hq;rw [if_pos (by simpa using h1)];exact hq
 rw [if_neg h1] at hq;rw [if_neg (by simpa using h1)]
 refine join1 (h:=h) (v:=decide (op∈ [2,20,21,25,26])) (fun k hk=>zax1 [2,20,21,25,26] (by simp) hk) ?_
 by_cases h2:op∈ [2,20,21,25,26]
 ·rw [if_pos (decide_eq_true h2)]
  rw [if_pos (by simpa using h2)] at hq
  exact hq
 rw [if_neg (fun e=>h2 (of_decide_eq_true e))]
 rw [if_neg (by simpa using h2)] at hq
 refine join1 (h:=h) (v:=decide (op∈ [3,4,5,6,7,8,9,10,11,12,13,14])) (fun k hk=>zax1 [3,4,5,6,7,8,9,10,11,12,13,14] (by simp) hk) ?_
 by_cases h3:op∈ [3,4,5,6,7,8,9,10,11,12,13,14]
 ·rw [if_pos (decide_eq_true h3)]
  rw [if_pos (Or.inl (by simp at h3;omega))] at hq
  exact hq
 rw [if_neg (fun e=>h3 (of_decide_eq_true e))]
 refine join1 (h:=h) (v:=decide (op∈ [15,16,17,18,19,24])) (fun k hk=>zax1 [15,16,17,18,19,24] (by simp) hk) ?_
 by_cases h4:op∈ [15,16,17,18,19,24]
 ·rw [if_pos (decide_eq_true h4)]
  rw [if_pos (Or.inr (by simp at h4;omega))] at hq
  exact hq
 rw [if_neg (fun e=>h4 (of_decide_eq_true e))]
 rw [if_neg (by simp at h3 h4;omega)] at hq
 refine join1 (h:=h) (v:=decide (op∈ [22,29,30])) (fun k hk=>zax1 [22,29,30] (by simp) hk) ?_
 by_cases h5:op∈ [22,29,30]
 ·rw [if_pos (decide_eq_true h5)]
  rw [if_pos (by simpa using h5)] at hq
  exact hq
 rw [if_neg (fun e=>h5 (of_decide_eq_true e))]
 rw [if_neg (by simpa using h5)] at hq
 by_cases h6:op=23
 ·rw [if_pos h6] at hq;rw [if_pos (by simpa using h6)];exact hq
 rw [if_neg h6] at hq;rw [if_neg (by simpa using h6)]
 refine join1 (h:=h) (v:=decide (op∈ [27,28,31,32,33])) (fun k hk=>zax1 [27,28,31,32,33] (by simp) hk) ?_
 grind
theorem zsu {has:Bool} {n:Int} {Q:Int->Hp->Prop} (hq:Q (regP has n) h):zem P n has Q h:=by
 unfold zem
 unfold regP at hq
 refine letW ?_
 by_cases h1:has=false/\n≠0
 ·rw [if_pos h1] at hq;rw [if_pos (by simp [h1.1,h1.2])];exact hq
 rw [if_neg h1] at hq
 rw [if_neg (by intro e;simp at e;exact h1 e)]
 refine letW (letW ?_)
 grind
theorem zbg2 {x:S_api_Ins} {n locks:Int} {Q:Int->Int->Hp->Prop} (hq:Q (zcg (insOf x) n locks).1 (zcg (insOf x) n locks).2 h):zhf Tryz.prog x n locks Q h:=by
 obtain ⟨o,A,B,C,I⟩:=x
 have hq:Q (zcg ⟨o,A,B,C,I⟩ n locks).1 (zcg ⟨o,A,B,C,I⟩ n locks).2 h:=hq
 unfold zhf
 unfold zcg at hq
 refine letW ?_
 by_cases h1:o<0\/34<=o
 ·rw [if_pos h1] at hq;rw [if_pos (by simp;omega)];exact hq
 rw [if_neg h1] at hq;rw [if_neg (by simp;omega)]
 refine zrb (zyf1 ?_)
 dsimp only
 refine zdp (zsu ?_)
 by_cases h2:regP (zat o).1 A≠0
 ·rw [if_pos h2] at hq;rw [if_pos (by simpa using h2)];exact hq
 rw [if_neg h2] at hq;rw [if_neg (by simpa using h2)]
 refine zdp (zsu ?_)
 by_cases h3:regP (zat o).2.1 B≠0
 ·rw [if_pos h3] at hq;rw [if_pos (by simpa using h3)];exact hq
 rw [if_neg h3] at hq;rw [if_neg (by simpa using h3)]
 refine zdp (zsu ?_)
 by_cases h4:regP (zat o).2.2.1 C≠0
 ·rw [if_pos h4] at hq;rw [if_pos (by simpa using h4)];exact hq
 rw [if_neg h4] at hq;rw [if_neg (by simpa using h4)]
 refine letW ?_
 by_cases h5:(zat o).2.2.2=false/\I≠0
 ·rw [if_pos h5] at hq;rw [if_pos (by simp [h5.1,h5.2])];exact hq
 rw [if_neg h5] at hq;rw [if_neg (by intro e;simp at e;exact h5 e)]
 refine letW (letW (letW ?_))
 by_cases h6:(o=22\/o=23)/\(I<0\/n<I)
 ·rw [if_pos h6] at hq;rw [if_pos (by simp;exact h6)];exact hq
 rw [if_neg h6] at hq;rw [if_neg (by intro e;simp at e;exact h6 e)]
 refine letW (letW (letW ?_))
 grind
theorem zbh2 {x:S_api_Ins} {n locks:Int} {Q:Int->Hp->Prop} (hq:Q (zcg (insOf x) n locks).1 h):zhk Tryz.prog x n locks Q h:=by
 unfold zhk
 exact zsq (zbg2 hq)
theorem zvd1 {l:Sl} {xs:List S_api_Ins} {locks:Int} {Q:Int->Int->Hp->Prop} (r:InsS h l xs) (hq:∀at_,Q (codeP (xs.map insOf) locks).1 at_ h):zjp Tryz.prog l locks Q h:=by
 unfold zjp
 have hl:l.len=xs.length:=r.1
 unfold codeP at hq
 rw [List.length_map] at hq
 refine letW ?_
 by_cases h1:locks<0\/8<locks
 ·grind
 rw [if_neg h1] at hq;rw [if_neg (by simp;omega)]
 by_cases h2:256<xs.length
 ·grind
 rw [if_neg h2] at hq;rw [if_neg (by simp;omega)]
 refine forI (n:=xs.length) (by omega) (by omega) (fun i h'=>h'=h/\(codeR (xs.length:Int) locks ((xs.map insOf).drop i) i).1=(codeR (xs.length:Int) locks (xs.map insOf) 0).1) ⟨rfl,rfl⟩ ?_ ?_
 ·rintro i hi k ⟨rfl,he⟩ K hK
  refine Rs.get (sh:=sh_api_Ins) r (fun _=>rfl) (by omega) (by omega) (by omega) fun x hx=> ?_
  have hx:xs[i]? =some x:=hx
  have hd:(xs.map insOf).drop i=insOf x::(xs.map insOf).drop (i+1):=zpc1 (by rw [List.getElem?_map,hx];rfl)
  rw [hd,codeR] at he
  refine zss (zbh2 ?_)
  grind
 ·rintro k ⟨rfl,he⟩
  rw [List.drop_of_length_le (by simp),codeR] at he
  grind
theorem zkx {n a b:Int} {Q:Bool->Hp->Prop} (hq:Q (within n a b) h):zgc P n a b Q h:=by
 unfold zgc
 exact letW hq
end
section
variable {h:Hp}
theorem zyg1 {l:Sl} {xs:List Int} {n:Nat} {Q:Int->Hp->Prop} (r:Is h l xs) (hn:n<=8) (hq:Q (if xs=[] then 1 else if 64<xs.length then 3 else if (xs.all fun p=>within p 0 ((n:Int)-1))=false then 2 else 0) h):zgb Tryz.prog l (n:Int) Q h:=by
 unfold zgb
 have hl:l.len=xs.length:=r.1
 by_cases h1:xs=[]
 ·rw [if_pos h1] at hq;rw [if_pos (by rw [hl,h1];rfl)];exact hq
 rw [if_neg h1] at hq
 have hp:=List.length_pos_iff.2 h1
 rw [if_neg (by rw [beq_iff_eq];omega)]
 by_cases h2:64<xs.length
 ·rw [if_pos h2] at hq;rw [if_pos (decide_eq_true (by omega))];exact hq
 rw [if_neg h2] at hq
 rw [if_neg (fun e=>h2 (by have:=of_decide_eq_true e;omega))]
 rw [wrap64 (n:=(n:Int)-1) (by omega) (by omega)]
 refine forI (n:=xs.length) (by omega) (by omega) (fun i h'=>h'=h/\∀x∈xs.take i,within x 0 ((n:Int)-1)=true) ⟨rfl,fun x hx=>by simp at hx⟩ ?_ ?_
 ·rintro i hi k ⟨rfl,hall⟩ K hK
  refine Rs.get (sh:=shInt .i64) r (fun _=>rfl) (by omega) (by omega) (by omega) fun (x:Int) hx=> ?_
  have hx:xs[i]? =some x:=hx
  refine zbd (zkx ?_)
  by_cases hw:within x 0 ((n:Int)-1)=true
  ·rw [if_neg (by rw [hw];simp)]
   refine hK k ⟨rfl,fun y hy=> ?_⟩
   rw [List.take_add_one,hx] at hy
   rcases List.mem_append.1 hy with hy | hy
   ·exact hall y hy
   ·have:y=x:=by simpa using hy
    rw [this];exact hw
  ·have hw:within x 0 ((n:Int)-1)=false:=by simpa using hw
   rw [if_pos (by rw [hw];rfl)]
   rw [if_pos (List.all_eq_false.2 ⟨x,List.mem_of_getElem? hx,by rw [hw];simp⟩)] at hq
   exact hq
 grind
theorem zlj2 {P:Program} {l:Sl} {xs:List Int} {Q:Int->Int->Hp->Prop} (r:Us h l xs) (hq:Q (mayP xs).1 (mayP xs).2 h):zos P l Q h:=zaj2 (P:=P) r hq
theorem zov2 (a b c d:Bool) {i:Nat} (hi:i<4):List.get?Internal (α:=Value) [.bool a,.bool b,.bool c,.bool d] (0+(i*1))=some (.bool (([a,b,c,d]:List Bool).getD i false)):=by
 match i,hi with
 | 0,_=>rfl
 | 1,_=>rfl
 | 2,_=>rfl
 | 3,_=>rfl
theorem zyh1 {x:S_api_Config} {c:PCfg} {Q:Int->Int->Hp->Prop} (a:CfgAt h x c) (hq:∀at_,Q (cfgE c).1 at_ h):zjl Tryz.prog x Q h:=by
 unfold zjl
 have hll:x.Labels.len=c.labels.length:=a.labels.1
 unfold cfgE cfgP at hq
 refine zwq (zlj2 a.labels ?_)
 dsimp only
 by_cases h1:(mayP c.labels).1≠0
 ·grind
 rw [if_neg h1] at hq
 rw [if_neg (by simpa using h1)]
 obtain ⟨hl1,hl2,_⟩:=mayP_zero.1 (Classical.not_not.1 h1)
 rw [hll]
 refine zra (zyg1 a.table hl2 ?_)
 by_cases h2:c.table=[]
 ·grind
 rw [if_neg h2] at hq ⊢
 by_cases h3:64<c.table.length
 ·grind
 rw [if_neg h3] at hq ⊢
 by_cases h4:(c.table.all fun p=>within p 0 (c.labels.length-1))=false
 ·grind
 rw [if_neg h4] at hq ⊢
 rw [if_neg (by simp)]
 refine zbd (zkx ⟨⟨trivial,trivial,trivial,trivial⟩,zbd (zkx ⟨⟨trivial,trivial,trivial⟩,zbd (zkx ⟨⟨trivial,trivial⟩,zbd (zkx ?_)⟩)⟩)⟩)
 rw [a.fuel,a.lane,a.locks,a.log]
 refine forI (n:=4) rfl (by omega) (fun i h'=>h'=h/\(1<=i->within c.fuel 1 256=true)/\(2<=i->within c.lane 1 64=true)/\(3<=i->within c.locks 0 8=true)/\(4<=i->within c.log 0 4096=true)) ⟨rfl,fun e=>by omega,fun e=>by omega,fun e=>by omega,fun e=>by omega⟩ ?_ ?_
 ·rintro i hi k ⟨rfl,q1,q2,q3,q4⟩ K hK
  refine ⟨⟨by omega,by omega⟩,_,zov2 _ _ _ _ hi,?_⟩
  grind
 ·rintro k ⟨rfl,q1,q2,q3,q4⟩
  rw [if_neg (by grind),if_neg (by rw [q2 (by omega)];simp),if_neg (by rw [q3 (by omega)];simp),if_neg (by grind)] at hq
  obtain ⟨ps,hps,hall⟩:=a.procs
  have hlp:x.Procs.len=ps.length:=hps.1
  have hlp2:=hall.len
  by_cases h5:c.procs=[]
  ·grind
  rw [if_neg h5] at hq
  have hpp:0<c.procs.length:=List.length_pos_iff.2 h5
  rw [if_neg (by grind)]
  by_cases h6:32<c.procs.length
  ·grind
  rw [if_neg h6] at hq
  rw [if_neg (fun e=>h6 (by grind))]
  refine forI (n:=ps.length) (by omega) (by omega) (fun i k'=>k'=k/\(zrk c.labels.length c.locks (c.procs.drop i) i).1=(zrk c.labels.length c.locks c.procs 0).1) ⟨rfl,rfl⟩ ?_ ?_
  ·rintro i hi k2 ⟨rfl,he⟩ K hK
   refine Rw.fld hps (fun _=>rfl) (by omega) (sh:=shInt .i64) (fun q=>q.Part) (fun _=>rfl) (by omega) (by omega) fun q hq0=> ?_
   have hq0:ps[i]? =some q:=hq0
   obtain ⟨pp,hpp1,hq1,is,his,hmap⟩:=hall.get hq0
   rw [zpc1 hpp1,zrk] at he
   rw [wrap64 (n:=(c.labels.length:Int)-1) (by omega) (by omega)]
   refine zbd (zkx ?_)
   rw [hq1]
   by_cases h9:within pp.part 0 ((c.labels.length:Int)-1)=false
   ·rw [if_pos h9] at he
    rw [if_pos (by rw [h9];rfl)]
    rw [<-he] at hq
    exact hq _
   rw [if_neg h9] at he
   rw [if_neg (by cases hw:within pp.part 0 ((c.labels.length:Int)-1)<;>simp_all)]
   refine Rw.fld hps (fun _=>rfl) (by omega) (sh:=shSl) (fun q=>q.Code) (fun _=>rfl) (by omega) (by omega) fun q' hq'=> ?_
   have hq':ps[i]? =some q':=hq'
   rw [hq0] at hq';cases hq'
   refine zwr (zvd1 his fun at2=> ?_)
   grind
  ·rintro k2 ⟨rfl,he⟩
   rw [List.drop_of_length_le (by omega),zrk] at he
   grind
end
section
variable {c:PCfg} {s:MS} {t:zbi}
structure GT (c:PCfg) (t:zbi):Prop where
 good:Good c (flC c) (msOf t) No No t.tick
 parts:t.parts.length=nP c
 procs:t.procs.length=nQ c
theorem GT.of (m:CfgM c) (g:Good c (flC c) s No No s.tick) (ht:s.tick<=4611686018427387904):GT c (s.list c):=
 ⟨zkr2 m (Good.may m g ht) fun x hx=>by
  obtain ⟨p,hp,rfl⟩:=List.mem_map.1 hx
  exact (g.proc p (List.mem_range.1 hp)).regs,zgq2,zgr2⟩
theorem zlk2 {D:Int->Int->Int->Int} (m:CfgM c) {fl:Nat->Nat->Bool} (g:Good c fl s No No s.tick):(tickS c D fl s).tick=s.tick+1:=by
 have g1:=(g.widen (T':=s.tick+1) (by omega)).due (i:=zds c s.tick)
 obtain ⟨_,e2⟩:=Good.turns (D:=D) m (m.ownerI_lt (t:=s.tick)) c.fuel.toNat g1 rfl
 have e2:(zix c D fl (zds c s.tick) c.fuel.toNat (dueS c s (zds c s.tick))).tick=s.tick:=e2
 show (zix c D fl (zds c s.tick) c.fuel.toNat (dueS c s (zds c s.tick))).tick+1=_
 rw [e2]
theorem GT.tick (m:CfgM c) (g:GT c t) (ht:t.tick<4611686018427387904):GT c (tickP c t)/\(tickP c t).tick=t.tick+1:=by
 have e:(tickS c cpuD (flC c) (msOf t)).tick=t.tick+1:=zlk2 m g.good
 exact ⟨GT.of m (g.good.tick_ m) (by omega),e⟩
theorem GT.inj (m:CfgM c) (g:GT c t) (ht:t.tick<=4611686018427387904) {p v:Int}:GT c (injP c t p v)/\(injP c t p v).tick=t.tick:=by
 have e:(zoa c (msOf t) p v).1.tick=t.tick:=zax2
 exact ⟨GT.of m (by rw [e];exact g.good.inject) (by omega),e⟩
theorem GT.kill (m:CfgM c) (g:GT c t) (ht:t.tick<=4611686018427387904) {p:Int}:GT c (killP c t p)/\(killP c t p).tick=t.tick:=by
 have e:(killS c (msOf t) p).1.tick=t.tick:=zkm2
 exact ⟨GT.of m (by rw [e];exact g.good.kill m) (by omega),e⟩
theorem GT.le (m:CfgM c) (g:GT c t):StLe t:=zrw2 (g.good.sane m) m g.parts g.procs
theorem GT.may (m:CfgM c) (g:GT c t) (ht:t.tick<=4611686018427387904):MayP c t:=by
 have:=Good.may m g.good ht
 rw [zox1 g.parts g.procs] at this
 exact (zou2 m).2 this
theorem zow2 (m:CfgM c):GT c ((zth c).list c)/\((zth c).list c).tick=0:=⟨GT.of m (Good.first m) (by show (0:Int)<=_;decide),rfl⟩
end
section
variable {h k:Hp}
theorem zox2 {α:Type} {b:Bool} {A:(α->Hp->Prop)->Hp->Prop} {K:α->Hp->Prop} (hb:b=true) (hk:A K h):EffC (some b) A K h:=⟨fun _=>hk,fun e=>(by grind)⟩
variable {c:PCfg} {t1 t2 t:zbi} {pm:Addr} {n:Option Addr}
end
def KvA {V:Type} (m:Nat) (k:IntKind) (ev:V->Value) (kvs:List (Int×V)):Asn:=
 ⟨fun h F=>MapKv h m k ev kvs/\∀c,F c↔c=m,fun {k1 k2 F} h hs=>⟨by obtain ⟨⟨mes,ck,e1,e2⟩,e3⟩:=h;exact ⟨mes,ck,by rw [hs m ((e3 m).2 rfl)];exact e1,e2⟩,h.2⟩,
  fun {k1 F} h c hc=>by obtain ⟨⟨mes,ck,e1,e2⟩,e3⟩:=h;rw [(e3 c).1 hc,e1];simp⟩
section
variable {h0 k:Hp} {V:Type} {m:Nat} {kd:IntKind} {ev:V->Value} {kvs:List (Int×V)}
theorem Has.kv (o:Has h0 (KvA m kd ev kvs) k):MapKv k m kd ev kvs/\h0 m=none:=by
 obtain ⟨_,F,⟨a,e⟩,hf⟩:=o
 exact ⟨a,hf m ((e m).2 rfl)⟩
end
structure Drv (h k:Hp) (c:PCfg) (t:zbi) (pm pr:Addr) (x:S_run_Run) (R:Asn):Prop where
 ex:∃K tm,K.c=c/\MkOk h K/\Tied c tm (msOf t)/\Has h ((MachA K pm (msOf t) tm).star ((RecA zpg pr x).star R)) k
section
variable {h k:Hp} {c:PCfg} {t:zbi} {pm pr:Addr} {x:S_run_Run} {R:Asn}
theorem Drv.le (q:Drv h k c t pm pr x R):h<=k:=by
 obtain ⟨_,_,_,_,_,o⟩:=q.ex
 exact o.le
theorem Drv.mach (q:Drv h k c t pm pr x R):∃K tm h1,K.c=c/\MkOk h1 K/\Tied c tm (msOf t)/\h<=h1/\Has h1 (MachA K pm (msOf t) tm) k/\∀s' tm' k',Has h1 (MachA K pm s' tm') k'->Tied c tm' s'->Drv h k' c (s'.list c) pm pr x R:=by
 obtain ⟨K,tm,e,mk,td,o⟩:=q.ex
 obtain ⟨h1,l1,o1,_,put⟩:=o.fst
 refine ⟨K,tm,h1,e,mk.mono l1,td,l1,o1,fun s' tm' k' o' td'=>⟨K,tm',e,mk,zpe1 td',?_⟩⟩
 rw [zjm1 e]
 exact put _ _ o'
theorem Drv.run (q:Drv h k c t pm pr x R):∃h1,h<=h1/\Has h1 (RecA zpg pr x) k/\∀x' k',Has h1 (RecA zpg pr x') k'->Drv h k' c t pm pr x' R:=by
 obtain ⟨K,tm,e,mk,td,o⟩:=q.ex
 obtain ⟨h1,l1,o1,_,put⟩:=o.snd
 obtain ⟨h2,l2,o2,_,put2⟩:=o1.fst
 exact ⟨h2,Hp.le_trans l1 l2,o2,fun x' k' o'=>⟨K,tm,e,mk,td,put _ _ (put2 _ _ o')⟩⟩
theorem Drv.rest (q:Drv h k c t pm pr x R):∃h1,h<=h1/\Has h1 R k/\∀R' k',Has h1 R' k'->Drv h k' c t pm pr x R':=by
 obtain ⟨K,tm,e,mk,td,o⟩:=q.ex
 obtain ⟨h1,l1,o1,_,put⟩:=o.snd
 obtain ⟨h2,l2,o2,_,put2⟩:=o1.snd
 exact ⟨h2,Hp.le_trans l1 l2,o2,fun R' k' o'=>⟨K,tm,e,mk,td,put _ _ (put2 _ _ o')⟩⟩
theorem Drv.grow {k':Hp} (q:Drv h k c t pm pr x R) (l:k<=k'):Drv h k' c t pm pr x R:=by
 obtain ⟨K,tm,e,mk,td,o⟩:=q.ex
 exact ⟨K,tm,e,mk,td,o.grow l⟩
theorem Drv.beside {k':Hp} {B:Asn} (q:Drv h k c t pm pr x R) (o':Has k B k'):Drv h k' c t pm pr x (R.star B):=by
 obtain ⟨K,tm,e,mk,td,o⟩:=q.ex
 refine ⟨K,tm,e,mk,td,?_⟩
 have:=o.beside o'
 exact (this.assoc).map fun _ _=>zpn (fun _ a=>a) fun _=>ztf
theorem Drv.ofPair {k':Hp} (q:Pair h k c t t pm none) (o':Has k (RecA zpg pr x) k'):Drv h k' c t pm pr x (.fact True):=by
 obtain ⟨K,tm,K2,tm2,e,mk,td,h2,o⟩:=q.ex
 exact ⟨K,tm,e,mk,td,(Has.left o).beside (o'.beside (Has.fact trivial (Hp.le_refl _)))⟩
theorem Drv.tick {Q:Int->Hp->Prop} (q:Drv h k c t pm pr x R) (mc:CfgM c) (g:GT c t) (ht:t.tick<4611686018427387904) (hk:∀k',Drv h k' c (tickP c t) pm pr x R->Q (zds c t.tick:Int) k'):zdw Tryz.prog (some pm) Q k:=by
 obtain ⟨K,tm,h1,rfl,mk,td,l1,o1,put⟩:=q.mach
 exact zoi2 zol2 mk mc o1 g.good ht td fun tm' k' o' td'=>hk k' (put _ _ _ o' td')
theorem Drv.inj {p v:Int} {Q:Int->Hp->Prop} (q:Drv h k c t pm pr x R) (mc:CfgM c) (g:GT c t) (hk:∀k',Drv h k' c (injP c t p v) pm pr x R->Q (zoa c (msOf t) p v).2 k'):zdh Tryz.prog (some pm) p v Q k:=by
 obtain ⟨K,tm,h1,rfl,mk,td,l1,o1,put⟩:=q.mach
 exact zgg2 mk mc o1 (g.good.sane mc) fun k' o'=>hk k' (put _ tm _ o' (td.keep zlh2))
theorem Drv.kill {p:Int} {Q:Int->Hp->Prop} (q:Drv h k c t pm pr x R) (mc:CfgM c) (g:GT c t) (hk:∀k',Drv h k' c (killP c t p) pm pr x R->Q (killS c (msOf t) p).2 k'):zdv Tryz.prog (some pm) p Q k:=by
 obtain ⟨K,tm,h1,rfl,mk,td,l1,o1,put⟩:=q.mach
 exact zoh2 mk mc o1 (g.good.sane mc) td fun tm' k' o' td'=>hk k' (put _ _ _ o' td')
theorem Drv.state {Q:S_api_State->Hp->Prop} (q:Drv h k c t pm pr x R) (mc:CfgM c) (g:GT c t) (hk:∀r h' k',h<=h'->StateAt h' r t->Drv h' k' c t pm pr x R->Q r k'):zdn Tryz.prog (some pm) Q k:=by
 obtain ⟨K,tm,rfl,mk,td,o⟩:=q.ex
 obtain ⟨h1,l1,o1,_,put⟩:=o.fst
 refine zkp2 (mk.mono l1) mc o1 (g.good.sane mc) td fun r k' o2=> ?_
 rw [zox1 g.parts g.procs] at o2
 have o3:=Has.carry (put _) o2
 obtain ⟨h3,l3,o4,⟨F,⟨B,hB,_⟩,_⟩,_⟩:=o3.fst
 exact hk r h3 k' l3 hB.rd ⟨K,tm,rfl,mk.mono l3,td,o4⟩
end
def zll2 :List (Int×Leaf):=[(1,⟨.func (.func 51) #[] #[],rfl⟩),(2,⟨.func (.func 52) #[] #[],rfl⟩),(3,⟨.func (.func 53) #[] #[],rfl⟩)]
theorem zrw1 {P:Program} {k:Hp} {Q:Option Nat->Hp->Prop} (hq:∀m k',k<=k'->MapKv k' m .i64 shLeaf.enc zll2->Q (some m) k'):zhh1 P Q k:=by
 unfold zhh1
 intro b hb
 have m0:MapKv (k.set b (.map #[] 0)) b .i64 shLeaf.enc ([]:List (Int×Leaf)):=⟨[],0,zbw,rfl⟩
 have e0:k<=k.set b (.map #[] 0):=zcu hb
 refine zzr (ev:=shLeaf.enc) (v:=(⟨.func (.func 51) #[] #[],rfl⟩:Leaf)) m0 fun o1 _ m1=> ?_
 refine zzr (ev:=shLeaf.enc) (v:=(⟨.func (.func 52) #[] #[],rfl⟩:Leaf)) m1 fun o2 _ m2=> ?_
 refine zzr (ev:=shLeaf.enc) (v:=(⟨.func (.func 53) #[] #[],rfl⟩:Leaf)) m2 fun o3 _ m3=> ?_
 exact hq b _ (zez1 (zez1 (zez1 e0 hb) hb) hb) m3
def tickN (c:PCfg) (t:zbi):Nat->zbi
 | 0=>t
 | n+1=>tickP c (tickN c t n)
section
variable {h k:Hp} {c:PCfg} {t:zbi} {pm pr:Addr} {x:S_run_Run} {R:Asn}
theorem zve1 (mc:CfgM c) (g:GT c t) (ht:t.tick<4611686018427000000):∀n:Nat,n<=100000->GT c (tickN c t n)/\(tickN c t n).tick=t.tick+n
 | 0,_=>⟨g,by simp [tickN]⟩
 | n+1,hn=>by
  obtain ⟨g1,e1⟩:=zve1 mc g ht n (by omega)
  obtain ⟨g2,e2⟩:=g1.tick mc (by omega)
  exact ⟨g2,by show (tickP c (tickN c t n)).tick=_;rw [e2,e1];omega⟩
theorem zgs2 {s:S_api_Step} {Q:Int->Hp->Prop} (q:Drv h k c t pm pr x R) (mc:CfgM c) (g:GT c t) (hx:x.m=some pm) (ht:t.tick=x.ticks) (hb:0<=x.ticks/\x.ticks<=65536) (h1:1<=s.N) (h2:s.N<=65536-x.ticks)
  (hq:∀k',Drv h k' c (tickN c t s.N.toNat) pm pr ⟨some pm,x.ticks+s.N,(zds c (t.tick+(s.N-1)):Int)⟩ R->Q 0 k'):zru Tryz.prog (some pr) s Q k:=by
 unfold zru
 rw [if_neg (by simp;omega)]
 obtain ⟨hr,lr,o1,_⟩:=q.run
 refine zab (o1.ld (shf:=shInt .i64) x.ticks rfl ?_)
 rw [wrap64 (by omega) (by omega),if_neg (by simp;omega)]
 refine LoopW1.intro (fun (j:Int) k=>0<=j/\j<=s.N/\∃ow,Drv h k c (tickN c t j.toNat) pm pr ⟨some pm,x.ticks,ow⟩ R/\(0<j->ow=(zds c (t.tick+(j-1)):Int))) (fun j _=>(s.N-j).toNat) ⟨by omega,by omega,x.owner,?_,fun hn=>absurd hn (by omega)⟩ ?_
 ·have e:x=⟨some pm,x.ticks,x.owner⟩:=by rw [<-hx]
  rw [<-e]
  exact q
 rintro j k1 ⟨j0,j1,ow,q1,how⟩
 obtain ⟨gj,ej⟩:=zve1 mc g (by omega) j.toNat (by omega)
 obtain ⟨hr1,lr1,o2,put2⟩:=q1.run
 by_cases hj:j<s.N
 ·rw [if_pos (decide_eq_true hj)]
  refine zab (o2.ld (shf:=shPtr) (some pm) rfl ?_)
  refine zsk (q1.tick mc gj (by omega) fun k2 q2=> ?_)
  obtain ⟨hr2,lr2,o3,put3⟩:=q2.run
  refine zab (o3.st (x':=⟨some pm,x.ticks,(zds c (tickN c t j.toNat).tick:Int)⟩) (show 3<=3 by omega) rfl fun k3 o4=> ?_)
  rw [wrap64 (by omega) (by omega)]
  refine ⟨⟨by omega,by omega,(zds c (tickN c t j.toNat).tick:Int),?_,fun _=> ?_⟩,by omega⟩
  ·have e:(j+1).toNat=j.toNat+1:=by omega
   rw [e]
   exact put3 _ _ o4
  ·rw [ej]
   congr 2
   omega
 ·rw [if_neg (fun e=>hj (of_decide_eq_true e))]
  obtain rfl:j=s.N:=by omega
  refine zab (o2.ld (shf:=shInt .i64) x.ticks rfl (zab ?_))
  rw [wrap64 (by omega) (by omega)]
  refine o2.st (x':=⟨some pm,x.ticks+s.N,ow⟩) (show 2<=3 by omega) rfl fun k3 o4=>hq k3 ?_
  rw [<-how (by omega)]
  exact put2 _ _ o4
theorem zlm2 {Q:S_api_Answer->Hp->Prop} {e:Int} (q:Drv h k c t pm pr x R) (hq:Q ⟨e,x.ticks,x.owner⟩ k):
  NilW none (some pr) fun p=>LdW none (shInt .i64) k (Addr.add p 1) fun x=>NilW none (some pr) fun p1=>LdW none (shInt .i64) k (Addr.add p1 2) fun x1=>Q ⟨e,x,x1⟩ k:=by
 obtain ⟨hr,lr,o1,_⟩:=q.run
 exact zab (o1.ld (shf:=shInt .i64) x.ticks rfl (zab (o1.ld (shf:=shInt .i64) x.owner rfl hq)))
theorem zgt2 {s:S_api_Step} {Q:S_api_Answer->Hp->Prop} (q:Drv h k c t pm pr x R) (mc:CfgM c) (g:GT c t) (hx:x.m=some pm) (ht:t.tick=x.ticks) (hb:0<=x.ticks/\x.ticks<=65536) (hs:s.Kind=1) (h1:1<=s.N) (h2:s.N<=65536-x.ticks)
  (hq:∀a k',a=⟨0,x.ticks+s.N,(zds c (t.tick+(s.N-1)):Int)⟩->Drv h k' c (tickN c t s.N.toNat) pm pr ⟨some pm,x.ticks+s.N,(zds c (t.tick+(s.N-1)):Int)⟩ R->Q a k'):znu Tryz.prog (some pr) s Q k:=by
 unfold znu
 refine JoinW1.intro (fun e k'=>e=0/\Drv h k' c (tickN c t s.N.toNat) pm pr ⟨some pm,x.ticks+s.N,(zds c (t.tick+(s.N-1)):Int)⟩ R) ?_ ?_
 ·refine zft1 (zrw1 fun m k1 l1 mk=>⟨⟨trivial,trivial⟩,?_⟩)
  rw [hs]
  refine zar1 (z:=(⟨.nilFunc,rfl⟩:Leaf)) mk rfl (fun hn=>by cases hn) fun v hv=> ?_
  cases hv
  rw [if_pos rfl]
  exact zhq rfl (zjd1 (zgs2 (q.grow l1) mc g hx ht hb h1 h2 fun k2 q2=>⟨rfl,q2⟩))
 ·rintro e k2 ⟨rfl,q2⟩
  exact zlm2 q2 (hq _ k2 rfl q2)
theorem zbi2 {s:S_api_Step} {Q:S_api_Answer->Hp->Prop} (q:Drv h k c t pm pr x R) (mc:CfgM c) (g:GT c t) (hx:x.m=some pm) (ht:t.tick<=4611686018427387904) (hs:s.Kind≠1)
  (hq:∀a e t' k',a=⟨e,x.ticks,x.owner⟩->Drv h k' c t' pm pr x R->GT c t'->t'.tick=t.tick->(s.Kind=3->t'=killP c t s.N/\e=(killS c (msOf t) s.N).2)->Q a k'):znu Tryz.prog (some pr) s Q k:=by
 unfold znu
 refine JoinW1.intro (fun e k'=>∃t',Drv h k' c t' pm pr x R/\GT c t'/\t'.tick=t.tick/\(s.Kind=3->t'=killP c t s.N/\e=(killS c (msOf t) s.N).2)) ?_ ?_
 ·refine zft1 (zrw1 fun m k1 l1 mk=>⟨⟨trivial,trivial⟩,?_⟩)
  have q1:=q.grow l1
  obtain ⟨hr,lr,o1,_⟩:=q1.run
  refine zar1 (z:=(⟨.nilFunc,rfl⟩:Leaf)) mk rfl (fun hn=> ?_) fun v hv=> ?_
  ·rw [if_neg (by decide)]
   refine ⟨t,q1,g,rfl,fun h3=> ?_⟩
   rw [h3] at hn
   cases hn
  ·rw [if_pos rfl]
   by_cases h2:s.Kind=2
   ·rw [h2] at hv
    cases hv
    refine zhq rfl (zeh1 ?_)
    unfold zxa
    refine zab (o1.ld (shf:=shPtr) (some pm) (by rw [<-hx];rfl) ?_)
    refine zqk (q1.inj mc g fun k2 q2=> ?_)
    obtain ⟨g2,e2⟩:=g.inj mc ht (p:=s.N) (v:=s.V)
    exact ⟨_,q2,g2,e2,fun h3=>by omega⟩
   ·by_cases h3:s.Kind=3
    ·rw [h3] at hv
     cases hv
     refine zhq rfl (zje1 ?_)
     unfold zci1
     refine zab (o1.ld (shf:=shPtr) (some pm) (by rw [<-hx];rfl) ?_)
     refine zsj (q1.kill mc g fun k2 q2=> ?_)
     obtain ⟨g2,e2⟩:=g.kill mc ht (p:=s.N)
     exact ⟨_,q2,g2,e2,fun _=>⟨rfl,rfl⟩⟩
    ·exfalso
     rw [show kget s.Kind zll2=none by simp only [zll2,kget];rw [if_neg hs,if_neg h2,if_neg h3]] at hv
     cases hv
 ·rintro e k2 ⟨t',q2,g2,e2,h3⟩
  exact zlm2 q2 (hq _ e t' k2 rfl q2 g2 e2 h3)
end
theorem zgu2 {c:PCfg} (ok:(cfgE c).1=0):(1<=c.labels.length/\c.labels.length<=8)/\(0<=c.locks/\c.locks<=8)/\(0<=c.log/\c.log<=4096)/\(1<=c.lane/\c.lane<=64)/\(1<=c.procs.length/\c.procs.length<=32)/\
  ∀p∈c.procs,(0<=p.part/\p.part<=c.labels.length-1)/\p.code.length<=256/\∀x∈p.code,(zcg x p.code.length c.locks).1=0:=by
 obtain ⟨e1,e2,e3,e4,e5,e6,e7,e8,e9,e10,e11⟩:=cfgP_zero.1 ok
 obtain ⟨l1,l2,l3⟩:=mayP_zero.1 e1
 have:=List.length_pos_iff.2 l1
 have:=List.length_pos_iff.2 e9
 refine ⟨⟨by omega,by omega⟩,e7,e8,e6,⟨by omega,e10⟩,fun p hp=>⟨(e11 p hp).1,(zrj1 e7).1 (e11 p hp).2⟩⟩
section
variable {h:Hp} {b:Nat} {x:S_api_Config} {y:S_api_State} {c:PCfg} {s:zbi}
end
theorem zeb2 {h0 h:Hp} {l0:Sl} {bs:List UInt8} {n:Nat} {len:Int} {es:List (List UInt8)} {B:(Sl->Int->Hp->Prop)->Sl->Int->Hp->Prop} {X:Sl->Int->Hp->Prop} (hn:len=(n:Int)) (hle:h0<=h) (o:OwnB h0 h l0 bs) (hes:es.length=n) (hnb:n<=4611686018427387904) (hb:bs.length+es.flatten.length<=2000000)
  (hs:∀(i:Nat) e,es[i]? =some e->∀l bs' h',h0<=h'->OwnB h0 h' l bs'->bs'.length+e.length<=2000000->∀K:Sl->Int->Hp->Prop,(∀l2 h2,h0<=h2->OwnB h0 h2 l2 (bs'++e)->K l2 (IntKind.wrap .i64 ((i:Int)+1)) h2)->B K l (i:Int) h')
  (hx:∀l h',h0<=h'->OwnB h0 h' l (bs++es.flatten)->X l (n:Int) h'):
  LoopW2 (fun again x t h=>if decide (t<len)=true then B again x t h else X x t h) l0 (0:Int) h:=by
 refine forA hn hnb (fun i l h'=>h0<=h'/\OwnB h0 h' l (bs++(es.take i).flatten)) ⟨hle,by simpa using o⟩ ?_ ?_
 ·rintro i hi l h' ⟨hle',o'⟩ K hK
  have he:=List.getElem?_eq_getElem (show i<es.length by omega)
  obtain ⟨s1,s2⟩:=zrs2 (bs:=bs) he
  refine hs i _ he l _ h' hle' o' (by omega) K fun l2 h2 hle2 o2=>hK l2 h2 ⟨hle2,?_⟩
  rw [<-s1];exact o2
 ·rintro l h' ⟨hle',o'⟩
  rw [List.take_of_length_le (by omega)] at o'
  exact hx l h' hle' o'
theorem zgv1 {n:Int}: [Value.int .u8 (IntKind.wrap .u8 n)]=(leB n 1).map fun b=>Value.int .u8 (b.toNat:Int):=by simp [leB,wrap8]
section
variable {h0 h:Hp} {l:Sl} {bs:List UInt8} {Q:Sl->Hp->Prop}
theorem zrp {P:Program} {n m:Int} {k:Nat} (hm:m=(k:Int)) (hk8:k<=8) (hle:h0<=h) (o:OwnB h0 h l bs) (hb:bs.length<=2000000) (hk:∀l' h',h0<=h'->OwnB h0 h' l' (bs++leB n k)->Q l' h'):zfx P l n m Q h:=by
 unfold zfx
 exact zjg2 hm hk8 hle o (by omega) hk
theorem zln2 {P:Program} {x:S_api_Ins} (hle:h0<=h) (o:OwnB h0 h l bs) (hb:bs.length<=2000000) (hk:∀l' h',h0<=h'->OwnB h0 h' l' (bs++insB (insOf x))->Q l' h'):zjm P l x Q h:=by
 unfold zjm
 refine zqq hle o (leB x.Op 1++(leB x.A 1++(leB x.B 1++leB x.C 1))) (by simp [leB,wrap8]) rfl (by simp only [List.length_append,zdb];omega) fun l1 h1 le1 o1 _=> ?_
 refine zjg2 (k:=8) rfl (by omega) le1 o1 (by simp only [List.length_append,zdb];omega) fun l2 h2 le2 o2=>hk l2 h2 le2 ?_
 rw [zlg1 (by omega)] at o2
 simpa [insB,insOf,List.append_assoc] using o2
theorem zyi1 {c:S_api_Config} {p:PCfg} {Q:Sl->Int->Hp->Prop} (a:CfgAt h c p) (hlen:(cfgE p).1=0->(cfgB p).length<=1048576) (h0':(cfgE p).1≠0->Q ⟨none,0,0⟩ (cfgE p).1 h)
  (h1:(cfgE p).1=0->∀out h',h<=h'->OwnB h h' out (cfgB p)->Q out 0 h'):zfw Tryz.prog c Q h:=by
 unfold zfw
 refine zwn (zyh1 a fun _=> ?_)
 by_cases he:(cfgE p).1≠0
 ·rw [if_pos (by simpa using he)]
  exact h0' he
 rw [if_neg (by simpa using he)]
 have he:=Classical.not_not.1 he
 have hlen:=hlen he
 obtain ⟨ps,hps,hall⟩:=a.procs
 have hll:c.Labels.len=p.labels.length:=a.labels.1
 have hlt:c.Table.len=p.table.length:=a.table.1
 have hlp:c.Procs.len=ps.length:=hps.1
 have hlp2:=hall.len
 have g1:(p.labels.map fun v=>leB v 8).flatten.length=8*p.labels.length:=zuz1 _ fun _=>zdb _ _
 have g2:(p.table.map fun v=>leB v 1).flatten.length=1*p.table.length:=zuz1 _ fun _=>zdb _ _
 have hL:(cfgB p).length=14+(p.labels.map fun v=>leB v 8).flatten.length+(p.table.map fun v=>leB v 1).flatten.length+(p.procs.map procB).flatten.length:=by
  simp only [cfgB,List.length_append,zdb,List.flatMap_def,List.length_cons,List.length_nil]
  omega
 obtain ⟨-, -, -, -,⟨hP1,hP32⟩, -⟩:=zgu2 he
 refine zgy1 (h0:=h) (xs:=[70,66,67,70,1]++leB (c.Labels.len:Int) 1) (enc:=eB) (sz:=1) (Hp.le_refl h) (by simp [leB,wrap8,eB]) zda2 fun a1 k1 le1 o1=> ?_
 refine zeb2 (n:=p.labels.length) (es:=p.labels.map fun v=>leB v 8) (by omega) le1 o1 (by simp) (by omega) (by simp only [List.length_append,zdb,List.length_cons,List.length_nil];omega) ?_ fun b1 k2 le2 o2=> ?_
 ·intro i e hi l' bs' h' le' o' hb' K hK
  rw [List.getElem?_map] at hi
  cases hv:p.labels[i]? with
  | none=>rw [hv] at hi;cases hi
  | some v=>
   rw [hv] at hi;cases hi
   have hil:=(List.getElem?_eq_some_iff.1 hv).1
   refine Rs.get (sh:=shInt .u64) (Rw.mono le' a.labels) (fun _=>rfl) (by omega) (by omega) (by omega) fun (x:Int) hx=> ?_
   have hx:p.labels[i]? =some x:=hx
   rw [hv] at hx;cases hx
   exact zcq (zrp (k:=8) rfl (by omega) le' o' (by omega) hK)
 refine zqq le2 o2 (leB (c.Table.len:Int) 1) zgv1 rfl (by simp only [List.length_append,zdb,List.length_cons,List.length_nil];omega) fun b3 k3 le3 o3 _=> ?_
 refine zeb2 (n:=p.table.length) (es:=p.table.map fun v=>leB v 1) (by omega) le3 o3 (by simp) (by omega) (by simp only [List.length_append,zdb,List.length_cons,List.length_nil];omega) ?_ fun b4 k4 le4 o4=> ?_
 ·intro i e hi l' bs' h' le' o' hb' K hK
  rw [List.getElem?_map] at hi
  cases hv:p.table[i]? with
  | none=>rw [hv] at hi;cases hi
  | some v=>
   rw [hv] at hi;cases hi
   have hil:=(List.getElem?_eq_some_iff.1 hv).1
   refine Rs.get (sh:=shInt .i64) (Rw.mono le' a.table) (fun _=>rfl) (by omega) (by omega) (by omega) fun (x:Int) hx=> ?_
   have hx:p.table[i]? =some x:=hx
   rw [hv] at hx;cases hx
   exact zqq le' o' (leB v 1) zgv1 rfl (by simp only [zdb] at hb' ⊢;omega) fun l2 h2 hle2 o2 _=>hK l2 h2 hle2 o2
 refine zcq (zrp (k:=2) rfl (by omega) le4 o4 (by simp only [List.length_append,zdb,List.length_cons,List.length_nil];omega) fun b5 k5 le5 o5=> ?_)
 rw [zlg1 (by omega)] at o5
 refine zqq le5 o5 (leB c.Lane 1++leB c.Locks 1) (by simp [leB,wrap8]) rfl (by simp only [List.length_append,zdb,List.length_cons,List.length_nil];omega) fun b6 k6 le6 o6 _=> ?_
 refine zcq (zrp (k:=2) rfl (by omega) le6 o6 (by simp only [List.length_append,zdb,List.length_cons,List.length_nil];omega) fun b7 k7 le7 o7=> ?_)
 rw [zlg1 (by omega)] at o7
 refine zqq le7 o7 (leB (c.Procs.len:Int) 1) zgv1 rfl (by simp only [List.length_append,zdb,List.length_cons,List.length_nil];omega) fun b8 k8 le8 o8 _=> ?_
 refine zeb2 (n:=ps.length) (es:=p.procs.map procB) (by omega) le8 o8 (by rw [List.length_map,hlp2]) (by omega) (by simp only [List.length_append,zdb,List.length_cons,List.length_nil];omega) ?_ fun b9 k9 le9 o9=> ?_
 ·intro i e hi l' bs' h' le' o' hb' K hK
  rw [List.getElem?_map] at hi
  cases hv:p.procs[i]? with
  | none=>rw [hv] at hi;cases hi
  | some v=>
   rw [hv] at hi;cases hi
   obtain ⟨q,hq,hq1,is,his,hmap⟩:=hall.get' hv
   have hil:=(List.getElem?_eq_some_iff.1 hq).1
   have hcl:q.Code.len=is.length:=his.1
   have hml:is.length=v.code.length:=by rw [<-hmap,List.length_map]
   have hcb:(v.code.map insB).flatten.length=12*v.code.length:=zuz1 _ fun _=>by simp [insB,zdb]
   have hpl:(procB v).length=3+(v.code.map insB).flatten.length:=by
    simp only [procB,codeB,List.length_append,zdb,List.flatMap_def]
    omega
   refine Rs.get (sh:=sh_api_Proc) (Rw.mono le' hps) (fun _=>rfl) (by omega) (by omega) (by omega) fun x hx=> ?_
   have hx:ps[i]? =some x:=hx
   rw [hq] at hx;cases hx
   refine zqq le' o' (leB q.Part 1) zgv1 rfl (by rw [zdb];omega) fun l2 h2 hle2 o2 _=> ?_
   refine zcq (zrp (k:=2) rfl (by omega) hle2 o2 (by simp only [List.length_append,zdb];omega) fun l3 h3 hle3 o3=> ?_)
   rw [zlg1 (by omega)] at o3
   refine zeb2 (n:=is.length) (es:=v.code.map insB) (by omega) hle3 o3 (by rw [List.length_map,hml]) (by omega) (by simp only [List.length_append,zdb];omega) ?_ fun l4 h4 hle4 o4=> ?_
   ·intro j e hj l' bs' h' le' o' hb' K hK
    rw [List.getElem?_map] at hj
    cases hv':v.code[j]? with
    | none=>rw [hv'] at hj;cases hj
    | some u=>
     rw [hv'] at hj;cases hj
     rw [<-hmap,List.getElem?_map] at hv'
     cases hw:is[j]? with
     | none=>rw [hw] at hv';cases hv'
     | some w=>
      rw [hw] at hv';cases hv'
      have hjl:=(List.getElem?_eq_some_iff.1 hw).1
      refine Rs.get (sh:=sh_api_Ins) (Rw.mono le' his) (fun _=>rfl) (by omega) (by omega) (by omega) fun x hx=> ?_
      have hx:is[j]? =some x:=hx
      rw [hw] at hx;cases hx
      exact zwo (zln2 le' o' (by omega) hK)
   ·refine hK l4 h4 hle4 ?_
    have e:procB v=leB q.Part 1++(leB (q.Code.len:Int) 2++(v.code.map insB).flatten):=by rw [hq1,hcl,hml];simp [procB,codeB,List.flatMap_def]
    rw [e]
    simpa [List.append_assoc] using o4
 ·refine h1 he b9 k9 le9 ?_
  rw [hll,hlt,a.fuel,a.lane,a.locks,a.log,hlp,hlp2] at o9
  simpa [cfgB,List.append_assoc,List.flatMap_def] using o9
end
section
variable {h k:Hp}
theorem zgv2 {raw:Sl} {bs:List UInt8} {Q:Option Addr->Int->Int->Hp->Prop} (hB:Bs k raw bs) (hcap:raw.len<=raw.cap) (hgood:∀c,zhp bs=.ok c->(cfgE c).1=0/\∀l∈c.labels,InU l)
  (hbad:∀e p h',k<=h'->zhp bs=.error (e,p)->e≠0->Q none e (p:Int) h')
  (hok:∀c pm pr hb k',zhp bs=.ok c->k<=hb->Drv hb k' c ((zth c).list c) pm pr ⟨some pm,0, -1⟩ (.fact True)->Q (some pr) 0 0 k'):zhg1 Tryz.prog raw Q k:=by
 unfold zhg1
 refine zkv1 (zvb1 hB hcap (fun e p h' l he hne=> ?_) fun x c B h1 l1 hc o nd fr=> ?_)
 ·rw [if_pos (by simpa using hne)]
  exact hbad e p h' l he hne
 rw [if_neg (by decide)]
 obtain ⟨he,hu⟩:=hgood c hc
 refine zkw1 (zru2 o.rd hu (fun k' _ hne=>absurd he hne) fun pm k2 _ l2 st=> ?_)
 rw [if_neg (by decide)]
 obtain ⟨hb0,lb0,q0⟩:=st.pair
 refine zjr1 (sh:=zpg) (⟨some pm,0, -1⟩:S_run_Run) rfl fun p k3 l3 o3=> ?_
 exact hok c pm p hb0 k3 hc (Hp.le_trans l1 lb0) (Drv.ofPair q0 o3)
def exR :PCfg:=⟨[0,1],[1,0,1],2,1,0,4,[⟨0,[⟨22,0,0,0,0⟩]⟩,⟨1,[]⟩]⟩
def exR0 :zbi:=(zth exR).list exR
def exR2 :zbi:=tickN exR exR0 2
def exR3 :zbi:=killP exR exR2 9
theorem zlo2 :exR0.tick=0:=by kernel_rfl
theorem zlp2 :exR3.procs.length=2:=by kernel_rfl
theorem zoy2 :exR3.tick=2:=by kernel_rfl
theorem zlq2 :(cfgE exR).1=0:=by kernel_rfl
theorem zrx2 :(cfgB exR).length=51:=by kernel_rfl
theorem zvf1 :zhp (cfgB exR)=.ok exR:=by kernel_rfl
theorem zlr2 :(exR3.procs[1]?).map (·.state)=some 5:=by kernel_rfl
theorem zoz2 :(killS exR (msOf exR2) 9).2=17:=by kernel_rfl
theorem zsx2 :∀l∈exR.labels,InU l:=fun l hl=>by
 simp [exR] at hl
 omega
theorem zyj1 {Q:Sl->Bool->Hp->Prop} (hq:∀out k',k<=k'->Bs k' out (cfgB exR)->out.len<=out.cap->Q out true k'):zfb Tryz.prog Q k:=by
 unfold zfb
 refine newSl (enc:=fun x:Int=>zac ((shInt .u64).enc x)) (sz:=1) (xs:=[0,1]) rfl (fun _=>rfl) fun a1 k1 l1 o1=> ?_
 refine newSl (enc:=fun x:Int=>zac ((shInt .i64).enc x)) (sz:=1) (xs:=[1,0,1]) rfl (fun _=>rfl) fun a2 k2 l2 o2=> ?_
 refine newSl (enc:=fun x=>zac (sh_api_Ins.enc x)) (sz:=5) (xs:=[⟨22,0,0,0,0⟩]) rfl (fun _=>rfl) fun a3 k3 l3 o3=> ?_
 refine newSl (enc:=fun x=>zac (sh_api_Proc.enc x)) (sz:=2) (xs:=[⟨0,⟨some a3,1,1⟩⟩,⟨1,⟨none,0,0⟩⟩]) rfl (fun _=>rfl) fun a4 k4 l4 o4=> ?_
 have r3:=Rw.mono l4 (o3.srw fun _=>rfl)
 have ca:CfgAt k4 ⟨⟨some a1,2,2⟩,⟨some a2,3,3⟩,2,1,0,4,⟨some a4,2,2⟩⟩ exR:=
  ⟨Rw.mono (Hp.le_trans l2 (Hp.le_trans l3 l4)) (o1.srw fun _=>rfl),Rw.mono (Hp.le_trans l3 l4) (o2.srw fun _=>rfl),rfl,rfl,rfl,rfl,_,o4.srw fun _=>rfl,⟨rfl,_,r3,rfl⟩,⟨rfl,[],Rw.nil rfl,rfl⟩,trivial⟩
 refine zqx (zyi1 ca (fun _=>by rw [zrx2];decide) (fun hn=>absurd zlq2 hn) fun _ out k5 l5 o5=> ?_)
 exact hq ⟨out.base,out.len,out.cap⟩ k5 (Hp.le_trans l1 (Hp.le_trans l2 (Hp.le_trans l3 (Hp.le_trans l4 l5)))) (o5.rw fun _=>rfl) o5.2.1
theorem zrx1 {P:Program} {x y:Operand} {e n o:Int} (hP:P=Tryz.prog):SemIs P (binS .eql 43 x y (.agg #[.int .i64 e,.int .i64 n,.int .i64 o]) (.agg #[.int .i64 e,.int .i64 n,.int .i64 o])) h (.bool true):=by
 subst hP
 have key:=zxh1 (P:=Tryz.prog) (x:=x) (y:=y) (h:=h) (xs:= #[.int .i64 e,.int .i64 n,.int .i64 o]) (ys:= #[.int .i64 e,.int .i64 n,.int .i64 o])
  [(⟨ "E",36,0,false, "", "",0⟩,.i64,e,e),(⟨ "Tick",2,1,false, "", "",8⟩,.i64,n,n),(⟨ "Owner",3,2,false, "", "",16⟩,.i64,o,o)]
  (tb_ok.und 43 ty43 rfl) (by kernel_rfl) (by kernel_rfl) fun q hq=>by
   simp only [List.mem_cons,List.not_mem_nil,or_false] at hq
   rcases hq with rfl | rfl | rfl
   ·exact ⟨by simp,tb_ok.und 36 ty36 rfl,rfl,rfl⟩
   ·exact ⟨by simp,tb_ok.und 2 ty2 rfl,rfl,rfl⟩
   ·exact ⟨by simp,tb_ok.und 3 ty3 rfl,rfl,rfl⟩
 simp only [List.all_cons,List.all_nil,beq_self_eq_true,Bool.and_true] at key
 exact key
theorem zgw2 {Q:Bool->Hp->Prop} (hq:∀h',k<=h'->Q true h'):zhc Tryz.prog Q k:=by
 unfold zhc
 have mc:=zba2 zlq2
 refine zqj (zyj1 fun out k1 l1 hb hcap=> ?_)
 refine ztu1 (zgv2 hb hcap (fun c hc=> ?_) (fun e p h' _ hc _=> ?_) fun c pm pr hb0 k2 hc l2 q=> ?_)
 ·rw [zvf1] at hc
  cases hc
  exact ⟨zlq2,zsx2⟩
 ·rw [zvf1] at hc
  cases hc
 rw [zvf1] at hc
 cases hc
 refine letW (letW (letW ?_))
 rw [if_neg (by simp)]
 have g0:GT exR exR0:=(zow2 mc).1
 have e0:=zlo2
 have q:Drv hb0 k2 exR exR0 pm pr ⟨some pm,0, -1⟩ (.fact True):=q
 obtain ⟨t0,ht0⟩:∃t,t=exR0:=⟨_,rfl⟩
 rw [<-ht0] at g0 e0 q
 obtain ⟨g2,e2⟩:=zve1 mc g0 (by omega) 2 (by omega)
 obtain ⟨t2,ht2⟩:∃t,t=tickN exR t0 2:=⟨_,rfl⟩
 rw [<-ht2] at g2 e2
 obtain ⟨ow,how⟩:∃ow:Int,ow=(zds exR (t0.tick+(2-1)):Int):=⟨_,rfl⟩
 have ho:ow=0:=by rw [how,e0];kernel_rfl
 refine zzo (s:=⟨1,2,0⟩) (zgt2 (x:=⟨some pm,0, -1⟩) q mc g0 rfl e0 (show (0:Int)<=0/\(0:Int)<=65536 by omega) rfl (show (1:Int)<=2 by omega) (show (2:Int)<=65536-0 by omega) fun a k3 ha q3=> ?_)
 have ha:a=⟨0,2,ow⟩:=by rw [how];exact ha
 have q3:Drv hb0 k3 exR t2 pm pr ⟨some pm,2,ow⟩ (.fact True):=by rw [how,ht2];exact q3
 rw [ho] at q3 ha
 subst ha
 obtain ⟨t3,ht3⟩:∃t,t=killP exR t2 9:=⟨_,rfl⟩
 obtain ⟨e9,he9⟩:∃e:Int,e=(killS exR (msOf t2) 9).2:=⟨_,rfl⟩
 refine zzo (s:=⟨3,9,0⟩) (zbi2 (x:=⟨some pm,2,0⟩) q3 mc g2 rfl (by omega) (show (3:Int)≠1 by omega) fun a e t' k4 ha q4 g4 e4 hk=> ?_)
 obtain ⟨ht',he⟩:=hk rfl
 have he:e=e9:=by rw [he9];exact he
 have ht':t'=t3:=by rw [ht3];exact ht'
 subst he ht'
 have h17:e=17:=by rw [he9,ht2,ht0];exact zoz2
 have h3:t'=exR3:=by rw [ht3,ht2,ht0];rfl
 subst h17 ha
 refine zfs1 ?_
 unfold zzd
 obtain ⟨hr,lr,o1,_⟩:=q4.run
 refine zab (o1.ld (shf:=shPtr) (some pm) rfl ?_)
 refine zqw (q4.state mc g4 fun r7 hb1 k5 l5 hr7 q5=> ?_)
 obtain ⟨qs,hqs,hqa⟩:=hr7.procs
 have f1:=hqa.len
 have f2:r7.Procs.len=qs.length:=hqs.1
 have f3:t'.procs.length=2:=by rw [h3];exact zlp2
 have f4:=hr7.tick
 have f5:t'.tick=2:=by rw [h3];exact zoy2
 have lk:=q5.le
 refine ⟨true,zrx1 rfl,⟨true,fun _=>zrx1 rfl,letW (letW (letW ?_))⟩⟩
 rw [show (((true&&true)&&(r7.Tick==2))&&(((r7.Procs.len:Nat):Int)==2))=true by
  rw [f4,f5,f2,f1,f3]
  rfl]
 refine Rw.fldC (Rw.mono lk hqs) (fun _=>rfl) (by decide) (sh:=shInt .i64) (fun q:S_api_Process=>q.State) (j:=0) (fun _=>rfl) (0:Int) (fun _=>by omega) fun y hy=> ?_
 obtain ⟨w,hw,rfl⟩:=hy rfl
 have hst:w.State=5:=by
  obtain ⟨p,hp,ha⟩:=hqa.get hw
  have:=zlr2
  rw [<-h3,show t'.procs[1]? =some p from hp] at this
  rw [ha.state]
  grind
 refine letW ?_
 rw [hst]
 exact hq k5 (Hp.le_trans l1 (Hp.le_trans l2 (Hp.le_trans l5 lk)))
theorem runNames_ok {Q:Bool->Hp->Prop} (hq:∀h',k<=h'->Q true h'):zel Tryz.prog Q k:=by
 unfold zel
 exact zox2 rfl (zsi (zgw2 fun h1 l1=>letW (hq h1 l1)))
end
end Lf
