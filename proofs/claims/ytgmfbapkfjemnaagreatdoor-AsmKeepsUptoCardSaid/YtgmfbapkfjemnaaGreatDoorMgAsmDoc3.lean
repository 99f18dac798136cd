/-
  Part 4 of the texts that the claim leans on.
-/
import GoSem.PinnedTables
import Derived.Laws.IdiomStrings
import Derived.Test.YtgmfbapkfjemnaaGreatDoorMgAsmDoc2
set_option maxRecDepth 100000
namespace Lf
open Go
def cutH (k:Hp) (R:List Nat):Hp:=fun b=>if b∈R then none else k b
theorem znz2 {k:Hp} {R:List Nat}:cutH k R<=k:=fun b o e=>by
  unfold cutH at e
  grind
theorem zal2 {k:Hp} {R:List Nat} {b:Nat} (h:b∈R):cutH k R b=none:=by
  unfold cutH
  rw [if_pos h]
theorem zam2 {k:Hp} {R:List Nat} {b:Nat} (h:b∉R):cutH k R b=k b:=by
  unfold cutH
  rw [if_neg h]
theorem zoa2 {d k:Hp} {R:List Nat} (hl:d<=k) (hn:∀b∈R,d b=none):d<=cutH k R:=fun b o e=>by
  rw [zam2 fun hb=>by grind]
  exact hl b o e
theorem zog1 {h h':Hp} {a:Addr} (e:h' a.block=h a.block):hcell h' a=hcell h a:=by
  unfold hcell
  rw [e]
theorem zhy1 (a:Addr) (n:Nat):(a.add n).block=a.block:=by
  unfold Addr.add
  split<;>rfl
theorem ztl1 {h h':Hp} {a:Addr} {cs:List Value} (l:LdIs h a cs) (e:h' a.block=h a.block):LdIs h' a cs:=fun i v hv=>by
  have:hcell h' (a.add i)=hcell h (a.add i):=zog1 (a:=a.add i) (by rw [zhy1];exact e)
  rw [this]
  exact l i v hv
section
variable {α:Type} {h h':Hp} {sz:Nat} {enc:α->List Value} {l:Sl} {xs:List α} {F:List Nat}
theorem Rw.same (r:Rw h sz enc l xs) (e:∀a,l.base=some a->h' a.block=h a.block):Rw h' sz enc l xs:=by
  obtain ⟨h1,h2,h3⟩:=r
  refine ⟨h1,h2,h3.imp id ?_⟩
  rintro ⟨a,ha,hl⟩
  exact ⟨a,ha,ztl1 hl (e a ha)⟩
theorem Rw.nil {l:Sl} (hl:l.len=0):Rw h sz enc l ([]:List α):=⟨hl,(by simp),.inl (by simp)⟩
theorem OwnF.cut {R:List Nat} (o:OwnF h sz enc l xs F) (hd:∀b∈F,b∉R):OwnF (cutH h R) sz enc l xs F:=o.same fun b hb=>zam2 (hd b hb)
theorem OwnF.head (o:OwnF h sz enc l xs F) (henc:∀x,(enc x).length=sz) {n:Nat} (hn:n<=xs.length):OwnF h sz enc ⟨l.base,n,l.cap⟩ (xs.take n) F:=by
  obtain ⟨h1,h2,h3⟩:=o
  refine ⟨by simp;omega,by grind,h3.imp id ?_⟩
  rintro ⟨b,cs,e1,e2,e3,e4,e5⟩
  refine ⟨b,cs,e1,e2,e3,e4,?_⟩
  show cs.take (n*sz)=_
  rw [zgb1 henc,<-e5,List.take_take,h1,Nat.min_eq_left (Nat.mul_le_mul_right sz hn)]
theorem OwnF.base (o:OwnF h sz enc l xs F) {a:Addr} (ha:l.base=some a):F=[a.block]:=by
  obtain ⟨_,_,h3⟩:=o
  grind
end
theorem zfj1 {h:Hp} {a:Addr} {v:Value} (e:hcell h a=some v):∃o,h a.block=some o:=by
  unfold hcell at e
  grind
theorem zhl2 {F F':List Nat} {h h':Hp} {a:Addr} {cs:List Value} (l:LdIs h a cs) (m:Mv F h F' h') (hn:a.block∉F):LdIs h' a cs:=fun i v hv=>by
  have h1:=l i v hv
  obtain ⟨o,ho⟩:=zfj1 h1
  have hb:(a.add i).block=a.block:=zhy1 a i
  rw [zog1 (h:=h) (h':=h') (a:=a.add i) (by rw [ho];exact m.keep _ _ ho (by rw [hb];exact hn))]
  exact h1
section
variable {α:Type} {h h':Hp} {sz:Nat} {enc:α->List Value} {l:Sl} {xs:List α} {F F':List Nat}
theorem Rw.known (r:Rw h sz enc l xs) {a:Addr} (ha:l.base=some a) (h0:xs.length*sz≠0):h a.block≠none:=by
  obtain ⟨h1,h2,h3⟩:=r
  obtain ⟨a',ha',hl⟩:=h3.resolve_left h0
  rw [ha] at ha'
  cases ha'
  have hne:(xs.flatMap enc).length≠0:=by rw [h2];exact h0
  obtain ⟨v,hv⟩:∃v,(xs.flatMap enc)[0]? =some v:=⟨(xs.flatMap enc)[0]'(by omega),List.getElem?_eq_getElem (by omega)⟩
  obtain ⟨o,ho⟩:=zfj1 (hl 0 v hv)
  rw [zhy1] at ho
  rw [ho]
  simp
theorem Rw.cutR {R:List Nat} (r:Rw h sz enc l xs) (hn:∀a,l.base=some a->xs.length*sz≠0->a.block∉R):Rw (cutH h R) sz enc l xs:=by
  obtain ⟨h1,h2,h3⟩:=r
  by_cases h0:xs.length*sz=0
  · exact ⟨h1,h2,.inl h0⟩
  · obtain ⟨a,ha,hl⟩:=h3.resolve_left h0
    exact ⟨h1,h2,.inr ⟨a,ha,ztl1 hl (zam2 (hn a ha h0))⟩⟩
theorem Rw.re {l':Sl} (r:Rw h sz enc l xs) (hb:l'.base=l.base) (hl:l'.len=l.len):Rw h sz enc l' xs:=by
  obtain ⟨h1,h2⟩:=r
  exact ⟨hl.trans h1,by rw [hb];exact h2⟩
end
theorem zzw {α:Type} {h0 h:Hp} {sz n bytes:Nat} {enc:α->List Value} {zero cs:List Value} {l:Sl} {xs ys:List α} {K:Sl->Hp->Prop} (hw:h0<=h) (o:Own h0 h sz enc l xs) (hc:cs=ys.flatMap enc) (hn:n=ys.length)
    (henc:∀x,(enc x).length=sz) (hok:∀x,zge (enc x)=true) (hz:zero.length=sz) (hb:xs.length+ys.length<=140737488355328/\(xs.length+ys.length)*bytes<=140737488355328)
    (hk:∀l' h',h0<=h'->Own h0 h' sz enc l' (xs++ys)->(∀b ob,h b=some ob->(∀a,l.base=some a->a.block≠b)->h' b=some ob)->K l' h'):NewW cs (fun a h2=>zbb sz bytes zero l ⟨some a,n,n⟩ K h2) h:=by
  subst hn
  refine zeo1 (h0:=h0) hw hc henc fun a h2 hle ho2=> ?_
  refine zpx1 (Hp.le_trans hw hle) (o.mono hle) (ho2.rw henc) henc hok hz hb fun l' h' hl' ho' hk'=>hk l' h' hl' ho' fun b ob e hne=>hk' b ob (hle b ob e) hne
end Lf
namespace Lf
open Go Go.Proofs Tryz
def valI :List Int->Int
 | []=>0
 | d::ds=>d+4294967296*valI ds
def Dig (ds:List Int):Prop:=∀d∈ds,0<=d/\d<4294967296
abbrev R32 (h:Hp) (l:Sl) (ds:List Int):Prop:=Rs h (shInt .u32) 1 l ds
def Nt (h:Hp) (s:Sl) (x:Nat):Prop:=∃ds,R32 h s ds/\s.len<=s.cap/\Dig ds/\valI ds=x/\ds.getLast?≠some 0
theorem Dig.app {a b:List Int} (h1:Dig a) (h2:Dig b):Dig (a++b):=fun d hd=>(List.mem_append.1 hd).elim (h1 d) (h2 d)
theorem Dig.one {d:Int} (h0:0<=d) (h1:d<4294967296):Dig [d]:=fun x hx=>by rw [List.mem_singleton.1 hx];exact ⟨h0,h1⟩
theorem Dig.zeros (n:Nat):Dig (List.replicate n 0):=fun d hd=>by rw [(List.mem_replicate.1 hd).2];omega
theorem ztp :∀(a b:List Int),valI (a++b)=valI a+4294967296^a.length*valI b
 | [],b=>by simp [valI]
 | d::a,b=>by
  rw [List.cons_append,valI,ztp a b,valI,List.length_cons,Int.pow_succ]
  grind
theorem zoh1 :∀n,valI (List.replicate n 0)=0
 | 0=>rfl
 | n+1=>by rw [List.replicate_succ,valI,zoh1 n];rfl
theorem zdj1 :∀ {a:List Int},Dig a->0<=valI a
 | [],_=>by simp [valI]
 | d::a,h=>by
  have:=h d (List.mem_cons_self ..)
  have:=zdj1 (a:=a) fun x hx=>h x (List.mem_cons_of_mem _ hx)
  rw [valI]
  omega
theorem zct1 :∀ {a:List Int},Dig a->valI a<4294967296^a.length
 | [],_=>by simp [valI]
 | d::a,h=>by
  have:=h d (List.mem_cons_self ..)
  have:=zct1 (a:=a) fun x hx=>h x (List.mem_cons_of_mem _ hx)
  rw [valI,List.length_cons,Int.pow_succ]
  omega
theorem zdi2 {m n:Nat} (h:m<=n):(4294967296:Int)^m<=4294967296^n:=by
 have h1:=Int.ofNat_le.2 (Nat.pow_le_pow_right (n:=4294967296) (by decide) h)
 rw [Int.natCast_pow,Int.natCast_pow] at h1
 exact h1
theorem zlo1 (n:Nat):(0:Int)<4294967296^n:=Int.pow_pos (by decide)
theorem zjp1 {a:List Int} (h:Dig a) (hl:a.getLast?≠some 0) {L:Nat} (hx:valI a<4294967296^L):a.length<=L:=by
 refine Classical.byContradiction fun hn=> ?_
 have hne:a≠ []:=fun e=>by subst e;exact hn (Nat.zero_le _)
 obtain ⟨b,d,e⟩:=List.eq_nil_or_concat a |>.resolve_left hne
 rw [List.concat_eq_append] at e
 subst e
 rw [List.getLast?_concat] at hl
 rw [List.length_append,List.length_singleton] at hn
 have hd:=h d (by simp)
 have hb:=zdj1 (a:=b) fun x hx=>h x (List.mem_append_left _ hx)
 rw [ztp] at hx
 have h1:(4294967296:Int)^L<=4294967296^b.length:=zdi2 (by omega)
 have h2:=zlo1 b.length
 have h3:(4294967296:Int)^b.length*1<=4294967296^b.length*d:=Int.mul_le_mul_of_nonneg_left (by have:d≠0:=fun e=>hl (by rw [e]);omega) (by omega)
 simp only [valI] at hx
 rw [show d+4294967296*0=d by omega] at hx
 omega
theorem zph :∀x:(shInt .u32).T,(zaj ((shInt .u32).enc x)).length=1:=fun _=>rfl
theorem zob2 :∀x:(shInt .u32).T,zge (zaj ((shInt .u32).enc x))=true:=fun _=>rfl
theorem Nt.mono {h h':Hp} {s:Sl} {x:Nat} (hl:h<=h'):Nt h s x->Nt h' s x:=fun ⟨ds,a,b⟩=>⟨ds,a.mono hl,b⟩
theorem Nt.len {h:Hp} {s:Sl} {x L:Nat} (n:Nt h s x) (hx:x<2^(32*L)):s.len<=L:=by
 obtain ⟨ds,a,b,c,d,e⟩:=n
 rw [a.1]
 refine zjp1 c e ?_
 rw [d]
 rw [Nat.pow_mul] at hx
 have:((x:Nat):Int)<(((2^32)^L:Nat):Int):=Int.ofNat_lt.2 hx
 rw [Int.natCast_pow] at this
 exact this
theorem Nt.zero {h:Hp} {s:Sl} {x:Nat} (n:Nt h s x):s.len=0↔x=0:=by
 constructor
 ·intro hs
  obtain ⟨ds,a,b,c,d,e⟩:=n
  have h1:ds.length=0:=by rw [<-a.1];exact hs
  have h2:=List.length_eq_zero_iff.1 h1
  subst h2
  simp only [valI] at d
  omega
 ·rintro rfl
  have:=n.len (L:=0) (by decide)
  omega
section
variable {P:Program} {h:Hp}
theorem zxm1 {a:Sl} {ds:List Int} {Q:Sl->Hp->Prop} (r:R32 h a ds) (hc:a.len<=a.cap) (hb:a.len<1000000) (hd:Dig ds) (hk:∀r,Nt h r (valI ds).toNat->Q r h):zls P a Q h:=by
 unfold zls
 refine LoopW1.intro (fun a1 h1=>h1=h/\∃d1,R32 h a1 d1/\a1.len<=a1.cap/\a1.len<1000000/\Dig d1/\valI d1=valI ds) (fun a1 _=>a1.len) ⟨rfl,ds,r,hc,hb,hd,rfl⟩ ?_
 rintro a1 h1 ⟨rfl,d1,r1,c1,b1,g1,v1⟩
 refine Rs.getC r1 (0:Int) zph (by decide) (fun e=> ?_) fun x hx=> ?_
 ·have e0:=of_decide_eq_true e
  rw [zab (by omega) (by omega)]
  have:=r1.1
  omega
 refine letW ?_
 by_cases hp:((a1.len:Nat):Int)>0
 ·have hx':=hx (decide_eq_true hp)
  rw [zab (by omega) (by omega)] at hx' ⊢
  rw [decide_eq_true hp,Bool.true_and]
  have el:=r1.1
  have hlast:d1.getLast? =some x:=by
   rw [List.getLast?_eq_getElem?]
   rw [show (((a1.len:Nat):Int)-1).toNat=d1.length-1 by omega] at hx'
   exact hx'
  obtain ⟨d2,rfl⟩:=List.getLast?_eq_some_iff.1 hlast
  by_cases e:x=0
  ·rw [if_pos (by simpa using e)]
   refine ⟨⟨by omega,by omega⟩,letW ?_⟩
   have e1:sbase a1.base 1 0 a1.cap=a1.base:=by unfold sbase;split<;>simp [Addr.add]
   have e2:(((a1.len:Nat):Int)-1).toNat-0=d2.length:=by
    rw [List.length_append,List.length_singleton] at el
    omega
   rw [List.length_append,List.length_singleton] at el
   rw [e1,e2]
   refine ⟨⟨rfl,d2,⟨rfl,?_⟩,by show d2.length<=a1.cap-0;omega,by show d2.length<_;omega,fun y hy=>g1 y (List.mem_append_left _ hy),?_⟩,by show d2.length<_;omega⟩
   ·obtain ⟨_,hr1,hr2⟩:=r1
    refine ⟨zgn zph d2,?_⟩
    rcases hr2 with hr2 | ⟨a,ha,hr2⟩
    ·simp at hr2
    ·refine .inr ⟨a,ha,fun i v hv=>hr2 i v ?_⟩
     rw [List.flatMap_append,List.getElem?_append_left (List.getElem?_eq_some_iff.1 hv).1]
     exact hv
   ·rw [<-v1,ztp,e]
    simp [valI]
  ·rw [if_neg (by simpa using e)]
   refine (hk a1 ⟨_,r1,c1,g1,?_,?_⟩)
   ·rw [v1];have:=zdj1 hd;omega
   ·rw [hlast];intro e';exact e (Option.some.inj e')
 ·rw [decide_eq_false hp,Bool.false_and,if_neg (by simp)]
  have el:=r1.1
  have:d1=[]:=List.length_eq_zero_iff.1 (by omega)
  subst this
  exact hk a1 ⟨_,r1,c1,g1,by rw [v1];have:=zdj1 hd;omega,by simp⟩
abbrev O32 (h0 h:Hp) (l:Sl) (ds:List Int):Prop:=Own h0 h 1 (fun x=>zaj ((shInt .u32).enc x)) l ds
theorem app32 {h0:Hp} {out:Sl} {os:List Int} {v:Int} {K:Sl->Hp->Prop} (hw:h0<=h) (o:O32 h0 h out os) (hb:os.length<1000000) (hk:∀l' h',h0<=h'->O32 h0 h' l' (os++ [v])->K l' h'):
  NewW [(.int .u32 v)] (fun a2 h3=>zbb 1 4 [(.int .u32 (0:Int))] ⟨out.base,out.len,out.cap⟩ ⟨some a2,1,1⟩ K h3) h:=
 zzw hw o (ys:=[v]) rfl rfl zph zob2 rfl (by simp only [List.length_singleton];omega) fun l' h' a b _=>hk l' h' a b
theorem O32.r {h0:Hp} {l:Sl} {ds:List Int} (o:O32 h0 h l ds):R32 h l ds:=o.rw zph
theorem nil32 {K:Addr->Hp->Prop} (hk:∀a h',h<=h'->O32 h h' ⟨some a,0,0⟩ []->K a h'):NewW [] K h:=zeo1 (xs:=([]:List Int)) (h0:=h) (Hp.le_refl h) rfl zph hk
theorem zoa (x:Int):IntKind.wrap .u32 x=x%4294967296:=rfl
theorem zah (x:Int):IntKind.wrap .u64 x=x%18446744073709551616:=rfl
theorem shrU (x:Int) (n:Nat) (hn:n<=64):shrI .u64 x (n:Int)=x / 2^n:=by
 unfold shrI
 rw [show min ((n:Int)).toNat IntKind.u64.bits=n by have:IntKind.u64.bits=64:=rfl;omega]
 exact Int.fdiv_eq_ediv_of_nonneg _ (by have:=Int.pow_pos (n:=2) (m:=n) (by decide);omega)
theorem shr32 (x:Int):shrI .u64 x (32:Int)=x / 4294967296:=shrU x 32 (by decide)
theorem take_one {ds:List Int} {i:Nat} {x:Int} (h:ds[i]? =some x):ds.take (i+1)=ds.take i++ [x]:=by rw [List.take_add_one,h];rfl
theorem carry {os t:List Int} {c d x:Int} {i:Nat} (e1:os.length=i) (e2:t.length=i) (b:Int) (hv:valI os+4294967296^i*c=b) (h:c+x=d%4294967296+4294967296*(d / 4294967296)):
  valI (os++ [d%4294967296])+4294967296^(i+1)*(d / 4294967296)=b+4294967296^i*x:=by
 rw [ztp,e1,Int.pow_succ,<-hv]
 simp only [valI]
 grind
theorem zan2 {a:Sl} {ds:List Int} {m:Int} {Q:Sl->Hp->Prop} (r:R32 h a ds) (hd:Dig ds) (hb:ds.length<100000) (m0:0<=m) (m1:m<4294967296) (hk:∀r h',h<=h'->Nt h' r (valI ds*m).toNat->Q r h'):zgs prog a m Q h:=by
 unfold zgs
 have el:=r.1
 refine nil32 fun a1 h1 hle o1=> ?_
 refine LoopW3.intro (fun out c i h2=>0<=i/\i<=(ds.length:Int)/\h<=h2/\0<=c/\c<4294967296/\∃os,O32 h h2 out os/\Dig os/\os.length=i.toNat/\valI os+4294967296^i.toNat*c=valI (ds.take i.toNat)*m) (fun _ _ i _=>(ds.length-i).toNat)
  ⟨by omega,by omega,hle,by omega,by omega,[],o1,fun _ hx=>(by cases hx),rfl,by simp [valI]⟩ ?_
 rintro out c i h2 ⟨i0,i1,hl2,c0,c1,os,o2,g2,len2,v2⟩
 by_cases hi:i<(ds.length:Int)
 ·rw [if_pos (decide_eq_true (by omega))]
  refine Rs.get (r.mono hl2) zph (by decide) i0 hi fun (x:Int) hx=> ?_
  have hx':0<=x/\x<4294967296:=hd x (List.mem_of_getElem? hx)
  have hm:(0:Int)<=x*m:=Int.mul_nonneg hx'.1 m0
  have hm2:x*m<=4294967295*4294967295:=Int.mul_le_mul (by omega) (by omega) m0 (by omega)
  have e1:IntKind.wrap .u64 (c+(IntKind.wrap .u64 ((IntKind.wrap .u64 x)*(IntKind.wrap .u64 m))))=c+x*m:=by
   rw [zah x,zah m,Int.emod_eq_of_lt hx'.1 (by omega),Int.emod_eq_of_lt m0 (by omega),zah,zah,Int.emod_eq_of_lt hm (by omega),Int.emod_eq_of_lt (by omega) (by omega)]
  rw [e1,zoa,shr32]
  generalize hy:x*m=y at*
  refine app32 hl2 o2 (by omega) fun l' h' hl' o'=>⟨by omega,?_⟩
  rw [zab (by omega) (by omega)]
  have ei:(i+1).toNat=i.toNat+1:=by omega
  refine ⟨⟨by omega,by omega,hl',by omega,by omega,_,o',g2.app (Dig.one (by omega) (by omega)),by rw [List.length_append,len2,ei];rfl,?_⟩,by omega⟩
  rw [ei,take_one hx,carry len2 (t:=ds.take i.toNat) (by rw [List.length_take];omega) _ v2 (x:=y) (by omega),ztp,List.length_take,show min i.toNat ds.length=i.toNat by omega]
  simp only [valI]
  rw [<-hy]
  grind
 ·rw [if_neg (fun e=>hi (by have:=of_decide_eq_true e;omega)),zoa,Int.emod_eq_of_lt c0 c1]
  refine app32 hl2 o2 (by omega) fun l' h' hl' o'=> ?_
  refine zjb (zxm1 o'.r o'.2.1 (by rw [o'.1,List.length_append,List.length_singleton];omega) (g2.app (Dig.one c0 c1)) fun r n=>hk r h' hl' ?_)
  have:i.toNat=ds.length:=by omega
  rw [this,List.take_length] at v2
  rw [ztp] at n
  simp only [valI] at n
  rw [len2,this,show c+4294967296*0=c by omega,v2] at n
  exact n
end
theorem zao2 (ds:List Int) (i:Nat):valI (ds.take (i+1))=valI (ds.take i)+4294967296^i*ds.getD i 0:=by
 by_cases h:i<ds.length
 ·have hx:ds[i]? =some (ds.getD i 0):=by simp [List.getD,h]
  rw [take_one hx,ztp,List.length_take,show min i ds.length=i by omega]
  simp only [valI]
  rw [show ds.getD i 0+4294967296*0=ds.getD i 0 by omega]
 ·rw [List.take_of_length_le (by omega),List.take_of_length_le (by omega),show ds.getD i 0=0 by simp [List.getD,List.getElem?_eq_none (show ds.length<=i by omega)]]
  omega
theorem zlq2 {ds:List Int} (h:Dig ds) (i:Nat):0<=ds.getD i 0/\ds.getD i 0<4294967296:=by
 unfold List.getD
 cases e:ds[i]? with
 | none=>exact ⟨by decide,by decide⟩
 | some x=>exact h x (List.mem_of_getElem? e)
theorem zhm2 {ds:List Int} {i:Nat} {x:Int} (h:ds[i]? =some x):ds.getD i 0=x:=by simp [List.getD,h]
section
variable {h:Hp}
def cmpN (x y:Nat):Int:=if x<y then -1 else if y<x then 1 else 0
theorem zap2 {ds:List Int} {i:Nat} {x:Int} (h:ds[i]? =some x):valI ds=valI (ds.take i)+4294967296^i*(x+4294967296*valI (ds.drop (i+1))):=by
 obtain ⟨e1,e2⟩:=List.getElem?_eq_some_iff.1 h
 conv=>lhs;rw [<-List.take_append_drop i ds,ztp,List.length_take,show min i ds.length=i by omega,List.drop_eq_getElem_cons e1,e2]
 rfl
theorem zhz1 {a b:Sl} {x y:Nat} {Q:Int->Hp->Prop} (ha:Nt h a x) (hb:Nt h b y) (la:a.len<100000) (lb:b.len<100000) (hk:Q (cmpN x y) h):zit prog a b Q h:=by
 obtain ⟨da,ra,_,ga,va,na⟩:=ha
 obtain ⟨db,rb,_,gb,vb,nb⟩:=hb
 unfold zit
 have ea:=ra.1
 have eb:=rb.1
 have la':=zct1 ga
 have lb':=zct1 gb
 by_cases hl:a.len=b.len
 ·rw [if_neg (by simp [hl])]
  refine LoopW1.intro (fun i h1=>h1=h/\ -1<=i/\i<(da.length:Int)/\da.drop (i+1).toNat=db.drop (i+1).toNat) (fun i _=>(i+1).toNat) ⟨rfl,?_,?_,?_⟩ ?_
  ·rw [zab (by omega) (by omega)];omega
  ·rw [zab (by omega) (by omega)];omega
  ·rw [zab (by omega) (by omega),List.drop_of_length_le (by omega),List.drop_of_length_le (by omega)]
  rintro i h1 ⟨rfl,i0,i1,he⟩
  by_cases hi:0<=i
  ·rw [if_pos (decide_eq_true (show i>=0 from hi))]
   refine Rs.get ra zph (by decide) hi i1 fun (u:Int) hu=> ?_
   refine Rs.get rb zph (by decide) hi (by omega) fun (v:Int) hv=> ?_
   have xu:=zap2 hu
   have xv:=zap2 hv
   have pa:=zdj1 (a:=da.take i.toNat) fun z hz=>ga z (List.mem_of_mem_take hz)
   have pb:=zdj1 (a:=db.take i.toNat) fun z hz=>gb z (List.mem_of_mem_take hz)
   have qa:=zct1 (a:=da.take i.toNat) fun z hz=>ga z (List.mem_of_mem_take hz)
   have qb:=zct1 (a:=db.take i.toNat) fun z hz=>gb z (List.mem_of_mem_take hz)
   rw [List.length_take,show min i.toNat da.length=i.toNat by omega] at qa
   rw [List.length_take,show min i.toNat db.length=i.toNat by omega] at qb
   rw [show (i+1).toNat=i.toNat+1 by omega] at he
   rw [he] at xu
   have hP:=zlo1 i.toNat
   have key:∀ {s t:Int},s<t->(4294967296:Int)^i.toNat*(s+4294967296*valI (db.drop (i.toNat+1)))+4294967296^i.toNat<=4294967296^i.toNat*(t+4294967296*valI (db.drop (i.toNat+1))):=fun {s t} hst=>by
    have:=Int.mul_le_mul_of_nonneg_left (show s+4294967296*valI (db.drop (i.toNat+1))+1<=t+4294967296*valI (db.drop (i.toNat+1)) by omega) (Int.le_of_lt hP)
    rw [Int.mul_add,Int.mul_one] at this
    exact this
   by_cases h1:u<v
   ·rw [if_pos (decide_eq_true h1)]
    have:=key h1
    have hxy:x<y:=by omega
    unfold cmpN at hk
    rw [if_pos hxy] at hk
    exact hk
   ·rw [if_neg (fun e=>h1 (of_decide_eq_true e))]
    refine Rs.get ra zph (by decide) hi i1 fun (u':Int) hu'=> ?_
    refine Rs.get rb zph (by decide) hi (by omega) fun (v':Int) hv'=> ?_
    have e1:u'=u:=Option.some.inj (hu'.symm.trans hu)
    have e2:v'=v:=Option.some.inj (hv'.symm.trans hv)
    rw [e1,e2]
    by_cases h2:v<u
    ·rw [if_pos (decide_eq_true (show u>v from h2))]
     have:=key h2
     unfold cmpN at hk
     rw [if_neg (by omega),if_pos (by omega)] at hk
     exact hk
    ·rw [if_neg (fun e=>h2 (of_decide_eq_true e)),zab (by omega) (by omega)]
     refine ⟨⟨rfl,by omega,by omega,?_⟩,by omega⟩
     rw [show (i-1+1).toNat=i.toNat by omega]
     have hu2:=List.getElem?_eq_some_iff.1 hu
     have hv2:=List.getElem?_eq_some_iff.1 hv
     rw [List.drop_eq_getElem_cons hu2.1,List.drop_eq_getElem_cons hv2.1,hu2.2,hv2.2,he,show u=v by omega]
  ·rw [if_neg (fun e=>hi (of_decide_eq_true e))]
   rw [show (i+1).toNat=0 by omega] at he
   have:da=db:=by simpa using he
   subst this
   unfold cmpN at hk
   rw [if_neg (by omega),if_neg (by omega)] at hk
   exact hk
 ·rw [if_pos (by simpa using (show ¬((a.len:Nat):Int)=((b.len:Nat):Int) by omega))]
  unfold cmpN at hk
  by_cases h1:a.len<b.len
  ·rw [if_pos (decide_eq_true (by omega))]
   have:¬valI db<4294967296^da.length:=fun e=>by have:=zjp1 gb nb e;omega
   rw [if_pos (by omega)] at hk
   exact hk
  ·rw [if_neg (fun e=>h1 (by have:=of_decide_eq_true e;omega))]
   have:¬valI da<4294967296^db.length:=fun e=>by have:=zjp1 ga na e;omega
   rw [if_neg (by omega),if_pos (by omega)] at hk
   exact hk
end
section
variable {h:Hp}
theorem zpm2 {a b:Sl} {x y:Nat} {Q:Sl->Hp->Prop} (ha:Nt h a x) (hb:Nt h b y) (la:a.len<100000) (hxy:y<=x) (hk:∀r h',h<=h'->Nt h' r (x-y)->Q r h'):zlr prog a b Q h:=by
 obtain ⟨da,ra,_,ga,va,na⟩:=ha
 obtain ⟨db,rb,_,gb,vb,nb⟩:=hb
 unfold zlr
 have ea:=ra.1
 have eb:=rb.1
 have hlen:db.length<=da.length:=zjp1 gb nb (by have:=zct1 ga;omega)
 refine nil32 fun a1 h1 hle o1=> ?_
 refine LoopW3.intro (fun out c i h2=>0<=i/\i<=(da.length:Int)/\h<=h2/\ -1<=c/\c<=0/\∃os,O32 h h2 out os/\Dig os/\os.length=i.toNat/\valI os+4294967296^i.toNat*c=valI (da.take i.toNat)-valI (db.take i.toNat)) (fun _ _ i _=>(da.length-i).toNat)
  ⟨by omega,by omega,hle,by omega,by omega,[],o1,fun _ hx=>(by cases hx),rfl,by simp [valI]⟩ ?_
 rintro out c i h2 ⟨i0,i1,hl2,c0,c1,os,o2,g2,len2,v2⟩
 by_cases hi:i<(da.length:Int)
 ·rw [if_pos (decide_eq_true (by omega))]
  refine Rs.get (ra.mono hl2) zph (by decide) i0 hi fun (u:Int) hu=> ?_
  have d1:0<=u/\u<4294967296:=ga u (List.mem_of_getElem? hu)
  have d2:=zlq2 gb i.toNat
  refine JoinW1.intro (fun c1 h3=>h3=h2/\c1=c+u-db.getD i.toNat 0) ?_ ?_
  ·by_cases hj:i<((b.len:Nat):Int)
   ·rw [if_pos (decide_eq_true hj)]
    refine Rs.get (rb.mono hl2) zph (by decide) i0 (by omega) fun (v:Int) hv=> ?_
    have d3:0<=v/\v<4294967296:=gb v (List.mem_of_getElem? hv)
    rw [zab (n:=u) (by omega) (by omega),zab (n:=v) (by omega) (by omega),zab (n:=c+u) (by omega) (by omega),zab (by omega) (by omega),zhm2 hv]
    exact ⟨rfl,rfl⟩
   ·rw [if_neg (fun e=>hj (of_decide_eq_true e)),zab (n:=u) (by omega) (by omega),zab (by omega) (by omega),show db.getD i.toNat 0=0 by simp [List.getD,List.getElem?_eq_none (show db.length<=i.toNat by omega)],Int.sub_zero]
    exact ⟨rfl,rfl⟩
  rintro c2 h3 ⟨rfl,rfl⟩
  have es:shrI .i64 (c+u-db.getD i.toNat 0) (32:Int)=(c+u-db.getD i.toNat 0) / 4294967296:=by
   unfold shrI
   exact Int.fdiv_eq_ediv_of_nonneg _ (by decide)
  rw [zoa,es]
  refine app32 hl2 o2 (by omega) fun l' h' hl' o'=>⟨by omega,?_⟩
  rw [zab (by omega) (by omega)]
  have ei:(i+1).toNat=i.toNat+1:=by omega
  refine ⟨⟨by omega,by omega,hl',by omega,by omega,_,o',g2.app (Dig.one (by omega) (by omega)),by rw [List.length_append,len2,ei];rfl,?_⟩,by omega⟩
  rw [ei,zao2,zao2,zhm2 hu]
  have:=carry len2 (t:=List.replicate i.toNat 0) (by simp) _ v2 (x:=u-db.getD i.toNat 0) (d:=c+u-db.getD i.toNat 0) (by omega)
  rw [this]
  grind
 ·rw [if_neg (fun e=>hi (by have:=of_decide_eq_true e;omega))]
  refine zjb (zxm1 o2.r o2.2.1 (by rw [o2.1];omega) g2 fun r n=>hk r h2 hl2 ?_)
  rw [List.take_of_length_le (by omega),List.take_of_length_le (by omega),va,vb] at v2
  have h4:=zct1 g2
  have hP:=zlo1 i.toNat
  rw [len2] at h4
  have hc:c=0:=by
   rcases (by omega:c=0\/c= -1) with e | e
   ·exact e
   ·rw [e] at v2;omega
  rw [hc,Int.mul_zero] at v2
  rw [show (valI os).toNat=x-y by omega] at n
  exact n
theorem two32 {u v:Int} {K:Addr->Hp->Prop} (hk:∀a h',h<=h'->O32 h h' ⟨some a,2,2⟩ [u,v]->K a h'):NewW [(.int .u32 u),(.int .u32 v)] K h:=zeo1 (xs:=([u,v]:List Int)) (h0:=h) (Hp.le_refl h) rfl zph hk
theorem of_ok {x:Int} {Q:Sl->Hp->Prop} (x0:0<=x) (x1:x<18446744073709551616) (hk:∀r h',h<=h'->Nt h' r x.toNat->Q r h'):zjs prog x Q h:=by
 unfold zjs
 refine ⟨by decide,?_⟩
 rw [zoa,zoa,shr32,Int.emod_eq_of_lt (a:=x / 4294967296) (by omega) (by omega)]
 refine two32 fun a h' hl o=> ?_
 refine zjb (a:=⟨some a,2,2⟩) (zxm1 o.r o.2.1 (show (2:Nat)<1000000 by omega) (fun d hd=> ?_) fun r n=>hk r h' hl ?_)
 ·rcases List.mem_cons.1 hd with e | hd
  ·subst e;omega
  ·rw [List.mem_singleton.1 hd];omega
 ·simp only [valI] at n
  rw [show x%4294967296+4294967296*(x / 4294967296+4294967296*0)=x by omega] at n
  exact n
theorem pow32 (n:Nat):(4294967296:Int)^n=((2^(32*n):Nat):Int):=by
 rw [Nat.pow_mul,Int.natCast_pow];rfl
theorem zlr2 {a:Sl} {x n:Nat} {Q:Sl->Hp->Prop} (ha:Nt h a x) (la:a.len<50000) (hn:n<50000) (hk:∀r h',h<=h'->Nt h' r (x*2^n)->Q r h'):zgr prog a (n:Int) Q h:=by
 unfold zgr
 by_cases hz:a.len=0
 ·rw [if_pos (by simp [hz])]
  have e:=ha.zero.1 hz
  subst e
  exact hk a h (Hp.le_refl h) (by rw [Nat.zero_mul];exact ha)
 rw [if_neg (by simpa using hz)]
 obtain ⟨ds,ra,_,ga,va,na⟩:=ha
 have ea:=ra.1
 refine nil32 fun a1 h1 hle o1=> ?_
 have ed:Int.tdiv (n:Int) 32=(n:Int) / 32:=Int.tdiv_eq_ediv_of_nonneg (by omega)
 have em:Int.tmod (n:Int) 32=((n%32:Nat):Int):=by rw [Int.tmod_eq_emod_of_nonneg (by omega)];omega
 refine LoopW2.intro (fun out i h2=>0<=i/\i<=(n:Int) / 32/\h<=h2/\O32 h h2 out (List.replicate i.toNat 0)) (fun _ i _=>((n:Int) / 32-i).toNat) ⟨by omega,by omega,hle,o1⟩ ?_
 rintro out i h2 ⟨i0,i1,hl2,o2⟩
 refine ⟨by decide,?_⟩
 rw [ed,zab (by omega) (by omega)]
 by_cases hi:i<(n:Int) / 32
 ·rw [if_pos (decide_eq_true hi)]
  refine app32 hl2 o2 (by rw [List.length_replicate];omega) fun l' h' hl' o'=> ?_
  rw [zab (by omega) (by omega)]
  refine ⟨⟨by omega,by omega,hl',?_⟩,by omega⟩
  rw [show (i+1).toNat=i.toNat+1 by omega,List.replicate_succ']
  exact o'
 ·rw [if_neg (fun e=>hi (of_decide_eq_true e))]
  refine zpx1 hl2 o2 (ra.mono hl2) zph zob2 rfl (by rw [List.length_replicate];omega) fun l' h' hl' o' _=>⟨by decide,by rw [em];omega,?_⟩
  have e1:shlI .u32 (1:Int) (Int.tmod (n:Int) 32)=((2^(n%32):Nat):Int):=by
   rw [em]
   unfold shlI
   have hb:IntKind.u32.bits=32:=rfl
   rw [show min (((n%32:Nat):Int)).toNat IntKind.u32.bits=n%32 by omega,Int.one_mul,zoa]
   have h3:2^(n%32)<2^32:=Nat.pow_lt_pow_right (by decide) (by omega)
   rw [Int.natCast_pow]
   have h4:((2^(n%32):Nat):Int)<((2^32:Nat):Int):=Int.ofNat_lt.2 h3
   rw [Int.natCast_pow] at h4
   exact Int.emod_eq_of_lt (Int.le_of_lt (Int.pow_pos (by decide))) h4
  rw [e1]
  have h3:2^(n%32)<2^32:=Nat.pow_lt_pow_right (by decide) (by omega)
  refine zek (zan2 (O32.r o') (Dig.app (Dig.zeros _) ga) (by rw [List.length_append,List.length_replicate];omega) (Int.natCast_nonneg _) (by have:=Int.ofNat_lt.2 h3;exact this) fun r h3 hl3 n3=>hk r h3 (Hp.le_trans hl' hl3) ?_)
  rw [ztp,zoh1,List.length_replicate,pow32,va,show i.toNat=n / 32 by omega] at n3
  rw [show (0+((2^(32*(n / 32)):Nat):Int)*(x:Int))*((2^(n%32):Nat):Int)=((x*2^n:Nat):Int) by
   conv=>rhs;rw [<-Nat.div_add_mod n 32,Nat.pow_add]
   rw [Int.natCast_mul,Int.natCast_mul]
   grind,Int.toNat_natCast] at n3
  exact n3
end
theorem zlp1 {k:IntKind} {a s v:Nat} (hk:k=.u64/\a*2^s+v<18446744073709551616\/k=.u32/\a*2^s+v<4294967296) (hv:v<2^s):bitsI .or k ((a*2^s:Nat):Int) (v:Int)=((a*2^s+v:Nat):Int):=by
 have e:a*2^s ||| v=a*2^s+v:=by rw [<-Nat.shiftLeft_eq,Nat.shiftLeft_add_eq_or_of_lt hv]
 unfold bitsI
 dsimp only
 rw [BitVec.ofInt_natCast,BitVec.ofInt_natCast,BitVec.toNat_or,BitVec.toNat_ofNat,BitVec.toNat_ofNat]
 rcases hk with ⟨rfl,h⟩ | ⟨rfl,h⟩
 ·rw [show IntKind.u64.bits=64 by rfl,Nat.mod_eq_of_lt (by omega),Nat.mod_eq_of_lt (by omega),e,zah];omega
 ·rw [show IntKind.u32.bits=32 by rfl,Nat.mod_eq_of_lt (by omega),Nat.mod_eq_of_lt (by omega),e,zoa];omega
theorem zaq2 {m b:Nat} (h1:m<2^b) (h2:0<b->2^(b-1)<=m):bitsN m=b:=by
 unfold bitsN
 by_cases hm:m=0
 ·rw [if_pos hm]
  rcases Nat.eq_zero_or_pos b with e | e
  ·exact e.symm
  ·have:=h2 e;have:=Nat.two_pow_pos (b-1);omega
 ·rw [if_neg hm]
  have hb:0<b:=Nat.pos_of_ne_zero fun e=>by subst e;simp at h1;omega
  have:=(Nat.log2_eq_iff (k:=b-1) hm).2 ⟨h2 hb,by rw [show b-1+1=b by omega];exact h1⟩
  omega
theorem zra (m:Nat):m<2^bitsN m:=by
 unfold bitsN
 split
 ·subst_vars;decide
 ·exact Nat.lt_log2_self
theorem zvn {m:Nat} (h:m≠0):2^(bitsN m-1)<=m:=by
 unfold bitsN
 rw [if_neg h,Nat.add_sub_cancel]
 exact Nat.log2_self_le h
theorem zdj2 {m:Nat} (h:m≠0):bitsN m=bitsN (m / 2)+1:=by
 have h1:=zra (m / 2)
 refine zaq2 (by rw [Nat.pow_succ];omega) fun _=> ?_
 rw [Nat.add_sub_cancel]
 by_cases h0:m / 2=0
 ·rw [h0];show 2^0<=m;omega
 ·have:=zvn h0
  have hb:0<bitsN (m / 2):=by unfold bitsN;rw [if_neg h0];omega
  rw [show bitsN (m / 2)=bitsN (m / 2)-1+1 by omega,Nat.pow_succ]
  omega
section
variable {h:Hp}
end
section
variable {a b:Nat}
theorem zrb :IntKind.u64.bits=64:=rfl
theorem zlx (ha:a<18446744073709551616):(BitVec.ofInt 64 ((a:Nat):Int)).toNat=a:=by
 rw [BitVec.ofInt_natCast,BitVec.toNat_ofNat];exact Nat.mod_eq_of_lt ha
theorem wrapN (ha:a<18446744073709551616):IntKind.wrap .u64 ((a:Nat):Int)=a:=by rw [zah];omega
theorem zxn1 (ha:a<18446744073709551616):bitsI .andNot .u64 (a:Int) (9223372036854775808:Int)=((a%9223372036854775808:Nat):Int):=by
 unfold bitsI
 dsimp only
 rw [zrb,BitVec.toNat_and,zlx ha,show (~~~ BitVec.ofInt 64 9223372036854775808).toNat=2^63-1 by decide,Nat.and_two_pow_sub_one_eq_mod,zah]
 omega
theorem and63 (a:Nat):a&&&2^63=if a / 2^63%2=1 then 2^63 else 0:=by
 refine Nat.eq_of_testBit_eq fun i=> ?_
 rw [Nat.testBit_and,Nat.testBit_two_pow]
 by_cases hi:63=i
 ·subst hi
  rw [decide_eq_true rfl,Bool.and_true,Nat.testBit_eq_decide_div_mod_eq]
  by_cases h:a / 2^63%2=1
  ·rw [if_pos h,decide_eq_true h];exact (Nat.testBit_two_pow_self (n:=63)).symm
  ·rw [if_neg h,decide_eq_false h,Nat.zero_testBit]
 ·rw [decide_eq_false hi,Bool.and_false]
  by_cases h:a / 2^63%2=1
  ·rw [if_pos h,Nat.testBit_two_pow,decide_eq_false hi]
  ·rw [if_neg h,Nat.zero_testBit]
theorem zls2 (ha:a<18446744073709551616):bitsI .and .u64 (a:Int) (9223372036854775808:Int)=((sgn (negD a):Nat):Int):=by
 unfold bitsI
 dsimp only
 rw [zrb,BitVec.toNat_and,zlx ha,show (BitVec.ofInt 64 9223372036854775808).toNat=2^63 by decide,and63]
 unfold sgn negD
 by_cases h:9223372036854775808<=a
 ·rw [decide_eq_true h,if_pos (show a / 2^63%2=1 by omega)];rfl
 ·rw [decide_eq_false h,if_neg (show ¬a / 2^63%2=1 by omega)];rfl
theorem zqx1 {s:Bool} (ha:a<9223372036854775808):bitsI .or .u64 ((sgn s:Nat):Int) (a:Int)=((sgn s+a:Nat):Int):=by
 cases s with
 | false=>exact zlp1 (a:=0) (s:=63) (.inl ⟨rfl,by omega⟩) ha
 | true=>exact zlp1 (a:=1) (s:=63) (.inl ⟨rfl,by omega⟩) ha
theorem zqy1 (ha:a<18446744073709551616):bitsI .and .u64 (a:Int) (4503599627370495:Int)=((a%4503599627370496:Nat):Int):=by
 unfold bitsI
 dsimp only
 rw [zrb,BitVec.toNat_and,zlx ha,show (BitVec.ofInt 64 4503599627370495).toNat=2^52-1 by decide,Nat.and_two_pow_sub_one_eq_mod,zah]
 omega
theorem ztm1 (x y:Int):bitsI .or .u64 x y=bitsI .or .u64 y x:=by unfold bitsI;dsimp only;rw [BitVec.or_comm]
variable {h:Hp}
theorem zqz1 {Q:Int->Int->Hp->Prop} (ha:a<9223372036854775808) (hk:Q ((zac a:Nat):Int) (zad a) h):zko prog (a:Int) Q h:=by
 unfold zko
 refine ⟨by decide,?_⟩
 have e1:shrI .u64 (a:Int) (52:Int)=((a / 4503599627370496:Nat):Int):=by
  exact shrU (a:Int) 52 (by decide)
 rw [e1,zqy1 (by omega),zab (by omega) (by omega)]
 unfold zac zad at hk
 by_cases hz:a<4503599627370496
 ·rw [if_pos (by rw [show a / 4503599627370496=0 by omega];rfl),Nat.mod_eq_of_lt hz]
  rw [if_pos hz,if_pos hz] at hk
  exact hk
 ·rw [if_neg (by simp;omega),ztm1,show bitsI .or .u64 (4503599627370496:Int) ((a%4503599627370496:Nat):Int)=_ from zlp1 (a:=1) (s:=52) (v:=a%4503599627370496) (.inl ⟨rfl,by omega⟩) (by omega),zab (by omega) (by omega)]
  rw [if_neg hz,if_neg hz] at hk
  rw [show 1*2^52+a%4503599627370496=a%4503599627370496+4503599627370496 by omega]
  exact hk
end
section
variable {h:Hp}
theorem zra1 {m b:Nat} (hm:m<2^b):bitsN m<=b:=by
 refine Classical.byContradiction fun hc=> ?_
 have h0:m≠0:=fun e=>by subst e;exact hc (Nat.zero_le _)
 have h1:=zvn h0
 have h2:2^b<=2^(bitsN m-1):=Nat.pow_le_pow_right (by decide) (by omega)
 omega
theorem Nt.lt {s:Sl} {x:Nat} (n:Nt h s x):x<2^(32*s.len):=by
 obtain ⟨ds,a,b,c,d,e⟩:=n
 have:=zct1 c
 rw [pow32,d] at this
 rw [a.1]
 omega
end
theorem iteT {c:Prop} [Decidable c] {a b:Prop} (hc:c) (ha:a):if c then a else b:=by grind
theorem iteF {c:Prop} [Decidable c] {a b:Prop} (hc:¬c) (hb:b):if c then a else b:=by grind
section
variable {h:Hp}
theorem zar2 {a:Nat} (k:Nat) (ha:a<18446744073709551616) (hk:k<=64):bitsI .and .u64 (a:Int) ((2^k-1:Nat):Int)=((a%2^k:Nat):Int):=by
 have h2:2^k<=2^64:=Nat.pow_le_pow_right (by decide) hk
 have hp:=Nat.two_pow_pos k
 unfold bitsI
 dsimp only
 rw [zrb,BitVec.toNat_and,zlx ha,zlx (by omega),Nat.and_two_pow_sub_one_eq_mod,wrapN]
 omega
theorem and32 {a:Nat} (ha:a<18446744073709551616):bitsI .and .u64 (a:Int) (4294967295:Int)=((a%4294967296:Nat):Int):=by
 have e:=zar2 32 ha (by decide)
 omega
theorem shrN (x:Nat) {n:Nat} (hn:n<=64):shrI .u64 (x:Int) (n:Int)=((x / 2^n:Nat):Int):=by
 rw [shrU _ n hn];norm_cast
theorem ztn1 (x:Nat):shrI .u64 (x:Int) (32:Int)=((x / 4294967296:Nat):Int):=by
 have e:=shrN x (n:=32) (by decide)
 omega
theorem zas2 {a b n m:Nat} (ha:a<=n) (hb:b<=m):a*b<=n*m:=Nat.mul_le_mul ha hb
theorem zlt2 {a b c d:Nat} (ha:a<=18446744065119617025) (hb:b<=18446744065119617025) (hc:c<=18446744065119617025) (hd:d<=18446744065119617025):
  a+(b+d / 4294967296) / 4294967296+((b+d / 4294967296)%4294967296+c) / 4294967296=(a*18446744073709551616+(b+c)*4294967296+d) / 18446744073709551616:=by
 omega
theorem put1 {b i:Nat} {cs:List Value} {v:Value} {K:Hp->Prop} (k:Blk h b cs) (hi:i<cs.length) (hk:∀h',Mv [b] h [b] h'->Blk h' b (cs.set i v)->K h'):StW h ⟨b,i,none⟩ [v] K:=
 zpz1 k (by grind) fun h' m k'=>hk h' m (by
  rw [List.set_eq_take_append_cons_drop,if_pos hi]
  simpa using k')
theorem zjq1 {x y:Nat} {Q:Int->Int->Hp->Prop} (hx:x<18446744073709551616) (hy:y<18446744073709551616) (hq:Q ((x*y / 18446744073709551616:Nat):Int) ((x*y%18446744073709551616:Nat):Int) h):zqi prog x y Q h:=by
 unfold zqi
 refine ⟨by decide,by decide,by decide,by decide,by decide,?_⟩
 rw [ztn1,ztn1,and32 hx,and32 hy]
 have hxy:x*y=(x / 4294967296*(y / 4294967296))*18446744073709551616+(x / 4294967296*(y%4294967296)+x%4294967296*(y / 4294967296))*4294967296+x%4294967296*(y%4294967296):=by
  have e1:x=x / 4294967296*4294967296+x%4294967296:=by omega
  have e2:y=y / 4294967296*4294967296+y%4294967296:=by omega
  grind
 have b1:x / 4294967296<=4294967295:=by omega
 have b2:y / 4294967296<=4294967295:=by omega
 have b3:x%4294967296<=4294967295:=by omega
 have b4:y%4294967296<=4294967295:=by omega
 have ha:=zas2 b1 b2
 have hb:=zas2 b1 b4
 have hc:=zas2 b3 b2
 have hd:=zas2 b3 b4
 have hl:IntKind.wrap .u64 ((x:Int)*(y:Int))=((x*y%18446744073709551616:Nat):Int):=by
  rw [zah,show (x:Int)*(y:Int)=((x*y:Nat):Int) by norm_cast]
  omega
 rw [hl]
 have hk:=zlt2 ha hb hc hd
 rw [<-hxy] at hk
 rw [<-hk] at hq
 have c1:((x / 4294967296:Nat):Int)*((y / 4294967296:Nat):Int)=((x / 4294967296*(y / 4294967296):Nat):Int):=by norm_cast
 have c2:((x / 4294967296:Nat):Int)*((y%4294967296:Nat):Int)=((x / 4294967296*(y%4294967296):Nat):Int):=by norm_cast
 have c3:((x%4294967296:Nat):Int)*((y / 4294967296:Nat):Int)=((x%4294967296*(y / 4294967296):Nat):Int):=by norm_cast
 have c4:((x%4294967296:Nat):Int)*((y%4294967296:Nat):Int)=((x%4294967296*(y%4294967296):Nat):Int):=by norm_cast
 rw [c1,c2,c3,c4]
 clear c1 c2 c3 c4 hk hxy hl
 generalize x / 4294967296*(y / 4294967296)=a at*
 generalize x / 4294967296*(y%4294967296)=b at*
 generalize x%4294967296*(y / 4294967296)=c at*
 generalize x%4294967296*(y%4294967296)=d at*
 have sum:∀ {u v:Nat},u+v<18446744073709551616->IntKind.wrap .u64 ((u:Int)+(v:Int))=((u+v:Nat):Int):=fun {u v} huv=>by rw [zah];omega
 rw [wrapN (a:=a) (by omega),wrapN (a:=b) (by omega),wrapN (a:=c) (by omega),wrapN (a:=d) (by omega),ztn1,sum (u:=b) (by omega),ztn1,and32 (by omega),sum (u:=(b+d / 4294967296)%4294967296) (v:=c) (by omega),ztn1,sum (u:=a) (by omega),sum (by omega)]
 exact hq
def zxb (x hi lo s:Nat):Nat:=
 let u:=x*hi / 18446744073709551616
 let mid:=x*hi%18446744073709551616
 let mid2:=x*lo / 18446744073709551616
 if u%2^s≠0 then u / 2^s ||| 1
 else (if mid<mid2 then u-1 else u) / 2^s ||| (if mid2+1<mid\/mid<mid2 then 1 else 0)
abbrev Scl (h:Hp) (b hi lo s:Nat):Prop:=Blk h b [.int .u64 (hi:Int),.int .u64 (lo:Int),.int .i64 (s:Int)]
theorem orN {x y:Nat} (hx:x<18446744073709551616) (hy:y<18446744073709551616):bitsI .or .u64 (x:Int) (y:Int)=((x ||| y:Nat):Int):=by
 unfold bitsI
 dsimp only
 have:x ||| y<2^64:=Nat.or_lt_two_pow hx hy
 rw [zrb,BitVec.toNat_or,zlx hx,zlx hy,wrapN (by omega)]
theorem zgo1 {b:Bool} {Q:Int->Hp->Prop} (hq:Q ((b.toNat:Nat):Int) h):zbl prog b Q h:=by
 unfold zbl
 grind
theorem zrt2 {s:Nat} (hs:s<64):bitsI .and .i64 (s:Int) (63:Int)=(s:Int):=by
 unfold bitsI
 dsimp only
 show IntKind.wrap .i64 (((BitVec.ofInt 64 (s:Int))&&&(BitVec.ofInt 64 63)).toNat:Int)=_
 rw [BitVec.toNat_and,zlx (by omega),show (BitVec.ofInt 64 63).toNat=2^6-1 by decide,Nat.and_two_pow_sub_one_eq_mod,zab (by omega) (by omega),Nat.mod_eq_of_lt hs]
theorem shlN {x n:Nat} (hn:n<=64) (hx:x*2^n<18446744073709551616):shlI .u64 (x:Int) (n:Int)=((x*2^n:Nat):Int):=by
 unfold shlI
 rw [show min ((n:Int)).toNat IntKind.u64.bits=n by have:IntKind.u64.bits=64:=rfl;omega,show (x:Int)*2^n=((x*2^n:Nat):Int) by norm_cast,wrapN hx]
theorem zto1 {x hi lo s b:Nat} {Q:Int->Hp->Prop} (hx:x<18446744073709551616) (hh:hi<18446744073709551616) (hl:lo<18446744073709551616) (hs:s<64) (hu:x*hi / 18446744073709551616≠0)
  (k:Scl h b hi lo s) (hq:Q ((zxb x hi lo s:Nat):Int) h):zcp prog x (some ⟨b,0,none⟩) Q h:=by
 unfold zcp
 refine zag (ld_at (sh:=shInt .u64) (hi:Int) (k.ldIs (off:=0) (n:=1) rfl) (zib (zjq1 hx hh ?_)))
 refine zag (ld_at (sh:=shInt .i64) (s:Int) (k.ldIs (off:=2) (n:=1) rfl) ?_)
 rw [zrt2 hs]
 have hul:x*hi / 18446744073709551616<18446744073709551616:=Nat.div_lt_of_lt_mul (Nat.lt_of_lt_of_le (Nat.mul_lt_mul_of_lt_of_lt hx hh) (Nat.le_refl _))
 have hml:x*hi%18446744073709551616<18446744073709551616:=Nat.mod_lt _ (by decide)
 have hm2:x*lo / 18446744073709551616<18446744073709551615:=by
  have:=Nat.mul_le_mul (Nat.le_pred_of_lt hx) (Nat.le_pred_of_lt hl)
  have:x*lo<=18446744073709551615*18446744073709551615:=this
  omega
 unfold zxb at hq
 dsimp only at hq
 have hdiv:∀ {v:Nat},v<18446744073709551616->v / 2^s<18446744073709551616:=fun hv=>Nat.lt_of_le_of_lt (Nat.div_le_self _ _) hv
 refine ⟨by omega,by omega,?_⟩
 generalize hU:x*hi / 18446744073709551616=u at*
 generalize hM:x*hi%18446744073709551616=mid at*
 have hback:u / 2^s*2^s<=u:=Nat.div_mul_le_self _ _
 rw [shrN u (by omega),shlN (by omega) (by omega)]
 have hcond:u%2^s≠0↔((u / 2^s*2^s:Nat):Int)≠(u:Int):=by
  have:=Nat.div_add_mod u (2^s)
  grind
 by_cases hc:u%2^s≠0
 ·rw [if_pos hc] at hq
  refine iteT (bne_iff_ne.2 (hcond.1 hc)) ⟨by omega,?_⟩
  rw [show (1:Int)=((1:Nat):Int) from rfl,orN (hdiv hul) (by omega)]
  exact hq
 ·rw [if_neg hc] at hq
  refine iteF (fun e=>hc (hcond.2 (bne_iff_ne.1 e))) ?_
  refine zag (ld_at (sh:=shInt .u64) (lo:Int) (k.ldIs (off:=1) (n:=1) rfl) (zib (zjq1 hx hl ?_)))
  generalize hM2:x*lo / 18446744073709551616=mid2 at*
  refine zap (zgo1 ⟨by omega,?_⟩)
  refine zap (zgo1 ?_)
  have e1:IntKind.wrap .u64 ((u:Int)-(((decide ((mid:Int)<(mid2:Int))).toNat:Nat):Int))=((if mid<mid2 then u-1 else u:Nat):Int):=by
   rw [zah]
   grind
  have e2:(((decide (IntKind.wrap .u64 ((mid:Int)-(mid2:Int))>(1:Int))).toNat:Nat):Int)=((if mid2+1<mid\/mid<mid2 then 1 else 0:Nat):Int):=by
   rw [zah]
   by_cases h1:mid2+1<mid\/mid<mid2
   ·rw [if_pos h1,decide_eq_true (by omega)];rfl
   ·rw [if_neg h1,decide_eq_false (by omega)];rfl
  rw [e1,e2,shrN _ (by omega),orN (hdiv (by split<;>omega)) (by split<;>omega)]
  exact hq
end
end Lf
namespace Lf
open Go Go.Proofs Go.Pinned
def zly (x:Int):Int:=x*78913 / 262144
def log2P (x:Int):Int:=x*108853 / 32768
def skewP (x:Int):Int:=(x*631305-261663) / 2097152
abbrev Pow10 (h:Hp):Prop:=LdIs h ⟨8,0,none⟩ (pow10Rows.flatMap fun x=> [Value.int .u64 (x.1:Int),Value.int .u64 (x.2:Int)])
theorem ztp1 :pow10Rows.length=696:=by decide+kernel
theorem zhn2 :∀x∈pow10Rows,9223372036854775808<=x.1/\x.1<18446744073709551616/\x.2<18446744073709551616:=by decide+kernel
def hiP (p:Int):Nat:=(pow10Rows.getD (p+348).toNat (0,0)).1
def loP (p:Int):Nat:=(pow10Rows.getD (p+348).toNat (0,0)).2
section
variable {h:Hp}
theorem zoc2 {p:Int} (h0: -348<=p) (h1:p<=347):pow10Rows[(p+348).toNat]? =some (hiP p,loP p):=by
 have hl:(p+348).toNat<pow10Rows.length:=by rw [ztp1];omega
 unfold hiP loP
 grind
theorem zoi1 {p:Int} (h0: -348<=p) (h1:p<=347):9223372036854775808<=hiP p/\hiP p<18446744073709551616/\loP p<18446744073709551616:=
 zhn2 _ (List.mem_of_getElem? (zoc2 h0 h1))
theorem flat2 {l:List (Nat×Nat)} {i:Nat} {x:Nat×Nat} (e:l[i]? =some x):(l.flatMap fun x=> [Value.int .u64 (x.1:Int),Value.int .u64 (x.2:Int)])[i*2]? =some (.int .u64 x.1)/\
  (l.flatMap fun x=> [Value.int .u64 (x.1:Int),Value.int .u64 (x.2:Int)])[i*2+1]? =some (.int .u64 x.2):=by
 induction l generalizing i with
 | nil=>simp at e
 | cons y l ih=>
  cases i with
  | zero=>grind
  | succ i=>
   grind
theorem zvo {h:Hp} {a:Addr} {v:Value} (e:hcell h a=some v):LdIs h a [v]:=fun i u hu=>by
 cases i with
 | zero=>cases hu;exact e
 | succ i=>simp at hu
theorem zjr1 (t:Pow10 h) {p:Int} (h0: -348<=p) (h1:p<=347):LdIs h ⟨8,(p+348).toNat*2,none⟩ [.int .u64 (hiP p:Int)]/\LdIs h ⟨8,(p+348).toNat*2+1,none⟩ [.int .u64 (loP p:Int)]:=by
 obtain ⟨e1,e2⟩:=flat2 (zoc2 h0 h1)
 have c1:=t _ _ e1
 have c2:=t _ _ e2
 rw [box_add,Nat.zero_add] at c1 c2
 exact ⟨zvo c1,zvo c2⟩
theorem zrb1 {x:Int} {Q:Int->Hp->Prop} (h0: -100000<=x) (h1:x<=100000) (hq:Q (zly x) h):zfw Tryz.prog x Q h:=by
 unfold zfw
 refine ⟨by decide,?_⟩
 rw [zab (by omega) (by omega)]
 unfold shrI
 rw [show (2:Int)^(min (18:Int).toNat IntKind.i64.bits)=262144 by decide,Int.fdiv_eq_ediv_of_nonneg _ (by decide)]
 exact hq
theorem zxo1 {x:Int} {Q:Int->Hp->Prop} (h0: -100000<=x) (h1:x<=100000) (hq:Q (log2P x) h):zfy Tryz.prog x Q h:=by
 unfold zfy
 refine ⟨by decide,?_⟩
 rw [zab (by omega) (by omega)]
 unfold shrI
 rw [show (2:Int)^(min (15:Int).toNat IntKind.i64.bits)=32768 by decide,Int.fdiv_eq_ediv_of_nonneg _ (by decide)]
 exact hq
theorem zpn2 {x:Int} {Q:Int->Hp->Prop} (h0: -100000<=x) (h1:x<=100000) (hq:Q (skewP x) h):zht Tryz.prog x Q h:=by
 unfold zht
 refine ⟨by decide,?_⟩
 rw [zab (n:=x*631305) (by omega) (by omega),zab (by omega) (by omega)]
 unfold shrI
 rw [show (2:Int)^(min (21:Int).toNat IntKind.i64.bits)=2097152 by decide,Int.fdiv_eq_ediv_of_nonneg _ (by decide)]
 exact hq
theorem zxp1 {b:Nat} {x0 x1 x2:Value} {e p lp:Int} {Q:Hp->Prop} (k:Blk h b [x0,x1,x2]) (t:Pow10 h) (hb:b≠8) (h0: -348<=p) (h1:p<=347) (hl:lp=log2P p) (s0:0<= -(e+lp+3)) (s1: -(e+lp+3)<64)
  (hk:∀h',Mv [b] h [b] h'->Scl h' b (hiP p) (loP p) (-(e+lp+3)).toNat->Q h'):zcf Tryz.prog (some ⟨b,0,none⟩) e p lp Q h:=by
 unfold zcf
 have hlp: -1200<=lp/\lp<=1200:=by subst hl;unfold log2P;omega
 have e1:IntKind.wrap .i64 (p-(-348:Int))=p+348:=by rw [zab (by omega) (by omega)];omega
 have e2:IntKind.wrap .i64 ((0:Int)-(IntKind.wrap .i64 ((IntKind.wrap .i64 (e+lp))+(3:Int))))=(((-(e+lp+3)).toNat:Nat):Int):=by
  rw [zab (n:=e+lp) (by omega) (by omega),zab (n:=e+lp+3) (by omega) (by omega),zab (by omega) (by omega)]
  omega
 rw [e1,e2]
 obtain ⟨c1,c2⟩:=zjr1 t h0 h1
 have a1:Addr.add (Addr.add ⟨8,0,none⟩ ((p+348).toNat*2)) 0=⟨8,(p+348).toNat*2,none⟩:=by rw [box_add,box_add];simp
 have a2:Addr.add (Addr.add ⟨8,0,none⟩ ((p+348).toNat*2)) 1=⟨8,(p+348).toNat*2+1,none⟩:=by rw [box_add,box_add];simp
 rw [a1,a2]
 refine ⟨⟨by omega,by omega⟩,ld_at (sh:=shInt .u64) (hiP p:Int) c1 (zag ?_)⟩
 refine put1 (i:=0) k (by simp) fun k1 m1 b1=> ?_
 have c2':=zhl2 c2 m1 (by grind)
 refine ⟨⟨by omega,by omega⟩,ld_at (sh:=shInt .u64) (loP p:Int) c2' (zag ?_)⟩
 refine put1 (i:=1) b1 (by simp) fun k2 m2 b2=> ?_
 refine zag (put1 (i:=2) b2 (by simp) fun k3 m3 b3=> ?_)
 exact hk k3 (m1.trans (m2.trans m3)) b3
end
def zrp (u:Nat) (odd:Bool) (up:Bool):Nat:=if odd then (if up then u+1 else u+18446744073709551615)%18446744073709551616 else u
def zgp1 (u:Nat):Nat:=(u+1+u / 4%2)%18446744073709551616 / 4
def zP (e:Int):Nat:=if -1085<=e then 11 else (11+(-1085-e)).toNat
def pP (m:Nat) (e:Int):Int:=if m=9223372036854775808/\ -1085<e then -skewP (e+11) else -zly (e+zP e)
def minP (m:Nat) (e:Int):Nat:=if m=9223372036854775808/\ -1085<e then m-512 else m-2^(zP e-1)
def maxP (m:Nat) (e:Int):Nat:=m+2^(zP e-1)
def oddP (m:Nat) (e:Int):Bool:=m / 2^zP e%2==1
def sclP (m:Nat) (e:Int) (x:Nat):Nat:=zxb x (hiP (pP m e)) (loP (pP m e)) (-(e+log2P (pP m e)+3)).toNat
def dminP (m:Nat) (e:Int):Nat:=(zrp (sclP m e (minP m e)) (oddP m e) true+3)%18446744073709551616 / 4
def dmaxP (m:Nat) (e:Int):Nat:=zrp (sclP m e (maxP m e)) (oddP m e) false / 4
def zbh (m:Nat) (e:Int):Nat×Int:=
 if dminP m e<=dmaxP m e / 10*10 then (dmaxP m e / 10, -(pP m e-1))
 else if dminP m e<dmaxP m e then (zgp1 (sclP m e m), -pP m e)
 else (dminP m e, -pP m e)
theorem p_in {m:Nat} {e:Int} (h0: -1137<=e) (h1:e<=974): -348<=pP m e/\pP m e<=347/\0<= -(e+log2P (pP m e)+3)/\ -(e+log2P (pP m e)+3)<64:=by
 unfold pP
 split
 ·unfold skewP log2P
  omega
 ·unfold zP zly log2P
  split<;>omega
section
variable {h:Hp}
theorem zat2 {u:Nat} {d:Int} {odd up:Bool} {Q:Int->Hp->Prop} (hu:u<18446744073709551616) (hd:d=if odd then (if up then 1 else -1) else 0) (hq:Q ((zrp u odd up:Nat):Int) h):zdg Tryz.prog u d Q h:=by
 unfold zdg
 unfold zrp at hq
 subst hd
 rw [zah,zah]
 grind
theorem shr2N (x:Nat):shrI .u64 (x:Int) (2:Int)=((x / 4:Nat):Int):=shrN x (n:=2) (by decide)
theorem zpo2 {u:Nat} {Q:Int->Hp->Prop} (hq:Q (((u+3)%18446744073709551616 / 4:Nat):Int) h):zdm Tryz.prog u Q h:=by
 unfold zdm
 rw [show IntKind.wrap .u64 ((u:Int)+(3:Int))=(((u+3)%18446744073709551616:Nat):Int) by rw [zah];omega,shr2N]
 grind
theorem zlu2 {u:Nat} {Q:Int->Hp->Prop} (hu:u<18446744073709551616) (hq:Q ((u / 4:Nat):Int) h):zdh Tryz.prog u Q h:=by
 unfold zdh
 simp only [Int.add_zero,wrapN hu,shr2N]
 grind
theorem zjs1 {u:Nat} {Q:Int->Hp->Prop} (hu:u<18446744073709551616) (hq:Q ((zgp1 u:Nat):Int) h):zdi Tryz.prog u Q h:=by
 unfold zdi
 have e1:bitsI .and .u64 (shrI .u64 (u:Int) (2:Int)) (1:Int)=((u / 4%2:Nat):Int):=by
  rw [shr2N]
  have:=zar2 (a:=u / 4) 1 (by omega) (by decide)
  exact this
 rw [e1]
 have e2:IntKind.wrap .u64 (IntKind.wrap .u64 ((u:Int)+(1:Int))+((u / 4%2:Nat):Int))=(((u+1+u / 4%2)%18446744073709551616:Nat):Int):=by rw [zah,zah];omega
 rw [e2,shr2N]
 exact ⟨by decide,by decide,hq⟩
end
end Lf
namespace Lf
open Go.Pinned
theorem zxq1 {F N x B D U:Nat} (h1:(N-x)*B<F) (h2:F<=N*B) (u0:U*D<=N-x) (u1:N<(U+1)*D):F / (B*D)=U/\¬B*D ∣ F:=by
 have a1:=Nat.mul_le_mul_right B u0
 have a2:N*B<(U+1)*D*B\/B=0:=by
  rcases Nat.eq_zero_or_pos B with hb | hb
  ·exact .inr hb
  ·exact .inl (Nat.mul_lt_mul_of_pos_right u1 hb)
 rcases a2 with a2 | hb
 ·have e1:U*D*B=U*(B*D):=by rw [Nat.mul_assoc,Nat.mul_comm D]
  have e2:(U+1)*D*B=(U+1)*(B*D):=by rw [Nat.mul_assoc,Nat.mul_comm D]
  rw [e1] at a1
  rw [e2] at a2
  have e3:(U+1)*(B*D)=U*(B*D)+B*D:=by rw [Nat.add_mul,Nat.one_mul]
  refine ⟨Nat.div_eq_of_lt_le (by omega) (by omega),fun ⟨j,hj⟩=> ?_⟩
  have l1:U*(B*D)<B*D*j:=by omega
  have l2:B*D*j<(U+1)*(B*D):=by omega
  rw [Nat.mul_comm] at l1
  have g1:U<j:=Nat.lt_of_mul_lt_mul_left l1
  rw [Nat.mul_comm (U+1)] at l2
  have g2:j<U+1:=Nat.lt_of_mul_lt_mul_left l2
  omega
 grind
def WholeOk (F N B D:Nat):Prop:=N%D<=18446744073709551616\/D-18446744073709551616<N%D->B*D ∣ F
def zaw (F G:Nat):Nat:=F / G ||| (if G ∣ F then 0 else 1)
theorem ziu1 {x hi lo s A B:Nat} (hx:0<x) (hx1:x<18446744073709551616) (hl:lo<18446744073709551616)
  (r1:(hi*18446744073709551616-lo-1)*B<A) (r2:A<=(hi*18446744073709551616-lo)*B)
  (hc:WholeOk (x*A) (x*(hi*18446744073709551616-lo)) B (2^128*2^s)) (hu:x*hi / 18446744073709551616≠0):
  zxb x hi lo s=zaw (x*A) (B*(2^128*2^s)):=by
 have hB:0<B:=by
  grind
 generalize hP:hi*18446744073709551616-lo=P at*
 have hN:x*P=x*hi*18446744073709551616-x*lo:=by rw [<-hP,Nat.mul_sub,Nat.mul_assoc]
 have f1:(x*P-x)*B<x*A:=by
  have e:x*P-x=x*(P-1):=by rw [Nat.mul_sub,Nat.mul_one]
  rw [e,Nat.mul_assoc]
  exact Nat.mul_lt_mul_of_pos_left r1 hx
 have f2:x*A<=x*P*B:=by
  rw [Nat.mul_assoc]
  exact Nat.mul_le_mul_left x r2
 generalize x*A=F at*
 have hxl:x*lo+x<=x*18446744073709551616:=by
  have:=Nat.mul_le_mul_left x (show lo+1<=18446744073709551616 by omega)
  omega
 generalize hD:2^128*2^s=D at*
 have hS:0<2^s:=Nat.two_pow_pos s
 have hD':D=340282366920938463463374607431768211456*2^s:=by rw [<-hD]
 generalize hT:2^s=T at*
 unfold zxb
 dsimp only
 rw [hT]
 generalize hU:x*hi / 18446744073709551616=u at*
 generalize hM:x*hi%18446744073709551616=mid at*
 generalize hM2:x*lo / 18446744073709551616=mid2 at*
 have ehi:x*hi=u*18446744073709551616+mid:=by omega
 have elo:x*lo=mid2*18446744073709551616+x*lo%18446744073709551616:=by omega
 have rlt:x*lo%18446744073709551616<18446744073709551616:=Nat.mod_lt _ (by decide)
 generalize x*lo%18446744073709551616=r at*
 generalize x*lo=X at*
 generalize x*hi=Y at*
 generalize hNN:x*P=N at*
 have eU:=Nat.div_add_mod u T
 have tlt:=Nat.mod_lt u hS
 have eUD:T*(u / T)*340282366920938463463374607431768211456=(u / T)*D:=by grind
 have eUD1:(u / T+1)*D=(u / T)*D+D:=by grind
 have eD:D=T*340282366920938463463374607431768211456:=by omega
 have eb:u%T=0->u / T≠0->(u-1) / T=u / T-1:=fun c1 hu0=>by
  obtain ⟨k,hk⟩:=Nat.exists_eq_succ_of_ne_zero hu0
  have e:=eU
  rw [hk,c1,Nat.mul_succ] at e
  rw [hk,show u-1=T*k+(T-1) by omega,Nat.mul_add_div hS,Nat.div_eq_of_lt (show T-1<T by omega)]
  rfl
 have hu0:u%T=0->u / T≠0:=fun h0 h=>by grind
 generalize hV:u / T=V at*
 by_cases c1:u%T≠0
 ·rw [if_pos c1]
  obtain ⟨g1,g2⟩:=zxq1 (U:=V) (D:=D) f1 f2 (by omega) (by omega)
  unfold zaw
  rw [g1,if_neg g2]
 ·rw [if_neg c1]
  have hu0:=hu0 (by omega)
  have eb:=eb (by omega) hu0
  by_cases c2:mid<mid2
  ·rw [if_pos c2,if_pos (.inr c2)]
   have eU1:(V-1+1)*D=(V-1)*D+D:=by rw [Nat.add_mul,Nat.one_mul]
   have eU2:V-1+1=V:=by omega
   rw [eU2] at eU1
   obtain ⟨g1,g2⟩:=zxq1 (U:=V-1) (D:=D) f1 f2 (by omega) (by rw [eU2];omega)
   unfold zaw
   grind
  ·rw [if_neg c2,hV]
   by_cases c3:mid2+1<mid
   ·rw [if_pos (.inl c3)]
    obtain ⟨g1,g2⟩:=zxq1 (U:=V) (D:=D) f1 f2 (by omega) (by omega)
    unfold zaw
    rw [g1,if_neg g2]
   ·rw [if_neg (fun h=>by omega)]
    have hdv:B*D ∣ F:=by
     refine hc ?_
     by_cases c4:(V)*D<=N
     ·left
      have:N=(V)*D+(N-(V)*D):=by omega
      rw [this,Nat.add_comm,Nat.add_mul_mod_self_right,Nat.mod_eq_of_lt (by omega)]
      omega
     ·right
      have eU1:(V-1+1)*D=(V-1)*D+D:=by rw [Nat.add_mul,Nat.one_mul]
      rw [show V-1+1=V by omega] at eU1
      have:N=(V-1)*D+(N-(V-1)*D):=by omega
      rw [this,Nat.add_comm,Nat.add_mul_mod_self_right,Nat.mod_eq_of_lt (by omega)]
      omega
    unfold zaw
    rw [if_pos hdv]
    obtain ⟨j,rfl⟩:=hdv
    have hBD:0<B*D:=Nat.mul_pos hB (by rw [eD];omega)
    rw [Nat.mul_div_cancel_left _ hBD]
    have ej:B*D*j=j*D*B:=by grind
    rw [ej] at f1 f2
    have j1:N-x<j*D:=Nat.lt_of_mul_lt_mul_right f1
    have j2:j*D<=N:=Nat.le_of_mul_le_mul_right f2 hB
    have:j=V:=by
     have t1:j*D<(V+1)*D:=by omega
     have t1:=Nat.lt_of_mul_lt_mul_right t1
     have eU1:(V-1+1)*D=(V-1)*D+D:=by rw [Nat.add_mul,Nat.one_mul]
     have eU2:V-1+1=V:=by omega
     rw [eU2] at eU1
     have t2:(V-1)*D<j*D:=by omega
     have t2:=Nat.lt_of_mul_lt_mul_right t2
     omega
    rw [this]
def cfOk :Nat->Nat->Nat->Nat->Nat->Nat->Nat->Bool
 | 0,_,_,_,_,_,_=>false
 | fuel+1,k1,d1,k2,d2,Y,W=>
  if Y<=k1+k2 then decide (W<d1)&&decide (W<=d2)
  else if d2<d1 then
   let q:=min ((d1-1) / d2) ((Y-k1-k2-1) / k2+1)
   cfOk fuel (k1+q*k2) (d1-q*d2) k2 d2 Y W
  else
   let q:=min ((d2-1) / d1) ((Y-k1-k2-1) / k1+1)
   cfOk fuel k1 d1 (k2+q*k1) (d2-q*d1) Y W
theorem zpp2 {a M k1 d1 k2 d2 c1 c2 y n r:Int} (hM:0<M) (p1:0<=k1) (p2:0<=k2) (q1:0<d1) (q2:0<d2) (e0:k1*d2+k2*d1=M) (e1:k1*a=d1+c1*M) (e2:k2*a=c2*M-d2)
  (hy:0<y) (hr:y*a=n*M+r) (h:(0<=r/\r<d1)\/(r<0/\ -d2<r)):k1+k2<=y:=by
 have x1:(y*c2-k2*n)*M=y*d2+k2*r:=by grind
 have x2:(k1*n-y*c1)*M=y*d1-k1*r:=by grind
 have u1:(c2*k1-c1*k2)*M=1*M:=by grind
 have u1:c2*k1-c1*k2=1:=Int.eq_of_mul_eq_mul_right (by omega) u1
 have u2:(c2*d1+c1*d2)*M=a*M:=by grind
 have u2:c2*d1+c1*d2=a:=Int.eq_of_mul_eq_mul_right (by omega) u2
 have y1:y=(y*c2-k2*n)*k1+(k1*n-y*c1)*k2:=by grind
 have r1:r=(y*c2-k2*n)*d1-(k1*n-y*c1)*d2:=by grind
 generalize y*c2-k2*n=α at*
 generalize k1*n-y*c1=β at*
 have yd2:0<y*d2:=Int.mul_pos hy q2
 have yd1:0<y*d1:=Int.mul_pos hy q1
 have pos:∀ {z:Int},0<z*M->1<=z:=fun {z} hz=>by
  rcases Int.lt_or_le 0 z with h | h
  ·omega
  ·have:=Int.mul_nonpos_of_nonpos_of_nonneg h (show 0<=M by omega)
   omega
 have both:1<=α->1<=β->k1+k2<=y:=fun ha hb=>by
  have t1:=Int.mul_le_mul_of_nonneg_right ha p1
  have t2:=Int.mul_le_mul_of_nonneg_right hb p2
  omega
 rcases h with ⟨h0,h1⟩ | ⟨h0,h1⟩
 ·have k2r:0<=k2*r:=Int.mul_nonneg p2 h0
  have ha:1<=α:=pos (by omega)
  refine both ha ?_
  rcases Int.lt_or_le 0 β with hb | hb
  ·omega
  ·have t1:=Int.mul_le_mul_of_nonneg_right ha (show 0<=d1 by omega)
   have t2:=Int.mul_nonpos_of_nonpos_of_nonneg hb (show 0<=d2 by omega)
   omega
 ·have k1r:0<=k1*(-r):=Int.mul_nonneg p1 (by omega)
  rw [Int.mul_neg] at k1r
  have hb:1<=β:=pos (by omega)
  refine both ?_ hb
  rcases Int.lt_or_le 0 α with ha | ha
  ·omega
  ·have t1:=Int.mul_le_mul_of_nonneg_right hb (show 0<=d2 by omega)
   have t2:=Int.mul_nonpos_of_nonpos_of_nonneg ha (show 0<=d1 by omega)
   omega
theorem zru2 {a M Y W:Nat} (hM:0<M):∀(fuel k1 d1 k2 d2:Nat) (c1 c2:Int),cfOk fuel k1 d1 k2 d2 Y W=true->0<d1->0<d2->k1*d2+k2*d1=M->(k1:Int)*a=d1+c1*M->(k2:Int)*a=c2*M-d2->
  ∀y,0<y->y<Y->W<y*a%M/\y*a%M+W<=M:=by
 intro fuel
 induction fuel with
 | zero=>intro _ _ _ _ _ _ h;cases h
 | succ fuel ih=>
  intro k1 d1 k2 d2 c1 c2 h q1 q2 e0 e1 e2 y y0 y1
  unfold cfOk at h
  by_cases hY:Y<=k1+k2
  ·rw [if_pos hY,Bool.and_eq_true] at h
   have w1:=of_decide_eq_true h.1
   have w2:=of_decide_eq_true h.2
   have hdm:=Nat.div_add_mod (y*a) M
   have hlt:=Nat.mod_lt (y*a) hM
   have e0':(k1:Int)*d2+k2*d1=M:=by omega
   have go:=fun (n r:Int) (hr:(y:Int)*a=n*M+r) hc=>zpp2 (n:=n) (r:=r) (by omega) (by omega) (by omega) (by omega) (by omega) e0' e1 e2 (show 0<(y:Int) by omega) hr hc
   constructor
   ·refine Classical.byContradiction fun hh=> ?_
    have:=go ((y*a / M:Nat):Int) ((y*a%M:Nat):Int) (by grind) (.inl ⟨by omega,by omega⟩)
    omega
   ·refine Classical.byContradiction fun hh=> ?_
    have:=go ((y*a / M:Nat)+1:Int) (((y*a%M:Nat):Int)-M) (by
     grind) (.inr ⟨by omega,by omega⟩)
    omega
  ·rw [if_neg hY] at h
   by_cases hd:d2<d1
   ·rw [if_pos hd] at h
    dsimp only at h
    have hq:min ((d1-1) / d2) ((Y-k1-k2-1) / k2+1)<=(d1-1) / d2:=Nat.min_le_left _ _
    generalize min ((d1-1) / d2) ((Y-k1-k2-1) / k2+1)=q at*
    have hq:q*d2<=d1-1:=Nat.le_trans (Nat.mul_le_mul_right _ hq) (Nat.div_mul_le_self _ _)
    refine ih _ _ _ _ (c1+q*c2) c2 h (by omega) q2 ?_ ?_ e2 y y0 y1
    ·rw [Nat.add_mul,Nat.mul_sub,<-e0]
     have:k2*(q*d2)<=k2*d1:=Nat.mul_le_mul_left _ (by omega)
     have:q*k2*d2=k2*(q*d2):=by rw [Nat.mul_comm q,Nat.mul_assoc]
     omega
    ·rw [Int.natCast_sub (by omega)]
     push_cast
     grind
   ·rw [if_neg hd] at h
    dsimp only at h
    have hq:min ((d2-1) / d1) ((Y-k1-k2-1) / k1+1)<=(d2-1) / d1:=Nat.min_le_left _ _
    generalize min ((d2-1) / d1) ((Y-k1-k2-1) / k1+1)=q at*
    have hq:q*d1<=d2-1:=Nat.le_trans (Nat.mul_le_mul_right _ hq) (Nat.div_mul_le_self _ _)
    refine ih _ _ _ _ c1 (c2+q*c1) h q1 (by omega) ?_ e1 ?_ y y0 y1
    ·rw [Nat.add_mul,Nat.mul_sub,<-e0]
     have:k1*(q*d1)<=k1*d2:=Nat.mul_le_mul_left _ (by omega)
     have:q*k1*d1=k1*(q*d1):=by rw [Nat.mul_comm q,Nat.mul_assoc]
     omega
    ·rw [Int.natCast_sub (by omega)]
     push_cast
     grind
def numP (p:Int):Nat:=10^p.toNat*2^(127-log2P p).toNat
def denP (p:Int):Nat:=10^(-p).toNat*2^(log2P p-127).toNat
def pmP (p:Int):Nat:=hiP p*18446744073709551616-loP p
def certP (p:Int) (s t:Nat):Bool:=
 let M:=2^(128+s-t)
 decide (36893488147419103232*denP p<=Nat.gcd (2^t*numP p) (denP p*(2^128*2^s))) ||
 (decide (0<pmP p%M)&&cfOk 200 1 (pmP p%M) 0 M (2^(64-t)) (2^(64-t)))
theorem ztq1 {x A B N D g:Nat} (hx1:x<18446744073709551616) (f1:(N-x)*B<x*A) (f2:x*A<=N*B) (hg:g ∣ x*A) (hg2:g ∣ B*D) (big:36893488147419103232*B<=g) (hD:18446744073709551616<D) (hB:0<B):WholeOk (x*A) N B D:=by
 intro h
 have hdm:=Nat.div_add_mod N D
 have hlt:=Nat.mod_lt N (show 0<D by omega)
 generalize x*A=F at*
 obtain ⟨f,rfl⟩:=hg
 obtain ⟨b,hb⟩:=hg2
 have hg0:0<g:=by omega
 have near:∀j:Nat,g*f<j*(B*D)+g->j*(B*D)<g*f+g->g*f=j*(B*D):=fun j h1 h2=>by
  rw [hb] at h1 h2 ⊢
  have e:j*(g*b)=g*(j*b):=by rw [<-Nat.mul_assoc,Nat.mul_comm j,Nat.mul_assoc]
  rw [e] at h1 h2 ⊢
  have h1:g*f<g*(j*b+1):=by rw [Nat.mul_add,Nat.mul_one];exact h1
  have h2:g*(j*b)<g*(f+1):=by rw [Nat.mul_add,Nat.mul_one];exact h2
  have h1:=Nat.lt_of_mul_lt_mul_left h1
  have h2:=Nat.lt_of_mul_lt_mul_left h2
  grind
 have xB:x*B<=18446744073709551615*B:=Nat.mul_le_mul_right B (by omega)
 have nB:(N-x)*B=N*B-x*B:=Nat.sub_mul _ _ _
 have eN:N*B=N / D*(B*D)+N%D*B:=by
  grind
 rcases h with h | h
 ·have t1:N%D*B<=18446744073709551616*B:=Nat.mul_le_mul_right B h
  exact ⟨N / D,by rw [near (N / D) (by omega) (by omega),Nat.mul_comm]⟩
 ·have e1:(N / D+1)*(B*D)=N / D*(B*D)+B*D:=by grind
  have t1:(D-18446744073709551616)*B<=N%D*B:=Nat.mul_le_mul_right B (by omega)
  rw [Nat.sub_mul] at t1
  have t2:N%D*B<=D*B:=Nat.mul_le_mul_right B (by omega)
  have t3:18446744073709551616*B<=D*B:=Nat.mul_le_mul_right B (by omega)
  have e2:D*B=B*D:=Nat.mul_comm _ _
  exact ⟨N / D+1,by rw [near (N / D+1) (by omega) (by omega),Nat.mul_comm]⟩
def rowOk (p:Int):Bool:=decide ((pmP p-1)*denP p<numP p)&&decide (numP p<=pmP p*denP p)
theorem zpq2 :∀i:Nat,i<696->rowOk ((i:Int)-348)=true:=by decide+kernel
theorem zho2 {p:Int} (h0: -348<=p) (h1:p<=347):(pmP p-1)*denP p<numP p/\numP p<=pmP p*denP p:=by
 have:=zpq2 (p+348).toNat (by omega)
 rw [show (((p+348).toNat:Nat):Int)-348=p by omega] at this
 unfold rowOk at this
 grind
theorem zoj1 {p:Int} {s t y:Nat} (h0: -348<=p) (h1:p<=347) (ht:t<64) (hc:certP p s t=true) (hy:0<y) (hy1:y<2^(64-t)):
  WholeOk (2^t*y*numP p) (2^t*y*pmP p) (denP p) (2^128*2^s):=by
 obtain ⟨r1,r2⟩:=zho2 h0 h1
 have hB:0<denP p:=by
  rcases Nat.eq_zero_or_pos (denP p) with h | h
  ·rw [h] at r1 r2;omega
  ·exact h
 have hx1:2^t*y<18446744073709551616:=by
  have:=Nat.mul_lt_mul_of_pos_left hy1 (Nat.two_pow_pos t)
  rw [<-Nat.pow_add,show t+(64-t)=64 by omega] at this
  exact this
 have hx:0<2^t*y:=Nat.mul_pos (Nat.two_pow_pos t) hy
 have hD:18446744073709551616<2^128*2^s:=by
  grind
 unfold certP at hc
 dsimp only at hc
 rw [Bool.or_eq_true,Bool.and_eq_true] at hc
 rcases hc with hc | ⟨hc1,hc2⟩
 ·have hc:=of_decide_eq_true hc
  refine ztq1 (g:=Nat.gcd (2^t*numP p) (denP p*(2^128*2^s))) hx1 ?_ ?_ ?_ (Nat.gcd_dvd_right _ _) hc hD hB
  ·have e:2^t*y*pmP p-2^t*y=2^t*y*(pmP p-1):=by rw [Nat.mul_sub,Nat.mul_one]
   rw [e,Nat.mul_assoc]
   exact Nat.mul_lt_mul_of_pos_left r1 hx
  ·rw [Nat.mul_assoc (2^t*y)]
   exact Nat.mul_le_mul_left _ r2
  ·refine Nat.dvd_trans (Nat.gcd_dvd_left _ _) ⟨y,?_⟩
   grind
 ·have hc1:=of_decide_eq_true hc1
  intro hw
  exfalso
  have hM:0<2^(128+s-t):=Nat.two_pow_pos _
  have eD:2^128*2^s=2^t*2^(128+s-t):=by rw [<-Nat.pow_add,<-Nat.pow_add];congr 1;omega
  generalize 2^(128+s-t)=M at*
  have lt:=Nat.mod_lt (pmP p) hM
  have hdm:=Nat.div_add_mod (pmP p) M
  have far:=zru2 hM 200 1 (pmP p%M) 0 M (a:=pmP p) ((pmP p / M:Nat):Int) 1 hc2 hc1 hM (by omega) (by
   have:(pmP p:Int)=((M:Nat):Int)*((pmP p / M:Nat):Int)+((pmP p%M:Nat):Int):=by norm_cast;exact hdm.symm
   rw [Int.mul_comm _ ((M:Nat):Int),this]
   omega) (by omega) y hy hy1
  have eW:18446744073709551616=2^t*2^(64-t):=by rw [<-Nat.pow_add,show t+(64-t)=64 by omega]
  rw [eD,Nat.mul_assoc,Nat.mul_mod_mul_left,eW,<-Nat.mul_sub] at hw
  rcases hw with hw | hw
  ·have:=Nat.le_of_mul_le_mul_left hw (Nat.two_pow_pos t)
   omega
  ·have:=Nat.lt_of_mul_lt_mul_left hw
   omega
end Lf
namespace Lf
def certE (e p:Int):Bool:=certP p (-(e+log2P p+3)).toNat 9
def certS (i:Nat):Bool:=certE ((i:Int)-1085) (-zly ((i:Int)-1074))&&certE ((i:Int)-1085) (-skewP ((i:Int)-1074))
theorem zau2 :∀i:Nat,i<2060->certS i=true:=by decide+kernel
end Lf
namespace Lf
open Go Go.Proofs Go.Pinned
section
variable {h:Hp}
theorem Pow10.known (t:Pow10 h):h 8≠none:=by
 have e:=t 0 (.int .u64 ((pow10Rows.getD 0 (0,0)).1:Int)) (by
  have:=(flat2 (l:=pow10Rows) (i:=0) (x:=pow10Rows.getD 0 (0,0)) (by
   have hl:0<pow10Rows.length:=by rw [ztp1];decide
   grind)).1
  exact this)
 obtain ⟨o,ho⟩:=zfj1 e
 have ho:h 8=some o:=ho
 rw [ho]
 simp
theorem andi1 {s:Nat} (hs:s<9223372036854775808):bitsI .and .i64 (IntKind.wrap .i64 (s:Int)) (1:Int)=((s%2:Nat):Int):=by
 rw [zab (by omega) (by omega)]
 unfold bitsI
 dsimp only
 show IntKind.wrap .i64 (((BitVec.ofInt 64 (s:Int))&&&(BitVec.ofInt 64 1)).toNat:Int)=_
 rw [BitVec.toNat_and,zlx (by omega),show (BitVec.ofInt 64 1).toNat=2^1-1 by decide,Nat.and_two_pow_sub_one_eq_mod,zab (by omega) (by omega),Nat.pow_one]
theorem zpr2 {n:Nat}:((n%2:Nat):Int)=if (n%2==1)=true then 1 else 0:=by
 grind
theorem zok1 {x hi lo s:Nat} (hx:x<18446744073709551616) (hh:hi<18446744073709551616):zxb x hi lo s<18446744073709551616:=by
 have hul:x*hi / 18446744073709551616<18446744073709551616:=Nat.div_lt_of_lt_mul (Nat.lt_of_lt_of_le (Nat.mul_lt_mul_of_lt_of_lt hx hh) (Nat.le_refl _))
 have hdiv:∀ {v:Nat},v<18446744073709551616->v / 2^s<18446744073709551616:=fun hv=>Nat.lt_of_le_of_lt (Nat.div_le_self _ _) hv
 have o1:∀ {v k:Nat},v<18446744073709551616->k<18446744073709551616->v ||| k<18446744073709551616:=fun {v k} hv hk=>Nat.or_lt_two_pow (n:=64) hv hk
 unfold zxb
 dsimp only
 split
 ·exact o1 (hdiv hul) (by omega)
 grind
theorem zav2 {u:Nat} {a b:Bool} (hu:u<18446744073709551616):zrp u a b<18446744073709551616:=by
 unfold zrp
 grind
theorem zjt1 {x hi:Nat} (hx:2305843009213693952<=x) (hh:9223372036854775808<=hi):x*hi / 18446744073709551616≠0:=by
 have:=Nat.mul_le_mul hx hh
 omega
theorem zlv2 {m:Nat} {e:Int} {Q:Int->Int->Hp->Prop} (m0:9223372036854775808<=m) (m1:m+2^zP e<=18446744073709551616) (h0: -1137<=e) (h1:e<=974) (t:Pow10 h)
  (hk:∀h',h<=h'->Q ((zbh m e).1:Int) (zbh m e).2 h'):zck Tryz.prog m e Q h:=by
 obtain ⟨p0,p1,s0,s1⟩:=p_in (m:=m) h0 h1
 have hz:11<=zP e/\zP e<=63:=by unfold zP;split<;>omega
 have hz1:2^zP e=2*2^(zP e-1):=by rw [<-Nat.pow_succ'];congr 1;omega
 have hzm:2^(zP e-1)<=4611686018427387904:=by
  omega
 have hz0:1024<=2^(zP e-1):=by
  have:2^10<=2^(zP e-1):=Nat.pow_le_pow_right (by decide) (by omega)
  exact this
 have hodd:∀ {z:Int},z=(zP e:Int)->bitsI .and .i64 (IntKind.wrap .i64 (shrI .u64 (m:Int) z)) (1:Int)=if oddP m e=true then 1 else 0:=fun {z} hz'=>by
  subst hz'
  rw [shrN m (by omega),andi1,zpr2]
  ·rfl
  ·have:m / 2^zP e<=m / 2^11:=Nat.div_le_div_left (Nat.pow_le_pow_right (by decide) hz.1) (by decide)
   omega
 have one:∀ {z:Int} (n:Nat),z=(n:Int)->n<=62->shlI .u64 (1:Int) z=((2^n:Nat):Int):=fun {z} n hn hl=>by
  subst hn
  have:=shlN (x:=1) (n:=n) (by omega) (by
   have:2^n<=2^62:=Nat.pow_le_pow_right (by decide) hl
   omega)
  grind
 unfold zck
 refine JoinW2.direct ?_
 dsimp only
 rw [show IntKind.wrap .i64 ((63:Int)-(52:Int))=11 by decide]
 refine JoinW4.intro (fun p mn mx od k=>k=h/\p=pP m e/\mn=((minP m e:Nat):Int)/\mx=((maxP m e:Nat):Int)/\od=if oddP m e=true then 1 else 0) (letW ?_) ?_
 ·by_cases hc:m=9223372036854775808/\ -1085<e
  ·have hze:zP e=11:=by unfold zP;rw [if_pos (by omega)]
   refine iteT (by rw [Bool.and_eq_true];exact ⟨by rw [beq_iff_eq];omega,decide_eq_true (by omega)⟩) ?_
   rw [zab (n:=e+11) (by omega) (by omega)]
   refine zto (zpn2 (by omega) (by omega) ⟨by decide,by decide,by decide,rfl,?_,?_,?_,?_⟩)
   ·have: -5000<=skewP (e+11)/\skewP (e+11)<=5000:=by unfold skewP;omega
    rw [zab (by omega) (by omega)]
    unfold pP
    rw [if_pos hc]
    omega
   ·rw [one 9 (by decide) (by decide),zah]
    unfold minP
    rw [if_pos hc]
    omega
   ·rw [one 10 (by decide) (by decide),zah]
    unfold maxP
    rw [hze]
    omega
   grind
  ·refine iteF (fun hh=>hc (by grind)) ?_
   have hp:pP m e= -zly (e+(zP e:Int)):=by unfold pP;rw [if_neg hc]
   have hmn:minP m e=m-2^(zP e-1):=by unfold minP;rw [if_neg hc]
   by_cases hd: -1085<=e
   ·have hze:zP e=11:=by unfold zP;rw [if_pos hd]
    refine iteT (decide_eq_true hd) ?_
    rw [zab (n:=e+11) (by omega) (by omega)]
    refine zee (zrb1 (by omega) (by omega) ⟨by decide,by decide,by decide,rfl,?_,?_,?_,?_⟩)
    ·have: -5000<=zly (e+11)/\zly (e+11)<=5000:=by unfold zly;omega
     rw [zab (by omega) (by omega),hp,hze,Int.zero_sub]
     rfl
    ·rw [one 10 (by decide) (by decide),zah,hmn,hze]
     omega
    ·rw [one 10 (by decide) (by decide),zah]
     unfold maxP
     rw [hze]
     omega
    grind
   ·have hze:(zP e:Int)=11+(-1085-e):=by unfold zP;grind
    refine iteF (fun hh=>hd (of_decide_eq_true hh)) ?_
    have e1:IntKind.wrap .i64 ((11:Int)+IntKind.wrap .i64 ((-1085:Int)-e))=(zP e:Int):=by rw [zab (n:= -1085-e) (by omega) (by omega),zab (by omega) (by omega),hze]
    have e2:IntKind.wrap .i64 ((zP e:Int)-1)=((zP e-1:Nat):Int):=by rw [zab (by omega) (by omega)];omega
    rw [e1,e2,zab (n:=e+(zP e:Int)) (by omega) (by omega)]
    refine zee (zrb1 (by omega) (by omega) ⟨by omega,by omega,by omega,rfl,?_,?_,?_,?_⟩)
    ·have: -5000<=zly (e+(zP e:Int))/\zly (e+(zP e:Int))<=5000:=by omega
     rw [zab (by omega) (by omega),hp]
     omega
    ·rw [one (zP e-1) rfl (by omega),zah,hmn]
     omega
    ·rw [one (zP e-1) rfl (by omega),zah]
     unfold maxP
     omega
    ·exact hodd rfl
 ·rintro p mn mx od k ⟨rfl,rfl,rfl,rfl,rfl⟩
  have bn:2305843009213693952<=minP m e/\minP m e<18446744073709551616:=by unfold minP;split<;>omega
  have bx:2305843009213693952<=maxP m e/\maxP m e<18446744073709551616:=by unfold maxP;omega
  obtain ⟨r0,r1,r2⟩:=zoi1 p0 p1
  intro b ty hb
  have hb11:b≠8:=fun e1=>t.known (e1▸hb)
  have hle:=zji (o:=.cells #[.int .u64 (0:Int),.int .u64 (0:Int),.int .i64 (0:Int)] ty (0,0)) hb
  have kb:Blk (k.set b (.cells #[.int .u64 (0:Int),.int .u64 (0:Int),.int .i64 (0:Int)] ty (0,0))) b [.int .u64 (0:Int),.int .u64 (0:Int),.int .i64 (0:Int)]:=⟨ty,zdu⟩
  refine zeg (zxo1 (by omega) (by omega) ?_)
  refine zeu (zxp1 kb (zbc hle t) hb11 p0 p1 rfl s0 s1 fun k1 mv sc=> ?_)
  have hle1:k<=k1:=fun c o hc=>mv.keep c o (hle c o hc) (by
   grind)
  have scale:∀ {x:Nat} {Q':Int->Hp->Prop},2305843009213693952<=x->x<18446744073709551616->Q' ((sclP m e x:Nat):Int) k1->CallT Tryz.prog zbx [(.int .u64 (x:Int)),(.pointer (some ⟨b,0,none⟩))] (shInt .u64) Q' k1:=fun {x Q'} x0 x1 hq=>
   zga (zto1 x1 r1 r2 (by omega) (zjt1 x0 r0) sc hq)
  have slt:∀ {x:Nat},x<18446744073709551616->sclP m e x<18446744073709551616:=fun hx=>zok1 hx r1
  refine scale bn.1 bn.2 ?_
  refine zfi (zat2 (odd:=oddP m e) (up:=true) (slt bn.2) (by simp) ?_)
  refine zng (zpo2 ?_)
  refine scale bx.1 bx.2 ?_
  refine zfi (zat2 (odd:=oddP m e) (up:=false) (slt bx.2) (by cases oddP m e<;>decide) ?_)
  refine zmr (zlu2 (zav2 (slt bx.2)) ⟨by decide,?_⟩)
  have hdx:dmaxP m e=zrp (sclP m e (maxP m e)) (oddP m e) false / 4:=rfl
  have hdn:dminP m e=(zrp (sclP m e (minP m e)) (oddP m e) true+3)%18446744073709551616 / 4:=rfl
  have ldx:dmaxP m e<18446744073709551616:=by rw [hdx];have:=zav2 (a:=oddP m e) (b:=false) (slt bx.2);omega
  rw [<-hdx,<-hdn]
  have e1:IntKind.wrap .u64 (Int.tdiv ((dmaxP m e:Nat):Int) (10:Int))=((dmaxP m e / 10:Nat):Int):=by
   rw [Int.tdiv_eq_ediv_of_nonneg (by omega),zah]
   omega
  have e2:IntKind.wrap .u64 (((dmaxP m e / 10:Nat):Int)*(10:Int))=((dmaxP m e / 10*10:Nat):Int):=by
   rw [zah]
   omega
  rw [e1,e2]
  have hk1:=hk k1 hle1
  unfold zbh at hk1
  by_cases c1:dminP m e<=dmaxP m e / 10*10
  ·rw [if_pos c1] at hk1
   refine iteT (decide_eq_true (by omega)) ?_
   rw [zab (n:=pP m e-1) (by omega) (by omega),zab (by omega) (by omega),Int.zero_sub]
   exact hk1
  ·rw [if_neg c1] at hk1
   refine iteF (fun hh=>c1 (by have:=of_decide_eq_true hh;omega)) ?_
   rw [zab (n:=0-pP m e) (by omega) (by omega),Int.zero_sub]
   by_cases c2:dminP m e<dmaxP m e
   ·rw [if_pos c2] at hk1
    refine iteT (decide_eq_true (by omega)) ?_
    refine scale (by omega) (by omega) ?_
    exact zbi (zjs1 (slt (by omega)) hk1)
   grind
end
end Lf
namespace Lf
def unitW (a b:Int):Nat:=2^(a+5000).toNat*10^(b+5000).toNat
theorem zbq (a b:Int):0<unitW a b:=Nat.mul_pos (Nat.two_pow_pos _) (Nat.pow_pos (by decide))
theorem zda {a b:Int} {n:Nat} (h: -5000<=a):2^n*unitW a b=unitW (a+n) b:=by
 unfold unitW
 rw [<-Nat.mul_assoc,<-Nat.pow_add]
 congr 2
 omega
theorem zfj {a b:Int} {n:Nat} (h: -5000<=b):10^n*unitW a b=unitW a (b+n):=by
 unfold unitW
 rw [Nat.mul_left_comm,<-Nat.pow_add]
 congr 2
 omega
theorem zaw2 {p a b:Int} (h0: -348<=p) (h1:p<=347) (a0: -3000<=a) (b0: -3000<=b):numP p*unitW a b=denP p*unitW (a+127-log2P p) (b+p):=by
 have hl: -1200<=log2P p/\log2P p<=1200:=by unfold log2P;omega
 unfold numP denP unitW
 generalize log2P p=L at*
 have e:∀i j k l:Nat,10^i*2^j*(2^k*10^l)=2^(j+k)*10^(i+l):=fun i j k l=>by
  grind
 rw [e,e]
 congr 2<;>omega
attribute [irreducible] unitW
theorem ztr1 {F G F' G':Nat} (hG:0<G) (hG':0<G') (h:F*G'=F'*G):zaw F G=zaw F' G':=by
 have e1:F / G=F' / G':=by
  rw [<-Nat.mul_div_mul_right F G hG',h,Nat.mul_comm G,Nat.mul_div_mul_right F' G' hG]
 have e2:G ∣ F↔G' ∣ F':=by
  rw [<-Nat.mul_dvd_mul_iff_right hG',h,Nat.mul_comm G,Nat.mul_dvd_mul_iff_right hG]
 unfold zaw
 grind
theorem WholeOk.mul {F N B D c:Nat} (h:WholeOk F N B D) (hc:0<c):WholeOk (c*F) (c*N) B (c*D):=by
 intro hh
 rw [Nat.mul_mod_mul_left] at hh
 have e:B*(c*D)=c*(B*D):=Nat.mul_left_comm _ _ _
 rw [e]
 refine Nat.mul_dvd_mul_left c (h ?_)
 rcases hh with hh | hh
 ·left
  have l1:=Nat.mul_le_mul_right (N%D) hc
  omega
 ·right
  refine Classical.byContradiction fun hn=> ?_
  by_cases hd:D<18446744073709551616
  ·grind
  ·have t:=Nat.mul_le_mul_left c (show N%D+18446744073709551616<=D by omega)
   grind
theorem zts1 {x:Nat} {p:Int} {s:Nat} (h0: -348<=p) (h1:p<=347) (hc:certP p s 9=true) (hx:0<x) (hx1:x<18446744073709551616) (hd:x%512=0):
  WholeOk (x*numP p) (x*pmP p) (denP p) (2^128*2^s):=by
 have:=zoj1 (y:=x / 512) h0 h1 (by decide) hc (by omega) (by
  omega)
 rw [show (2:Nat)^9*(x / 512)=x by omega] at this
 exact this
theorem s_in {m:Nat} {e:Int} (h0: -1137<=e) (h1:e<=974):4<=(-(e+log2P (pP m e)+3)).toNat:=by
 unfold pP
 split
 ·unfold skewP log2P
  omega
 ·unfold zP zly log2P
  split<;>omega
theorem zxr1 {m x:Nat} {e:Int} (h0: -1137<=e) (h1:e<=974) (hx:0<x) (hx1:x<18446744073709551616)
  (hd:x%2^(if -1085<=e then 9 else zP e-1)=0):
  WholeOk (x*numP (pP m e)) (x*pmP (pP m e)) (denP (pP m e)) (2^128*2^(-(e+log2P (pP m e)+3)).toNat):=by
 obtain ⟨p0,p1,s0,s1⟩:=p_in (m:=m) h0 h1
 by_cases he: -1085<=e
 ·rw [if_pos he] at hd
  refine zts1 p0 p1 ?_ hx hx1 hd
  have c:=zau2 (e+1085).toNat (by omega)
  unfold certS certE at c
  rw [Bool.and_eq_true,show (((e+1085).toNat:Nat):Int)-1085=e by omega,show (((e+1085).toNat:Nat):Int)-1074=e+11 by omega] at c
  unfold pP zP
  grind
 ·rw [if_neg he] at hd
  have hz:zP e=(11+(-1085-e)).toNat:=by unfold zP;rw [if_neg he]
  have hp:pP m e=324:=by
   unfold pP
   rw [if_neg (fun h=>by omega),hz,show e+(((11+(-1085-e)).toNat:Nat):Int)= -1074 by omega]
   decide
  have c:=zau2 0 (by decide)
  unfold certS certE at c
  rw [Bool.and_eq_true] at c
  have c:=c.1
  rw [show -zly (((0:Nat):Int)-1074)=324 by decide] at c
  rw [hp]
  have hl:log2P 324=1076:=by decide
  rw [hl] at c ⊢
  obtain ⟨k,hk⟩:∃k:Nat,e= -1085-(k:Int):=⟨(-1085-e).toNat,by omega⟩
  have hz:zP e=11+k:=by rw [hz];omega
  rw [hz,show 11+k-1=10+k by omega] at hd
  obtain ⟨y,rfl⟩:=Nat.dvd_of_mod_eq_zero hd
  have hk0:=Nat.two_pow_pos k
  have ex:2^(10+k)*y=2^k*(1024*y):=by rw [Nat.pow_add,Nat.mul_comm (2^10),Nat.mul_assoc]
  rw [ex] at hx hx1 ⊢
  have es:(-(e+1076+3)).toNat=k+6:=by omega
  have es0:(-(((0:Nat):Int)-1085+1076+3)).toNat=6:=by decide
  rw [es0] at c
  have:=(zts1 (x:=1024*y) (by decide) (by decide) c (by
   rcases Nat.eq_zero_or_pos y with h | h
   ·subst h;simp at hx
   ·omega) (by
   have:=Nat.mul_le_mul_right (1024*y) hk0
   omega) (by omega)).mul hk0
  grind
theorem zhp2 {m x:Nat} {e:Int} (h0: -1137<=e) (h1:e<=974) (hx:2305843009213693952<=x) (hx1:x<18446744073709551616)
  (hd:x%2^(if -1085<=e then 9 else zP e-1)=0):sclP m e x=zaw (4*(x*unitW e 0)) (unitW 0 (-pP m e)):=by
 obtain ⟨p0,p1,s0,s1⟩:=p_in (m:=m) h0 h1
 obtain ⟨t1,t2,t3⟩:=zoi1 p0 p1
 obtain ⟨r1,r2⟩:=zho2 p0 p1
 have hw:=zxr1 (m:=m) h0 h1 (show 0<x by omega) hx1 hd
 have hB:0<denP (pP m e):=by
  rcases Nat.eq_zero_or_pos (denP (pP m e)) with h | h
  ·rw [h] at r1 r2;omega
  ·exact h
 unfold sclP
 have big:=zjt1 hx t1
 unfold pmP at r1 r2 hw
 rw [ziu1 (by omega) hx1 t3 r1 r2 hw big]
 have hl: -1200<=log2P (pP m e)/\log2P (pP m e)<=1200:=by unfold log2P;omega
 refine ztr1 (Nat.mul_pos hB (Nat.mul_pos (Nat.two_pow_pos _) (Nat.two_pow_pos _))) (zbq _ _) ?_
 have e1:=zaw2 (a:=0) (b:= -pP m e) p0 p1 (by decide) (by omega)
 have e2:=zda (a:=e) (b:=0) (n:=2+128+(-(e+log2P (pP m e)+3)).toNat) (by omega)
 grind
theorem zod2 (k:Nat):k ||| 1=2*(k / 2)+1:=by
 have h1:=Nat.or_div_two (a:=k) (b:=1)
 have h2:=(Nat.or_mod_two_eq_one (a:=k) (b:=1)).2 (.inr rfl)
 grind
theorem zia1 {F G c:Nat} (hG:0<G) (hc:c%2=0):(zaw F G<=c↔F<=c*G)/\(zaw F G<c↔F<c*G):=by
 have hdm:=Nat.div_add_mod F G
 have hlt:=Nat.mod_lt F hG
 have hk:∀ {a b:Nat},a<=b->G*a<=G*b:=fun h=>Nat.mul_le_mul_left G h
 have hs:∀a:Nat,G*(a+1)=G*a+G:=fun a=>by grind
 unfold zaw
 rw [Nat.mul_comm c]
 by_cases h:G ∣ F
 ·rw [if_pos h,Nat.or_zero]
  have hz:F%G=0:=Nat.mod_eq_zero_of_dvd h
  generalize F / G=k at*
  constructor
  ·constructor
   ·intro h;have:=hk h;omega
   grind
  ·constructor
   ·intro h;have:=hk (show k+1<=c by omega);rw [hs] at this;omega
   ·intro h;refine Classical.byContradiction fun hn=> ?_
    have:=hk (show c<=k by omega);omega
 ·rw [if_neg h,zod2]
  have hz:F%G≠0:=fun e=>h (Nat.dvd_of_mod_eq_zero e)
  generalize F / G=k at*
  constructor
  ·constructor
   ·intro h;have:=hk (show k+1<=c by omega);rw [hs] at this;omega
   ·intro h;refine Classical.byContradiction fun hn=> ?_
    have:=hk (show c<=k by omega);omega
  ·constructor
   ·intro h;have:=hk (show k+1<=c by omega);rw [hs] at this;omega
   ·intro h;refine Classical.byContradiction fun hn=> ?_
    have:=hk (show c<=k by omega);omega
section
variable {F T U d:Nat}
theorem zib1 (hT:0<T) (hU:U=zaw (4*F) T) (c:Nat):(U<=4*c↔F<=c*T)/\(U<4*c↔F<c*T):=by
 have h:=zia1 (F:=4*F) (G:=T) (c:=4*c) hT (by omega)
 grind
theorem zhq2 (hT:0<T) (hU:U=zaw (4*F) T) (c:Nat):(U<=4*c+2↔2*F<=2*(c*T)+T)/\(U<4*c+2↔2*F<2*(c*T)+T):=by
 have h:=zia1 (F:=4*F) (G:=T) (c:=4*c+2) hT (by omega)
 grind
theorem zhr2 (hT:0<T) (hU:U=zaw (4*F) T) (hb:U<18446744073709551000):(zrp U false true+3)%18446744073709551616 / 4<=d↔F<=d*T:=by
 have h:=(zib1 hT hU d).1
 unfold zrp
 grind
theorem zlw2 (hT:0<T) (hU:U=zaw (4*F) T) (hb:U<18446744073709551000):(zrp U true true+3)%18446744073709551616 / 4<=d↔F<d*T:=by
 have h:=(zib1 hT hU d).2
 unfold zrp
 grind
theorem zdk2 (hT:0<T) (hU:U=zaw (4*F) T) (_:U<18446744073709551000):d<=zrp U false false / 4↔d*T<=F:=by
 have h:=(zib1 hT hU d).2
 unfold zrp
 grind
theorem zhs2 (hT:0<T) (hU:U=zaw (4*F) T) (hb:U<18446744073709551000) (h0:0<U):d<=zrp U true false / 4↔d*T<F:=by
 have h:=(zib1 hT hU d).1
 have e:zrp U true false=U-1:=by
  unfold zrp
  simp only [if_true,Bool.false_eq_true,if_false]
  clear hU h
  omega
 omega
theorem zol1 (hT:0<T) (hU:U=zaw (4*F) T) (hb:U<18446744073709551000):
  zgp1 U=if 2*(F%T)<T\/(2*(F%T)=T/\F / T%2=0) then F / T else F / T+1:=by
 have hdm:=Nat.div_add_mod F T
 have hlt:=Nat.mod_lt F hT
 have h1:=(zib1 hT hU (F / T)).2
 have h2:=(zib1 hT hU (F / T+1)).2
 obtain ⟨h3,h4⟩:=zhq2 hT hU (F / T)
 rw [Nat.add_mul,Nat.one_mul] at h2
 rw [Nat.mul_comm T] at hdm
 have e0:zgp1 U=(U+1+U / 4%2) / 4:=by
  unfold zgp1
  rw [Nat.mod_eq_of_lt (by clear hU h1 h2 h3 h4;omega)]
 grind
end
def inI (lo hi:Nat) (odd:Bool) (X:Nat):Bool:=if odd then decide (lo<X)&&decide (X<hi) else decide (lo<=X)&&decide (X<=hi)
theorem zpi {lo hi:Nat} {odd:Bool} {X:Nat}:inI lo hi odd X=true↔(if odd=true then lo<X else lo<=X)/\(if odd=true then X<hi else X<=hi):=by
 unfold inI
 cases odd<;>simp
def pickD (lo hi:Nat) (odd:Bool) (v T:Nat):Nat:=
 if inI lo hi odd (v / T*T)=true/\¬(inI lo hi odd ((v / T+1)*T)=true/\(T<2*(v%T)\/(2*(v%T)=T/\v / T%2=1))) then v / T else v / T+1
def zom1 (dmin dmax near T:Nat):Nat:=if dmin<=dmax / 10*10 then dmax / 10*(10*T) else if dmin<dmax then near*T else dmin*T
section
variable {lo v hi T dmin dmax near:Nat} {odd:Bool}
theorem zht2 (hT:0<T) (hlo:lo<v) (hhi:v<hi) (h1:inI lo hi odd (v / T*T)=false) (h2:inI lo hi odd ((v / T+1)*T)=false) (d:Nat):inI lo hi odd (d*T)=false:=by
 rw [Bool.eq_false_iff] at h1 h2 ⊢
 intro h
 rw [Ne,zpi] at h1 h2
 rw [zpi] at h
 have hdm:=Nat.div_add_mod v T
 have hlt:=Nat.mod_lt v hT
 rw [Nat.mul_comm] at hdm
 rw [Nat.add_mul,Nat.one_mul] at h2
 generalize hq:v / T=q at*
 generalize v%T=ρ at*
 rcases Nat.lt_or_ge q d with hd | hd
 ·have:=Nat.mul_le_mul_right T (show q+1<=d by omega)
  grind
 ·have:=Nat.mul_le_mul_right T hd
  grind
theorem zdl2 (h2:hi-lo<10*T) (hlo:lo<v) (hhi:v<hi)
  (hmin:∀d,dmin<=d↔if odd=true then lo<d*T else lo<=d*T) (hmax:∀d,d<=dmax↔if odd=true then d*T<hi else d*T<=hi)
  {c:Nat} (hc:inI lo hi odd (c*(10*T))=true):zom1 dmin dmax near T=c*(10*T):=by
 rw [zpi] at hc
 have e:10*c*T=c*(10*T):=by rw [Nat.mul_comm 10,Nat.mul_assoc]
 have a1:=(hmin (10*c)).2 (by rw [e];exact hc.1)
 have a2:=(hmax (10*c)).2 (by rw [e];exact hc.2)
 have a3:dmax / 10=c:=by
  refine Classical.byContradiction fun hn=> ?_
  have:=(hmax (10*c+10)).1 (by omega)
  rw [Nat.add_mul,e] at this
  cases odd
  ·simp only [Bool.false_eq_true,if_false] at*;omega
  ·simp only [if_true] at*;omega
 unfold zom1
 grind
theorem zdm2 (hT:0<T) (h1:T<=hi-lo) (hlo:lo<v) (hhi:v<hi)
  (hs:(2*(v-lo)=hi-lo/\(T=hi-lo->v%T=0))\/(3*(v-lo)=hi-lo/\T<hi-lo))
  (hmin:∀d,dmin<=d↔if odd=true then lo<d*T else lo<=d*T) (hmax:∀d,d<=dmax↔if odd=true then d*T<hi else d*T<=hi)
  (hn:near=if 2*(v%T)<T\/(2*(v%T)=T/\v / T%2=0) then v / T else v / T+1)
  (hno:∀c,inI lo hi odd (c*(10*T))=false):zom1 dmin dmax near T=pickD lo hi odd v T*T/\inI lo hi odd (pickD lo hi odd v T*T)=true:=by
 have hdm:=Nat.div_add_mod v T
 have hlt:=Nat.mod_lt v hT
 rw [Nat.mul_comm] at hdm
 have n0:¬dmin<=dmax / 10*10:=fun h=>by
  have h:=(hmin _).1 h
  have h':=(hmax (dmax / 10*10)).1 (by omega)
  have:=hno (dmax / 10)
  rw [Bool.eq_false_iff,Ne,zpi,<-Nat.mul_assoc] at this
  exact this ⟨h,h'⟩
 have inn:∀d,inI lo hi odd (d*T)=true↔dmin<=d/\d<=dmax:=fun d=>by rw [zpi,hmin,hmax]
 have ex:inI lo hi odd (v / T*T)=true\/inI lo hi odd ((v / T+1)*T)=true:=by
  refine Classical.byContradiction fun h=> ?_
  rw [not_or,Bool.not_eq_true,Bool.not_eq_true] at h
  have no:=zht2 hT hlo hhi h.1 h.2
  by_cases hw:T=hi-lo
  ·rcases hs with ⟨_,hs⟩ | ⟨_,hs⟩
   ·have hz:=hs hw
    have:=h.1
    rw [Bool.eq_false_iff,Ne,zpi] at this
    refine this ?_
    rw [show v / T*T=v by omega]
    cases odd
    ·simp only [Bool.false_eq_true,if_false];omega
    ·simp only [if_true];omega
   ·omega
  ·have:=no (lo / T+1)
   rw [Bool.eq_false_iff,Ne,zpi] at this
   have l1:=Nat.div_add_mod lo T
   have l2:=Nat.mod_lt lo hT
   rw [Nat.mul_comm] at l1
   refine this ?_
   rw [Nat.add_mul,Nat.one_mul]
   cases odd
   ·simp only [Bool.false_eq_true,if_false];omega
   ·simp only [if_true];omega
 have pk:pickD lo hi odd v T=v / T\/pickD lo hi odd v T=v / T+1:=by unfold pickD;split<;>simp
 have pin:inI lo hi odd (pickD lo hi odd v T*T)=true:=by
  unfold pickD
  split
  ·rename_i h;exact h.1
  ·rename_i h
   refine Classical.byContradiction fun hh=> ?_
   rcases ex with ex | ex
   ·exact h ⟨ex,fun h'=>hh h'.1⟩
   ·exact hh ex
 refine ⟨?_,pin⟩
 unfold zom1
 rw [if_neg n0]
 by_cases hd:dmin<dmax
 ·rw [if_pos hd]
  congr 1
  rw [hn]
  unfold pickD
  have m1:=hmin (v / T)
  have m2:=hmin (v / T+1)
  have x1:=hmax (v / T)
  have x2:=hmax (v / T+1)
  have x3:=hmax (v / T+2)
  rw [Nat.add_mul,Nat.one_mul] at m2 x2
  rw [Nat.add_mul] at x3
  simp only [inn] at ex ⊢
  generalize v / T=q at*
  generalize v%T=ρ at*
  generalize q*T=a at*
  clear hno inn pk pin hmin hmax hn
  cases odd
  ·simp only [Bool.false_eq_true,if_false] at*
   split<;>split<;>omega
  ·simp only [if_true] at*
   split<;>split<;>omega
 grind
end
end Lf
namespace Lf
open Go Go.Proofs Tryz
def digC (d:Nat):Value:=.int .u8 ((48+d:Nat):Int)
def digV :Nat->Nat->List Value
 | 0,_=> []
 | n+1,u=>digV n (u / 10)++ [digC (u%10)]
theorem zdk1 :∀n u,(digV n u).length=n
 | 0,_=>rfl
 | n+1,u=>by rw [digV,List.length_append,zdk1 n];rfl
theorem zlx2 (n u:Nat):digV (n+2) u=digV n (u / 100)++ [digC (u%100 / 10),digC (u%100%10)]:=by
 rw [digV,digV,Nat.div_div_eq_div_mul,List.append_assoc,show u / 10%10=u%100 / 10 by omega,show u%10=u%100%10 by omega]
 rfl
theorem zdn2 :∀k,k<100->(bl200.getD (2*k) 0).toNat=48+k / 10/\(bl200.getD (2*k+1) 0).toNat=48+k%10:=by decide+kernel
theorem zly2 {cs:List Value} {i:Nat} (hi:i+2<=cs.length):∃x y,cs.take (i+2)=cs.take i++ [x,y]:=by
 refine ⟨cs[i],cs[i+1],?_⟩
 rw [List.take_add_one,List.take_add_one,List.getElem?_eq_getElem (by omega),List.getElem?_eq_getElem (by omega),List.append_assoc]
 rfl
theorem zps2 {cs suf T:List Value} {i:Nat} {v0 v1:Value} (hi:i+2<=cs.length):((cs.take (i+2)++suf++T).set (i+1) v1).set i v0=cs.take i++(v0::v1::suf)++T:=by
 obtain ⟨x,y,e⟩:=zly2 hi
 rw [e]
 have hl:(cs.take i).length=i:=by rw [List.length_take];omega
 generalize cs.take i=P at*
 grind
section
variable {h:Hp}
theorem zfk1 {a:Sl} {b o k j:Nat} {X J1 J2:Int} {cs suf T:List Value} {K:Hp->Prop} (hX:X=((2*k:Nat):Int)) (hk:k<100) (ha:a.base=some ⟨b,o,none⟩) (h1:J1=((j+1:Nat):Int)) (h2:J2=(j:Int))
  (hn:j+2<=a.len) (hl:o+j+2<=cs.length) (kb:Blk h b (cs.take (o+(j+2))++suf++T)) (hK:∀h',Mv [b] h [b] h'->Blk h' b (cs.take (o+j)++(digC (k / 10)::digC (k%10)::suf)++T)->K h'):
  ((0:Int)<=IntKind.wrap .u32 (X+1)/\IntKind.wrap .u32 (X+1)<200)/\((0:Int)<=X/\X<200)/\InB a.base a.len J1/\StW h (sat a.base 1 J1) [.int .u8 (((UInt8.toNat (List.getD bl200 (Int.toNat (IntKind.wrap .u32 (X+1))) 0)):Nat):Int)] (fun h2=>
   InB a.base a.len J2/\StW h2 (sat a.base 1 J2) [.int .u8 (((UInt8.toNat (List.getD bl200 (Int.toNat X) 0)):Nat):Int)] K):=by
 subst hX h1 h2
 obtain ⟨g0,g1⟩:=zdn2 k hk
 have e1:IntKind.wrap .u32 (((2*k:Nat):Int)+1)=((2*k+1:Nat):Int):=by rw [zoa];omega
 rw [e1,Int.toNat_natCast,Int.toNat_natCast,g0,g1]
 have s1:sat a.base 1 ((j+1:Nat):Int)=⟨b,o+(j+1),none⟩:=by rw [ha];show Addr.add ⟨b,o,none⟩ _=_;rw [box_add];simp
 have s2:sat a.base 1 (j:Int)=⟨b,o+j,none⟩:=by rw [ha];show Addr.add ⟨b,o,none⟩ _=_;rw [box_add];simp
 rw [s1,s2]
 have tl:(cs.take (o+(j+2))).length=o+j+2:=by grind
 refine ⟨⟨by omega,by omega⟩,⟨by omega,by omega⟩,⟨by rw [ha];simp,by omega,by omega⟩,put1 kb (by grind) fun h1 m1 k1=>⟨⟨by rw [ha];simp,by omega,by omega⟩,put1 k1 (by grind) fun h2 m2 k2=>hK h2 (m1.trans m2) ?_⟩⟩
 have e2:=zps2 (cs:=cs) (suf:=suf) (T:=T) (i:=o+j) (v0:=digC (k / 10)) (v1:=digC (k%10)) (by omega)
 rw [<-e2]
 exact k2
theorem tmodN {x y:Nat}:Int.tmod (x:Int) (y:Int)=((x%y:Nat):Int):=by grind
theorem tdivN {x y:Nat}:Int.tdiv (x:Int) (y:Int)=((x / y:Nat):Int):=by simp
theorem zlq1 (j:Nat) {v k:Nat} (h:v<10^(j+k)):v / 10^k<10^j:=by
 rw [Nat.div_lt_iff_lt_mul (Nat.pow_pos (by decide)),<-Nat.pow_add]
 exact h
theorem ztt1 {a:Sl} {b o u:Nat} {cs:List Value} {Q:Hp->Prop} (ha:a.base=some ⟨b,o,none⟩) (hl:o+a.len<=cs.length) (ha64:a.len<1000000) (kb:Blk h b cs) (hu:u<10^a.len) (hu64:u<18446744073709551616)
  (hk:∀h',Mv [b] h [b] h'->Blk h' b (cs.take o++digV a.len u++cs.drop (o+a.len))->Q h'):zed prog a u Q h:=by
 unfold zed
 have step:∀ {v:Nat} {suf:List Value} (j:Nat),digV a.len u=digV (j+2) v++suf->digV a.len u=digV j (v / 100)++(digC (v%100 / 10)::digC (v%100%10)::suf):=fun {v suf} j e=>by
  rw [e,zlx2,List.append_assoc];rfl
 refine LoopW2.intro (fun u1 nd k=>∃(v j:Nat) (suf:List Value),u1=(v:Int)/\nd=(j:Int)/\j<=a.len/\v<10^j/\v<18446744073709551616/\Mv [b] h [b] k/\Blk k b (cs.take (o+j)++suf++cs.drop (o+a.len))/\digV a.len u=digV j v++suf) (fun u1 nd k=>nd.toNat)
  ⟨u,a.len,[],rfl,rfl,Nat.le_refl _,hu,hu64,Mv.refl _ _,by rw [List.append_nil,List.take_append_drop];exact kb,(List.append_nil _).symm⟩ ?_
 rintro u1 nd k ⟨v,j,suf,rfl,rfl,hj,hv,hv64,mv,kb,hd⟩
 by_cases h8:8<=j
 ·obtain ⟨i,rfl⟩:∃i,j=i+8:=⟨j-8,by omega⟩
  refine iteT (decide_eq_true (by omega)) ⟨by decide,by decide,by decide,by decide,by decide,by decide,by decide,by decide,?_⟩
  have e0:IntKind.wrap .u32 (Int.tmod (v:Int) 100000000)=((v%100000000:Nat):Int):=by rw [show (100000000:Int)=((100000000:Nat):Int) from rfl,tmodN,zoa];omega
  have e1:Int.tmod ((v%100000000:Nat):Int) 10000=((v%10000:Nat):Int):=by grind
  have e2:IntKind.wrap .u32 (Int.tdiv ((v%100000000:Nat):Int) 10000)=((v / 10000%10000:Nat):Int):=by rw [show (10000:Int)=((10000:Nat):Int) from rfl,tdivN,zoa];omega
  have m1:∀ {w:Nat},IntKind.wrap .u32 ((Int.tmod (w:Int) 100)*2)=((2*(w%100):Nat):Int):=fun {w}=>by rw [show (100:Int)=((100:Nat):Int) from rfl,tmodN,zoa];omega
  have m2:∀ {w:Nat},w<10000->IntKind.wrap .u32 (IntKind.wrap .u32 (Int.tdiv (w:Int) 100)*2)=((2*(w / 100):Nat):Int):=fun {w} hw=>by rw [show (100:Int)=((100:Nat):Int) from rfl,tdivN,zoa,zoa];omega
  rw [e0,e1,e2,m1,m1,m2 (by omega),m2 (by omega)]
  have w:∀ {c:Int} {n:Nat},(i+8:Nat)-c=(n:Int)->n<1000000->IntKind.wrap .i64 (((i+8:Nat):Int)-c)=(n:Int):=fun {c n} e hn=>by rw [e,zab (by omega) (by omega)]
  refine zfk1 (k:=v%10000%100) (j:=i+6) rfl (by omega) ha (w (by omega) (by omega)) (w (by omega) (by omega)) (by omega) (by omega) kb fun h1 n1 b1=> ?_
  have d1:=step (i+6) hd
  refine zfk1 (k:=v%10000 / 100) (j:=i+4) rfl (by omega) ha (w (by omega) (by omega)) (w (by omega) (by omega)) (by omega) (by omega) b1 fun h2 n2 b2=> ?_
  have d2:=step (i+4) d1
  refine zfk1 (k:=v / 10000%10000%100) (j:=i+2) rfl (by omega) ha (w (by omega) (by omega)) (w (by omega) (by omega)) (by omega) (by omega) b2 fun h3 n3 b3=> ?_
  have d3:=step (i+2) d2
  refine zfk1 (k:=v / 10000%10000 / 100) (j:=i) rfl (by omega) ha (w (by omega) (by omega)) (w (by omega) (by omega)) (by omega) (by omega) b3 fun h4 n4 b4=> ?_
  have d4:=step i d3
  have q0:v%10000%100=v%100:=by omega
  have q1:v%10000 / 100=v / 100%100:=by omega
  have q2:v / 10000%10000%100=v / 100 / 100%100:=by omega
  have q3:v / 10000%10000 / 100=v / 100 / 100 / 100%100:=by omega
  rw [q0,q1,q2,q3] at b4
  have e8:IntKind.wrap .u64 (Int.tdiv (v:Int) 100000000)=((v / 100 / 100 / 100 / 100:Nat):Int):=by rw [show (100000000:Int)=((100000000:Nat):Int) from rfl,tdivN,wrapN (by omega)];omega
  rw [e8,w (n:=i) (by omega) (by omega)]
  have hlt:=zlq1 i (k:=8) hv
  refine ⟨⟨_,i,_,rfl,rfl,by omega,?_,by omega,mv.trans (n1.trans (n2.trans (n3.trans n4))),b4,d4⟩,?_⟩
  ·omega
  ·omega
 ·refine iteF (fun hh=>h8 (by grind)) ?_
  have v7:v<10000000:=Nat.lt_of_lt_of_le hv (Nat.pow_le_pow_right (n:=10) (i:=j) (j:=7) (by decide) (by omega))
  have m1:∀ {w:Nat},IntKind.wrap .u32 ((Int.tmod (w:Int) 100)*2)=((2*(w%100):Nat):Int):=fun {w}=>by rw [show (100:Int)=((100:Nat):Int) from rfl,tmodN,zoa];omega
  have m2:∀ {w:Nat},w<10000->IntKind.wrap .u32 (IntKind.wrap .u32 (Int.tdiv (w:Int) 100)*2)=((2*(w / 100):Nat):Int):=fun {w} hw=>by rw [show (100:Int)=((100:Nat):Int) from rfl,tdivN,zoa,zoa];omega
  have eu:IntKind.wrap .u32 (v:Int)=(v:Int):=by rw [zoa];omega
  rw [eu]
  have w:∀ {j:Nat} {c:Int} {n:Nat},(j:Int)-c=(n:Int)->n<1000000->IntKind.wrap .i64 ((j:Int)-c)=(n:Int):=fun {j c n} e hn=>by rw [e,zab (by omega) (by omega)]
  refine JoinW2.intro (fun nd x k=>∃(v j:Nat) (suf:List Value),x=(v:Int)/\nd=(j:Int)/\j<4/\j<=a.len/\v<10^j/\Mv [b] h [b] k/\Blk k b (cs.take (o+j)++suf++cs.drop (o+a.len))/\digV a.len u=digV j v++suf) ?_ ?_
  ·by_cases h4:4<=j
   ·obtain ⟨i,rfl⟩:∃i,j=i+4:=⟨j-4,by omega⟩
    refine iteT (decide_eq_true (by omega)) ⟨by decide,by decide,by decide,by decide,?_⟩
    have e1:Int.tmod (v:Int) 10000=((v%10000:Nat):Int):=by rw [show (10000:Int)=((10000:Nat):Int) from rfl,tmodN]
    rw [e1,m1,m2 (by omega)]
    refine zfk1 (k:=v%10000%100) (j:=i+2) rfl (by omega) ha (w (by omega) (by omega)) (w (by omega) (by omega)) (by omega) (by omega) kb fun h1 n1 b1=> ?_
    have d1:=step (i+2) hd
    refine zfk1 (k:=v%10000 / 100) (j:=i) rfl (by omega) ha (w (by omega) (by omega)) (w (by omega) (by omega)) (by omega) (by omega) b1 fun h2 n2 b2=> ?_
    have d2:=step i d1
    have q0:v%10000%100=v%100:=by omega
    have q1:v%10000 / 100=v / 100%100:=by omega
    rw [q0,q1] at b2
    have e8:IntKind.wrap .u32 (Int.tdiv (v:Int) 10000)=((v / 100 / 100:Nat):Int):=by rw [show (10000:Int)=((10000:Nat):Int) from rfl,tdivN,zoa];omega
    have hlt:=zlq1 i (k:=4) hv
    rw [e8,w (n:=i) (by omega) (by omega)]
    refine ⟨_,i,_,rfl,rfl,by omega,by omega,?_,mv.trans (n1.trans n2),b2,d2⟩
    rw [show v / 100 / 100=v / 10^4 by omega]
    exact hlt
   grind
  ·clear v7 eu kb hd mv hv hv64 hj h8 v j suf
   rintro nd x k1 ⟨v,j,suf,rfl,rfl,hj4,hj,hv,mv,kb,hd⟩
   have v3:v<1000:=Nat.lt_of_lt_of_le hv (Nat.pow_le_pow_right (n:=10) (i:=j) (j:=3) (by decide) (by omega))
   refine JoinW2.intro (fun nd x k=>∃(v j:Nat) (suf:List Value),x=(v:Int)/\nd=(j:Int)/\j<2/\j<=a.len/\v<10^j/\Mv [b] h [b] k/\Blk k b (cs.take (o+j)++suf++cs.drop (o+a.len))/\digV a.len u=digV j v++suf) ?_ ?_
   ·by_cases h2:2<=j
    ·obtain ⟨i,rfl⟩:∃i,j=i+2:=⟨j-2,by omega⟩
     refine iteT (decide_eq_true (by omega)) ⟨by decide,by decide,?_⟩
     rw [m1]
     refine zfk1 (k:=v%100) (j:=i) rfl (by omega) ha (w (by omega) (by omega)) (w (by omega) (by omega)) (by omega) (by omega) kb fun h1 n1 b1=> ?_
     have d1:=step i hd
     have e8:IntKind.wrap .u32 (Int.tdiv (v:Int) 100)=((v / 100:Nat):Int):=by rw [show (100:Int)=((100:Nat):Int) from rfl,tdivN,zoa];omega
     have hlt:=zlq1 i (k:=2) hv
     rw [e8,w (n:=i) (by omega) (by omega)]
     exact ⟨_,i,_,rfl,rfl,by omega,by omega,hlt,mv.trans n1,b1,d1⟩
    grind
   ·clear v3 kb hd mv hv hj4 hj v j suf
    rintro nd x k2 ⟨v,j,suf,rfl,rfl,hj4,hj,hv,mv,kb,hd⟩
    by_cases h0:0<j
    ·obtain rfl:j=1:=by omega
     refine iteT (decide_eq_true (by omega)) ⟨⟨by rw [ha];simp,by omega,by omega⟩,?_⟩
     have s1:sat a.base 1 (0:Int)=⟨b,o,none⟩:=by rw [ha];show Addr.add ⟨b,o,none⟩ _=_;rw [box_add];simp
     have e1:IntKind.wrap .u8 (IntKind.wrap .u32 ((48:Int)+(v:Int)))=((48+v:Nat):Int):=by
      rw [zoa,show IntKind.wrap .u8 ((48+(v:Int))%4294967296)=((48+(v:Int))%4294967296)%256 from rfl]
      omega
     rw [s1,e1]
     have tl:(cs.take (o+1)).length=o+1:=by rw [List.length_take];omega
     refine put1 kb (by grind) fun h3 m3 k3=>hk h3 (mv.trans m3) ?_
     rw [hd,show digV 1 v=[digC v] by rw [digV,digV,Nat.mod_eq_of_lt (by omega)];rfl]
     have e2:(cs.take (o+1)++suf++cs.drop (o+a.len)).set o (digC v)=cs.take o++([digC v]++suf)++cs.drop (o+a.len):=by
      rw [List.take_add_one,List.getElem?_eq_getElem (by omega)]
      have hl':(cs.take o).length=o:=by rw [List.length_take];omega
      generalize cs.take o=P at*
      subst hl'
      simp
     rw [<-e2]
     exact k3
    ·obtain rfl:j=0:=by omega
     refine iteF (fun hh=>h0 (by grind)) (hk k2 mv ?_)
     rw [hd]
     simpa [digV] using kb
end
theorem zax2 :∀n,n<256->(bl256.getD n 0).toNat=bitsN n:=by decide+kernel
theorem zfl1 {n k:Nat} (h:2^k<=n):bitsN n=k+bitsN (n / 2^k):=by
 have hp:=Nat.two_pow_pos k
 have h1:=zra (n / 2^k)
 have h0:n / 2^k≠0:=fun e=>by rw [Nat.div_eq_zero_iff] at e;omega
 have h2:=zvn h0
 have hb:0<bitsN (n / 2^k):=by grind
 refine zaq2 ?_ fun _=> ?_
 ·rw [Nat.div_lt_iff_lt_mul hp,<-Nat.pow_add,Nat.add_comm] at h1
  exact h1
 ·rw [Nat.le_div_iff_mul_le hp,<-Nat.pow_add] at h2
  grind
theorem zoe2 {n:Nat} (h1:n<256):IntKind.wrap .u8 (n:Int)=(n:Int):=by
 show (n:Int)%256=n
 omega
theorem zgq1 {n k:Nat} (h:n<2^k):bitsN n<=k:=by
 by_cases h0:n=0
 ·subst h0;simp [bitsN]
 ·have:=zvn h0
  have h2:2^(bitsN n-1)<2^k:=Nat.lt_of_le_of_lt this h
  have:=(Nat.pow_lt_pow_iff_right (a:=2) (by decide)).1 h2
  omega
section
variable {h:Hp}
theorem zju1 {n:Nat} {Q:Int->Hp->Prop} (hn:n<18446744073709551616) (hq:Q (bitsN n:Int) h):zqj prog (n:Int) Q h:=by
 unfold zqj
 refine JoinW2.intro (fun x1 n1 k=>k=h/\∃(m c:Nat),x1=(m:Int)/\n1=(c:Int)/\m<4294967296/\c<=32/\bitsN n=c+bitsN m) ?_ ?_
 ·by_cases hb:(n:Int)>=4294967296
  ·refine iteT (decide_eq_true hb) ⟨by decide,rfl,n / 2^32,32,shrN n (n:=32) (by decide),rfl,?_,by decide,zfl1 (by omega)⟩
   rw [Nat.div_lt_iff_lt_mul (by decide)]
   omega
  grind
 ·rintro x1 n1 k ⟨rfl,m,c,rfl,rfl,hm,hc,he⟩
  refine JoinW2.intro (fun x2 n2 k'=>k'=k/\∃(m c:Nat),x2=(m:Int)/\n2=(c:Int)/\m<65536/\c<=48/\bitsN n=c+bitsN m) ?_ ?_
  ·by_cases hb:(m:Int)>=65536
   ·rw [zab (by omega) (by omega)]
    refine iteT (decide_eq_true hb) ⟨by decide,rfl,m / 2^16,c+16,shrN m (n:=16) (by decide),by omega,?_,by omega,?_⟩
    ·rw [Nat.div_lt_iff_lt_mul (by decide)]
     omega
    ·rw [he,zfl1 (n:=m) (k:=16) (by omega)]
     omega
   grind
  ·clear he hc hm m c
   rintro x2 n2 k' ⟨rfl,m,c,rfl,rfl,hm,hc,he⟩
   by_cases hb:(m:Int)>=256
   ·have e1:shrI .u64 (m:Int) 8=((m / 2^8:Nat):Int):=shrN m (n:=8) (by decide)
    have hlt:m / 2^8<256:=by
     rw [Nat.div_lt_iff_lt_mul (by decide)]
     omega
    refine iteT (decide_eq_true hb) ⟨by decide,?_⟩
    have hs:=zgq1 (k:=8) hlt
    have hb2:=zfl1 (n:=m) (k:=8) (by omega)
    rw [e1,zoe2 hlt,Int.toNat_natCast,zax2 _ hlt,zab (n:=(c:Int)+8) (by omega) (by omega),zab (n:=((bitsN (m / 2^8):Nat):Int)) (by omega) (by omega),zab (by omega) (by omega)]
    grind
   ·have hlt:m<256:=by omega
    have hs:=zgq1 (k:=8) hlt
    refine iteF (fun hh=>hb (of_decide_eq_true hh)) ?_
    rw [zoe2 hlt,Int.toNat_natCast,zax2 _ hlt,zab (n:=((bitsN m:Nat):Int)) (by omega) (by omega),zab (by omega) (by omega)]
    grind
abbrev zlz (h:Hp):Prop:=LdIs h ⟨5,0,none⟩ ((List.range 20).map fun k=>Value.int .u64 ((10^k:Nat):Int))
theorem zdo2 (t:zlz h) {k:Nat} (hk:k<20):LdIs h ⟨5,k,none⟩ [.int .u64 ((10^k:Nat):Int)]:=by
 have c:=t k (.int .u64 ((10^k:Nat):Int)) (by grind)
 rw [box_add,Nat.zero_add] at c
 exact zvo c
theorem zdp2 :∀b:Nat,b<65->1<=b->0<=zly (b:Int)/\zly (b:Int)<20/\2^b<=10^((zly (b:Int)).toNat+1)/\(1<=zly (b:Int)->10^((zly (b:Int)).toNat-1)<=2^(b-1)):=by decide+kernel
theorem zrc1 {b:Bool} {Q:Int->Hp->Prop} (hq:Q ((b.toNat:Nat):Int) h):zfx prog b Q h:=by
 unfold zfx
 grind
theorem ziv1 {d:Nat} {Q:Int->Hp->Prop} (h0:d≠0) (h1:d<18446744073709551616) (t:zlz h) (hk:∀n:Nat,1<=n->n<=20->10^(n-1)<=d->d<10^n->Q (n:Int) h):zfu prog d Q h:=by
 unfold zfu
 have b1:1<=bitsN d:=by unfold bitsN;grind
 have b2:bitsN d<=64:=zgq1 (k:=64) h1
 obtain ⟨l0,l1,l2,l3⟩:=zdp2 (bitsN d) (by omega) b1
 have d1:=zra d
 have d2:=zvn h0
 refine zic (zju1 h1 ?_)
 refine zee (zrb1 (by omega) (by omega) ⟨⟨l0,l1⟩,?_⟩)
 obtain ⟨k,hk'⟩:∃k:Nat,zly (bitsN d)=k:=⟨_,(Int.toNat_of_nonneg l0).symm⟩
 rw [hk'] at l0 l1 l2 l3 ⊢
 rw [Int.toNat_natCast] at l2 l3 ⊢
 have ea:Addr.add ⟨5,0,none⟩ (k*1)=⟨5,k,none⟩:=by rw [box_add];simp
 rw [ea]
 refine ld_at (sh:=shInt .u64) ((10^k:Nat):Int) (zdo2 t (by omega)) ?_
 refine zef (zrc1 ?_)
 by_cases hc:10^k<=d
 ·rw [decide_eq_true (by exact Int.ofNat_le.2 hc),zab (by rw [Bool.toNat_true];omega) (by rw [Bool.toNat_true];omega)]
  grind
 ·have k1:1<=k:=by
   rcases Nat.eq_zero_or_pos k with e | e
   ·subst e;omega
   ·exact e
  rw [decide_eq_false (fun hh=>hc (Int.ofNat_le.1 hh)),zab (by rw [Bool.toNat_false];omega) (by rw [Bool.toNat_false];omega)]
  grind
theorem zay2 :∀(n u i:Nat),i<n->(digV n u)[i]? =some (digC (u / 10^(n-1-i)%10))
 | 0,_,_,h=>by omega
 | n+1,u,i,h=>by
  rw [digV]
  by_cases hi:i<n
  ·rw [List.getElem?_append_left (by rw [zdk1];exact hi),zay2 n (u / 10) i hi,Nat.div_div_eq_div_mul,<-Nat.pow_succ',show (n-1-i).succ=n+1-1-i by omega]
  ·rw [List.getElem?_append_right (by rw [zdk1];omega),zdk1,show i-n=0 by omega,show n+1-1-i=0 by omega]
   simp
theorem ztu1 {s:Sl} {b d n:Nat} {p:Int} {cs:List Value} {Q:Int->Int->Hp->Prop} (hb:s.base=some ⟨b,0,none⟩) (hs:s.len=cs.length) (hc:s.cap=s.len) (hl:s.len<1000000) (kb:Blk h b cs)
  (d0:d≠0) (d1:d<18446744073709551616) (hn:n<=s.len) (hd:d<10^n) (p0: -100000<=p) (p1:p<=100000)
  (hk:∀h' k v,Mv [b] h [b] h'->Blk h' b (digV n d++cs.drop n)->d=v*10^k->v%10≠0->k<n->Q (n+p) ((n-k:Nat):Int) h'):zfv prog s d p n Q h:=by
 unfold zfv
 refine iteT (decide_eq_true (by omega)) ⟨⟨by omega,by omega⟩,letW ?_⟩
 rw [Int.toNat_natCast]
 have eb:sbase s.base 1 0 s.cap=some ⟨b,0,none⟩:=by
  unfold sbase
  rw [hb]
  split
  ·rfl
  ·show some (Addr.add _ _)=_
   rw [box_add]
 rw [eb]
 refine zgx (ztt1 (a:=⟨some ⟨b,0,none⟩,n-0,s.cap-0⟩) rfl (by grind) (by grind) kb (by omega) d1 fun h1 mv k1=> ?_)
 have k1:Blk h1 b (digV n d++cs.drop n):=by
  grind
 have nz:∀ {v k:Nat},d=v*10^k->v≠0:=fun {v k} e e0=>d0 (by grind)
 have lt:∀ {v k:Nat},d=v*10^k->k<=n->k<n:=fun {v k} e hk'=>by
  rcases Nat.lt_or_ge k n with hlt | hge
  ·exact hlt
  ·have:k=n:=by omega
   subst this
   have:=nz e
   have h2:1*10^k<=v*10^k:=Nat.mul_le_mul_right _ (by omega)
   omega
 refine LoopW1.intro (fun nd k=>k=h1/\∃(j v:Nat),nd=((n-j:Nat):Int)/\j<=n/\d=v*10^j) (fun nd _=>nd.toNat) ⟨rfl,0,d,rfl,by omega,by simp⟩ ?_
 rintro nd k ⟨rfl,j,v,rfl,hj,hv⟩
 have hjn:=lt hv hj
 have hpos:((n-j:Nat):Int)>0:=by omega
 rw [decide_eq_true hpos]
 have e1:IntKind.wrap .i64 (((n-j:Nat):Int)-1)=((n-j-1:Nat):Int):=by rw [zab (by omega) (by omega)];omega
 rw [e1]
 have ea:sat s.base 1 ((n-j-1:Nat):Int)=⟨b,n-j-1,none⟩:=by rw [hb];show Addr.add ⟨b,0,none⟩ _=_;rw [box_add];simp
 rw [ea]
 have hcell:((digV n d++cs.drop n).drop (n-j-1)).take 1=[digC (v%10)]:=by
  have hg:=zay2 n d (n-j-1) (by omega)
  rw [show n-1-(n-j-1)=j by omega,hv,Nat.mul_div_cancel _ (Nat.pow_pos (by decide)),<-hv] at hg
  have hg2:(digV n d++cs.drop n)[n-j-1]? =some (digC (v%10)):=by grind
  rw [List.take_one,List.head?_drop,hg2]
  rfl
 refine ⟨fun _=>⟨by rw [hb];simp,by omega,by omega⟩,((48+v%10:Nat):Int),fun _=>k1.ldIs hcell,letW ?_⟩
 rw [Bool.true_and]
 by_cases hz:v%10=0
 ·refine iteT (by rw [hz];rfl) ⟨⟨rfl,j+1,v / 10,?_,by omega,?_⟩,?_⟩
  ·omega
  ·rw [hv,Nat.pow_succ',<-Nat.mul_assoc,Nat.div_mul_cancel (Nat.dvd_of_mod_eq_zero hz)]
  ·omega
 ·refine iteF (fun hh=>hz (by have:((48+v%10:Nat):Int)=48:=beq_iff_eq.1 hh;omega)) ?_
  rw [zab (by omega) (by omega)]
  grind
end
def eN (n:Nat):List Value:=[.int .u8 (n:Int)]
theorem zrq (n:Nat):(eN n).length=1:=rfl
theorem eN_ok (n:Nat):zge (eN n)=true:=rfl
theorem zon1 :∀ds:List Nat,(ds.map fun (c:Nat)=>Value.int .u8 (c:Int))=ds.flatMap eN
 | []=>rfl
 | c::ds=>by rw [List.map_cons,zon1 ds,List.flatMap_cons];rfl
def expL (n:Nat):List Nat:=if n<10 then [48,48+n] else if n<100 then [48+n / 10,48+n%10] else [48+n / 100,48+n / 10%10,48+n%10]
def sciL (neg:Bool) (d:Nat) (ds:List Nat) (e:Int):List Nat:=
 (if neg then [45] else [])++ [d]++(if ds=[] then [] else 46::ds)++ [101,if e<0 then 45 else 43]++expL e.natAbs
section
variable {h0 h:Hp}
abbrev ON (h0 h:Hp) (l:Sl) (xs:List Nat):Prop:=Own h0 h 1 eN l xs
theorem app1 {l:Sl} {xs:List Nat} {v:Int} {c:Nat} {K:Sl->Hp->Prop} (hw:h0<=h) (o:ON h0 h l xs) (hv:v=(c:Int)) (hb:xs.length<1000000) (hk:∀l' h',h0<=h'->ON h0 h' l' (xs++ [c])->K l' h'):
  NewW [.int .u8 v] (fun a h2=>zbb 1 1 [.int .u8 (0:Int)] l ⟨some a,1,1⟩ K h2) h:=by
 subst hv
 exact zzw hw o (ys:=[c]) rfl rfl zrq eN_ok rfl (by grind) fun l' h' a b _=>hk l' h' a b
theorem app2 {l:Sl} {xs:List Nat} {v w:Int} {c d:Nat} {K:Sl->Hp->Prop} (hw:h0<=h) (o:ON h0 h l xs) (hv:v=(c:Int)) (hv2:w=(d:Int)) (hb:xs.length<1000000) (hk:∀l' h',h0<=h'->ON h0 h' l' (xs++ [c,d])->K l' h'):
  NewW [.int .u8 v,.int .u8 w] (fun a h2=>zbb 1 1 [.int .u8 (0:Int)] l ⟨some a,2,2⟩ K h2) h:=by
 subst hv hv2
 exact zzw hw o (ys:=[c,d]) rfl rfl zrq eN_ok rfl (by grind) fun l' h' a b _=>hk l' h' a b
theorem app3 {l:Sl} {xs:List Nat} {v w z:Int} {c d e:Nat} {K:Sl->Hp->Prop} (hw:h0<=h) (o:ON h0 h l xs) (hv:v=(c:Int)) (hv2:w=(d:Int)) (hv3:z=(e:Int)) (hb:xs.length<1000000) (hk:∀l' h',h0<=h'->ON h0 h' l' (xs++ [c,d,e])->K l' h'):
  NewW [.int .u8 v,.int .u8 w,.int .u8 z] (fun a h2=>zbb 1 1 [.int .u8 (0:Int)] l ⟨some a,3,3⟩ K h2) h:=by
 subst hv hv2 hv3
 exact zzw hw o (ys:=[c,d,e]) rfl rfl zrq eN_ok rfl (by grind) fun l' h' a b _=>hk l' h' a b
theorem byte8 (x:Int):IntKind.wrap .u8 x=x%256:=rfl
theorem zrv2 {dst s:Sl} {xs:List Nat} {b:Nat} {cs:List Value} {neg:Bool} {d:Nat} {ds:List Nat} {dp nd prec:Int} {Q:Sl->Hp->Prop} (hw:h0<=h) (o:ON h0 h dst xs) (hx:xs.length<1000) (hb:s.base=some ⟨b,0,none⟩) (kb:Blk h0 b cs)
  (hs:s.len=cs.length) (hc:s.cap=s.len) (hl:s.len<1000) (hn:nd=((ds.length+1:Nat):Int)) (hcs:cs.take (ds.length+1)=(d::ds).map fun (c:Nat)=>Value.int .u8 (c:Int)) (hp:prec=ds.length) (p0: -999<dp) (p1:dp<1000)
  (hk:∀r h',h0<=h'->ON h0 h' r (xs++sciL neg d ds (dp-1))->Q r h'):zco prog dst neg s dp nd prec (101:Int) true Q h:=by
 have hlen:ds.length+1<=cs.length:=by
  have:=congrArg List.length hcs
  grind
 unfold zco
 refine JoinW2.direct (letW (iteF (by decide) ?_))
 refine JoinW1.direct (iteT (by decide) (iteT (by decide) ?_))
 refine JoinW1.intro (fun l k=>h0<=k/\ON h0 k l (xs++if neg then [45] else [])) ?_ ?_
 ·cases neg with
  | true=>exact iteT rfl (app1 hw o (c:=45) rfl (by omega) fun l' h' a b=>⟨a,b⟩)
  | false=>grind
 rintro l1 k1 ⟨w1,o1⟩
 have len1:(xs++if neg then [45] else []).length<1002:=by grind
 refine JoinW1.intro (fun c k=>k=k1/\c=(d:Int)) ?_ ?_
 ·refine iteT (by rw [hn];exact bne_iff_ne.2 (by omega)) ⟨⟨by rw [hb];simp,by omega,by omega⟩,ld_at (sh:=shInt .u8) (d:Int) ?_ ⟨rfl,rfl⟩⟩
  have e:sat s.base 1 (0:Int)=⟨b,0,none⟩:=by rw [hb];show Addr.add ⟨b,0,none⟩ _=_;rw [box_add];rfl
  rw [e]
  refine (kb.le w1).ldIs (n:=1) ?_
  show List.take 1 (List.drop 0 cs)=[Value.int .u8 (d:Int)]
  have:=congrArg (List.take 1) hcs
  grind
 rintro _ k1 ⟨rfl,rfl⟩
 refine app1 w1 o1 rfl (by omega) fun l2 k2 w2 o2=> ?_
 refine JoinW1.intro (fun l k=>h0<=k/\ON h0 k l (xs++(if neg then [45] else [])++ [d]++if ds=[] then [] else 46::ds)) ?_ ?_
 ·rw [hp]
  by_cases hds:ds=[]
  ·grind
  ·have hd1:1<=ds.length:=by
    grind
   refine iteT (decide_eq_true (by omega)) (app1 w2 o2 (c:=46) rfl (by grind) fun l3 k3 w3 o3=> ?_)
   have emin:min2I nd (IntKind.wrap .i64 ((ds.length:Int)+(1:Int)))=((ds.length+1:Nat):Int):=by
    rw [zab (by omega) (by omega),hn]
    unfold min2I
    split<;>omega
   rw [emin]
   refine JoinW2.intro (fun l i k=>h0<=k/\i=((ds.length+1:Nat):Int)/\ON h0 k l (xs++(if neg then [45] else [])++ [d]++46::ds)) ?_ ?_
   ·refine iteT (decide_eq_true (by omega)) ⟨⟨by decide,by omega,by omega⟩,letW ?_⟩
    rw [Int.toNat_natCast]
    have hrow:Rw k3 1 eN ⟨sbase s.base 1 1 s.cap,ds.length+1-1,s.cap-1⟩ ds:=by
     refine ⟨by simp,?_⟩
     have eb:sbase s.base 1 1 s.cap=some ⟨b,1,none⟩:=by
      unfold sbase
      rw [hb,if_neg (by omega)]
      show some (Addr.add _ _)=_
      rw [box_add]
     show zbj1 k3 (sbase s.base 1 1 s.cap) (ds.length*1) (ds.flatMap eN)
     rw [eb]
     refine (kb.le w3).rd (by rw [zgn zrq]) ?_
     have:=congrArg (List.drop 1) hcs
     rw [List.drop_take,Nat.add_sub_cancel] at this
     rw [Nat.mul_one,this]
     simp only [List.map_cons,List.drop_succ_cons,List.drop_zero]
     exact zon1 ds
    refine zpx1 w3 o3 hrow zrq eN_ok rfl (by grind) fun l4 k4 w4 o4 _=>⟨w4,rfl,?_⟩
    simpa using o4
   ·rintro l4 i k4 ⟨w4,rfl,o4⟩
    refine LoopW2.intro (fun l t k=>l=l4/\t=0/\k=k4) (fun _ _ _=>0) ⟨rfl,rfl,rfl⟩ ?_
    rintro _ _ _ ⟨rfl,rfl,rfl⟩
    refine iteF (fun hh=> ?_) ⟨w4,by rw [if_neg hds];exact o4⟩
    have:=of_decide_eq_true hh
    rw [zab (n:=(ds.length:Int)+1) (by omega) (by omega),zab (by omega) (by omega)] at this
    omega
 rintro l3 k3 ⟨w3,o3⟩
 have len3:(xs++(if neg then [45] else [])++ [d]++if ds=[] then [] else 46::ds).length<5000:=by
  grind
 refine app1 w3 o3 (c:=101) rfl (by omega) fun l4 k4 w4 o4=> ?_
 refine JoinW1.intro (fun e k=>k=k4/\e=dp-1) (iteF (by grind) ⟨rfl,zab (by omega) (by omega)⟩) ?_
 rintro _ k4 ⟨rfl,rfl⟩
 refine JoinW2.intro (fun c e k=>k=k4/\c=((if dp-1<0 then 45 else 43:Nat):Int)/\e=((dp-1).natAbs:Int)) ?_ ?_
 ·by_cases hneg:dp-1<0
  ·refine iteT (decide_eq_true hneg) ⟨rfl,by rw [if_pos hneg];rfl,?_⟩
   rw [zab (by omega) (by omega)]
   omega
  grind
 rintro _ _ k4 ⟨rfl,rfl,rfl⟩
 refine app1 w4 o4 rfl (by grind) fun l5 k5 w5 o5=> ?_
 have fin:∀ {r:Sl} {k:Hp} {zs:List Nat},h0<=k->zs=expL (dp-1).natAbs->ON h0 k r (xs++(if neg then [45] else [])++ [d]++(if ds=[] then [] else 46::ds)++ [101]++ [if dp-1<0 then 45 else 43]++zs)->Q r k:=fun {r k zs} w e o'=>hk r k w (by
  subst e
  unfold sciL
  simpa using o')
 have len5:(xs++(if neg then [45] else [])++ [d]++(if ds=[] then [] else 46::ds)++ [101]++ [if dp-1<0 then 45 else 43]).length<1000000:=by
  grind
 have he:(dp-1).natAbs<1000:=by omega
 generalize (dp-1).natAbs=e at*
 unfold expL at fin
 by_cases c1:e<10
 ·refine iteT (decide_eq_true (by omega)) (app2 w5 o5 (c:=48) (d:=48+e) rfl (by rw [byte8,byte8];omega) len5 fun r k w o'=>fin w (by rw [if_pos c1]) o')
 ·refine iteF (fun hh=>c1 (by grind)) ?_
  rw [if_neg c1] at fin
  have t10:∀ {x:Nat},Int.tdiv (x:Int) (10:Int)=((x / 10:Nat):Int):=tdivN
  have t100:∀ {x:Nat},Int.tdiv (x:Int) (100:Int)=((x / 100:Nat):Int):=tdivN
  have m10:∀ {x:Nat},Int.tmod (x:Int) (10:Int)=((x%10:Nat):Int):=tmodN
  by_cases c2:e<100
  ·refine iteT (decide_eq_true (by omega)) ⟨by decide,by decide,app2 w5 o5 (c:=48+e / 10) (d:=48+e%10) ?_ ?_ len5 fun r k w o'=>fin w (by rw [if_pos c2]) o'⟩
   ·rw [t10,byte8,byte8,zab (by omega) (by omega)];omega
   ·rw [m10,byte8,byte8];omega
  ·rw [if_neg c2] at fin
   refine iteF (fun hh=>c2 (by grind)) ⟨by decide,by decide,by decide,by decide,app3 w5 o5 (c:=48+e / 100) (d:=48+e / 10%10) (e:=48+e%10) ?_ ?_ ?_ len5 fun r k w o'=>fin w rfl o'⟩
   ·rw [t100,byte8,byte8,zab (by omega) (by omega)];omega
   ·rw [t10,zab (by omega) (by omega),byte8 ((e / 10:Nat):Int),show ((e / 10:Nat):Int)%256=((e / 10:Nat):Int) by omega,m10,byte8];omega
   ·rw [m10,byte8,byte8];omega
end
section
variable {P:Program} {h:Hp}
theorem zpt2 {P:Program} {s:Sem Value} {sh:Shape} {K:sh.T->Hp->Prop} {h:Hp} (hs:semW P s (fun v h'=>∃x,v=sh.enc x/\K x h') h):SemE P s sh K h:=hs
theorem zdl1 {op : BinOp} {t : Nat} {x y : Operand} {a b : Nat} {r : Option Nat} {K : Nat -> Hp -> Prop} (he : binS op t x y (.float .f64 a) (.float .f64 b) = (match r with
      | some r=>Sem.pure (Value.float .f64 r)
      | none=>Sem.bind (choose (.nanBits .f64 a b)) fun n=>Sem.pure (Value.float .f64 n)))
  (hk:∀f,(∀v,r=some v->f=v)->(r=none->isNaN f=true)->K f h):SemE P (binS op t x y (.float .f64 a) (.float .f64 b)) (shFlt .f64) K h:=by
 refine zpt2 ?_
 rw [he]
 cases r with
 | some r=>exact ⟨r,rfl,hk r (fun v e=>(Option.some.inj e)) fun e=>by cases e⟩
 | none=>
  intro n
  exact ⟨_,rfl,hk _ (fun v e=>by cases e) fun _=>zpl2 a b n⟩
theorem zxs1 {t : Nat} {x y : Operand} {a b : Nat} : binS .mul t x y (.float .f64 a) (.float .f64 b) = (match f64.format.mul a b with
      | some r=>Sem.pure (Value.float .f64 r)
      | none=>Sem.bind (choose (.nanBits .f64 a b)) fun n=>Sem.pure (Value.float .f64 n)):=by
 cases e:f64.format.mul a b<;>(show Op.floatArith .mul .f64 a b=_;unfold Op.floatArith;simp only [pure,bind,Sem.bind,e])
theorem zpu2 {t : Nat} {x y : Operand} {a b : Nat} : binS .quo t x y (.float .f64 a) (.float .f64 b) = (match f64.format.div a b with
      | some r=>Sem.pure (Value.float .f64 r)
      | none=>Sem.bind (choose (.nanBits .f64 a b)) fun n=>Sem.pure (Value.float .f64 n)):=by
 cases e:f64.format.div a b<;>(show Op.floatArith .quo .f64 a b=_;unfold Op.floatArith;simp only [pure,bind,Sem.bind,e])
theorem zkb {s:Sem Value} {sh:Shape} {v:sh.T} {K:sh.T->Prop} (he:s=Sem.pure (sh.enc v)) (hk:K v):SemV none P s sh h K:=by
 refine ⟨v,zfz1 ?_,hk⟩
 rw [he]
 exact ⟨rfl,rfl⟩
theorem zrd1 {b:Int} {Q:Nat->Hp->Prop} (hq:Q (zof1 b) h):zeu1 prog b Q h:=by
 unfold zeu1
 exact ⟨_,rfl,hq⟩
end
def strN (xs:List Nat):ByteArray:=⟨(xs.map UInt8.ofNat).toArray⟩
theorem zqx {P:Program} {src dst e:TypeId} {h:Hp} {l:Sl} {xs:List Nat} (hs:P.underlying src=some (.slice e)) (he:P.underlying e=some (.int .u8)) (hd:P.underlying dst=some .string) (r:Rw h 1 eN l xs) (hx:∀x∈xs,x<256):SemIs P (convert src dst l.v) h (.string (strN xs)):=fun w hw=>by
 refine ⟨w,?_,.refl hw⟩
 obtain ⟨h1,h3⟩:=r
 obtain ⟨-,h3⟩:=h3
 rw [Nat.mul_one] at h3
 have nilc:l.base=none->xs.length=0:=fun hb=>by
  grind
 unfold Sl.v strN
 have hlen:(xs.map UInt8.ofNat).length=xs.length:=List.length_map ..
 cases hb:l.base with
 | none=>
  have:xs=[]:=List.length_eq_zero_iff.1 (nilc hb)
  subst this
  rw [run_convert_bytes_string w src dst e none l.len l.cap hs he hd]
  rfl
 | some a=>
  rw [h1,<-hlen]
  refine run_convert_bytes_back w src dst e a l.cap (xs.map UInt8.ofNat) hs he hd fun j hj=> ?_
  rcases h3 with h3 | ⟨a',ha,hl⟩
  ·omega
  ·rw [hb] at ha;cases ha
   have hj':j<xs.length:=by omega
   have e1:((xs.map UInt8.ofNat)[j]'hj).toNat=xs[j]:=by
    rw [List.getElem_map,UInt8.toNat_ofNat']
    have:=hx _ (List.getElem_mem hj')
    omega
   have:(xs.flatMap eN)[j]? =some (.int .u8 (((xs.map UInt8.ofNat)[j]'hj).toNat:Int)):=by
    rw [<-zon1,List.getElem?_map,List.getElem?_eq_getElem hj',e1];rfl
   have hc:=hl j _ this
   rw [<-znj]
   exact zdh1 (fun b o e=>hw b o e) hc
def digL :Nat->Nat->List Nat
 | 0,_=> []
 | n+1,u=>digL n (u / 10)++ [48+u%10]
theorem zni :∀n u,(digL n u).length=n
 | 0,_=>rfl
 | n+1,u=>by rw [digL,List.length_append,zni n];rfl
theorem zre1 :∀n u,digV n u=(digL n u).map fun (c:Nat)=>Value.int .u8 (c:Int)
 | 0,_=>rfl
 | n+1,u=>by rw [digV,digL,List.map_append,zre1 n];rfl
theorem zlr1 :∀(k a u:Nat),(digL (a+k) u).take a=digL a (u / 10^k)
 | 0,a,u=>by rw [Nat.add_zero,Nat.pow_zero,Nat.div_one,List.take_of_length_le (by rw [zni];omega)]
 | k+1,a,u=>by
  rw [<-Nat.add_assoc,digL,List.take_append_of_le_length (by rw [zni];omega),zlr1 k a (u / 10),Nat.div_div_eq_div_mul,Nat.pow_succ']
theorem zic1 :∀(n u:Nat),∀x∈digL n u,48<=x/\x<58
 | 0,_,x,h=>by simp [digL] at h
 | n+1,u,x,h=>by
  rw [digL,List.mem_append] at h
  rcases h with h | h
  ·exact zic1 n _ x h
  grind
def sciT (neg:Bool) (a v:Nat) (e:Int):List Nat:=match digL a v with
 | []=> []
 | c::ds=>sciL neg c ds e
theorem zpv2 {neg:Bool} {a v:Nat} {e:Int} (he:e.natAbs<1000):∀x∈sciT neg a v e,x<256:=by
 unfold sciT
 have hd:=zic1 a v
 generalize digL a v=l at*
 intro x hx
 cases l with
 | nil=>simp at hx
 | cons c ds=>
  have h1:=hd c (List.mem_cons_self ..)
  have h2:∀y∈ds,y<58:=fun y hy=>(hd y (List.mem_cons_of_mem _ hy)).2
  have h3:∀y∈expL e.natAbs,y<256:=by
   unfold expL
   intro y hy
   split at hy
   ·simp at hy;omega
   ·split at hy<;>simp at hy<;>omega
  have hx:x∈(if neg then [45] else [])++ [c]++(if ds=[] then [] else 46::ds)++ [101,if e<0 then 45 else 43]++expL e.natAbs:=hx
  grind
section
variable {h0 h:Hp}
theorem ztv1 {a:Nat} (k:Nat) (ha:a<9223372036854775808) (hk:k<=62):bitsI .and .i64 (IntKind.wrap .i64 (a:Int)) ((2^k-1:Nat):Int)=((a%2^k:Nat):Int):=by
 have h2:2^k<=2^62:=Nat.pow_le_pow_right (by decide) hk
 have hp:=Nat.two_pow_pos k
 have hm:a%2^k<=a:=Nat.mod_le _ _
 rw [zab (by omega) (by omega)]
 unfold bitsI
 dsimp only
 show IntKind.wrap .i64 (((BitVec.ofInt 64 (a:Int))&&&(BitVec.ofInt 64 ((2^k-1:Nat):Int))).toNat:Int)=_
 rw [BitVec.toNat_and,zlx (by omega),zlx (by omega),Nat.and_two_pow_sub_one_eq_mod,zab (by omega) (by omega)]
def mS (r:Nat):Nat:=zac r*2^(64-bitsN (zac r))
def eS (r:Nat):Int:=zad r-((64-bitsN (zac r):Nat):Int)
theorem zkd {r:Nat} (h1:0<r) (h2:r<9218868437227405312):1<=bitsN (zac r)/\bitsN (zac r)<=53/\(bitsN (zac r)<53->zad r= -1074)/\ -1074<=zad r/\zad r<=971/\zac r≠0:=by
 have hm:zac r≠0:=fun e=>by rw [zuc h2] at e;omega
 have b1:=zra (zac r)
 have b2:=zvn hm
 have hl:zac r<2^53:=by unfold zac;split<;>omega
 have b3:=zgq1 hl
 refine ⟨by grind,b3,fun hb=> ?_,partsE_ge' r,?_,hm⟩
 ·unfold zad
  by_cases hr:r<4503599627370496
  ·rw [if_pos hr]
  ·exfalso
   have:4503599627370496<=zac r:=by unfold zac;grind
   have:2^bitsN (zac r)<=2^52:=Nat.pow_le_pow_right (by decide) (by omega)
   omega
 ·unfold zad;split<;>omega
where
 partsE_ge' (r:Nat): -1074<=zad r:=by unfold zad;split<;>omega
theorem mS_in {r:Nat} (h1:0<r) (h2:r<9218868437227405312):9223372036854775808<=mS r/\mS r+2^zP (eS r)<=18446744073709551616/\ -1137<=eS r/\eS r<=974/\zP (eS r)=64-bitsN (zac r):=by
 obtain ⟨b1,b2,b3,b4,b5,hm⟩:=zkd h1 h2
 have l1:=zra (zac r)
 have l2:=zvn hm
 have hz:zP (eS r)=64-bitsN (zac r):=by
  unfold zP eS
  grind
 have e1:2^(bitsN (zac r)-1)*2^(64-bitsN (zac r))=9223372036854775808:=by
  rw [<-Nat.pow_add,show bitsN (zac r)-1+(64-bitsN (zac r))=63 by omega]
 have e2:2^bitsN (zac r)*2^(64-bitsN (zac r))=18446744073709551616:=by
  rw [<-Nat.pow_add,show bitsN (zac r)+(64-bitsN (zac r))=64 by omega]
 refine ⟨?_,?_,by unfold eS;omega,by unfold eS;omega,hz⟩
 ·have:=Nat.mul_le_mul_right (2^(64-bitsN (zac r))) l2
  unfold mS
  omega
 ·have:=Nat.mul_le_mul_right (2^(64-bitsN (zac r))) (show zac r+1<=2^bitsN (zac r) from l1)
  rw [hz]
  unfold mS
  grind
def Shown (r:Nat) (neg:Bool) (zs:List Nat):Prop:=∃n k v:Nat,(zbh (mS r) (eS r)).1=v*10^k/\v%10≠0/\k<n/\n<=20/\10^(n-1)<=(zbh (mS r) (eS r)).1/\(zbh (mS r) (eS r)).1<10^n/\zs=sciT neg (n-k) v ((n:Int)+(zbh (mS r) (eS r)).2-1)
theorem zpw2 {dst:Sl} {xs:List Nat} {w b0:Nat} {Q:Sl->Hp->Prop} (hw:h0<=h) (o:ON h0 h dst xs) (hbase:dst.base=some ⟨b0,0,none⟩) (hx:xs.length<1000) (hw64:w<18446744073709551616) (w0:0<w%9223372036854775808) (w1:w%9223372036854775808<9218868437227405312)
  (d0:(zbh (mS (w%9223372036854775808)) (eS (w%9223372036854775808))).1≠0) (d1:(zbh (mS (w%9223372036854775808)) (eS (w%9223372036854775808))).1<18446744073709551616)
  (t1:Pow10 h0) (t2:zlz h0) (hk:∀r h' zs,h0<=h'->Shown (w%9223372036854775808) (negD w) zs->ON h0 h' r (xs++zs)->Q r h'):zej prog dst w (101:Int) (-1:Int) Q h:=by
 obtain ⟨b1,b2,b3,b4,b5,hm⟩:=zkd w0 w1
 obtain ⟨m0,m1,e0,e1,hz⟩:=mS_in w0 w1
 unfold zej
 refine JoinW4.direct ⟨(w:Int),rfl,⟨by decide,by decide,by decide,by decide,by decide,?_⟩⟩
 rw [show IntKind.wrap .i64 ((shlI .i64 (1:Int) (11:Int))-(1:Int))=((2^11-1:Nat):Int) by decide,show IntKind.wrap .u64 ((shlI .u64 (1:Int) (52:Int))-(1:Int))=(4503599627370495:Int) by decide,show shlI .u64 (1:Int) (52:Int)=((1*2^52:Nat):Int) by decide,
  show IntKind.wrap .i64 ((11:Int)+(52:Int))=((63:Nat):Int) by decide,show (52:Int)=((52:Nat):Int) from rfl,shrN w (by decide),shrN w (by decide),ztv1 11 (by omega) (by decide),zqy1 hw64]
 have hE:w / 2^52%2^11=w%9223372036854775808 / 4503599627370496:=by omega
 have hF:w%4503599627370496=w%9223372036854775808%4503599627370496:=by omega
 rw [hE,hF]
 have hneg:(((w / 2^63:Nat):Int) !=(0:Int))=negD w:=by
  unfold negD
  by_cases c:9223372036854775808<=w
  ·rw [decide_eq_true c];exact bne_iff_ne.2 (by omega)
  ·rw [decide_eq_false c,Bool.eq_false_iff]
   intro hh
   exact bne_iff_ne.1 hh (by omega)
 rw [hneg]
 generalize w%9223372036854775808=r at*
 refine iteF (fun hh=>by have:=beq_iff_eq.1 hh;omega) ?_
 refine JoinW2.intro (fun e m k=>k=h/\e=zad r+1075/\m=((zac r:Nat):Int)) ?_ ?_
 ·by_cases hr:r<4503599627370496
  ·refine iteT (beq_iff_eq.2 (by omega)) ⟨rfl,?_,?_⟩
   ·rw [show r / 4503599627370496=0 by omega]
    unfold zad
    rw [if_pos hr]
    decide
   ·unfold zac
    rw [if_pos hr,Nat.mod_eq_of_lt hr]
  ·refine iteF (fun hh=>hr (by have:=beq_iff_eq.1 hh;omega)) ⟨by decide,rfl,?_,?_⟩
   ·unfold zad
    rw [if_neg hr]
    omega
   ·unfold zac
    rw [if_neg hr,ztm1,zlp1 (a:=1) (s:=52) (.inl ⟨rfl,by omega⟩) (by omega)]
    omega
 rintro _ _ h ⟨rfl,rfl,rfl⟩
 refine iteF (by decide) (letW (iteF (by decide) (iteF (fun hh=>hm (by have:=beq_iff_eq.1 hh;omega)) (iteT (by decide) ?_))))
 intro b ty hb
 generalize hbuf: [Value.int .u8 (0:Int),_,_,_,_,_,_,_,_,_,_,_,_,_,_,_,_,_,_,_,_,_,_,_,_,_,_,_,_,_,_,_]=buf
 have hbl:buf.length=32:=by rw [<-hbuf];rfl
 have hle:=zji (o:=.cells buf.toArray ty (0,0)) hb
 have kb:Blk (h.set b (.cells buf.toArray ty (0,0))) b buf:=⟨ty,zdu⟩
 have hne:b≠b0:=fun e=>by
  subst e
  obtain ⟨_,_,o3⟩:=o
  rcases o3 with ⟨o3,_⟩ | ⟨b',cs,t,o3,o4,_⟩
  ·rw [hbase] at o3;cases o3
  ·rw [hbase] at o3;cases o3;rw [hb] at o4;cases o4
 have own:=o.mono hle
 have hw2:=Hp.le_trans hw hle
 have hb0:h0 b=none:=zqe hw hb
 clear hbuf
 generalize h.set b (.cells buf.toArray ty (0,0))=h1 at*
 have ml:zac r<18446744073709551616:=Nat.lt_of_lt_of_le (zra _) (Nat.le_trans (Nat.pow_le_pow_right (by decide) b2) (by decide))
 have hL:IntKind.wrap .i64 ((64:Int)-(bitsN (zac r):Int))=((64-bitsN (zac r):Nat):Int):=by rw [zab (by omega) (by omega)];omega
 refine zic (zju1 ml ?_)
 rw [hL]
 have eM:shlI .u64 ((zac r:Nat):Int) ((64-bitsN (zac r):Nat):Int)=((mS r:Nat):Int):=shlN (by omega) (by have:0<2^zP (eS r):=Nat.two_pow_pos _;unfold mS at m1;omega)
 have eE:IntKind.wrap .i64 ((IntKind.wrap .i64 ((IntKind.wrap .i64 (zad r+1075+(-1023:Int)))-((64-bitsN (zac r):Nat):Int)))-((52:Nat):Int))=eS r:=by
  unfold eS
  rw [zab (n:=zad r+1075+ -1023) (by omega) (by omega),zab (n:=zad r+1075+ -1023-_) (by omega) (by omega),zab (by omega) (by omega)]
  omega
 rw [eM,eE]
 refine ⟨by omega,zla (zlv2 m0 m1 e0 e1 (zbc hw2 t1) fun h2 l2=>letW ?_)⟩
 have eb:sbase (some ⟨b,0,none⟩) 1 0 32=some ⟨b,0,none⟩:=by unfold sbase;rw [if_neg (by decide)];show some (Addr.add _ _)=_;rw [box_add]
 rw [eb]
 obtain ⟨p0,p1, -, -⟩:=p_in (m:=mS r) e0 e1
 have hp2: -400<=(zbh (mS r) (eS r)).2/\(zbh (mS r) (eS r)).2<=400:=by
  unfold zbh
  split
  ·show -400<= -(pP _ _-1)/\ -(pP _ _-1)<=400;omega
  ·split
   ·show -400<= -(pP _ _)/\ -(pP _ _)<=400;omega
   ·show -400<= -(pP _ _)/\ -(pP _ _)<=400;omega
 have sh:∀ {n k v:Nat},(zbh (mS r) (eS r)).1=v*10^k->v%10≠0->k<n->n<=20->10^(n-1)<=(zbh (mS r) (eS r)).1->(zbh (mS r) (eS r)).1<10^n->Shown r (negD w) (sciT (negD w) (n-k) v ((n:Int)+(zbh (mS r) (eS r)).2-1)):=fun a1 a2 a3 a4 a5 a6=>⟨_,_,_,a1,a2,a3,a4,a5,a6,rfl⟩
 generalize (zbh (mS r) (eS r)).1=d at*
 generalize (zbh (mS r) (eS r)).2=p at*
 have kb2:=kb.le l2
 have own2:=own.mono l2
 have hw3:=Hp.le_trans hw2 l2
 refine zja (ziv1 d0 d1 (zbc hw3 t2) fun n n1 n20 dn dn1=> ?_)
 refine zqv (ztu1 (s:=⟨some ⟨b,0,none⟩,32,32⟩) rfl hbl.symm rfl (by show 32<_;decide) kb2 d0 d1 (by show n<=32;omega) dn1 (by omega) (by omega) fun h3 k v mv kb3 hv hv10 hkn=> ?_)
 refine JoinW1.intro (fun q k'=>k'=h3/\q=((n-k-1:Nat):Int)) (JoinW1.direct (iteT (by decide) (iteT (by decide) ⟨rfl,?_⟩))) ?_
 ·rw [zab (by omega) (by omega)]
  unfold max2I
  split<;>omega
 rintro q h3' ⟨rfl,rfl⟩
 refine letW ?_
 have hb03:h3' b0=h2 b0\/True:=.inr trivial
 have own3:ON h0 h3' dst xs:=by
  obtain ⟨o1,o2,o3⟩:=own2
  refine ⟨o1,o2,?_⟩
  rcases o3 with o3 | ⟨b',cs,t,o3,o4,o5⟩
  ·exact .inl o3
  ·refine .inr ⟨b',cs,t,o3,?_,o5⟩
   rw [hbase] at o3;cases o3
   exact mv.keep _ _ o4 (by simpa using Ne.symm hne)
 have hw4:h0<=h3':=fun c ob hc=>mv.keep c ob (hw3 c ob hc) (by simp only [List.mem_singleton];intro e;rw [e,hb0] at hc;cases hc)
 have hb0n:h0 b0=none:=by
  obtain ⟨_,_,o3⟩:=own3
  rcases o3 with ⟨o3,_⟩ | ⟨b',cs,t,o3,_,_,_,o4⟩
  ·rw [hbase] at o3;cases o3
  ·rw [hbase] at o3;cases o3;exact o4
 have own4:ON (cutH h3' [b0]) h3' dst xs:=by
  obtain ⟨o1,o2,o3⟩:=own3
  refine ⟨o1,o2,?_⟩
  rcases o3 with o3 | ⟨b',cs,t,o3,o4,o5,o6,o7⟩
  ·exact .inl o3
  ·rw [hbase] at o3;cases o3
   exact .inr ⟨b0,cs,t,hbase,o4,o5,o6,zal2 (List.mem_singleton.2 rfl)⟩
 have hcut:h0<=cutH h3' [b0]:=zoa2 hw4 (by simpa using hb0n)
 have kb4:Blk (cutH h3' [b0]) b (digV n d++buf.drop n):=by
  obtain ⟨t,e⟩:=kb3
  exact ⟨t,by rw [zam2 (by simpa using hne)];exact e⟩
 obtain ⟨c,ds,hcd⟩:∃c ds,digL (n-k) v=c::ds:=by
  cases hq:digL (n-k) v with
  | nil=>have:=congrArg List.length hq;rw [zni] at this;simp at this;omega
  | cons c ds=>exact ⟨c,ds,rfl⟩
 have hds:ds.length+1=n-k:=by have:=congrArg List.length hcd;rw [zni] at this;simpa using this.symm
 have htake:(digV n d++buf.drop n).take (ds.length+1)=(c::ds).map fun (c:Nat)=>Value.int .u8 (c:Int):=by
  rw [hds,List.take_append_of_le_length (by rw [zdk1];omega),zre1,<-List.map_take,<-hcd]
  have:=zlr1 k (n-k) d
  rw [show n-k+k=n by omega,hv,Nat.mul_div_cancel _ (Nat.pow_pos (by decide))] at this
  rw [hv,this]
 refine zkv (zrv2 (s:=⟨some ⟨b,0,none⟩,32,32⟩) znz2 own4 hx rfl kb4 (by show 32=_;rw [List.length_append,zdk1,List.length_drop,hbl];omega) rfl (by show 32<_;decide) (by rw [hds]) htake (by omega) (by omega) (by omega) fun r' h4 l4 o4=> ?_)
 have o5:ON h0 h4 r' (xs++sciL (negD w) c ds ((n:Int)+p-1)):=by
  obtain ⟨q1,q2,q3⟩:=o4
  refine ⟨q1,q2,?_⟩
  rcases q3 with q3 | ⟨b',cs,t,q3,q4,q5,q6,q7⟩
  ·exact .inl q3
  ·exact .inr ⟨b',cs,t,q3,q4,q5,q6,zqe hcut q7⟩
 refine hk r' h4 _ (Hp.le_trans hcut l4) (sh hv hv10 hkn n20 dn dn1) ?_
 unfold sciT
 grind
end
end Lf
namespace Lf
def kF (r:Nat):Nat:=unitW (zad r-2) 0
def lowF (r:Nat):Nat:=if zac r=4503599627370496/\1<r / 4503599627370496 then 4*zac r-1 else 4*zac r-2
def loF (r:Nat):Nat:=lowF r*kF r
def hiF (r:Nat):Nat:=(4*zac r+2)*kF r
def vF (r:Nat):Nat:=4*zac r*kF r
def oddF (r:Nat):Bool:=zac r%2==1
def pF (r:Nat):Int:=pP (mS r) (eS r)
def inF (r:Nat) (X:Nat):Bool:=inI (loF r) (hiF r) (oddF r) X
def pickF (r:Nat) (s:Int):Nat:=pickD (loF r) (hiF r) (oddF r) (vF r) (unitW 0 s)
def valS (r:Nat):Nat:=(zbh (mS r) (eS r)).1*unitW 0 (zbh (mS r) (eS r)).2
theorem ztu (s k:Int) (hs: -3000<=s) (hk: -3000<=k):∃Z,0<Z/\10^s.toNat*2^(-k).toNat*Z=unitW 0 s/\2^k.toNat*10^(-s).toNat*Z=unitW k 0:=by
 refine ⟨2^(5000-(-k).toNat)*10^(5000-(-s).toNat),Nat.mul_pos (Nat.two_pow_pos _) (Nat.pow_pos (by decide)),?_,?_⟩
 ·unfold unitW
  have e:∀i j k l:Nat,10^i*2^j*(2^k*10^l)=2^(j+k)*10^(i+l):=fun i j k l=>by
   grind
  rw [e]
  congr 2<;>omega
 ·unfold unitW
  have e:∀i j k l:Nat,2^i*10^j*(2^k*10^l)=2^(i+k)*10^(j+l):=fun i j k l=>by
   grind
  rw [e]
  congr 2<;>omega
def logOk (c:Nat) (n x:Int):Bool:=decide (10^x.toNat*2^(-n).toNat<=c*(2^n.toNat*10^(-x).toNat))&&decide (c*(2^n.toNat*10^(-x).toNat)<10*(10^x.toNat*2^(-n).toNat))
def logLt (c:Nat) (n x:Int):Bool:=decide (10^x.toNat*2^(-n).toNat<c*(2^n.toNat*10^(-x).toNat))
theorem zaz2 {c:Nat} {n x:Int} (hn: -3000<=n) (hx: -3000<=x) (h:logOk c n x=true):unitW 0 x<=c*unitW n 0/\c*unitW n 0<10*unitW 0 x:=by
 obtain ⟨Z,z0,e1,e2⟩:=ztu x n hx hn
 unfold logOk at h
 rw [Bool.and_eq_true] at h
 have h1:=Nat.mul_le_mul_right Z (of_decide_eq_true h.1)
 have h2:=Nat.mul_lt_mul_of_pos_right (of_decide_eq_true h.2) z0
 rw [Nat.mul_assoc c,e1,e2] at h1
 rw [Nat.mul_assoc c,Nat.mul_assoc 10,e1,e2] at h2
 exact ⟨h1,h2⟩
theorem zpx2 {c:Nat} {n x:Int} (hn: -3000<=n) (hx: -3000<=x) (h:logLt c n x=true):unitW 0 x<c*unitW n 0:=by
 obtain ⟨Z,z0,e1,e2⟩:=ztu x n hx hn
 unfold logLt at h
 have h2:=Nat.mul_lt_mul_of_pos_right (of_decide_eq_true h) z0
 rw [Nat.mul_assoc c,e1,e2] at h2
 exact h2
theorem zpy2 :∀i:Nat,i<2060->logOk 1 ((i:Int)-1074) (zly ((i:Int)-1074))=true:=by decide+kernel
theorem zlz2 :∀i:Nat,i<2060->(logOk 3 ((i:Int)-1076) (skewP ((i:Int)-1074))&&logLt 3 ((i:Int)-1076) (skewP ((i:Int)-1074)))=true:=by decide+kernel
section
variable {r:Nat}
theorem zsk {r:Nat} (h1:0<r) (h2:r<9218868437227405312):zP (eS r)=64-bitsN (zac r)/\mS r=zac r*2^zP (eS r)/\eS r=zad r-(zP (eS r):Nat)/\11<=zP (eS r)/\zP (eS r)<=63/\(-1085<=eS r->zP (eS r)=11)/\0<zac r:=by
 obtain ⟨b1,b2,b3,b4,b5,hm⟩:=zkd h1 h2
 obtain ⟨m0,m1,e0,e1,hz⟩:=mS_in h1 h2
 refine ⟨hz,by rw [hz];rfl,by rw [hz];rfl,by omega,by omega,fun h=> ?_,by omega⟩
 unfold zP
 rw [if_pos h]
theorem zrf1 (h1:0<r) (h2:r<9218868437227405312):(mS r=9223372036854775808/\ -1085<eS r)↔(zac r=4503599627370496/\1<r / 4503599627370496):=by
 obtain ⟨hz,hm,he,z0,z1,z2,hM⟩:=zsk h1 h2
 obtain ⟨b1,b2,b3,b4,b5, -⟩:=zkd h1 h2
 constructor
 ·rintro ⟨a1,a2⟩
  have z11:=z2 (by omega)
  rw [z11] at hm he
  have m2:zac r=4503599627370496:=by
   omega
  refine ⟨m2,?_⟩
  have hr:¬r<4503599627370496:=fun h=>by
   have:zac r=r:=by unfold zac;rw [if_pos h]
   omega
  have:zad r=((r / 4503599627370496:Nat):Int)-1075:=by unfold zad;rw [if_neg hr]
  omega
 ·rintro ⟨a1,a2⟩
  have hr:¬r<4503599627370496:=fun h=>by omega
  have hE:zad r=((r / 4503599627370496:Nat):Int)-1075:=by unfold zad;rw [if_neg hr]
  grind
theorem zrw2 (h1:0<r) (h2:r<9218868437227405312):2^(zP (eS r)-2)*unitW (eS r) 0=kF r:=by
 obtain ⟨hz,hm,he,z0,z1,z2,hM⟩:=zsk h1 h2
 obtain ⟨m0,m1,e0,e1, -⟩:=mS_in h1 h2
 rw [zda (by omega)]
 unfold kF
 congr 1
 omega
theorem two_z {z:Nat} (hz:11<=z):2^z=4*2^(z-2)/\2^(z-1)=2*2^(z-2):=by
 obtain ⟨k,rfl⟩:∃k,z=k+2:=⟨z-2,by omega⟩
 grind
theorem zba2 (h1:0<r) (h2:r<9218868437227405312):minP (mS r) (eS r)=lowF r*2^(zP (eS r)-2)/\maxP (mS r) (eS r)=(4*zac r+2)*2^(zP (eS r)-2)/\mS r=4*zac r*2^(zP (eS r)-2)/\oddP (mS r) (eS r)=oddF r:=by
 obtain ⟨hz,hm,he,z0,z1,z2,hM⟩:=zsk h1 h2
 have sk:=zrf1 h1 h2
 obtain ⟨t1,t2⟩:=two_z z0
 have hm4:mS r=4*zac r*2^(zP (eS r)-2):=by grind
 refine ⟨?_,?_,hm4,?_⟩
 ·unfold minP lowF
  by_cases h:mS r=9223372036854775808/\ -1085<eS r
  ·grind
  ·rw [if_neg h,if_neg (fun hh=>h (sk.2 hh)),hm4,t2,<-Nat.sub_mul]
 ·unfold maxP
  grind
 ·unfold oddP oddF
  rw [hm,Nat.mul_div_cancel _ (Nat.two_pow_pos _)]
theorem zdq2 (h1:0<r) (h2:r<9218868437227405312) {x:Nat} (hx:x=minP (mS r) (eS r)\/x=mS r\/x=maxP (mS r) (eS r)):
  2305843009213693952<=x/\x<18446744073709551616/\x%2^(if -1085<=eS r then 9 else zP (eS r)-1)=0:=by
 obtain ⟨hz,hm,he,z0,z1,z2,hM⟩:=zsk h1 h2
 obtain ⟨m0,m1,e0,e1, -⟩:=mS_in h1 h2
 obtain ⟨n1,n2,n3, -⟩:=zba2 h1 h2
 obtain ⟨t1,t2⟩:=two_z z0
 have p62:2^(zP (eS r)-1)<=4611686018427387904:=by
  omega
 have pz:=Nat.two_pow_pos (zP (eS r)-2)
 refine ⟨?_,?_,?_⟩
 ·rcases hx with rfl | rfl | rfl
  ·unfold minP;split<;>omega
  ·omega
  ·unfold maxP;omega
 ·rcases hx with rfl | rfl | rfl
  ·unfold minP;split<;>omega
  ·omega
  ·unfold maxP;omega
 ·by_cases h: -1085<=eS r
  ·grind
  ·rw [if_neg h]
   have e3:∀c:Nat,2*c*2^(zP (eS r)-2)%2^(zP (eS r)-1)=0:=fun c=>by
    rw [t2,Nat.mul_comm 2 c,Nat.mul_assoc]
    simp
   have hl:lowF r=2*(2*zac r-1):=by
    unfold lowF
    rw [if_neg (fun hh=>h (by have:=((zrf1 h1 h2).2 hh).2;omega))]
    omega
   rcases hx with rfl | rfl | rfl
   ·grind
   ·rw [n3,show 4*zac r=2*(2*zac r) by omega];exact e3 _
   ·rw [n2,show 4*zac r+2=2*(2*zac r+1) by omega];exact e3 _
theorem scl_F (h1:0<r) (h2:r<9218868437227405312) {x c:Nat} (hx:x=minP (mS r) (eS r)\/x=mS r\/x=maxP (mS r) (eS r)) (hc:x=c*2^(zP (eS r)-2)):
  sclP (mS r) (eS r) x=zaw (4*(c*kF r)) (unitW 0 (-pF r))/\sclP (mS r) (eS r) x<18446744073709551000/\0<sclP (mS r) (eS r) x:=by
 obtain ⟨m0,m1,e0,e1, -⟩:=mS_in h1 h2
 obtain ⟨l1,l2,l3⟩:=zdq2 h1 h2 hx
 have hs:=s_in (m:=mS r) e0 e1
 obtain ⟨p0,p1,s0,s1⟩:=p_in (m:=mS r) e0 e1
 obtain ⟨t1,t2,t3⟩:=zoi1 p0 p1
 have e:=zhp2 (m:=mS r) e0 e1 l1 l2 l3
 rw [hc,Nat.mul_assoc,zrw2 h1 h2,<-hc] at e
 refine ⟨e,?_,?_⟩
 ·unfold sclP zxb
  dsimp only
  have hul:x*hiP (pP (mS r) (eS r)) / 18446744073709551616<18446744073709551616:=Nat.div_lt_of_lt_mul (Nat.lt_of_lt_of_le (Nat.mul_lt_mul_of_lt_of_lt l2 t2) (Nat.le_refl _))
  generalize x*hiP (pP (mS r) (eS r)) / 18446744073709551616=u at*
  have hp:2^4<=2^(-(eS r+log2P (pP (mS r) (eS r))+3)).toNat:=Nat.pow_le_pow_right (by decide) hs
  generalize 2^(-(eS r+log2P (pP (mS r) (eS r))+3)).toNat=D at*
  have hdiv:∀ {w:Nat},w<18446744073709551616->w / D<2^60:=fun {w} hw=>by
   have:w / D<=w / 2^4:=Nat.div_le_div_left hp (by decide)
   omega
  have o1:∀ {w k:Nat},w<18446744073709551616->k<2->w / D ||| k<18446744073709551000:=fun {w k} hw hk=>by
   have:w / D ||| k<2^60:=Nat.or_lt_two_pow (hdiv hw) (by omega)
   omega
  grind
 ·refine Nat.pos_of_ne_zero fun hz=> ?_
  rw [hz] at e
  have:=(zia1 (F:=4*(c*kF r)) (c:=0) (zbq 0 (-pP (mS r) (eS r))) rfl).1.1 (by omega)
  rw [Nat.zero_mul] at this
  have hc0:0<c:=by
   grind
  have hk:0<kF r:=zbq _ _
  have:=Nat.mul_pos hc0 hk
  omega
end
section
variable {r:Nat}
theorem zoo1 (r:Nat):0<kF r:=zbq _ _
theorem zpz2 (h1:0<r) (h2:r<9218868437227405312):lowF r<4*zac r:=by
 obtain ⟨hz,hm,he,z0,z1,z2,hM⟩:=zsk h1 h2
 unfold lowF;split<;>omega
theorem v_in (h1:0<r) (h2:r<9218868437227405312):loF r<vF r/\vF r<hiF r:=by
 have hk:=zoo1 r
 exact ⟨Nat.mul_lt_mul_of_pos_right (zpz2 h1 h2) hk,Nat.mul_lt_mul_of_pos_right (by omega) hk⟩
theorem ztw1 (h1:0<r) (h2:r<9218868437227405312):unitW 0 (-pF r)<=hiF r-loF r/\hiF r-loF r<10*unitW 0 (-pF r)/\
  ((2*(vF r-loF r)=hiF r-loF r/\vF r=zac r*(hiF r-loF r))\/(3*(vF r-loF r)=hiF r-loF r/\unitW 0 (-pF r)<hiF r-loF r/\zac r=4503599627370496)):=by
 obtain ⟨hz,hm,he,z0,z1,z2,hM⟩:=zsk h1 h2
 obtain ⟨b1,b2,b3,b4,b5, -⟩:=zkd h1 h2
 have sk:=zrf1 h1 h2
 have hk:=zoo1 r
 by_cases h:mS r=9223372036854775808/\ -1085<eS r
 ·have h':=sk.1 h
  have hp: -pF r=skewP (zad r):=by
   unfold pF pP
   grind
  have hl:lowF r=4*zac r-1:=by unfold lowF;rw [if_pos h']
  have hw:hiF r-loF r=3*kF r:=by
   unfold hiF loF
   rw [<-Nat.sub_mul,hl]
   congr 1;omega
  have hv:vF r-loF r=kF r:=by
   unfold vF loF
   rw [<-Nat.sub_mul,hl,show 4*zac r-(4*zac r-1)=1 by omega,Nat.one_mul]
  have c:=zlz2 (zad r+1074).toNat (by omega)
  rw [show (((zad r+1074).toNat:Nat):Int)-1076=zad r-2 by omega,show (((zad r+1074).toNat:Nat):Int)-1074=zad r by omega,Bool.and_eq_true] at c
  have hx: -3000<=skewP (zad r):=by unfold skewP;omega
  obtain ⟨c1,c2⟩:=zaz2 (by omega) hx c.1
  have c3:=zpx2 (by omega) hx c.2
  rw [hp,hw,hv]
  exact ⟨c1,c2,.inr ⟨rfl,c3,h'.1⟩⟩
 ·have h':¬_:=fun hh=>h (sk.2 hh)
  have hp: -pF r=zly (zad r):=by
   unfold pF pP
   rw [if_neg h,show eS r+(zP (eS r):Nat)=zad r by omega]
   omega
  have hl:lowF r=4*zac r-2:=by unfold lowF;rw [if_neg h']
  have hw:hiF r-loF r=4*kF r:=by
   unfold hiF loF
   rw [<-Nat.sub_mul,hl]
   congr 1;omega
  have hv:vF r-loF r=2*kF r:=by
   unfold vF loF
   rw [<-Nat.sub_mul,hl]
   congr 1;omega
  have hw1:4*kF r=1*unitW (zad r) 0:=by
   have:=zda (a:=zad r-2) (b:=0) (n:=2) (by omega)
   rw [show zad r-2+((2:Nat):Int)=zad r by omega] at this
   rw [Nat.one_mul,<-this]
   rfl
  have c:=zpy2 (zad r+1074).toNat (by omega)
  rw [show (((zad r+1074).toNat:Nat):Int)-1074=zad r by omega] at c
  have hx: -3000<=zly (zad r):=by unfold zly;omega
  obtain ⟨c1,c2⟩:=zaz2 (by omega) hx c
  rw [hp,hw,hv]
  rw [<-hw1] at c1 c2
  refine ⟨c1,c2,.inl ⟨by omega,?_⟩⟩
  unfold vF
  grind
theorem min_F (h1:0<r) (h2:r<9218868437227405312) (d:Nat):dminP (mS r) (eS r)<=d↔if oddF r=true then loF r<d*unitW 0 (-pF r) else loF r<=d*unitW 0 (-pF r):=by
 obtain ⟨n1,n2,n3,n4⟩:=zba2 h1 h2
 obtain ⟨s1,s2,s3⟩:=scl_F h1 h2 (.inl rfl) n1
 unfold dminP
 rw [n4]
 cases h:oddF r
 ·exact zhr2 (zbq _ _) s1 s2
 ·exact zlw2 (zbq _ _) s1 s2
theorem max_F (h1:0<r) (h2:r<9218868437227405312) (d:Nat):d<=dmaxP (mS r) (eS r)↔if oddF r=true then d*unitW 0 (-pF r)<hiF r else d*unitW 0 (-pF r)<=hiF r:=by
 obtain ⟨n1,n2,n3,n4⟩:=zba2 h1 h2
 obtain ⟨s1,s2,s3⟩:=scl_F h1 h2 (.inr (.inr rfl)) n2
 unfold dmaxP
 rw [n4]
 cases h:oddF r
 ·exact zdk2 (zbq _ _) s1 s2
 ·exact zhs2 (zbq _ _) s1 s2 s3
theorem zrx2 (h1:0<r) (h2:r<9218868437227405312):zgp1 (sclP (mS r) (eS r) (mS r))=if 2*(vF r%unitW 0 (-pF r))<unitW 0 (-pF r)\/(2*(vF r%unitW 0 (-pF r))=unitW 0 (-pF r)/\vF r / unitW 0 (-pF r)%2=0) then vF r / unitW 0 (-pF r) else vF r / unitW 0 (-pF r)+1:=by
 obtain ⟨n1,n2,n3,n4⟩:=zba2 h1 h2
 obtain ⟨s1,s2,s3⟩:=scl_F h1 h2 (.inr (.inl rfl)) n3
 exact zol1 (zbq _ _) s1 s2
theorem zls1 (h1:0<r) (h2:r<9218868437227405312): -348<=pF r/\pF r<=347:=by
 obtain ⟨m0,m1,e0,e1, -⟩:=mS_in h1 h2
 obtain ⟨p0,p1, -, -⟩:=p_in (m:=mS r) e0 e1
 exact ⟨p0,p1⟩
theorem ten_F (h1:0<r) (h2:r<9218868437227405312):10*unitW 0 (-pF r)=unitW 0 (1-pF r):=by
 obtain ⟨p0,p1⟩:=zls1 h1 h2
 have:=zfj (a:=0) (b:= -pF r) (n:=1) (by omega)
 grind
theorem zop1 (h1:0<r) (h2:r<9218868437227405312):valS r=zom1 (dminP (mS r) (eS r)) (dmaxP (mS r) (eS r)) (zgp1 (sclP (mS r) (eS r) (mS r))) (unitW 0 (-pF r)):=by
 unfold valS zom1 zbh
 rw [ten_F h1 h2]
 by_cases c1:dminP (mS r) (eS r)<=dmaxP (mS r) (eS r) / 10*10
 ·rw [if_pos c1,if_pos c1]
  show _*unitW 0 (-(pF r-1))=_
  congr 2
  omega
 ·rw [if_neg c1,if_neg c1]
  by_cases c2:dminP (mS r) (eS r)<dmaxP (mS r) (eS r)
  ·rw [if_pos c2,if_pos c2];rfl
  ·rw [if_neg c2,if_neg c2];rfl
theorem ztx1 (h1:0<r) (h2:r<9218868437227405312) {c:Nat} (hc:inF r (c*unitW 0 (1-pF r))=true):valS r=c*unitW 0 (1-pF r):=by
 obtain ⟨w1,w2,w3⟩:=ztw1 h1 h2
 obtain ⟨v1,v2⟩:=v_in h1 h2
 rw [zop1 h1 h2]
 rw [<-ten_F h1 h2] at hc ⊢
 exact zdl2 w2 v1 v2 (min_F h1 h2) (max_F h1 h2) hc
theorem zty1 (h1:0<r) (h2:r<9218868437227405312) (hno:∀c,inF r (c*unitW 0 (1-pF r))=false):valS r=pickF r (-pF r)*unitW 0 (-pF r)/\inF r (pickF r (-pF r)*unitW 0 (-pF r))=true:=by
 obtain ⟨w1,w2,w3⟩:=ztw1 h1 h2
 obtain ⟨v1,v2⟩:=v_in h1 h2
 rw [zop1 h1 h2]
 rw [<-ten_F h1 h2] at hno
 have hT:=zbq 0 (-pF r)
 refine zdm2 hT w1 v1 v2 ?_ (min_F h1 h2) (max_F h1 h2) (zrx2 h1 h2) hno
 rcases w3 with ⟨a,b⟩ | ⟨a,b,c⟩
 ·refine .inl ⟨a,fun e=> ?_⟩
  rw [e,b]
  exact Nat.mul_mod_left _ _
 omega
theorem zfm1 (h1:0<r) (h2:r<9218868437227405312):inF r (valS r)=true:=by
 by_cases h:∃c,inF r (c*unitW 0 (1-pF r))=true
 ·obtain ⟨c,hc⟩:=h
  rw [ztx1 h1 h2 hc]
  exact hc
 ·obtain ⟨e,hh⟩:=zty1 h1 h2 fun c=>by
   cases hc:inF r (c*unitW 0 (1-pF r))
   ·rfl
   ·exact absurd ⟨c,hc⟩ h
  grind
end
section
variable {r:Nat}
theorem zcu1 {a b:Int} (ha: -5000<=a) (h:a<=b):unitW 0 a<=unitW 0 b:=by
 have e:=zfj (a:=0) (b:=a) (n:=(b-a).toNat) ha
 rw [show a+(((b-a).toNat:Nat):Int)=b by omega] at e
 rw [<-e]
 exact Nat.le_mul_of_pos_left _ (Nat.pow_pos (by decide))
theorem zlt1 {a b:Int} (hb: -5000<=b) (h:unitW 0 a<unitW 0 b):a<b:=by
 rcases Int.lt_or_le a b with hh | hh
 ·exact hh
 ·have:=zcu1 hb hh
  omega
def hitF (r:Nat) (s:Int):Bool:=inF r (vF r / unitW 0 s*unitW 0 s) || inF r ((vF r / unitW 0 s+1)*unitW 0 s)
theorem zqa2 {s:Int} (h:hitF r s=true):inF r (pickF r s*unitW 0 s)=true:=by
 unfold hitF at h
 rw [Bool.or_eq_true] at h
 unfold pickF pickD
 split
 ·rename_i hh;exact hh.1
 ·rename_i hh
  refine Classical.byContradiction fun hn=> ?_
  rcases h with h | h
  ·exact hh ⟨h,fun h'=>hn h'.1⟩
  ·exact hn h
theorem zof2 {s:Int} {c:Nat} (h1:0<r) (h2:r<9218868437227405312) (hc:inF r (c*unitW 0 s)=true):hitF r s=true:=by
 obtain ⟨v1,v2⟩:=v_in h1 h2
 unfold hitF
 rw [Bool.or_eq_true]
 refine Classical.byContradiction fun h=> ?_
 rw [not_or,Bool.not_eq_true,Bool.not_eq_true] at h
 have:=zht2 (zbq 0 s) v1 v2 h.1 h.2 c
 rw [inF,this] at hc
 cases hc
theorem zoq1 (h1:0<r) (h2:r<9218868437227405312):unitW 0 (-pF r)<=vF r/\vF r<unitW 0 (17-pF r)/\(vF r<10*unitW 0 (-pF r)->r<=9):=by
 obtain ⟨w1,w2,w3⟩:=ztw1 h1 h2
 obtain ⟨v1,v2⟩:=v_in h1 h2
 obtain ⟨p0,p1⟩:=zls1 h1 h2
 obtain ⟨hz,hm,he,z0,z1,z2,hM⟩:=zsk h1 h2
 have hM2:zac r<9007199254740992:=by unfold zac;split<;>omega
 have e:=zfj (a:=0) (b:= -pF r) (n:=17) (by omega)
 rw [show -pF r+((17:Nat):Int)=17-pF r by omega] at e
 have hT:=zbq 0 (-pF r)
 rw [<-e,show (10:Nat)^17=100000000000000000 by decide]
 generalize unitW 0 (-pF r)=T at*
 have small:zac r<=9->r<=9:=fun h=>by
  unfold zac at h
  grind
 rcases w3 with ⟨a,b⟩ | ⟨a,b,c⟩
 ·generalize hiF r-loF r=w at*
  have t1:=Nat.mul_le_mul_right w hM
  have t2:=Nat.mul_le_mul_right w (show zac r<=9007199254740991 by omega)
  refine ⟨by omega,by omega,fun h=>small ?_⟩
  refine Classical.byContradiction fun hn=> ?_
  have t3:=Nat.mul_le_mul_right w (show 10<=zac r by omega)
  omega
 ·have hv:vF r=18014398509481984*kF r:=by unfold vF;rw [c]
  have hk:=zoo1 r
  have hl:hiF r=(18014398509481984+2)*kF r:=by unfold hiF;rw [c]
  omega
theorem few_F :∀r:Nat,r<10->0<r->vF r<10*unitW 0 (-pF r)->hitF r (-pF r)=true/\pickF r (-pF r)*unitW 0 (-pF r)=valS r:=by decide+kernel
theorem zhu2 (h1:0<r) (h2:r<9218868437227405312) {s e:Int} (hs: -pF r<=s) (he:vF r<unitW 0 (e+1)) (hb:s=e\/hitF r (s+1)=false):
  (hitF r s=true->pickF r s*unitW 0 s=valS r)/\(s= -pF r->hitF r s=true):=by
 obtain ⟨p0,p1⟩:=zls1 h1 h2
 obtain ⟨u1,u2,u3⟩:=zoq1 h1 h2
 by_cases hp:s= -pF r
 ·rcases hb with hb | hb
  · -- the first digit of all
   have hv:vF r<10*unitW 0 (-pF r):=by
    rw [ten_F h1 h2]
    rw [<-hb,hp] at he
    rw [show 1-pF r= -pF r+1 by omega]
    exact he
   obtain ⟨f1,f2⟩:=few_F r (by have:=u3 hv;omega) h1 hv
   grind
  ·have hno:∀c,inF r (c*unitW 0 (1-pF r))=false:=fun c=>by
    cases hc:inF r (c*unitW 0 (1-pF r))
    ·rfl
    ·have:=zof2 h1 h2 hc
     grind
   obtain ⟨g1,g2⟩:=zty1 h1 h2 hno
   rw [hp]
   exact ⟨fun _=>g1.symm,fun _=>zof2 h1 h2 g2⟩
 ·refine ⟨fun h=> ?_,fun h=>absurd h hp⟩
  have hin:=zqa2 h
  have e:=zfj (a:=0) (b:=1-pF r) (n:=(s+pF r-1).toNat) (by omega)
  rw [show 1-pF r+(((s+pF r-1).toNat:Nat):Int)=s by omega] at e
  rw [<-e,<-Nat.mul_assoc] at hin ⊢
  exact (ztx1 h1 h2 hin).symm
theorem zhv2 {c d:Nat} {s t:Int} (hs: -3000<=s) (ht: -3000<=t) (hc:c%10≠0) (hd:d%10≠0) (h:c*unitW 0 s=d*unitW 0 t):c=d/\s=t:=by
 have main:∀ {c d:Nat} {s t:Int}, -3000<=s->c%10≠0->s<=t->c*unitW 0 s=d*unitW 0 t->s=t:=fun {c d s t} hs hc hst h=>by
  refine Classical.byContradiction fun hn=> ?_
  have e:=zfj (a:=0) (b:=s) (n:=(t-s).toNat) (by omega)
  rw [show s+(((t-s).toNat:Nat):Int)=t by omega] at e
  rw [<-e,<-Nat.mul_assoc] at h
  have:=Nat.eq_of_mul_eq_mul_right (zbq 0 s) h
  obtain ⟨k,hk⟩:∃k,(t-s).toNat=k+1:=⟨(t-s).toNat-1,by omega⟩
  rw [hk,Nat.pow_succ,<-Nat.mul_assoc] at this
  omega
 have hst:s=t:=by
  grind
 subst hst
 exact ⟨Nat.eq_of_mul_eq_mul_right (zbq 0 s) h,rfl⟩
end
theorem zma2 :∀i:Nat,i<696->certP ((i:Int)-348) 8 7=true:=by decide+kernel
theorem WholeOk.up {F N x B D c:Nat} (h:WholeOk F N B D) (hx:x<18446744073709551616) (f1:(N-x)*B<F) (f2:F<=N*B) (hB:0<B) (hD:73786976294838206464<=D) (hc:0<c):WholeOk F N B (c*D):=by
 intro hh
 have hcD:D<=c*D:=Nat.le_mul_of_pos_left D hc
 have hdm:=Nat.div_add_mod N (c*D)
 have hlt:=Nat.mod_lt N (show 0<c*D by omega)
 have em:N%D=N%(c*D)%D:=(Nat.mod_mod_of_dvd N (Nat.dvd_mul_left D c)).symm
 generalize N%(c*D)=ρ at*
 have eq:c*D*(N / (c*D))=(c*(N / (c*D)))*D:=by grind
 rw [eq] at hdm
 generalize N / (c*D)=q at*
 have eF:∀j,F=B*D*j->(N-x<j*D/\j*D<=N):=fun j hj=>by
  have ej:B*D*j=j*D*B:=by grind
  rw [hj,ej] at f1 f2
  exact ⟨Nat.lt_of_mul_lt_mul_right f1,Nat.le_of_mul_le_mul_right f2 hB⟩
 rcases hh with hh | hh
 ·have e1:N%D=ρ:=by rw [em,Nat.mod_eq_of_lt (by omega)]
  obtain ⟨j,hj⟩:=h (.inl (by omega))
  obtain ⟨j1,j2⟩:=eF j hj
  have:j=c*q:=by
   have t1:j*D<(c*q+1)*D:=by grind
   have t2:c*q*D<(j+1)*D:=by grind
   have t1:=Nat.lt_of_mul_lt_mul_right t1
   have t2:=Nat.lt_of_mul_lt_mul_right t2
   omega
  exact ⟨q,by grind⟩
 ·have e1:N%D=ρ-(c-1)*D:=by
   have e2:c*D=(c-1)*D+D:=by
    obtain ⟨k,rfl⟩:∃k,c=k+1:=⟨c-1,by omega⟩
    grind
   have:ρ=ρ-(c-1)*D+(c-1)*D:=by omega
   rw [em,this,Nat.add_mul_mod_self_right,Nat.mod_eq_of_lt (by omega),Nat.add_sub_cancel]
  have e2:c*D=(c-1)*D+D:=by
   obtain ⟨k,rfl⟩:∃k,c=k+1:=⟨c-1,by omega⟩
   grind
  have hx2:D-18446744073709551616<N%D:=by
   grind
  obtain ⟨j,hj⟩:=h (.inr hx2)
  obtain ⟨j1,j2⟩:=eF j hj
  exfalso
  have e3:c*q*D+c*D=(c*q+c)*D:=by rw [Nat.add_mul]
  have t1:j*D<(c*q+c)*D:=by rw [<-e3];omega
  have t2:(c*q+c-1)*D<j*D:=by
   have:(c*q+c)*D=(c*q+c-1)*D+D:=by
    obtain ⟨k,hk⟩:∃k,c*q+c=k+1:=⟨c*q+c-1,by omega⟩
    rw [hk,Nat.add_sub_cancel,Nat.add_mul,Nat.one_mul]
   omega
  have t1:=Nat.lt_of_mul_lt_mul_right t1
  have t2:=Nat.lt_of_mul_lt_mul_right t2
  omega
def readE (b:Nat) (p:Int):Int:=min 1074 (53-(b:Int)-log2P p)
def readS (b:Nat) (p:Int):Int:= -(readE b p-(64-(b:Int))+log2P p+3)
theorem zdr2 {d b:Nat} {p:Int} (h0: -348<=p) (h1:p<=347) (hb:b<=57) (d0:2^(b-1)<=d) (d1:d<2^b) (b0:1<=b) (hs:readS b p<64):
  8<=readS b p/\zxb (d*2^(64-b)) (hiP p) (loP p) (readS b p).toNat=zaw (4*(d*unitW 0 p)) (unitW (-readE b p) 0):=by
 have hl: -1200<=log2P p/\log2P p<=1200:=by unfold log2P;omega
 have hs8:8<=readS b p:=by unfold readS readE;omega
 refine ⟨hs8,?_⟩
 obtain ⟨r1,r2⟩:=zho2 h0 h1
 obtain ⟨t1,t2,t3⟩:=zoi1 h0 h1
 have hB:0<denP p:=by
  rcases Nat.eq_zero_or_pos (denP p) with h | h
  ·rw [h] at r1 r2;omega
  ·exact h
 have x0:9223372036854775808<=d*2^(64-b):=by
  have:=Nat.mul_le_mul_right (2^(64-b)) d0
  rw [<-Nat.pow_add,show b-1+(64-b)=63 by omega] at this
  exact this
 have x1:d*2^(64-b)<18446744073709551616:=by
  have:=Nat.mul_lt_mul_of_pos_right d1 (Nat.two_pow_pos (64-b))
  rw [<-Nat.pow_add,show b+(64-b)=64 by omega] at this
  exact this
 have hw8:WholeOk (d*2^(64-b)*numP p) (d*2^(64-b)*pmP p) (denP p) (2^128*2^8):=by
  have c:=zma2 (p+348).toNat (by omega)
  rw [show (((p+348).toNat:Nat):Int)-348=p by omega] at c
  have e:d*2^(64-b)=2^7*(d*2^(57-b)):=by
   rw [Nat.mul_left_comm,<-Nat.pow_add,show 7+(57-b)=64-b by omega]
  have:=zoj1 (y:=d*2^(57-b)) h0 h1 (by decide) c (by omega) (by
   show d*2^(57-b)<2^57
   omega)
  rw [<-e] at this
  exact this
 have f1:(d*2^(64-b)*pmP p-d*2^(64-b))*denP p<d*2^(64-b)*numP p:=by
  have e:d*2^(64-b)*pmP p-d*2^(64-b)=d*2^(64-b)*(pmP p-1):=by rw [Nat.mul_sub _ (pmP p),Nat.mul_one]
  rw [e,Nat.mul_assoc]
  exact Nat.mul_lt_mul_of_pos_left r1 (by omega)
 have f2:d*2^(64-b)*numP p<=d*2^(64-b)*pmP p*denP p:=by
  rw [Nat.mul_assoc (d*2^(64-b))]
  exact Nat.mul_le_mul_left _ r2
 have hw:=hw8.up (c:=2^((readS b p).toNat-8)) x1 f1 f2 hB (by decide) (Nat.two_pow_pos _)
 have eD:2^((readS b p).toNat-8)*(2^128*2^8)=2^128*2^(readS b p).toNat:=by
  rw [Nat.mul_left_comm,<-Nat.pow_add,show (readS b p).toNat-8+8=(readS b p).toNat by omega]
 rw [eD] at hw
 have big:=zjt1 (x:=d*2^(64-b)) (by omega) t1
 unfold pmP at r1 r2 hw
 rw [ziu1 (by omega) x1 t3 r1 r2 hw big]
 refine ztr1 (Nat.mul_pos hB (Nat.mul_pos (Nat.two_pow_pos _) (Nat.two_pow_pos _))) (zbq _ _) ?_
 have he:readE b p= -(readS b p)-log2P p-3+(64-(b:Int)):=by unfold readS;omega
 have e1:=zaw2 (a:= -readE b p) (b:=0) h0 h1 (by unfold readE;omega) (by decide)
 have e2:=zda (a:=0) (b:=p) (n:=130+(readS b p).toNat-(64-b)) (by decide)
 rw [show -readE b p+127-log2P p=0+((130+(readS b p).toNat-(64-b):Nat):Int) by omega,Int.zero_add p,<-e2] at e1
 have e3:2^(64-b)*2^(130+(readS b p).toNat-(64-b))=4*(2^128*2^(readS b p).toNat):=by
  rw [<-Nat.pow_add,show 64-b+(130+(readS b p).toNat-(64-b))=2+(128+(readS b p).toNat) by omega,Nat.pow_add,Nat.pow_add]
 grind
def zog2 (p:Int):Bool:=decide (2^(log2P p).toNat*10^(-p).toNat<=10^p.toNat*2^(-log2P p).toNat)&&decide (9007199254740992*(10^p.toNat*2^(-log2P p).toNat)<=18014398509481983*(2^(log2P p).toNat*10^(-p).toNat))
theorem zmb2 :∀i:Nat,i<696->zog2 ((i:Int)-348)=true:=by decide+kernel
theorem zhw2 {p:Int} (h0: -348<=p) (h1:p<=347):unitW (log2P p) 0<=unitW 0 p/\9007199254740992*unitW 0 p<=18014398509481983*unitW (log2P p) 0:=by
 have hl: -1200<=log2P p/\log2P p<=1200:=by unfold log2P;omega
 have c:=zmb2 (p+348).toNat (by omega)
 rw [show (((p+348).toNat:Nat):Int)-348=p by omega] at c
 unfold zog2 at c
 rw [Bool.and_eq_true] at c
 obtain ⟨Z,z0,e1,e2⟩:=ztu p (log2P p) (by omega) (by omega)
 have c1:=Nat.mul_le_mul_right Z (of_decide_eq_true c.1)
 have c2:=Nat.mul_le_mul_right Z (of_decide_eq_true c.2)
 grind
def readM (u:Nat):Nat:=zgp1 (if 36028797018963966<=u then u / 2 ||| u%2 else u)
def readX (u:Nat) (e:Int):Int:=if 36028797018963966<=u then e-1 else e
theorem zmc2 {F G:Nat} (hG:0<G):zaw F G / 2 ||| zaw F G%2=zaw F (2*G):=by
 have hdm:=Nat.div_add_mod F G
 have hlt:=Nat.mod_lt F hG
 have hq:F / (2*G)=F / G / 2:=by rw [Nat.mul_comm,Nat.div_div_eq_div_mul]
 have hdv:2*G ∣ F↔G ∣ F/\F / G%2=0:=by
  constructor
  ·rintro ⟨c,rfl⟩
   have e:2*G*c=G*(2*c):=by ac_rfl
   rw [e,Nat.mul_div_cancel_left _ hG]
   exact ⟨⟨_,rfl⟩,by omega⟩
  ·rintro ⟨⟨c,rfl⟩,h⟩
   rw [Nat.mul_div_cancel_left _ hG] at h
   exact ⟨c / 2,by rw [Nat.mul_comm 2 G,Nat.mul_assoc,show 2*(c / 2)=c by omega]⟩
 unfold zaw
 rw [hq]
 by_cases h:G ∣ F
 ·grind
 ·rw [if_neg h,if_neg (fun hh=>h (hdv.1 hh).1),zod2]
  grind
section
variable {r:Nat}
theorem zry2 {X K M:Nat} {odd:Bool} (hK:0<K) (hM:0<M) (ho:odd=(M%2==1)) (h1:if odd=true then (4*M-2)*K<X else (4*M-2)*K<=X) (h2:if odd=true then X<(4*M+2)*K else X<=(4*M+2)*K):
  (if 2*(X%(4*K))<4*K\/(2*(X%(4*K))=4*K/\X / (4*K)%2=0) then X / (4*K) else X / (4*K)+1)=M:=by
 have hT:0<4*K:=by omega
 have hdm:=Nat.div_add_mod X (4*K)
 have hlt:=Nat.mod_lt X hT
 have e1:(4*M-2)*K+2*K=M*(4*K):=by
  rw [<-Nat.add_mul,show 4*M-2+2=M*4 by omega,Nat.mul_assoc]
 have e2:(4*M+2)*K=M*(4*K)+2*K:=by grind
 have hq:X / (4*K)=M\/X / (4*K)+1=M:=by
  have l1:M*(4*K)<(X / (4*K)+2)*(4*K):=by
   grind
  have l2:X / (4*K)*(4*K)<(M+1)*(4*K):=by
   grind
  have l1:=Nat.lt_of_mul_lt_mul_right l1
  have l2:=Nat.lt_of_mul_lt_mul_right l2
  omega
 rw [Nat.mul_comm (4*K)] at hdm
 generalize X / (4*K)=q at*
 generalize X%(4*K)=ρ at*
 have ev:odd=false↔M%2=0:=by
  grind
 rcases hq with hq | hq
 ·grind
 ·have eM:M*(4*K)=q*(4*K)+4*K:=by rw [<-hq,Nat.add_mul,Nat.one_mul]
  grind
theorem zyg {a b:Int} (ha: -5000<=a) (h:a<=b):unitW a 0<=unitW b 0:=by
 have e:=zda (a:=a) (b:=0) (n:=(b-a).toNat) ha
 rw [show a+(((b-a).toNat:Nat):Int)=b by omega] at e
 rw [<-e]
 exact Nat.le_mul_of_pos_left _ (Nat.two_pow_pos _)
theorem zbb2 {a b:Int} (hb: -5000<=b) (h:unitW a 0<unitW b 0):a<b:=by
 rcases Int.lt_or_le a b with hh | hh
 ·exact hh
 ·have:=zyg hb hh
  omega
theorem zjc {a b:Int} (n c:Nat) (hc:2^n=c) (ha: -5000<=a) (h:a+(n:Int)=b):c*unitW a 0=unitW b 0:=by
 rw [<-hc,zda ha,h]
theorem zqb2 (h1:0<r) (h2:r<9218868437227405312) {d b:Nat} {p:Int} (p0: -348<=p) (p1:p<=347) (hb:b<=57) (b0:1<=b) (d0:2^(b-1)<=d) (d1:d<2^b) (hin:inF r (d*unitW 0 p)=true):
  readS b p<64/\readM (zaw (4*(d*unitW 0 p)) (unitW (-readE b p) 0))=zac r/\ -readX (zaw (4*(d*unitW 0 p)) (unitW (-readE b p) 0)) (readE b p)=zad r:=by
 have hl: -1200<=log2P p/\log2P p<=1200:=by unfold log2P;omega
 obtain ⟨eA,eB⟩:=zhw2 p0 p1
 obtain ⟨hz,hm,he,z0,z1,z2,hM⟩:=zsk h1 h2
 obtain ⟨b1,b2,b3,b4,b5, -⟩:=zkd h1 h2
 have hM2:zac r<9007199254740992:=by unfold zac;split<;>omega
 have hU:=zbq 0 p
 have hK:=zoo1 r
 have hG:=zbq (-readE b p) 0
 have hE:readE b p=min 1074 (53-(b:Int)-log2P p):=rfl
 have X0:2^(b-1)*unitW (log2P p) 0<=d*unitW 0 p:=Nat.mul_le_mul d0 eA
 rw [zda (by omega)] at X0
 have X1:d*unitW 0 p<2^b*unitW 0 p:=Nat.mul_lt_mul_of_pos_right d1 hU
 have X2:9007199254740992*(2^b*unitW 0 p)<=18014398509481983*unitW (log2P p+b) 0:=by
  have:=Nat.mul_le_mul_left (2^b) eB
  rw [Nat.mul_left_comm,Nat.mul_left_comm (2^b) 18014398509481983,zda (a:=log2P p) (by omega)] at this
  exact this
 have low:lowF r*kF r<=d*unitW 0 p/\(oddF r=true->lowF r*kF r<d*unitW 0 p):=by
  rw [inF,zpi] at hin
  unfold loF at hin
  cases ho:oddF r
  ·rw [ho] at hin;simp only [Bool.false_eq_true,if_false] at hin;exact ⟨hin.1,fun e=>by cases e⟩
  grind
 have high:d*unitW 0 p<=(4*zac r+2)*kF r/\(oddF r=true->d*unitW 0 p<(4*zac r+2)*kF r):=by
  rw [inF,zpi] at hin
  unfold hiF at hin
  cases ho:oddF r
  ·rw [ho] at hin;simp only [Bool.false_eq_true,if_false] at hin;exact ⟨hin.2,fun e=>by cases e⟩
  grind
 have kmin:unitW (-1076) 0<=kF r:=zyg (by decide) (by omega)
 have lowM:4*zac r-2<=lowF r/\2<=lowF r:=by unfold lowF;split<;>omega
 have hs: -1075<log2P p+b+1:=by
  refine zbb2 (by omega) ?_
  have e1:=zjc 1 2 rfl (a:= -1076) (b:= -1075) (by decide) (by decide)
  have e2:=zjc 1 2 rfl (a:=log2P p+b) (b:=log2P p+b+1) (by omega) (by omega)
  have t1:=Nat.mul_le_mul lowM.2 kmin
  omega
 have hG2:unitW (log2P p+b) 0<=9007199254740992*unitW (-readE b p) 0:=by
  rw [zjc 53 9007199254740992 rfl (a:= -readE b p) (b:= -readE b p+53) (by omega) (by omega)]
  exact zyg (by omega) (by omega)
 have hX:d*unitW 0 p<18014398509481983*unitW (-readE b p) 0:=by omega
 have big: -1073<=zad r->18014398509481983<=lowF r:=fun hk=>by
  have hr:¬r<4503599627370496:=fun h=>by
   have:zad r= -1074:=by unfold zad;rw [if_pos h]
   omega
  have hE2:zad r=((r / 4503599627370496:Nat):Int)-1075:=by unfold zad;rw [if_neg hr]
  have hMM:4503599627370496<=zac r:=by unfold zac;rw [if_neg hr];omega
  unfold lowF
  grind
 have hkd:kF r=unitW (zad r-2) 0:=rfl
 have up:zad r+readE b p<=1:=by
  refine Classical.byContradiction fun hn=> ?_
  have t1:unitW (-readE b p) 0<=kF r:=zyg (by omega) (by omega)
  have t2:=Nat.mul_le_mul (big (by omega)) t1
  omega
 have down:0<=zad r+readE b p:=by
  refine Classical.byContradiction fun hn=> ?_
  have t1:unitW (zad r+1) 0<=unitW (-readE b p) 0:=zyg (by omega) (by omega)
  rw [<-zjc 3 8 rfl (a:=zad r-2) (b:=zad r+1) (by omega) (by omega),<-hkd] at t1
  have t2:4503599627370496*unitW (-readE b p) 0=unitW (log2P p+((b-1:Nat):Int)) 0:=zjc 52 4503599627370496 rfl (by omega) (by omega)
  have t3:=Nat.mul_le_mul_right (kF r) (show 4*zac r+2<=36028797018963966 by omega)
  omega
 refine ⟨by unfold readS;omega,?_⟩
 have fin:∀ {U:Nat},U=zaw (4*(d*unitW 0 p)) (4*kF r)->zgp1 U=zac r:=fun {U} hU=>by
  have hb:U<18446744073709551000:=by
   have c:=(zia1 (F:=4*(d*unitW 0 p)) (G:=4*kF r) (c:=36028797018963968) (by omega) (by decide)).2
   have t3:=Nat.mul_le_mul_right (kF r) (show 4*zac r+2<=36028797018963966 by omega)
   have:=c.2 (by omega)
   omega
  rw [zol1 (T:=4*kF r) (F:=d*unitW 0 p) (by omega) hU hb]
  have t1:=Nat.mul_le_mul_right (kF r) lowM.1
  refine zry2 (odd:=oddF r) hK hM rfl ?_ ?_
  ·cases ho:oddF r
   ·simp only [Bool.false_eq_true,if_false];omega
   ·simp only [if_true];have:=low.2 ho;omega
  grind
 rcases (show zad r+readE b p=0\/zad r+readE b p=1 by omega) with hj | hj
 ·have eG:unitW (-readE b p) 0=4*kF r:=by
   rw [hkd,zjc 2 4 rfl (a:=zad r-2) (b:=zad r) (by omega) (by omega)]
   congr 1;omega
  rw [eG]
  have c:=(zia1 (F:=4*(d*unitW 0 p)) (G:=4*kF r) (c:=36028797018963966) (by omega) (by decide)).2
  have small:d*unitW 0 p<36028797018963966*kF r:=by
   by_cases ho:oddF r=true
   ·have t3:=Nat.mul_le_mul_right (kF r) (show 4*zac r+2<=36028797018963966 by omega)
    have:=high.2 ho
    omega
   ·have hev:zac r%2≠1:=fun e=>ho (by unfold oddF;rw [e];rfl)
    have t3:=Nat.mul_lt_mul_of_pos_right (show 4*zac r+2<36028797018963966 by omega) hK
    omega
  have lt:=c.2 (by omega)
  refine ⟨?_,?_⟩
  ·unfold readM
   rw [if_neg (by omega)]
   exact fin rfl
  ·unfold readX
   rw [if_neg (by omega)]
   omega
 ·have eG:unitW (-readE b p) 0=2*kF r:=by
   rw [hkd,zjc 1 2 rfl (a:=zad r-2) (b:=zad r-1) (by omega) (by omega)]
   congr 1;omega
  rw [eG]
  have c:=(zia1 (F:=4*(d*unitW 0 p)) (G:=2*kF r) (c:=36028797018963966) (by omega) (by decide)).2
  have t2:=Nat.mul_le_mul_right (kF r) (big (by omega))
  have ge:36028797018963966<=zaw (4*(d*unitW 0 p)) (2*kF r):=by
   omega
  refine ⟨?_,?_⟩
  ·unfold readM
   rw [if_pos ge,zmc2 (by omega)]
   grind
  ·unfold readX
   rw [if_pos ge]
   omega
end
end Lf
namespace Lf
open Ieee
theorem pow_add' (a b:Nat):2^(a+b)=2^a*2^b:=Nat.pow_add 2 a b
def gapD (r:Nat):Nat:=r / 4503599627370496-1
theorem zgr1 {r:Nat} (h:r<4503599627370496):valD r=r:=by
 unfold valD zac zad
 rw [if_pos h,if_pos h]
 show r*1=r
 omega
theorem zqc2 {r:Nat} (h:4503599627370496<=r):valD r=(r%4503599627370496+4503599627370496)*2^gapD r:=by
 unfold valD zac zad gapD
 rw [if_neg (by omega),if_neg (by omega),show (((r / 4503599627370496:Nat):Int)-1075+1074).toNat=r / 4503599627370496-1 by omega]
theorem zgs1 (E q:Nat) (h:q<4503599627370496):valD ((E+1)*4503599627370496+q)=(q+4503599627370496)*2^E:=by
 rw [zqc2 (by omega)]
 unfold gapD
 rw [show ((E+1)*4503599627370496+q)%4503599627370496=q by omega,show ((E+1)*4503599627370496+q) / 4503599627370496-1=E by omega]
theorem zbc2 (r:Nat):valD (r+1)=valD r+2^gapD r:=by
 by_cases h:r<4503599627370496
 ·have hg:gapD r=0:=by unfold gapD;omega
  rw [zgr1 h,hg]
  by_cases h1:r+1<4503599627370496
  ·rw [zgr1 h1]
  ·have:r+1=(0+1)*4503599627370496+0:=by omega
   have e1:valD (r+1)=4503599627370496:=by rw [this,zgs1 0 0 (by omega),Nat.pow_zero,Nat.mul_one,Nat.zero_add]
   rw [e1,Nat.pow_zero]
   omega
 ·obtain ⟨E,q,hq,rfl⟩:∃E q,q<4503599627370496/\r=(E+1)*4503599627370496+q:=⟨r / 4503599627370496-1,r%4503599627370496,by omega,by omega⟩
  have hg:gapD ((E+1)*4503599627370496+q)=E:=by unfold gapD;omega
  rw [zgs1 E q hq,hg]
  by_cases h1:q+1<4503599627370496
  ·rw [show (E+1)*4503599627370496+q+1=(E+1)*4503599627370496+(q+1) by omega,zgs1 E (q+1) h1,show q+1+4503599627370496=q+4503599627370496+1 by omega,Nat.succ_mul]
  ·rw [show (E+1)*4503599627370496+q+1=(E+1+1)*4503599627370496+0 by omega,zgs1 (E+1) 0 (by omega),pow_add']
   have:q=4503599627370495:=by omega
   subst this
   generalize 2^E=g
   omega
def lowB (r:Nat):Nat:=valD (r-1)+valD r
def highB (r:Nat):Nat:=valD r+valD (r+1)
theorem zoh2 {r s:Nat} (h:r<=s):valD r<=valD s:=by
 rcases Nat.lt_or_eq_of_le h with h | h
 ·exact Nat.le_of_lt (ztk1 h)
 ·rw [h];exact Nat.le_refl _
theorem zjv1 {r s:Nat} (h:r<s):highB r<=lowB s/\(highB r=lowB s->r+1=s):=by
 unfold highB lowB
 have h1:valD r<=valD (s-1):=zoh2 (by omega)
 have h2:valD (r+1)<=valD s:=zoh2 (by omega)
 refine ⟨by omega,fun e=> ?_⟩
 rcases Nat.lt_or_ge (r+1) s with h3 | h3
 ·have:=ztk1 h3
  omega
 ·omega
theorem zqd2 {m:Nat} {e:Int}: -1074<=e+offD m e:=by unfold offD;split<;>omega
theorem zbd2 {m:Nat} {e:Int} (hm:m≠0) (h: -1074<e+offD m e):4503599627370496*2^(offD m e).toNat<=m*2^(-offD m e).toNat/\m*2^(-offD m e).toNat<9007199254740992*2^(offD m e).toNat:=by
 have hoe:offD m e=(bitsN m:Int)-53:=by
  unfold offD at h ⊢
  split
  ·rename_i h';rw [if_pos h'] at h;omega
  ·rfl
 have hb:bitsN m=m.log2+1:=by unfold bitsN;rw [if_neg hm]
 have h2:2^m.log2<=m:=Nat.log2_self_le hm
 have h3:m<2^(m.log2+1):=Nat.lt_log2_self
 rw [hoe,hb]
 generalize m.log2=l at*
 have e1:(4503599627370496:Nat)=2^52:=by decide
 have e2:(9007199254740992:Nat)=2^53:=by decide
 rw [e1,e2,<-pow_add',<-pow_add']
 refine ⟨?_,?_⟩
 ·calc 2^(52+(((l+1:Nat):Int)-53).toNat)=2^l*2^(-(((l+1:Nat):Int)-53)).toNat:=by rw [<-pow_add'];congr 1;omega
   _<=_:=Nat.mul_le_mul_right _ h2
 ·calc m*2^(-(((l+1:Nat):Int)-53)).toNat<2^(l+1)*2^(-(((l+1:Nat):Int)-53)).toNat:=Nat.mul_lt_mul_of_pos_right h3 (Nat.two_pow_pos _)
   _=2^(53+(((l+1:Nat):Int)-53).toNat):=by rw [<-pow_add'];congr 1;omega
theorem zqe2 {m:Nat} {e:Int} (hm:m≠0):m*2^(-offD m e).toNat<9007199254740992*2^(offD m e).toNat:=by
 by_cases h: -1074<e+offD m e
 ·exact (zbd2 hm h).2
 ·have hoe:(bitsN m:Int)-53<=offD m e:=by unfold offD;split<;>omega
  have hb:bitsN m=m.log2+1:=by unfold bitsN;rw [if_neg hm]
  have h3:m<2^(m.log2+1):=Nat.lt_log2_self
  rw [hb] at hoe
  generalize m.log2=l at*
  generalize offD m e=o at*
  have e2:(9007199254740992:Nat)=2^53:=by decide
  rw [e2,<-pow_add']
  calc m*2^(-o).toNat<2^(l+1)*2^(-o).toNat:=Nat.mul_lt_mul_of_pos_right h3 (Nat.two_pow_pos _)
   _=2^(l+1+(-o).toNat):=by rw [<-pow_add']
   _<=_:=Nat.pow_le_pow_right (by decide) (by omega)
theorem zhx2 {m:Nat} {o:Int}:2*(m*2^(-o).toNat)<=(2*keptD m o false+1)*2^o.toNat/\2*keptD m o false*2^o.toNat<=2*(m*2^(-o).toNat)+2^o.toNat
  /\(2*(m*2^(-o).toNat)=(2*keptD m o false+1)*2^o.toNat->keptD m o false%2=0)/\(2*keptD m o false*2^o.toNat=2*(m*2^(-o).toNat)+2^o.toNat->keptD m o false%2=0):=by
 unfold keptD
 by_cases h:o<=0
 ·rw [if_pos h,show o.toNat=0 by omega]
  generalize m*2^(-o).toNat=x
  omega
 ·rw [if_neg h,show (-o).toNat=0 by omega]
  obtain ⟨d,hd⟩:∃d,o.toNat=d+1:=⟨o.toNat-1,by omega⟩
  rw [hd]
  dsimp only
  rw [Nat.add_sub_cancel]
  have hp:2^(d+1)=2*2^d:=by rw [Nat.pow_succ,Nat.mul_comm]
  have hm:=Nat.div_add_mod m (2^(d+1))
  have hr:=Nat.mod_lt m (Nat.two_pow_pos (d+1))
  generalize m%2^(d+1)=r at*
  generalize m / 2^(d+1)=q at*
  rw [hp] at hm hr ⊢
  have hg:=Nat.two_pow_pos d
  generalize 2^d=g at*
  have hm:2*(g*q)+r=m:=by rw [<-hm,Nat.mul_assoc]
  have e1:∀k,k*(2*g)=2*(g*k):=fun k=>by rw [Nat.mul_left_comm,Nat.mul_comm k g]
  rw [e1,e1]
  have e2:∀k,g*(2*k+1)=2*(g*k)+g:=fun k=>by rw [Nat.mul_add,Nat.mul_left_comm,Nat.mul_one]
  have e3:∀k,g*(2*k)=2*(g*k):=fun k=>by rw [Nat.mul_left_comm]
  rw [e2,e3]
  split
  ·have e4:g*(q+1)=g*q+g:=by rw [Nat.mul_add,Nat.mul_one]
   rename_i hc
   rw [e4]
   generalize g*q=z at*
   simp only [Bool.false_eq_true,false_or] at hc
   omega
  ·rename_i hc
   generalize g*q=z at*
   simp only [Bool.false_eq_true,false_or] at hc
   omega
theorem cross {X G A P:Nat} (hG:0<G) (hP:0<P) (h:A*G=X*P) (k c:Nat):(k*X<=c*G↔k*A<=c*P)/\(c*G<=k*X↔c*P<=k*A):=by
 have e1:k*A*G=k*X*P:=by rw [Nat.mul_assoc,h,Nat.mul_assoc]
 have e2:c*G*P=c*P*G:=by rw [Nat.mul_assoc,Nat.mul_comm G P,Nat.mul_assoc]
 refine ⟨⟨fun hh=> ?_,fun hh=> ?_⟩,⟨fun hh=> ?_,fun hh=> ?_⟩⟩
 ·refine Nat.le_of_mul_le_mul_right (c:=G) ?_ hG
  rw [e1,<-e2]
  exact Nat.mul_le_mul_right _ hh
 ·refine Nat.le_of_mul_le_mul_right (c:=P) ?_ hP
  rw [e2,<-e1]
  exact Nat.mul_le_mul_right _ hh
 ·refine Nat.le_of_mul_le_mul_right (c:=G) ?_ hG
  rw [e1,<-e2]
  exact Nat.mul_le_mul_right _ hh
 ·refine Nat.le_of_mul_le_mul_right (c:=P) ?_ hP
  rw [e2,<-e1]
  exact Nat.mul_le_mul_right _ hh
theorem ztz1 {m:Nat} {e:Int} {K:Nat} (hm:m≠0) (hK:0<=e+1074+K):
  ∃q u:Nat,(2*(m*2^(e+1074+K).toNat)<=(2*q+1)*2^(u+K)/\(2*(m*2^(e+1074+K).toNat)=(2*q+1)*2^(u+K)->q%2=0))
   /\((2*q-1)*2^(u+K)<=2*(m*2^(e+1074+K).toNat)/\(1<=q->(2*q-1)*2^(u+K)=2*(m*2^(e+1074+K).toNat)->q%2=0))
   /\(u=0\/4503599627370496*2^(u+K)<=m*2^(e+1074+K).toNat)
   /\(q<4503599627370496/\u=0/\rungD m e false=q\/4503599627370496<=q/\q<=9007199254740992/\rungD m e false=min ((u+1)*4503599627370496+(q-4503599627370496)) 9218868437227405312):=by
 have ho:=zqd2 (m:=m) (e:=e)
 have hX:=zqe2 (e:=e) hm
 have hB:=zbd2 (e:=e) hm
 obtain ⟨n1,n2,n3,n4⟩:=zhx2 (m:=m) (o:=offD m e)
 have hr:rungD m e false=(let off:=offD m e;let q:=keptD m off false;if q<4503599627370496 then q else if 2047<=e+off+1075 then 9218868437227405312 else min ((e+off+1075).toNat*4503599627370496+(q-4503599627370496)) 9218868437227405312):=rfl
 dsimp only at hr
 generalize keptD m (offD m e) false=q at*
 generalize offD m e=o at*
 obtain ⟨u,hu⟩:∃u:Nat,e+o+1074=u:=⟨(e+o+1074).toNat,by omega⟩
 have hG:=Nat.two_pow_pos o.toNat
 have hP:=Nat.two_pow_pos (u+K)
 have hc:m*2^(e+1074+K).toNat*2^o.toNat=m*2^(-o).toNat*2^(u+K):=by
  rw [Nat.mul_assoc,Nat.mul_assoc,<-pow_add',<-pow_add']
  congr 2
  omega
 have hcr:=cross hG hP hc
 generalize m*2^(e+1074+K).toNat=A at*
 generalize m*2^(-o).toNat=X at*
 have m1:∀k,(2*k+1)*2^o.toNat=2*k*2^o.toNat+2^o.toNat:=fun k=>by rw [Nat.succ_mul]
 have n2':(2*q-1)*2^o.toNat<=2*X:=by
  rw [Nat.sub_mul]
  omega
 refine ⟨q,u,⟨(hcr 2 (2*q+1)).1.1 n1,fun e1=> ?_⟩,⟨(hcr 2 (2*q-1)).2.1 n2',fun hq e1=> ?_⟩,?_,?_⟩
 ·refine n3 (Nat.le_antisymm n1 ((hcr 2 (2*q+1)).2.2 (by omega)))
 ·have h1:=(hcr 2 (2*q-1)).1.2 (by omega)
  have h2:=Nat.le_antisymm n2' h1
  refine n4 ?_
  obtain ⟨k,rfl⟩:∃k,q=k+1:=⟨q-1,by omega⟩
  rw [show 2*(k+1)-1=2*k+1 by omega] at h2
  rw [<-h2,show 2*(k+1)=(2*k+1)+1 by omega,Nat.succ_mul]
 ·rcases Nat.eq_zero_or_pos u with h0 | h0
  ·exact .inl h0
  ·right
   have:=(hcr 1 4503599627370496).2.1 (by have:=(hB (by omega)).1;omega)
   omega
 ·have q1:q<=9007199254740992:=by
   have h1:2*q*2^o.toNat<(2*9007199254740992+1)*2^o.toNat:=by
    rw [m1]
    have:2*9007199254740992*2^o.toNat=2*(9007199254740992*2^o.toNat):=Nat.mul_assoc _ _ _
    omega
   have:=Nat.lt_of_mul_lt_mul_right h1
   omega
  by_cases hq:q<4503599627370496
  ·rw [if_pos hq] at hr
   refine .inl ⟨hq,?_,hr⟩
   rcases Nat.eq_zero_or_pos u with h0 | h0
   ·exact h0
   ·exfalso
    have h2:=(hB (by omega)).1
    have h1:(2*4503599627370496)*2^o.toNat<=(2*q+1)*2^o.toNat:=by
     have:2*4503599627370496*2^o.toNat=2*(4503599627370496*2^o.toNat):=Nat.mul_assoc _ _ _
     omega
    have:=Nat.le_of_mul_le_mul_right h1 hG
    omega
  ·rw [if_neg hq] at hr
   refine .inr ⟨by omega,q1,?_⟩
   rw [hr]
   split
   ·rw [Nat.min_eq_right]
    omega
   ·rw [show (e+o+1075).toNat=u+1 by omega]
theorem zoi2 {r:Nat} (h:1<=r):lowB r+2^gapD (r-1)=2*valD r:=by
 have:=zbc2 (r-1)
 rw [show r-1+1=r by omega] at this
 unfold lowB
 omega
theorem zrg1 {r:Nat}:highB r=2*valD r+2^gapD r:=by
 have:=zbc2 r
 unfold highB
 omega
theorem zua1 {m:Nat} {e:Int} {K:Nat} (hm:m≠0) (hK:0<=e+1074+K) (hr:rungD m e false<9218868437227405312):
  2*(m*2^(e+1074+K).toNat)<=highB (rungD m e false)*2^K/\(2*(m*2^(e+1074+K).toNat)=highB (rungD m e false)*2^K->rungD m e false%2=0):=by
 obtain ⟨q,u,⟨a1,a2⟩, -, -,h⟩:=ztz1 hm hK
 generalize m*2^(e+1074+K).toNat=A at*
 rw [pow_add',<-Nat.mul_assoc] at a1 a2
 rcases h with ⟨hq,rfl,hr'⟩ | ⟨hq,hq',hr'⟩
 ·rw [hr',zrg1,zgr1 hq,show gapD q=0 by unfold gapD;omega]
  rw [Nat.pow_zero,Nat.mul_one] at a1 a2
  exact ⟨a1,a2⟩
 ·rw [hr'] at hr ⊢
  rw [Nat.min_def] at hr ⊢
  split
  ·rename_i hc
   rcases Nat.lt_or_ge q 9007199254740992 with h1 | h1
   ·have hv:valD ((u+1)*4503599627370496+(q-4503599627370496))=q*2^u:=by
     rw [zgs1 u _ (by omega)]
     congr 1
     omega
    have hg:gapD ((u+1)*4503599627370496+(q-4503599627370496))=u:=by unfold gapD;omega
    rw [zrg1,hv,hg]
    have e1:(2*q+1)*2^u=2*(q*2^u)+2^u:=by rw [Nat.succ_mul,Nat.mul_assoc]
    rw [e1] at a1 a2
    exact ⟨a1,fun h2=>by have:=a2 h2;omega⟩
   ·have h1:q=9007199254740992:=by omega
    subst h1
    have e0:(u+1)*4503599627370496+(9007199254740992-4503599627370496)=(u+1+1)*4503599627370496+0:=by omega
    rw [e0,zrg1,zgs1 (u+1) 0 (by omega),show gapD ((u+1+1)*4503599627370496+0)=u+1 by unfold gapD;omega]
    have h3:(2*9007199254740992+1)*2^u*2^K<(2*((0+4503599627370496)*2^(u+1))+2^(u+1))*2^K:=by
     refine Nat.mul_lt_mul_of_pos_right ?_ (Nat.two_pow_pos _)
     have:=Nat.two_pow_pos u
     rw [Nat.pow_succ]
     omega
    exact ⟨by omega,fun h2=>by omega⟩
  ·rename_i hc
   rw [if_neg hc] at hr
   omega
theorem zqf2 {k:Nat} (hk:k=2046):valD 9218868437227405312=4503599627370496*2^k:=by
 rw [show 9218868437227405312=(k+1)*4503599627370496+0 by omega,zgs1 k 0 (by omega),Nat.zero_add]
theorem zbe2 {m:Nat} {e:Int} {K:Nat} (hm:m≠0) (hK:0<=e+1074+K) (hr:1<=rungD m e false):
  lowB (rungD m e false)*2^K<=2*(m*2^(e+1074+K).toNat)/\(lowB (rungD m e false)*2^K=2*(m*2^(e+1074+K).toNat)->rungD m e false%2=0):=by
 have hl:=zoi2 hr
 obtain ⟨q,u, -,⟨a1,a2⟩,a3,h⟩:=ztz1 hm hK
 generalize m*2^(e+1074+K).toNat=A at*
 rw [pow_add',<-Nat.mul_assoc] at a1 a2 a3
 have strict:∀ {x:Nat},x<2*4503599627370496*2^u->4503599627370496*2^u*2^K<=A->x*2^K<=2*A/\x*2^K≠2*A:=fun {x} h1 h2=>by
  have h3:=Nat.mul_lt_mul_of_pos_right h1 (Nat.two_pow_pos K)
  have h4:2*4503599627370496*2^u*2^K=2*(4503599627370496*2^u*2^K):=by rw [Nat.mul_assoc 2,Nat.mul_assoc 2]
  omega
 rcases h with ⟨hq,rfl,hr'⟩ | ⟨hq,hq',hr'⟩
 ·rw [hr'] at hr hl ⊢
  rw [zgr1 hq,show gapD (q-1)=0 by unfold gapD;omega] at hl
  rw [Nat.pow_zero,Nat.mul_one] at a1 a2
  rw [show lowB q=2*q-1 by omega]
  exact ⟨a1,a2 hr⟩
 ·rw [Nat.min_def] at hr'
  by_cases hc:(u+1)*4503599627370496+(q-4503599627370496)<=9218868437227405312
  ·rw [if_pos hc] at hr'
   rw [hr'] at hr hl ⊢
   have hv:valD ((u+1)*4503599627370496+(q-4503599627370496))=q*2^u:=by
    rcases Nat.lt_or_ge q 9007199254740992 with h1 | h1
    ·rw [zgs1 u _ (by omega),Nat.sub_add_cancel hq]
    ·have h1:q=9007199254740992:=by omega
     subst h1
     rw [show (u+1)*4503599627370496+(9007199254740992-4503599627370496)=(u+1+1)*4503599627370496+0 by omega,zgs1 (u+1) 0 (by omega),Nat.pow_succ]
     omega
   rw [hv] at hl
   have e1:(2*q-1)*2^u+2^u=2*(q*2^u):=by rw [<-Nat.succ_mul,<-Nat.mul_assoc,show (2*q-1).succ=2*q by omega]
   by_cases h1:4503599627370496<q\/u=0
   ·have hg:gapD ((u+1)*4503599627370496+(q-4503599627370496)-1)=u:=by unfold gapD;omega
    rw [hg] at hl
    rw [show lowB ((u+1)*4503599627370496+(q-4503599627370496))=(2*q-1)*2^u by omega]
    exact ⟨a1,fun h2=>by have:=a2 (by omega) h2;omega⟩
   ·have h1:q=4503599627370496:=by omega
    subst h1
    have:=Nat.two_pow_pos (gapD ((u+1)*4503599627370496+(4503599627370496-4503599627370496)-1))
    have h5:=strict (x:=lowB ((u+1)*4503599627370496+(4503599627370496-4503599627370496))) (by rw [Nat.mul_assoc];omega) (by omega)
    exact ⟨h5.1,fun h2=>absurd h2 h5.2⟩
  ·rw [if_neg hc] at hr'
   rw [hr'] at hr hl ⊢
   obtain ⟨T,hT⟩:∃T:Nat,T=2045:=⟨2045,rfl⟩
   have hv:valD 9218868437227405312=4503599627370496*2^(T+1):=zqf2 (by omega)
   have hg:gapD (9218868437227405312-1)=T:=by unfold gapD;omega
   have hps:(2:Nat)^(T+1)=2^T*2:=Nat.pow_succ 2 T
   rw [hv,hg] at hl
   rcases Nat.lt_or_ge u (T+1) with h1 | h1
   ·have h2:u=T:=by omega
    have h3:q=9007199254740992:=by omega
    subst h2;subst h3
    omega
   ·have h2:4503599627370496*2^(T+1)<=4503599627370496*2^u:=Nat.mul_le_mul_left _ (Nat.pow_le_pow_right (by decide) h1)
    have:=Nat.two_pow_pos T
    have h5:=strict (x:=lowB 9218868437227405312) (by rw [Nat.mul_assoc];omega) (by omega)
    exact ⟨h5.1,fun h2=>absurd h2 h5.2⟩
theorem zqg2 {m:Nat} {e:Int} {K r:Nat} (hm:m≠0) (hK:0<=e+1074+K) (hr:r<=9218868437227405312)
  (h1:r=0\/lowB r*2^K<2*(m*2^(e+1074+K).toNat)\/(lowB r*2^K=2*(m*2^(e+1074+K).toNat)/\r%2=0))
  (h2:r=9218868437227405312\/2*(m*2^(e+1074+K).toNat)<highB r*2^K\/(2*(m*2^(e+1074+K).toNat)=highB r*2^K/\r%2=0)):rungD m e false=r:=by
 have hle:=zjo1 (m:=m) (e:=e) (b:=false)
 have hh:=zua1 (e:=e) hm hK
 have hl:=zbe2 (e:=e) hm hK
 generalize rungD m e false=s at*
 generalize m*2^(e+1074+K).toNat=A at*
 rcases Nat.lt_trichotomy s r with h | h | h
 ·exfalso
  obtain ⟨c1,c2⟩:=zjv1 h
  obtain ⟨d1,d2⟩:=hh (by omega)
  have c3:=Nat.mul_le_mul_right (2^K) c1
  have e1:lowB r*2^K=2*A/\r%2=0:=by omega
  have e2:highB s*2^K=lowB r*2^K:=by omega
  have e3:=Nat.eq_of_mul_eq_mul_right (Nat.two_pow_pos K) e2
  have:=d2 (by omega)
  have:=c2 e3
  omega
 ·exact h
 ·exfalso
  obtain ⟨c1,c2⟩:=zjv1 h
  obtain ⟨d1,d2⟩:=hl (by omega)
  have c3:=Nat.mul_le_mul_right (2^K) c1
  have e1:2*A=highB r*2^K/\r%2=0:=by omega
  have e2:highB r*2^K=lowB s*2^K:=by omega
  have e3:=Nat.eq_of_mul_eq_mul_right (Nat.two_pow_pos K) e2
  have:=d2 (by omega)
  have:=c2 e3
  omega
theorem zhy2 {m n:Nat} {e f:Int} {K:Nat} (hm:m≠0) (hn:n≠0) (he:0<=e+1074+K) (hf:0<=f+1074+K) (h:m*2^(e+1074+K).toNat<=n*2^(f+1074+K).toNat):rungD m e false<=rungD n f false:=by
 rcases Nat.lt_or_ge (rungD n f false) (rungD m e false) with hlt | hge
 ·exfalso
  have hle:=zjo1 (m:=m) (e:=e) (b:=false)
  obtain ⟨a1,a2⟩:=zua1 hn hf (by omega)
  obtain ⟨b1,b2⟩:=zbe2 hm he (by omega)
  obtain ⟨c1,c2⟩:=zjv1 hlt
  have c3:=Nat.mul_le_mul_right (2^K) c1
  generalize m*2^(e+1074+K).toNat=A at*
  generalize n*2^(f+1074+K).toNat=B at*
  have e2:highB (rungD n f false)*2^K=lowB (rungD m e false)*2^K:=by omega
  have e3:=c2 (Nat.eq_of_mul_eq_mul_right (Nat.two_pow_pos K) e2)
  have:=a2 (by omega)
  have:=b2 (by omega)
  omega
 ·exact hge
end Lf
namespace Lf
section
variable {r:Nat}
theorem zrh1 (h1:0<r):lowB r*unitW (-1074) 0=2*loF r/\highB r*unitW (-1074) 0=2*hiF r:=by
 have hl:=zoi2 (r:=r) h1
 have hh:=zrg1 (r:=r)
 have hk:zad r=(gapD r:Int)-1074/\valD r=zac r*2^gapD r:=by
  unfold valD zad gapD
  grind
 have eK:2^gapD r*unitW (-1074) 0=4*kF r:=by
  rw [zda (by decide)]
  unfold kF
  rw [zjc 2 4 rfl (a:=zad r-2) (b:=zad r) (by omega) (by omega)]
  congr 1;omega
 have eV:valD r*unitW (-1074) 0=4*zac r*kF r:=by grind
 have hM:1<=zac r:=by grind
 constructor
 ·by_cases hs:zac r=4503599627370496/\1<r / 4503599627370496
  ·have hm:r%4503599627370496=0:=by
    have:=hs.1
    unfold zac at this
    split at this<;>omega
   have hg:gapD r=gapD (r-1)+1:=by unfold gapD;omega
   have e2:2^gapD (r-1)*unitW (-1074) 0=2*kF r:=by
    rw [hg,Nat.pow_succ,Nat.mul_right_comm] at eK
    omega
   have e3:lowF r=4*zac r-1:=by unfold lowF;rw [if_pos hs]
   have:=congrArg (· *unitW (-1074) 0) hl
   rw [Nat.add_mul,e2,Nat.mul_assoc 2,eV] at this
   unfold loF
   rw [e3,Nat.sub_mul,Nat.one_mul]
   omega
  ·have hg:gapD (r-1)=gapD r:=by
    unfold zac at hs
    unfold gapD
    split at hs<;>omega
   have e3:lowF r=4*zac r-2:=by unfold lowF;rw [if_neg hs]
   have:=congrArg (· *unitW (-1074) 0) hl
   rw [Nat.add_mul,hg,eK,Nat.mul_assoc 2,eV] at this
   unfold loF
   rw [e3,Nat.sub_mul]
   omega
 ·have:=congrArg (· *unitW (-1074) 0) hh
  rw [Nat.add_mul,eK,Nat.mul_assoc 2,eV] at this
  unfold hiF
  grind
theorem odd_r :oddF r=(r%2==1):=by
 unfold oddF zac
 grind
theorem zxt1 (h1:0<r) (h2:r<9218868437227405312) {m:Nat} {e:Int} (hm:m≠0) (he: -3000<=e) (hin:inF r (m*unitW e 0)=true):rungD m e false=r:=by
 obtain ⟨bl,bh⟩:=zrh1 h1
 obtain ⟨K,hK⟩:∃K:Nat,K=(-e-1074).toNat:=⟨_,rfl⟩
 have hw:=zbq (-1074-(K:Int)) 0
 have eK:2^K*unitW (-1074-(K:Int)) 0=unitW (-1074) 0:=by
  rw [zda (by omega)];congr 1;omega
 have eA:m*2^(e+1074+(K:Int)).toNat*unitW (-1074-(K:Int)) 0=m*unitW e 0:=by
  rw [Nat.mul_assoc,zda (by omega)];congr 2;omega
 rw [<-eK,<-Nat.mul_assoc] at bl bh
 rw [inF,zpi,<-eA] at hin
 refine zqg2 (K:=K) hm (by omega) (by omega) (.inr ?_) (.inr ?_)
 ·generalize m*2^(e+1074+(K:Int)).toNat=A at*
  generalize lowB r*2^K=L at*
  generalize unitW (-1074-(K:Int)) 0=w at*
  have c:∀ {x y:Nat},x*w<y*w->x<y:=fun h=>Nat.lt_of_mul_lt_mul_right h
  cases ho:oddF r
  ·rw [ho] at hin
   simp only [Bool.false_eq_true,if_false] at hin
   rw [odd_r] at ho
   have ho:r%2=0:=by
    rcases Nat.mod_two_eq_zero_or_one r with h | h
    ·exact h
    ·rw [h] at ho;cases ho
   have:L*w<=(2*A)*w:=by rw [bl,Nat.mul_assoc];omega
   have:=Nat.le_of_mul_le_mul_right this hw
   omega
  ·rw [ho] at hin
   simp only [if_true] at hin
   have:L*w<(2*A)*w:=by rw [bl,Nat.mul_assoc];omega
   grind
 ·generalize m*2^(e+1074+(K:Int)).toNat=A at*
  generalize highB r*2^K=H at*
  generalize unitW (-1074-(K:Int)) 0=w at*
  have c:∀ {x y:Nat},x*w<y*w->x<y:=fun h=>Nat.lt_of_mul_lt_mul_right h
  cases ho:oddF r
  ·rw [ho] at hin
   simp only [Bool.false_eq_true,if_false] at hin
   rw [odd_r] at ho
   have ho:r%2=0:=by
    rcases Nat.mod_two_eq_zero_or_one r with h | h
    ·exact h
    ·rw [h] at ho;cases ho
   have:(2*A)*w<=H*w:=by rw [bh,Nat.mul_assoc];omega
   have:=Nat.le_of_mul_le_mul_right this hw
   omega
  ·rw [ho] at hin
   simp only [if_true] at hin
   have:(2*A)*w<H*w:=by rw [bh,Nat.mul_assoc];omega
   grind
end
theorem zds2 {q:Nat} (hq:q≠0):bitsN (2*q+1)=bitsN q+1:=by
 unfold bitsN
 rw [if_neg hq,if_neg (by omega)]
 have e:(2*q+1) / 2=q:=by omega
 rw [Nat.log2_def,if_pos (by omega),e]
theorem zhz2 {q:Nat} {e:Int} (hq:1152921504606846976<=q):rungD q e true=rungD (2*q+1) (e-1) false:=by
 have hb:=zds2 (q:=q) (by omega)
 have h61:61<=bitsN q:=by
  refine Nat.le_of_not_lt fun h=> ?_
  have h1:=zra q
  have h2:2^bitsN q<=2^60:=Nat.pow_le_pow_right (by decide) (by omega)
  omega
 have ho:offD (2*q+1) (e-1)=offD q e+1:=by
  unfold offD
  rw [hb]
  split<;>split<;>omega
 have ho1:8<=offD q e:=by unfold offD;split<;>omega
 have hk:keptD (2*q+1) (offD q e+1) false=keptD q (offD q e) true:=by
  unfold keptD
  obtain ⟨o,e0⟩:∃o:Nat,offD q e=(o:Int)+1:=⟨(offD q e-1).toNat,by omega⟩
  rw [e0,if_neg (show ¬((o:Int)+1+1<=0) by omega),if_neg (show ¬((o:Int)+1<=0) by omega)]
  dsimp only
  rw [show ((o:Int)+1+1).toNat=o+1+1 by omega,show ((o:Int)+1).toNat=o+1 by omega,show o+1+1-1=o+1 from rfl,show o+1-1=o from rfl]
  have e1:(2*q+1) / 2^(o+1+1)=q / 2^(o+1):=by
   rw [Nat.pow_succ 2 (o+1),Nat.mul_comm _ 2,<-Nat.div_div_eq_div_mul,show (2*q+1) / 2=q by omega]
  have e2:(2*q+1)%2^(o+1+1)=2*(q%2^(o+1))+1:=by
   have d1:=Nat.div_add_mod (2*q+1) (2^(o+1+1))
   have d2:=Nat.div_add_mod q (2^(o+1))
   rw [e1,Nat.pow_succ 2 (o+1),Nat.mul_comm _ 2,Nat.mul_assoc] at d1
   rw [Nat.pow_succ 2 (o+1),Nat.mul_comm _ 2]
   generalize 2^(o+1)*(q / 2^(o+1))=z at*
   omega
  rw [e1,e2]
  have e3:2^(o+1)=2*2^o:=by rw [Nat.pow_succ,Nat.mul_comm]
  generalize q%2^(o+1)=ρ at*
  rw [e3]
  generalize 2^o=g at*
  by_cases h:g<=ρ
  ·rw [if_pos (.inl (by omega)),if_pos (by
    rcases Nat.lt_or_ge g ρ with h' | h'
    ·exact .inl h'
    ·exact .inr ⟨by omega,.inl rfl⟩)]
  ·rw [if_neg (fun hh=>by omega),if_neg (fun hh=>by omega)]
 unfold rungD
 grind
section
variable {r:Nat}
theorem zqh2 (h1:0<r) (h2:r<9218868437227405312) {q X:Nat} {e:Int} (hq:1152921504606846976<=q) (he: -2900<=e) (x0:q*unitW e 0<X) (x1:X<(q+1)*unitW e 0) (hin:inF r X=true):rungD q e true=r:=by
 rw [zhz2 hq]
 obtain ⟨hz,hm,he2,z0,z1,z2,hM⟩:=zsk h1 h2
 have hM2:zac r<9007199254740992:=by unfold zac;split<;>omega
 obtain ⟨b1,b2,b3,b4,b5, -⟩:=zkd h1 h2
 have hE:=zbq e 0
 have hk:e<zad r-2:=by
  refine zbb2 (by omega) ?_
  rw [inF,zpi] at hin
  have hi:X<=hiF r:=by
   grind
  have t1:=Nat.mul_le_mul_right (unitW e 0) hq
  have t2:=Nat.mul_le_mul_right (kF r) (show 4*zac r+2<=36028797018963966 by omega)
  have:hiF r=(4*zac r+2)*kF r:=rfl
  show unitW e 0<kF r
  omega
 have eK:kF r=2^(zad r-2-e).toNat*unitW e 0:=by
  rw [zda (by omega)]
  unfold kF
  congr 1;omega
 have eE:unitW e 0=2*unitW (e-1) 0:=(zjc 1 2 rfl (by omega) (by omega)).symm
 refine zxt1 h1 h2 (by omega) (by omega) ?_
 rw [inF,zpi] at hin ⊢
 have lo:loF r=lowF r*2^(zad r-2-e).toNat*unitW e 0:=by unfold loF;grind
 have hi:hiF r=(4*zac r+2)*2^(zad r-2-e).toNat*unitW e 0:=by unfold hiF;grind
 have hin':loF r<=X/\X<=hiF r:=by
  grind
 clear hin
 rw [lo,hi] at hin' ⊢
 generalize lowF r*2^(zad r-2-e).toNat=c1 at*
 generalize (4*zac r+2)*2^(zad r-2-e).toNat=c2 at*
 have g1:c1<q+1:=Nat.lt_of_mul_lt_mul_right (Nat.lt_of_le_of_lt hin'.1 x1)
 have g2:q<c2:=Nat.lt_of_mul_lt_mul_right (Nat.lt_of_lt_of_le x0 hin'.2)
 have t1:=Nat.mul_le_mul_right (unitW e 0) (show c1<=q by omega)
 have t2:=Nat.mul_le_mul_right (unitW e 0) (show q+1<=c2 by omega)
 have hE1:=zbq (e-1) 0
 have e4:(2*q+1)*unitW (e-1) 0=q*unitW e 0+unitW (e-1) 0:=by grind
 rw [Nat.add_mul,Nat.one_mul] at t2
 rw [e4]
 cases ho:oddF r
 ·simp only [Bool.false_eq_true,if_false];omega
 ·simp only [if_true];omega
end
theorem zcv1 {a b:Nat} (ha:0<a) (h:a<b):hiF a<=loF b/\(hiF a=loF b->a+1=b):=by
 obtain ⟨-,e1⟩:=zrh1 ha
 obtain ⟨e2, -⟩:=zrh1 (r:=b) (by omega)
 obtain ⟨c1,c2⟩:=zjv1 h
 have t:=Nat.mul_le_mul_right (unitW (-1074) 0) c1
 refine ⟨by omega,fun he=>c2 ?_⟩
 refine Nat.eq_of_mul_eq_mul_right (zbq (-1074) 0) ?_
 omega
theorem ziw1 {r X:Nat} (h:inF r X=true):loF r<=X/\X<=hiF r/\(r%2=1->loF r<X/\X<hiF r):=by
 rw [inF,zpi] at h
 cases ho:oddF r
 ·rw [ho] at h
  simp only [Bool.false_eq_true,if_false] at h
  rw [odd_r] at ho
  exact ⟨h.1,h.2,fun e=>by rw [e] at ho;cases ho⟩
 grind
theorem zoj2 {r X:Nat} (h0:loF r<=X) (h1:X<=hiF r) (h2:r%2=1->loF r<X/\X<hiF r):inF r X=true:=by
 rw [inF,zpi]
 cases ho:oddF r
 ·grind
 ·simp only [if_true]
  rw [odd_r] at ho
  grind
theorem zri1 {a b X:Nat} (ha:0<a) (hb:0<b) (h1:inF a X=true) (h2:inF b X=true):a=b:=by
 have main:∀ {a b:Nat},0<a->inF a X=true->inF b X=true->¬a<b:=fun {a b} ha h1 h2 h=>by
  obtain ⟨c1,c2⟩:=zcv1 ha h
  obtain ⟨x1,x2,x3⟩:=ziw1 h1
  obtain ⟨y1,y2,y3⟩:=ziw1 h2
  have e:=c2 (by omega)
  rcases Nat.mod_two_eq_zero_or_one a with p | p
  ·have:=y3 (by omega);omega
  ·have:=x3 p;omega
 grind
def sideF (r X:Nat):Int:=if X<loF r\/(X=loF r/\r%2=1) then -1 else if hiF r<X\/(X=hiF r/\r%2=1) then 1 else 0
theorem side_zero {r X:Nat}:sideF r X=0↔inF r X=true:=by
 unfold sideF
 constructor
 ·intro h
  split at h
  ·omega
  ·rename_i c1
   split at h
   ·omega
   ·rename_i c2
    exact zoj2 (by omega) (by omega) (fun _=>by omega)
 ·intro h
  obtain ⟨x1,x2,x3⟩:=ziw1 h
  omega
theorem zdt2 {r b X:Nat} (hr:0<r) (h:sideF r X<0) (hb:inF b X=true):b<r:=by
 obtain ⟨x1,x2,x3⟩:=ziw1 hb
 refine Nat.lt_of_not_le fun hh=> ?_
 have hn:inF r X≠true:=fun e=>by have:=side_zero.2 e;omega
 have hne:r≠b:=fun e=>hn (e▸hb)
 obtain ⟨c1,c2⟩:=zcv1 hr (show r<b by omega)
 unfold sideF at h
 split at h
 ·rename_i hc
  have hlt:loF r<hiF r:=by
   have:1<=zac r:=by unfold zac;split<;>omega
   exact Nat.mul_lt_mul_of_pos_right (by unfold lowF;split<;>omega) (zoo1 r)
  omega
 omega
theorem zdu2 {r b X:Nat} (hb0:0<b) (h:0<sideF r X) (hb:inF b X=true):r<b:=by
 obtain ⟨x1,x2,x3⟩:=ziw1 hb
 refine Nat.lt_of_not_le fun hh=> ?_
 have hn:inF r X≠true:=fun e=>by have:=side_zero.2 e;omega
 have hne:r≠b:=fun e=>hn (e▸hb)
 obtain ⟨c1,c2⟩:=zcv1 hb0 (show b<r by omega)
 unfold sideF at h
 omega
def topOk (n:Int):Bool:=decide (-400<=Int.tdiv (n*30103) 100000/\Int.tdiv (n*30103) 100000<=400)&&decide (2^(n+1).toNat*10^(-(Int.tdiv (n*30103) 100000+3)).toNat<=10^(Int.tdiv (n*30103) 100000+3).toNat*2^(-(n+1)).toNat)
theorem zqi2 :∀i:Nat,i<2100->topOk ((i:Int)-1074)=true:=by decide+kernel
section
variable {r:Nat}
def twoF (r:Nat):Int:=zad r+((bitsN (zac r):Int)-1)
theorem zrz2 {n:Int} (h0: -1074<=n) (h1:n<=1023): -400<=Int.tdiv (n*30103) 100000/\Int.tdiv (n*30103) 100000<=400:=by
 grind
theorem zia2 (h1:0<r) (h2:r<9218868437227405312):vF r<unitW 0 (Int.tdiv (twoF r*30103) 100000+3):=by
 obtain ⟨b1,b2,b3,b4,b5, -⟩:=zkd h1 h2
 have hb:=zra (zac r)
 have ht: -1074<=twoF r/\twoF r<=1023:=by unfold twoF;omega
 have c:=zqi2 (twoF r+1074).toNat (by omega)
 rw [show (((twoF r+1074).toNat:Nat):Int)-1074=twoF r by omega] at c
 unfold topOk at c
 rw [Bool.and_eq_true] at c
 have hx:=of_decide_eq_true c.1
 obtain ⟨Z,z0,e1,e2⟩:=ztu (Int.tdiv (twoF r*30103) 100000+3) (twoF r+1) (by omega) (by omega)
 have c1:=Nat.mul_le_mul_right Z (of_decide_eq_true c.2)
 rw [e1,e2] at c1
 have e3:vF r=zac r*unitW (zad r) 0:=by
  unfold vF kF
  rw [<-zjc 2 4 rfl (a:=zad r-2) (b:=zad r) (by omega) (by omega)]
  ac_rfl
 have e4:=Nat.mul_lt_mul_of_pos_right hb (zbq (zad r) 0)
 rw [zda (by omega),show zad r+((bitsN (zac r):Nat):Int)=twoF r+1 by unfold twoF;omega] at e4
 omega
theorem zok2 (h1:0<r) (h2:r<9218868437227405312) {e:Int} (he: -3000<=e) (he2:e<=3000) (e0:unitW 0 e<=vF r) (e1:vF r<unitW 0 (e+1)): -pF r<=e/\e<=16-pF r:=by
 obtain ⟨u1,u2, -⟩:=zoq1 h1 h2
 obtain ⟨p0,p1⟩:=zls1 h1 h2
 have a:=zlt1 (a:= -pF r) (b:=e+1) (by omega) (by omega)
 have b:=zlt1 (a:=e) (b:=17-pF r) (by omega) (by omega)
 omega
def SeekF (r:Nat) (e:Int) (n:Int):Prop:=1<=n/\n<=e+pF r+1/\(n=1\/hitF r (e-n+2)=false)
theorem zdv2 (h1:0<r) (h2:r<9218868437227405312) {e:Int} (he: -3000<=e) (he2:e<=3000) (e0:unitW 0 e<=vF r) (e1:vF r<unitW 0 (e+1)):SeekF r e 1:=by
 have:=zok2 h1 h2 he he2 e0 e1
 exact ⟨by omega,by omega,.inl rfl⟩
theorem zmd2 (h1:0<r) (h2:r<9218868437227405312) {e n:Int} (e1:vF r<unitW 0 (e+1)) (hs:SeekF r e n) (hh:hitF r (e-n+1)=true):
  pickF r (e-n+1)*unitW 0 (e-n+1)=valS r:=by
 obtain ⟨s1,s2,s3⟩:=hs
 refine (zhu2 h1 h2 (s:=e-n+1) (e:=e) (by omega) e1 ?_).1 hh
 grind
theorem zib2 (h1:0<r) (h2:r<9218868437227405312) {e n:Int} (e1:vF r<unitW 0 (e+1)) (hs:SeekF r e n) (hh:hitF r (e-n+1)=false):SeekF r e (n+1):=by
 obtain ⟨s1,s2,s3⟩:=hs
 refine ⟨by omega,?_,.inr (by rw [show e-(n+1)+2=e-n+1 by omega];exact hh)⟩
 refine Int.not_lt.1 fun hn=> ?_
 have:=(zhu2 h1 h2 (s:=e-n+1) (e:=e) (by omega) e1 (by
  rcases s3 with s3 | s3
  ·exact .inl (by omega)
  ·exact .inr (by rw [show e-n+1+1=e-n+2 by omega];exact s3))).2 (by omega)
 grind
end
end Lf
namespace Lf
open Go Go.Proofs Tryz
def zlu1 (u:Nat) (zs:List Nat):Prop:=∃n,zs=digL n u/\u<10^n/\1<=n/\(n=1\/10^(n-1)<=u)
def signL (i:Int):List Nat:=if i<0 then [45] else []
theorem zic2 :∀i,i<10->(ByteArray.extract ⟨#[48,49,50,51,52,53,54,55,56,57,97,98,99,100,101,102,103,104,105,106,107,108,109,110,111,112,113,114,115,116,117,118,119,120,121,122]⟩ i (i+1)).data=(strN (digL 1 i)).data:=by decide+kernel
theorem zid2 :∀i,i<100->(ByteArray.extract ⟨bl200.toArray⟩ (i*2) (i*2+2)).data=(strN (digL 2 i)).data:=by decide+kernel
theorem zum {a b:ByteArray} (h:a.data=b.data):a=b:=by cases a;cases b;cases h;rfl
section
variable {h:Hp}
theorem zxu1 {i:Nat} {Q:ByteArray->Hp->Prop} (hi:i<100) (hk:∀zs,zlu1 i zs->Q (strN zs) h):zis prog i Q h:=by
 unfold zis
 by_cases h10:i<10
 ·refine iteT (decide_eq_true (by omega)) ?_
  have e1:IntKind.wrap .i64 ((i:Int)+1)=((i+1:Nat):Int):=by rw [zab (by omega) (by omega)];omega
  rw [e1,Int.toNat_natCast,Int.toNat_natCast,zum (zic2 i h10)]
  exact ⟨⟨by omega,by omega,by omega⟩,hk _ ⟨1,rfl,by omega,by omega,.inl rfl⟩⟩
 ·refine iteF (fun hh=>h10 (by grind)) ?_
  have e1:IntKind.wrap .i64 ((i:Int)*2)=((i*2:Nat):Int):=by rw [zab (by omega) (by omega)];omega
  have e2:IntKind.wrap .i64 (((i*2:Nat):Int)+2)=((i*2+2:Nat):Int):=by rw [zab (by omega) (by omega)];omega
  rw [e1,e2,Int.toNat_natCast,Int.toNat_natCast]
  have:=hk (digL 2 i) ⟨2,rfl,by omega,by omega,.inr (by omega)⟩
  rw [<-zum (zid2 i hi)] at this
  exact ⟨⟨by omega,by omega,by omega⟩,this⟩
theorem zjw1 {b o n c:Nat} {cs:List Value} {zs:List Nat} (kb:Blk h b cs) (hn:n=zs.length) (e:(cs.drop o).take zs.length=zs.flatMap eN):Rw h 1 eN ⟨some ⟨b,o,none⟩,n,c⟩ zs:=
 ⟨hn,kb.rd (by rw [zgn zrq]) (by grind)⟩
theorem zix1 {i:Int} {Q:ByteArray->Hp->Prop} (i0: -9223372036854775808<=i) (i1:i<9223372036854775808) (t:zlz h) (hk:∀zs h',h<=h'->zlu1 i.natAbs zs->Q (strN (signL i++zs)) h'):zft prog i (10:Int) Q h:=by
 unfold zft
 refine iteT (by decide) (letW ?_)
 by_cases hs:0<=i/\i<100
 ·refine iteT (by rw [decide_eq_true hs.1,decide_eq_true hs.2];rfl) ?_
  obtain ⟨n,rfl⟩:∃n:Nat,i=n:=⟨i.toNat,by omega⟩
  refine zul (zxu1 (by omega) fun zs hz=> ?_)
  have:=hk zs h (Hp.le_refl h) (by rw [Int.natAbs_natCast];exact hz)
  unfold signL at this
  grind
 ·refine iteF (fun hh=>hs (by grind)) ?_
  intro b ty hb
  generalize hbuf: [Value.int .u8 (0:Int),_,_,_,_,_,_,_,_,_,_,_,_,_,_,_,_,_,_,_,_,_,_,_]=buf
  have hbl:buf.length=24:=by rw [<-hbuf];rfl
  have hle:=zji (o:=.cells buf.toArray ty (0,0)) hb
  have kb:Blk (h.set b (.cells buf.toArray ty (0,0))) b buf:=⟨ty,zdu⟩
  clear hbuf
  generalize h.set b (.cells buf.toArray ty (0,0))=h1 at*
  have hu0:i.natAbs≠0:=by omega
  have hul:i.natAbs<18446744073709551616:=by omega
  refine JoinW1.intro (fun u k=>k=h1/\u=((i.natAbs:Nat):Int)) ?_ ?_
  ·by_cases hn:i<0
   ·refine iteT (decide_eq_true hn) ⟨rfl,?_⟩
    rw [zah,zah]
    omega
   ·refine iteF (fun hh=>hn (of_decide_eq_true hh)) ⟨rfl,?_⟩
    rw [zah]
    omega
  rintro u h1 ⟨rfl,rfl⟩
  refine zja (ziv1 hu0 hul (zbc hle t) fun n n1 n20 dn dn1=> ?_)
  have e1:IntKind.wrap .i64 ((1:Int)+(n:Int))=((n+1:Nat):Int):=by rw [zab (by omega) (by omega)];omega
  rw [e1,Int.toNat_natCast]
  have eb1:sbase (some ⟨b,0,none⟩) 1 1 24=some ⟨b,1,none⟩:=by unfold sbase;rw [if_neg (by decide)];show some (Addr.add _ _)=_;rw [box_add]
  have eb0:sbase (some ⟨b,0,none⟩) 1 0 24=some ⟨b,0,none⟩:=by unfold sbase;rw [if_neg (by decide)];show some (Addr.add _ _)=_;rw [box_add]
  rw [eb1]
  refine ⟨⟨by decide,by omega,by omega⟩,letW ?_⟩
  refine zgx (ztt1 (a:=⟨some ⟨b,1,none⟩,n+1-1,23⟩) rfl (by grind) (by grind) kb dn1 hul fun h2 mv k2=> ?_)
  have k2:Blk h2 b (buf.take 1++digV n i.natAbs++buf.drop (1+n)):=k2
  have hle2:h<=h2:=fun c o hc=>mv.keep c o (hle c o hc) (by grind)
  have txt:zlu1 i.natAbs (digL n i.natAbs):=⟨n,rfl,dn1,n1,.inr dn⟩
  have hin:=zic1 n i.natAbs
  have hdl:=zni n i.natAbs
  have hdv:digV n i.natAbs=(digL n i.natAbs).flatMap eN:=by rw [zre1,zon1]
  rw [hdv] at k2
  generalize digL n i.natAbs=zs at*
  have tl:(buf.take 1).length=1:=by grind
  have fl:(zs.flatMap eN).length=n:=by rw [zgn zrq,Nat.mul_one,hdl]
  by_cases hneg:i<0
  ·refine iteT (decide_eq_true hneg) ⟨by decide,?_⟩
   have ea:Addr.add (⟨b,0,none⟩:Addr) 0=⟨b,0,none⟩:=by rw [box_add]
   rw [ea,eb0]
   refine put1 k2 (by grind) fun h3 mv3 k3=>⟨by omega,letW ⟨strN (45::zs),zqx (e:=5) (l:=⟨some ⟨b,0,none⟩,n+1-0,24⟩) (tb_ok.und _ ty74 rfl) (tb_ok.und _ ty5 rfl) (tb_ok.und _ ty9 rfl) (zjw1 k3 (by rw [List.length_cons];omega) ?_) (fun x hx=> ?_),?_⟩⟩
   ·cases hq:buf.take 1 with
    | nil=>grind
    | cons x r=>
     have:r=[]:=by grind
     subst this
     have e0:(zs.flatMap eN).take (zs.length)=zs.flatMap eN:=List.take_of_length_le (by omega)
     simp [List.flatMap_cons,eN,List.take_append_of_le_length,fl,hdl]
   ·grind
   ·have:=hk zs h3 (fun c o hc=>mv3.keep c o (hle2 c o hc) (by simp only [List.mem_singleton];intro e;rw [e,hb] at hc;cases hc)) txt
    unfold signL at this
    grind
  ·refine iteF (fun hh=>hneg (of_decide_eq_true hh)) ⟨⟨by decide,by omega,by omega⟩,letW ⟨strN zs,zqx (e:=5) (l:=⟨some ⟨b,1,none⟩,n+1-1,23⟩) (tb_ok.und _ ty74 rfl) (tb_ok.und _ ty5 rfl) (tb_ok.und _ ty9 rfl) (zjw1 k2 (by omega) ?_) (fun x hx=>by grind),?_⟩⟩
   ·grind
   ·have:=hk zs h2 hle2 txt
    unfold signL at this
    grind
theorem zxv1 {i:Int} {Q:ByteArray->Hp->Prop} (i0: -9223372036854775808<=i) (i1:i<9223372036854775808) (t:zlz h) (hk:∀zs h',h<=h'->zlu1 i.natAbs zs->Q (strN (signL i++zs)) h'):zqz prog i Q h:=by
 unfold zqz
 refine zvc ?_
 unfold zoz
 exact ziz (zix1 i0 i1 t hk)
end
theorem zhm (xs:List Nat):(strN xs).data.toList=xs.map UInt8.ofNat:=by simp [strN]
theorem zal (xs:List Nat):(strN xs).size=xs.length:=by show (strN xs).data.size=_;simp [strN]
theorem zlv1 (xs:List Nat):(strN xs).toList=xs.map UInt8.ofNat:=by rw [ByteArray.toList_eq];exact zhm xs
theorem zju {xs:List Nat} {i x:Nat} (hx:xs[i]? =some x) (hl:x<256):((strN xs).data.toList.getD i 0).toNat=x:=by
 rw [zhm,List.getD_eq_getElem?_getD,List.getElem?_map,hx]
 show (UInt8.ofNat x).toNat=x
 rw [UInt8.toNat_ofNat']
 omega
theorem zgd (xs:List Nat) (a b:Nat) (hb:b<=xs.length):(strN xs).extract a b=strN ((xs.take b).drop a):=by
 apply zum
 rw [ByteArray.data_extract]
 apply Array.ext'
 rw [Array.toList_extract]
 show (((strN xs).data.toList).drop a).take (b-a)=_
 rw [zhm,<-List.drop_take,<-List.map_take,<-List.map_drop]
 simp [strN]
section
variable {h:Hp}
theorem zub1 {s:ByteArray} {c:Int} {K:Int->Hp->Prop} {i:Nat} (hf:(List.range s.size).find? (fun i=>s[i]! ==c.toNat.toUInt8)=some i) (hk:K (i:Int) h):SemE prog (Extern.BytealgIndexByte.indexByte #[.string s,.int .u8 c]) (shInt .i64) K h:=by
 show semW prog (match (List.range s.size).find? (fun i=>s[i]! ==c.toNat.toUInt8) with | some i=>pure (goInt i) | none=>pure (goInt (-1))) _ h
 rw [hf]
 exact ⟨_,rfl,hk⟩
theorem zuc1 {xs:List Nat} {i:Nat} (hi:i<xs.length):(strN xs)[i]! =UInt8.ofNat xs[i]:=by
 have hs:i<(strN xs).size:=by rw [zal];exact hi
 rw [getElem!_pos (strN xs) i hs]
 show (strN xs).data[i]=_
 simp [strN]
theorem zqj2 {A B:List Nat} {c:Nat} (hc:c<256) (hA:∀x∈A,x<256/\x≠c):(List.range (strN (A++c::B)).size).find? (fun i=>(strN (A++c::B))[i]! ==((c:Nat):Int).toNat.toUInt8)=some A.length:=by
 rw [List.find?_range_eq_some]
 have hl:A.length<(A++c::B).length:=by simp
 refine ⟨?_,?_,?_⟩
 ·rw [zuc1 hl]
  simp
 ·rw [List.mem_range,zal];exact hl
 ·intro j hj
  rw [zuc1 (by omega),List.getElem_append_left hj,Int.toNat_natCast]
  obtain ⟨h1,h2⟩:=hA _ (List.getElem_mem hj)
  have:UInt8.ofNat A[j]≠c.toUInt8:=fun e=>h2 (by
   have:=congrArg UInt8.toNat e
   rw [UInt8.toNat_ofNat',show c.toUInt8.toNat=c%256 from UInt8.toNat_ofNat'] at this
   omega)
  simpa using this
theorem zol2 {A B:List Nat} {c:Nat} {Q:ByteArray->ByteArray->Bool->Hp->Prop} (hc:c<256) (hA:∀x∈A,x<256/\x≠c) (hA0:A≠ []) (hlen:(A++c::B).length<1000000) (hq:Q (strN A) (strN B) true h):zox prog (strN (A++c::B)) (strN [c]) Q h:=by
 unfold zox
 refine zka ?_
 unfold zhc
 refine ziy ?_
 unfold zfs
 have hA1:1<=A.length:=by
  cases A with
  | nil=>exact absurd rfl hA0
  | cons _ _=>simp
 have hs:(strN [c]).size=1:=zal _
 have hl:(A++c::B).length=A.length+1+B.length:=by rw [List.length_append,List.length_cons];omega
 refine letW (iteF (fun hh=> ?_) (iteT (by rw [hs];decide) ⟨⟨by decide,by rw [hs];decide⟩,zgk ?_⟩))
 ·rw [hs,Bool.or_eq_true] at hh
  rcases hh with hh | hh
  ·exact absurd hh (by decide)
  ·have:=congrArg List.length (eq_of_beq hh)
   rw [zlv1,zlv1,List.length_map,List.length_map,hl] at this
   simp at this
   omega
 unfold zdr
 rw [zju (xs:=[c]) (i:=0) (x:=c) rfl hc]
 refine zub1 (zqj2 hc hA) ?_
 refine iteT (decide_eq_true (by show (A.length:Int)>=0;omega)) ?_
 rw [zal,zal,hl,List.length_singleton,Int.toNat_natCast]
 have e1:IntKind.wrap .i64 ((A.length:Int)+((1:Nat):Int))=((A.length+1:Nat):Int):=by rw [zab (by omega) (by omega)];omega
 rw [e1,Int.toNat_natCast]
 refine ⟨⟨by omega,by show (A.length:Int)<=((A.length+1+B.length:Nat):Int);omega⟩,⟨by omega,by omega⟩,?_⟩
 rw [zgd _ _ _ (by omega),zgd _ _ _ (by omega)]
 have t1:((A++c::B).take A.length).drop 0=A:=by simp
 have t2:((A++c::B).take (A.length+1+B.length)).drop (A.length+1)=B:=by
  rw [List.take_of_length_le (by omega),show A++c::B=(A++ [c])++B by simp,List.drop_append_of_le_length (by simp),List.drop_of_length_le (by simp)]
  rfl
 grind
def numV (zs:List Nat):Nat:=zs.foldl (fun n z=>10*n+(z-48)) 0
theorem zyh (zs:List Nat) (z:Nat):numV (zs++ [z])=10*numV zs+(z-48):=by simp [numV]
theorem zie2 :∀(zs:List Nat) {n k:Nat},n<10^k->(∀z∈zs,48<=z/\z<58)->zs.foldl (fun n z=>10*n+(z-48)) n<10^(k+zs.length)
 | [],_,_,h,_=>h
 | z::zs,n,k,h,hz=>by
  have h2:=hz z (List.mem_cons_self ..)
  have:=zie2 zs (n:=10*n+(z-48)) (k:=k+1) (by rw [Nat.pow_succ];omega) fun x hx=>hz x (List.mem_cons_of_mem _ hx)
  grind
theorem zid1 {zs:List Nat} (hz:∀z∈zs,48<=z/\z<58):numV zs<10^zs.length:=by
 have:=zie2 zs (n:=0) (k:=0) (by decide) hz
 rw [Nat.zero_add] at this
 exact this
theorem zif2 {sg:Nat} {zs:List Nat} {Q:Int->Leaf->Hp->Prop} (hsg:sg=43\/sg=45) (hz:∀z∈zs,48<=z/\z<58) (z1:1<=zs.length) (z2:zs.length<=17)
  (hk:∀h' e,h<=h'->e.v=.nilIface->Q (if sg=45 then -(numV zs:Int) else numV zs) e h'):zvx prog (strN (sg::zs)) Q h:=by
 unfold zvx
 have fin:∀ {n:Int} {e:Leaf} {h':Hp},h<=h'->n=(if sg=45 then -(numV zs:Int) else numV zs)->e.v=.nilIface->((isIfV e.v)=true/\(if (!(zcl e.v))=true then
   CallT prog zcz [(.string ⟨#[65,116,111,105]⟩),(.string (strN (sg::zs))),(.int .i64 (0:Int)),(.int .i64 (0:Int)),e.v] zai (fun r2 h2=>EncW zai r2.v fun e=>Q n e h2) h'
   else EncW zai .nilIface fun e=>Q n e h')):=fun {n e h'} hl hn he=>by
  rw [he]
  exact ⟨rfl,iteF (by decide) ⟨⟨.nilIface,rfl⟩,rfl,hn▸hk h' _ hl rfl⟩⟩
 refine zvb ?_
 unfold zoy
 have hs:(strN (sg::zs)).size=zs.length+1:=by rw [zal];rfl
 have hg0:((strN (sg::zs)).data.toList.getD 0 0).toNat=sg:=zju rfl (by omega)
 rw [hs,hg0]
 refine letW (letW (letW (letW (letW (iteT ?_ ?_)))))
 ·simp;omega
 refine JoinW1.intro (fun s k=>k=h/\s=strN zs) ⟨⟨by decide,by omega⟩,fun _=>⟨by decide,by omega⟩,letW (iteT (by grind) ⟨⟨by decide,by omega⟩,?_⟩)⟩ ?_
 ·have e:(strN (sg::zs)).extract 1 (zs.length+1)=strN zs:=by
   rw [zgd _ _ _ (by simp)]
   simp
  rw [e,zal]
  grind
 rintro _ h ⟨rfl,rfl⟩
 intro c b t hc hb
 rw [zal] at hc ⊢
 generalize hh2:h.set b (.cells (zfg (strN zs)++zbn [.int .u8 0] (c-zs.length)).toArray t (c,c+1))=h2
 have hle:h<=h2:=hh2▸zji hb
 have cell:∀(i z:Nat),zs[i]? =some z->hcell h2 ⟨b,i,none⟩=some (.int .u8 (z:Int)):=fun i z hz'=>by
  subst hh2
  have hi:i<zs.length:=(List.getElem?_eq_some_iff.1 hz').1
  have e:(zfg (strN zs))[i]? =some (.int .u8 (z:Int)):=by
   unfold zfg
   rw [zhm,List.getElem?_map,List.getElem?_map,hz']
   have:=hz z (List.mem_of_getElem? hz')
   show some (Value.int .u8 (((UInt8.ofNat z).toNat:Nat):Int))=_
   rw [UInt8.toNat_ofNat']
   grind
  have hl:(zfg (strN zs)).length=zs.length:=by unfold zfg;rw [zhm];simp
  have e2:(zfg (strN zs)++zbn [.int .u8 0] (c-zs.length))[i]? =some (.int .u8 (z:Int)):=by grind
  unfold hcell
  simp only [zdu]
  simpa using e2
 clear hh2
 refine LoopW2.intro (fun n i k=>k=h2/\∃j:Nat,i=(j:Int)/\j<=zs.length/\n=(numV (zs.take j):Int)) (fun _ i _=>(zs.length-i).toNat) ⟨rfl,0,rfl,by omega,by simp [numV]⟩ ?_
 rintro n i k ⟨rfl,j,rfl,hj,rfl⟩
 have bound:∀ {j},j<=zs.length->numV (zs.take j)<100000000000000000:=fun {j} hj=>by
  have h1:=zid1 (zs:=zs.take j) fun z hz'=>hz z (List.mem_of_mem_take hz')
  have h2:10^(zs.take j).length<=10^17:=Nat.pow_le_pow_right (by decide) (by grind)
  omega
 by_cases hlt:j<zs.length
 ·have hg:zs[j]? =some zs[j]:=List.getElem?_eq_getElem hlt
  obtain ⟨g0,g1⟩:=hz _ (List.getElem_mem hlt)
  have hb1:=bound hj
  have hb2:=bound (j:=j+1) hlt
  have hsn:numV (zs.take (j+1))=10*numV (zs.take j)+(zs[j] - 48):=by rw [List.take_add_one,hg];exact zyh _ _
  refine iteT (decide_eq_true (by grind)) ⟨⟨by simp,by omega,by grind⟩,ld_at (sh:=shInt .u8) ((zs[j]:Nat):Int) ?_ ?_⟩
  ·have ea:sat (some ⟨b,0,none⟩) 1 (j:Int)=⟨b,j,none⟩:=by show Addr.add ⟨b,0,none⟩ _=_;rw [box_add];simp
   show LdIs k (sat (some ⟨b,0,none⟩) 1 (j:Int)) _
   rw [ea]
   exact zvo (cell j _ hg)
  ·have ex:IntKind.wrap .u8 (((zs[j]:Nat):Int)-48)=((zs[j] - 48:Nat):Int):=by rw [byte8];omega
   rw [ex]
   refine iteF (fun hh=>by grind) ⟨⟨rfl,j+1,?_,by omega,?_⟩,?_⟩
   ·rw [zab (by omega) (by omega)];omega
   ·rw [zab (n:=(numV (zs.take j):Int)*10) (by omega) (by omega),zab (n:=((zs[j] - 48:Nat):Int)) (by omega) (by omega),zab (by omega) (by omega),hsn]
    omega
   ·rw [zab (by omega) (by omega)]
    omega
 ·have:j=zs.length:=by omega
  subst this
  refine iteF (fun hh=>hlt (by grind)) ⟨⟨by decide,by omega⟩,?_⟩
  have hb1:=bound (Nat.le_refl _)
  rw [List.take_of_length_le (Nat.le_refl _)] at hb1 ⊢
  rcases hsg with rfl | rfl
  ·exact iteF (by decide) ⟨⟨.nilIface,rfl⟩,rfl,fin hle (by omega) rfl⟩
  ·exact iteT (by decide) ⟨⟨.nilIface,rfl⟩,rfl,fin hle (by rw [zab (by omega) (by omega),if_pos rfl];omega) rfl⟩
end
end Lf
namespace Lf
open Ieee
theorem zud1 (s:Bool):sgn s=0\/sgn s=9223372036854775808:=by cases s<;>simp [sgn]
end Lf
namespace Lf
open Go Go.Proofs Tryz
section
variable {h:Hp}
theorem zna1 {w:Nat} {Q:ByteArray->Hp->Prop} (hw64:w<18446744073709551616) (w0:0<w%9223372036854775808) (w1:w%9223372036854775808<9218868437227405312)
  (d0:(zbh (mS (w%9223372036854775808)) (eS (w%9223372036854775808))).1≠0) (d1:(zbh (mS (w%9223372036854775808)) (eS (w%9223372036854775808))).1<18446744073709551616)
  (t1:Pow10 h) (t2:zlz h) (hz:∀zs,Shown (w%9223372036854775808) (negD w) zs->∀z∈zs,z<256) (hk:∀h' zs,h<=h'->Shown (w%9223372036854775808) (negD w) zs->Q (strN zs) h'):zeq prog w (101:Int) (-1:Int) (64:Int) Q h:=by
 unfold zeq
 refine zhk ?_
 unfold zer
 refine iteF (by decide) (iteT (by decide) ⟨by decide,fun b t hb=> ?_⟩)
 have hle:=zji (o:=.cells (zbn [Value.int .u8 (0:Int)] (max2I (IntKind.wrap .i64 ((-1:Int)+4)) 24).toNat).toArray t (0,0)) hb
 have own:ON h (h.set b (.cells (zbn [Value.int .u8 (0:Int)] (max2I (IntKind.wrap .i64 ((-1:Int)+4)) 24).toNat).toArray t (0,0))) ⟨some ⟨b,0,none⟩,(0:Int).toNat,(max2I (IntKind.wrap .i64 ((-1:Int)+4)) 24).toNat⟩ []:=
  ⟨rfl,Nat.zero_le _,.inr ⟨b,_,t,rfl,zdu,(by show (zbn [Value.int .u8 (0:Int)] (max2I (IntKind.wrap .i64 ((-1:Int)+4)) 24).toNat).length=(max2I (IntKind.wrap .i64 ((-1:Int)+4)) 24).toNat*1;decide),rfl,hb⟩⟩
 refine zku (zpw2 hle own rfl (by decide) hw64 w0 w1 d0 d1 t1 t2 fun r h' zs hl hs o=> ?_)
 exact ⟨strN zs,zqx (e:=5) (tb_ok.und _ ty74 rfl) (tb_ok.und _ ty5 rfl) (tb_ok.und _ ty9 rfl) (Own.rw (by simpa using o) zrq) (hz zs hs),hk h' zs hl hs⟩
def headL (neg:Bool) (a v:Nat):List Nat:=match digL a v with
 | []=> []
 | c::ds=>(if neg then [45] else [])++ [c]++(if ds=[] then [] else 46::ds)
theorem zig2 {neg:Bool} {a v:Nat} {e:Int} (ha:0<a):sciT neg a v e=headL neg a v++101::(if e<0 then 45 else 43)::expL e.natAbs:=by
 unfold sciT headL
 have hl:=zni a v
 cases hq:digL a v with
 | nil=>rw [hq] at hl;simp at hl;omega
 | cons c ds=>
  show (if neg then [45] else [])++ [c]++(if ds=[] then [] else 46::ds)++ [101,if e<0 then 45 else 43]++expL e.natAbs=_
  simp
theorem zme2 {neg:Bool} {a v:Nat}:∀x∈headL neg a v,x<58:=by
 unfold headL
 have hd:=zic1 a v
 grind
theorem zih2 {neg:Bool} {a v:Nat} (ha:0<a):headL neg a v≠ []/\(headL neg a v).length<=a+2:=by
 unfold headL
 have hl:=zni a v
 grind
theorem zqk2 {n:Nat} (hn:n<1000):(∀x∈expL n,48<=x/\x<58)/\1<=(expL n).length/\(expL n).length<=3/\numV (expL n)=n:=by
 unfold expL
 split
 ·exact ⟨fun x hx=>by simp at hx;omega,by simp,by simp,by simp [numV]⟩
 ·split
  ·exact ⟨fun x hx=>by simp at hx;omega,by simp,by simp,by simp [numV];omega⟩
  ·exact ⟨fun x hx=>by simp at hx;omega,by simp,by simp,by simp [numV];omega⟩
def zrj1 (r:Nat) (neg:Bool) (out:List Nat):Prop:=∃(n k v:Nat) (zs:List Nat),(zbh (mS r) (eS r)).1=v*10^k/\v%10≠0/\k<n/\n<=20/\10^(n-1)<=(zbh (mS r) (eS r)).1/\(zbh (mS r) (eS r)).1<10^n/\
 zlu1 ((n:Int)+(zbh (mS r) (eS r)).2-1).natAbs zs/\out=headL neg (n-k) v++101::(signL ((n:Int)+(zbh (mS r) (eS r)).2-1)++zs)
theorem zue1 {m:Nat} {e:Int} (h0: -1137<=e) (h1:e<=974): -400<=(zbh m e).2/\(zbh m e).2<=400:=by
 obtain ⟨p0,p1, -, -⟩:=p_in (m:=m) h0 h1
 unfold zbh
 grind
theorem zmf2 {w:Nat} (w1:w%9223372036854775808<9218868437227405312):rzD w<=9218868437227405311/\ -9218868437227405311<=rzD w:=by
 unfold rzD
 split<;>omega
theorem zmg2 {b:Int} {w:Nat} {Q:ByteArray->Hp->Prop} (hw:zof1 b=w) (w0:0<w%9223372036854775808) (w1:w%9223372036854775808<9218868437227405312)
  (d0:(zbh (mS (w%9223372036854775808)) (eS (w%9223372036854775808))).1≠0) (d1:(zbh (mS (w%9223372036854775808)) (eS (w%9223372036854775808))).1<18446744073709551616)
  (t1:Pow10 h) (t2:zlz h) (hk:∀h' out,h<=h'->zrj1 (w%9223372036854775808) (negD w) out->Q (strN out) h'):zqg prog b Q h:=by
 have hw64:w<18446744073709551616:=by rw [<-hw];exact zhi2
 obtain ⟨-, -,e0,e1, -⟩:=mS_in w0 w1
 have hex:=zue1 (m:=mS (w%9223372036854775808)) e0 e1
 have nn:¬zor w=true:=zru (by omega)
 unfold zqg
 refine zwx (zrd1 ?_)
 rw [hw]
 refine zkb (sh:=zae) (v:=isNaN w) rfl (iteF (by rw [zqv1 hw64];exact nn) ?_)
 have bound:=zmf2 w1
 refine zkb (sh:=zae) (v:=f64.format.order w 9218868437227405311==some .gt) rfl (iteF (fun hh=> ?_) ?_)
 ·have o:=zzu (a:=w) (b:=9218868437227405311) hw64 (by omega) (by omega) (by omega)
  have hh:(dbl.order w 9218868437227405311==some .gt)=true:=hh
  rw [o] at hh
  have hh:=Option.some.inj (eq_of_beq hh)
  have e0:rzD 9218868437227405311=9218868437227405311:=by unfold rzD negD;rw [decide_eq_false (by omega)];decide
  grind
 refine zkb (sh:=zae) (v:=f64.format.order w 18442240474082181119==some .lt) rfl (iteF (fun hh=> ?_) ?_)
 ·have o:=zzu (a:=w) (b:=18442240474082181119) hw64 (by omega) (by omega) (by omega)
  have hh:(dbl.order w 18442240474082181119==some .lt)=true:=hh
  rw [o] at hh
  have hh:=Option.some.inj (eq_of_beq hh)
  have e0:rzD 18442240474082181119= -9218868437227405311:=by unfold rzD negD;rw [decide_eq_true (by omega)];decide
  grind
 refine zny (zna1 hw64 w0 w1 d0 d1 t1 t2 ?_ fun h1 zs l1 hs=> ?_)
 ·rintro zs ⟨n,k,v,a1,a2,a3,a4,a5,a6,rfl⟩
  exact zpv2 (by omega)
 obtain ⟨n,k,v,a1,a2,a3,a4,a5,a6,rfl⟩:=hs
 have ha:0<n-k:=by omega
 rw [zig2 ha]
 obtain ⟨hl0,hl1⟩:=zih2 (neg:=negD w) (v:=v) ha
 have hx:=zqk2 (n:=((n:Int)+(zbh (mS (w%9223372036854775808)) (eS (w%9223372036854775808))).2-1).natAbs) (by omega)
 have fin:=fun zs (hz:zlu1 ((n:Int)+(zbh (mS (w%9223372036854775808)) (eS (w%9223372036854775808))).2-1).natAbs zs)=>(⟨n,k,v,zs,a1,a2,a3,a4,a5,a6,hz,rfl⟩:zrj1 (w%9223372036854775808) (negD w) _)
 have hin:=zme2 (neg:=negD w) (a:=n-k) (v:=v)
 generalize headL (negD w) (n-k) v=A at*
 generalize hE:(n:Int)+(zbh (mS (w%9223372036854775808)) (eS (w%9223372036854775808))).2-1=E at*
 refine zjz (zol2 (c:=101) (by decide) (fun x hx'=>by grind) hl0 (by grind) ?_)
 refine zyb (zif2 (by split<;>simp) hx.1 hx.2.1 (by omega) fun h2 er l2 _=> ?_)
 have eE:(if (if E<0 then 45 else 43)=45 then -(numV (expL E.natAbs):Int) else numV (expL E.natAbs))=E:=by
  grind
 rw [eE,zal]
 refine ⟨by omega,zqu (zxv1 (by omega) (by omega) (zbc (Hp.le_trans l1 l2) t2) fun zs h3 l3 hz=> ?_)⟩
 have hzl:zs.length<=20:=by
  obtain ⟨q,e1,e2,e3,e4⟩:=hz
  rw [e1,zni]
  rcases e4 with e4 | e4
  ·omega
  ·refine Classical.byContradiction fun hq=> ?_
   have:10^20<=10^(q-1):=Nat.pow_le_pow_right (by decide) (by omega)
   omega
 have hres:=hk h3 _ (Hp.le_trans l1 (Hp.le_trans l2 l3)) (fin zs hz)
 refine ⟨?_,?_⟩
 ·rw [zal]
  show (List.append (strN A).data.toList [101]).toArray.size+_<=_
  rw [zhm,List.length_append]
  simp
  have:(signL E).length<=1:=by unfold signL;split<;>simp
  omega
 ·have:strN (A++101::(signL E++zs))=⟨⟨List.append (List.append (strN A).data.toList [101]) (strN (signL E++zs)).data.toList⟩⟩:=by
   rw [zhm,zhm]
   simp [strN]
  grind
end
end Lf
namespace Lf
def lenN (u:Nat):Nat:=if u<10 then 1 else lenN (u / 10)+1
theorem zkx (u:Nat):1<=lenN u:=by unfold lenN;split<;>omega
theorem zcw1 (u:Nat):u<10^lenN u/\(lenN u=1\/10^(lenN u-1)<=u):=by
 induction u using Nat.strongRecOn with
 | _ u ih=>
  unfold lenN
  split
  ·omega
  ·rename_i h
   obtain ⟨i1,i2⟩:=ih (u / 10) (by omega)
   have p:=zkx (u / 10)
   obtain ⟨k,hk⟩:∃k,lenN (u / 10)=k+1:=⟨lenN (u / 10)-1,by omega⟩
   grind
theorem zii2 {u n:Nat} (h1:u<10^n) (n1:1<=n) (h2:n=1\/10^(n-1)<=u):n=lenN u:=by
 obtain ⟨s1,s2⟩:=zcw1 u
 have p:=zkx u
 have lt:∀ {a b:Nat},10^a<10^b->a<b:=fun h=>(Nat.pow_lt_pow_iff_right (by decide)).1 h
 have a:n<=lenN u:=by
  rcases h2 with h2 | h2
  ·omega
  ·have:=lt (Nat.lt_of_le_of_lt h2 s1);omega
 have b:lenN u<=n:=by
  rcases s2 with s2 | s2
  ·omega
  ·have:=lt (Nat.lt_of_le_of_lt s2 h1);omega
 omega
def decL (u:Nat):List Nat:=digL (lenN u) u
theorem zgt1 {u:Nat} {zs:List Nat} (h:zlu1 u zs):zs=decL u:=by
 obtain ⟨n,rfl,h1,h2,h3⟩:=h
 unfold decL
 rw [<-zii2 h1 h2 h3]
def numL (neg:Bool) (v:Nat) (s:Int):List Nat:=headL neg (lenN v) v++101::(signL ((lenN v:Int)+s-1)++decL ((lenN v:Int)+s-1).natAbs)
def TextF (r:Nat) (neg:Bool) (out:List Nat):Prop:=∃v s,v%10≠0/\ -3000<=s/\v*unitW 0 s=valS r/\out=numL neg v s
theorem zij2 {r:Nat} {neg:Bool} {x y:List Nat} (hx:TextF r neg x) (hy:TextF r neg y):x=y:=by
 obtain ⟨v,s,a1,a2,a3,rfl⟩:=hx
 obtain ⟨u,t,b1,b2,b3,rfl⟩:=hy
 obtain ⟨rfl,rfl⟩:=zhv2 a2 b2 a1 b1 (a3.trans b3.symm)
 rfl
theorem zuf1 {r:Nat} {neg:Bool} {out:List Nat} (h1:0<r) (h2:r<9218868437227405312) (hp:zrj1 r neg out):TextF r neg out:=by
 obtain ⟨n,k,v,zs,a1,a2,a3,a4,a5,a6,a7,a8⟩:=hp
 obtain ⟨m0,m1,e0,e1, -⟩:=mS_in h1 h2
 obtain ⟨x0,x1⟩:=zue1 (m:=mS r) e0 e1
 rw [a1] at a5 a6
 have hk:=Nat.pow_pos (n:=k) (show 0<10 by decide)
 have hl:n-k=lenN v:=by
  refine zii2 ?_ (by omega) (.inr ?_)
  ·have:v*10^k<10^(n-k)*10^k:=by rw [<-Nat.pow_add,show n-k+k=n by omega];exact a6
   exact Nat.lt_of_mul_lt_mul_right this
  ·have:10^(n-k-1)*10^k<=v*10^k:=by rw [<-Nat.pow_add,show n-k-1+k=n-1 by omega];exact a5
   exact Nat.le_of_mul_le_mul_right this hk
 refine ⟨v,(zbh (mS r) (eS r)).2+k,a2,by omega,?_,?_⟩
 ·unfold valS
  rw [a1,Nat.mul_assoc,zfj (by omega)]
 ·unfold numL
  rw [<-hl,show ((n-k:Nat):Int)+((zbh (mS r) (eS r)).2+(k:Int))-1=(n:Int)+(zbh (mS r) (eS r)).2-1 by omega,a8,zgt1 a7]
section
variable {r:Nat}
theorem zik2 (h1:0<r) (h2:r<9218868437227405312):0<loF r:=by
 obtain ⟨hz,hm,he,z0,z1,z2,hM⟩:=zsk h1 h2
 exact Nat.mul_pos (by unfold lowF;split<;>omega) (zoo1 r)
theorem zie1 (h1:0<r) (h2:r<9218868437227405312):(zbh (mS r) (eS r)).1≠0/\(zbh (mS r) (eS r)).1<144115188075855872:=by
 obtain ⟨w1,w2, -⟩:=ztw1 h1 h2
 obtain ⟨v1,v2⟩:=v_in h1 h2
 obtain ⟨u1,u2, -⟩:=zoq1 h1 h2
 obtain ⟨p0,p1⟩:=zls1 h1 h2
 obtain ⟨x1,x2, -⟩:=ziw1 (zfm1 h1 h2)
 have hl:=zik2 h1 h2
 have e:=zfj (a:=0) (b:= -pF r) (n:=17) (by omega)
 rw [show -pF r+((17:Nat):Int)=17-pF r by omega] at e
 rw [<-e,show (10:Nat)^17=100000000000000000 by decide] at u2
 have hs: -pF r<=(zbh (mS r) (eS r)).2:=by
  unfold zbh
  split
  ·show -pF r<= -(pF r-1);omega
  ·split
   ·exact Int.le_refl _
   ·exact Int.le_refl _
 have t:=Nat.mul_le_mul_left (zbh (mS r) (eS r)).1 (zcu1 (by omega) hs)
 have hv:valS r=(zbh (mS r) (eS r)).1*unitW 0 (zbh (mS r) (eS r)).2:=rfl
 have hT:=zbq 0 (-pF r)
 constructor
 ·intro hz
  rw [hz,Nat.zero_mul] at hv
  omega
 ·have hlt:(zbh (mS r) (eS r)).1*unitW 0 (-pF r)<144115188075855872*unitW 0 (-pF r):=by omega
  exact Nat.lt_of_mul_lt_mul_right hlt
end
def zlw1 (X low high:Nat):Prop:=1<=low/\low<=high/\high<=9218868437227405311/\∀b,0<b->b<9218868437227405312->inF b X=true->low<=b/\b<=high
theorem zug1 (X:Nat):zlw1 X 1 9218868437227405311:=⟨by decide,by decide,by decide,fun b h0 h1 _=>⟨h0,by omega⟩⟩
theorem zdw2 {X low high:Nat} (h:zlw1 X low high) (hl:low<high) (hs:sideF (low+(high-low) / 2) X<0):zlw1 X low (low+(high-low) / 2):=by
 obtain ⟨a1,a2,a3,a4⟩:=h
 refine ⟨a1,by omega,by omega,fun b h0 h1 hb=>⟨(a4 b h0 h1 hb).1,?_⟩⟩
 have:=zdt2 (by omega) hs hb
 omega
theorem zxw1 {X low high:Nat} (h:zlw1 X low high) (hl:low<high) (hs:0<sideF (low+(high-low) / 2) X):zlw1 X (low+(high-low) / 2+1) high:=by
 obtain ⟨a1,a2,a3,a4⟩:=h
 refine ⟨by omega,by omega,a3,fun b h0 h1 hb=>⟨?_,(a4 b h0 h1 hb).2⟩⟩
 have:=zdu2 h0 hs hb
 omega
theorem zql2 (r X:Nat):sideF r X= -1\/sideF r X=0\/sideF r X=1:=by
 unfold sideF
 omega
theorem zdx2 {X low high:Nat} (h:zlw1 X low high) (hl:¬low<high) (hs:sideF low X≠0) (b:Nat) (h0:0<b) (h1:b<9218868437227405312):inF b X=false:=by
 obtain ⟨a1,a2,a3,a4⟩:=h
 cases hb:inF b X
 ·rfl
 ·have:=a4 b h0 h1 hb
  obtain rfl:b=low:=by omega
  exact absurd (side_zero.2 hb) hs
theorem zun {ds:List Nat} {i z:Nat} (h:ds[i]? =some z):numV (ds.take (i+1))=10*numV (ds.take i)+(z-48):=by
 rw [List.take_add_one,h];exact zyh _ _
theorem zrk1 :∀(b:List Nat) (n:Nat),b.foldl (fun n z=>10*n+(z-48)) n=n*10^b.length+numV b
 | [],n=>by simp [numV]
 | z::b,n=>by
  have e1:=zrk1 b (10*n+(z-48))
  have e2:=zrk1 b (10*0+(z-48))
  have e3:numV (z::b)=b.foldl (fun n z=>10*n+(z-48)) (10*0+(z-48)):=rfl
  grind
theorem zgu1 (a b:List Nat):numV (a++b)=numV a*10^b.length+numV b:=by
 have:=zrk1 b (numV a)
 rw [<-this]
 unfold numV
 simp
abbrev Digs (ds:List Nat):Prop:=∀z∈ds,48<=z/\z<58
theorem zom2 {x y:List Nat} {i:Nat} (hx:Digs x) (hy:Digs y) (ix:i<=x.length) (iy:i<=y.length) (h:numV (x.take i)<numV (y.take i)):numV x*10^y.length<numV y*10^x.length:=by
 have ex:=zgu1 (x.take i) (x.drop i)
 have ey:=zgu1 (y.take i) (y.drop i)
 rw [List.take_append_drop,List.length_drop] at ex ey
 have bx:=zid1 (zs:=x.drop i) fun z hz=>hx z (List.mem_of_mem_drop hz)
 rw [List.length_drop] at bx
 obtain ⟨a,ea⟩:∃a,x.length=i+a:=⟨x.length-i,by omega⟩
 obtain ⟨b,eb⟩:∃b,y.length=i+b:=⟨y.length-i,by omega⟩
 rw [ea,show i+a-i=a by omega] at ex bx
 rw [eb,show i+b-i=b by omega] at ey
 rw [ea,eb,Nat.pow_add,Nat.pow_add]
 have h1:numV x<(numV (x.take i)+1)*10^a:=by rw [ex,Nat.add_mul];omega
 have h2:(numV (x.take i)+1)*10^b<=numV y:=by
  rw [ey]
  exact Nat.le_trans (Nat.mul_le_mul_right _ h) (Nat.le_add_right _ _)
 have pb:=Nat.pow_pos (n:=b) (show 0<10 by decide)
 have pa:=Nat.pow_pos (n:=a) (show 0<10 by decide)
 have pi:=Nat.pow_pos (n:=i) (show 0<10 by decide)
 have h3:=Nat.mul_lt_mul_of_pos_right h1 (Nat.mul_pos pi pb)
 have h4:=Nat.mul_le_mul_right (10^i*10^a) h2
 grind
theorem zxx1 {x:List Nat} {c:Nat} (h:x[0]? =some c) (hc:49<=c):10^(x.length-1)<=numV x/\(c-48)*10^(x.length-1)<=numV x:=by
 cases x with
 | nil=>simp at h
 | cons d x=>
  obtain rfl:d=c:=Option.some.inj h
  have e:=zgu1 [d] x
  rw [show [d]++x=d::x from rfl] at e
  rw [e,List.length_cons,Nat.add_sub_cancel]
  have:numV [d]=d-48:=by simp [numV]
  rw [this]
  have:=Nat.mul_le_mul_right (10^x.length) (show 1<=d-48 by omega)
  omega
def fiveL (k:Nat):List Nat:=if k=0 then [] else decL (5^k)
def newD (k:Nat):Nat:=if k=0 then 0 else lenN (2^k)
theorem zuh1 :∀(n u:Nat),u<10^n->numV (digL n u)=u
 | 0,u,h=>by simp at h;simp [digL,numV,h]
 | n+1,u,h=>by
  rw [digL,zyh,zuh1 n (u / 10) (by omega)]
  omega
theorem zgv1 (u:Nat):numV (decL u)=u:=zuh1 _ _ (zcw1 u).1
theorem zmg (u:Nat):(decL u).length=lenN u:=zni _ _
theorem zuo (u:Nat):Digs (decL u):=fun _ h=>zic1 _ _ _ h
theorem zbf2 :∀k,k<61->1<=k->lenN (5^k)+lenN (2^k)=k+1/\5^k%10=5:=by decide+kernel
theorem zqm2 :∀k,k<61->1<=k->2^k<10^lenN (2^k)/\10^(lenN (2^k)-1)<=2^k:=by decide+kernel
def LessL (lt:Bool) (x:List Nat) (k:Nat):Prop:=if lt then numV x*10^(fiveL k).length<5^k*10^x.length else 5^k*10^x.length<=numV x*10^(fiveL k).length
theorem zxy1 {x:List Nat} {k c D:Nat} {lt:Bool} (hx:Digs x) (h0:x[0]? =some c) (hc:49<=c) (k1:1<=k) (k2:k<61) (hl:LessL lt x k) (hD:D=if lt then newD k-1 else newD k):
  numV x*2^k / 10^x.length<10^D/\(1<=D->10^(D-1)<=numV x*2^k / 10^x.length)/\(D=0->(c-48)*2^k<10):=by
 obtain ⟨e5, -⟩:=zbf2 k k2 k1
 obtain ⟨u2,l2⟩:=zqm2 k k2 k1
 have hn:=zid1 hx
 obtain ⟨n1,n2⟩:=zxx1 h0 hc
 have hxl:1<=x.length:=by grind
 unfold LessL fiveL at hl
 unfold newD at hD
 rw [if_neg (show ¬k=0 by omega)] at hl hD
 rw [zmg] at hl
 have hp:=zkx (2^k)
 have pn:=Nat.pow_pos (n:=x.length) (show 0<10 by decide)
 obtain ⟨d,hd⟩:∃d,lenN (2^k)=d+1:=⟨lenN (2^k)-1,by omega⟩
 have ek:k=lenN (5^k)+d:=by omega
 rw [hd] at u2 l2 hD
 rw [Nat.add_sub_cancel] at l2
 have e10:(10:Nat)^k=10^lenN (5^k)*10^d:=by
  grind
 have e52:(5:Nat)^k*2^k=10^k:=by rw [<-Nat.mul_pow]
 have pl:=Nat.pow_pos (n:=lenN (5^k)) (show 0<10 by decide)
 have p2:=Nat.two_pow_pos k
 have pd:=Nat.pow_pos (n:=d) (show 0<10 by decide)
 cases lt with
 | true=>
  rw [if_pos rfl] at hl hD
  rw [Nat.add_sub_cancel] at hD
  subst hD
  have h1:numV x*2^k<10^D*10^x.length:=by
   have:=Nat.mul_lt_mul_of_pos_right hl p2
   rw [show 5^k*10^x.length*2^k=(5^k*2^k)*10^x.length by ac_rfl,e52,e10] at this
   refine Nat.lt_of_mul_lt_mul_left (a:=10^lenN (5^k)) ?_
   grind
  refine ⟨(Nat.div_lt_iff_lt_mul pn).2 h1,fun hD=> ?_,fun hD=> ?_⟩
  ·rw [Nat.le_div_iff_mul_le pn,<-Nat.pow_add]
   have:=Nat.mul_le_mul n1 l2
   rw [<-Nat.pow_add,show x.length-1+D=D-1+x.length by omega] at this
   exact this
  ·rw [hD,Nat.pow_zero,Nat.one_mul] at h1
   have:=Nat.mul_le_mul_right (2^k) n2
   obtain ⟨n,hn⟩:∃n,x.length=n+1:=⟨x.length-1,by omega⟩
   rw [hn,Nat.add_sub_cancel] at this
   rw [hn,Nat.pow_succ] at h1
   refine Nat.lt_of_mul_lt_mul_left (a:=10^n) ?_
   grind
 | false=>
  rw [if_neg (by decide)] at hl hD
  subst hD
  refine ⟨?_,fun _=> ?_,fun hD=>by omega⟩
  ·rw [Nat.div_lt_iff_lt_mul pn,Nat.mul_comm]
   exact Nat.mul_lt_mul_of_lt_of_le u2 (Nat.le_of_lt hn) pn
  ·rw [Nat.add_sub_cancel,Nat.le_div_iff_mul_le pn]
   have:=Nat.mul_le_mul_right (2^k) hl
   rw [show 5^k*10^x.length*2^k=(5^k*2^k)*10^x.length by ac_rfl,e52,e10] at this
   refine Nat.le_of_mul_le_mul_left (c:=10^lenN (5^k)) ?_ pl
   grind
def twosN :Nat->Nat->Nat
 | 0,_=>0
 | f+1,n=>if n%2=0 then twosN f (n / 2)+1 else 0
theorem zui1 :∀f n,2^twosN f n ∣ n
 | 0,n=>by simp [twosN]
 | f+1,n=>by
  rw [twosN]
  split
  ·rename_i h
   obtain ⟨c,hc⟩:=zui1 f (n / 2)
   exact ⟨c,by rw [Nat.pow_succ,Nat.mul_right_comm,<-hc];omega⟩
  ·simp
theorem zbg2 :∀f n j,j<=f->2^j ∣ n->j<=twosN f n
 | 0,_,j,h,_=>by omega
 | f+1,n,0,_,_=>Nat.zero_le _
 | f+1,n,j+1,h,⟨c,hc⟩=>by
  rw [Nat.pow_succ,Nat.mul_right_comm] at hc
  rw [twosN,if_pos (by omega)]
  have:=zbg2 f (n / 2) j (by omega) ⟨c,by omega⟩
  omega
def restN (n:Nat):Nat:=if n=0 then 0 else 100-twosN 64 n
theorem zil2 {n k:Nat} (hk:k<=60) (hn:0<n):restN (n%2^k*10)<restN n:=by
 have t64:∀f n,twosN f n<=f:=fun f=>by
  induction f with
  | zero=>intro n;exact Nat.le_refl _
  | succ f ih=>intro n;rw [twosN];grind
 have h64:=t64 64 n
 unfold restN
 rw [if_neg (by omega:¬n=0)]
 split
 ·omega
 ·rename_i h
  have hne:n%2^k≠0:=fun e=>h (by rw [e])
  have hd:=zui1 64 n
  have hlt:twosN 64 n<k:=Nat.lt_of_not_le fun hge=>hne (Nat.mod_eq_zero_of_dvd (Nat.dvd_trans (Nat.pow_dvd_pow 2 hge) hd))
  have h1:2^twosN 64 n ∣ n%2^k:=(Nat.dvd_mod_iff (Nat.pow_dvd_pow 2 (Nat.le_of_lt hlt))).2 hd
  have h2:2^(twosN 64 n+1) ∣ n%2^k*10:=by
   rw [Nat.pow_succ]
   exact Nat.mul_dvd_mul h1 (by decide)
  have:=zbg2 64 _ _ (by omega) h2
  omega
theorem zim2 {n d T k N r:Nat} (h:(10*T+d)*2^k+n=N / 10^r):T*2^k+(n+d*2^k) / 10=N / 10^(r+1):=by
 rw [Nat.pow_succ,<-Nat.div_div_eq_div_mul,<-h,Nat.add_mul,Nat.mul_assoc]
 omega
end Lf
namespace Lf
open Go Go.Proofs Tryz
theorem zor1 {x y z:Nat} (hz:0<z):cmpN (x*z) (y*z)=cmpN x y:=by
 unfold cmpN
 simp only [Nat.mul_lt_mul_right hz]
theorem cmpN_neg {x y:Nat}:cmpN x y<0↔x<y:=by
 unfold cmpN
 omega
theorem cmpN_pos {x y:Nat}:0<cmpN x y↔y<x:=by
 unfold cmpN
 omega
theorem zcx1 {x y:Nat}:cmpN x y=0↔x=y:=by
 unfold cmpN
 omega
section
variable {h:Hp}
theorem zxz1 {a:Sl} {x m:Nat} {Q:Sl->Hp->Prop} (ha:Nt h a x) (la:a.len<99999) (hm:m<4294967296) (hk:∀r h',h<=h'->Nt h' r (x*m)->r.len<=a.len+1->Q r h'):zgs prog a (m:Int) Q h:=by
 have hx:=ha.lt
 obtain ⟨ds,ra,_,ga,va,_⟩:=ha
 refine zan2 ra ga (by rw [<-ra.1];omega) (by omega) (by omega) fun r h' hl n=> ?_
 rw [va,<-Int.natCast_mul,Int.toNat_natCast] at n
 refine hk r h' hl n (n.len ?_)
 rw [show 32*(a.len+1)=32*a.len+32 by omega,Nat.pow_add]
 exact Nat.mul_lt_mul_of_lt_of_le hx (by omega) (by omega)
theorem zrl1 {a:Sl} {x n:Nat} {Q:Sl->Hp->Prop} (ha:Nt h a x) (la:a.len+n<50000) (hk:∀r h',h<=h'->Nt h' r (x*10^n)->r.len<=a.len+n->Q r h'):zlq prog a (n:Int) Q h:=by
 unfold zlq
 refine LoopW2.intro (fun a1 n1 h1=>h<=h1/\∃j:Nat,j<=n/\n1=((n-j:Nat):Int)/\Nt h1 a1 (x*10^j)/\a1.len<=a.len+j) (fun _ n1 _=>n1.toNat) ⟨Hp.le_refl h,0,by omega,rfl,by simpa using ha,by omega⟩ ?_
 rintro a1 n1 h1 ⟨hl1,j,hj,rfl,nt1,len1⟩
 by_cases h9:9<=n-j
 ·refine iteT (decide_eq_true (by omega)) ?_
  refine zek (zxz1 (m:=1000000000) nt1 (by omega) (by decide) fun r h2 hl2 n2 len2=> ?_)
  rw [zab (by omega) (by omega)]
  refine ⟨⟨Hp.le_trans hl1 hl2,j+9,by omega,by omega,?_,by omega⟩,by omega⟩
  grind
 ·refine iteF (fun hh=>h9 (by grind)) ?_
  refine LoopW2.intro (fun a1 n1 h1=>h<=h1/\∃j:Nat,j<=n/\n1=((n-j:Nat):Int)/\Nt h1 a1 (x*10^j)/\a1.len<=a.len+j) (fun _ n1 _=>n1.toNat) ⟨hl1,j,hj,rfl,nt1,len1⟩ ?_
  clear nt1 len1 hl1 h9 hj
  rintro a1 n1 h1 ⟨hl1,j,hj,rfl,nt1,len1⟩
  by_cases h0:0<n-j
  ·refine iteT (decide_eq_true (by omega)) ?_
   refine zek (zxz1 (m:=10) nt1 (by omega) (by decide) fun r h2 hl2 n2 len2=> ?_)
   rw [zab (by omega) (by omega)]
   refine ⟨⟨Hp.le_trans hl1 hl2,j+1,by omega,by omega,?_,by omega⟩,by omega⟩
   grind
  ·refine iteF (fun hh=>h0 (by grind)) ?_
   have:j=n:=by omega
   subst this
   exact hk a1 h1 hl1 nt1 len1
theorem zgw1 {a:Sl} {x n:Nat} {Q:Sl->Hp->Prop} (ha:Nt h a x) (la:a.len+n<49000) (hk:∀r h',h<=h'->Nt h' r (x*2^n)->r.len<=a.len+n+1->Q r h'):zgr prog a (n:Int) Q h:=by
 refine zlr2 ha (by omega) (by omega) fun r h' hl n'=>hk r h' hl n' (n'.len ?_)
 have hx:=ha.lt
 rw [show 32*(a.len+n+1)=32*a.len+n+(31*n+32) by omega,Nat.pow_add,Nat.pow_add]
 have h1:=Nat.mul_lt_mul_of_pos_right hx (Nat.two_pow_pos n)
 have h2:=Nat.mul_le_mul_left (2^(32*a.len)*2^n) (show 1<=2^(31*n+32) from Nat.one_le_two_pow)
 omega
theorem of_nt {x:Nat} {Q:Sl->Hp->Prop} (x1:x<18446744073709551616) (hk:∀r h',h<=h'->Nt h' r x->r.len<=2->Q r h'):zjs prog (x:Int) Q h:=
 of_ok (by omega) (by omega) fun r h' hl n=>by
  rw [Int.toNat_natCast] at n
  exact hk r h' hl n (n.len (show x<2^64 by omega))
theorem zif1 {c l:Nat} {s k:Int} {Q:Int->Hp->Prop} (hc:c<18446744073709551616) (hl:l<18446744073709551616) (s0: -3000<=s) (s1:s<=3000) (k0: -3000<=k) (k1:k<=3000)
  (hk:∀h',h<=h'->Q (cmpN (c*unitW 0 s) (l*unitW k 0)) h'):zir prog (c:Int) s (l:Int) k Q h:=by
 unfold zir
 refine zgv (of_nt hc fun a h1 l1 na la=> ?_)
 refine zgv (of_nt hl fun b h2 l2 nb lb=> ?_)
 refine JoinW2.intro (fun a b h3=>h<=h3/\Nt h3 a (c*10^s.toNat)/\Nt h3 b (l*10^(-s).toNat)/\a.len<=3002/\b.len<=3002) ?_ ?_
 ·by_cases hs:0<=s
  ·refine iteT (decide_eq_true hs) ?_
   have e:s=((s.toNat:Nat):Int):=by omega
   rw [e]
   refine zfa (zrl1 (na.mono l2) (by omega) fun r h3 l3 n3 len3=>⟨Hp.le_trans l1 (Hp.le_trans l2 l3),?_,?_,by omega,by omega⟩)
   ·grind
   ·rw [<-e,show (-s).toNat=0 by omega,Nat.pow_zero,Nat.mul_one];exact nb.mono l3
  ·refine iteF (fun hh=>hs (of_decide_eq_true hh)) ?_
   have e:(-s)=(((-s).toNat:Nat):Int):=by omega
   rw [zab (by omega) (by omega),show (0:Int)-s= -s by omega,e]
   refine zfa (zrl1 nb (by omega) fun r h3 l3 n3 len3=>⟨Hp.le_trans l1 (Hp.le_trans l2 l3),?_,n3,by omega,by omega⟩)
   rw [show s.toNat=0 by omega,Nat.pow_zero,Nat.mul_one];exact na.mono (Hp.le_trans l2 l3)
 rintro a b h3 ⟨l3,na,nb,la,lb⟩
 refine JoinW2.intro (fun a b h4=>h<=h4/\Nt h4 a (c*10^s.toNat*2^(-k).toNat)/\Nt h4 b (l*10^(-s).toNat*2^k.toNat)/\a.len<=6003/\b.len<=6003) ?_ ?_
 ·by_cases hk':0<=k
  ·refine iteT (decide_eq_true hk') ?_
   have e:k=((k.toNat:Nat):Int):=by omega
   rw [e]
   refine zcs (zgw1 nb (by omega) fun r h4 l4 n4 len4=>⟨Hp.le_trans l3 l4,?_,?_,(show a.len<=6003 by omega),(show r.len<=6003 by omega)⟩)
   ·rw [<-e,show (-k).toNat=0 by omega,Nat.pow_zero,Nat.mul_one];exact na.mono l4
   grind
  ·refine iteF (fun hh=>hk' (of_decide_eq_true hh)) ?_
   have e:(-k)=(((-k).toNat:Nat):Int):=by omega
   rw [zab (by omega) (by omega),show (0:Int)-k= -k by omega,e]
   refine zcs (zgw1 na (by omega) fun r h4 l4 n4 len4=>⟨Hp.le_trans l3 l4,n4,?_,(show r.len<=6003 by omega),(show b.len<=6003 by omega)⟩)
   rw [show k.toNat=0 by omega,Nat.pow_zero,Nat.mul_one];exact nb.mono l4
 rintro a b h4 ⟨l4,na,nb,la,lb⟩
 refine zgl (zhz1 na nb (by omega) (by omega) ?_)
 obtain ⟨Z,z0,e1,e2⟩:=ztu s k s0 k0
 have:=hk h4 l4
 rw [<-e1,<-e2,show c*(10^s.toNat*2^(-k).toNat*Z)=c*10^s.toNat*2^(-k).toNat*Z by ac_rfl,show l*(2^k.toNat*10^(-s).toNat*Z)=l*10^(-s).toNat*2^k.toNat*Z by ac_rfl,zor1 z0] at this
 exact this
theorem zrm1 {b c:Nat} {s:Int} {Q:Int->Hp->Prop} (hb0:0<b) (hb:b<9218868437227405312) (hc:c<18446744073709551616) (s0: -3000<=s) (s1:s<=3000) (hk:∀h',h<=h'->Q (sideF b (c*unitW 0 s)) h'):zlm prog (b:Int) (c:Int) s Q h:=by
 unfold zlm
 refine zhu (zqz1 (by omega) ?_)
 have hM:zac b<9007199254740992:=by unfold zac;split<;>omega
 have hM0:0<zac b:=by unfold zac;split<;>omega
 have hE: -1074<=zad b/\zad b<=971:=by unfold zad;split<;>omega
 refine JoinW1.intro (fun low h2=>h2=h/\low=((lowF b:Nat):Int)) ⟨fun _=>by decide,letW ?_⟩ ?_
 ·have e1:shrI .u64 (b:Int) (52:Int)=((b / 4503599627370496:Nat):Int):=shrU (b:Int) 52 (by decide)
  rw [e1,zah,zah,zah]
  unfold lowF
  grind
 rintro _ h2 ⟨rfl,rfl⟩
 have lw:lowF b<18446744073709551616:=by unfold lowF;split<;>omega
 rw [zab (n:=zad b-2) (by omega) (by omega)]
 have hodd:∀ {x:Int},((x==0)&& !((Int.tmod ((zac b:Nat):Int) 2)==0))=true↔x=0/\b%2=1:=fun {x}=>by
  rw [show (2:Int)=((2:Nat):Int) from rfl,tmodN,Bool.and_eq_true]
  have:zac b%2=b%2:=by unfold zac;split<;>omega
  grind
 have e4:IntKind.wrap .u64 ((IntKind.wrap .u64 ((4:Int)*((zac b:Nat):Int)))+2)=((4*zac b+2:Nat):Int):=by rw [zah,zah];omega
 rw [e4]
 have hlo:lowF b*unitW (zad b-2) 0=loF b:=rfl
 have hhi:(4*zac b+2)*unitW (zad b-2) 0=hiF b:=rfl
 refine ⟨by decide,zgj (zif1 hc lw s0 s1 (by omega) (by omega) fun h3 l3=>letW (letW ?_))⟩
 rw [hlo]
 by_cases hc1:c*unitW 0 s<loF b\/(c*unitW 0 s=loF b/\b%2=1)
 ·refine iteT ?_ ?_
  ·rw [Bool.or_eq_true,hodd,decide_eq_true_eq,cmpN_neg,zcx1]
   exact hc1
  ·have:=hk h3 l3
   unfold sideF at this
   rw [if_pos hc1] at this
   exact this
 ·refine iteF ?_ (zgj (zif1 hc (by omega) s0 s1 (by omega) (by omega) fun h4 l4=>letW (letW ?_)))
  ·rw [Bool.or_eq_true,hodd,decide_eq_true_eq,cmpN_neg,zcx1]
   exact hc1
  rw [hhi]
  have:=hk h4 (Hp.le_trans l3 l4)
  unfold sideF at this
  rw [if_neg hc1] at this
  by_cases d:hiF b<c*unitW 0 s\/(c*unitW 0 s=hiF b/\b%2=1)
  ·refine iteT ?_ ?_
   ·rw [Bool.or_eq_true,hodd,decide_eq_true_eq,gt_iff_lt,cmpN_pos,zcx1]
    exact d
   ·rw [if_pos (d.imp id fun e=>⟨e.1,e.2⟩)] at this
    exact this
  ·refine iteF ?_ ?_
   ·rw [Bool.or_eq_true,hodd,decide_eq_true_eq,gt_iff_lt,cmpN_pos,zcx1]
    exact d
   ·rw [if_neg (fun e=>d (e.imp id fun e=>⟨e.1,e.2⟩))] at this
    exact this
end
theorem effF {α:Type} {b:Bool} {A:(α->Hp->Prop)->Hp->Prop} {K:α->Hp->Prop} {h:Hp} (hb:b=false) (x:α) (hk:K x h):EffC (some b) A K h:=⟨fun e=>(by grind),fun _=>⟨x,hk⟩⟩
def manL (c:Nat) (ds:List Nat):List Nat:=c::(if ds=[] then [] else 46::ds)
def fltL (neg:Bool) (c:Nat) (ds:List Nat) (eneg:Bool) (xs:List Nat):List Nat:=(if neg then [45] else [])++(manL c ds++101::((if eneg then [45] else [])++xs))
def sgnN (b:Bool):Nat:=if b then 1 else 0
theorem zup (b:Bool):(if b then [45] else []:List Nat).length=sgnN b:=by cases b<;>rfl
theorem zgx1 (c:Nat) (ds:List Nat):(manL c ds).length=if ds=[] then 1 else ds.length+2:=by
 unfold manL
 split<;>simp
section
variable {neg eneg:Bool} {c:Nat} {ds xs:List Nat}
theorem zgy1 :(fltL neg c ds eneg xs).length=sgnN neg+(manL c ds).length+1+sgnN eneg+xs.length:=by
 unfold fltL
 rw [List.length_append,List.length_append,List.length_cons,List.length_append,zup,zup]
 omega
theorem zbh2 {j:Nat} (hj:j<(manL c ds).length):(fltL neg c ds eneg xs)[sgnN neg+j]? =(manL c ds)[j]?:=by
 unfold fltL
 rw [List.getElem?_append_right (by rw [zup];omega),zup,show sgnN neg+j-sgnN neg=j by omega,List.getElem?_append_left hj]
theorem zon2 :(fltL neg c ds eneg xs)[sgnN neg+(manL c ds).length]? =some 101:=by
 unfold fltL
 rw [List.getElem?_append_right (by rw [zup];omega),zup,show sgnN neg+(manL c ds).length-sgnN neg=(manL c ds).length by omega,List.getElem?_append_right (Nat.le_refl _),Nat.sub_self]
 rfl
theorem zoo2 {j:Nat} (hj:j<xs.length):(fltL neg c ds eneg xs)[sgnN neg+(manL c ds).length+1+sgnN eneg+j]? =xs[j]?:=by
 unfold fltL
 rw [List.getElem?_append_right (by rw [zup];omega),zup,List.getElem?_append_right (by omega),show sgnN neg+(manL c ds).length+1+sgnN eneg+j-sgnN neg-(manL c ds).length=sgnN eneg+j+1 by omega,List.getElem?_cons_succ,
  List.getElem?_append_right (by rw [zup];omega),zup,show sgnN eneg+j-sgnN eneg=j by omega]
def dgN (j:Nat):Nat:=if j<=1 then j else j-1
theorem ziy1 {zs:List Nat} (hz:∀z∈zs,48<=z/\z<58) (hl:zs.length<=18) (k:Nat):numV (zs.take k)<1000000000000000000:=by
 have h1:=zid1 (zs:=zs.take k) fun z hz'=>hz z (List.mem_of_mem_take hz')
 have h2:10^(zs.take k).length<=10^18:=Nat.pow_le_pow_right (by decide) (by rw [List.length_take];omega)
 omega
theorem zin2 {j:Nat} (hj:j<(manL c ds).length):(j=1/\ds≠ []/\(manL c ds)[j]? =some 46)\/(j≠1/\∃z,(manL c ds)[j]? =some z/\(c::ds)[dgN j]? =some z):=by
 rw [zgx1] at hj
 unfold manL dgN
 grind
variable {h:Hp}
theorem zvp {x:Int} {Q:Int->Hp->Prop} (hq:Q (bitsI .or .u8 x 32) h):ziq prog x Q h:=by
 unfold ziq
 exact hq
theorem zuj1 {Q:Int->Int->Bool->Bool->Bool->Int->Bool->Hp->Prop} (hc:49<=c/\c<58) (hds:∀d∈ds,48<=d/\d<58) (hl:ds.length<=17) (hxs:∀x∈xs,48<=x/\x<58) (x1:1<=xs.length) (x2:xs.length<=4)
  (hq:Q (numV (c::ds):Int) ((if eneg then -(numV xs:Int) else numV xs)-(ds.length:Int)) neg false false ((fltL neg c ds eneg xs).length:Int) true h):zax prog (strN (fltL neg c ds eneg xs)) Q h:=by
 have hcd:∀z∈c::ds,48<=z/\z<58:=fun z hz=>by
  grind
 have hcl:(c::ds).length<=18:=by grind
 have hm:=zgx1 c ds
 have hm2:1<=(manL c ds).length/\(manL c ds).length<=19:=by grind
 have hL:=zgy1 (neg:=neg) (c:=c) (ds:=ds) (eneg:=eneg) (xs:=xs)
 have hs0:sgnN neg<=1:=by unfold sgnN;split<;>omega
 have hs1:sgnN eneg<=1:=by unfold sgnN;split<;>omega
 have gM:= @zbh2 neg eneg c ds xs
 have gE:= @zon2 neg eneg c ds xs
 have gX:= @zoo2 neg eneg c ds xs
 have g0:(fltL neg c ds eneg xs)[0]? =some (if neg then 45 else c):=by
  unfold fltL manL
  cases neg<;>rfl
 have gS:(fltL neg c ds eneg xs)[sgnN neg+(manL c ds).length+1]? =if eneg then some 45 else xs[0]?:=by
  cases eneg with
  | false=>have:=gX (j:=0) (by omega);simpa [sgnN] using this
  | true=>
   unfold fltL
   rw [List.getElem?_append_right (by grind),zup,List.getElem?_append_right (by omega),show sgnN neg+(manL c ds).length+1-sgnN neg-(manL c ds).length=1 by omega]
   rfl
 generalize hT:fltL neg c ds eneg xs=T at*
 have chr:∀ {i x:Nat},T[i]? =some x->x<256->UInt8.toNat (List.getD (strN T).data.toList (Int.toNat ((i:Nat):Int)) 0)=x:=fun {i x} e hx=>by rw [Int.toNat_natCast];exact zju e hx
 unfold zax
 rw [zal]
 refine iteF (fun hh=>by grind) ⟨⟨by decide,by omega⟩,?_⟩
 have c0:=zju g0 (by split<;>omega)
 rw [c0]
 refine JoinW2.intro (fun n i k=>k=h/\neg=n/\i=((sgnN neg:Nat):Int)) ?_ ?_
 ·cases neg with
  | true=>exact iteF (by simp) (iteT (by simp) ⟨rfl,rfl,rfl⟩)
  | false=>exact iteF (fun hh=>by grind) (iteF (fun hh=>by grind) ⟨rfl,rfl,rfl⟩)
 rintro _ _ h ⟨rfl,rfl,rfl⟩
 have cM0:T[sgnN neg]? =some c:=by have:=gM (j:=0) (by omega);rw [Nat.add_zero] at this;rw [this];rfl
 refine JoinW5.intro (fun hx i b m e k=>k=h/\hx=false/\i=((sgnN neg:Nat):Int)/\b=10/\m=19/\e=101) ?_ ?_
 ·rw [chr cM0 (by omega)]
  refine ⟨fun _=>⟨by omega,by omega⟩,letW ?_⟩
  have hy:((decide (IntKind.wrap .i64 (((sgnN neg:Nat):Int)+2)<(T.length:Int)))&&(((c:Nat):Int)==48))=false:=by
   grind
  rw [hy]
  refine ⟨fun e=>(by cases e),effF rfl (0:Int) (letW (iteF (by decide) ⟨rfl,rfl,rfl,rfl,rfl,rfl⟩))⟩
 rintro _ _ _ _ _ h ⟨rfl,rfl,rfl,rfl,rfl,rfl⟩
 refine JoinW9.intro (fun m tr i us sd sg nd ndm dp k=>k=h/\m=(numV (c::ds):Int)/\tr=false/\i=((sgnN neg+(manL c ds).length:Nat):Int)/\us=false/\sd=decide (ds≠ [])/\sg=true/\nd=((ds.length+1:Nat):Int)/\ndm=((ds.length+1:Nat):Int)/\dp=if ds=[] then 0 else 1) ?_ ?_
 ·refine LoopW9.intro (fun m tr i us sd sg nd ndm dp k=>k=h/\∃j:Nat,j<=(manL c ds).length/\m=(numV ((c::ds).take (dgN j)):Int)/\tr=false/\i=((sgnN neg+j:Nat):Int)/\us=false/\sd=decide (2<=j)/\sg=decide (1<=j)/\nd=((dgN j:Nat):Int)/\ndm=((dgN j:Nat):Int)/\dp=if 2<=j then 1 else 0)
   (fun _ _ i _ _ _ _ _ _ _=>(T.length-i).toNat) ⟨rfl,0,by omega,by simp [dgN,numV],rfl,by simp,rfl,by decide,by decide,rfl,rfl,rfl⟩ ?_
  rintro _ _ _ _ _ _ _ _ _ h ⟨rfl,j,hj,rfl,rfl,rfl,rfl,rfl,rfl,rfl,rfl,rfl⟩
  have nw:∀ {n:Nat},n<1000->IntKind.wrap .i64 ((n:Int)+1)=((n+1:Nat):Int):=fun {n} hn=>by rw [zab (by omega) (by omega)];omega
  refine iteT (decide_eq_true (by omega)) ?_
  by_cases hjm:j<(manL c ds).length
  ·have gj:=gM hjm
   rcases zin2 hjm with ⟨rfl,hd,ha⟩ | ⟨hj1,z,ha,hz⟩
   · -- the point
    rw [ha] at gj
    rw [chr gj (by decide)]
    have hd1:2<=(manL c ds).length:=by omega
    refine JoinW8.direct ⟨⟨by omega,by omega⟩,iteF (by decide) (iteT (by decide) (iteF (by decide) ⟨⟨rfl,2,hd1,rfl,rfl,?_,rfl,rfl,rfl,rfl,rfl,rfl⟩,?_⟩))⟩
    ·grind
    ·rw [nw (by omega)];omega
   · -- a digit
    rw [ha] at gj
    have hz2:=hcd z (List.mem_of_getElem? hz)
    rw [chr gj (by omega)]
    have hdg:dgN j<(c::ds).length:=(List.getElem?_eq_some_iff.1 hz).1
    have hdg1:dgN (j+1)=dgN j+1:=by unfold dgN;split<;>split<;>omega
    have hsn:numV ((c::ds).take (dgN (j+1)))=10*numV ((c::ds).take (dgN j))+(z-48):=by rw [hdg1,List.take_add_one,hz];exact zyh _ _
    have hb1:=ziy1 hcd hcl (dgN j)
    have hz0:j=0->z=c:=fun e=>by grind
    refine JoinW8.direct ⟨⟨by omega,by omega⟩,iteF (fun hh=>by grind) (iteF (fun hh=>by grind) (letW (iteT ?_ (letW (iteF (fun hh=> ?_) (iteT (decide_eq_true (by omega)) ?_))))))⟩
    ·grind
    ·rw [Bool.and_eq_true] at hh
     have e1:((z:Nat):Int)=48:=beq_iff_eq.1 hh.1
     have e2:((dgN j:Nat):Int)=0:=beq_iff_eq.1 hh.2
     have:j=0:=by unfold dgN at e2;split at e2<;>omega
     omega
    ·have ew:IntKind.wrap .u64 ((IntKind.wrap .u64 ((numV ((c::ds).take (dgN j)):Int)*10))+(IntKind.wrap .u64 (IntKind.wrap .u8 (((z:Nat):Int)-48))))=(numV ((c::ds).take (dgN (j+1))):Int):=by
      rw [hsn,byte8,zah,zah,zah]
      omega
     rw [ew,nw (n:=dgN j) (by omega),nw (n:=sgnN neg+j) (by omega)]
     refine ⟨⟨rfl,j+1,by omega,rfl,rfl,by omega,rfl,?_,?_,by rw [hdg1],by rw [hdg1],?_⟩,by omega⟩
     ·exact decide_eq_decide.2 (by omega)
     ·rw [decide_eq_true (by omega)]
     omega
  · -- behind them
   have hje:j=(manL c ds).length:=by omega
   rw [<-hje] at gE
   rw [chr gE (by decide)]
   refine JoinW8.direct ⟨⟨by omega,by omega⟩,iteF (by decide) (iteF (by decide) (letW (iteF (by decide) (effF (by decide) (0:Int) (letW (effF (by decide) (0:Int) (letW (iteF (by decide) ?_))))))))⟩
   have hdj:dgN j=ds.length+1:=by
    rw [hje,hm]
    unfold dgN
    by_cases hd:ds=[]
    ·rw [if_pos hd,hd];rfl
    grind
   have hall:(c::ds).take (dgN j)=c::ds:=List.take_of_length_le (by grind)
   refine ⟨rfl,by rw [hall],rfl,by rw [hje],rfl,?_,by grind,by rw [hdj],by rw [hdj],?_⟩
   ·by_cases hd:ds=[]
    ·rw [hje,hm,if_pos hd,decide_eq_false (by omega),decide_eq_false (fun h=>h hd)]
    grind
   ·rw [hje,hm]
    by_cases hd:ds=[]
    ·rw [if_pos hd,if_pos hd,if_neg (by omega)]
    grind
 rintro _ _ _ _ _ _ _ _ _ h ⟨rfl,rfl,rfl,rfl,rfl,rfl,rfl,rfl,rfl,rfl⟩
 refine iteF (by decide) ?_
 refine JoinW1.intro (fun dp k=>k=h/\dp=1) ?_ ?_
 ·by_cases hd:ds=[]
  ·subst hd
   exact iteT (by decide) ⟨rfl,rfl⟩
  grind
 rintro _ h ⟨rfl,rfl⟩
 refine JoinW2.direct (iteF (by decide) ?_)
 have hxb:∀k,numV (xs.take k)<10000:=fun k=>by
  have h1:=zid1 (zs:=xs.take k) fun z hz'=>hxs z (List.mem_of_mem_take hz')
  have h2:10^(xs.take k).length<=10^4:=Nat.pow_le_pow_right (by decide) (by rw [List.length_take];omega)
  omega
 have hxb':numV xs<10000:=by have:=hxb xs.length;grind
 refine JoinW3.intro (fun i us dp k=>k=h/\i=(T.length:Int)/\us=false/\dp=1+if eneg then -(numV xs:Int) else numV xs) ?_ ?_
 ·rw [chr gE (by decide),decide_eq_true (show ((sgnN neg+(manL c ds).length:Nat):Int)<(T.length:Int) by omega)]
  refine ⟨fun _=>⟨by omega,by omega⟩,effT (zau (zvp (letW (iteT (by decide) ?_))))⟩
  have ei:IntKind.wrap .i64 (((sgnN neg+(manL c ds).length:Nat):Int)+1)=((sgnN neg+(manL c ds).length+1:Nat):Int):=by rw [zab (by omega) (by omega)];omega
  rw [ei]
  refine iteF (fun hh=>by grind) ⟨⟨by omega,by omega⟩,?_⟩
  obtain ⟨y,gy,hy⟩:∃y,xs[0]? =some y/\48<=y/\y<58:=⟨xs[0],List.getElem?_eq_getElem (by omega),hxs _ (List.getElem_mem _)⟩
  refine JoinW2.intro (fun i e k=>k=h/\i=((sgnN neg+(manL c ds).length+1+sgnN eneg:Nat):Int)/\e=if eneg then -1 else 1) ?_ ?_
  ·cases eneg with
   | true=>
    rw [chr (x:=45) gS (by decide)]
    refine iteF (by decide) (iteT (by decide) ⟨rfl,?_,rfl⟩)
    rw [zab (by omega) (by omega)]
    show _=((_+1:Nat):Int)
    omega
   | false=>
    rw [chr (x:=y) (by rw [gS];exact gy) (by omega)]
    exact iteF (fun hh=>by grind) (iteF (fun hh=>by grind) ⟨rfl,rfl,rfl⟩)
  rintro _ _ h ⟨rfl,rfl,rfl⟩
  have gx0:=gX (j:=0) (by omega)
  rw [Nat.add_zero,gy] at gx0
  rw [chr gx0 (by omega)]
  have n1:¬((sgnN neg+(manL c ds).length+1+sgnN eneg:Nat):Int)>=(T.length:Int):=by omega
  refine ⟨fun _=>⟨by omega,by omega⟩,letW ⟨fun _=>⟨by omega,by omega⟩,letW (iteF (fun hh=> ?_) ?_)⟩⟩
  ·grind
  refine LoopW3.intro (fun i us e k=>k=h/\∃j:Nat,j<=xs.length/\i=((sgnN neg+(manL c ds).length+1+sgnN eneg+j:Nat):Int)/\us=false/\e=(numV (xs.take j):Int)) (fun i _ _ _=>(T.length-i).toNat) ⟨rfl,0,by omega,rfl,rfl,by simp [numV]⟩ ?_
  rintro _ _ _ h ⟨rfl,j,hj,rfl,rfl,rfl⟩
  by_cases hlt:j<xs.length
  ·have gj:=gX hlt
   have gz:xs[j]? =some xs[j]:=List.getElem?_eq_getElem hlt
   obtain ⟨z0,z1⟩:=hxs _ (List.getElem_mem hlt)
   rw [gz] at gj
   have hsn:numV (xs.take (j+1))=10*numV (xs.take j)+(xs[j] - 48):=by rw [List.take_add_one,gz];exact zyh _ _
   have hb1:=hxb j
   have hb2:=hxb (j+1)
   rw [chr gj (by omega)]
   generalize xs[j]=z at*
   have e1:((decide ((48:Int)<=((z:Nat):Int)))&&(decide (((z:Nat):Int)<=(57:Int))))=true:=by grind
   have e2:decide (((sgnN neg+(manL c ds).length+1+sgnN eneg+j:Nat):Int)<(T.length:Int))=true:=decide_eq_true (by omega)
   refine ⟨fun _=>⟨by omega,by omega⟩,fun _=>⟨by omega,by omega⟩,letW ⟨fun _=>⟨by omega,by omega⟩,letW (letW (iteT (by rw [e1,e2];rfl) ?_))⟩⟩
   have e3:decide ((numV (xs.take j):Int)<(10000:Int))=true:=decide_eq_true (by omega)
   rw [e3]
   refine JoinW2.direct ⟨⟨by omega,by omega⟩,iteF (fun hh=>by grind) (iteT rfl ⟨⟨by omega,by omega⟩,?_⟩)⟩
   refine ⟨⟨rfl,j+1,hlt,?_,rfl,?_⟩,?_⟩
   ·rw [zab (by omega) (by omega)];omega
   ·rw [zab (n:=(numV (xs.take j):Int)*10) (by omega) (by omega),zab (n:=((z:Nat):Int)) (by omega) (by omega),zab (n:=(numV (xs.take j):Int)*10+(z:Int)) (by omega) (by omega),zab (by omega) (by omega),hsn]
    omega
   ·rw [zab (by omega) (by omega)];omega
  ·have hje:j=xs.length:=by omega
   have e2:decide (((sgnN neg+(manL c ds).length+1+sgnN eneg+j:Nat):Int)<(T.length:Int))=false:=decide_eq_false (by omega)
   rw [e2]
   refine ⟨fun e=>(by cases e),fun e=>(by cases e),letW ⟨fun e=>(by cases e),letW (letW (iteF (by simp) ⟨rfl,by omega,rfl,?_⟩))⟩⟩
   rw [hje,List.take_of_length_le (Nat.le_refl _)]
   have key:∀x:Int, -10000<=x->x<=10000->IntKind.wrap .i64 (1+IntKind.wrap .i64 x)=1+x:=fun x a b=>by rw [zab (n:=x) (by omega) (by omega),zab (by omega) (by omega)]
   cases eneg with
   | true=>
    grind
   | false=>
    grind
 rintro _ _ _ h ⟨rfl,rfl,rfl,rfl⟩
 have hpos:0<numV (c::ds):=by
  have:∀(zs:List Nat) (n:Nat),0<n->0<zs.foldl (fun n z=>10*n+(z-48)) n:=fun zs=>by
   induction zs with
   | nil=>simp
   | cons z zs ih=>intro n hn;exact ih (10*n+(z-48)) (by omega)
  exact this ds (10*0+(c-48)) (by omega)
 refine JoinW1.intro (fun e k=>k=h/\e=(if eneg then -(numV xs:Int) else numV xs)-(ds.length:Int)) (iteT (by grind) ⟨rfl,?_⟩) ?_
 ·have key:∀x:Int, -10000<=x->x<=10000->IntKind.wrap .i64 (1+x-((ds.length+1:Nat):Int))=x-(ds.length:Int):=fun x a b=>by rw [zab (by omega) (by omega)];omega
  exact key _ (by omega) (by omega)
 rintro _ h ⟨rfl,rfl⟩
 refine ⟨fun e=>(by cases e),effF rfl true (letW (iteF (by decide) hq))⟩
end
end Lf
namespace Lf
theorem zmh2 {n v:Nat} (h1:v<10^(n+1)) (h2:n=0/\1<=v\/10^n<=v):∃c ds,digL (n+1) v=c::ds/\49<=c/\c<58/\ds.length=n:=by
 have hl:=zni (n+1) v
 have ht:=zlr1 n 1 v
 rw [Nat.add_comm 1 n] at ht
 cases hq:digL (n+1) v with
 | nil=>grind
 | cons c ds=>
  rw [hq] at ht hl
  have e:c=48+v / 10^n%10:=by
   simp only [List.take_succ_cons,List.take_zero] at ht
   exact (List.cons.inj ht).1
  have p:=Nat.pow_pos (n:=n) (show 0<10 by decide)
  have h3:v / 10^n<10:=by rw [Nat.div_lt_iff_lt_mul p,Nat.mul_comm,<-Nat.pow_succ];exact h1
  have h4:1<=v / 10^n:=by
   rcases h2 with ⟨rfl,h2⟩ | h2
   ·rw [Nat.pow_zero,Nat.div_one];exact h2
   ·rw [Nat.le_div_iff_mul_le p,Nat.one_mul];exact h2
  grind
section
variable {r:Nat} {neg:Bool}
theorem pF_in (h1:0<r) (h2:r<9218868437227405312): -330<=pF r/\pF r<=330:=by
 obtain ⟨m0,m1,e0,e1, -⟩:=mS_in h1 h2
 unfold pF pP
 split
 ·unfold skewP;omega
 ·unfold zP zly;split<;>omega
theorem zlx1 (h1:0<r) (h2:r<9218868437227405312) {v:Nat} {s:Int} (hv:v%10≠0) (hs: -3000<=s) (he:v*unitW 0 s=valS r):v<144115188075855872/\ -pF r<=s:=by
 obtain ⟨f1,f2⟩:=zie1 h1 h2
 have hp:=pF_in h1 h2
 have hs2: -pF r<=(zbh (mS r) (eS r)).2/\(zbh (mS r) (eS r)).2<=400:=by
  unfold zbh
  split
  ·show -pF r<= -(pF r-1)/\ -(pF r-1)<=400;omega
  ·split
   ·show -pF r<= -pF r/\ -pF r<=400;omega
   ·show -pF r<= -pF r/\ -pF r<=400;omega
 have key:∀(k u:Nat) (t:Int),u≠0->u<=k-> -3000<=t->u*unitW 0 t=valS r->v<=u/\t<=s:=by
  intro k
  induction k with
  | zero=>omega
  | succ k ih=>
   intro u t h0 hk ht hu
   by_cases h:u%10=0
   ·have e:=zfj (a:=0) (b:=t) (n:=1) (by omega)
    have:=ih (u / 10) (t+1) (by omega) (by omega) (by omega) (by
     rw [<-hu,show t+1=t+((1:Nat):Int) from rfl,<-e,<-Nat.mul_assoc,show u / 10*10^1=u by omega])
    omega
   ·obtain ⟨rfl,rfl⟩:=zhv2 hs ht hv h (he.trans hu.symm)
    omega
 have:=key _ _ _ f1 (Nat.le_refl _) (by omega) (rfl:(zbh (mS r) (eS r)).1*unitW 0 (zbh (mS r) (eS r)).2=valS r)
 omega
theorem zrr (h1:0<r) (h2:r<9218868437227405312) {out:List Nat} (ht:TextF r neg out):
  ∃(c:Nat) (ds:List Nat) (eneg:Bool) (xs:List Nat) (v:Nat) (s:Int),out=fltL neg c ds eneg xs/\(49<=c/\c<58)/\Digs ds/\ds.length<=17/\Digs xs/\1<=xs.length/\xs.length<=3/\
   numV (c::ds)=v/\(if eneg then -(numV xs:Int) else numV xs)-(ds.length:Int)=s/\v%10≠0/\v<144115188075855872/\ -345<=s/\s<=310/\v*unitW 0 s=valS r:=by
 obtain ⟨v,s,hv,hs,he,rfl⟩:=ht
 obtain ⟨f1,f2⟩:=zlx1 h1 h2 hv hs he
 have hp:=pF_in h1 h2
 obtain ⟨l1,l2⟩:=zcw1 v
 have l0:=zkx v
 have l18:lenN v<=18:=by
  rcases l2 with l2 | l2
  ·omega
  ·refine Classical.byContradiction fun hn=> ?_
   have:=Nat.pow_le_pow_right (n:=10) (i:=18) (j:=lenN v-1) (by decide) (by omega)
   omega
 have s310:s<=310:=by
  obtain ⟨x1,x2, -⟩:=ziw1 (zfm1 h1 h2)
  obtain ⟨w1,w2, -⟩:=ztw1 h1 h2
  obtain ⟨v1,v2⟩:=v_in h1 h2
  have vb:=zia2 h1 h2
  obtain ⟨b1,b2,b3,b4,b5, -⟩:=zkd h1 h2
  have ht: -1074<=twoF r/\twoF r<=1023:=by unfold twoF;omega
  have hv2:vF r<unitW 0 310:=Nat.lt_of_lt_of_le vb (zcu1 (by grind) (by
   grind))
  have hv3:valS r<unitW 0 311:=by
   have e:=zfj (a:=0) (b:=310) (n:=1) (by omega)
   rw [show (310:Int)+((1:Nat):Int)=311 from rfl] at e
   have:hiF r<=2*vF r:=by
    unfold hiF vF
    rw [show 2*(4*zac r*kF r)=(8*zac r)*kF r by grind]
    have p0:0<zac r:=(zsk h1 h2).2.2.2.2.2.2
    exact Nat.mul_le_mul_right _ (by omega)
   omega
  have hl:unitW 0 s<unitW 0 311:=by
   have:1*unitW 0 s<=v*unitW 0 s:=Nat.mul_le_mul_right _ (by omega)
   omega
  have:=zlt1 (a:=s) (b:=311) (by omega) hl
  omega
 obtain ⟨n,hn⟩:∃n,lenN v=n+1:=⟨lenN v-1,by omega⟩
 obtain ⟨c,ds,e1,e2,e3,e4⟩:=zmh2 (n:=n) (v:=v) (by grind) (by
  grind)
 have hx:((lenN v:Int)+s-1).natAbs<1000:=by omega
 have xl:lenN ((lenN v:Int)+s-1).natAbs<=3:=by
  obtain ⟨-,y2⟩:=zcw1 ((lenN v:Int)+s-1).natAbs
  rcases y2 with y2 | y2
  ·omega
  ·refine Classical.byContradiction fun hn=> ?_
   have:=Nat.pow_le_pow_right (n:=10) (i:=3) (j:=lenN ((lenN v:Int)+s-1).natAbs-1) (by decide) (by omega)
   omega
 have hd:Digs (c::ds):=by rw [<-e1];exact zic1 _ _
 have ev:numV (c::ds)=v:=by rw [<-e1,<-hn];exact zgv1 v
 refine ⟨c,ds,decide ((lenN v:Int)+s-1<0),decL ((lenN v:Int)+s-1).natAbs,v,s,?_,⟨e2,e3⟩,fun z hz=>hd z (List.mem_cons_of_mem _ hz),by omega,zuo _,by rw [zmg];exact zkx _,by rw [zmg];exact xl,ev,?_,hv,f1,by omega,by omega,he⟩
 ·unfold numL fltL headL manL signL
  grind
 ·rw [zgv1,e4]
  grind
end
def hexD (d:Nat):Nat:=if d<10 then 48+d else 87+d
def hexL (b:Nat):List Nat:=(List.range 16).map fun i=>hexD (b / 16^(15-i)%16)
def zbr (b:Nat) (out:List Nat):Prop:=
 if 9218868437227405312<b%9223372036854775808 then out=[110,97,110,58]++hexL b
 else if b%9223372036854775808=9218868437227405312 then out=(if negD b then [45] else [])++ [105,110,102]
 else if b%9223372036854775808=0 then out=(if negD b then [45] else [])++ [48,101,48]
 else TextF (b%9223372036854775808) (negD b) out
theorem zig1 {b:Nat} {x y:List Nat} (hx:zbr b x) (hy:zbr b y):x=y:=by
 unfold zbr at hx hy
 split at hx
 ·grind
 ·rename_i h;rw [if_neg h] at hy
  split at hx
  ·grind
  ·rename_i h;rw [if_neg h] at hy
   split at hx
   ·grind
   ·rename_i h;rw [if_neg h] at hy
    exact zij2 hx hy
theorem zqy {b:Nat} {out:List Nat} (h:zbr b out):out.length<=25/\∀x∈out,x<128:=by
 have sg:∀ {n:Bool},((if n then [45] else []):List Nat).length<=1/\∀x∈((if n then [45] else []):List Nat),x<128:=fun {n}=>by cases n<;>simp
 unfold zbr at h
 split at h
 ·subst h
  refine ⟨by simp [hexL],fun x hx=> ?_⟩
  rw [List.mem_append] at hx
  rcases hx with hx | hx
  ·simp at hx;omega
  ·unfold hexL at hx
   rw [List.mem_map] at hx
   obtain ⟨i, -,rfl⟩:=hx
   unfold hexD
   split<;>omega
 ·split at h
  ·grind
  ·split at h
   ·grind
   ·rename_i h1 h2 h3
    obtain ⟨c,ds,eneg,xs,v,s,rfl,hc,hds,dl,hxs,x1,x3, -⟩:=zrr (by omega) (by omega) h
    have hm:=zgx1 c ds
    refine ⟨?_,fun x hx=> ?_⟩
    ·rw [zgy1,hm]
     have:∀b,sgnN b<=1:=fun b=>by cases b<;>decide
     grind
    ·unfold fltL manL at hx
     grind
end Lf
namespace Lf
open Go Go.Proofs Tryz
section
variable {h:Hp} {a b:Nat}
theorem zmi2 {X T:Nat} (hT:0<T):(T<=X%(2*T)->X / T=X / (2*T)*2+1/\X%T=X%(2*T)-T)/\(¬T<=X%(2*T)->X / T=X / (2*T)*2/\X%T=X%(2*T)):=by
 have h1:=Nat.div_add_mod X (2*T)
 have h2:=Nat.mod_lt X (show 0<2*T by omega)
 generalize X%(2*T)=r at*
 generalize X / (2*T)=q at*
 have e:2*T*q=T*(q*2):=by rw [Nat.mul_comm 2,Nat.mul_assoc,Nat.mul_comm 2]
 refine ⟨fun c=> ?_,fun c=> ?_⟩
 ·exact (Nat.div_mod_unique hT).2 ⟨by rw [Nat.mul_add,Nat.mul_one];omega,by omega⟩
 ·exact (Nat.div_mod_unique hT).2 ⟨by omega,by omega⟩
end
section
variable {h:Hp}
theorem zmj2 {b:Nat} {s:Int} {Q:Int->Int->Hp->Prop} (h1:0<b) (h2:b<9218868437227405312) (s0: -pF b<=s) (s1:s<=2900)
  (hk:∀h',h<=h'->Q ((vF b / unitW 0 s:Nat):Int) (cmpN (2*(vF b%unitW 0 s)) (unitW 0 s)) h'):zkn prog (b:Int) s Q h:=by
 have hM:zac b<9007199254740992:=by unfold zac;split<;>omega
 have hE: -1074<=zad b/\zad b<=971:=by unfold zad;split<;>omega
 have hp:=pF_in h1 h2
 have e3:vF b=zac b*unitW (zad b) 0:=by
  unfold vF kF
  rw [<-zjc 2 4 rfl (a:=zad b-2) (b:=zad b) (by omega) (by omega)]
  ac_rfl
 obtain ⟨-,u2, -⟩:=zoq1 h1 h2
 have hq:vF b / unitW 0 s<2^63:=by
  have e:=zfj (a:=0) (b:= -pF b) (n:=17) (by omega)
  rw [show -pF b+((17:Nat):Int)=17-pF b by omega] at e
  have m:=Nat.mul_le_mul_left (10^17) (zcu1 (a:= -pF b) (b:=s) (by omega) s0)
  rw [Nat.div_lt_iff_lt_mul (zbq _ _)]
  have m2:=Nat.mul_le_mul_right (unitW 0 s) (show 10^17<=2^63 by decide)
  omega
 obtain ⟨Z,z0,g1,g2⟩:=ztu s (zad b) (by omega) (by omega)
 unfold zkn
 refine zhu (zqz1 (by omega) ?_)
 refine zgv (of_nt (by omega) fun a k1 l1 na la=> ?_)
 refine zgv (of_nt (x:=1) (by decide) fun c k2 l2 nc lc=> ?_)
 refine JoinW2.intro (fun x y k3=>h<=k3/\Nt k3 x (zac b*2^(zad b).toNat)/\Nt k3 y (2^(-zad b).toNat)/\x.len<=3002/\y.len<=3002) ?_ ?_
 ·by_cases hk':0<=zad b
  ·refine iteT (decide_eq_true hk') ?_
   have e:zad b=(((zad b).toNat:Nat):Int):=by omega
   rw [e]
   refine zcs (zgw1 (na.mono l2) (by omega) fun r k3 l3 n3 len3=>⟨Hp.le_trans l1 (Hp.le_trans l2 l3),?_,?_,by omega,by omega⟩)
   ·rw [<-e];exact n3
   ·rw [<-e,show (-zad b).toNat=0 by omega,Nat.pow_zero];exact nc.mono l3
  ·refine iteF (fun hh=>hk' (of_decide_eq_true hh)) ?_
   have e:(-zad b)=(((-zad b).toNat:Nat):Int):=by omega
   rw [zab (by omega) (by omega),show (0:Int)-zad b= -zad b by omega,e]
   refine zcs (zgw1 nc (by omega) fun r k3 l3 n3 len3=>⟨Hp.le_trans l1 (Hp.le_trans l2 l3),?_,?_,by omega,by omega⟩)
   ·rw [show (zad b).toNat=0 by omega,Nat.pow_zero,Nat.mul_one];exact na.mono (Hp.le_trans l2 l3)
   ·rw [Nat.one_mul] at n3;exact n3
 clear na nc la lc l1 l2
 rintro x y k3 ⟨l3,nx,ny,lx,ly⟩
 refine JoinW2.intro (fun x y k4=>h<=k4/\Nt k4 x (zac b*(2^(zad b).toNat*10^(-s).toNat))/\Nt k4 y (10^s.toNat*2^(-zad b).toNat)/\x.len<=6003/\y.len<=6003) ?_ ?_
 ·by_cases hs:0<=s
  ·refine iteT (decide_eq_true hs) ?_
   have e:s=((s.toNat:Nat):Int):=by omega
   rw [e]
   refine zfa (zrl1 ny (by omega) fun r k4 l4 n4 len4=>⟨Hp.le_trans l3 l4,?_,?_,(show x.len<=6003 by omega),(show r.len<=6003 by omega)⟩)
   ·rw [<-e,show (-s).toNat=0 by omega,Nat.pow_zero,Nat.mul_one];exact nx.mono l4
   ·rw [<-e,Nat.mul_comm];exact n4
  ·refine iteF (fun hh=>hs (of_decide_eq_true hh)) ?_
   have e:(-s)=(((-s).toNat:Nat):Int):=by omega
   rw [zab (by omega) (by omega),show (0:Int)-s= -s by omega,e]
   refine zfa (zrl1 nx (by omega) fun r k4 l4 n4 len4=>⟨Hp.le_trans l3 l4,?_,?_,(show r.len<=6003 by omega),(show y.len<=6003 by omega)⟩)
   ·rw [<-Nat.mul_assoc];exact n4
   ·rw [show s.toNat=0 by omega,Nat.pow_zero,Nat.one_mul];exact ny.mono l4
 clear nx ny lx ly l3 x y k3
 rintro x y k4 ⟨l4,nx,ny,lx,ly⟩
 have fin:∀ {X Y:Nat},X*Z=vF b->Y*Z=unitW 0 s->0<Y->Nt k4 x X->Nt k4 y Y->LoopW3 (α1:=Sl) (α2:=Int) (α3:=Int) (fun again x2 q i h6=>
    (if (decide (i>=(0:Int)))=true then
    JoinW2 (α1:=Sl) (α2:=Int) (fun k=>
    CallT prog zby [y.v,(.int .i64 i)] shSl (fun r4 h7=>
    CallT prog zcc [x2.v,r4.v] (shInt .i64) (fun r5 h8=>
    (if (decide (r5>=(0:Int)))=true then
    CallT prog zli [x2.v,r4.v] shSl (fun r6 h9=>
    ((0:Int)<=i/\k r6 (bitsI .or .u64 q (shlI .u64 (1:Int) i)) h9)) h8
    else
    k ⟨x2.base,x2.len,x2.cap⟩ q h8)) h7) h6)
    (fun x3 q1 h7=>
    again ⟨x3.base,x3.len,x3.cap⟩ q1 (IntKind.wrap .i64 (i-(1:Int))) h7)
    else
    CallT prog zcm [x2.v,(.int .u32 (2:Int))] shSl (fun r4 h7=>
    CallT prog zcc [r4.v,y.v] (shInt .i64) (fun r5 h8=>
    Q q r5 h8) h7) h6)) ⟨x.base,x.len,x.cap⟩ (0:Int) (62:Int) k4:=by
  intro X Y eX eY hY nx ny
  have hXY:X / Y=vF b / unitW 0 s:=by rw [<-eX,<-eY,Nat.mul_div_mul_right _ _ z0]
  have hlt:X<Y*2^63:=by
   rw [<-hXY,Nat.div_lt_iff_lt_mul hY,Nat.mul_comm] at hq
   exact hq
  refine LoopW3.intro (fun x2 q i k=>h<=k/\k4<=k/\ -1<=i/\i<=62/\Nt k x2 (X%(Y*2^(i+1).toNat))/\q=((X / (Y*2^(i+1).toNat)*2^(i+1).toNat:Nat):Int)/\x2.len<=12100) (fun _ _ i _=>(i+1).toNat)
   ⟨l4,Hp.le_refl _,by omega,by omega,?_,?_,(show x.len<=12100 by omega)⟩ ?_
  ·rw [show ((62:Int)+1).toNat=63 from rfl,Nat.mod_eq_of_lt hlt];exact nx
  ·rw [show ((62:Int)+1).toNat=63 from rfl,Nat.div_eq_of_lt hlt,Nat.zero_mul];rfl
  rintro x2 q i k ⟨lk,lk4,i0,i1,n2,rfl,len2⟩
  by_cases hi:i>=0
  ·refine iteT (decide_eq_true hi) ?_
   obtain ⟨j,rfl⟩:=Int.eq_ofNat_of_zero_le hi
   rw [show ((j:Int)+1).toNat=j+1 by omega] at n2 ⊢
   have eT:Y*2^(j+1)=2*(Y*2^j):=by rw [Nat.pow_succ,<-Nat.mul_assoc,Nat.mul_comm]
   have hT:0<Y*2^j:=Nat.mul_pos hY (Nat.two_pow_pos j)
   rw [eT] at n2 ⊢
   have hS:=zmi2 (X:=X) hT
   have hqj:X / (Y*2^j)*2^j<18446744073709551616:=by
    have a1:X / (Y*2^j)*2^j<=X / Y:=by
     rw [Nat.le_div_iff_mul_le hY,Nat.mul_assoc,Nat.mul_comm (2^j)]
     exact Nat.div_mul_le_self _ _
    rw [hXY] at a1
    exact Nat.lt_of_le_of_lt a1 (Nat.lt_of_lt_of_le hq (by decide))
   refine JoinW2.intro (fun x3 q3 k5=>k<=k5/\Nt k5 x3 (X%(Y*2^j))/\q3=((X / (Y*2^j)*2^j:Nat):Int)/\x3.len<=12100) ?_ ?_
   ·refine zcs (zgw1 (ny.mono lk4) (by omega) fun r4 k5 l5 n4 len4=> ?_)
    refine zgl (zhz1 (n2.mono l5) n4 (by omega) (by omega) ?_)
    have e6:X / (2*(Y*2^j))*2^(j+1)=X / (2*(Y*2^j))*2*2^j:=by rw [Nat.pow_succ,Nat.mul_comm (2^j) 2,Nat.mul_assoc]
    by_cases c:Y*2^j<=X%(2*(Y*2^j))
    ·obtain ⟨e1,e2⟩:=hS.1 c
     refine iteT (decide_eq_true (by unfold cmpN;rw [if_neg (Nat.not_lt.2 c)];split<;>decide)) ?_
     refine zyf (zpm2 (n2.mono l5) n4 (by omega) c fun r6 k6 l6 n6=>⟨by omega,Hp.le_trans l5 l6,?_,?_,?_⟩)
     ·rw [e2];exact n6
     ·have es:shlI .u64 (1:Int) (j:Int)=((2^j:Nat):Int):=by
       unfold shlI
       have hb:IntKind.u64.bits=64:=rfl
       rw [show min ((j:Int)).toNat IntKind.u64.bits=j by omega,Int.one_mul,zah]
       have h3:2^j<2^64:=Nat.pow_lt_pow_right (by decide) (by omega)
       rw [Int.natCast_pow]
       have h4:((2^j:Nat):Int)<((2^64:Nat):Int):=Int.ofNat_lt.2 h3
       rw [Int.natCast_pow] at h4
       exact Int.emod_eq_of_lt (Int.le_of_lt (Int.pow_pos (by decide))) h4
      rw [e1,Nat.add_mul,Nat.one_mul,<-e6] at hqj ⊢
      rw [es,zlp1 (.inl ⟨rfl,hqj⟩) (Nat.pow_lt_pow_right (by decide) (by omega))]
     ·have t1:=n6.len (L:=r4.len) (Nat.lt_of_le_of_lt (show X%(2*(Y*2^j))-Y*2^j<=Y*2^j by
       have:=Nat.mod_lt X (show 0<2*(Y*2^j) by omega);omega) n4.lt)
      omega
    ·obtain ⟨e1,e2⟩:=hS.2 c
     refine iteF (fun hh=>c ?_) ⟨l5,?_,?_,(show x2.len<=12100 by omega)⟩
     ·have h9:cmpN (X%(2*(Y*2^j))) (Y*2^j)>=0:=of_decide_eq_true hh
      refine Classical.byContradiction fun hn=> ?_
      have:=cmpN_neg.2 (Nat.lt_of_not_le hn)
      omega
     ·rw [e2];exact n2.mono l5
     ·rw [e1,e6]
   rintro x3 q3 k5 ⟨l5,n3,rfl,len3⟩
   rw [zab (by omega) (by omega)]
   refine ⟨⟨Hp.le_trans lk l5,Hp.le_trans lk4 l5,by omega,by omega,?_,?_,(show x3.len<=12100 from len3)⟩,by omega⟩
   ·rw [show ((j:Int)-1+1).toNat=j by omega];exact n3
   ·rw [show ((j:Int)-1+1).toNat=j by omega]
  ·refine iteF (fun hh=>hi (of_decide_eq_true hh)) ?_
   rw [show (i+1).toNat=0 by omega,Nat.pow_zero,Nat.mul_one,Nat.mul_one] at*
   refine zek (zxz1 (m:=2) n2 (by omega) (by decide) fun r4 k5 l5 n4 len4=> ?_)
   refine zgl (zhz1 n4 (ny.mono (Hp.le_trans lk4 l5)) (by omega) (by omega) ?_)
   have:=hk k5 (Hp.le_trans lk l5)
   rw [<-eX,<-eY,Nat.mul_div_mul_right _ _ z0,Nat.mul_mod_mul_right,<-Nat.mul_assoc,zor1 z0,Nat.mul_comm 2] at this
   exact this
 refine fin (X:=zac b*(2^(zad b).toNat*10^(-s).toNat)) (Y:=10^s.toNat*2^(-zad b).toNat) ?_ g1 (Nat.mul_pos (Nat.pow_pos (by decide)) (Nat.two_pow_pos _)) nx ny
 grind
theorem zsa2 {b:Nat} {Q:Int->Hp->Prop} (h1:0<b) (h2:b<9218868437227405312) (hk:∀h' e,h<=h'-> -3000<=e->e<=3000->unitW 0 e<=vF b->vF b<unitW 0 (e+1)->Q e h'):zmo prog (b:Int) Q h:=by
 have hM:zac b<9007199254740992:=by unfold zac;split<;>omega
 have hM0:0<zac b:=(zsk h1 h2).2.2.2.2.2.2
 have hE: -1074<=zad b/\zad b<=971:=by unfold zad;split<;>omega
 have hp:=pF_in h1 h2
 obtain ⟨b1,b2,b3,b4,b5, -⟩:=zkd h1 h2
 have ht: -1074<=twoF b/\twoF b<=1023:=by unfold twoF;omega
 have htd:=zrz2 ht.1 ht.2
 have e3:vF b=zac b*unitW (zad b) 0:=by
  unfold vF kF
  rw [<-zjc 2 4 rfl (a:=zad b-2) (b:=zad b) (by omega) (by omega)]
  ac_rfl
 obtain ⟨u1,u2, -⟩:=zoq1 h1 h2
 have vb:=zia2 h1 h2
 unfold zmo
 refine zhu (zqz1 (by omega) ?_)
 refine LoopW2.intro (fun two x k=>k=h/\∃y:Nat,x=(y:Int)/\0<y/\y<=zac b/\two+((bitsN y:Int)-1)=twoF b) (fun _ x _=>x.toNat) ⟨rfl,zac b,rfl,hM0,Nat.le_refl _,rfl⟩ ?_
 rintro two x h ⟨rfl,y,rfl,y0,y1,ht2⟩
 have hb0:1<=bitsN y:=by unfold bitsN;grind
 have hb1:=zra1 (m:=y) (b:=53) (by omega)
 by_cases hy:1<y
 ·refine iteT (decide_eq_true (by omega)) ⟨by decide,?_⟩
  have hh:=zdj2 (m:=y) (by omega)
  rw [show (2:Int)=((2:Nat):Int) from rfl,tdivN,wrapN (by omega),zab (by omega) (by omega)]
  exact ⟨⟨rfl,y / 2,rfl,by omega,by omega,by omega⟩,by omega⟩
 ·refine iteF (fun hh=>hy (by grind)) ⟨by decide,?_⟩
  have hone:bitsN y=1:=by rw [show y=1 by omega];decide
  have htwo:two=twoF b:=by omega
  rw [htwo,zab (n:=twoF b*30103) (by omega) (by omega),zab (n:=Int.tdiv _ _) (by omega) (by omega),zab (by omega) (by omega)]
  refine LoopW1.intro (fun e k=>h<=k/\ -pF b<=e/\e<=500/\vF b<unitW 0 (e+1)) (fun e _=>(e+1000).toNat) ⟨Hp.le_refl _,?_,by omega,?_⟩ ?_
  ·have:=zlt1 (a:= -pF b) (b:=Int.tdiv (twoF b*30103) 100000+3) (by omega) (by omega)
   omega
  ·grind
  rintro e k ⟨lk,e0,e1,e2⟩
  refine zgj (zif1 (c:=1) (by decide) (by omega) (by omega) (by omega) (by omega) (by omega) fun k1 l1=> ?_)
  rw [Nat.one_mul,<-e3]
  by_cases c:vF b<unitW 0 e
  ·refine iteT (decide_eq_true (cmpN_pos.2 c)) ?_
   rw [zab (by omega) (by omega)]
   have:=zlt1 (a:= -pF b) (b:=e) (by omega) (by omega)
   exact ⟨⟨Hp.le_trans lk l1,by omega,by omega,by grind⟩,by omega⟩
  ·refine iteF (fun hh=>c (cmpN_pos.1 (of_decide_eq_true hh))) ?_
   exact hk k1 e (Hp.le_trans lk l1) (by omega) (by omega) (by omega) e2
end
section
variable {h:Hp}
theorem rdN {l:Sl} {xs:List Nat} {i:Int} {K:Int->Prop} (r:Rw h 1 eN l xs) (h0:0<=i) (h1:i<(xs.length:Int)) (hk:∀x,xs[i.toNat]? =some x->K (x:Int)):
  InB l.base l.len i/\LdW none (shInt .u8) h (sat l.base 1 i) K:=by
 obtain ⟨e1,x,hx,hl⟩:=Rw.read r zrq (by decide) h0 (by rw [r.1];exact h1)
 exact ⟨e1,(x:Int),hl,hk x hx⟩
theorem zdm1 {m:Nat} (h:m<10):decL m=[48+m]:=by
 unfold decL lenN
 rw [if_pos h]
 show []++ [48+m%10]=_
 grind
theorem zio2 {m:Nat} (h:10<=m):decL m=decL (m / 10)++ [48+m%10]:=by
 unfold decL
 conv=>lhs;unfold lenN
 rw [if_neg (by omega),digL]
theorem ztv {m:Nat} (h:m<18446744073709551616):(decL m).length<=20/\1<=(decL m).length:=by
 rw [zmg]
 refine ⟨?_,zkx m⟩
 rcases (zcw1 m).2 with e | e
 ·omega
 ·refine Classical.byContradiction fun hn=> ?_
  have:=Nat.pow_le_pow_right (n:=10) (i:=20) (j:=lenN m-1) (by decide) (by omega)
  omega
theorem zdn1 {n:Nat} {Q:ByteArray->Hp->Prop} (hn:n<18446744073709551616) (hk:∀h',h<=h'->Q (strN (decL n)) h'):zjq prog (n:Int) Q h:=by
 unfold zjq
 refine zeo1 (xs:=([]:List Nat)) (h0:=h) (Hp.le_refl h) rfl zrq fun a h1 l1 o1=> ?_
 refine LoopW2.intro (fun n1 b k=>h<=k/\∃(m:Nat) (os:List Nat),n1=(m:Int)/\m<=n/\ON h k b os/\decL n=decL m++os.reverse) (fun n1 _ _=>n1.toNat) ⟨l1,n,[],rfl,Nat.le_refl _,o1,by simp⟩ ?_
 rintro n1 b k ⟨lk,m,os,rfl,hm,o,hd⟩
 have hl:=(ztv hn).1
 have hos:os.length<=20:=by
  grind
 by_cases h10:10<=m
 ·refine iteT (decide_eq_true (by omega)) ⟨by decide,?_⟩
  rw [show (10:Int)=((10:Nat):Int) from rfl,tmodN,tdivN]
  refine app1 (c:=48+m%10) lk o (by rw [zah,byte8];omega) (by omega) fun l' k' hl' o'=>⟨by decide,?_⟩
  rw [wrapN (by omega)]
  refine ⟨⟨hl',m / 10,_,rfl,by omega,o',?_⟩,by omega⟩
  rw [hd,zio2 h10,List.reverse_append,List.append_assoc];rfl
 ·refine iteF (fun hh=>h10 (by grind)) ?_
  refine app1 (c:=48+m) lk o (by rw [zah,byte8];omega) (by omega) fun r k' hl' o'=> ?_
  have hbs:decL n=(os++ [48+m]).reverse:=by rw [hd,zdm1 (by omega),List.reverse_append];rfl
  generalize os++ [48+m]=bs at*
  have hL:bs.length<=20:=by
   grind
  clear hd hos h10 hm o lk m os l1 o1
  obtain ⟨F,oF,hF⟩:=o'.ownF
  have er:=oF.1
  refine LoopW1.intro (fun i k1=>0<=i/\i<=(bs.length:Int) / 2/\Mv F k' F k1/\∃cs:List Nat,OwnF k1 1 eN r cs F/\cs.length=bs.length/\∀j:Nat,j<bs.length->cs[j]? =if (j:Int)<i\/(bs.length:Int)-i<=j then bs[bs.length-1-j]? else bs[j]?) (fun i _=>(bs.length-i).toNat)
   ⟨by omega,by omega,Mv.refl _ _,bs,oF,rfl,fun j hj=>by grind⟩ ?_
  rintro i k1 ⟨i0,i1,mv,cs,oc,el,hc⟩
  rw [show (2:Int)=((2:Nat):Int) from rfl,tdivN,er,zab (n:=((bs.length / 2:Nat):Int)) (by omega) (by omega)]
  refine ⟨by decide,?_⟩
  by_cases hi:i<(bs.length:Int) / 2
  ·refine iteT (decide_eq_true (by omega)) ?_
   rw [zab (n:=(bs.length:Int)-1) (by omega) (by omega),zab (n:=(bs.length:Int)-1-i) (by omega) (by omega),zab (n:=i+1) (by omega) (by omega)]
   obtain ⟨q,rfl⟩:=Int.eq_ofNat_of_zero_le i0
   have g1:=rdN (oc.rw zrq) (i:=(q:Int)) (by omega) (by omega) (K:=fun _=>True) (fun _ _=>trivial)
   rw [er] at g1
   refine ⟨g1.1,?_⟩
   obtain ⟨-,g1⟩:=rdN (oc.rw zrq) (i:=(q:Int)) (by omega) (by omega) (K:=fun v=>∀x:Nat,cs[q]? =some x->v=(x:Int)) (fun x hx y hy=>by rw [Int.toNat_natCast,hy] at hx;grind)
   obtain ⟨v,gv,gx⟩:=g1
   have hq:cs[q]? =some (bs[q]'(by omega)):=by grind
   have hq2:cs[bs.length-1-q]? =some (bs[bs.length-1-q]'(by omega)):=by grind
   have ev:=gx _ hq
   subst ev
   refine ⟨_,gv,?_⟩
   have e2:((bs.length:Int)-1-(q:Int))=((bs.length-1-q:Nat):Int):=by omega
   rw [e2]
   have g2:=rdN (oc.rw zrq) (i:=((bs.length-1-q:Nat):Int)) (by omega) (by omega) (K:=fun v=>v=((bs[bs.length-1-q]'(by omega):Nat):Int)) (fun x hx=>by rw [Int.toNat_natCast,hq2] at hx;grind)
   rw [er] at g2
   obtain ⟨gb,w,gw,rfl⟩:=g2
   refine ⟨gb,_,gw,?_⟩
   have st1:=oc.store zrq (i:=(q:Int)) (by omega) (by omega) (bs[bs.length-1-q]'(by omega)) (K:=fun k2=>InB r.base bs.length ((bs.length-1-q:Nat):Int)/\StW k2 (sat r.base 1 ((bs.length-1-q:Nat):Int)) [.int .u8 ((bs[q]'(by omega):Nat):Int)] (fun h7=>(fun i k1=>(0<=i/\i<=(bs.length:Int) / 2/\Mv F k' F k1/\∃cs:List Nat,OwnF k1 1 eN r cs F/\cs.length=bs.length/\∀j:Nat,j<bs.length->cs[j]? =if (j:Int)<i\/(bs.length:Int)-i<=j then bs[bs.length-1-j]? else bs[j]?)/\(bs.length-i).toNat<(bs.length-(q:Int)).toNat) ((q:Int)+1) h7)) ?_
   ·rw [er] at st1;exact st1
   intro k2 o2 m2
   have st2:=o2.store zrq (i:=((bs.length-1-q:Nat):Int)) (by omega) (by grind) (bs[q]'(by omega)) (K:=fun k1=>(fun i k1=>(0<=i/\i<=(bs.length:Int) / 2/\Mv F k' F k1/\∃cs:List Nat,OwnF k1 1 eN r cs F/\cs.length=bs.length/\∀j:Nat,j<bs.length->cs[j]? =if (j:Int)<i\/(bs.length:Int)-i<=j then bs[bs.length-1-j]? else bs[j]?)/\(bs.length-i).toNat<(bs.length-(q:Int)).toNat) ((q:Int)+1) k1) ?_
   ·rw [er] at st2;exact st2
   intro k3 o3 m3
   refine ⟨⟨by omega,by omega,mv.trans (m2.trans m3),_,o3,by grind,fun j hj=> ?_⟩,by omega⟩
   rw [Int.toNat_natCast,Int.toNat_natCast,List.getElem?_set,List.getElem?_set,List.length_set,el]
   by_cases c1:bs.length-1-q=j
   ·rw [if_pos c1,if_pos (by omega),if_pos (by omega),<-c1,show bs.length-1-(bs.length-1-q)=q by omega,List.getElem?_eq_getElem (by omega)]
   ·rw [if_neg c1]
    by_cases c2:q=j
    ·grind
    ·rw [if_neg c2,hc j hj]
     grind
  ·refine iteF (fun hh=>hi (by grind)) ?_
   have hrev:cs=bs.reverse:=by
    refine List.ext_getElem? fun j=> ?_
    by_cases hj:j<bs.length
    ·rw [hc j hj,List.getElem?_reverse hj]
     by_cases c:(j:Int)<i\/(bs.length:Int)-i<=j
     ·rw [if_pos c]
     ·rw [if_neg c,show bs.length-1-j=j by omega]
    grind
   refine ⟨strN cs,zqx (e:=5) (tb_ok.und _ ty74 rfl) (tb_ok.und _ ty5 rfl) (tb_ok.und _ ty9 rfl) (oc.rw zrq) ?_,?_⟩
   ·rw [hrev,<-hbs];intro x hx;have:=zuo n x hx;omega
   ·rw [hrev,<-hbs];exact hk _ (mv.le hl' hF).1
theorem zip2 {b:Nat} {Q:Int->Int->Hp->Prop} (h1:0<b) (h2:b<9218868437227405312)
  (hk:∀h' (v:Nat) (s:Int),h<=h'->v%10≠0->v<144115188075855872-> -3000<=s->s<=3000->v*unitW 0 s=valS b->Q (v:Int) (s+(lenN v:Int)-1) h'):zjp prog (b:Int) Q h:=by
 have hp:=pF_in h1 h2
 unfold zjp
 refine zzt (zsa2 h1 h2 fun k e lk e0 e1 e2 e3=> ?_)
 have hx:=zok2 h1 h2 e0 e1 e2 e3
 refine LoopW1.intro (fun n k=>h<=k/\SeekF b e n) (fun n _=>(18-n).toNat) ⟨lk,zdv2 h1 h2 e0 e1 e2 e3⟩ ?_
 clear lk k
 rintro n k ⟨lk,hs⟩
 obtain ⟨n0,n1,n2⟩:=hs
 refine iteT (decide_eq_true (by omega)) ?_
 rw [zab (n:=e-n) (by omega) (by omega),zab (n:=e-n+1) (by omega) (by omega)]
 have s0: -pF b<=e-n+1:=by omega
 have hqb:vF b / unitW 0 (e-n+1)<144115188075855871:=by
  obtain ⟨-,u2, -⟩:=zoq1 h1 h2
  have e17:=zfj (a:=0) (b:= -pF b) (n:=17) (by omega)
  rw [show -pF b+((17:Nat):Int)=17-pF b by omega] at e17
  have m:=Nat.mul_le_mul_left (10^17) (zcu1 (a:= -pF b) (by omega) s0)
  rw [Nat.div_lt_iff_lt_mul (zbq _ _)]
  omega
 refine zwy (zmj2 h1 h2 s0 (by omega) fun k1 l1=> ?_)
 refine zey (zrm1 h1 h2 (by omega) (by omega) (by omega) fun k2 l2=> ?_)
 have ew:∀q:Nat,q<144115188075855871->IntKind.wrap .u64 ((q:Int)+1)=((q+1:Nat):Int):=fun q hq=>by rw [zah];omega
 rw [ew _ hqb]
 refine zey (zrm1 h1 h2 (by omega) (by omega) (by omega) fun k3 l3=>letW ?_)
 have l13:=Hp.le_trans lk (Hp.le_trans l1 (Hp.le_trans l2 l3))
 have one:(sideF b (vF b / unitW 0 (e-n+1)*unitW 0 (e-n+1))==0)=inF b (vF b / unitW 0 (e-n+1)*unitW 0 (e-n+1)):=by
  rw [Bool.eq_iff_iff,beq_iff_eq,side_zero]
 have two:(sideF b ((vF b / unitW 0 (e-n+1)+1)*unitW 0 (e-n+1))==0)=inF b ((vF b / unitW 0 (e-n+1)+1)*unitW 0 (e-n+1)):=by
  rw [Bool.eq_iff_iff,beq_iff_eq,side_zero]
 rw [one,two]
 by_cases hh:hitF b (e-n+1)=true
 ·have hval:=zmd2 h1 h2 e3 ⟨n0,n1,n2⟩ hh
  have hit:=hh
  unfold hitF at hit
  refine iteF (fun c=> ?_) ?_
  ·grind
  have hpk:pickF b (e-n+1)<=vF b / unitW 0 (e-n+1)+1:=by
   unfold pickF pickD
   split<;>omega
  refine JoinW1.intro (fun c k4=>k4=k3/\c=((pickF b (e-n+1):Nat):Int)) ⟨fun _=>by decide,letW (letW (letW (letW ?_)))⟩ ?_
  ·have e5:(Int.tmod ((vF b / unitW 0 (e-n+1):Nat):Int) 2==1)=decide (vF b / unitW 0 (e-n+1)%2=1):=by
    rw [show (2:Int)=((2:Nat):Int) from rfl,tmodN,Bool.eq_iff_iff,beq_iff_eq,decide_eq_true_eq]
    omega
   have e6:(cmpN (2*(vF b%unitW 0 (e-n+1))) (unitW 0 (e-n+1))==0)=decide (2*(vF b%unitW 0 (e-n+1))=unitW 0 (e-n+1)):=by
    rw [Bool.eq_iff_iff,beq_iff_eq,zcx1,decide_eq_true_eq]
   have e7:decide (cmpN (2*(vF b%unitW 0 (e-n+1))) (unitW 0 (e-n+1))>0)=decide (unitW 0 (e-n+1)<2*(vF b%unitW 0 (e-n+1))):=by
    rw [Bool.eq_iff_iff,decide_eq_true_eq,decide_eq_true_eq]
    exact cmpN_pos
   rw [e5,e6,e7]
   unfold pickF pickD
   have hin:∀X,inI (loF b) (hiF b) (oddF b) X=inF b X:=fun _=>rfl
   grind
  rintro _ k4 ⟨rfl,rfl⟩
  have hvp:0<valS b:=by
   have:=zik2 h1 h2
   have:=(ziw1 (zfm1 h1 h2)).1
   omega
  refine LoopW2.intro (fun s c k5=>k5=k4/\∃v:Nat,c=(v:Int)/\v≠0/\v<144115188075855872/\ -pF b<=s/\v*unitW 0 s=valS b/\s+(lenN v:Int)<=1000) (fun _ c _=>c.toNat)
   ⟨rfl,pickF b (e-n+1),rfl,fun hz=>by grind,by omega,s0,hval,?_⟩ ?_
  ·have:lenN (pickF b (e-n+1))<=20:=by
    have:=(ztv (m:=pickF b (e-n+1)) (by omega)).1
    rw [zmg] at this;exact this
   omega
  rintro s c k5 ⟨rfl,v,rfl,v0,v1,s1,hv,s2⟩
  have hln:=zkx v
  rw [show (10:Int)=((10:Nat):Int) from rfl,tmodN,tdivN]
  refine ⟨by decide,?_⟩
  by_cases hm:v%10=0
  ·refine iteT (by rw [hm];rfl) ⟨by decide,?_⟩
   rw [zab (by omega) (by omega),wrapN (by omega)]
   refine ⟨⟨rfl,v / 10,rfl,by omega,by omega,by omega,?_,?_⟩,by omega⟩
   ·have e:=zfj (a:=0) (b:=s) (n:=1) (by omega)
    rw [show s+1=s+((1:Nat):Int) from rfl,<-e,<-Nat.mul_assoc,show v / 10*10^1=v by omega]
    exact hv
   ·have:lenN v=lenN (v / 10)+1:=by
     conv=>lhs;unfold lenN
     grind
    omega
  ·refine iteF (fun c=>hm (by grind)) ?_
   refine zdv (zdn1 (by omega) fun k6 l6=> ?_)
   rw [zal,zmg,zab (n:=s+_) (by omega) (by omega),zab (by omega) (by omega)]
   exact hk k6 v s (Hp.le_trans l13 l6) hm v1 (by omega) (by omega) hv
 ·have hh':hitF b (e-n+1)=false:=by simpa using hh
  have hnext:=zib2 h1 h2 e3 ⟨n0,n1,n2⟩ hh'
  unfold hitF at hh'
  rw [Bool.or_eq_false_iff] at hh'
  rw [hh'.1,hh'.2]
  refine iteT rfl ?_
  rw [zab (by omega) (by omega)]
  grind
end
theorem zmh (xs ys:List Nat):(⟨⟨List.append (strN xs).data.toList (strN ys).data.toList⟩⟩:ByteArray)=strN (xs++ys):=by
 rw [zhm,zhm]
 unfold strN
 simp
theorem zmk2 :∀d,d<16->ByteArray.extract ⟨#[48,49,50,51,52,53,54,55,56,57,97,98,99,100,101,102]⟩ d (d+1)=strN [hexD d]:=fun d hd=>zum (by
 have:∀d,d<16->(ByteArray.extract ⟨#[48,49,50,51,52,53,54,55,56,57,97,98,99,100,101,102]⟩ d (d+1)).data=(strN [hexD d]).data:=by decide+kernel
 exact this d hd)
theorem ztq (n:Nat):(hexL n).length=16:=by simp [hexL]
theorem zih1 {n i:Nat} (hi:i<16):(hexL n)[i]? =some (hexD (n / 16^(15-i)%16)):=by
 unfold hexL
 grind
section
variable {h:Hp}
theorem and15 (x:Nat) (hx:x<18446744073709551616):bitsI .and .u64 (x:Int) (15:Int)=((x%16:Nat):Int):=by
 unfold bitsI
 dsimp only
 rw [zrb,BitVec.toNat_and,zlx hx,show (BitVec.ofInt 64 15).toNat=2^4-1 by decide,Nat.and_two_pow_sub_one_eq_mod,zah]
 omega
theorem zsb2 {n:Nat} {Q:ByteArray->Hp->Prop} (hn:n<18446744073709551616) (hk:Q (strN (hexL n)) h):zmn prog (n:Int) Q h:=by
 unfold zmn
 refine LoopW2.intro (fun s i k=>k=h/\ -1<=i/\i<=15/\s=strN ((hexL n).take (15-i).toNat)) (fun _ i _=>(i+1).toNat) ⟨rfl,by omega,by omega,rfl⟩ ?_
 rintro s i h ⟨rfl,i0,i1,rfl⟩
 by_cases hi:i>=0
 ·obtain ⟨j,rfl⟩:=Int.eq_ofNat_of_zero_le hi
  refine iteT (decide_eq_true hi) ?_
  have e4:IntKind.wrap .i64 ((4:Int)*(j:Int))=((4*j:Nat):Int):=by rw [zab (by omega) (by omega)];omega
  have hlt:n / 2^(4*j)<18446744073709551616:=Nat.lt_of_le_of_lt (Nat.div_le_self _ _) hn
  rw [e4,shrN n (n:=4*j) (by omega),and15 _ hlt]
  have hd:n / 2^(4*j)%16<16:=Nat.mod_lt _ (by decide)
  have e16:n / 2^(4*j)%16=n / 16^(15-(15-j))%16:=by
   rw [show 15-(15-j)=j by omega,Nat.pow_mul]
  rw [e16] at hd ⊢
  generalize hD:n / 16^(15-(15-j))%16=d at*
  have e1:IntKind.wrap .u64 ((d:Int)+1)=((d+1:Nat):Int):=by rw [zah];omega
  rw [e1,Int.toNat_natCast,Int.toNat_natCast,zmk2 d hd,zmh]
  refine ⟨by omega,⟨by omega,by omega,by omega⟩,?_,?_⟩
  ·rw [zal,zal,List.length_take]
   grind
  ·rw [zab (by omega) (by omega)]
   refine ⟨⟨rfl,by omega,by omega,?_⟩,by omega⟩
   rw [show ((15:Int)-((j:Int)-1)).toNat=(15-j)+1 by omega,show ((15:Int)-(j:Int)).toNat=15-j by omega,List.take_add_one,zih1 (by omega),hD]
   rfl
 ·refine iteF (fun hh=>hi (of_decide_eq_true hh)) ?_
  rw [List.take_of_length_le (by rw [ztq];omega)]
  exact hk
theorem zqn2 {b:Nat} {Q:ByteArray->Hp->Prop} (h1:0<b) (h2:b<9218868437227405312) (hk:∀h' out,h<=h'->TextF b false out->Q (strN out) h'):zhj prog (b:Int) Q h:=by
 unfold zhj
 refine iteF (fun hh=>by grind) ?_
 refine zvd (zip2 h1 h2 fun k v s lk hm hv s0 s1 he=> ?_)
 obtain ⟨hvb,hs⟩:=zlx1 h1 h2 hm s0 he
 have hp:=pF_in h1 h2
 have hln:=ztv (m:=v) (by omega)
 refine zdv (zdn1 (by omega) fun k1 l1=> ?_)
 have hT:∀out,out=numL false v s->TextF b false out:=fun out e=>⟨v,s,hm,s0,he,e⟩
 have hhead:headL false (lenN v) v=match decL v with | []=> [] | c::ds=>c::(if ds=[] then [] else 46::ds):=by
  unfold headL decL
  grind
 unfold numL at hT
 rw [hhead] at hT
 rw [zmg] at hln
 have hdl:=zmg v
 cases hq:decL v with
 | nil=>grind
 | cons c ds=>
  rw [hq] at hT hdl
  rw [List.length_cons] at hdl
  dsimp only at hT
  have e0:(strN (c::ds)).extract 0 1=strN [c]:=by rw [zgd _ _ _ (by simp)];rfl
  have e1:(strN (c::ds)).extract 1 (ds.length+1)=strN ds:=by rw [zgd _ _ _ (by simp),List.take_of_length_le (by simp)];rfl
  rw [zal,List.length_cons,e0,e1]
  have c46:(46:UInt8)::(strN ds).data.toList=(strN (46::ds)).data.toList:=by rw [zhm,zhm];rfl
  refine ⟨⟨by decide,by omega⟩,JoinW1.intro (fun t k2=>k2=k1/\t=strN (c::(if ds=[] then [] else 46::ds))) ?_ ?_⟩
  ·by_cases hd:ds=[]
   ·grind
   ·have:=List.length_pos_iff.2 hd
    refine iteT (decide_eq_true (by omega)) ⟨⟨by decide,by omega⟩,by rw [zal];omega,?_,rfl,?_⟩
    ·rw [c46]
     show _+(strN (46::ds)).data.size<=_
     have:(strN (46::ds)).data.size=(46::ds).length:=zal _
     rw [this,zal]
     grind
    ·rw [c46,zmh,if_neg hd];rfl
  rintro _ k2 ⟨rfl,rfl⟩
  have hlen:(c::(if ds=[] then [] else 46::ds)).length<=ds.length+2:=by
   grind
  generalize c::(if ds=[] then [] else 46::ds)=H at*
  have hE:s+(lenN v:Int)-1=(lenN v:Int)+s-1:=by omega
  have b101:([101,45]:List UInt8)=(strN [101,45]).data.toList:=rfl
  have b101':([101]:List UInt8)=(strN [101]).data.toList:=rfl
  rw [hE]
  have hEb: -2000<=(lenN v:Int)+s-1/\(lenN v:Int)+s-1<=4000:=by omega
  generalize (lenN v:Int)+s-1=E at*
  by_cases hneg:E<0
  ·refine iteT (decide_eq_true hneg) ⟨by rw [zal];omega,?_⟩
   have ee:IntKind.wrap .u64 (IntKind.wrap .i64 ((0:Int)-E))=((E.natAbs:Nat):Int):=by rw [zab (by omega) (by omega),zah];omega
   rw [ee]
   refine zdv (zdn1 (by omega) fun k3 l3=> ?_)
   have hx:=(ztv (m:=E.natAbs) (by omega)).1
   rw [b101,show (strN H).data.toList.append (strN [101,45]).data.toList=(strN (H++ [101,45])).data.toList by rw [<-zmh]]
   refine ⟨?_,?_⟩
   ·show (strN (H++ [101,45])).data.size+_<=_
    have:(strN (H++ [101,45])).data.size=(H++ [101,45]).length:=zal _
    rw [this,zal,List.length_append]
    simp only [List.length_cons,List.length_nil]
    omega
   ·rw [zmh]
    refine hk k3 _ (Hp.le_trans lk (Hp.le_trans l1 l3)) (hT _ ?_)
    unfold signL
    grind
  ·refine iteF (fun hh=>hneg (of_decide_eq_true hh)) ⟨by rw [zal];omega,?_⟩
   have ee:IntKind.wrap .u64 E=((E.natAbs:Nat):Int):=by rw [zah];omega
   rw [ee]
   refine zdv (zdn1 (by omega) fun k3 l3=> ?_)
   have hx:=(ztv (m:=E.natAbs) (by omega)).1
   rw [b101',show (strN H).data.toList.append (strN [101]).data.toList=(strN (H++ [101])).data.toList by rw [<-zmh]]
   refine ⟨?_,?_⟩
   ·show (strN (H++ [101])).data.size+_<=_
    have:(strN (H++ [101])).data.size=(H++ [101]).length:=zal _
    rw [this,zal,List.length_append]
    simp only [List.length_cons,List.length_nil]
    omega
   ·rw [zmh]
    refine hk k3 _ (Hp.le_trans lk (Hp.le_trans l1 l3)) (hT _ ?_)
    unfold signL
    grind
theorem ziq2 {r:Nat} {out:List Nat} (h:TextF r false out):TextF r true (45::out):=by
 obtain ⟨v,s,a1,a2,a3,rfl⟩:=h
 refine ⟨v,s,a1,a2,a3,?_⟩
 have hl:=zkx v
 have hd:=zni (lenN v) v
 unfold numL headL
 cases hq:digL (lenN v) v with
 | nil=>grind
 | cons c ds=>simp
theorem zly1 {n:Int} {w:Nat} {Q:ByteArray->Hp->Prop} (hn:IntKind.wrap .u64 n=(w:Int)) (hw:w<18446744073709551616) (hk:∀h' out,h<=h'->zbr w out->Q (strN out) h'):zkh prog n Q h:=by
 unfold zkh
 rw [hn,zls2 hw,zxn1 hw]
 have hsg:(((sgn (negD w):Nat):Int) !=0)=negD w:=by cases negD w<;>rfl
 rw [hsg]
 have hr:w%9223372036854775808<9223372036854775808:=Nat.mod_lt _ (by decide)
 unfold zbr at hk
 refine JoinW1.intro (fun s k=>k=h/\(w%9223372036854775808<=9218868437227405312->s=strN (if negD w then [45] else []))) (letW ?_) ?_
 ·by_cases hc:w%9223372036854775808<=9218868437227405312
  ·rw [decide_eq_true (show ((w%9223372036854775808:Nat):Int)<=9218868437227405312 by omega),Bool.and_true]
   cases hb:negD w with
   | true=>exact iteT rfl ⟨rfl,fun _=>rfl⟩
   | false=>exact iteF (by decide) ⟨rfl,fun _=>rfl⟩
  grind
 rintro s h ⟨rfl,hs⟩
 by_cases c1:9218868437227405312<w%9223372036854775808
 ·refine iteT (decide_eq_true (by omega)) (zzr (zsb2 hw ⟨by rw [zal,ztq];decide,?_⟩))
  have e:(⟨⟨110::(97::(110::(58::(strN (hexL w)).data.toList)))⟩⟩:ByteArray)=strN ([110,97,110,58]++hexL w):=by rw [<-zmh];rfl
  rw [e]
  exact hk h _ (Hp.le_refl _) (by rw [if_pos c1])
 ·refine iteF (fun hh=>c1 (by grind)) ?_
  have hs:=hs (by omega)
  subst hs
  have sgl:((if negD w then [45] else []):List Nat).length<=1:=by split<;>simp
  by_cases c2:w%9223372036854775808=9218868437227405312
  ·refine iteT (by rw [c2];rfl) ⟨by rw [zal];omega,?_⟩
   have e:(⟨⟨List.append (strN (if negD w then [45] else [])).data.toList [105,110,102]⟩⟩:ByteArray)=strN ((if negD w then [45] else [])++ [105,110,102]):=by rw [<-zmh];rfl
   rw [e]
   exact hk h _ (Hp.le_refl _) (by grind)
  ·refine iteF (fun hh=>c2 (by grind)) (zyc ?_)
   by_cases c3:w%9223372036854775808=0
   ·rw [c3]
    unfold zhj
    refine iteT rfl ⟨by rw [zal];show _+3<=_;omega,?_⟩
    have e:(⟨⟨List.append (strN (if negD w then [45] else [])).data.toList (⟨#[48,101,48]⟩:ByteArray).data.toList⟩⟩:ByteArray)=strN ((if negD w then [45] else [])++ [48,101,48]):=by rw [<-zmh];rfl
    rw [e]
    exact hk h _ (Hp.le_refl _) (by grind)
   ·refine zqn2 (by omega) (by omega) fun k out lk ht=> ?_
    have hol:out.length<=25:=by
     have h1:zbr (w%9223372036854775808) out:=by
      unfold zbr
      rw [Nat.mod_eq_of_lt hr,if_neg c1,if_neg c2,if_neg c3,show negD (w%9223372036854775808)=false by unfold negD;grind]
      exact ht
     exact (zqy h1).1
    rw [zmh]
    refine ⟨by rw [zal,zal];omega,hk k _ lk ?_⟩
    rw [if_neg c1,if_neg c2,if_neg c3]
    cases hb:negD w with
    | true=>exact ziq2 ht
    | false=>exact ht
end
theorem iteB {c:Prop} [Decidable c] {a b:Prop} (ha:c->a) (hb:¬c->b):if c then a else b:=by
 grind
section
variable {h:Hp}
theorem zbi2 {c:Nat} {Q:Int->Hp->Prop} (hk:∀d:Nat,d<=16->(∀e,e<16->c=hexD e->d=e)->Q (d:Int) h):zkl prog (c:Int) Q h:=by
 have tab:∀d,d<16->(List.getD ([48,49,50,51,52,53,54,55,56,57,97,98,99,100,101,102]:List UInt8) d 0).toNat=hexD d:=by decide
 have inj:∀d,d<16->∀e,e<16->hexD d=hexD e->d=e:=by decide
 unfold zkl
 refine LoopW1.intro (fun d k=>k=h/\0<=d/\d<=16/\∀e:Nat,(e:Int)<d->hexD e≠c) (fun d _=>(16-d).toNat) ⟨rfl,by omega,by omega,fun e he=>by omega⟩ ?_
 rintro d h ⟨rfl,d0,d1,hd⟩
 obtain ⟨i,rfl⟩:=Int.eq_ofNat_of_zero_le d0
 by_cases hi:(i:Int)<16
 ·refine iteT (decide_eq_true hi) ⟨⟨by omega,hi⟩,?_⟩
  rw [Int.toNat_natCast,tab i (by omega)]
  by_cases e:hexD i=c
  ·refine iteT (by rw [e];exact beq_self_eq_true _) (hk i (by omega) fun e' he' hc=>inj i (by omega) e' he' (e.trans hc))
  ·refine iteF (fun hh=>e (by have:((hexD i:Nat):Int)=(c:Int):=beq_iff_eq.1 hh;omega)) ?_
   rw [zah,show ((i:Int)+1)%18446744073709551616=(i:Int)+1 by omega]
   refine ⟨⟨rfl,by omega,by omega,fun e' he'=> ?_⟩,by omega⟩
   by_cases c':e'=i
   ·subst c';exact e
   ·exact hd e' (by omega)
 grind
theorem zos1 {c:Nat} {s:Int} {Q:Int->Hp->Prop} (hc:c<18446744073709551616) (s0: -3000<=s) (s1:s<=3000)
  (hk:∀h' (b:Nat),h<=h'->b<9218868437227405312->(∀r,0<r->r<9218868437227405312->inF r (c*unitW 0 s)=true->b=r)->Q (b:Int) h'):zio prog (c:Int) s Q h:=by
 unfold zio
 refine LoopW2.intro (fun low high k=>h<=k/\∃l g:Nat,low=(l:Int)/\high=(g:Int)/\zlw1 (c*unitW 0 s) l g) (fun low high _=>(high-low).toNat) ⟨Hp.le_refl _,1,9218868437227405311,rfl,rfl,zug1 _⟩ ?_
 rintro low high k ⟨lk,l,g,rfl,rfl,hw⟩
 obtain ⟨w1,w2,w3, -⟩:=id hw
 by_cases hl:l<g
 ·refine iteT (decide_eq_true (by omega)) ?_
  have em:IntKind.wrap .u64 ((l:Int)+(IntKind.wrap .u64 (Int.tdiv (IntKind.wrap .u64 ((g:Int)-(l:Int))) (2:Int))))=((l+(g-l) / 2:Nat):Int):=by
   have e1:IntKind.wrap .u64 ((g:Int)-(l:Int))=((g-l:Nat):Int):=by rw [zah];omega
   rw [e1,show (2:Int)=((2:Nat):Int) from rfl,tdivN,wrapN (by omega),zah]
   omega
  rw [em]
  have hlow:=zdw2 hw hl
  have hhigh:=zxw1 hw hl
  have hm0:0<l+(g-l) / 2:=by omega
  have hm2:l<=l+(g-l) / 2:=by omega
  have hm1:l+(g-l) / 2<g:=by omega
  have em1:IntKind.wrap .u64 (((l+(g-l) / 2:Nat):Int)+1)=((l+(g-l) / 2+1:Nat):Int):=by rw [zah];omega
  rw [em1]
  generalize l+(g-l) / 2=m at*
  refine JoinW2.direct ⟨by decide,zey (zrm1 hm0 (by omega) hc s0 s1 fun k1 l1=> ?_)⟩
  rcases zql2 m (c*unitW 0 s) with e | e | e
  ·rw [e]
   refine iteF (by decide) (iteT (by decide) ⟨⟨Hp.le_trans lk l1,l,m,rfl,rfl,hlow (by omega)⟩,by omega⟩)
  ·rw [e]
   refine iteT (by decide) (hk k1 m (Hp.le_trans lk l1) (by omega) fun r r0 r1 hr=>zri1 hm0 r0 (side_zero.1 e) hr)
  ·rw [e]
   refine iteF (by decide) (iteF (by decide) ?_)
   exact ⟨⟨Hp.le_trans lk l1,m+1,g,rfl,rfl,hhigh (by omega)⟩,by omega⟩
 ·refine iteF (fun hh=>hl (by grind)) ?_
  refine zey (zrm1 (by omega) (by omega) hc s0 s1 fun k1 l1=> ?_)
  by_cases e:sideF l (c*unitW 0 s)=0
  ·refine iteT (by rw [e];rfl) (hk k1 l (Hp.le_trans lk l1) (by omega) fun r r0 r1 hr=>zri1 (by omega) r0 (side_zero.1 e) hr)
  ·refine iteF (fun hh=>e (beq_iff_eq.1 hh)) (hk k1 0 (Hp.le_trans lk l1) (by omega) fun r r0 r1 hr=> ?_)
   rw [zdx2 hw hl e r r0 r1] at hr
   cases hr
theorem zir2 {t:ByteArray} {Q:Int->Int->Bool->Hp->Prop} (ht:t.size<=32) (hk:∀(c:Nat) (s:Int) (ok:Bool),c<18446744073709551616-> -3000<=s->s<=3000->Q (c:Int) s ok h):zdz prog t Q h:=by
 unfold zdz
 generalize hn:t.size=n at*
 refine LoopW3.intro (fun c s i k=>k=h/\0<=i/\i<=(n:Int)/\ -i<=s/\s<=0/\∃m:Nat,c=(m:Int)/\m<18446744073709551616) (fun _ _ i _=>(n-i).toNat) ⟨rfl,by omega,by omega,by omega,by omega,0,rfl,by decide⟩ ?_
 rintro c s i h ⟨rfl,i0,i1,s0,s1,m,rfl,hm⟩
 refine ⟨fun hh=>⟨i0,of_decide_eq_true hh⟩,letW ?_⟩
 refine iteB (fun hy=> ?_) fun hy=> ?_
 ·rw [Bool.and_eq_true] at hy
  have hi:=of_decide_eq_true hy.1
  have key:∀(c' s':Int),(-i-1<=s'/\s'<=0/\∃m:Nat,c'=(m:Int)/\m<18446744073709551616)->((h=h/\0<=IntKind.wrap .i64 (i+1)/\IntKind.wrap .i64 (i+1)<=(n:Int)/\ -(IntKind.wrap .i64 (i+1))<=s'/\s'<=0/\∃m:Nat,c'=(m:Int)/\m<18446744073709551616)/\(n-IntKind.wrap .i64 (i+1)).toNat<(n-i).toNat):=fun c' s' hh=>by
   rw [zab (by omega) (by omega)]
   grind
  refine JoinW3.direct ⟨fun _=>⟨i0,hi⟩,letW (iteB (fun _=>key _ _ ⟨by omega,s1,m,rfl,hm⟩) fun _=>⟨⟨i0,hi⟩,fun _=>⟨i0,hi⟩,letW (letW (iteB (fun _=>hk 0 0 false (by decide) (by decide) (by decide)) fun _=>⟨⟨i0,hi⟩,?_⟩))⟩)⟩
  refine JoinW1.intro (fun s' k=>k=h/\ -i-1<=s'/\s'<=0) (iteB (fun _=> ?_) fun _=>⟨rfl,by omega,s1⟩) ?_
  ·rw [zab (by omega) (by omega)]
   exact ⟨rfl,by omega,by omega⟩
  rintro s' h ⟨rfl,a1,a2⟩
  refine key _ _ ⟨a1,a2,_,(Int.toNat_of_nonneg ?_).symm,?_⟩
  ·rw [zah];omega
  ·rw [zah];omega
 ·rw [zab (n:=i+1) (by omega) (by omega)]
  refine ⟨fun hh=>⟨by omega,of_decide_eq_true hh⟩,letW ?_⟩
  refine JoinW1.intro (fun i1 k=>k=h/\0<=i1/\i1<=(n:Int)+2) (iteB (fun _=> ?_) fun _=>⟨rfl,by omega,by omega⟩) ?_
  ·rw [zab (by omega) (by omega)]
   exact ⟨rfl,by omega,by omega⟩
  rintro i1' h ⟨rfl,b0,b1⟩
  refine letW (letW (iteB (fun _=>hk 0 0 false (by decide) (by decide) (by decide)) fun hy3=> ?_))
  have hb:i1'<(n:Int)/\(n:Int)-i1'<=3:=by
   rw [Bool.or_eq_true,Bool.or_eq_true,not_or,not_or] at hy3
   have h1:¬i1'>=(n:Int):=fun e=>hy3.1.1 (decide_eq_true e)
   have h2:¬(n:Int)-i1'>3:=fun e=>hy3.1.2 (by rw [zab (by omega) (by omega)];grind)
   omega
  refine LoopW2.intro (fun i2 e k=>k=h/\i1'<=i2/\i2<=(n:Int)/\0<=e/\((i2=i1'/\e=0)\/(i2=i1'+1/\e<=9)\/(i2=i1'+2/\e<=99)\/(i2=i1'+3/\e<=999))) (fun i2 _ _=>(n-i2).toNat) ⟨rfl,by omega,by omega,by omega,.inl ⟨rfl,rfl⟩⟩ ?_
  rintro i2 e h ⟨rfl,c0,c1,e0,he⟩
  refine iteB (fun hh=> ?_) fun _=> ?_
  ·have hi2:=of_decide_eq_true hh
   refine ⟨⟨by omega,hi2⟩,fun _=>⟨by omega,hi2⟩,letW (iteB (fun _=>hk 0 0 false (by decide) (by decide) (by decide)) fun hy4=>⟨⟨by omega,hi2⟩,?_⟩)⟩
   generalize (((UInt8.toNat (List.getD t.data.toList (Int.toNat i2) 0)):Nat):Int)=x at*
   have hx:48<=x/\x<=57:=by
    rw [Bool.or_eq_true,not_or] at hy4
    have h1:¬x<48:=fun e=>hy4.1 (decide_eq_true e)
    have h2:¬x>57:=fun e=>hy4.2 (decide_eq_true e)
    omega
   rw [zab (n:=i2+1) (by omega) (by omega),byte8,zab (n:=(10:Int)*e) (by omega) (by omega),zab (n:=(x-48)%256) (by omega) (by omega),zab (by omega) (by omega)]
   grind
  ·refine iteB (fun _=> ?_) fun _=> ?_
   ·rw [zab (n:=(0:Int)-e) (by omega) (by omega),zab (by omega) (by omega)]
    grind
   ·rw [zab (by omega) (by omega)]
    grind
end
section
variable {h:Hp}
theorem zdy2 {c:Nat} {ds xs:List Nat} {eneg:Bool} {Q:Int->Int->Bool->Hp->Prop} (hc:49<=c/\c<58) (hds:Digs ds) (hl:ds.length<=17) (hxs:Digs xs) (x1:1<=xs.length) (x2:xs.length<=3)
  (hq:Q (numV (c::ds):Int) ((if eneg then -(numV xs:Int) else numV xs)-(ds.length:Int)) true h):zdz prog (strN (fltL false c ds eneg xs)) Q h:=by
 have hcd:Digs (c::ds):=fun z hz=>by
  grind
 have hcl:(c::ds).length<=18:=by grind
 have hm:=zgx1 c ds
 have hm2:1<=(manL c ds).length/\(manL c ds).length<=19:=by grind
 have hL:=zgy1 (neg:=false) (c:=c) (ds:=ds) (eneg:=eneg) (xs:=xs)
 have hs1:sgnN eneg<=1:=by unfold sgnN;split<;>omega
 have gM:= @zbh2 false eneg c ds xs
 have gE:= @zon2 false eneg c ds xs
 have gX:= @zoo2 false eneg c ds xs
 have gS:(fltL false c ds eneg xs)[(manL c ds).length+1]? =if eneg then some 45 else xs[0]?:=by
  cases eneg with
  | false=>have:=gX (j:=0) (by omega);simpa [sgnN] using this
  | true=>
   unfold fltL
   simp
 rw [show sgnN false=0 from rfl] at gE gX hL
 have gM:∀ {j:Nat},j<(manL c ds).length->(fltL false c ds eneg xs)[j]? =(manL c ds)[j]?:=fun {j} hj=>by have:=gM hj;rwa [show sgnN false=0 from rfl,Nat.zero_add] at this
 rw [Nat.zero_add] at gE
 have gX:∀ {j:Nat},j<xs.length->(fltL false c ds eneg xs)[(manL c ds).length+1+sgnN eneg+j]? =xs[j]?:=fun {j} hj=>by grind
 generalize hT:fltL false c ds eneg xs=T at*
 have chr:∀ {i x:Nat},T[i]? =some x->x<256->(((UInt8.toNat (List.getD (strN T).data.toList (Int.toNat ((i:Nat):Int)) 0)):Nat):Int)=(x:Int):=fun {i x} e hx=>by rw [Int.toNat_natCast,zju e hx]
 have nw:∀ {n:Nat},n<1000->IntKind.wrap .i64 ((n:Int)+1)=((n+1:Nat):Int):=fun {n} hn=>by rw [zab (by omega) (by omega)];omega
 unfold zdz
 rw [zal]
 refine LoopW3.intro (fun v s i k=>k=h/\∃j:Nat,j<=(manL c ds).length/\v=(numV ((c::ds).take (dgN j)):Int)/\i=(j:Int)/\s= -((dgN j-1:Nat):Int)) (fun _ _ i _=>(T.length-i).toNat) ⟨rfl,0,by omega,by simp [dgN,numV],rfl,by decide⟩ ?_
 rintro v s i h ⟨rfl,j,hj,rfl,rfl,rfl⟩
 refine ⟨fun hh=>⟨by omega,of_decide_eq_true hh⟩,letW ?_⟩
 by_cases hjm:j<(manL c ds).length
 ·have gj:=gM hjm
  rcases zin2 hjm with ⟨rfl,hd,ha⟩ | ⟨hj1,z,ha,hz⟩
  · -- the point
   rw [ha] at gj
   rw [chr gj (by decide)]
   refine iteT (by grind) (JoinW3.direct ⟨fun _=>⟨by omega,by omega⟩,letW (iteT (by decide) ?_)⟩)
   rw [nw (by omega)]
   exact ⟨⟨rfl,2,by omega,rfl,rfl,rfl⟩,by omega⟩
  ·rw [ha] at gj
   have hz2:=hcd z (List.mem_of_getElem? hz)
   rw [chr gj (by omega)]
   have hdg:dgN j<(c::ds).length:=(List.getElem?_eq_some_iff.1 hz).1
   have hdg1:dgN (j+1)=dgN j+1:=by unfold dgN;split<;>split<;>omega
   have hsn:numV ((c::ds).take (dgN (j+1)))=10*numV ((c::ds).take (dgN j))+(z-48):=by rw [hdg1];exact zun hz
   have hb1:=ziy1 hcd hcl (dgN j)
   have hj18:j<=18:=by omega
   refine iteT ?_ (JoinW3.direct ⟨fun _=>⟨by omega,by omega⟩,letW (iteF (fun hh=> ?_) ⟨⟨by omega,by omega⟩,fun _=>⟨by omega,by omega⟩,letW (letW (iteF (fun hh=> ?_) ⟨⟨by omega,by omega⟩,?_⟩))⟩)⟩)
   ·grind
   ·grind
   ·grind
   ·have ew:IntKind.wrap .u64 ((IntKind.wrap .u64 ((10:Int)*(numV ((c::ds).take (dgN j)):Int)))+(IntKind.wrap .u64 (IntKind.wrap .u8 (((z:Nat):Int)-48))))=(numV ((c::ds).take (dgN (j+1))):Int):=by
     rw [hsn,byte8,zah,zah,zah]
     omega
    rw [ew,nw (n:=j) (by omega)]
    refine JoinW1.intro (fun s' k=>k=h/\s'= -((dgN (j+1)-1:Nat):Int)) ?_ ?_
    ·by_cases c2:1<j
     ·refine iteT (decide_eq_true (by omega)) ⟨rfl,?_⟩
      have:1<=dgN j:=by unfold dgN;split<;>omega
      rw [zab (by omega) (by omega),hdg1]
      omega
     ·refine iteF (fun hh=>c2 (by grind)) ⟨rfl,?_⟩
      have:j=0:=by omega
      subst this
      rfl
    rintro _ h ⟨rfl,rfl⟩
    exact ⟨⟨rfl,j+1,by omega,rfl,rfl,rfl⟩,by omega⟩
 ·have hje:j=(manL c ds).length:=by omega
  subst hje
  rw [chr gE (by decide)]
  refine iteF (by simp) ?_
  rw [nw (n:=(manL c ds).length) (by omega)]
  have hdj:dgN (manL c ds).length=ds.length+1:=by
   rw [hm]
   unfold dgN
   by_cases hd:ds=[]
   ·rw [if_pos hd,hd];rfl
   grind
  have hall:(c::ds).take (dgN (manL c ds).length)=c::ds:=List.take_of_length_le (by grind)
  rw [hall,hdj,Nat.add_sub_cancel]
  have hxb:∀k,numV (xs.take k)<1000:=fun k=>by
   have h1:=zid1 (zs:=xs.take k) fun z hz'=>hxs z (List.mem_of_mem_take hz')
   have h2:10^(xs.take k).length<=10^3:=Nat.pow_le_pow_right (by decide) (by rw [List.length_take];omega)
   omega
  obtain ⟨y,gy,hy⟩:∃y,xs[0]? =some y/\48<=y/\y<58:=⟨xs[0],List.getElem?_eq_getElem (by omega),hxs _ (List.getElem_mem _)⟩
  have gS2:T[(manL c ds).length+1]? =some (if eneg then 45 else y):=by grind
  rw [chr gS2 (by split<;>omega),decide_eq_true (show (((manL c ds).length+1:Nat):Int)<(T.length:Int) by omega),Bool.true_and]
  refine ⟨fun _=>⟨by omega,by omega⟩,letW ?_⟩
  have hbit:((((if eneg=true then 45 else y:Nat):Nat):Int)==45)=eneg:=by
   grind
  rw [hbit]
  refine JoinW1.intro (fun i k=>k=h/\i=(((manL c ds).length+1+sgnN eneg:Nat):Int)) ?_ ?_
  ·cases eneg with
   | true=>exact iteT rfl ⟨rfl,nw (by omega)⟩
   | false=>exact iteF (by decide) ⟨rfl,rfl⟩
  rintro _ h ⟨rfl,rfl⟩
  have hv0:numV (c::ds)≠0:=by
   have:=(zxx1 (x:=c::ds) (c:=c) rfl hc.1).1
   grind
  refine letW (letW (iteF (fun hh=> ?_) ?_))
  ·rw [zab (by omega) (by omega),Bool.or_eq_true,Bool.or_eq_true] at hh
   rcases hh with (hh | hh) | hh
   ·have:=of_decide_eq_true hh;omega
   ·have:=of_decide_eq_true hh;omega
   grind
  refine LoopW2.intro (fun i e k=>k=h/\∃j:Nat,j<=xs.length/\i=(((manL c ds).length+1+sgnN eneg+j:Nat):Int)/\e=(numV (xs.take j):Int)) (fun i _ _=>(T.length-i).toNat) ⟨rfl,0,by omega,rfl,rfl⟩ ?_
  rintro _ _ h ⟨rfl,j,hj,rfl,rfl⟩
  have hbj:=hxb j
  by_cases hjx:j<xs.length
  ·refine iteT (decide_eq_true (by omega)) ?_
   have gj:=gX hjx
   rw [List.getElem?_eq_getElem hjx] at gj
   have hz:=hxs _ (List.getElem_mem hjx)
   have hnx:=zun (List.getElem?_eq_getElem hjx)
   generalize xs[j]=z at*
   rw [chr gj (by omega)]
   refine ⟨⟨by omega,by omega⟩,fun _=>⟨by omega,by omega⟩,letW (iteF (fun hh=> ?_) ⟨⟨by omega,by omega⟩,?_⟩)⟩
   ·grind
   ·rw [nw (n:=(manL c ds).length+1+sgnN eneg+j) (by omega),byte8,zab (n:=(10:Int)*_) (by omega) (by omega),zab (n:=_%256) (by omega) (by omega),zab (by omega) (by omega)]
    exact ⟨⟨rfl,j+1,by omega,rfl,by rw [hnx];omega⟩,by omega⟩
  ·refine iteF (fun hh=>hjx (by grind)) ?_
   have hx:xs.take j=xs:=List.take_of_length_le (by omega)
   rw [hx] at hbj ⊢
   cases eneg with
   | true=>
    refine iteT rfl ?_
    rw [zab (n:=(0:Int)-_) (by omega) (by omega),zab (by omega) (by omega)]
    grind
   | false=>
    refine iteF (by decide) ?_
    rw [zab (by omega) (by omega)]
    grind
end
end Lf
