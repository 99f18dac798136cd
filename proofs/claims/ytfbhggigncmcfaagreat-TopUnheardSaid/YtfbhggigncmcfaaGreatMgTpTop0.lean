/-
  Part 1 of the texts that the claim leans on.
-/
import Derived.Calls
import Derived.Orders
import Derived.Scope
import Derived.ScopeJumps
import Derived.KernelRfl
import Derived.Laws.Sem
abbrev yw(n:Int):Int:=Go.IntKind.wrap .i64 n
set_option maxRecDepth 100000
namespace Lf
open Go
theorem iV {p:Prop} [Decidable p] (h:p:=by omega):decide p=true:=decide_eq_true h
theorem lz {p:Prop} [Decidable p] {c:Sort _} {a b:c} (h:¬p:=by simp):(if p then a else b)=b:=if_neg h
theorem pN {p:Prop} [Decidable p] {c:Sort _} {a b:c} (h:¬p:=by omega):(if p then a else b)=b:=if_neg h
def Hp :Type:=Nat->Option Obj
def Hp.set (h:Hp) (b:Nat) (o:Obj):Hp:=λi=>if i=b then some o else h i
instance:LE Hp:=⟨λh a=>∀b o,h b=some o->a b=some o⟩
theorem Hp.le_refl (h:Hp):h<=h:=λ_ _ e=>e
theorem Hp.le_trans {a b c:Hp} (h:a<=b) (k:b<=c):a<=c:=λi o e=>k i o (h i o e)
def dd (h:Hp) (a:Addr):Option Value:=
 match h a.block with
 | some (.cells c _ _)=>if a.spot.isSome then none else c[a.off]?
 | _=>none
def gM (h:Hp) (a:Addr):Bool:=
 match h a.block with
 | some (.cells _ _ (c,b))=>c<=a.off&&a.off<b
 | _=>false
def Hp.put (h:Hp) (a:Addr) (v:Value):Hp:=
 match h a.block with
 | some (.cells c e fr)=>h.set a.block (.cells (if a.spot.isSome then c else c.setIfInBounds a.off v) e fr)
 | _=>h
def DX :Obj->Option (TypeId×Nat)
 | .cells c e _=>some (e,c.size)
 | _=>none
def isCells :Obj->Bool
 | .cells .. =>true
 | _=>false
def da {α:Type} (P:Program):Sem α->(α->Hp->Prop)->Hp->Prop
 | .pure a,K,h=>K a h
 | .load _ a k,K,h=>∃v,dd h a=some v/\da P (k v) K h
 | .store _ _ (.agg _) _,_,_ | .store _ _ (.tuple _) _,_,_=>False
 | .store _ a v k,K,h=>(∃v0,dd h a=some v0)/\gM h a=false/\da P k K (h.put a v)
 | .new o k,K,h=>∀b,h b=none->da P (k b) K (h.set b o)
 | .shape r k,K,h=>∃o,h r=some o/\da P (k (DX o)) K h
 | .freeze _ _ _,_,_=>False
 | .frozen a k,K,h=>(∃o,h a.block=some o)/\da P (k (gM h a)) K h
 | .getObj r k,K,h=>∃o,h r=some o/\isCells o=false/\da P (k o) K h
 | .setObj r o k,K,h=>(∃c,h r=some c/\isCells c=false)/\da P k K (h.set r o)
 | .choose q k,K,h=>if q.forced then da P (k 0) K h else ∀t,da P (k (q.cut t)) K h
 | .sys _ _,_,_=>False
 | .program k,K,h=>da P (k P) K h
 | .mark _ k,K,h=>da P k K h
 | .halt _,_,_=>False
def Sub (h:Hp) (w:World):Prop:=∀b o,h b=some o->w.heap[b]? =some o
structure Step (h h':Hp) (w w':World):Prop where
 sub:Sub h' w'
 size:w.heap.size<=w'.heap.size
 bK:∀b,b<w.heap.size->h b=none->w'.heap[b]? =w.heap[b]?/\h' b=none
 os:w'.os=w.os
 tape:w'.tape=w.tape
 output:w'.output=w.output
theorem Sub.lt {h:Hp} {w:World} (a:Sub h w) {b:Nat} {o:Obj} (e:h b=some o):b<w.heap.size:=by have:=a b o e;grind
theorem Sub.mono {h a:Hp} {w:World} (d:Sub a w) (c:h<=a):Sub h w:=λb o e=>d b o (c b o e)
theorem Step.refl {h:Hp} {w:World} (a:Sub h w):Step h h w w:=
 ⟨a,Nat.le_refl _,λ_ _ h=>⟨rfl,h⟩,rfl,rfl,rfl⟩
theorem Step.trans {d e f:Hp} {g h j:World} (a:Step d e g h) (b:Step e f h j):Step d f g j:=by refine ⟨b.sub,Nat.le_trans a.size b.size,λi c k=> ?_,b.os.trans a.os,b.tape.trans a.tape,b.output.trans a.output⟩;have h1:=a.bK i c k;have l:=b.bK i (Nat.lt_of_lt_of_le c a.size) h1.2;grind
theorem Step.drew {h b:Hp} {w c:World} {n:Nat} (a:Step h b {w with drawn:=n} c):Step h b w c:=
 ⟨a.sub,a.size,a.bK,a.os,a.tape,a.output⟩
theorem wT {h:Hp} {w:World} (b:Sub h w) {a:Addr} {v:Value} (e:dd h a=some v):w.cell? a=some v:=by
 unfold dd at e;cases hb:h a.block with
 | none=>simp [hb] at e
 | some o=>have:=b _ _ hb;unfold World.cell?;grind
theorem CO {h:Hp} {w:World} (b:Sub h w) {a:Addr} {o:Obj} (e:h a.block=some o):w.frozen? a=gM h a:=by have:=b _ _ e;unfold World.frozen? gM;grind
theorem EV {h:Hp} {a:Addr} {v:Value} (e:dd h a=some v):
  ∃c t fr,h a.block=some (.cells c t fr)/\a.spot=none/\c[a.off]? =some v:=by
 unfold dd at e;split at e
 ·rename_i c t fr hb;refine ⟨c,t,fr,hb,?_⟩;cases b:a.spot with
  | none=>simp [b] at e;exact ⟨rfl,e⟩
  | some s=>simp [b] at e
 grind
theorem Vq {h:Hp} {a:Addr} {v v0:Value} (e:dd h a=some v0):
  ∃c t fr,h a.block=some (.cells c t fr)/\h.put a v=h.set a.block (.cells (c.setIfInBounds a.off v) t fr):=by
 obtain ⟨c,t,fr,hb,b,_⟩:=EV e;refine ⟨c,t,fr,hb,?_⟩;unfold Hp.put;grind
theorem M9 {h:Hp} {w:World} (c:Sub h w) {b:Nat} {o:Obj} (hb:b<w.heap.size):
  Sub (h.set b o) {w with heap:=w.heap.setIfInBounds b o}:=by
 intro i x e;unfold Hp.set at e;by_cases a:i=b
 ·grind
 ·simp [a] at e;have:=c _ _ e;grind
theorem LM {h:Hp} {w:World} (g:Sub h w) {a:Addr} {v v0:Value} (e:dd h a=some v0):
  Step h (h.put a v) w (w.setCell a v):=by
 obtain ⟨c,t,fr,hb,m⟩:=Vq (v:=v) e;obtain ⟨_,_,_,p,n,_⟩:=EV e;have j:=g.lt hb;have o:w.setCell a v={w with heap:=w.heap.setIfInBounds a.block (.cells (c.setIfInBounds a.off v) t fr)}:=by
  unfold World.setCell;congr 1;apply Array.ext_getElem?;intro i;by_cases d:i=a.block
  ·subst d;rw [Array.getElem?_setIfInBounds_self_of_lt j,Array.getElem?_modify,if_pos rfl,g _ _ hb];simp [n]
  ·rw [Array.getElem?_setIfInBounds_ne (Ne.symm d),Array.getElem?_modify,if_neg (Ne.symm d)]
 rw [m,o];refine ⟨M9 g j,by simp,λb q f=> ?_,rfl,rfl,rfl⟩;have k:b≠a.block:=λl=>by rw [l,hb] at f;cases f
 refine ⟨by simp [Array.getElem?_setIfInBounds_ne (Ne.symm k)],?_⟩;unfold Hp.set;rw [if_neg k];exact f
theorem E4 {h:Hp} {w:World} (d:Sub h w) {r:Nat} {o i:Obj} (e:h r=some i):
  Step h (h.set r o) w {w with heap:=w.heap.setIfInBounds r o}:=by
 have g:=d.lt e;refine ⟨M9 d g,by simp,λb j a=> ?_,rfl,rfl,rfl⟩;have c:b≠r:=λf=>by rw [f,e] at a;cases a
 refine ⟨by simp [Array.getElem?_setIfInBounds_ne (Ne.symm c)],?_⟩;unfold Hp.set;rw [if_neg c];exact a
theorem AN {h:Hp} {w:World} (a:Sub h w) (o:Obj):
  h w.heap.size=none/\Step h (h.set w.heap.size o) w {w with heap:=w.heap.push o}:=by
 have d:h w.heap.size=none:=by
  cases e:h w.heap.size with
  | none=>rfl
  | some x=>exact absurd (a.lt e) (Nat.lt_irrefl _)
 refine ⟨d,?_,by simp,λb hb g=> ?_,rfl,rfl,rfl⟩
 ·intro i x e;unfold Hp.set at e;by_cases c:i=w.heap.size
  ·grind
  ·simp [c] at e;have f:=a.lt e;have:=a _ _ e;grind
 ·refine ⟨by simp [Array.getElem?_push,Nat.ne_of_lt hb],?_⟩;unfold Hp.set;grind
theorem LJ {C:Type} {P:Program} (s:Sem C):∀ {K:C->Hp->Prop} {h:Hp} {w:World},Sub h w->da P s K h->
  ∃a f e,s.run P w=.ok a f/\K a e/\Step h e w f:=by
 induction s with
 | pure a=>intro K h w d b;exact ⟨a,w,h,rfl,b,.refl d⟩
 | load m a k i=>intro K h w d b;obtain ⟨v,hv,b⟩:=b;obtain ⟨x,f,e,l,j,g⟩:=i v d b;exact ⟨x,f,e,by simp only [Sem.run,wT d hv,l],j,g⟩
 | store m a v k i=>
  intro K h w d b;have J:((∃v0,dd h a=some v0)/\gM h a=false/\da P k K (h.put a v))->(∀p,v≠ .agg p)->(∀p,v≠ .tuple p)->
    ∃x f e,(Sem.store m a v k).run P w=.ok x f/\K x e/\Step h e w f:=by
   rintro ⟨⟨v0,A⟩,D,b⟩ G H;have g:=LM (v:=v) d A;obtain ⟨x,f,e,l,j,y⟩:=i g.sub b;refine ⟨x,f,e,?_,j,g.trans y⟩;have E:w.frozen? a=false:=by obtain ⟨c,t,fr,hb,_,_⟩:=EV A;rw [CO d hb];exact D
   cases v<;>first | exact absurd rfl (G _) | exact absurd rfl (H _) | simp only [Sem.run,wT d A,E,l,Bool.false_eq_true,if_false]
  cases v<;>first | exact b.elim | exact J b (by intros;simp) (by intros;simp)
 | new o k i=>intro K h w d b;obtain ⟨F,g⟩:=AN d o;obtain ⟨x,f,e,l,j,y⟩:=i _ g.sub (b _ F);exact ⟨x,f,e,by simp only [Sem.run,l],j,g.trans y⟩
 | shape r k i=>
  intro K h w d b;obtain ⟨o,u,b⟩:=b;obtain ⟨x,f,e,l,j,g⟩:=i _ d b;refine ⟨x,f,e,?_,j,g⟩;simp only [Sem.run];have:w.shape? r=DX o:=by unfold World.shape?;rw [d _ _ u];cases o<;>rfl
  grind
 | freeze a n k i=>intro K h w d b;exact b.elim
 | frozen a k i=>intro K h w d b;obtain ⟨⟨o,u⟩,b⟩:=b;obtain ⟨x,f,e,l,j,g⟩:=i _ d b;refine ⟨x,f,e,?_,j,g⟩;simp only [Sem.run,CO d u];exact l
 | getObj r k i=>intro K h w d b;obtain ⟨o,u,B,b⟩:=b;obtain ⟨x,f,e,l,j,g⟩:=i _ d b;refine ⟨x,f,e,?_,j,g⟩;simp only [Sem.run,d _ _ u];cases o<;>first | exact l | simp [isCells] at B
 | setObj r o k i=>intro K h w d b;obtain ⟨⟨L,u,B⟩,b⟩:=b;have g:=E4 (o:=o) d u;obtain ⟨x,f,e,l,j,y⟩:=i g.sub b;refine ⟨x,f,e,?_,j,g.trans y⟩;simp only [Sem.run,d _ _ u];cases L<;>first | exact l | simp [isCells] at B
 | choose q k i=>
  intro K h w d b;simp only [da] at b;by_cases z:q.forced=true
  ·simp only [z,if_true] at b;obtain ⟨x,f,e,l,j,g⟩:=i _ d b;exact ⟨x,f,e,by simp only [Sem.run,z,if_true,l],j,g⟩
  ·simp only [z,if_false,Bool.false_eq_true] at b;have I:Sub h {w with drawn:=w.drawn+1}:=d;obtain ⟨x,f,e,l,j,g⟩:=i _ I (b (w.tape w.drawn q));exact ⟨x,f,e,by simp only [Sem.run,z,if_false,Bool.false_eq_true,l],j,g.drew⟩
 | sys c k i=>intro K h w d b;exact b.elim
 | program k i=>intro K h w d b;obtain ⟨x,f,e,l,j,g⟩:=i _ d b;exact ⟨x,f,e,by simp only [Sem.run,l],j,g⟩
 | mark m k i=>intro K h w d b;obtain ⟨x,f,e,l,j,g⟩:=i d b;exact ⟨x,f,e,by simp only [Sem.run,l],j,g⟩
 | halt x=>intro K h w d b;exact b.elim
theorem ZR {j:Type} {P:Program} (s:Sem j):∀ {K g:j->Hp->Prop} {h:Hp},(∀a h,K a h->g a h)->da P s K h->da P s g h:=by
 induction s with
 | pure a=>intro K g h e d;exact e _ _ d
 | load m a k f=>rintro K g h e ⟨v,hv,d⟩;exact ⟨v,hv,f _ e d⟩
 | store m a v k f=>intro K g h e d;cases v<;>first | exact d.elim | exact ⟨d.1,d.2.1,f e d.2.2⟩
 | new o k f=>intro K g h e d b hb;exact f _ e (d b hb)
 | shape r k f=>rintro K g h e ⟨o,i,d⟩;exact ⟨o,i,f _ e d⟩
 | freeze a n k f=>intro K g h e d;exact d.elim
 | frozen a k f=>rintro K g h e ⟨i,d⟩;exact ⟨i,f _ e d⟩
 | getObj r k f=>rintro K g h e ⟨o,i,l,d⟩;exact ⟨o,i,l,f _ e d⟩
 | setObj r o k f=>rintro K g h e ⟨i,d⟩;exact ⟨i,f e d⟩
 | choose q k f=>intro K g h e d;simp only [da] at d ⊢;grind
 | sys c k f=>intro K g h e d;exact d.elim
 | program k f=>intro K g h e d;exact f _ e d
 | mark m k f=>intro K g h e d;exact f e d
 | halt x=>intro K g h e d;exact d.elim
theorem CP {d e:Type} {P:Program} (s:Sem d) (f:d->Sem e):∀ {K:e->Hp->Prop} {h:Hp},
  da P (s.bind f) K h↔da P s (λa h=>da P (f a) K h) h:=by
 induction s with
 | pure a=>intro K h;exact Iff.rfl
 | load m a k b=>intro K h;simp only [Sem.bind,da];grind
 | store m a v k b=>intro K h;cases v<;>simp only [Sem.bind,da]<;>first | exact Iff.rfl | grind
 | new o k b=>intro K h;simp only [Sem.bind,da];grind
 | shape r k b=>intro K h;simp only [Sem.bind,da];grind
 | freeze a n k b=>intro K h;exact Iff.rfl
 | frozen a k b=>intro K h;simp only [Sem.bind,da];grind
 | getObj r k b=>intro K h;simp only [Sem.bind,da];grind
 | setObj r o k b=>intro K h;simp only [Sem.bind,da];grind
 | choose q k b=>intro K h;simp only [Sem.bind,da];grind
 | sys c k b=>intro K h;exact Iff.rfl
 | program k b=>intro K h;simp only [Sem.bind,da];exact b _
 | mark m k b=>intro K h;simp only [Sem.bind,da];exact b
 | halt x=>intro K h;exact Iff.rfl
end Lf
namespace Lf
structure cX where
 op:Int
 a:Int
 b:Int
 c:Int
 iQ:Int
def iM (op:Int):Bool×Bool×Bool×Bool:=
 if op=1 then (true,false,false,true)
 else if op=2\/op=20\/op=21\/op=25\/op=26 then (true,true,false,false)
 else if (3<=op/\op<=14)\/(15<=op/\op<=19)\/op=24 then (true,true,true,false)
 else if op=22\/op=29\/op=30 then (false,false,false,true)
 else if op=23 then (true,false,false,true)
 else if op=27\/op=28\/op=31\/op=32\/op=33 then (true,false,false,false)
 else (false,false,false,false)
def di (has:Bool) (n:Int):Int:=if has=false/\n≠0 then 11 else if n<0\/8<=n then 10 else 0
def jj (x:cX) (n ae:Int):Int×Int:=
 if x.op<0\/34<=x.op then (9,0)
 else if di (iM x.op).1 x.a≠0 then (di (iM x.op).1 x.a,1)
 else if di (iM x.op).2.1 x.b≠0 then (di (iM x.op).2.1 x.b,2)
 else if di (iM x.op).2.2.1 x.c≠0 then (di (iM x.op).2.2.1 x.c,3)
 else if (iM x.op).2.2.2=false/\x.iQ≠0 then (11,4)
 else if (x.op=22\/x.op=23)/\(x.iQ<0\/n<x.iQ) then (12,4)
 else if (x.op=29\/x.op=30)/\(x.iQ<0\/ae<=x.iQ) then (13,4)
 else (0,0)
def ko (n ae:Int):List cX->Int->Int×Int
 | [],_=>(0,0)
 | x::r,i=>if (jj x n ae).1≠0 then ((jj x n ae).1,i) else ko n ae r (i+1)
def jJ (l:List cX) (ae:Int):Int×Int:=
 if ae<0\/8<ae then (1,0) else if 256<l.length then (3,256) else ko l.length ae l 0
structure fG where
 part:Int
 code:List cX
structure aE where
 labels:List Int
 table:List Int
 fuel:Int
 lane:Int
 ae:Int
 log:Int
 procs:List fG
def within (n a b:Int):Bool:=decide (a<=n)&&decide (n<=b)
def uz (parts ae:Int):List fG->Int->Int×Int
 | [],_=>(0,0)
 | p::r,i=>if within p.part 0 (parts-1)=false then (2,7+i) else if (jJ p.code ae).1≠0 then ((jJ p.code ae).1,7+i) else uz parts ae r (i+1)
def sE (m:Int) (c:aE):Int×Int:=
 if m≠0 then (m,0)
 else if c.table=[] then (1,1)
 else if 64<c.table.length then (3,1)
 else if c.table.all (λp=>within p 0 (c.labels.length-1))=false then (2,1)
 else if within c.fuel 1 256=false then (2,2)
 else if within c.lane 1 64=false then (2,3)
 else if within c.ae 0 8=false then (2,4)
 else if within c.log 0 4096=false then (2,5)
 else if c.procs=[] then (1,6)
 else if 32<c.procs.length then (3,6)
 else uz c.labels.length c.ae c.procs 0
def cW (n:Int):Nat->List UInt8
 | 0=> []
 | k+1=>UInt8.ofNat (n%256).toNat::cW (n / 256) k
def il :List UInt8->Nat
 | []=>0
 | b::r=>b.toNat+256*il r
theorem mh (n:Int) (k:Nat):(cW n k).length=k:=by
 induction k generalizing n with
 | zero=>rfl
 | succ k a=>simp [cW,a]
theorem wB (n:Int) (k:Nat):(il (cW n k):Int)=n%((256^k:Nat):Int):=by
 induction k generalizing n with
 | zero=>show ((0:Nat):Int)=n%1;omega
 | succ k b=>
  have a:(UInt8.ofNat (n%256).toNat).toNat=(n%256).toNat:=by
   rw [UInt8.toNat_ofNat'];have:(n%256).toNat<256:=by omega
   omega
  have c:=b (n / 256);have e:((256^(k+1):Nat):Int)=256*((256^k:Nat):Int):=by rw [Nat.pow_succ,Int.natCast_mul,Int.mul_comm];rfl
  rw [e];show (((UInt8.ofNat (n%256).toNat).toNat+256*il (cW (n / 256) k):Nat):Int)=_;rw [a];generalize ((256^k:Nat):Int)=q at*;have d:(0:Int)<=n%256:=by omega
  have f:=Int.emod_add_mul_ediv n (256*q);have g:=Int.emod_add_mul_ediv (n / 256) q;have h:=Int.emod_add_mul_ediv n 256;have i:n / (256*q)=n / 256 / q:=(Int.ediv_ediv_of_nonneg (by decide)).symm;grind
theorem yZ :∀l:List UInt8,il l<256^l.length
 | []=>by simp [il]
 | b::r=>by have a:=yZ r;have c:=b.toNat_lt;simp only [il,List.length_cons,Nat.pow_succ];omega
theorem En :∀l:List UInt8,cW (il l:Int) l.length=l
 | []=>rfl
 | b::r=>by
  have d:=b.toNat_lt;have a:(((b.toNat+256*il r:Nat):Int)%256).toNat=b.toNat:=by omega
  have c:((b.toNat+256*il r:Nat):Int) / 256=(il r:Int):=by omega
  simp only [il,List.length_cons,cW];rw [a,c,En r];simp
def mF (x:cX):List UInt8:=cW x.op 1++(cW x.a 1++(cW x.b 1++(cW x.c 1++cW x.iQ 8)))
def ru (l:List cX):List UInt8:=l.flatMap mF
def gu (p:fG):List UInt8:=cW p.part 1++(cW p.code.length 2++ru p.code)
def mz (c:aE):List UInt8:=
 [70,66,67,70,1]++(cW c.labels.length 1++(c.labels.flatMap (λa=>cW a 8)++(cW c.table.length 1++(c.table.flatMap (λa=>cW a 1)++
  (cW c.fuel 2++(cW c.lane 1++(cW c.ae 1++(cW c.log 2++(cW c.procs.length 1++c.procs.flatMap gu)))))))))
structure qY where
 tick:Int
 proc:Int
 value:Int
structure mU where
 proc:Int
 value:Int
structure bq where
 values:List Int
 waiters:List mU
 taken:Int
 dropped:Int
structure ak where
 state:Int
 pc:Int
 bw:List Int
 ah:Int
 timer:Int
 bL:Bool
 cv:Int
 aj:List bq
structure dv where
 ah:Int
 log:List qY
 lost:Int
 forbidden:Int
 aB:List Int
 av:List (List Int)
structure fT where
 tick:Int
 parts:List dv
 procs:List ak
section
variable (c:aE) (s:fT)
def EI (p:Int) (i:Nat):Prop:=0<=p/\∃y,c.procs[p.toNat]? =some y/\y.part=(i:Int)
def O7 (p:Int) (q:ak->Prop):Prop:=∃x,s.procs[p.toNat]? =some x/\q x
def vS (i:Nat):Nat:=(c.procs.filter λy=>decide (y.part=(i:Int))).length
def kj (n:Int):Prop:=0<=n/\n<=65535
def rI (y:fG) (pc:Int):Option cX:=if 0<=pc then y.code[pc.toNat]? else none
def xI (i:Nat):Int->List qY->Prop
 | _,[]=>True
 | last,e::r=>last<=e.tick/\e.tick<s.tick/\EI c e.proc i/\xI i e.tick r
def Fj (i:Nat) (x:dv):Prop:=
 (0<=x.ah/\(0<x.ah->x.ah<vS c i)/\(x.log.length:Int)<=c.log)/\xI c s i 0 x.log/\kj x.lost/\kj x.forbidden/\(0<x.lost->c.log<=x.log.length)/\
 (x.aB.length:Int)=c.ae/\(x.av.length:Int)=c.ae/\∀p∈x.aB,p≠ -1->EI c p i/\O7 s p λz=>z.state≠5/\z.state≠6
def uG (l:bq):Prop:=l.values≠ []\/0<l.taken\/0<l.dropped
def tM (fl:Nat->Int->Prop) (x:ak) (y:fG):Prop:=
 (0<=x.state/\x.state<=6)/\(0<=x.pc/\x.pc<=y.code.length)/\x.aj.length=c.labels.length+1/\(0<=x.ah/\x.ah<x.aj.length)/\
 (0<=x.timer/\x.timer<=s.tick+1099511627776)/\(0<=x.cv/\x.cv<=s.tick+1099511627776)/\(0<x.cv↔x.state=4)/\
 (x.state=5\/x.state=6->x.timer=0/\x.bL=false)/\
 (∀(i:Nat) l,x.aj[i]? =some l->(l.values.length:Int)<=c.lane/\kj l.taken/\kj l.dropped/\(uG l->i<c.labels.length->fl i y.part))/\
 (x.state=1->(∃n,rI y x.pc=some n/\n.op=25)/\(∀l∈x.aj,l.values=[])/\x.bL=false)/\
 (x.state=2->∃n,rI y x.pc=some n/\n.op=24)/\(x.state=3->∃n,rI y x.pc=some n/\n.op=29)/\(x.state=4->∃n,rI y x.pc=some n/\n.op=28)
def Nf (p:Int) (q:ak->cX->Prop):Prop:=∃x y n,s.procs[p.toNat]? =some x/\c.procs[p.toNat]? =some y/\rI y x.pc=some n/\q x n
def Vs (p v:Int) (r:Nat):Prop:=Nf c s p λx n=>x.state=2/\n.op=24/\x.bw[n.b.toNat]? =some (r:Int)/\x.bw[n.c.toNat]? =some v
def nE (p:Int) (x:dv):Nat:=(x.av.map λq=>q.countP (λz=>decide (z=p))).sum
def vC (p:Int) (l:bq):Nat:=l.waiters.countP λw=>decide (w.proc=p)
def nD (p:Int) (x:ak):Nat:=(x.aj.map (vC p)).sum
def Jg :Prop:=
 (∀(i:Nat) x,s.parts[i]? =some x->∀(k:Nat) q,x.av[k]? =some q->∀p∈q,EI c p i/\(Nf c s p λz n=>z.state=3/\n.iQ=(k:Int))/\∃o,x.aB[k]? =some o/\0<=o/\o≠p)/\
 (∀(r:Nat) x y,s.procs[r]? =some x->c.procs[r]? =some y->∀(i:Nat) l,x.aj[i]? =some l->∀w∈l.waiters,(i:Int)=y.part/\EI c w.proc i/\(x.state≠5/\x.state≠6)/\(l.values.length:Int)=c.lane/\Vs c s w.proc w.value r)/\
 (∀(p:Nat) x,s.procs[p]? =some x->(s.parts.map (nE (p:Int))).sum+(s.procs.map (nD (p:Int))).sum=if x.state=3\/x.state=2 then 1 else 0)
def Vu :Prop:=(0<=s.tick/\s.tick<=4611686018427387904)/\s.parts.length=c.labels.length/\s.procs.length=c.procs.length
def vp (fl:Nat->Int->Prop):Prop:=
 Vu c s/\(∀(i:Nat) x,s.parts[i]? =some x->Fj c s i x)/\(∀(p:Nat) x y,s.procs[p]? =some x->c.procs[p]? =some y->tM c s fl x y)/\Jg c s
end
theorem wC {b:Type} (f:b->Nat):∀(l:List b) (i:Nat),(∀j x,l[j]? =some x->j≠i->f x=0)->(l.map f).sum=((l[i]?).map f).getD 0
 | [],i,_=>by simp
 | x::r,0,h=>by
  have:(r.map f).sum=0:=by rw [List.sum_eq_zero_iff_forall_eq_nat];intro y d;obtain ⟨z,e,rfl⟩:=List.mem_map.1 d;obtain ⟨j,a⟩:=List.getElem?_of_mem e;exact h (j+1) z (by simpa using a) (by omega)
  simp [this]
 | x::r,i+1,h=>by have c:=h 0 x rfl (by omega);have:=wC f r i λj y a g=>h (j+1) y (by simpa using a) (by omega);simp [c,this]
end Lf
namespace Lf
open Go
def cp {α:Type} (f:Nat->α) (i:Nat) (x:α):Nat->α:=λj=>if j=i then x else f j
theorem ki {a:Type} {f:Nat->a} {i:Nat} {x:a}:cp f i x i=x:=if_pos rfl
theorem kA {a:Type} {f:Nat->a} {i j:Nat} {x:a} (h:j≠i):cp f i x j=f j:=if_neg h
theorem Q7 {a b:Type} (g:a->b) {f:Nat->a} {i:Nat} {x:a}:(λj=>g (cp f i x j))=cp (λj=>g (f j)) i (g x):=by funext j;unfold cp;split<;>rfl
theorem zd {a:Type} {f:Nat->a} {i:Nat}:cp f i (f i)=f:=by
 funext j;unfold cp;split
 ·rename_i h;rw [h]
 ·rfl
theorem LK {a:Type} {f:Nat->a} {i:Nat} {x y:a}:cp (cp f i x) i y=cp f i y:=by funext j;unfold cp;split<;>rfl
structure MS where
 tick:Int
 part:Nat->dv
 proc:Nat->ak
def MS.aL (s:MS) (p:Nat) (x:ak):MS:=⟨s.tick,s.part,cp s.proc p x⟩
def MS.dh (s:MS) (i:Nat) (x:dv):MS:=⟨s.tick,cp s.part i x,s.proc⟩
def az (c:aE) (p:Nat):Nat:=((c.procs[p]?).map λy=>y.part.toNat).getD 0
def gF (c:aE) (p:Nat):List cX:=((c.procs[p]?).map λy=>y.code).getD []
def nP (c:aE):Nat:=c.labels.length
def nQ (c:aE):Nat:=c.procs.length
def MS.list (c:aE) (s:MS):fT:=⟨s.tick,(List.range (nP c)).map s.part,(List.range (nQ c)).map s.proc⟩
def ie (l:List cX) (pc:Int):Option cX:=if 0<=pc then l[pc.toNat]? else none
def j8 (r:List Int) (i v:Int):List Int:=if 0<=i/\i<8 then r.set i.toNat v else r
def fA (r:List Int) (i:Int):Int:=r.getD i.toNat 0
structure Core where
 pc:Int
 bw:List Int
def ak.core (x:ak):Core:=⟨x.pc,x.bw⟩
def ak.put (x:ak) (k:Core):ak:={x with pc:=k.pc,bw:=k.bw}
def fP (k:Core):Core:=⟨k.pc+1,k.bw⟩
def lf (l:List cX) (k:Core) (v:Int):Core:=match ie l k.pc with
 | some n=>⟨k.pc+1,j8 k.bw n.a v⟩
 | none=>fP k
def gP (l:List cX) (k:Core) (v from_:Int):Core:=match ie l k.pc with
 | some n=>⟨k.pc+1,j8 (j8 k.bw n.a v) n.b from_⟩
 | none=>fP k
structure Want where
 kind:Int
 to:Int
 value:Int
def lT (x:cX) (r:List Int):Option (Want×Bool):=
 if x.op=0 then some (⟨1,0,0⟩,true)
 else if x.op=24 then some (⟨2,fA r x.b,fA r x.c⟩,true)
 else if x.op=25 then some (⟨3,0,0⟩,true)
 else if x.op=26 then some (⟨4,0,0⟩,true)
 else if x.op=27 then some (⟨5,0,fA r x.a⟩,false)
 else if x.op=28 then some (⟨6,0,fA r x.a⟩,true)
 else if x.op=29 then some (⟨7,x.iQ,0⟩,true)
 else if x.op=30 then some (⟨8,x.iQ,0⟩,false)
 else if x.op=31 then some (⟨9,0,fA r x.a⟩,false)
 else none
def tg (D:Int->Int->Int->Int) (x:cX) (k:Core) (tick d:Int):Core:=
 if x.op=1 then ⟨k.pc+1,j8 k.bw x.a x.iQ⟩
 else if x.op=2 then ⟨k.pc+1,j8 k.bw x.a (fA k.bw x.b)⟩
 else if x.op=32 then ⟨k.pc+1,j8 k.bw x.a tick⟩
 else if x.op=33 then ⟨k.pc+1,j8 k.bw x.a d⟩
 else if x.op=22 then ⟨x.iQ,k.bw⟩
 else if x.op=23 then if fA k.bw x.a=0 then fP k else ⟨x.iQ,k.bw⟩
 else ⟨k.pc+1,j8 k.bw x.a (D x.op (fA k.bw x.b) (fA k.bw x.c))⟩
def gO (D:Int->Int->Int->Int) (l:List cX) (k:Core) (tick self:Int):Core×Want:=match ie l k.pc with
 | none=>(k,⟨1,0,0⟩)
 | some x=>if (jj x l.length 8).1≠0 then (k,⟨1,0,0⟩) else match lT x k.bw with
  | some (w,a)=>(if a then k else fP k,w)
  | none=>(tg D x k tick self,⟨0,0,0⟩)
section
variable (c:aE) (D:Int->Int->Int->Int) (fl:Nat->Nat->Bool)
def more (n:Int):Int:=if n+1<=65535 then n+1 else 65535
def kB (x:ak):Bool:=decide (x.state≠5)&&decide (x.state≠6)
def vL (x:ak) (k:Core):ak:={x with state:=0,pc:=k.pc,bw:=k.bw}
def qv (s:MS) (p:Nat):MS:=s.aL p (vL (s.proc p) (fP (s.proc p).core))
def gW (s:MS) (lG:Int):MS:=if 0<=lG then qv s lG.toNat else s
def bV (s:MS) (p:Nat) (v:Int):MS:=s.aL p (vL (s.proc p) (lf (gF c p) (s.proc p).core v))
def dR (x:ak):ak:={x with state:=if x.state=1 then 0 else x.state}
def bz (x:ak) (i:Nat) (f:bq->bq):ak:={x with aj:=x.aj.modify i f}
def sN (v:Int) (l:bq):bq:={l with values:=l.values++ [v]}
def jM (l:bq):bq:={l with dropped:=more l.dropped}
def im (p v:Int) (l:bq):bq:={l with waiters:=l.waiters++ [⟨p,v⟩]}
def ff (x:ak) (i:Nat):Bool:=match x.aj[i]? with
 | some l=>decide (c.lane<=(l.values.length:Int))
 | none=>true
def jx (s:MS) (p:Nat) (to v:Int):MS:=
 if to<0\/(nQ c:Int)<=to then bV c s p 1
 else if fl (az c p) (az c to.toNat)=false then bV c (s.dh (az c p) {s.part (az c p) with forbidden:=more (s.part (az c p)).forbidden}) p 0
 else if az c p=az c to.toNat then
  if kB (s.proc to.toNat)=false then bV c s p 2
  else if ff c (s.proc to.toNat) (az c p) then
   let s1:=s.aL to.toNat (bz (s.proc to.toNat) (az c p) (im p v))
   s1.aL p {s1.proc p with state:=2}
  else bV c (s.aL to.toNat (dR (bz (s.proc to.toNat) (az c p) (sN v)))) p 0
 else if kB (s.proc to.toNat)=false\/ff c (s.proc to.toNat) (az c p) then bV c (s.aL to.toNat (bz (s.proc to.toNat) (az c p) jM)) p 0
 else bV c (s.aL to.toNat (dR (bz (s.proc to.toNat) (az c p) (sN v)))) p 0
def pT (ah:Int) (l:List bq):Option Nat:=
 ((List.range l.length).map λk=>(ah.toNat+k)%l.length).find? λi=>match l[i]? with
  | some x=> !x.values.isEmpty
  | none=>false
def dQ (l:bq):bq:=match l.waiters with
 | []=>{l with values:=l.values.tail,taken:=more l.taken}
 | w::r=>{l with values:=l.values.tail++ [w.value],waiters:=r,taken:=more l.taken}
def jb (s:MS) (p:Nat) (a:Bool):MS:=
 let x:=s.proc p
 match pT x.ah x.aj with
 | some i=>
  let l:=x.aj.getD i ⟨[],[],0,0⟩;let b:={bz x i dQ with ah:=((i+1:Nat):Int)%(x.aj.length:Int)};let s1:=s.aL p (b.put (gP (gF c p) x.core (l.values.headD 0) i))
  match l.waiters with
  | []=>s1
  | w::_=>bV c s1 w.proc.toNat 0
 | none=>
  if x.bL then s.aL p {x.put (gP (gF c p) x.core 0 (-2)) with bL:=false}
  else if a then s.aL p (x.put (gP (gF c p) x.core 0 (-1)))
  else s.aL p {x with state:=1}
def iL {b:Type} (f:b->Bool):List b->List b
 | []=> []
 | a::l=>if f a then l else a::iL f l
def nz (p:Int) (x:ak):ak:={x with aj:=x.aj.map λl=>{l with waiters:=iL (λw=>decide (w.proc=p)) l.waiters}}
def jk (p:Int):List Int->List (List Int)->List Int×List (List Int)×List Int
 | o::os,q::qs=>
  let r:=jk p os qs
  if o=p then match q with
   | []=>(-1::r.1,[]::r.2.1, -1::r.2.2)
   | a::b=>(a::r.1,b::r.2.1,a::r.2.2)
  else (o::r.1,q::r.2.1,r.2.2)
 | os,qs=>(os,qs,[])
def pZ (p:Int) (x:dv):dv×List Int:=
 let r:=jk p x.aB (x.av.map (iL λz=>decide (z=p)))
 ({x with aB:=r.1,av:=r.2.1},r.2.2)
def lZ (s:MS) (p:Nat) (st:Int):MS:=
 let i:=az c p;let s1:=s.aL p {s.proc p with state:=st,bL:=false};let s2:MS:=⟨s1.tick,s1.part,λq=>if q<nQ c/\az c q=i then nz p (s1.proc q) else s1.proc q⟩;let r:=pZ p (s2.part i);let b:=r.2.foldl gW (s2.dh i r.1);let a:=b.aL p {b.proc p with timer:=0,cv:=0};let d:=(a.proc p).aj.flatMap (·.waiters)
 d.foldl (λs w=>bV c s w.proc.toNat 2) (a.aL p {a.proc p with aj:=(a.proc p).aj.map λl=>{l with waiters:=[]}})
def qS (s:MS) (p:Nat) (v:Int):MS:=
 let x:=s.part (az c p)
 s.dh (az c p) (if (x.log.length:Int)<c.log then {x with log:=x.log++ [⟨s.tick,p,v⟩]} else {x with lost:=more x.lost})
def iX (s:MS) (p:Nat) (n:Int):MS:=
 let x:=s.part (az c p);let o:=x.aB.getD n.toNat 0
 if o= -1\/o=p then goK (s.dh (az c p) {x with aB:=x.aB.set n.toNat p}) p
 else (s.dh (az c p) {x with av:=x.av.modify n.toNat (· ++ [(p:Int)])}).aL p {s.proc p with state:=3}
where
 goK (s:MS) (p:Nat):MS:=s.aL p ((s.proc p).put (fP (s.proc p).core))
def uv (s:MS) (p:Nat) (n:Int):MS:=
 let x:=s.part (az c p)
 if x.aB.getD n.toNat (-1)=p then match x.av.getD n.toNat [] with
  | []=>s.dh (az c p) {x with aB:=x.aB.set n.toNat (-1)}
  | a::r=>gW (s.dh (az c p) {x with aB:=x.aB.set n.toNat a,av:=x.av.set n.toNat r}) a
 else s
def qR (a b:Int):Int:=if a<=b then a else b
def vT (a b:Int):Int:=if a<=b then b else a
def tU (s:MS) (p:Nat):MS:=
 let r:=gO D (gF c p) (s.proc p).core s.tick p;let s1:=s.aL p ((s.proc p).put r.1);let w:=r.2
 if w.kind=1 then lZ c s1 p 5
 else if w.kind=2 then jx c fl s1 p w.to w.value
 else if w.kind=3 then jb c s1 p false
 else if w.kind=4 then jb c s1 p true
 else if w.kind=5 then s1.aL p {s1.proc p with bL:=false,timer:=if 0<w.value then s.tick+qR w.value 1099511627776 else 0}
 else if w.kind=6 then s1.aL p {s1.proc p with state:=4,cv:=s.tick+qR (vT w.value 1) 1099511627776}
 else if w.kind=7 then iX c s1 p w.to
 else if w.kind=8 then uv c s1 p w.to
 else if w.kind=9 then qS c s1 p w.value
 else s1
def mD (t:Int) (x:ak):ak:=
 let y:ak:=if 0<x.cv/\x.cv<=t then {x with cv:=0,state:=0,pc:=x.pc+1} else x
 if 0<y.timer/\y.timer<=t then {y with timer:=0,bL:=true,state:=if y.state=1 then 0 else y.state} else y
def iv (s:MS) (i:Nat):MS:=⟨s.tick,s.part,λq=>if q<nQ c/\az c q=i then mD s.tick (s.proc q) else s.proc q⟩
def dT (i:Nat):List Nat:=(List.range (nQ c)).filter λq=>decide (az c q=i)
def iY (s:MS) (i:Nat):Option Nat:=
 ((List.range (dT c i).length).map λk=>((s.part i).ah.toNat+k)%(dT c i).length).find? λa=>decide ((s.proc ((dT c i).getD a 0)).state=0)
def jR (s:MS) (i a:Nat):MS:=tU c D fl (s.dh i {s.part i with ah:=((a+1:Nat):Int)%((dT c i).length:Int)}) ((dT c i).getD a 0)
def mo (i:Nat):Nat->MS->MS
 | 0,s=>s
 | n+1,s=>match iY c s i with
  | none=>s
  | some a=>mo i n (jR c D fl s i a)
def iT (t:Int):Nat:=(c.table.getD (t.toNat%c.table.length) 0).toNat
def jy (s:MS):MS:=
 let s1:=mo c D fl (iT c s.tick) c.fuel.toNat (iv c s (iT c s.tick))
 ⟨s1.tick+1,s1.part,s1.proc⟩
def q9 (s:MS) (p:Int):Int:=if p<0\/(nQ c:Int)<=p then 17 else if kB (s.proc p.toNat)=false then 18 else 0
def zip (s:MS) (p v:Int):MS×Int:=
 if q9 c s p≠0 then (s,q9 c s p)
 else if ff c (s.proc p.toNat) (nP c) then (s.aL p.toNat (bz (s.proc p.toNat) (nP c) jM),19)
 else (s.aL p.toNat (dR (bz (s.proc p.toNat) (nP c) (sN v))),0)
def iD (s:MS) (p:Int):MS×Int:=
 if q9 c s p≠0 then (s,q9 c s p) else (lZ c s p.toNat 6,0)
def qF :MS:=⟨0,λ_=>⟨0,[],0,0,List.replicate c.ae.toNat (-1),List.replicate c.ae.toNat []⟩,
 λ_=>⟨0,0,List.replicate 8 0,0,0,false,0,List.replicate (nP c+1) ⟨[],[],0,0⟩⟩⟩
end
section
variable (c:aE) (fl:Nat->Nat->Bool)
def dP (p:Nat) (x:ak):Option cX:=ie (gF c p) x.pc
def OK (T:Int) (i:Nat) (l:List qY):Prop:=
 l.Pairwise (λa b=>a.tick<=b.tick)/\∀e∈l,0<=e.tick/\e.tick<T/\0<=e.proc/\e.proc.toNat<nQ c/\az c e.proc.toNat=i
structure vt (T:Int) (i:Nat) (x:dv):Prop where
 cur:0<=x.ah/\(0<x.ah->x.ah<(dT c i).length)
 kG:(x.log.length:Int)<=c.log
 log:OK c T i x.log
 lost:kj x.lost
 me:kj x.forbidden
 full:0<x.lost->c.log<=x.log.length
 ij:(x.aB.length:Int)=c.ae
 jg:(x.av.length:Int)=c.ae
structure cR (t:Int) (p:Nat) (z:Prop) (x:ak):Prop where
 st:0<=x.state/\x.state<=6
 pc:0<=x.pc/\x.pc<=(gF c p).length
 mS:x.aj.length=nP c+1
 cur:0<=x.ah/\x.ah<x.aj.length
 nO:0<=x.timer/\x.timer<=t+1099511627776
 nR:0<=x.cv/\x.cv<=t+1099511627776
 pe:z\/(0<x.cv↔x.state=4)
 dead:x.state=5\/x.state=6->(z\/x.timer=0)/\x.bL=false
 dS:∀(i:Nat) l,x.aj[i]? =some l->(l.values.length:Int)<=c.lane/\kj l.taken/\kj l.dropped/\(uG l->i<nP c->fl i (az c p)=true)
 recv:x.state=1->(∃n,dP c p x=some n/\n.op=25)/\(∀l∈x.aj,l.values=[])/\x.bL=false
 snd:x.state=2->∃n,dP c p x=some n/\n.op=24
 qO:x.state=3->∃n,dP c p x=some n/\n.op=29
 jQ:x.state=4->∃n,dP c p x=some n/\n.op=28
 bw:x.bw.length=8
variable (s:MS) (X Z:Nat->Prop)
def qI (i k:Nat) (z:Int):Prop:=
 0<=z/\z.toNat<nQ c/\az c z.toNat=i/\¬X z.toNat/\(Z z.toNat\/((s.proc z.toNat).state=3/\∃n,dP c z.toNat (s.proc z.toNat)=some n/\n.op=29/\n.iQ=(k:Int)))
def nC (i r:Nat) (w:mU):Prop:=
 0<=w.proc/\w.proc.toNat<nQ c/\az c w.proc.toNat=i/\¬X w.proc.toNat/\
  (Z w.proc.toNat\/((s.proc w.proc.toNat).state=2/\∃n,dP c w.proc.toNat (s.proc w.proc.toNat)=some n/\n.op=24/\fA (s.proc w.proc.toNat).bw n.b=(r:Int)/\fA (s.proc w.proc.toNat).bw n.c=w.value))
structure Good (T:Int):Prop where
 tick:0<=s.tick
 part:∀i,i<nP c->vt c T i (s.part i)
 proc:∀p,p<nQ c->cR c fl s.tick p (Z p) (s.proc p)
 own:∀i,i<nP c->∀(k:Nat) o,(s.part i).aB[k]? =some o->o= -1\/(0<=o/\o.toNat<nQ c/\az c o.toNat=i/\(kB (s.proc o.toNat)=true\/Z o.toNat))
 jf:∀i,i<nP c->∀(k:Nat) q,(s.part i).av[k]? =some q->q.Nodup/\(∀z∈q,qI c s X Z i k z)/\(q≠ []->∃o,(s.part i).aB[k]? =some o/\o≠ -1/\o∉q)
 dS:∀r,r<nQ c->∀(i:Nat) l,(s.proc r).aj[i]? =some l->(l.waiters.map (·.proc)).Nodup/\(l.waiters≠ []->i=az c r/\(kB (s.proc r)=true\/Z r)/\(l.values.length:Int)=c.lane)/\∀w∈l.waiters,nC c s X Z i r w
 sM:∀p,p<nQ c->¬X p->(s.proc p).state=3->∃(k:Nat) (q:List Int),(s.part (az c p)).av[k]? =some q/\(p:Int)∈q
 sL:∀p,p<nQ c->¬X p->(s.proc p).state=2->∃r,r<nQ c/\∃l,(s.proc r).aj[az c p]? =some l/\∃w∈l.waiters,w.proc=(p:Int)
end
structure cf (c:aE):Prop where
 parts:1<=nP c/\nP c<=8
 table:c.table≠ []/\c.table.length<=64/\∀i∈c.table,0<=i/\i<(nP c:Int)
 fuel:1<=c.fuel/\c.fuel<=256
 lane:1<=c.lane/\c.lane<=64
 ae:0<=c.ae/\c.ae<=8
 log:0<=c.log/\c.log<=4096
 procs:1<=nQ c/\nQ c<=32
 part:∀y∈c.procs,0<=y.part/\y.part<(nP c:Int)
 code:∀y∈c.procs,y.code.length<=256/\∀x∈y.code,(jj x y.code.length c.ae).1=0
section
variable {c:aE} {fl:Nat->Nat->Bool} {s:MS} {X Z:Nat->Prop} {T:Int}
theorem cf.fi (m:cf c) {p:Nat}:az c p<nP c:=by
 unfold az;cases h:c.procs[p]? with
 | none=>simp;have:=m.parts;omega
 | some y=>have:=m.part y (List.mem_of_getElem? h);simp;omega
theorem cf.og (m:cf c) {p:Nat}:(gF c p).length<=256:=by
 unfold gF;cases h:c.procs[p]? with
 | none=>simp
 | some y=>exact (m.code y (List.mem_of_getElem? h)).1
theorem cf.ins (m:cf c) {p:Nat} {x:ak} {n:cX} (h:dP c p x=some n):(jj n (gF c p).length c.ae).1=0/\0<=x.pc/\x.pc<(gF c p).length:=by
 unfold dP ie at h;split at h
 ·rename_i b;have a:=List.mem_of_getElem? h;have d:=(List.getElem?_eq_some_iff.1 h).1;refine ⟨?_,b,by omega⟩;unfold gF at a ⊢;cases e:c.procs[p]? with
  | none=>grind
  | some y=>rw [e] at a;exact (m.code y (List.mem_of_getElem? e)).2 n a
 ·cases h
theorem dm {x:ak}:kB x=true↔x.state≠5/\x.state≠6:=by unfold kB;simp
theorem Tz {p:Prop} [Decidable p] {e:Int} {i:Int} {r:Int×Int} (a:e≠0) (h:(if p then (e,i) else r).1=0):¬p/\r.1=0:=by grind
theorem TB {has:Bool} {v:Int} {i:Int} {r:Int×Int} (h:(if di has v≠0 then (di has v,i) else r).1=0):di has v=0/\r.1=0:=by grind
theorem DY {v:Int} (h:di true v=0):0<=v/\v<8:=by unfold di at h;omega
theorem yg {n:cX} {k l:Int} (h:(jj n k l).1=0):(0<=n.op/\n.op<34)/\di (iM n.op).1 n.a=0/\di (iM n.op).2.1 n.b=0/\di (iM n.op).2.2.1 n.c=0/\
  ((n.op=22\/n.op=23)->0<=n.iQ/\n.iQ<=k)/\((n.op=29\/n.op=30)->0<=n.iQ/\n.iQ<l):=by
 unfold jj at h;obtain ⟨d,h⟩:=Tz (by decide) h;obtain ⟨e,h⟩:=TB h;grind
theorem Ou {n:cX} {k l:Int} (h:(jj n k l).1=0) (a:n.op=29\/n.op=30):0<=n.iQ/\n.iQ<l:=(yg h).2.2.2.2.2 a
theorem YW {n:cX} {k l:Int} (h:(jj n k l).1=0) (g:n.op=24):(0<=n.a/\n.a<8)/\(0<=n.b/\n.b<8)/\(0<=n.c/\n.c<8):=by obtain ⟨_,d,e,f,_⟩:=yg h;rw [g] at d e f;exact ⟨DY d,DY e,DY f⟩
end
section
variable {c:aE} {fl:Nat->Nat->Bool} {s:MS} {X Z:Nat->Prop} {T:Int} {p:Nat} {x':ak}
theorem fX {s:MS} {p:Nat} {x:ak}:(s.aL p x).proc p=x:=ki
theorem jc {s:MS} {p q:Nat} {x:ak} (h:q≠p):(s.aL p x).proc q=s.proc q:=kA h
theorem AI {s:MS} {p:Nat} {x y:ak}:(s.aL p x).aL p y=s.aL p y:=by unfold MS.aL;rw [LK]
theorem uw {s:MS} {i:Nat} {x:dv}:(s.dh i x).part i=x:=ki
theorem u4 {s:MS} {i j:Nat} {x:dv} (h:j≠i):(s.dh i x).part j=s.part j:=kA h
def Out (s:MS) (X Z:Nat->Prop) (p:Nat):Prop:=¬Z p/\(X p\/((s.proc p).state≠2/\(s.proc p).state≠3))
theorem qI.out {i k:Nat} {z:Int} (h:qI c s X Z i k z) (o:Out s X Z p):z.toNat≠p:=λe=>by
 subst e;obtain ⟨_,_,_,a,h2⟩:=h;rcases o.2 with o2 | o2
 ·exact a o2
 ·rcases h2 with h2 | h2
  ·exact o.1 h2
  ·exact o2.2 h2.1
theorem nC.out {i r:Nat} {w:mU} (h:nC c s X Z i r w) (o:Out s X Z p):w.proc.toNat≠p:=λe=>by
 subst e;obtain ⟨_,_,_,a,h2⟩:=h;rcases o.2 with o2 | o2
 ·exact a o2
 ·rcases h2 with h2 | h2
  ·exact o.1 h2
  ·exact o2.1 h2.1
theorem qI.bK {b:MS} {a:Nat->Prop} {i k:Nat} {z:Int} (h:qI c s X Z i k z) (m:a z.toNat->X z.toNat) (e:b.proc z.toNat=s.proc z.toNat):qI c b a Z i k z:=by obtain ⟨d,f,g,j,l⟩:=h;exact ⟨d,f,g,λh=>j (m h),by rw [e];exact l⟩
theorem nC.bK {b:MS} {a:Nat->Prop} {i r:Nat} {w:mU} (h:nC c s X Z i r w) (l:a w.proc.toNat->X w.proc.toNat) (e:b.proc w.proc.toNat=s.proc w.proc.toNat):nC c b a Z i r w:=by obtain ⟨d,f,g,j,k⟩:=h;exact ⟨d,f,g,λh=>j (l h),by rw [e];exact k⟩
theorem Good.run (g:Good c fl s X Z T) (o:Out s X Z p) (pm:cR c fl s.tick p (Z p) x') (A:x'.state≠2/\x'.state≠3) (v:x'.aj=(s.proc p).aj) (hv:kB (s.proc p)=true->kB x'=true):
  Good c fl (s.aL p x') (λq=>X q/\q≠p) Z T where
 tick:=g.tick
 part:=g.part
 proc q hq:=by
  by_cases e:q=p
  ·subst e;rw [fX];exact pm
  ·rw [jc e];exact g.proc q hq
 own i hi k ow h:=by
  rcases g.own i hi k ow h with h | ⟨n,f,j,t⟩
  ·exact .inl h
  ·refine .inr ⟨n,f,j,t.imp (λt=> ?_) id⟩;by_cases e:ow.toNat=p
   ·rw [e,fX];grind
   ·rw [jc e];exact t
 jf i hi k q h:=by obtain ⟨n,f,j⟩:=g.jf i hi k q h;exact ⟨n,λz y=>(f z y).bK (λh=>h.1) (jc ((f z y).out o)),j⟩
 dS r u i l h:=by
  have e:((s.aL p x').proc r).aj=(s.proc r).aj:=by
   by_cases e:r=p
   ·subst e;rw [fX];exact v
   ·rw [jc e]
  rw [e] at h;obtain ⟨n,f,j⟩:=g.dS r u i l h;refine ⟨n,λm=> ?_,λw m=>(j w m).bK (λh=>h.1) (jc ((j w m).out o))⟩;obtain ⟨a,b,d⟩:=f m;refine ⟨a,b.imp (λb=> ?_) id,d⟩;by_cases e:r=p
  ·subst e;rw [fX];exact hv b
  ·rw [jc e];exact b
 sM q hq hx j:=by
  by_cases e:q=p
  ·subst e;rw [fX] at j;omega
  ·rw [jc e] at j;exact g.sM q hq (λh=>hx ⟨h,e⟩) j
 sL q hq hx f:=by
  by_cases e:q=p
  ·subst e;rw [fX] at f;omega
  ·rw [jc e] at f;obtain ⟨r,u,l,x,m⟩:=g.sL q hq (λh=>hx ⟨h,e⟩) f;refine ⟨r,u,l,?_,m⟩;by_cases e:r=p
   ·subst e;rw [fX,v];exact x
   ·rw [jc e];exact x
theorem Good.aj {X':Nat->Prop} (g:Good c fl s X Z T) (pm:cR c fl s.tick p (Z p) x') (c0:x'.state=(s.proc p).state\/((s.proc p).state=1/\x'.state=0)) (b8:x'.pc=(s.proc p).pc) (hr:x'.bw=(s.proc p).bw)
  (hl:x'.aj.length=(s.proc p).aj.length) (Q:∀(i:Nat) l o,(s.proc p).aj[i]? =some l->x'.aj[i]? =some o->o.waiters.Sublist l.waiters/\(o.waiters≠ []->(o.values.length:Int)=c.lane)/\∀w∈l.waiters,w∈o.waiters\/X' w.proc.toNat)
  (hp:p<nQ c) (S:∀q,X q->X' q) (K:∀q,X' q->X q\/(¬Z q/\∃(i:Nat) (l o:bq) (w:mU),(s.proc p).aj[i]? =some l/\x'.aj[i]? =some o/\w∈l.waiters/\w.proc∉o.waiters.map (·.proc)/\w.proc=(q:Int))):
  Good c fl (s.aL p x') X' Z T:=by
 have I:∀q,((s.aL p x').proc q).pc=(s.proc q).pc/\((s.aL p x').proc q).bw=(s.proc q).bw/\(((s.aL p x').proc q).state=(s.proc q).state\/((s.proc q).state=1/\((s.aL p x').proc q).state=0)):=λq=>by
  by_cases e:q=p
  ·subst e;rw [fX];grind
  ·rw [jc e];simp
 have a8:∀q,kB (s.proc q)=true->kB ((s.aL p x').proc q)=true:=λq h=>by rw [dm] at h ⊢;grind
 have c1:∀q n,n=2\/n=3->(s.proc q).state=n->((s.aL p x').proc q).state=n:=λq n hn h=>by grind
 have b6:∀q,dP c q ((s.aL p x').proc q)=dP c q (s.proc q):=λq=>by unfold dP;rw [(I q).1]
 have b0:∀ {i k z},qI c s X Z i k z->¬X' z.toNat:=λ{i k z} h m=>by
  obtain ⟨t,d,f,B,F⟩:=h;rcases K _ m with C | ⟨E,j,l,o,w,A,N,x,O,P⟩
  ·exact B C
  ·obtain ⟨_,_,L⟩:=g.dS p hp j l A;obtain ⟨_,_,_,_,b4⟩:=L w x;grind
 have b7:∀ {i r w},r≠p->nC c s X Z i r w->¬X' w.proc.toNat:=λ{i r w} b9 h m=>by
  obtain ⟨t,d,f,B,F⟩:=h;rcases K _ m with C | ⟨E,j,l,o,M,A,N,x,O,P⟩
  ·exact B C
  ·obtain ⟨_,_,L⟩:=g.dS p hp j l A;obtain ⟨_,_,_,_,b4⟩:=L M x;grind
 have Y:∀ {i r w},nC c s X Z i r w->¬X' w.proc.toNat->nC c (s.aL p x') X' Z i r w:=λ{i r w} h m=>by obtain ⟨t,d,f,B,F⟩:=h;refine ⟨t,d,f,m,F.imp id λF=> ?_⟩;grind
 refine ⟨g.tick,g.part,λq v=> ?_,λi u k ow h=> ?_,λi u k q h=> ?_,λr y i l h=> ?_,λq v m f=> ?_,λq v m d=> ?_⟩
 ·by_cases e:q=p
  ·subst e;rw [fX];exact pm
  ·rw [jc e];exact g.proc q v
 ·rcases g.own i u k ow h with h | ⟨t,d,f,B⟩
  ·exact .inl h
  grind
 ·obtain ⟨t,d,f⟩:=g.jf i u k q h;refine ⟨t,λz E=> ?_,f⟩;have v:=b0 (d z E);obtain ⟨a1,a2,a3,a4,a5⟩:=d z E;refine ⟨a1,a2,a3,v,a5.imp id λa5=> ?_⟩;grind
 ·by_cases e:r=p
  ·subst e;rw [fX] at h ⊢;have u:i<(s.proc r).aj.length:=by grind
   have G:(s.proc r).aj[i]? =some ((s.proc r).aj[i]):=List.getElem?_eq_getElem u;generalize (s.proc r).aj[i]=U at G;obtain ⟨t,d,f⟩:=g.dS r y i U G;obtain ⟨V,w2,w3⟩:=Q i U l G h;refine ⟨t.sublist (V.map _),λa9=> ?_,λw J=> ?_⟩
   ·obtain ⟨a,b,_⟩:=d λe=>by grind
    refine ⟨a,b.imp (λb=> ?_) id,w2 a9⟩;have:=a8 r b;rw [fX] at this;exact this
   ·have D:=V.subset J;refine Y (f w D) λm=> ?_;rcases K _ m with C | ⟨E,j,l1,o,M,A,N,x,O,P⟩
    ·exact (f w D).2.2.2.1 C
    · -- the same lane
     obtain ⟨b1,W,b3⟩:=g.dS r y j l1 A;have hj:j=az c r:=(W λe=>by rw [e] at x;cases x).1;have b5:i=az c r:=(d λe=>by rw [e] at D;cases D).1;have e7:M.proc=w.proc:=by have:=(f w D).1;omega
     grind
  ·rw [jc e] at h ⊢;obtain ⟨t,d,f⟩:=g.dS r y i l h;grind
 ·have:=(I q).2.2;exact g.sM q v (λh=>m (S q h)) (by omega)
 ·have:=(I q).2.2;obtain ⟨r,y,l,H,w,J,R⟩:=g.sL q v (λh=>m (S q h)) (by omega);by_cases e:r=p
  ·subst e;have u:az c q<x'.aj.length:=by rw [hl];exact (List.getElem?_eq_some_iff.1 H).1
   obtain ⟨_,_,w3⟩:=Q _ l _ H (List.getElem?_eq_getElem u);refine ⟨r,y,x'.aj[az c q],by rw [fX];exact List.getElem?_eq_getElem u,w,?_,R⟩;grind
  ·exact ⟨r,y,l,by rw [jc e];exact H,w,J,R⟩
theorem Good.parts {i:Nat} {y:dv} (g:Good c fl s X Z T) (pm:vt c T i y) (d:y.aB=(s.part i).aB) (l:y.av=(s.part i).av):Good c fl (s.dh i y) X Z T:=by
 have f:∀j,((s.dh i y).part j).aB=(s.part j).aB:=λj=>by
  by_cases e:j=i
  ·subst e;rw [uw,d]
  ·rw [u4 e]
 have m:∀j,((s.dh i y).part j).av=(s.part j).av:=λj=>by
  by_cases e:j=i
  ·subst e;rw [uw,l]
  ·rw [u4 e]
 refine ⟨g.tick,λj a=> ?_,g.proc,λj a k o h=>g.own j a k o (by grind),λj a k q h=> ?_,g.dS,λq n r b=> ?_,g.sL⟩
 ·by_cases e:j=i
  ·subst e;rw [uw];exact pm
  ·rw [u4 e];exact g.part j a
 ·rw [f];exact g.jf j a k q (by grind)
 ·rw [m];exact g.sM q n r b
end
section
variable {c:aE} {fl:Nat->Nat->Bool} {s:MS} {X Z:Nat->Prop} {T:Int} {p:Nat} {x:ak} {t:Int} {z:Prop}
theorem Good.congr {a:Nat->Prop} (g:Good c fl s X Z T) (h:∀q,X q↔a q):Good c fl s a Z T:=by have:X=a:=funext λq=>propext (h q);grind
theorem iZ {r:List Int} {i v:Int}:(j8 r i v).length=r.length:=by unfold j8;split<;>simp
theorem wE {n:Int} (h:kj n):kj (more n):=by unfold kj more at*;split<;>omega
theorem Q8 {l:List cX} {k:Core} {v:Int} (h:∃n,ie l k.pc=some n):(lf l k v).pc=k.pc+1/\(lf l k v).bw.length=k.bw.length:=by obtain ⟨n,a⟩:=h;unfold lf;rw [a];exact ⟨rfl,iZ⟩
theorem Q9 {l:List cX} {k:Core} {v w:Int} (h:∃n,ie l k.pc=some n):(gP l k v w).pc=k.pc+1/\(gP l k v w).bw.length=k.bw.length:=by obtain ⟨n,a⟩:=h;unfold gP;rw [a];exact ⟨rfl,by simp [iZ]⟩
theorem cR.go (pm:cR c fl t p z x) (b:x.state≠4) {k:Core} (d:0<=k.pc/\k.pc<=(gF c p).length) (e:k.bw.length=8):cR c fl t p z (vL x k) where
 st:=by show (0:Int)<=0/\(0:Int)<=6;omega
 pc:=d
 mS:=pm.mS
 cur:=pm.cur
 nO:=pm.nO
 nR:=pm.nR
 pe:=pm.pe.imp id λh=>⟨λa=>absurd (h.1 a) b,λa=>by have:(0:Int)=4:=a;omega⟩
 dead:=λh=>by have:(0:Int)=5\/(0:Int)=6:=h;omega
 dS:=pm.dS
 recv:=λh=>by have:(0:Int)=1:=h;omega
 snd:=λh=>by have:(0:Int)=2:=h;omega
 qO:=λh=>by have:(0:Int)=3:=h;omega
 jQ:=λh=>by have:(0:Int)=4:=h;omega
 bw:=e
theorem cR.put (pm:cR c fl t p z x) (a:x.state=0) {k:Core} (b:0<=k.pc/\k.pc<=(gF c p).length) (d:k.bw.length=8):cR c fl t p z (x.put k):=by
 have:=pm.go (by omega) b d;have e:x.put k=vL x k:=by unfold ak.put vL;rw [<-a]
 rw [e];exact this
theorem AQ {n:cX} (h:dP c p x=some n):0<=x.pc/\x.pc<(gF c p).length:=by unfold dP ie at h;grind
theorem Good.told (g:Good c fl s X Z T) (hp:p<nQ c) (o:Out s X Z p) (e:(s.proc p).state≠4) (a:∃n,dP c p (s.proc p)=some n) (v:Int):Good c fl (bV c s p v) (λq=>X q/\q≠p) Z T:=by have pm:=g.proc p hp;have d:=Q8 (l:=gF c p) (k:=(s.proc p).core) (v:=v) a;have h:0<=(s.proc p).pc/\(s.proc p).pc<(gF c p).length:=a.elim λn f=>AQ f;have b:(lf (gF c p) (s.proc p).core v).pc=(s.proc p).pc+1:=d.1;refine g.run o (pm.go e ⟨by rw [b];omega,by rw [b];omega⟩ (d.2.trans pm.bw)) ⟨by show (0:Int)≠2;omega,by show (0:Int)≠3;omega⟩ rfl λ_=>rfl
theorem Good.OY (g:Good c fl s X Z T) (hp:p<nQ c) (o:Out s X Z p) (a:(s.proc p).state≠4) (b:∃n,dP c p (s.proc p)=some n):Good c fl (qv s p) (λq=>X q/\q≠p) Z T:=by have pm:=g.proc p hp;have e:0<=(s.proc p).pc/\(s.proc p).pc<(gF c p).length:=b.elim λn d=>AQ d;refine g.run o (pm.go a ⟨by show 0<=(s.proc p).pc+1;omega,by show (s.proc p).pc+1<=_;omega⟩ pm.bw) ⟨by show (0:Int)≠2;omega,by show (0:Int)≠3;omega⟩ rfl λ_=>rfl
theorem cR.lane (pm:cR c fl t p z x) {i:Nat} {f:bq->bq} (r:∀l,x.aj[i]? =some l->((f l).values.length:Int)<=c.lane/\kj (f l).taken/\kj (f l).dropped/\(uG (f l)->i<nP c->fl i (az c p)=true)) (o:x.state=1->∀l,l.values=[]->(f l).values=[]):
  cR c fl t p z (bz x i f) where
 st:=pm.st
 pc:=pm.pc
 mS:=by show (x.aj.modify i f).length=_;rw [List.length_modify];exact pm.mS
 cur:=by show 0<=x.ah/\x.ah<((x.aj.modify i f).length:Int);rw [List.length_modify];exact pm.cur
 nO:=pm.nO
 nR:=pm.nR
 pe:=pm.pe
 dead:=pm.dead
 dS:=λj l h=>by
  have h:(x.aj.modify i f)[j]? =some l:=h;rw [List.getElem?_modify] at h;cases e:x.aj[j]? with
  | none=>grind
  | some k=>
   rw [e] at h;by_cases m:i=j
   ·grind
   ·simp [m] at h;subst h;exact pm.dS j k e
 recv:=λh=>by
  obtain ⟨a,b,d⟩:=pm.recv h;refine ⟨a,λl q=> ?_,d⟩;obtain ⟨j,g⟩:=List.getElem?_of_mem (show l∈x.aj.modify i f from q);rw [List.getElem?_modify] at g;cases e:x.aj[j]? with
  | none=>grind
  | some k=>
   rw [e] at g;have n:=b k (List.mem_of_getElem? e);by_cases m:i=j
   ·simp [m] at g;rw [<-g];exact o h k n
   grind
 snd:=pm.snd
 qO:=pm.qO
 jQ:=pm.jQ
 bw:=pm.bw
theorem cR.cv (pm:cR c fl t p z x):cR c fl t p z (dR x):=by
 by_cases h:x.state=1
 ·have:dR x=vL x x.core:=by unfold dR vL ak.core;rw [if_pos h]
  rw [this];exact pm.go (by omega) pm.pc pm.bw
 ·have:dR x=x:=by unfold dR;rw [if_neg h]
  grind
theorem Good.lane (g:Good c fl s X Z T) (hp:p<nQ c) {i:Nat} {f:bq->bq} (b:∀l,(s.proc p).aj[i]? =some l->((f l).values.length:Int)<=c.lane/\kj (f l).taken/\kj (f l).dropped/\(uG (f l)->i<nP c->fl i (az c p)=true))
  (v:∀l,(s.proc p).aj[i]? =some l->(f l).waiters=l.waiters/\(l.waiters≠ []->(f l).values.length=l.values.length)) (a:Bool) (m:a=false->∀l,l.values=[]->(f l).values=[]):
  Good c fl (s.aL p (if a then dR (bz (s.proc p) i f) else bz (s.proc p) i f)) X Z T:=by
 have pm:=g.proc p hp;have o:cR c fl s.tick p (Z p) (if a then dR (bz (s.proc p) i f) else bz (s.proc p) i f):=by
  cases a with
  | false=>exact pm.lane b λ_=>m rfl
  | true=>
   by_cases h:(s.proc p).state=1
   ·have r:cR c fl s.tick p (Z p) (vL (s.proc p) (s.proc p).core):=pm.go (by omega) pm.pc pm.bw;have:=r.lane (i:=i) (f:=f) b λh=>by have:(0:Int)=1:=h;omega
    have e:dR (bz (s.proc p) i f)=bz (vL (s.proc p) (s.proc p).core) i f:=by unfold dR bz vL ak.core;simp [h]
    grind
   ·exact (pm.lane b λk=>absurd k h).cv
 have n:(if a then dR (bz (s.proc p) i f) else bz (s.proc p) i f).aj=(s.proc p).aj.modify i f:=by cases a<;>rfl
 refine g.aj o ?_ (by cases a<;>rfl) (by cases a<;>rfl) (by grind) (λj l w d e2=> ?_) hp (λ_ h=>h) λq h=>.inl h
 ·cases a with
  | false=>exact .inl rfl
  | true=>
   by_cases h:(s.proc p).state=1
   ·refine .inr ⟨h,?_⟩;show (if (s.proc p).state=1 then (0:Int) else (s.proc p).state)=0;rw [if_pos h]
   ·refine .inl ?_;show (if (s.proc p).state=1 then (0:Int) else (s.proc p).state)=_;rw [if_neg h]
 ·rw [n,List.getElem?_modify,d] at e2;obtain ⟨_,u,_⟩:=g.dS p hp j l d;grind
theorem Dr {D:Int->Int->Int->Int} {l:List cX} {k:Core} {tk self:Int}:((gO D l k tk self).2.kind=1/\(gO D l k tk self).1=k)\/(∃n,ie l k.pc=some n/\(jj n l.length 8).1=0/\
  ((lT n k.bw=none/\gO D l k tk self=(tg D n k tk self,⟨0,0,0⟩))\/∃w a,lT n k.bw=some (w,a)/\gO D l k tk self=(if a then k else fP k,w))):=by
 unfold gO;grind
theorem KG {n:cX} {r:List Int} {w:Want} {st:Bool} (h:lT n r=some (w,st)):
  (w.kind=1/\st=true)\/(n.op=24/\w=⟨2,fA r n.b,fA r n.c⟩/\st=true)\/(n.op=25/\w.kind=3/\st=true)\/(n.op=26/\w.kind=4/\st=true)\/(w.kind=5/\st=false)\/(n.op=28/\w.kind=6/\st=true)\/
   (n.op=29/\w.kind=7/\w.to=n.iQ/\st=true)\/(n.op=30/\w.kind=8/\w.to=n.iQ/\st=false)\/(w.kind=9/\st=false):=by
 unfold lT at h;split at h
 ·cases h;exact .inl ⟨rfl,rfl⟩
 split at h
 ·rename_i e;cases h;exact .inr (.inl ⟨e,rfl,rfl⟩)
 split at h
 ·rename_i e;cases h;exact .inr (.inr (.inl ⟨e,rfl,rfl⟩))
 split at h
 ·rename_i e;cases h;exact .inr (.inr (.inr (.inl ⟨e,rfl,rfl⟩)))
 split at h
 ·rename_i e;cases h;exact .inr (.inr (.inr (.inr (.inl ⟨rfl,rfl⟩))))
 split at h
 ·rename_i e;cases h;exact .inr (.inr (.inr (.inr (.inr (.inl ⟨e,rfl,rfl⟩)))))
 grind
theorem KH {D:Int->Int->Int->Int} {l:List cX} {k:Core} {tk self:Int} {n:cX} (b:ie l k.pc=some n) (d:(jj n l.length 8).1=0) (a:k.bw.length=8):
  (0<=(tg D n k tk self).pc/\(tg D n k tk self).pc<=l.length)/\(tg D n k tk self).bw.length=8:=by
 have g:0<=k.pc/\k.pc<l.length:=AQ (c:=⟨[],[],0,0,0,0,[⟨0,l⟩]⟩) (p:=0) (x:=⟨0,k.pc,[],0,0,false,0,[]⟩) b;have f:=(yg d).2.2.2.2.1;unfold tg;split
 ·exact ⟨⟨by grind,by show k.pc+1<=_;omega⟩,iZ.trans a⟩
 split
 ·exact ⟨⟨by show 0<=k.pc+1;omega,by show k.pc+1<=_;omega⟩,iZ.trans a⟩
 split
 ·exact ⟨⟨by show 0<=k.pc+1;omega,by show k.pc+1<=_;omega⟩,iZ.trans a⟩
 split
 ·exact ⟨⟨by show 0<=k.pc+1;omega,by show k.pc+1<=_;omega⟩,iZ.trans a⟩
 split
 ·grind
 split
 ·rename_i e;split
  ·exact ⟨⟨by show 0<=k.pc+1;omega,by show k.pc+1<=_;omega⟩,a⟩
  grind
 ·exact ⟨⟨by grind,by show k.pc+1<=_;omega⟩,iZ.trans a⟩
end
def nj (p:Int) (s:MS) (l:List Nat):MS:=⟨s.tick,s.part,λq=>if q∈l then nz p (s.proc q) else s.proc q⟩
def No :Nat->Prop:=λ_=>False
section
variable {c:aE} {fl:Nat->Nat->Bool} {s:MS} {T:Int} {p:Nat} {x:ak} {t:Int} {z:Prop}
theorem xy (h:(s.proc p).state≠2/\(s.proc p).state≠3) {X:Nat->Prop}:Out s X No p:=⟨λh=>h,.inr h⟩
theorem xC (g:Good c fl s (λq=>No q/\q≠p) No T):Good c fl s No No T:=g.congr λ_=>⟨λh=>h.1,λh=>h.elim⟩
theorem Good.xU {X Z:Nat->Prop} (g:Good c fl s X Z T) {q i:Nat} (a:q<nQ c) (b:i<=nP c):∃l,(s.proc q).aj[i]? =some l:=by have:=(g.proc q a).mS;exact ⟨_,List.getElem?_eq_getElem (by omega)⟩
theorem cR.wait (pm:cR c fl t p z x) (e:x.state=0) {m:Int} (f:m=2\/m=3) {n:cX} (a:dP c p x=some n) (b:(m=2->n.op=24)/\(m=3->n.op=29)):cR c fl t p z {x with state:=m} where
 st:=by grind
 pc:=pm.pc
 mS:=pm.mS
 cur:=pm.cur
 nO:=pm.nO
 nR:=pm.nR
 pe:=pm.pe.imp id λh=>⟨λd=>by grind,λd=>by grind⟩
 dead:=λh=>by grind
 dS:=pm.dS
 recv:=λh=>by grind
 snd:=λh=>⟨n,a,b.1 h⟩
 qO:=λh=>⟨n,a,b.2 h⟩
 jQ:=λh=>by grind
 bw:=pm.bw
theorem CQ {d:Type} {l:List d} {i j:Nat} {f:d->d} {a:d} (h:(l.modify i f)[j]? =some a):∃b,l[j]? =some b/\((i=j/\a=f b)\/(i≠j/\a=b)):=by grind
theorem yB {a:Type} {l:List a} {i:Nat} {f:a->a} {b:a} (h:l[i]? =some b):(l.modify i f)[i]? =some (f b):=by grind
theorem LN {a:Type} {l:List a} {i j:Nat} {f:a->a} (h:i≠j):(l.modify i f)[j]? =l[j]?:=by grind
def jS (c:aE) (s:MS) (p q:Nat) (v:Int):MS:=(s.aL q (bz (s.proc q) (az c p) (im p v))).aL p {(s.aL q (bz (s.proc q) (az c p) (im p v))).proc p with state:=2}
theorem YX {q:Nat} {v:Int} (r:Nat):(jS c s p q v).proc r={(if r=q then bz (s.proc q) (az c p) (im p v) else s.proc r) with state:=if r=p then 2 else (s.proc r).state}:=by
 unfold jS;by_cases b:r=p
 ·subst b;rw [fX,if_pos rfl];by_cases a:r=q
  ·subst a;rw [fX,if_pos rfl]
  ·rw [jc a,if_neg a]
 ·rw [jc b,if_neg b];by_cases a:r=q
  ·subst a;rw [fX,if_pos rfl];rfl
  ·rw [jc a,if_neg a]
theorem Good.wait (m:cf c) (g:Good c fl s No No T) {q:Nat} {v:Int} {n:cX} (hp:p<nQ c) (M:q<nQ c) (h0:(s.proc p).state=0) (hn:dP c p (s.proc p)=some n) (ho:n.op=24) (hb:fA (s.proc p).bw n.b=(q:Int)) (hc:fA (s.proc p).bw n.c=v)
  (b4:az c p=az c q) (hv:kB (s.proc q)=true) (Y:∀l,(s.proc q).aj[az c p]? =some l->(l.values.length:Int)=c.lane):Good c fl (jS c s p q v) No No T:=by
 have H:Out s No No p:=xy ⟨by omega,by omega⟩;have A:=YX (c:=c) (s:=s) (p:=p) (q:=q) (v:=v);have b0:∀r,((jS c s p q v).proc r).pc=(s.proc r).pc/\((jS c s p q v).proc r).bw=(s.proc r).bw:=λr=>by
  rw [A];by_cases e:r=q
  ·subst e;rw [if_pos rfl];exact ⟨rfl,rfl⟩
  grind
 have O:∀r,r≠p->((jS c s p q v).proc r).state=(s.proc r).state:=λr e=>by grind
 have b6:((jS c s p q v).proc p).state=2:=by grind
 have a9:∀r,r≠q->((jS c s p q v).proc r).aj=(s.proc r).aj:=λr e=>by rw [A,if_neg e]
 have G:((jS c s p q v).proc q).aj=(s.proc q).aj.modify (az c p) (im p v):=by rw [A,if_pos rfl];rfl
 have Z:∀r,dP c r ((jS c s p q v).proc r)=dP c r (s.proc r):=λr=>by unfold dP;rw [(b0 r).1]
 have a8:∀r,kB (s.proc r)=true->kB ((jS c s p q v).proc r)=true:=λr h=>by rw [dm] at h ⊢;grind
 have V:∀ {i r w},nC c s No No i r w->nC c (jS c s p q v) No No i r w:=λ{i r w} h=>by have C:=h.out H;obtain ⟨a1,a2,a3,a4,a5⟩:=h;refine ⟨a1,a2,a3,a4,?_⟩;grind
 have b5:nC c (jS c s p q v) No No (az c p) q ⟨(p:Int),v⟩:=by refine ⟨by show (0:Int)<=(p:Int);omega,hp,rfl,λh=>h,.inr ?_⟩;grind
 refine ⟨g.tick,g.part,λr d=> ?_,λi F k ow h=> ?_,λi F k l h=> ?_,λr d i l h=> ?_,λr d _ u=> ?_,λr d _ j=> ?_⟩
 ·have pm:=g.proc r d;have R:cR c fl s.tick r (No r) (if r=q then bz (s.proc q) (az c p) (im p v) else s.proc r):=by
   by_cases e:r=q
   ·subst e;rw [if_pos rfl];exact pm.lane (λl f=>pm.dS _ l f) λ_ l f=>f
   grind
  have B:(if r=q then bz (s.proc q) (az c p) (im p v) else s.proc r).state=(s.proc r).state:=by
   by_cases e:r=q
   ·subst e;rw [if_pos rfl];rfl
   ·rw [if_neg e]
  rw [A];by_cases e:r=p
  ·rw [if_pos e];refine R.wait (n:=n) (by grind) (.inl rfl) ?_ ⟨λ_=>ho,λh=>by omega⟩;have:=Z r;rw [A] at this;rw [e] at this ⊢;rw [<-hn];exact this
  ·rw [if_neg e,<-B];exact R
 ·rcases g.own i F k ow h with h | ⟨L,j,u,h4⟩
  ·exact .inl h
  grind
 ·obtain ⟨L,j,u⟩:=g.jf i F k l h;refine ⟨L,λy Q=> ?_,u⟩;have C:=(j y Q).out H;obtain ⟨a1,a2,a3,a4,a5⟩:=j y Q;refine ⟨a1,a2,a3,a4,?_⟩;grind
 ·by_cases e:r=q
  ·subst e;rw [G] at h;obtain ⟨D,B,X⟩:=CQ h;obtain ⟨J,S,E⟩:=g.dS r d i D B;rcases X with ⟨K,o⟩ | ⟨K,o⟩
   ·subst K;subst o;refine ⟨?_,λ_=>⟨b4,.inl (a8 r hv),Y D B⟩,λw hw=> ?_⟩
    ·show ((D.waiters++ [(⟨(p:Int),v⟩:mU)]).map (·.proc)).Nodup;rw [List.map_append,List.nodup_append];refine ⟨J,by simp,λa W b hb=> ?_⟩;obtain ⟨w,hw,rfl⟩:=List.mem_map.1 W;have C:=(E w hw).out H;have:b=(p:Int):=by simpa using hb
     rw [this];intro e;rw [e] at C;exact C rfl
    ·rcases List.mem_append.1 (show w∈D.waiters++ [⟨(p:Int),v⟩] from hw) with hw | hw
     ·exact V (E w hw)
     ·rw [List.mem_singleton.1 hw];exact b5
   grind
  ·rw [a9 r e] at h;obtain ⟨J,S,E⟩:=g.dS r d i l h;grind
 ·have e:r≠p:=λe=>by grind
  rw [O r e] at u;exact g.sM r d (λh=>h) u
 ·by_cases e:r=p
  ·subst e;obtain ⟨l,f⟩:=g.xU (c:=c) (i:=az c r) M (Nat.le_of_lt m.fi);exact ⟨q,M,im r v l,by grind,⟨(r:Int),v⟩,by show _∈l.waiters++ [(⟨(r:Int),v⟩:mU)];simp,rfl⟩
  ·rw [O r e] at j;obtain ⟨I,N,l,f,w,hw,P⟩:=g.sL r d (λh=>h) j;by_cases U:I=q
   ·subst U;by_cases o:az c p=az c r
    ·exact ⟨I,N,im p v l,by rw [G,o];exact yB f,w,by show w∈l.waiters++ [_];exact List.mem_append_left _ hw,P⟩
    ·exact ⟨I,N,l,by rw [G,LN o];exact f,w,hw,P⟩
   grind
end
theorem fS {c:aE} {i q:Nat}:q∈dT c i↔q<nQ c/\az c q=i:=by unfold dT;simp
theorem KI {c:aE} {i:Nat}:(dT c i).Nodup:=(List.Pairwise.filter _ List.nodup_range)
def tX (l:bq):bq:={l with waiters:=[]}
def gw (s:MS) (p:Nat) (st:Int):MS:=s.aL p {s.proc p with state:=st,bL:=false}
def eH (c:aE) (s:MS) (p:Nat) (st:Int):MS:=nj p (gw s p st) (dT c (az c p))
def qL (c:aE) (s:MS) (p:Nat):MS:=s.dh (az c p) (pZ p (s.part (az c p))).1
def jD (c:aE) (s:MS) (p:Nat):MS:=(pZ p (s.part (az c p))).2.foldl gW (qL c s p)
def iw (s:MS) (p:Nat):MS:=s.aL p {s.proc p with timer:=0,cv:=0}
def jE (s:MS) (p:Nat):MS:=s.aL p {s.proc p with aj:=(s.proc p).aj.map tX}
def rA (c:aE) (s:MS) (p:Nat):MS:=((s.proc p).aj.flatMap (·.waiters)).foldl (λs w=>bV c s w.proc.toNat 2) (jE s p)
theorem y9 {c:aE} {s:MS} {p:Nat} {st:Int}:lZ c s p st=rA c (iw (jD c (eH c s p st) p) p) p:=by
 have e:(⟨(gw s p st).tick,(gw s p st).part,λq=>if q<nQ c/\az c q=az c p then nz p ((gw s p st).proc q) else (gw s p st).proc q⟩:MS)=eH c s p st:=by
  unfold eH nj;congr 1;funext q;by_cases h:q<nQ c/\az c q=az c p
  ·rw [if_pos h,if_pos (fS.2 h)]
  ·rw [if_neg h,if_neg λb=>h (fS.1 b)]
 have a:lZ c s p st=(let s2:MS:=⟨(gw s p st).tick,(gw s p st).part,λq=>if q<nQ c/\az c q=az c p then nz p ((gw s p st).proc q) else (gw s p st).proc q⟩;rA c (iw (jD c s2 p) p) p):=rfl;rw [a,e]
section
variable {c:aE} {fl:Nat->Nat->Bool} {s:MS} {T:Int} {p:Nat}
theorem Ra {q r:Nat} {y:ak} (h:y.state=(s.proc q).state\/((s.proc q).state=1/\y.state=0)):((s.aL q y).proc r).state=(s.proc r).state\/((s.proc r).state=1/\((s.aL q y).proc r).state=0):=by
 by_cases e:r=q
 ·subst e;rw [fX];exact h
 ·rw [jc e];exact .inl rfl
theorem XL {x:ak}:(dR x).state=x.state\/(x.state=1/\(dR x).state=0):=by unfold dR;grind
theorem TD {q r:Nat} {y:ak} (e:y.pc=(s.proc q).pc):((s.aL q y).proc r).pc=(s.proc r).pc:=by
 by_cases h:r=q
 ·subst h;rw [fX,e]
 ·rw [jc h]
theorem LO {q r:Nat} {y:ak} (e:y.pc=(s.proc q).pc):dP c r ((s.aL q y).proc r)=dP c r (s.proc r):=by unfold dP;rw [TD e]
theorem Good.yd (g:Good c fl s No No T) (hp:p<nQ c) (b:(s.proc p).state=0) (a:∃n,dP c p (s.proc p)=some n) (v:Int):Good c fl (bV c s p v) No No T:=
 xC (g.told hp (xy ⟨by omega,by omega⟩) (by omega) a v)
theorem Good.send (m:cf c) (g:Good c fl s No No T) {to v:Int} {n:cX} (hp:p<nQ c) (o:(s.proc p).state=0) (u:dP c p (s.proc p)=some n) (J:n.op=24) (hb:fA (s.proc p).bw n.b=to) (F:fA (s.proc p).bw n.c=v):Good c fl (jx c fl s p to v) No No T:=by
 unfold jx;have H:=m.fi (p:=p);by_cases A:to<0\/(nQ c:Int)<=to
 ·rw [if_pos A];exact g.yd hp o ⟨n,u⟩ 1
 rw [if_neg A];have x:to.toNat<nQ c:=by omega
 have E:((to.toNat:Nat):Int)=to:=by omega
 by_cases q:fl (az c p) (az c to.toNat)=false
 ·rw [if_pos q];have pm:=g.part _ H;have z:=g.parts (i:=az c p) (y:={s.part (az c p) with forbidden:=more (s.part (az c p)).forbidden}) ⟨pm.cur,pm.kG,pm.log,pm.lost,wE pm.me,pm.full,pm.ij,pm.jg⟩ rfl rfl;exact z.yd hp o ⟨n,u⟩ 0
 rw [if_neg q];have G:fl (az c p) (az c to.toNat)=true:=by cases e:fl (az c p) (az c to.toNat)<;>simp [e] at q ⊢
 have lane:∀(f:bq->bq) (d:Bool),(∀l,(s.proc to.toNat).aj[az c p]? =some l->((f l).values.length:Int)<=c.lane/\kj (f l).taken/\kj (f l).dropped)->
   (∀l,(s.proc to.toNat).aj[az c p]? =some l->(f l).waiters=l.waiters/\(l.waiters≠ []->(f l).values.length=l.values.length))->(d=false->∀l,l.values=[]->(f l).values=[])->
   Good c fl (bV c (s.aL to.toNat (if d then dR (bz (s.proc to.toNat) (az c p) f) else bz (s.proc to.toNat) (az c p) f)) p 0) No No T:=by
  intro f d j L w;have z:=g.lane x (i:=az c p) (f:=f) (λl a=>⟨(j l a).1,(j l a).2.1,(j l a).2.2,λ_ _=>G⟩) L d w;have D:(if d then dR (bz (s.proc to.toNat) (az c p) f) else bz (s.proc to.toNat) (az c p) f).pc=(s.proc to.toNat).pc:=by cases d<;>rfl
  refine z.yd hp ?_ ⟨n,?_⟩ 0
  ·have:(if d then dR (bz (s.proc to.toNat) (az c p) f) else bz (s.proc to.toNat) (az c p) f).state=(s.proc to.toNat).state\/((s.proc to.toNat).state=1/\(if d then dR (bz (s.proc to.toNat) (az c p) f) else bz (s.proc to.toNat) (az c p) f).state=0):=by
    cases d
    ·exact .inl rfl
    ·exact XL
   rcases Ra (r:=p) this with h | h
   ·rw [h];exact o
   ·exact h.2
  ·rw [LO D];exact u
 have t:∀l,(s.proc to.toNat).aj[az c p]? =some l->(l.values.length:Int)<=c.lane/\kj l.taken/\kj l.dropped:=λl a=>by have:=(g.proc _ x).dS _ l a;exact ⟨this.1,this.2.1,this.2.2.1⟩
 have K:ff c (s.proc to.toNat) (az c p)=false->Good c fl (bV c (s.aL to.toNat (dR (bz (s.proc to.toNat) (az c p) (sN v)))) p 0) No No T:=by
  intro j;have C:∀l,(s.proc to.toNat).aj[az c p]? =some l->(l.values.length:Int)<c.lane:=λl a=>by unfold ff at j;rw [a] at j;have:=of_decide_eq_false j;omega
  refine lane (sN v) true (λl a=> ?_) (λl a=>⟨rfl,λI=> ?_⟩) (λh=>by cases h)
  ·have A:=C l a;have q:=t l a;refine ⟨?_,q.2⟩;show ((l.values++ [v]).length:Int)<=_;rw [List.length_append,List.length_singleton];omega
  ·have:=((g.dS _ x _ l a).2.1 I).2.2;have:=C l a;omega
 have N:Good c fl (bV c (s.aL to.toNat (bz (s.proc to.toNat) (az c p) jM)) p 0) No No T:=
  lane jM false (λl a=>⟨(t l a).1,(t l a).2.1,wE (t l a).2.2⟩) (λl a=>⟨rfl,λ_=>rfl⟩) λ_ l a=>a
 by_cases w:az c p=az c to.toNat
 ·rw [if_pos w];by_cases B:kB (s.proc to.toNat)=false
  ·rw [if_pos B];exact g.yd hp o ⟨n,u⟩ 2
  rw [if_neg B];by_cases k:ff c (s.proc to.toNat) (az c p)=true
  ·rw [if_pos k];refine g.wait (v:=v) m hp x o u J (by rw [hb,E]) F w (by cases e:kB (s.proc to.toNat)<;>simp [e] at B ⊢) λl a=> ?_;have M:=(t l a).1;unfold ff at k;rw [a] at k;have:=of_decide_eq_true k;omega
  ·rw [if_neg k];exact K (by cases e:ff c (s.proc to.toNat) (az c p)<;>simp [e] at k ⊢)
 grind
end
theorem XN {ah:Int} {a:List bq} (f:0<=ah/\ah<a.length) (h:pT ah a=none):∀l∈a,l.values=[]:=by
 intro l d;obtain ⟨j,c,g⟩:=List.getElem_of_mem d;unfold pT at h;rw [List.find?_eq_none] at h;have e:j∈(List.range a.length).map λk=>(ah.toNat+k)%a.length:=by
  refine List.mem_map.2 ⟨(j+a.length-ah.toNat)%a.length,List.mem_range.2 (Nat.mod_lt _ (by omega)),?_⟩;by_cases i:ah.toNat<=j
  ·have b:j+a.length-ah.toNat=(j-ah.toNat)+a.length:=by omega
   rw [b,Nat.add_mod_right,Nat.mod_eq_of_lt (show j-ah.toNat<a.length by omega),Nat.mod_eq_of_lt (by omega)];omega
  ·rw [Nat.mod_eq_of_lt (show j+a.length-ah.toNat<a.length by omega)];have b:ah.toNat+(j+a.length-ah.toNat)=j+a.length:=by omega
   rw [b,Nat.add_mod_right,Nat.mod_eq_of_lt c]
 grind
theorem WU {ah:Int} {a:List bq} {i:Nat} (h:pT ah a=some i):∃l,a[i]? =some l/\l.values≠ []:=by unfold pT at h;grind
section
variable {c:aE} {fl:Nat->Nat->Bool} {s:MS} {T:Int} {p:Nat} {t:Int} {x:ak} {z:Prop}
theorem cR.OV (pm:cR c fl t p z x):cR c fl t p z {x with bL:=false} where
 st:=pm.st
 pc:=pm.pc
 mS:=pm.mS
 cur:=pm.cur
 nO:=pm.nO
 nR:=pm.nR
 pe:=pm.pe
 dead:=λh=>⟨(pm.dead h).1,rfl⟩
 dS:=pm.dS
 recv:=λh=>⟨(pm.recv h).1,(pm.recv h).2.1,rfl⟩
 snd:=pm.snd
 qO:=pm.qO
 jQ:=pm.jQ
 bw:=pm.bw
theorem cR.ah (pm:cR c fl t p z x) {n:Int} (h:0<=n/\n<x.aj.length):cR c fl t p z {x with ah:=n} where
 st:=pm.st
 pc:=pm.pc
 mS:=pm.mS
 cur:=h
 nO:=pm.nO
 nR:=pm.nR
 pe:=pm.pe
 dead:=pm.dead
 dS:=pm.dS
 recv:=pm.recv
 snd:=pm.snd
 qO:=pm.qO
 jQ:=pm.jQ
 bw:=pm.bw
theorem cR.FU (pm:cR c fl t p z x) (g:x.state=0) {n:cX} (e:dP c p x=some n) (f:n.op=25) (b:∀l∈x.aj,l.values=[]) (d:x.bL=false):cR c fl t p z {x with state:=1} where
 st:=by simp
 pc:=pm.pc
 mS:=pm.mS
 cur:=pm.cur
 nO:=pm.nO
 nR:=pm.nR
 pe:=pm.pe.imp id λh=>⟨λa=>by grind,λa=>by grind⟩
 dead:=λh=>by grind
 dS:=pm.dS
 recv:=λ_=>⟨⟨n,e,f⟩,b,d⟩
 snd:=λh=>by grind
 qO:=λh=>by grind
 jQ:=λh=>by grind
 bw:=pm.bw
theorem Good.core {X:Nat->Prop} (g:Good c fl s X No T) {y:ak} (o:Out s X No p) (pm:cR c fl s.tick p (No p) y) (d:y.aj=(s.proc p).aj) (e:y.state=0) {k:Core} (a:0<=k.pc/\k.pc<=(gF c p).length) (b:k.bw.length=8):Good c fl (s.aL p (y.put k)) (λq=>X q/\q≠p) No T:=by refine g.run o (pm.put e a b) ⟨by show y.state≠2;omega,by show y.state≠3;omega⟩ d λ_=> ?_;rw [dm];exact ⟨by show y.state≠5;omega,by show y.state≠6;omega⟩
theorem Good.take (m:cf c) (g:Good c fl s No No T) {t:Bool} {n:cX} (hp:p<nQ c) (h0:(s.proc p).state=0) (E:dP c p (s.proc p)=some n) (ho:t=false->n.op=25):Good c fl (jb c s p t) No No T:=by
 have pm:=g.proc p hp;have H:∀ {X:Nat->Prop},Out s X No p:=xy ⟨by omega,by omega⟩;have b6:=AQ E;have u:∀ {v f:Int},(0<=(gP (gF c p) (s.proc p).core v f).pc/\(gP (gF c p) (s.proc p).core v f).pc<=(gF c p).length)/\(gP (gF c p) (s.proc p).core v f).bw.length=8:=λ{v f}=>by obtain ⟨b,d⟩:=Q9 (l:=gF c p) (k:=(s.proc p).core) (v:=v) (w:=f) ⟨n,E⟩;have b:(gP (gF c p) (s.proc p).core v f).pc=(s.proc p).pc+1:=b;exact ⟨by omega,d.trans pm.bw⟩
 unfold jb;dsimp only;cases K:pT (s.proc p).ah (s.proc p).aj with
 | none=>
  dsimp only;have a9:=XN pm.cur K;by_cases B:(s.proc p).bL=true
  ·rw [if_pos B];have e:({(s.proc p).put (gP (gF c p) (s.proc p).core 0 (-2)) with bL:=false}:ak)=({s.proc p with bL:=false}:ak).put (gP (gF c p) (s.proc p).core 0 (-2)):=rfl;rw [e];exact xC (g.core H pm.OV rfl h0 u.1 u.2)
  ·rw [if_neg B];cases t with
   | true=>rw [if_pos rfl];exact xC (g.core H pm rfl h0 u.1 u.2)
   | false=>rw [if_neg (by decide)];refine xC (g.run H (pm.FU h0 E (ho rfl) a9 (by simpa using B)) ⟨by show (1:Int)≠2;omega,by show (1:Int)≠3;omega⟩ rfl λ_=> ?_);rw [dm];simp
 | some i=>
  dsimp only;obtain ⟨l,o,b0⟩:=WU K;have U:(s.proc p).aj.getD i ⟨[],[],0,0⟩=l:=by grind
  rw [U];obtain ⟨P,b2,Q⟩:=g.dS p hp i l o;have M:=pm.dS i l o;have b7:1<=l.values.length:=by grind
  have B:∀A,(s.proc p).aj[i]? =some A->((dQ A).values.length:Int)<=c.lane/\kj (dQ A).taken/\kj (dQ A).dropped/\(uG (dQ A)->i<nP c->fl i (az c p)=true):=λA L=>by
   rw [o] at L;cases L;refine ⟨?_,?_,?_,λ_ hi=>M.2.2.2 (.inl b0) hi⟩
   ·unfold dQ;grind
   ·unfold dQ;cases l.waiters<;>exact wE M.2.1
   ·unfold dQ;grind
  have N:cR c fl s.tick p (No p) (bz (s.proc p) i dQ):=pm.lane B λh=>by omega
  let I:Nat->Prop:=λq=>∃w r,l.waiters=w::r/\w.proc=(q:Int);have W:Good c fl (s.aL p (bz (s.proc p) i dQ)) I No T:=by
   refine g.aj N (.inl rfl) rfl rfl (List.length_modify ..) (λj l1 l2 b d=> ?_) hp (λ_ h=>h.elim) λq hq=>.inr ⟨λh=>h,?_⟩
   ·have d:((s.proc p).aj.modify i dQ)[j]? =some l2:=d;obtain ⟨l0,J,V⟩:=CQ d;rw [b] at J;cases J;obtain ⟨c1,R,S⟩:=g.dS p hp j l1 b;rcases V with ⟨rfl,rfl⟩ | ⟨e5,rfl⟩
    ·rw [o] at b;cases b;unfold dQ;cases a:l.waiters with
     | nil=>exact ⟨List.Sublist.refl _,λh=>absurd rfl h,λw G=>by cases G⟩
     | cons w r=>
      refine ⟨List.sublist_cons_self ..,λ_=> ?_,λO G=> ?_⟩
      ·have h3:=(R (by rw [a];simp)).2.2;show ((l.values.tail++ [w.value]).length:Int)=_;rw [List.length_append,List.length_tail,List.length_singleton];omega
      ·rcases List.mem_cons.1 G with rfl | h4
       ·refine .inr ⟨O,r,a,?_⟩;have:=(S O (by rw [a];exact List.mem_cons_self ..)).1;omega
       ·exact .inl h4
    grind
   ·obtain ⟨w,r,a,he⟩:=hq;refine ⟨i,l,dQ l,w,o,yB o,by rw [a];exact List.mem_cons_self ..,?_,he⟩;have nd:=P;rw [a,List.map_cons,List.nodup_cons] at nd;unfold dQ;grind
  have b4:Out (s.aL p (bz (s.proc p) i dQ)) I No p:=⟨λh=>h,.inr (by rw [fX];exact ⟨by show (s.proc p).state≠2;omega,by show (s.proc p).state≠3;omega⟩)⟩;have b5:i<(s.proc p).aj.length:=(List.getElem?_eq_some_iff.1 o).1;have a8:0<=((i+1:Nat):Int)%((s.proc p).aj.length:Int)/\((i+1:Nat):Int)%((s.proc p).aj.length:Int)<((bz (s.proc p) i dQ).aj.length:Int):=by have e:(bz (s.proc p) i dQ).aj.length=(s.proc p).aj.length:=List.length_modify ..;rw [e];exact ⟨Int.emod_nonneg _ (by omega),Int.emod_lt_of_pos _ (by omega)⟩
  have D:=W.core (y:={bz (s.proc p) i dQ with ah:=((i+1:Nat):Int)%((s.proc p).aj.length:Int)}) b4 (N.ah a8) (by rw [fX]) h0 (u (v:=l.values.headD 0) (f:=(i:Int))).1 u.2;rw [AI] at D;cases a:l.waiters with
  | nil=>refine D.congr λq=>⟨λh=> ?_,λh=>h.elim⟩;grind
  | cons w r=>
   dsimp only;have Z:=Q w (by rw [a];exact List.mem_cons_self ..);obtain ⟨w1,w2,w3,w4,C⟩:=Z;rcases C with C | ⟨C,n2,w6,w7,_⟩
   ·exact C.elim
   have F:w.proc.toNat≠p:=λe=>by rw [e] at C;omega
   have d:w.proc=((w.proc.toNat:Nat):Int):=by omega
   have Y:=D.told (p:=w.proc.toNat) w2 ⟨λh=>h,.inl ⟨⟨w,r,a,d⟩,F⟩⟩ (by rw [jc F];omega) ⟨n2,by rw [jc F];exact w6⟩ 0;refine Y.congr λq=>⟨λh=> ?_,λh=>h.elim⟩;grind
end
section
variable {c:aE} {fl:Nat->Nat->Bool} {s:MS} {T:Int} {p:Nat} {t:Int} {x:ak} {z:Prop} {X Z:Nat->Prop}
theorem Good.ae {d:Nat->Prop} (g:Good c fl s X Z T) {i:Nat} {y:dv} (pm:vt c T i y)
  (H:∀(k:Nat) o,y.aB[k]? =some o->o= -1\/(0<=o/\o.toNat<nQ c/\az c o.toNat=i/\(kB (s.proc o.toNat)=true\/Z o.toNat)))
  (I:∀(k:Nat) a,y.av[k]? =some a->∃q,(s.part i).av[k]? =some q/\a.Sublist q/\(a≠ []->∃o,y.aB[k]? =some o/\o≠ -1/\o∉a)/\∀z∈a,¬d z.toNat)
  (G:∀(k:Nat) q,(s.part i).av[k]? =some q->∃a,y.av[k]? =some a/\∀z∈q,z∈a\/d z.toNat\/Z z.toNat)
  (b:∀q,Z q->(s.proc q).state≠3)
  (B:∀q,X q->d q) (M:∀q,d q->X q\/(¬Z q/\(s.proc q).state=3/\az c q=i)):Good c fl (s.dh i y) d Z T where
 tick:=g.tick
 part j hj:=by
  by_cases e:j=i
  ·subst e;rw [uw];exact pm
  ·rw [u4 e];exact g.part j hj
 proc:=g.proc
 own j hj k o h:=by
  by_cases e:j=i
  ·subst e;rw [uw] at h;exact H k o h
  ·rw [u4 e] at h;exact g.own j hj k o h
 jf j hj k q h:=by
  by_cases e:j=i
  ·subst e;rw [uw] at h ⊢;obtain ⟨L,E,u,v,F⟩:=I k q h;obtain ⟨f,m,n⟩:=g.jf j hj k L E;refine ⟨f.sublist u,λz b=> ?_,v⟩;obtain ⟨a1,a2,a3,a4,a5⟩:=m z (u.subset b);exact ⟨a1,a2,a3,F z b,a5⟩
  ·rw [u4 e] at h ⊢;obtain ⟨f,m,n⟩:=g.jf j hj k q h;refine ⟨f,λz b=> ?_,n⟩;obtain ⟨a1,a2,a3,a4,a5⟩:=m z b;refine ⟨a1,a2,a3,λh=> ?_,a5⟩;grind
 dS r hr j l h:=by obtain ⟨f,m,n⟩:=g.dS r hr j l h;refine ⟨f,m,λw J=> ?_⟩;obtain ⟨a1,a2,a3,a4,a5⟩:=n w J;refine ⟨a1,a2,a3,λh=> ?_,a5⟩;grind
 sM q hq hn v:=by
  obtain ⟨k,l,A,e2⟩:=g.sM q hq (λh=>hn (B q h)) v;by_cases e:az c q=i
  ·rw [e] at A ⊢;rw [uw];obtain ⟨K,C,D⟩:=G k l A;refine ⟨k,K,C,?_⟩;rcases D _ e2 with h | h | h
   ·exact h
   ·grind
   ·exact absurd v (b q (by simpa using h))
  ·rw [u4 e];grind
 sL q hq hn u:=g.sL q hq (λh=>hn (B q h)) u
theorem Good.queue (g:Good c fl s No No T) {k:Nat} {n:cX} {o:Int} {q:List Int} (hp:p<nQ c) (hi:az c p<nP c) (V:(s.proc p).state=0) (N:dP c p (s.proc p)=some n) (O:n.op=29) (Y:n.iQ=(k:Int)) (P:(s.part (az c p)).aB[k]? =some o) (a9:o≠ -1) (b0:o≠(p:Int))
  (Q:(s.part (az c p)).av[k]? =some q):Good c fl ((s.dh (az c p) {s.part (az c p) with av:=(s.part (az c p)).av.modify k (· ++ [(p:Int)])}).aL p {s.proc p with state:=3}) No No T:=by
 have I:Out s No No p:=xy ⟨by omega,by omega⟩;have B:∀r,r≠p->((s.dh (az c p) {s.part (az c p) with av:=(s.part (az c p)).av.modify k (· ++ [(p:Int)])}).aL p {s.proc p with state:=3}).proc r=s.proc r:=λr e=>jc e;have H:((s.dh (az c p) {s.part (az c p) with av:=(s.part (az c p)).av.modify k (· ++ [(p:Int)])}).aL p {s.proc p with state:=3}).proc p={s.proc p with state:=3}:=fX;have A:∀j,((s.dh (az c p) {s.part (az c p) with av:=(s.part (az c p)).av.modify k (· ++ [(p:Int)])}).aL p {s.proc p with state:=3}).part j=(s.dh (az c p) {s.part (az c p) with av:=(s.part (az c p)).av.modify k (· ++ [(p:Int)])}).part j:=λj=>rfl;have b7:∀r,kB (s.proc r)=true->kB (((s.dh (az c p) {s.part (az c p) with av:=(s.part (az c p)).av.modify k (· ++ [(p:Int)])}).aL p {s.proc p with state:=3}).proc r)=true:=λr h=>by
  by_cases e:r=p
  ·subst e;rw [H];rfl
  grind
 generalize b5:(s.dh (az c p) {s.part (az c p) with av:=(s.part (az c p)).av.modify k (· ++ [(p:Int)])}).aL p {s.proc p with state:=3}=J at*;have R:J.tick=s.tick:=by rw [<-b5];rfl
 have a8:∀r,(J.proc r).aj=(s.proc r).aj:=λr=>by grind
 have b6:∀ {i k z},qI c s No No i k z->qI c J No No i k z:=λ{i k z} h=>h.bK (λh=>h) (B _ (h.out I));refine ⟨by rw [R];exact g.tick,λj v=> ?_,λr d=> ?_,λj v f S h=> ?_,λj v f l h=> ?_,λr d j l h=> ?_,λr d _ G=> ?_,λr d _ F=> ?_⟩
 ·rw [A];by_cases e:j=az c p
  ·subst e;rw [uw];have pm:=g.part _ v;exact ⟨pm.cur,pm.kG,pm.log,pm.lost,pm.me,pm.full,pm.ij,by show ((List.modify _ _ _).length:Int)=_;rw [List.length_modify];exact pm.jg⟩
  ·rw [u4 e];exact g.part j v
 ·rw [R];by_cases e:r=p
  ·subst e;rw [H];exact (g.proc r d).wait V (.inr rfl) N ⟨λh=>by omega,λ_=>O⟩
  ·rw [B r e];exact g.proc r d
 ·rw [A] at h;have h:(s.part j).aB[f]? =some S:=by
   by_cases e:j=az c p
   ·subst e;rw [uw] at h;exact h
   ·rw [u4 e] at h;exact h
  rcases g.own j v f S h with h | ⟨h1,F,G,h4⟩
  ·exact .inl h
  grind
 ·rw [A] at h ⊢;by_cases e:j=az c p
  ·subst e;rw [uw] at h ⊢;obtain ⟨b,m,u⟩:=CQ h;obtain ⟨C,D,y⟩:=g.jf _ v f b m;rcases u with ⟨u,rfl⟩ | ⟨u,rfl⟩
   ·subst u;rw [Q] at m;cases m;have b4:(p:Int)∉q:=λhm=>((D _ hm).out I) (by omega);refine ⟨?_,λz hz=> ?_,λ_=>⟨o,P,a9,?_⟩⟩
    ·rw [List.nodup_append];exact ⟨C,by simp,λa W b hb=>by rw [List.mem_singleton.1 hb];exact λe=>b4 (e▸W)⟩
    ·rcases List.mem_append.1 hz with hz | hz
     ·exact b6 (D z hz)
     ·rw [List.mem_singleton.1 hz];refine ⟨by omega,hp,rfl,λh=>h,.inr ?_⟩;rw [Int.toNat_natCast,H];exact ⟨rfl,n,N,O,Y⟩
    ·intro hm;rcases List.mem_append.1 hm with hm | hm
     ·obtain ⟨o',K,_,U⟩:=y (List.ne_nil_of_mem hm);rw [P] at K;cases K;exact U hm
     ·exact b0 (List.mem_singleton.1 hm)
   grind
  ·rw [u4 e] at h ⊢;obtain ⟨C,D,y⟩:=g.jf j v f l h;grind
 ·rw [a8] at h;obtain ⟨C,D,y⟩:=g.dS r d j l h;refine ⟨C,λE=> ?_,λw E=>(y w E).bK (λh=>h) (B _ ((y w E).out I))⟩;grind
 ·by_cases e:r=p
  ·subst e;rw [A,uw];exact ⟨k,_,yB Q,List.mem_append_right _ (List.mem_singleton.2 rfl)⟩
  ·rw [B r e] at G;obtain ⟨f,l,m,u⟩:=g.sM r d (λh=>h) G;rw [A];by_cases L:az c r=az c p
   ·rw [L] at m ⊢;rw [uw];by_cases M:k=f
    ·subst M;exact ⟨k,_,yB m,List.mem_append_left _ u⟩
    ·exact ⟨f,l,(LN M).trans m,u⟩
   ·rw [u4 L];grind
 ·by_cases e:r=p
  ·grind
  ·rw [B r e] at F;obtain ⟨r',b8,l,hl,E⟩:=g.sL r d (λh=>h) F;grind
theorem Good.lock (m:cf c) (g:Good c fl s No No T) {k:Int} {n:cX} (hp:p<nQ c) (l:(s.proc p).state=0) (f:dP c p (s.proc p)=some n) (r:n.op=29) (B:n.iQ=k):Good c fl (iX c s p k) No No T:=by
 have b:=m.fi (p:=p);have D:=Ou (m.ins f).1 (.inl r);rw [B] at D;have pm:=g.part _ b;have L:=pm.ij;have M:=pm.jg;have v:=List.getElem?_eq_getElem (show k.toNat<(s.part (az c p)).av.length by omega);have u:=List.getElem?_eq_getElem (show k.toNat<(s.part (az c p)).aB.length by omega);generalize (s.part (az c p)).av[k.toNat]=q at v;generalize (s.part (az c p)).aB[k.toNat]=o at u;have J:=AQ f;have C:=g.proc p hp;unfold iX;dsimp only;have A:(s.part (az c p)).aB.getD k.toNat 0=o:=by grind
 rw [A];by_cases h:o= -1\/o=(p:Int)
 ·rw [if_pos h];unfold iX.goK;have N:Out s No No p:=xy ⟨by omega,by omega⟩;have i:Good c fl (s.dh (az c p) {s.part (az c p) with aB:=(s.part (az c p)).aB.set k.toNat p}) No No T:=by
   refine g.ae ⟨pm.cur,pm.kG,pm.log,pm.lost,pm.me,pm.full,by show ((List.set _ _ _).length:Int)=_;rw [List.length_set];exact pm.ij,pm.jg⟩ (λj w a=> ?_) (λj d a=>⟨d,a,List.Sublist.refl _,λK=> ?_,λ_ _ h=>h⟩) (λj d a=>⟨d,a,λz E=>.inl E⟩) (λ_ h=>h.elim) (λ_ h=>h) λ_ h=>h.elim
   ·have a:((s.part (az c p)).aB.set k.toNat p)[j]? =some w:=a;by_cases e:k.toNat=j
    ·subst e;rw [List.getElem?_set_self (by omega)] at a;cases a;refine .inr ⟨by omega,hp,rfl,.inl ?_⟩;rw [Int.toNat_natCast,dm];omega
    ·rw [List.getElem?_set_ne e] at a;exact g.own _ b j w a
   ·obtain ⟨G,H,I⟩:=g.jf _ b j d a;grind
  have F:Out (s.dh (az c p) {s.part (az c p) with aB:=(s.part (az c p)).aB.set k.toNat p}) No No p:=xy ⟨by show (s.proc p).state≠2;omega,by show (s.proc p).state≠3;omega⟩;exact xC (i.core (y:=s.proc p) (k:=fP (s.proc p).core) F (i.proc p hp) rfl l ⟨by show 0<=(s.proc p).pc+1;omega,by show (s.proc p).pc+1<=_;omega⟩ C.bw)
 ·rw [if_neg h];exact g.queue hp b l f r (by omega) u (λe=>h (.inl e)) (λe=>h (.inr e)) v
theorem Good.given (g:Good c fl s X Z T) {a:Int} (d:0<=a) (f:a.toNat<nQ c) (h:X a.toNat) (i:¬Z a.toNat) (b:(s.proc a.toNat).state≠4) (e:∃n,dP c a.toNat (s.proc a.toNat)=some n):Good c fl (gW s a) (λq=>X q/\q≠a.toNat) Z T:=by unfold gW;rw [if_pos d];exact g.OY f ⟨i,.inl h⟩ b e
theorem Good.unlock (m:cf c) (g:Good c fl s No No T) {k:Int} (hp:p<nQ c) (N:0<=k/\k<c.ae):Good c fl (uv c s p k) No No T:=by
 have f:=m.fi (p:=p);have pm:=g.part _ f;have O:=pm.ij;have P:=pm.jg;have i:=List.getElem?_eq_getElem (show k.toNat<(s.part (az c p)).av.length by omega);have C:=List.getElem?_eq_getElem (show k.toNat<(s.part (az c p)).aB.length by omega);generalize (s.part (az c p)).av[k.toNat]=q at i;generalize (s.part (az c p)).aB[k.toNat]=o at C;unfold uv;dsimp only;have G:(s.part (az c p)).aB.getD k.toNat (-1)=o:=by simp [List.getD,C]
 have H:(s.part (az c p)).av.getD k.toNat []=q:=by simp [List.getD,i]
 rw [G,H];by_cases h:o=(p:Int)
 ·rw [if_pos h];obtain ⟨E,y,M⟩:=g.jf _ f _ _ i;cases q with
  | nil=>
   dsimp only;refine g.ae ⟨pm.cur,pm.kG,pm.log,pm.lost,pm.me,pm.full,by show ((List.set _ _ _).length:Int)=_;rw [List.length_set];exact pm.ij,pm.jg⟩ (λj l b=> ?_) (λj d b=>⟨d,b,List.Sublist.refl _,λu=> ?_,λ_ _ h=>h⟩) (λj d b=>⟨d,b,λz hz=>.inl hz⟩) (λ_ h=>h.elim) (λ_ h=>h) λ_ h=>h.elim
   ·have b:((s.part (az c p)).aB.set k.toNat (-1))[j]? =some l:=b;by_cases e:k.toNat=j
    ·subst e;rw [List.getElem?_set_self (by omega)] at b;cases b;exact .inl rfl
    ·rw [List.getElem?_set_ne e] at b;exact g.own _ f j l b
   ·have b:(s.part (az c p)).av[j]? =some d:=b;obtain ⟨F,A,w⟩:=g.jf _ f j d b;have e:¬k.toNat=j:=λe=>by subst e;rw [i] at b;cases b;exact u rfl
    show ∃o,((s.part (az c p)).aB.set k.toNat (-1))[j]? =some o/\o≠ -1/\o∉d;rw [List.getElem?_set_ne e];exact w u
  | cons a r=>
   dsimp only;obtain ⟨a1,a2,a3,a4,a5⟩:=y a (List.mem_cons_self ..);rcases a5 with a5 | ⟨a5,n,a6,a7,L⟩
   ·exact a5.elim
   have B:=List.nodup_cons.1 E;have I:Good c fl (s.dh (az c p) {s.part (az c p) with aB:=(s.part (az c p)).aB.set k.toNat a,av:=(s.part (az c p)).av.set k.toNat r}) (λq=>q=a.toNat) No T:=by
    refine g.ae ⟨pm.cur,pm.kG,pm.log,pm.lost,pm.me,pm.full,by show ((List.set _ _ _).length:Int)=_;rw [List.length_set];exact pm.ij,by show ((List.set _ _ _).length:Int)=_;rw [List.length_set];exact pm.jg⟩ (λj l b=> ?_) (λj d b=> ?_) (λj d b=> ?_) (λ_ h=>h.elim) (λ_ h=>h.elim) λd h=>.inr ⟨λh=>h,by rw [h];exact a5,by rw [h];exact a3⟩
    ·have b:((s.part (az c p)).aB.set k.toNat a)[j]? =some l:=b;by_cases e:k.toNat=j
     ·subst e;rw [List.getElem?_set_self (by omega)] at b;cases b;refine .inr ⟨a1,a2,a3,.inl ?_⟩;rw [dm];omega
     ·rw [List.getElem?_set_ne e] at b;exact g.own _ f j l b
    ·have b:((s.part (az c p)).av.set k.toNat r)[j]? =some d:=b;show ∃q,(s.part (az c p)).av[j]? =some q/\d.Sublist q/\(d≠ []->∃o,((s.part (az c p)).aB.set k.toNat a)[j]? =some o/\o≠ -1/\o∉d)/\_;by_cases e:k.toNat=j
     ·subst e;rw [List.getElem?_set_self (by omega)] at b;cases b;refine ⟨a::r,i,List.sublist_cons_self ..,λ_=>⟨a,List.getElem?_set_self (by omega),by omega,B.1⟩,λz hz h=> ?_⟩;have Q:=(y z (List.mem_cons_of_mem _ hz)).1;have:z=a:=by omega
      exact B.1 (this▸hz)
     ·rw [List.getElem?_set_ne e] at b;obtain ⟨F,A,w⟩:=g.jf _ f j d b;refine ⟨d,b,List.Sublist.refl _,λu=>by rw [List.getElem?_set_ne e];exact w u,λz hz h=> ?_⟩;obtain ⟨S,U,V,W,v⟩:=A z hz;rcases v with v | ⟨v,R,D,Y,z8⟩
      ·exact v
      ·rw [h,a6] at D;cases D;omega
    ·have b:(s.part (az c p)).av[j]? =some d:=b;show ∃K,((s.part (az c p)).av.set k.toNat r)[j]? =some K/\_;by_cases e:k.toNat=j
     ·subst e;rw [i] at b;cases b;refine ⟨r,List.getElem?_set_self (by omega),λz hz=> ?_⟩;rcases List.mem_cons.1 hz with rfl | hz
      ·exact .inr (.inl rfl)
      ·exact .inl hz
     ·exact ⟨d,by rw [List.getElem?_set_ne e];exact b,λz hz=>.inl hz⟩
   have J:=I.given a1 a2 rfl (λh=>h) (by show (s.proc a.toNat).state≠4;omega) ⟨n,a6⟩;exact J.congr λq=>⟨λh=>(h.2 h.1).elim,λh=>h.elim⟩
 grind
end
theorem Ye {c:Type} {f:c->Bool}:∀ {l:List c} {a:c},a∈l->f a=false->a∈iL f l
 | b::l,a,h,d=>by
  unfold iL;split
  ·grind
  ·rcases List.mem_cons.1 h with rfl | h
   ·simp
   ·exact List.mem_cons_of_mem _ (Ye h d)
theorem bU {a:Type} {f:a->Bool}:∀ {l:List a},(iL f l).Sublist l
 | []=>List.Sublist.refl _
 | b::l=>by
  unfold iL;split
  ·simp
  ·exact bU.cons_cons _
theorem N5 {d c:Type} [DecidableEq c] {g:d->c} {b:c}:∀ {l:List d},(l.map g).Nodup->∀a∈iL (λx=>decide (g x=b)) l,g a≠b
 | [],_,a,h=>by cases h
 | x::l,nd,a,h=>by
  rw [List.map_cons,List.nodup_cons] at nd;unfold iL at h;split at h
  ·grind
  ·rename_i e;rcases List.mem_cons.1 h with rfl | h
   ·grind
   ·exact N5 nd.2 a h
section
variable {c:aE} {fl:Nat->Nat->Bool} {s:MS} {T:Int} {p:Nat} {t:Int} {x:ak} {z:Prop} {X Z:Nat->Prop}
theorem Good.dying (g:Good c fl s No No T) {st:Int} (F:st=5\/st=6) (hp:p<nQ c):Good c fl (s.aL p {s.proc p with state:=st,bL:=false}) No (λq=>q=p) T:=by
 have E:∀r,dP c r ((s.aL p {s.proc p with state:=st,bL:=false}).proc r)=dP c r (s.proc r):=λr=>LO rfl;have b:∀r,r≠p->(s.aL p {s.proc p with state:=st,bL:=false}).proc r=s.proc r:=λr e=>jc e;have B:(s.aL p {s.proc p with state:=st,bL:=false}).proc p={s.proc p with state:=st,bL:=false}:=fX;have C:∀r,((s.aL p {s.proc p with state:=st,bL:=false}).proc r).aj=(s.proc r).aj:=λr=>by grind
 refine ⟨g.tick,g.part,λr a=> ?_,λi m k o h=> ?_,λi m k q h=> ?_,λr a i l h=> ?_,λr a _ h=> ?_,λr a _ h=> ?_⟩
 ·by_cases e:r=p
  ·subst e;rw [B];have pm:=g.proc r a;exact ⟨by grind,pm.pc,pm.mS,pm.cur,pm.nO,pm.nR,.inl rfl,λ_=>⟨.inl rfl,rfl⟩,pm.dS,λh=>by grind,λh=>by grind,λh=>by grind,λh=>by grind,pm.bw⟩
  ·rw [b r e];have pm:=g.proc r a;exact ⟨pm.st,pm.pc,pm.mS,pm.cur,pm.nO,pm.nR,.inr (pm.pe.resolve_left (λh=>h)),λh=>⟨.inr ((pm.dead h).1.resolve_left (λh=>h)),(pm.dead h).2⟩,pm.dS,pm.recv,pm.snd,pm.qO,pm.jQ,pm.bw⟩
 ·rcases g.own i m k o h with h | ⟨u,v,y,A⟩
  ·exact .inl h
  ·refine .inr ⟨u,v,y,?_⟩;by_cases e:o.toNat=p
   ·exact .inr e
   ·rw [b _ e];exact .inl (A.resolve_right (λh=>h))
 ·obtain ⟨d,f,j⟩:=g.jf i m k q h;refine ⟨d,λz D=> ?_,j⟩;obtain ⟨a1,a2,a3,a4,a5⟩:=f z D;refine ⟨a1,a2,a3,a4,?_⟩;grind
 ·rw [C] at h;obtain ⟨d,f,j⟩:=g.dS r a i l h;refine ⟨d,λn=> ?_,λw n=> ?_⟩
  ·obtain ⟨a1,a2,a3⟩:=f n;refine ⟨a1,?_,a3⟩;by_cases e:r=p
   ·exact .inr e
   ·rw [b _ e];exact .inl (a2.resolve_right (λh=>h))
  ·obtain ⟨a1,a2,a3,a4,a5⟩:=j w n;refine ⟨a1,a2,a3,a4,?_⟩;grind
 ·by_cases e:r=p
  ·grind
  ·rw [b _ e] at h;exact g.sM r a (λh=>h) h
 ·by_cases e:r=p
  ·grind
  ·rw [b _ e] at h;obtain ⟨G,u,l,v,y⟩:=g.sL r a (λh=>h) h;grind
theorem Jd {p:Int} {x:ak} {i:Nat} {l:bq} (h:(nz p x).aj[i]? =some l):∃a,x.aj[i]? =some a/\l.values=a.values/\l.taken=a.taken/\l.dropped=a.dropped/\l.waiters=iL (λw=>decide (w.proc=p)) a.waiters:=by have h:(x.aj.map _)[i]? =some l:=h;grind
theorem cR.leave (pm:cR c fl t p z x) {q:Int}:cR c fl t p z (nz q x) where
 st:=pm.st
 pc:=pm.pc
 mS:=by show (List.map _ _).length=_;rw [List.length_map];exact pm.mS
 cur:=by show 0<=x.ah/\x.ah<((List.map _ _).length:Int);rw [List.length_map];exact pm.cur
 nO:=pm.nO
 nR:=pm.nR
 pe:=pm.pe
 dead:=pm.dead
 dS:=λi l h=>by obtain ⟨a,e,k,m,n,_⟩:=Jd h;have:=pm.dS i a e;unfold uG at this ⊢;grind
 recv:=λh=>by obtain ⟨b,d,f⟩:=pm.recv h;refine ⟨b,λl j=> ?_,f⟩;obtain ⟨a,g,rfl⟩:=List.mem_map.1 j;exact d a g
 snd:=pm.snd
 qO:=pm.qO
 jQ:=pm.jQ
 bw:=pm.bw
theorem Good.leave (g:Good c fl s X (λq=>q=p) T) (b4:(s.proc p).state≠2/\(s.proc p).state≠3) {L:List Nat} (O:∀q,q∈L↔q<nQ c/\az c q=az c p):Good c fl (nj p s L) X (λq=>q=p) T/\∀r,r<nQ c->∀l∈((nj p s L).proc r).aj,∀w∈l.waiters,w.proc≠(p:Int):=by
 have J:∀r,(nj p s L).proc r=nz p (s.proc r)\/(nj p s L).proc r=s.proc r:=λr=>by
  by_cases h:r∈L
  ·exact .inl (if_pos h)
  ·exact .inr (if_neg h)
 have E:∀r,((nj p s L).proc r).state=(s.proc r).state/\((nj p s L).proc r).pc=(s.proc r).pc/\((nj p s L).proc r).bw=(s.proc r).bw:=λr=>by rcases J r with h | h<;>rw [h]<;>exact ⟨rfl,rfl,rfl⟩
 have a9:∀r,dP c r ((nj p s L).proc r)=dP c r (s.proc r):=λr=>by unfold dP;grind
 have b0:∀r,kB ((nj p s L).proc r)=kB (s.proc r):=λr=>by unfold kB;rw [(E r).1]
 have I:∀(r i:Nat) (l:bq),((nj p s L).proc r).aj[i]? =some l->∃b:bq,(s.proc r).aj[i]? =some b/\l.values=b.values/\l.waiters.Sublist b.waiters/\(r∈L->∀w∈iL (λw=>decide (w.proc=(p:Int))) b.waiters,w∈l.waiters)/\(r∈L->l.waiters=iL (λw=>decide (w.proc=(p:Int))) b.waiters)/\(r∉L->l=b):=λr i l h=>by
  by_cases a:r∈L
  ·have e:(nj p s L).proc r=nz p (s.proc r):=if_pos a;rw [e] at h;obtain ⟨b,n,C,_,_,u⟩:=Jd h;exact ⟨b,n,C,by rw [u];exact bU,λ_ w d=>by rw [u];exact d,λ_=>u,λU=>absurd a U⟩
  ·have e:(nj p s L).proc r=s.proc r:=if_neg a;grind
 refine ⟨⟨g.tick,g.part,λr a=> ?_,λi B k o h=> ?_,λi B k q h=> ?_,λr a i l h=> ?_,λr a F h=> ?_,λr a F h=> ?_⟩,λr a l S w d H=> ?_⟩
 ·rcases J r with h | h
  ·rw [h];exact (g.proc r a).leave
  ·rw [h];exact g.proc r a
 ·rcases g.own i B k o h with h | ⟨v,N,G,D⟩
  ·exact .inl h
  grind
 ·obtain ⟨j,y,m⟩:=g.jf i B k q h;refine ⟨j,λz V=> ?_,m⟩;obtain ⟨a1,a2,a3,a4,a5⟩:=y z V;exact ⟨a1,a2,a3,a4,by grind⟩
 ·obtain ⟨b,n,C,A,_⟩:=I r i l h;obtain ⟨j,y,m⟩:=g.dS r a i b n;refine ⟨j.sublist (A.map _),λd=> ?_,λw d=> ?_⟩
  ·grind
  ·obtain ⟨a1,a2,a3,a4,a5⟩:=m w (A.subset d);refine ⟨a1,a2,a3,a4,?_⟩;grind
 ·rw [(E r).1] at h;exact g.sM r a F h
 ·rw [(E r).1] at h;obtain ⟨f,v,l,N,w,G,D⟩:=g.sL r a F h;have b5:r≠p:=λe=>by grind
  by_cases K:f∈L
  ·have e:(nj p s L).proc f=nz p (s.proc f):=if_pos K;refine ⟨f,v,{l with waiters:=iL (λw=>decide (w.proc=(p:Int))) l.waiters},?_,w,?_,D⟩
   ·rw [e];show (List.map _ _)[_]? =_;grind
   ·exact Ye G (decide_eq_false (by rw [D];omega))
  ·have e:(nj p s L).proc f=s.proc f:=if_neg K;grind
 ·obtain ⟨i,B,a8⟩:=List.getElem_of_mem S;have Q:((nj p s L).proc r).aj[i]? =some l:=by grind
  obtain ⟨b,n,C,A,W,u,Y⟩:=I r i l Q;obtain ⟨j,y,m⟩:=g.dS r a i b n;have M:=A.subset d;have P:=m w M;have hb:=y (List.ne_nil_of_mem M);have R:r∈L:=(O r).2 ⟨a,by
   have v:=P.2.2.1;rw [H,Int.toNat_natCast] at v;rw [v,hb.1]⟩
  rw [u R] at d;exact N5 j w d H
end
theorem CR {p:Int}:∀ {os:List Int} {qs:List (List Int)},os.length=qs.length->
  (jk p os qs).1.length=os.length/\(jk p os qs).2.1.length=qs.length/\
  (∀(k:Nat) o q,os[k]? =some o->qs[k]? =some q->(o≠p/\(jk p os qs).1[k]? =some o/\(jk p os qs).2.1[k]? =some q)\/(o=p/\q=[]/\(jk p os qs).1[k]? =some (-1)/\(jk p os qs).2.1[k]? =some [])\/
   (o=p/\∃a r,q=a::r/\(jk p os qs).1[k]? =some a/\(jk p os qs).2.1[k]? =some r/\a∈(jk p os qs).2.2))/\
  (∀a∈(jk p os qs).2.2,a= -1\/∃(k:Nat) (r:List Int),os[k]? =some p/\qs[k]? =some (a::r))/\
  ((∀(j k:Nat) (z:Int) (a b:List Int),qs[j]? =some a->qs[k]? =some b->z∈a->z∈b->j=k)->(jk p os qs).2.2.Pairwise λa b=>a≠b\/a= -1)
 | [],[],_=>by simp [jk]
 | [],_::_,h=>by simp at h
 | _::_,[],h=>by simp at h
 | o::os,q::qs,h=>by
  obtain ⟨t,u,v,B,w⟩:=CR (p:=p) (os:=os) (qs:=qs) (by simpa using h);have y:(∀(j k:Nat) (z:Int) (a b:List Int),(q::qs)[j]? =some a->(q::qs)[k]? =some b->z∈a->z∈b->j=k)->∀(j k:Nat) (z:Int) (a b:List Int),qs[j]? =some a->qs[k]? =some b->z∈a->z∈b->j=k:=λg j k z a b ha hb E F=>by have:=g (j+1) (k+1) z a b (by simpa using ha) (by simpa using hb) E F;omega
  have C:∀a∈(jk p os qs).2.2,a= -1\/∃(k:Nat) (r:List Int),(o::os)[k]? =some p/\(q::qs)[k]? =some (a::r):=λa ha=>(B a ha).imp id λ⟨k,r,A,s⟩=>⟨k+1,r,by simpa using A,by simpa using s⟩;unfold jk;dsimp only;by_cases e:o=p
  ·rw [if_pos e];cases q with
   | nil=>
    dsimp only;refine ⟨by simp [t],by simp [u],λk m n i l=> ?_,λa ha=> ?_,λg=> ?_⟩
    ·cases k with
     | zero=>grind
     | succ k=>
      rcases v k m n (by simpa using i) (by simpa using l) with ⟨a,b,c⟩ | ⟨a,b,c,d⟩ | ⟨a,x,r,b,c,d,f⟩
      ·exact .inl ⟨a,by simpa using b,by simpa using c⟩
      ·exact .inr (.inl ⟨a,b,by simpa using c,by simpa using d⟩)
      ·exact .inr (.inr ⟨a,x,r,b,by simpa using c,by simpa using d,List.mem_cons_of_mem _ f⟩)
    ·grind
    ·exact List.pairwise_cons.2 ⟨λb _=>.inr rfl,w (y g)⟩
   | cons x r=>
    dsimp only;refine ⟨by simp [t],by simp [u],λk m n i l=> ?_,λa ha=> ?_,λg=> ?_⟩
    ·cases k with
     | zero=>grind
     | succ k=>
      rcases v k m n (by simpa using i) (by simpa using l) with ⟨a,b,c⟩ | ⟨a,b,c,d⟩ | ⟨a,x,r,b,c,d,f⟩
      ·exact .inl ⟨a,by simpa using b,by simpa using c⟩
      ·exact .inr (.inl ⟨a,b,by simpa using c,by simpa using d⟩)
      ·exact .inr (.inr ⟨a,x,r,b,by simpa using c,by simpa using d,List.mem_cons_of_mem _ f⟩)
    ·rcases List.mem_cons.1 ha with rfl | ha
     ·exact .inr ⟨0,r,by simp [e],by simp⟩
     ·exact C a ha
    ·refine List.pairwise_cons.2 ⟨λb hb=> ?_,w (y g)⟩;rcases B b hb with rfl | ⟨k,G,A,s⟩
     ·omega
     ·refine .inl λD=> ?_;subst D;have:=g 0 (k+1) x (x::r) (x::G) (by simp) (by simpa using s) (List.mem_cons_self ..) (List.mem_cons_self ..);omega
  ·rw [if_neg e];refine ⟨by simp [t],by simp [u],λk m n i l=> ?_,λa ha=>C a ha,λg=>w (y g)⟩;cases k with
   | zero=>grind
   | succ k=>
    rcases v k m n (by simpa using i) (by simpa using l) with ⟨a,b,c⟩ | ⟨a,b,c,d⟩ | ⟨a,x,r,b,c,d,f⟩
    ·exact .inl ⟨a,by simpa using b,by simpa using c⟩
    ·exact .inr (.inl ⟨a,b,by simpa using c,by simpa using d⟩)
    grind
section
variable {c:aE} {fl:Nat->Nat->Bool} {s:MS} {T:Int} {p:Nat} {X Z:Nat->Prop}
theorem Good.mZ :∀ {l:List Int} {s:MS},Good c fl s (λq=>(q:Int)∈l) Z T->(l.Pairwise λa b=>a≠b\/a= -1)->(∀a∈l,a= -1\/(0<=a/\a.toNat<nQ c/\¬Z a.toNat/\(s.proc a.toNat).state≠4/\∃n,dP c a.toNat (s.proc a.toNat)=some n))->Good c fl (l.foldl gW s) No Z T
 | [],s,g,_,_=>g.congr λq=>⟨λh=>(by cases h),λh=>h.elim⟩
 | a::l,s,g,hp,d=>by
  obtain ⟨m,f⟩:=List.pairwise_cons.1 hp;rw [List.foldl_cons];rcases d a (List.mem_cons_self ..) with w | ⟨a1,a2,a3,a4,a5⟩
  ·have e:gW s a=s:=by unfold gW;rw [pN]
   rw [e];refine Good.mZ (g.congr λq=>⟨λh=> ?_,λh=>List.mem_cons_of_mem _ h⟩) f λb hb=>d b (List.mem_cons_of_mem _ hb);grind
  ·have j:a∉l:=λh=>(m a h).elim (λh=>h rfl) (λh=>by omega);have i:=g.given a1 a2 (by grind) a3 a4 a5;refine Good.mZ (i.congr λq=>⟨λh=> ?_,λh=>⟨List.mem_cons_of_mem _ h,λe=> ?_⟩⟩) f λb hb=> ?_
   ·grind
   ·grind
   ·rcases d b (List.mem_cons_of_mem _ hb) with h | ⟨o,r,t,u,v⟩
    ·exact .inl h
    ·have k:b.toNat≠a.toNat:=λe=>j (by rw [show a=b by omega];exact hb);have e:(gW s a).proc b.toNat=s.proc b.toNat:=by unfold gW;rw [if_pos a1];exact jc k
     grind
theorem Good.rY {v:Int}:∀ {l:List mU} {s:MS},Good c fl s (λq=>(q:Int)∈l.map (·.proc)) No T->(l.map (·.proc)).Nodup->(∀w∈l,0<=w.proc/\w.proc.toNat<nQ c/\(s.proc w.proc.toNat).state≠4/\∃n,dP c w.proc.toNat (s.proc w.proc.toNat)=some n)->Good c fl (l.foldl (λs w=>bV c s w.proc.toNat v) s) No No T
 | [],s,g,_,_=>g.congr λq=>⟨λh=>(by cases h),λh=>h.elim⟩
 | a::l,s,g,hp,d=>by
  rw [List.map_cons,List.nodup_cons] at hp;rw [List.foldl_cons];obtain ⟨a1,a2,a4,a5⟩:=d a (List.mem_cons_self ..);have ea:((a.proc.toNat:Nat):Int)=a.proc:=by omega
  have f:=g.told (p:=a.proc.toNat) a2 ⟨λh=>h,.inl (by grind)⟩ a4 a5 v;refine Good.rY (f.congr λq=>⟨λh=> ?_,λh=>⟨List.mem_cons_of_mem _ h,λe=> ?_⟩⟩) hp.2 λb hb=> ?_
  ·grind
  ·grind
  ·obtain ⟨j,k,m,o⟩:=d b (List.mem_cons_of_mem _ hb);have i:b.proc.toNat≠a.proc.toNat:=λe=>hp.1 (List.mem_map.2 ⟨b,hb,by omega⟩);have e:(bV c s a.proc.toNat v).proc b.proc.toNat=s.proc b.proc.toNat:=jc i;grind
theorem Good.vG (g:Good c fl s No (λq=>q=p) T) (I:az c p<nP c) (c0:(s.proc p).state≠3):Good c fl (((pZ p (s.part (az c p))).2).foldl gW (s.dh (az c p) (pZ p (s.part (az c p))).1)) No (λq=>q=p) T/\
  (∀i,i<nP c->∀(k:Nat),((s.dh (az c p) (pZ p (s.part (az c p))).1).part i).aB[k]?≠some (p:Int))/\∀i,i<nP c->∀(k:Nat) q,((s.dh (az c p) (pZ p (s.part (az c p))).1).part i).av[k]? =some q->(p:Int)∉q:=by
 have pm:=g.part _ I;have b5:(s.part (az c p)).aB.length=((s.part (az c p)).av.map (iL λz=>decide (z=(p:Int)))).length:=by have:=pm.ij;have:=pm.jg;grind
 obtain ⟨L1,L2,H,HG,U⟩:=CR (p:=(p:Int)) b5;have B:∀ {z:Int} {q:List Int} {k:Nat},(s.part (az c p)).av[k]? =some q->z∈q->z≠(p:Int)->0<=z/\z.toNat<nQ c/\az c z.toNat=az c p/\z.toNat≠p/\(s.proc z.toNat).state=3/\∃n,dP c z.toNat (s.proc z.toNat)=some n/\n.op=29/\n.iQ=(k:Int):=λ{z q k} K v J=>by obtain ⟨a1,a2,a3,a4,a5⟩:=(g.jf _ I k q K).2.1 z v;grind
 have b3:∀ {k:Nat} {q:List Int},((s.part (az c p)).av.map (iL λz=>decide (z=(p:Int))))[k]? =some q->∃l,(s.part (az c p)).av[k]? =some l/\q=iL (λz=>decide (z=(p:Int))) l:=λ{k q} h=>by grind
 have D:∀ {k:Nat} {l:List Int} {z:Int},(s.part (az c p)).av[k]? =some l->z∈iL (λz=>decide (z=(p:Int))) l->z≠(p:Int):=λ{k l z} K v=>by have nd:=(g.jf _ I k l K).1;exact N5 (g:=λz=>z) (by simpa using nd) z v
 have b2:∀(j k:Nat) (z:Int) (a b:List Int),((s.part (az c p)).av.map (iL λz=>decide (z=(p:Int))))[j]? =some a->((s.part (az c p)).av.map (iL λz=>decide (z=(p:Int))))[k]? =some b->z∈a->z∈b->j=k:=by intro j k z a b C hb b7 c3;obtain ⟨a0,a9,rfl⟩:=b3 C;obtain ⟨b0,b8,rfl⟩:=b3 hb;have J:=D a9 b7;obtain ⟨_,_,_,_,_,n1,m,_,O⟩:=B a9 (bU.subset b7) J;obtain ⟨_,_,_,_,_,n2,f1,_,f3⟩:=B b8 (bU.subset c3) J;grind
 have W:∀a∈(jk (p:Int) (s.part (az c p)).aB ((s.part (az c p)).av.map (iL λz=>decide (z=(p:Int))))).2.2,a= -1\/∃(k:Nat) (l r:List Int),(s.part (az c p)).aB[k]? =some (p:Int)/\(s.part (az c p)).av[k]? =some l/\iL (λz=>decide (z=(p:Int))) l=a::r:=λa C=>by grind
 have U:=U b2;have b4:∀ {k:Nat} {l:List Int},(s.part (az c p)).av[k]? =some l->∃o,(s.part (az c p)).aB[k]? =some o:=λ{k l} h=>by have h1:=(List.getElem?_eq_some_iff.1 h).1;rw [List.length_map] at b5;exact ⟨_,List.getElem?_eq_getElem (by omega)⟩
 have G:∀ {k:Nat} {l:List Int},(s.part (az c p)).av[k]? =some l->((s.part (az c p)).av.map (iL λz=>decide (z=(p:Int))))[k]? =some (iL (λz=>decide (z=(p:Int))) l):=λ{k l} h=>by grind
 have eY:pZ p (s.part (az c p))=({s.part (az c p) with aB:=(jk (p:Int) (s.part (az c p)).aB ((s.part (az c p)).av.map (iL λz=>decide (z=(p:Int))))).1,av:=(jk (p:Int) (s.part (az c p)).aB ((s.part (az c p)).av.map (iL λz=>decide (z=(p:Int))))).2.1},(jk (p:Int) (s.part (az c p)).aB ((s.part (az c p)).av.map (iL λz=>decide (z=(p:Int))))).2.2):=rfl;rw [eY];dsimp only;generalize jk (p:Int) (s.part (az c p)).aB ((s.part (az c p)).av.map (iL λz=>decide (z=(p:Int))))=R at*;have b1:∀(k:Nat) u,R.2.1[k]? =some u->∃l o,(s.part (az c p)).av[k]? =some l/\(s.part (az c p)).aB[k]? =some o/\((o≠(p:Int)/\R.1[k]? =some o/\u=iL (λz=>decide (z=(p:Int))) l)\/(o=(p:Int)/\iL (λz=>decide (z=(p:Int))) l=[]/\R.1[k]? =some (-1)/\u=[])\/(o=(p:Int)/\∃a,iL (λz=>decide (z=(p:Int))) l=a::u/\R.1[k]? =some a/\a∈R.2.2)):=λk u h=>by
  have h1:=(List.getElem?_eq_some_iff.1 h).1;rw [L2,List.length_map] at h1;have m:=List.getElem?_eq_getElem h1;obtain ⟨o,t⟩:=b4 m;refine ⟨_,o,m,t,?_⟩;rcases H k o _ t (G m) with ⟨a,b,d⟩ | ⟨a,b,d,f⟩ | ⟨a,x,r,b,d,f,y⟩
  ·rw [h] at d;exact .inl ⟨a,b,Option.some.inj d⟩
  ·rw [h] at f;exact .inr (.inl ⟨a,b,d,Option.some.inj f⟩)
  grind
 have b6:∀(k:Nat) u,R.2.1[k]? =some u->∃l,(s.part (az c p)).av[k]? =some l/\u.Sublist (iL (λz=>decide (z=(p:Int))) l):=λk u h=>by
  obtain ⟨l,o,m,t,F⟩:=b1 k u h;refine ⟨l,m,?_⟩;rcases F with ⟨_,_,e⟩ | ⟨_,_,_,e⟩ | ⟨_,a,e,_⟩
  ·rw [e];exact List.Sublist.refl _
  ·rw [e];exact List.nil_sublist _
  grind
 have b9:∀(k:Nat) A,R.1[k]? =some A->A= -1\/(A≠(p:Int)/\((s.part (az c p)).aB[k]? =some A\/∃l,(s.part (az c p)).av[k]? =some l/\A∈l)):=λk A h=>by
  have h1:=(List.getElem?_eq_some_iff.1 h).1;rw [L1] at h1;have c2:k<(s.part (az c p)).av.length:=by grind
  have m:=List.getElem?_eq_getElem c2;have t:=List.getElem?_eq_getElem h1;rcases H k _ _ t (G m) with ⟨a,b,d⟩ | ⟨a,b,d,f⟩ | ⟨a,x,r,b,d,f,y⟩
  ·grind
  ·grind
  ·rw [h] at d;cases d;have hx:A∈iL (λz=>decide (z=(p:Int))) (s.part (az c p)).av[k]:=by rw [b];exact List.mem_cons_self ..
   exact .inr ⟨D m hx,.inr ⟨_,m,bU.subset hx⟩⟩
 have g3:Good c fl (s.dh (az c p) {s.part (az c p) with aB:=R.1,av:=R.2.1}) (λq=>(q:Int)∈R.2.2) (λq=>q=p) T:=by
  refine g.ae ⟨pm.cur,pm.kG,pm.log,pm.lost,pm.me,pm.full,by show (R.1.length:Int)=_;rw [L1];exact pm.ij,by show (R.2.1.length:Int)=_;rw [L2,List.length_map];exact pm.jg⟩ (λk A h=> ?_) (λk u h=> ?_) (λk l h=> ?_) (λq K=>by rw [K];exact c0) (λ_ h=>h.elim) λq h=>.inr ?_
  ·rcases b9 k A h with h1 | ⟨h1,V | ⟨l,V,F⟩⟩
   ·exact .inl h1
   ·exact g.own _ I k A V
   ·obtain ⟨a1,a2,a3,a4,a5,_⟩:=B V F h1;refine .inr ⟨a1,a2,a3,.inl ?_⟩;rw [dm];omega
  ·have h:R.2.1[k]? =some u:=h;obtain ⟨l,o,m,t,F⟩:=b1 k u h;obtain ⟨q1,f1,f2⟩:=b6 k u h;rw [m] at f1;cases f1;obtain ⟨d1,d2,d3⟩:=g.jf _ I k l m;refine ⟨l,m,f2.trans bU,λJ=> ?_,λz v P=> ?_⟩
   ·show ∃o,R.1[k]? =some o/\o≠ -1/\o∉u;rcases F with ⟨L,E,Q⟩ | ⟨L,E,Q,x4⟩ | ⟨L,a,E,Q,x4⟩
    ·have c1:l≠ []:=λh=>J (List.eq_nil_of_sublist_nil (h▸f2.trans bU));obtain ⟨o1,M,N,S⟩:=d3 c1;rw [t] at M;cases M;exact ⟨o,E,N,λw=>S ((f2.trans bU).subset w)⟩
    ·grind
    ·have C:a∈iL (λz=>decide (z=(p:Int))) l:=by rw [E];exact List.mem_cons_self ..
     have:=(B m (bU.subset C) (D m C)).1;refine ⟨a,Q,by omega,λw=> ?_⟩;have nd:=d1.sublist (bU (f:=λz=>decide (z=(p:Int))));grind
   ·have a8:=f2.subset v;have c4:=D m a8;have c6:=B m (bU.subset a8) c4;have ez:((z.toNat:Nat):Int)=z:=by omega
    have P:((z.toNat:Nat):Int)∈R.2.2:=P;rw [ez] at P;rcases W z P with h5 | ⟨k2,q2,r2,M,N,S⟩
    ·omega
    ·have hk:=b2 k k2 z _ _ (G m) (G N) a8 (by grind);subst hk;rw [m] at N;cases N;rw [t] at M;cases M;rcases F with ⟨L,_⟩ | ⟨_,E,_⟩ | ⟨L,a,E,Q,x4⟩
     ·exact L rfl
     ·grind
     ·rw [E] at S;cases S;have nd:=d1.sublist (bU (f:=λz=>decide (z=(p:Int))));grind
  ·obtain ⟨o,t⟩:=b4 h;have key:∀z∈l,z=(p:Int)\/z∈iL (λz=>decide (z=(p:Int))) l:=λz v=>by
    by_cases e:z=(p:Int)
    ·exact .inl e
    ·exact .inr (Ye v (decide_eq_false e))
   show ∃u,R.2.1[k]? =some u/\_;rcases H k o _ t (G h) with ⟨a,b,d⟩ | ⟨a,b,d,f⟩ | ⟨a,x,r,b,d,f,y⟩
   ·refine ⟨_,d,λz v=> ?_⟩;rcases key z v with h1 | h1
    ·exact .inr (.inr (by omega))
    ·exact .inl h1
   ·refine ⟨_,f,λz v=> ?_⟩;grind
   ·refine ⟨_,f,λz v=> ?_⟩;rcases key z v with h1 | h1
    ·exact .inr (.inr (by omega))
    ·have c5:=(B h (bU.subset h1) (D h h1)).1;rw [b] at h1;rcases List.mem_cons.1 h1 with rfl | h1
     ·refine .inr (.inl ?_);show ((z.toNat:Nat):Int)∈R.2.2;rw [show ((z.toNat:Nat):Int)=z by omega];exact y
     ·exact .inl h1
  ·have h:(q:Int)∈R.2.2:=h;rcases W _ h with h1 | ⟨k,l,r,m,t,O⟩
   ·omega
   ·have w:(q:Int)∈iL (λz=>decide (z=(p:Int))) l:=by rw [O];exact List.mem_cons_self ..
    have ho:=B t (bU.subset w) (D t w);rw [Int.toNat_natCast] at ho;omega
 refine ⟨Good.mZ g3 U λa C=> ?_,λi Y k h=> ?_,λi Y k q h w=> ?_⟩
 ·rcases W a C with h | ⟨k,l,r,m,t,O⟩
  ·exact .inl h
  ·have w:a∈iL (λz=>decide (z=(p:Int))) l:=by rw [O];exact List.mem_cons_self ..
   obtain ⟨a1,a2,a3,a4,a5,n,a6,_⟩:=B t (bU.subset w) (D t w);exact .inr ⟨a1,a2,a4,by show (s.proc a.toNat).state≠4;omega,n,a6⟩
 ·by_cases e:i=az c p
  ·subst e;rw [uw] at h;grind
  ·rw [u4 e] at h;rcases g.own i Y k _ h with h1 | ⟨_,_,h1,_⟩
   ·omega
   grind
 ·by_cases e:i=az c p
  ·subst e;rw [uw] at h;obtain ⟨l,m,t⟩:=b6 k q h;grind
  ·rw [u4 e] at h;have:=((g.jf i Y k q h).2.1 _ w).2.2.1;grind
end
section
variable {c:aE} {fl:Nat->Nat->Bool} {s:MS} {T:Int} {p:Nat} {X Z:Nat->Prop}
theorem Je :∀ {l:List Int} {s:MS},(∀a∈l,a≠(p:Int))->((l.foldl gW s).proc p)=s.proc p
 | [],_,_=>rfl
 | a::l,s,h=>by
  rw [List.foldl_cons,Je λb hb=>h b (List.mem_cons_of_mem _ hb)];unfold gW;split
  ·have:=h a (List.mem_cons_self ..);exact jc (by omega)
  ·rfl
theorem BD {q:Nat}:∀ {l:List Int} {s:MS},((l.foldl gW s).proc q).aj=(s.proc q).aj/\(l.foldl gW s).part=s.part
 | [],_=>⟨rfl,rfl⟩
 | a::l,s=>by
  have h:=BD (q:=q) (l:=l) (s:=gW s a);have b:((gW s a).proc q).aj=(s.proc q).aj/\(gW s a).part=s.part:=by
   unfold gW;split
   ·unfold qv;refine ⟨?_,rfl⟩;by_cases e:q=a.toNat
    ·subst e;rw [fX];rfl
    ·rw [jc e]
   ·exact ⟨rfl,rfl⟩
  grind
theorem Good.empty (g:Good c fl s No (λq=>q=p) T) (hp:p<nQ c) (b0:(s.proc p).state=5\/(s.proc p).state=6) (a8:∀i,i<nP c->∀(k:Nat),(s.part i).aB[k]?≠some (p:Int)) (R:∀i,i<nP c->∀(k:Nat) q,(s.part i).av[k]? =some q->(p:Int)∉q)
  (S:∀r,r<nQ c->∀l∈(s.proc r).aj,∀w∈l.waiters,w.proc≠(p:Int)):Good c fl (jE (iw s p) p) (λq=>(q:Int)∈(((s.proc p).aj.flatMap (·.waiters)).map (·.proc))) No T:=by
 have y:(jE (iw s p) p).proc p={s.proc p with timer:=0,cv:=0,aj:=(s.proc p).aj.map tX}:=by unfold jE iw;rw [fX,fX]
 have m:∀r,r≠p->(jE (iw s p) p).proc r=s.proc r:=λr e=>by unfold jE iw;rw [jc e,jc e]
 have t:(jE (iw s p) p).part=s.part:=rfl;have I:(jE (iw s p) p).tick=s.tick:=rfl;have H:∀q:Nat,(q:Int)∈(((s.proc p).aj.flatMap (·.waiters)).map (·.proc))->q≠p/\(s.proc q).state=2/\∃n,dP c q (s.proc q)=some n/\n.op=24/\fA (s.proc q).bw n.b=(p:Int):=by
  intro q h;obtain ⟨w,f,e⟩:=List.mem_map.1 h;obtain ⟨l,Q,U⟩:=List.mem_flatMap.1 f;obtain ⟨i,a,O⟩:=List.getElem_of_mem Q;have P:(s.proc p).aj[i]? =some l:=by rw [List.getElem?_eq_getElem a,O]
  obtain ⟨a1,a2,a3,a4,a5⟩:=(g.dS p hp i l P).2.2 w U;grind
 generalize jE (iw s p) p=s' at*;refine ⟨by rw [I];exact g.tick,λi a=>by rw [t];exact g.part i a,λr d=> ?_,λi a k o h=> ?_,λi a k q h=> ?_,λr d i l h=> ?_,λr d j h=> ?_,λr d j h=> ?_⟩
 ·rw [I];have pm:=g.proc r d;have ht:=g.tick;by_cases e:r=p
  ·subst e;rw [y];refine ⟨pm.st,pm.pc,by show (List.map _ _).length=_;rw [List.length_map];exact pm.mS,by show 0<=(s.proc r).ah/\(s.proc r).ah<((List.map _ _).length:Int);rw [List.length_map];exact pm.cur,by show (0:Int)<=0/\(0:Int)<=_;omega,by show (0:Int)<=0/\(0:Int)<=_;omega,.inr ⟨λh=>absurd h (Int.lt_irrefl 0),λh=> ?_⟩,λh=>⟨.inr rfl,(pm.dead h).2⟩,λi l h=> ?_,λh=> ?_,λh=> ?_,λh=> ?_,λh=> ?_,pm.bw⟩
   ·have h:(s.proc r).state=4:=h;omega
   ·have h:((s.proc r).aj.map tX)[i]? =some l:=h;rw [List.getElem?_map] at h;cases e:(s.proc r).aj[i]? with
    | none=>rw [e] at h;cases h
    | some K=>rw [e] at h;cases h;exact pm.dS i K e
   ·have h:(s.proc r).state=1:=h;omega
   ·have h:(s.proc r).state=2:=h;omega
   ·have h:(s.proc r).state=3:=h;omega
   grind
  ·rw [m r e];exact ⟨pm.st,pm.pc,pm.mS,pm.cur,pm.nO,pm.nR,.inr (pm.pe.resolve_left e),λh=>⟨.inr ((pm.dead h).1.resolve_left e),(pm.dead h).2⟩,pm.dS,pm.recv,pm.snd,pm.qO,pm.jQ,pm.bw⟩
 ·rw [t] at h;rcases g.own i a k o h with x | ⟨x,E,F,G⟩
  ·exact .inl x
  grind
 ·rw [t] at h ⊢;obtain ⟨u,C,v⟩:=g.jf i a k q h;refine ⟨u,λz J=> ?_,v⟩;obtain ⟨a1,a2,a3,a4,a5⟩:=C z J;have V:z.toNat≠p:=λe=>R i a k q h (by rw [show (p:Int)=z by clear a5;omega];exact J);have a5:=a5.resolve_left V;refine ⟨a1,a2,a3,λj=> ?_,.inr ?_⟩
  ·have:=(H _ j).2.1;have h9:=a5.1;clear a5;omega
  grind
 ·by_cases e:r=p
  ·subst e;rw [y] at h;have h:((s.proc r).aj.map tX)[i]? =some l:=h;rw [List.getElem?_map] at h;cases e:(s.proc r).aj[i]? with
   | none=>grind
   | some K=>rw [e] at h;cases h;exact ⟨List.Pairwise.nil,λh=>absurd rfl h,λw f=>by cases f⟩
  ·rw [m r e] at h;obtain ⟨u,C,v⟩:=g.dS r d i l h;refine ⟨u,λf=> ?_,λw f=> ?_⟩
   ·grind
   ·obtain ⟨a1,a2,a3,a4,a5⟩:=v w f;have B:=S r d l (List.mem_of_getElem? h) w f;have B:w.proc.toNat≠p:=λe=>B (by clear a5;omega);obtain ⟨Y,n,L,c3,M,c5⟩:=a5.resolve_left B;refine ⟨a1,a2,a3,λj=> ?_,.inr ?_⟩
    ·obtain ⟨_,_,n',D,_,N⟩:=H _ j;rw [L] at D;cases D;rw [M] at N;clear a5;omega
    grind
 ·have A:r≠p:=λe=>by grind
  rw [m r A] at h;rw [t];exact g.sM r d (λh=>h) h
 ·have A:r≠p:=λe=>by subst e;rw [y] at h;have h:(s.proc r).state=2:=h;omega
  rw [m r A] at h;obtain ⟨W,x,l,E,w,F,G⟩:=g.sL r d (λh=>h) h;have a9:W≠p:=λe=>by subst e;refine j ?_;show (r:Int)∈_;exact List.mem_map.2 ⟨w,List.mem_flatMap.2 ⟨l,List.mem_of_getElem? E,F⟩,G⟩
  grind
theorem Good.ends (m:cf c) (g:Good c fl s No No T) {st:Int} (Y:st=5\/st=6) (hp:p<nQ c):Good c fl (lZ c s p st) No No T:=by
 have b:=m.fi (p:=p);rw [y9];have J:=g.dying (st:=st) Y hp;have B:((gw s p st).proc p).state=st:=by unfold gw;rw [fX]
 obtain ⟨u,C⟩:=Good.leave (p:=p) (s:=gw s p st) (L:=dT c (az c p)) J ⟨by rw [B];omega,by rw [B];omega⟩ λq=>fS;have u:Good c fl (eH c s p st) No (λq=>q=p) T:=u;have C:∀r,r<nQ c->∀l∈((eH c s p st).proc r).aj,∀w∈l.waiters,w.proc≠(p:Int):=C;have o:((eH c s p st).proc p).state=st:=by show (if p∈dT c (az c p) then nz p ((gw s p st).proc p) else (gw s p st).proc p).state=st;split<;>exact B
 obtain ⟨x,V,W⟩:=u.vG b (by rw [o];omega);have x:Good c fl (jD c (eH c s p st) p) No (λq=>q=p) T:=x;have F:=λq=>BD (q:=q) (l:=(pZ p ((eH c s p st).part (az c p))).2) (s:=qL c (eH c s p st) p);have G:(jD c (eH c s p st) p).part=(qL c (eH c s p st) p).part:=(F 0).2;have S:∀q,((jD c (eH c s p st) p).proc q).aj=((eH c s p st).proc q).aj:=λq=>(F q).1;have b0:(jD c (eH c s p st) p).proc p=(eH c s p st).proc p:=by
  refine Je (s:=qL c (eH c s p st) p) λa O=> ?_;have U:((eH c s p st).part (az c p)).aB.length=(((eH c s p st).part (az c p)).av.map (iL λz=>decide (z=(p:Int)))).length:=by have:=(u.part _ b).ij;have:=(u.part _ b).jg;grind
  rcases (CR (p:=(p:Int)) U).2.2.2.1 a O with h | ⟨k,r,E,v⟩
  ·omega
  ·intro e;rw [List.getElem?_map] at v;cases D:((eH c s p st).part (az c p)).av[k]? with
   | none=>grind
   | some q0=>rw [D] at v;have v:=Option.some.inj v;have nd:=(u.jf _ b k q0 D).1;exact N5 (g:=λz=>z) (by simpa using nd) a (by grind) e
 have a8:((jD c (eH c s p st) p).proc p).state=5\/((jD c (eH c s p st) p).proc p).state=6:=by grind
 generalize jD c (eH c s p st) p=f at*;have K:=x.empty hp a8 (λi b k=>by rw [G];exact V i b k) (λi b k q h=>by rw [G] at h;exact W i b k q h) λr hr l d=>by grind
 have I:rA c (iw f p) p=((f.proc p).aj.flatMap (·.waiters)).foldl (λs w=>bV c s w.proc.toNat 2) (jE (iw f p) p):=by
  unfold rA;have:((iw f p).proc p).aj=(f.proc p).aj:=by unfold iw;rw [fX]
  rw [this]
 rw [I];refine Good.rY K ?_ λw hw=> ?_
 · -- lG waits stands in one lane alone
  have key:∀(t:List bq) (j:Nat),(∀(i:Nat) l,t[i]? =some l->(l.waiters.map (·.proc)).Nodup/\(l.waiters≠ []->i=j))->((t.flatMap (·.waiters)).map (·.proc)).Nodup:=by
   intro t
   induction t with
   | nil=>intro j _;exact List.Pairwise.nil
   | cons a t ih=>
    intro j h;rw [List.flatMap_cons,List.map_append];obtain ⟨E,v⟩:=h 0 a rfl;by_cases e:a.waiters=[]
    ·rw [e];cases j with
     | zero=>
      have:t.flatMap (·.waiters)=[]:=by
       rw [List.flatMap_eq_nil_iff];intro l d;obtain ⟨i,b,y⟩:=List.getElem_of_mem d;by_cases o:l.waiters=[]
       ·exact o
       ·have:=(h (i+1) l (by simp [List.getElem?_eq_getElem b,y])).2 o;omega
      rw [this];exact List.Pairwise.nil
     | succ j=>refine ih j λi l d=> ?_;obtain ⟨M,N⟩:=h (i+1) l (by simpa using d);exact ⟨M,λA=>by have:=N A;omega⟩
    ·have R:=v e;subst R;have:t.flatMap (·.waiters)=[]:=by
      rw [List.flatMap_eq_nil_iff];intro l d;obtain ⟨i,b,y⟩:=List.getElem_of_mem d;by_cases o:l.waiters=[]
      ·exact o
      ·have:=(h (i+1) l (by simp [List.getElem?_eq_getElem b,y])).2 o;omega
     rw [this];simpa using E
  refine key _ (az c p) λi l d=> ?_;obtain ⟨b1,b2,b3⟩:=x.dS p hp i l d;grind
 ·obtain ⟨l,d,H⟩:=List.mem_flatMap.1 hw;obtain ⟨i,Q,y⟩:=List.getElem_of_mem d;have P:(f.proc p).aj[i]? =some l:=by rw [List.getElem?_eq_getElem Q,y]
  obtain ⟨a1,a2,a3,a4,a5⟩:=(x.dS p hp i l P).2.2 w H;have a9:=C p hp l (by rw [S] at d;exact d) w H;have A:w.proc.toNat≠p:=λe=>a9 (by clear a5;omega);obtain ⟨c1,n,c2,_⟩:=a5.resolve_left A;have e:(jE (iw f p) p).proc w.proc.toNat=f.proc w.proc.toNat:=by unfold jE iw;rw [jc A,jc A]
  grind
end
section
variable {c:aE} {fl:Nat->Nat->Bool} {s:MS} {T:Int} {p:Nat} {t:Int} {x:ak} {z:Prop}
theorem Good.out (m:cf c) (g:Good c fl s No No T) {v:Int} (hp:p<nQ c) (k:T=s.tick+1):Good c fl (qS c s p v) No No T:=by
 have i:=m.fi (p:=p);have pm:=g.part _ i;have j:=g.tick;unfold qS;dsimp only;by_cases h:((s.part (az c p)).log.length:Int)<c.log
 ·rw [if_pos h];refine g.parts ⟨pm.cur,by grind,⟨?_,λe he=> ?_⟩,pm.lost,pm.me,λd=> ?_,pm.ij,pm.jg⟩ rfl rfl
  ·show ((s.part (az c p)).log++ [_]).Pairwise _;rw [List.pairwise_append];refine ⟨pm.log.1,List.pairwise_singleton _ _,λa f b hb=> ?_⟩;have:=pm.log.2 a f;grind
  ·have he:e∈(s.part (az c p)).log++ [⟨s.tick,(p:Int),v⟩]:=he;rcases List.mem_append.1 he with he | he
   ·exact pm.log.2 e he
   grind
  ·have d:0<(s.part (az c p)).lost:=d;have:=pm.full d;omega
 ·rw [if_neg h];exact g.parts ⟨pm.cur,pm.kG,pm.log,wE pm.lost,pm.me,λ_=>by grind,pm.ij,pm.jg⟩ rfl rfl
theorem Eo :x.put x.core=x:=rfl
theorem cR.sleep (pm:cR c fl t p z x) (e:x.state=0) {n:cX} (a:dP c p x=some n) (b:n.op=28) {w:Int} (d:0<w/\w<=t+1099511627776):cR c fl t p z {x with state:=4,cv:=w} where
 st:=by simp
 pc:=pm.pc
 mS:=pm.mS
 cur:=pm.cur
 nO:=pm.nO
 nR:=by grind
 pe:=.inr ⟨λ_=>rfl,λ_=>d.1⟩
 dead:=λh=>by grind
 dS:=pm.dS
 recv:=λh=>by grind
 snd:=λh=>by grind
 qO:=λh=>by grind
 jQ:=λ_=>⟨n,a,b⟩
 bw:=pm.bw
theorem cR.timer (pm:cR c fl t p z x) (b:x.state=0) {w:Int} (a:0<=w/\w<=t+1099511627776):cR c fl t p z {x with bL:=false,timer:=w} where
 st:=pm.st
 pc:=pm.pc
 mS:=pm.mS
 cur:=pm.cur
 nO:=a
 nR:=pm.nR
 pe:=pm.pe
 dead:=λh=>by grind
 dS:=pm.dS
 recv:=λh=>by grind
 snd:=pm.snd
 qO:=pm.qO
 jQ:=pm.jQ
 bw:=pm.bw
theorem Good.OS {D:Int->Int->Int->Int} (m:cf c) (g:Good c fl s No No T) (hp:p<nQ c) (f:(s.proc p).state=0) (H:T=s.tick+1):Good c fl (tU c D fl s p) No No T:=by
 have pm:=g.proc p hp;have P:=g.tick;have r:Out s No No p:=xy ⟨by omega,by omega⟩;have j:s.aL p (s.proc p)=s:=by unfold MS.aL;rw [zd]
 have O:∀ {y:ak},y.state=0\/y.state=4->(kB (s.proc p)=true->kB y=true):=λ{y} Q _=>by rw [dm];omega
 unfold tU;dsimp only;rcases Dr (D:=D) (l:=gF c p) (k:=(s.proc p).core) (tk:=s.tick) (self:=(p:Int)) with ⟨C,E⟩ | ⟨n,u,J,⟨_,e⟩ | ⟨w,st,L,e⟩⟩
 ·rw [C,if_pos rfl,E,Eo,j];exact g.ends m (.inl rfl) hp
 ·rw [e];dsimp only;rw [pN,if_neg (by omega),if_neg (by omega),if_neg (by omega),if_neg (by omega),if_neg (by omega),if_neg (by omega),if_neg (by omega),if_neg (by omega)];have A:=KH (D:=D) (tk:=s.tick) (self:=(p:Int)) u J pm.bw;exact xC (g.core r pm rfl f A.1 A.2)
 ·rw [e];dsimp only;have i:dP c p (s.proc p)=some n:=u;have N:=AQ i;have q:Good c fl (s.aL p ((s.proc p).put (fP (s.proc p).core))) No No T:=xC (g.core r pm rfl f ⟨by show 0<=(s.proc p).pc+1;omega,by show (s.proc p).pc+1<=_;omega⟩ pm.bw);have F:∀v:Int,0<v->0<qR v 1099511627776/\qR v 1099511627776<=1099511627776:=λv hv=>by unfold qR;split<;>omega
  rcases KG L with ⟨a,b⟩ | ⟨o,a,b⟩ | ⟨o,a,b⟩ | ⟨o,a,b⟩ | ⟨a,b⟩ | ⟨o,a,b⟩ | ⟨o,a,d,b⟩ | ⟨o,a,d,b⟩ | ⟨a,b⟩
  ·rw [if_pos a,b];simp only [if_true];rw [Eo,j];exact g.ends m (.inl rfl) hp
  ·rw [a,b];dsimp only;rw [pN,if_pos rfl];simp only [if_true];rw [Eo,j];exact g.send m hp f i o rfl rfl
  ·rw [pN,if_neg (by omega),if_pos a,b];simp only [if_true];rw [Eo,j];exact g.take m hp f i λ_=>o
  ·rw [pN,if_neg (by omega),if_neg (by omega),if_pos a,b];simp only [if_true];rw [Eo,j];exact g.take m hp f i λh=>by cases h
  ·rw [pN,if_neg (by omega),if_neg (by omega),if_neg (by omega),if_pos a,b];simp only [Bool.false_eq_true,if_false];rw [fX];have M:Out (s.aL p ((s.proc p).put (fP (s.proc p).core))) No No p:=xy (by rw [fX];exact ⟨by show (s.proc p).state≠2;omega,by show (s.proc p).state≠3;omega⟩);have B:=q.proc p hp;rw [fX] at B;have I:0<=(if 0<w.value then s.tick+qR w.value 1099511627776 else 0)/\(if 0<w.value then s.tick+qR w.value 1099511627776 else 0)<=s.tick+1099511627776:=by grind
   refine xC (q.run M (B.timer f I) ⟨by show (s.proc p).state≠2;omega,by show (s.proc p).state≠3;omega⟩ (by rw [fX]) λ_=> ?_);rw [dm];exact ⟨by show (s.proc p).state≠5;omega,by show (s.proc p).state≠6;omega⟩
  ·rw [pN,if_neg (by omega),if_neg (by omega),if_neg (by omega),if_neg (by omega),if_pos a,b];simp only [if_true];rw [Eo,j];have G:0<vT w.value 1:=by unfold vT;split<;>omega
   have:=F _ G;refine xC (g.run r (pm.sleep f i o (w:=s.tick+qR (vT w.value 1) 1099511627776) ⟨by omega,by omega⟩) ⟨by show (4:Int)≠2;omega,by show (4:Int)≠3;omega⟩ rfl λ_=> ?_);grind
  ·rw [pN,if_neg (by omega),if_neg (by omega),if_neg (by omega),if_neg (by omega),if_neg (by omega),if_pos a,b];simp only [if_true];rw [Eo,j];exact g.lock m hp f i o d.symm
  ·rw [pN,if_neg (by omega),if_neg (by omega),if_neg (by omega),if_neg (by omega),if_neg (by omega),if_neg (by omega),if_pos a,b];simp only [Bool.false_eq_true,if_false];have K:=Ou (m.ins i).1 (.inr o);exact q.unlock m hp (by rw [d];exact K)
  ·rw [pN,if_neg (by omega),if_neg (by omega),if_neg (by omega),if_neg (by omega),if_neg (by omega),if_neg (by omega),if_neg (by omega),if_pos a,b];simp only [Bool.false_eq_true,if_false];exact q.out m hp H
end
section
variable {c:aE} {fl:Nat->Nat->Bool} {s:MS} {T:Int} {p:Nat} {t:Int} {x:ak} {z:Prop}
theorem ZS {to v:Int}:(jx c fl s p to v).tick=s.tick:=by
 unfold jx
 repeat' split
 all_goals rfl
theorem JR {a:Int}:(gW s a).tick=s.tick:=by unfold gW;split<;>rfl
theorem Jf :∀ {l:List Int} {s:MS},(l.foldl gW s).tick=s.tick
 | [],_=>rfl
 | a::l,s=>by rw [List.foldl_cons,Jf,JR]
theorem JS {v:Int}:∀ {l:List mU} {s:MS},(l.foldl (λs w=>bV c s w.proc.toNat v) s).tick=s.tick
 | [],_=>rfl
 | a::l,s=>by rw [List.foldl_cons,JS];rfl
theorem KJ {b:Bool}:(jb c s p b).tick=s.tick:=by
 unfold jb;dsimp only
 repeat' split
 all_goals rfl
theorem ZT {n:Int}:(iX c s p n).tick=s.tick:=by unfold iX;dsimp only;split<;>rfl
theorem XP {n:Int}:(uv c s p n).tick=s.tick:=by
 unfold uv;dsimp only;split
 ·split
  ·rfl
  ·exact JR
 ·rfl
theorem LQ {st:Int}:(lZ c s p st).tick=s.tick:=by rw [y9];unfold rA;rw [JS];show (jD c (eH c s p st) p).tick=_;unfold jD;rw [Jf];rfl
theorem DZ {D:Int->Int->Int->Int}:(tU c D fl s p).tick=s.tick:=by
 unfold tU;dsimp only;split
 ·exact LQ
 split
 ·exact ZS
 split
 ·exact KJ
 split
 ·exact KJ
 split
 ·rfl
 split
 ·rfl
 split
 ·exact ZT
 split
 ·exact XP
 split
 ·rfl
 ·rfl
theorem Good.rZ {X Z:Nat->Prop} {T':Int} (g:Good c fl s X Z T) (h:T<=T'):Good c fl s X Z T':=
 ⟨g.tick,λi b=>by
  have pm:=g.part i b;exact ⟨pm.cur,pm.kG,⟨pm.log.1,λe a=>by have:=pm.log.2 e a;omega⟩,pm.lost,pm.me,pm.full,pm.ij,pm.jg⟩,g.proc,g.own,g.jf,g.dS,g.sM,g.sL⟩
theorem Good.OT (g:Good c fl s No No T) (hp:p<nQ c):Good c fl (s.aL p (mD s.tick (s.proc p))) No No T:=by
 have H:=g.tick;have B:s.aL p (s.proc p)=s:=by unfold MS.aL;rw [zd]
 have f:Good c fl (s.aL p (if 0<(s.proc p).cv/\(s.proc p).cv<=s.tick then {s.proc p with cv:=0,state:=0,pc:=(s.proc p).pc+1} else s.proc p)) No No T:=by
  by_cases h:0<(s.proc p).cv/\(s.proc p).cv<=s.tick
  ·rw [if_pos h];have pm:=g.proc p hp;have o:=(pm.pe.resolve_left (λh=>h)).1 h.1;obtain ⟨n,v,_⟩:=pm.jQ o;have G:=AQ v;refine xC (g.run (xy ⟨by omega,by omega⟩) ⟨by show (0:Int)<=0/\(0:Int)<=6;omega,by show 0<=(s.proc p).pc+1/\(s.proc p).pc+1<=_;omega,pm.mS,pm.cur,pm.nO,by show (0:Int)<=0/\(0:Int)<=_;omega,.inr ⟨λh=>absurd h (Int.lt_irrefl 0),λh=>by have h:(0:Int)=4:=h;omega⟩,λh=>by have h:(0:Int)=5\/(0:Int)=6:=h;omega,pm.dS,λh=>by have h:(0:Int)=1:=h;omega,λh=>by have h:(0:Int)=2:=h;omega,λh=>by have h:(0:Int)=3:=h;omega,λh=>by have h:(0:Int)=4:=h;omega,pm.bw⟩ ⟨by show (0:Int)≠2;omega,by show (0:Int)≠3;omega⟩ rfl λ_=>rfl)
  ·rw [if_neg h,B];exact g
 generalize E:(if 0<(s.proc p).cv/\(s.proc p).cv<=s.tick then ({s.proc p with cv:=0,state:=0,pc:=(s.proc p).pc+1}:ak) else s.proc p)=y at f;have e:mD s.tick (s.proc p)=if 0<y.timer/\y.timer<=s.tick then {y with timer:=0,bL:=true,state:=if y.state=1 then 0 else y.state} else y:=by unfold mD;dsimp only;rw [E]
 rw [e];by_cases h:0<y.timer/\y.timer<=s.tick
 ·rw [if_pos h];have pm:=f.proc p hp;rw [fX] at pm;have C:(if y.state=1 then (0:Int) else y.state)=y.state\/(y.state=1/\(if y.state=1 then (0:Int) else y.state)=0):=by
   by_cases h:y.state=1
   ·right;exact ⟨h,if_pos h⟩
   ·left;exact if_neg h
  have b:∀ {m:Int},m≠0->(if y.state=1 then (0:Int) else y.state)=m->y.state=m/\y.state≠1:=λ{m} u h=>by
   by_cases k:y.state=1
   ·rw [if_pos k] at h;exact absurd h.symm u
   ·rw [if_neg k] at h;exact ⟨h,k⟩
  have hb:=pm.st;have q:=f.aj (p:=p) (x':={y with timer:=0,bL:=true,state:=if y.state=1 then 0 else y.state}) (X':=No)
   ⟨by show 0<=(if y.state=1 then (0:Int) else y.state)/\(if y.state=1 then (0:Int) else y.state)<=6;split<;>omega,pm.pc,pm.mS,pm.cur,by show (0:Int)<=0/\(0:Int)<=_;have:(s.aL p y).tick=s.tick:=rfl;omega,pm.nR,
    pm.pe.imp (λh=>h) λr=>⟨λa=>by
     have:=r.1 a;show (if y.state=1 then (0:Int) else y.state)=4;rw [pN];exact this,λa=>r.2 (b (by decide) a).1⟩,
    λa=>by have a:(if y.state=1 then (0:Int) else y.state)=5\/(if y.state=1 then (0:Int) else y.state)=6:=a;have o:y.state=5\/y.state=6:=a.imp (λh=>(b (by decide) h).1) λh=>(b (by decide) h).1;have:=(pm.dead o).1.resolve_left (λh=>h);omega,
    pm.dS,λa=>absurd (b (by decide) a).1 (b (by decide) a).2,λa=>pm.snd (b (by decide) a).1,λa=>pm.qO (b (by decide) a).1,λa=>pm.jQ (b (by decide) a).1,pm.bw⟩
   (by rw [fX];exact C) (by rw [fX]) (by rw [fX]) (by rw [fX]) (λi l F j d=>by
    rw [fX] at j;have d:y.aj[i]? =some F:=d;rw [j] at d;cases d;refine ⟨List.Sublist.refl _,λA=> ?_,λw D=>.inl D⟩;exact ((f.dS p hp i l (by rw [fX];exact j)).2.1 A).2.2) hp (λ_ h=>h) (λ_ h=>h.elim)
  rw [AI] at q;exact q
 grind
def oh (s:MS) (l:List Nat):MS:=⟨s.tick,s.part,λq=>if q∈l then mD s.tick (s.proc q) else s.proc q⟩
theorem Good.Fw (g:Good c fl s No No T):∀(l:List Nat),(∀q∈l,q<nQ c)->l.Nodup->Good c fl (oh s l) No No T
 | [],_,_=>by
  have e:oh s []=s:=by unfold oh;simp
  rw [e];exact g
 | q::l,h,b=>by
  rw [List.nodup_cons] at b;have f:=g.Fw l (λr i=>h r (List.mem_cons_of_mem _ i)) b.2;have j:=f.OT (p:=q) (h q (List.mem_cons_self ..));have d:(oh s l).proc q=s.proc q:=if_neg b.1;have e:(oh s l).aL q (mD (oh s l).tick ((oh s l).proc q))=oh s (q::l):=by
   rw [d];unfold oh MS.aL;congr 1;funext r;unfold cp;by_cases e:r=q
   ·subst e;rw [if_pos rfl,if_pos (by simp)]
   ·rw [if_neg e];show (if r∈l then mD s.tick (s.proc r) else s.proc r)=_;by_cases a:r∈l
    ·rw [if_pos a,if_pos (by simp [a])]
    ·rw [if_neg a,if_neg (by simp [a,e])]
  grind
theorem Good.due (g:Good c fl s No No T) {i:Nat}:Good c fl (iv c s i) No No T:=by
 have h:=g.Fw (dT c i) (λq b=>(fS.1 b).1) KI;have e:oh s (dT c i)=iv c s i:=by
  unfold oh iv;congr 1;funext q;by_cases h:q<nQ c/\az c q=i
  ·rw [if_pos h,if_pos (fS.2 h)]
  ·rw [if_neg h,if_neg λa=>h (fS.1 a)]
 grind
theorem Ch {i a:Nat} (h:iY c s i=some a):a<(dT c i).length/\(s.proc ((dT c i).getD a 0)).state=0:=by unfold iY at h;have d:=List.find?_some h;have f:=List.mem_of_find?_eq_some h;obtain ⟨k,b,e⟩:=List.mem_map.1 f;have b:=List.mem_range.1 b;refine ⟨?_,of_decide_eq_true d⟩;rw [<-e];exact Nat.mod_lt _ (by omega)
theorem Good.Bt {D:Int->Int->Int->Int} (m:cf c) (g:Good c fl s No No T) {i a:Nat} (e:i<nP c) (j:T=s.tick+1) (h:iY c s i=some a):Good c fl (jR c D fl s i a) No No T:=by
 obtain ⟨n,d⟩:=Ch h;unfold jR;have pm:=g.part i e;have b:Good c fl (s.dh i {s.part i with ah:=((a+1:Nat):Int)%((dT c i).length:Int)}) No No T:=by refine g.parts ⟨?_,pm.kG,pm.log,pm.lost,pm.me,pm.full,pm.ij,pm.jg⟩ rfl rfl;have k:=Int.emod_nonneg ((a+1:Nat):Int) (show ((dT c i).length:Int)≠0 by omega);have l:=Int.emod_lt_of_pos ((a+1:Nat):Int) (show (0:Int)<((dT c i).length:Int) by omega);grind
 have f:(dT c i).getD a 0∈dT c i:=by grind
 exact b.OS m (fS.1 f).1 d j
theorem Good.turns {D:Int->Int->Int->Int} (m:cf c) {i:Nat} (b:i<nP c):∀(n:Nat) {s:MS},Good c fl s No No T->T=s.tick+1->Good c fl (mo c D fl i n s) No No T/\(mo c D fl i n s).tick=s.tick
 | 0,s,g,_=>⟨g,rfl⟩
 | n+1,s,g,d=>by
  unfold mo;cases h:iY c s i with
  | none=>exact ⟨g,rfl⟩
  | some a=>have e:(jR c D fl s i a).tick=s.tick:=DZ;have:=Good.turns (D:=D) m b n (g.Bt (D:=D) m b d h) (by rw [e];exact d);grind
theorem cf.jN (m:cf c) {t:Int}:iT c t<nP c:=by
 unfold iT;have h:=m.table;have b:0<c.table.length:=List.length_pos_iff.2 h.1;have a:t.toNat%c.table.length<c.table.length:=Nat.mod_lt _ b;have:c.table.getD (t.toNat%c.table.length) 0=c.table[t.toNat%c.table.length]:=by simp [List.getD,List.getElem?_eq_getElem a]
 rw [this];have:=h.2.2 _ (List.getElem_mem a);omega
theorem cR.later (pm:cR c fl t p z x) {a:Int} (h:t<=a):cR c fl a p z x:=
 ⟨pm.st,pm.pc,pm.mS,pm.cur,by have:=pm.nO;omega,by have:=pm.nR;omega,pm.pe,pm.dead,pm.dS,pm.recv,pm.snd,pm.qO,pm.jQ,pm.bw⟩
theorem Good.wi {D:Int->Int->Int->Int} (m:cf c) (g:Good c fl s No No s.tick):Good c fl (jy c D fl s) No No (jy c D fl s).tick:=by have d:=(g.rZ (T':=s.tick+1) (by omega)).due (i:=iT c s.tick);obtain ⟨a,b⟩:=Good.turns (D:=D) m (m.jN (t:=s.tick)) c.fuel.toNat d rfl;have b:(mo c D fl (iT c s.tick) c.fuel.toNat (iv c s (iT c s.tick))).tick=s.tick:=b;have f:=a.tick;unfold jy;dsimp only;rw [b];exact ⟨by grind,a.part,λq e=>(a.proc q e).later (by grind),a.own,a.jf,a.dS,a.sM,a.sL⟩
theorem DU {v:Int} (h:q9 c s v=0):0<=v/\v.toNat<nQ c/\kB (s.proc v.toNat)=true:=by unfold q9 at h;grind
theorem Good.A7 (g:Good c fl s No No T) {q v:Int}:Good c fl (zip c s q v).1 No No T:=by
 unfold zip;by_cases h:q9 c s q≠0
 ·grind
 rw [if_neg h];obtain ⟨k,d,m⟩:=DU (Classical.not_not.1 h);have b:∀l,(s.proc q.toNat).aj[nP c]? =some l->(l.values.length:Int)<=c.lane/\kj l.taken/\kj l.dropped:=λl a=>by have:=(g.proc _ d).dS _ l a;grind
 by_cases e:ff c (s.proc q.toNat) (nP c)=true
 ·rw [if_pos e];exact g.lane d (i:=nP c) (f:=jM) (λl a=>⟨(b l a).1,(b l a).2.1,wE (b l a).2.2,λ_ h=>by omega⟩) (λl a=>⟨rfl,λ_=>rfl⟩) false λ_ l a=>a
 ·rw [if_neg e];have n:∀l,(s.proc q.toNat).aj[nP c]? =some l->(l.values.length:Int)<c.lane:=λl a=>by unfold ff at e;grind
  exact g.lane d (i:=nP c) (f:=sN v) (λl a=>⟨by
   show ((l.values++ [v]).length:Int)<=_;grind,(b l a).2.1,(b l a).2.2,λ_ h=>by omega⟩) (λl a=>⟨rfl,λj=>by
   have:=((g.dS _ d _ l a).2.1 j).2.2;grind⟩) true λh=>by cases h
theorem Good.kill (m:cf c) (g:Good c fl s No No T) {q:Int}:Good c fl (iD c s q).1 No No T:=by
 unfold iD;by_cases h:q9 c s q≠0
 ·grind
 rw [if_neg h];exact g.ends m (.inr rfl) (DU (Classical.not_not.1 h)).2.1
theorem XS {q v:Int}:(zip c s q v).1.tick=s.tick:=by
 unfold zip;split
 ·rfl
 ·split<;>rfl
theorem ZU {q:Int}:(iD c s q).1.tick=s.tick:=by
 unfold iD;split
 ·rfl
 ·exact LQ
theorem Good.first (m:cf c):Good c fl (qF c) No No (qF c).tick where
 tick:=Int.le_refl _
 part:=λi a=>by
  have f:=m.ae;have g:=m.log;refine ⟨⟨Int.le_refl _,λh=>absurd h (Int.lt_irrefl 0)⟩,by show ((0:Nat):Int)<=c.log;omega,⟨List.Pairwise.nil,λe b=>by cases b⟩,⟨Int.le_refl _,by show (0:Int)<=65535;omega⟩,⟨Int.le_refl _,by show (0:Int)<=65535;omega⟩,λh=>absurd h (Int.lt_irrefl 0),?_,?_⟩
  ·show ((List.replicate c.ae.toNat (-1:Int)).length:Int)=_;grind
  ·show ((List.replicate c.ae.toNat ([]:List Int)).length:Int)=_;grind
 proc:=λp hp=>by
  refine ⟨by show (0:Int)<=0/\(0:Int)<=6;omega,by show (0:Int)<=0/\(0:Int)<=_;omega,List.length_replicate ..,?_,by show (0:Int)<=0/\(0:Int)<=0+1099511627776;omega,by show (0:Int)<=0/\(0:Int)<=0+1099511627776;omega,.inr ⟨λh=>absurd h (Int.lt_irrefl 0),λh=>by have h:(0:Int)=4:=h;omega⟩,λh=>by have h:(0:Int)=5\/(0:Int)=6:=h;omega,λi l h=> ?_,λh=>by have h:(0:Int)=1:=h;omega,λh=>by have h:(0:Int)=2:=h;omega,λh=>by have h:(0:Int)=3:=h;omega,λh=>by have h:(0:Int)=4:=h;omega,List.length_replicate ..⟩
  ·show (0:Int)<=0/\(0:Int)<((List.replicate (nP c+1) _).length:Int);simp
  ·have h:(List.replicate (nP c+1) (⟨[],[],0,0⟩:bq))[i]? =some l:=h;have d:=List.eq_of_mem_replicate (List.mem_of_getElem? h);subst d;have:=m.lane;refine ⟨by show ((0:Nat):Int)<=_;omega,⟨Int.le_refl _,by show (0:Int)<=65535;omega⟩,⟨Int.le_refl _,by show (0:Int)<=65535;omega⟩,λh=> ?_⟩;rcases h with h | h | h
   ·exact absurd rfl h
   ·exact absurd h (Int.lt_irrefl 0)
   grind
 own:=λi a k o h=>by have h:(List.replicate c.ae.toNat (-1:Int))[k]? =some o:=h;grind
 jf:=λi a k q h=>by have h:(List.replicate c.ae.toNat ([]:List Int))[k]? =some q:=h;grind
 dS:=λr j i l h=>by have h:(List.replicate (nP c+1) (⟨[],[],0,0⟩:bq))[i]? =some l:=h;grind
 sM:=λp hp _ h=>by have h:(0:Int)=3:=h;omega
 sL:=λp hp _ h=>by have h:(0:Int)=2:=h;omega
end
structure Shape where
 T:Type
 enc:T->Value
 dec:Value->Option T
 ok:∀v x,dec v=some x->enc x=v
structure Sl where
 base:Option Addr
 len:Nat
 cap:Nat
def Sl.v (s:Sl):Value:=.slice s.base s.len s.cap
def FH :IntKind->IntKind->Bool
 | .i8,.i8 | .i16,.i16 | .i32,.i32 | .i64,.i64 | .u8,.u8 | .u16,.u16 | .u32,.u32 | .u64,.u64=>true
 | _,_=>false
theorem Ji {a b:IntKind} (h:FH a b=true):a=b:=by cases a<;>cases b<;>first | rfl | cases h
def OU :FloatKind->FloatKind->Bool
 | .f32,.f32 | .f64,.f64=>true
 | _,_=>false
theorem Vw {a b:FloatKind} (h:OU a b=true):a=b:=by cases a<;>cases b<;>first | rfl | cases h
@[reducible] def af (k : IntKind) : Shape where
 T:=Int
 enc:=λn=>.int k n
 dec:=λv=>match v with
  | .int b n=>cond (FH b k) (some n) none
  | _=>none
 ok:=by
  intro v x h;split at h
  ·rename_i b n;cases a:FH b k
   ·simp [a] at h
   ·simp [a] at h;rw [Ji a,h]
  ·cases h
@[reducible] def bn : Shape where
 T:=Bool
 enc:=λn=>.bool n
 dec:=λv=>match v with
  | .bool n=>some n
  | _=>none
 ok:=by intro v x h;split at h<;>cases h;rfl
@[reducible] def qz : Shape where
 T:=ByteArray
 enc:=λn=>.string n
 dec:=λv=>match v with
  | .string n=>some n
  | _=>none
 ok:=by intro v x h;split at h<;>cases h;rfl
@[reducible] def ag : Shape where
 T:=Option Addr
 enc:=λn=>.pointer n
 dec:=λv=>match v with
  | .pointer n=>some n
  | _=>none
 ok:=by intro v x h;split at h<;>cases h;rfl
@[reducible] def au : Shape where
 T:=Sl
 enc:=λn=>.slice n.base n.len n.cap
 dec:=λv=>match v with
  | .slice a l c=>some ⟨a,l,c⟩
  | _=>none
 ok:=by grind
@[reducible] def gv : Shape where
 T:=Option Nat
 enc:=λn=>.map n
 dec:=λv=>match v with
  | .map n=>some n
  | _=>none
 ok:=by intro v x h;split at h<;>cases h;rfl
@[reducible] def jP (k : FloatKind) : Shape where
 T:=Nat
 enc:=λn=>.float k n
 dec:=λv=>match v with
  | .float b n=>cond (OU b k) (some n) none
  | _=>none
 ok:=by
  intro v x h;split at h
  ·rename_i b n;cases a:OU b k
   ·simp [a] at h
   ·simp [a] at h;rw [Vw a,h]
  ·cases h
@[reducible] def AA : Shape where
 T:=Value
 enc:=λv=>v
 dec:=λv=>some v
 ok:=by simp
def Na :Value->Bool
 | .agg _=>false
 | _=>true
structure pD where
 v:Value
 ok:Na v=true
@[reducible] def kg : Shape where
 T:=pD
 enc:=λx=>x.v
 dec:=λv=>match h:Na v with
  | true=>some ⟨v,h⟩
  | false=>none
 ok:=by grind
structure xm where
 g:Nat
 first:Array Value
 captured:Array Value
@[reducible] def kf : Shape where
 T:=xm
 enc:=λx=>.func (.func x.g) x.first x.captured
 dec:=λv=>match v with
  | .func (.func g) a b=>some ⟨g,a,b⟩
  | _=>none
 ok:=by grind
structure sy (n:Nat) where
 l:List Value
 ok:Nat.beq l.length n=true
theorem sy.size {n:Nat} (x:sy n):(Array.mk x.l).size=n:=Nat.eq_of_beq_eq_true x.ok
@[reducible] def TF (n : Nat) : Shape where
 T:=sy n
 enc:=λx=>.agg ⟨x.l⟩
 dec:=λv=>match v with
  | .agg ⟨l⟩=>match h:Nat.beq l.length n with
   | true=>some ⟨l,h⟩
   | false=>none
  | _=>none
 ok:=by grind
@[reducible] def uA : Shape where
 T:=Unit
 enc:=λ_=>.tuple #[]
 dec:=λv=>match v with
  | .tuple ⟨[]⟩=>some ()
  | _=>none
 ok:=by grind
structure Fi where
 more:Bool
 rest:List Value
@[reducible] def Vy : Shape where
 T:=Fi
 enc:=λx=>.tuple ⟨.bool x.more::x.rest⟩
 dec:=λv=>match v with
  | .tuple ⟨.bool b::r⟩=>some ⟨b,r⟩
  | _=>none
 ok:=by grind
@[reducible] def nK (a b : Shape) : Shape where
 T:=a.T×b.T
 enc:=λp=>.tuple #[a.enc p.1,b.enc p.2]
 dec:=λv=>match v with
  | .tuple ⟨[x,y]⟩=>match a.dec x,b.dec y with
   | some x,some y=>some (x,y)
   | _,_=>none
  | _=>none
 ok:=by
  intro v x h;split at h
  ·split at h
   ·rename_i c d;cases h;rw [a.ok _ _ c,b.ok _ _ d]
   ·cases h
  ·cases h
@[reducible] def pU (a b c : Shape) : Shape where
 T:=a.T×b.T×c.T
 enc:=λp=>.tuple #[a.enc p.1,b.enc p.2.1,c.enc p.2.2]
 dec:=λv=>match v with
  | .tuple ⟨[x,y,z]⟩=>match a.dec x,b.dec y,c.dec z with
   | some x,some y,some z=>some (x,y,z)
   | _,_,_=>none
  | _=>none
 ok:=by
  intro v x h;split at h
  ·split at h
   ·rename_i d e f;cases h;rw [a.ok _ _ d,b.ok _ _ e,c.ok _ _ f]
   ·cases h
  ·cases h
@[reducible] def zx (a b c d : Shape) : Shape where
 T:=a.T×b.T×c.T×d.T
 enc:=λp=>.tuple #[a.enc p.1,b.enc p.2.1,c.enc p.2.2.1,d.enc p.2.2.2]
 dec:=λv=>match v with
  | .tuple ⟨[x,y,z,u]⟩=>match a.dec x,b.dec y,c.dec z,d.dec u with
   | some x,some y,some z,some u=>some (x,y,z,u)
   | _,_,_,_=>none
  | _=>none
 ok:=by
  intro v x h;split at h
  ·split at h
   ·rename_i e f g i;cases h;rw [a.ok _ _ e,b.ok _ _ f,c.ok _ _ g,d.ok _ _ i]
   ·cases h
  ·cases h
@[reducible] def zy (a b c d e : Shape) : Shape where
 T:=a.T×b.T×c.T×d.T×e.T
 enc:=λp=>.tuple #[a.enc p.1,b.enc p.2.1,c.enc p.2.2.1,d.enc p.2.2.2.1,e.enc p.2.2.2.2]
 dec:=λv=>match v with
  | .tuple ⟨[x,y,z,u,w]⟩=>match a.dec x,b.dec y,c.dec z,d.dec u,e.dec w with
   | some x,some y,some z,some u,some w=>some (x,y,z,u,w)
   | _,_,_,_,_=>none
  | _=>none
 ok:=by
  intro v x h;split at h
  ·split at h
   ·rename_i f g i j k;cases h;rw [a.ok _ _ f,b.ok _ _ g,c.ok _ _ i,d.ok _ _ j,e.ok _ _ k]
   ·cases h
  ·cases h
@[reducible] def VA (a b c d e f g : Shape) : Shape where
 T:=a.T×b.T×c.T×d.T×e.T×f.T×g.T
 enc:=λp=>.tuple #[a.enc p.1,b.enc p.2.1,c.enc p.2.2.1,d.enc p.2.2.2.1,e.enc p.2.2.2.2.1,f.enc p.2.2.2.2.2.1,g.enc p.2.2.2.2.2.2]
 dec:=λv=>match v with
  | .tuple ⟨[x,y,z,u,w,o,q]⟩=>match a.dec x,b.dec y,c.dec z,d.dec u,e.dec w,f.dec o,g.dec q with
   | some x,some y,some z,some u,some w,some o,some q=>some (x,y,z,u,w,o,q)
   | _,_,_,_,_,_,_=>none
  | _=>none
 ok:=by
  intro v x h;split at h
  ·split at h
   ·rename_i i j k l m n r;cases h;rw [a.ok _ _ i,b.ok _ _ j,c.ok _ _ k,d.ok _ _ l,e.ok _ _ m,f.ok _ _ n,g.ok _ _ r]
   ·cases h
  ·cases h
structure Ty where
 bO:TypeDesc
 size:Nat
 bytes:Nat
 zero:Value
 sh:Shape
structure Tb where
 ty:Nat->Option Ty
 call:Nat->Bool
 ext:Nat->Option (Array Value->Sem Value)
def qb :TypeDesc->Bool
 | .struct _ | .array _ _=>true
 | _=>false
def dN (tb:Tb) (t:Nat):Shape:=match tb.ty t with
 | some e=>e.sh
 | none=>uA
def nth {b:Type _}:List b->Nat->Option b
 | [],_=>none
 | a::_,0=>some a
 | _::l,n+1=>nth l n
def qt {a:Type _}:List a->Nat->List a
 | l,0=>l
 | [],_+1=> []
 | _::l,n+1=>qt l n
def qA {b:Type _}:List b->Nat->List b
 | _,0=> []
 | [],_+1=> []
 | a::l,n+1=>a::qA l n
def lx {c:Type _}:List c->Nat->List c->List c
 | l,0,[]=>l
 | [],0,_::_=> []
 | _::l,0,b::new=>b::lx l 0 new
 | [],_+1,_=> []
 | a::l,n+1,new=>a::lx l n new
inductive LV where
 | v (x:Value)
 | box (k off:Nat)
 | dV (k off:Nat)
abbrev aZ :=List (Nat×Bool)
structure St where
 f:Nat->Option (LV×aZ)
 m:Nat->Option (List Value)
def St.put (s:St) (d:Option Nat) (l:LV) (ch:aZ):St:=
 match d with
 | none=>s
 | some d=>{f:=λi=>cond (Nat.beq i d) (some (l,ch)) (s.f i),m:=s.m}
def St.gI (s:St) (k:Nat) (cs:List Value):St:=
 {f:=s.f,m:=λi=>cond (Nat.beq i k) (some cs) (s.m i)}
def Jk :Bool->Bool->Bool
 | true,b=>b
 | false,true=>false
 | false,false=>true
def pH :aZ->aZ->Bool
 | [],[]=>true
 | (t,w)::c,(u,x)::d=>cond (Nat.beq t u) (cond (Jk w x) (pH c d) false) false
 | _,_=>false
def nH (c:aZ):aZ->Bool
 | []=>match c with
  | []=>true
  | _=>false
 | p::d=>match c with
  | []=>true
  | _=>cond (pH c (p::d)) true (nH c d)
def ev (s:St) (ch:aZ):Operand->Option LV
 | .tmp t=>match s.f t with
  | some (l,c)=>cond (nH c ch) (some l) none
  | none=>none
 | .const v=>some (.v v)
 | .global g=>some (.v (.pointer (some ⟨g,0,none⟩)))
 | .func f=>some (.v (.func (.func f) #[] #[]))
def eZ (s:St):aZ->Option Bool
 | []=>none
 | [(t,w)]=>match s.f t with
  | some (.v (.bool b),_)=>some (cond w b (!b))
  | _=>some false
 | (t,w)::p::r=>match s.f t with
  | some (.v (.bool b),_)=>match eZ s (p::r) with
   | some x=>some (cond w (x&&b) (x&& !b))
   | none=>some (cond w b (!b))
  | _=>some false
def lI (c:Option Bool) (p:Prop):Prop:=
 match c with
 | none=>p
 | some b=>b=true->p
def ji :List Value->Bool
 | []=>true
 | .agg _::_=>false
 | .tuple _::_=>false
 | _::r=>ji r
def bf (h:Hp) (a:Addr) (cs:List Value):Prop:=∀i v,cs[i]? =some v->dd h (a.add i)=some v
def bp (v:Value):List Value:=match v with
 | .agg cs=>cs.toList
 | v=> [v]
def aR (c:Option Bool) (sh:Shape) (h:Hp) (a:Addr) (K:sh.T->Prop):Prop:=
 ∃x,lI c (bf h a (bp (sh.enc x)))/\K x
def ai (c:Option Bool) (p:Option Addr) (K:Addr->Prop):Prop:=∃a,lI c (p=some a)/\K a
def iC (P:Program) (s:Sem Value) (h:Hp) (v:Value):Prop:=∀w,Sub h w->∃a,s.run P w=.ok v a/\Step h h w a
def iu (c:Option Bool) (P:Program) (s:Sem Value) (sh:Shape) (h:Hp) (K:sh.T->Prop):Prop:=
 ∃x,lI c (iC P s h (sh.enc x))/\K x
def kE (P:Program) (s:Sem Value) (sh:Shape) (K:sh.T->Hp->Prop) (h:Hp):Prop:=
 da P s (λv a=>∃x,v=sh.enc x/\K x a) h
def Fo (P:Program) (s:Sem Unit) (K:Hp->Prop) (h:Hp):Prop:=da P s (λ_ a=>K a) h
def cY {a:Type} (c:Option Bool) (A:(a->Hp->Prop)->Hp->Prop) (K:a->Hp->Prop) (h:Hp):Prop:=
 match c with
 | none=>A K h
 | some b=>(b=true->A K h)/\(b=false->∃x,K x h)
def bh (cs:List Value) (K:Addr->Hp->Prop) (h:Hp):Prop:=
 ∀b t,h b=none->K ⟨b,0,none⟩ (h.set b (.cells cs.toArray t (0,0)))
def Fh (t:Nat) (a:List Value) (K:Addr->Hp->Prop) (h:Hp):Prop:=
 ∀b,h b=none->K ⟨b,0,none⟩ (h.set b (.cells a.toArray t (0,0)))
def zz (t:Nat) (a:List Value) (K:Addr->Hp->Prop) (h:Hp):Prop:=
 match a with
 | [.pointer none,.slice none 0 0]=>Fh t a K h
 | _=>bh a K h
def kI (h:Hp) (a:Addr):List Value->Nat->Hp
 | [],_=>h
 | v::l,i=>kI (h.put (a.add i) v) a l (i+1)
def rm (h:Hp) (a:Addr):Nat->Prop
 | 0=>True
 | n+1=>rm h a n/\(∃v,dd h (a.add n)=some v)/\gM h (a.add n)=false
def cJ (h:Hp) (a:Addr) (b:List Value) (K:Hp->Prop):Prop:=rm h a b.length/\K (kI h a b 0)
def tI (P:Program) (g:FuncId) (args:List Value) (K:Value->Hp->Prop) (h:Hp):Prop:=
 ∀w,Sub h w->Calls P g args.toArray w (λe b=>∃v a,e=.returned v/\K v a/\Step h a w b)
def aa (P:Program) (g:FuncId) (args:List Value) (sh:Shape) (K:sh.T->Hp->Prop) (h:Hp):Prop:=
 tI P g args (λv a=>∃x,v=sh.enc x/\K x a) h
def gK (P:Program) (tb:Tb) (f:Value) (args:List Value) (sh:Shape) (K:sh.T->Hp->Prop) (h:Hp):Prop:=
 ∃g first captured,f=.func (.func g) first captured/\tb.call g=true/\aa P g (first.toList++args++captured.toList) sh K h
def nW {σ:Type} (A:(σ->Hp->Prop)->Prop) (B:σ->Hp->Prop):Prop:=∃R:σ->Hp->Prop,A R/\∀x h,R x h->B x h
def tJ {σ:Type} (d:(σ->Hp->Prop)->σ->Hp->Prop) (x:σ) (h:Hp):Prop:=
 ∃(I:σ->Hp->Prop) (c:σ->Hp->Nat),I x h/\∀x h,I x h->d (λb a=>I b a/\c b a<c x h) x h
def aI {α:Type} (x:α) (K:α->Prop):Prop:=∀y,y=x->K y
def qa (h:Hp) (base:Option Addr) (n:Nat) (b:List Value):Prop:=
 b.length=n/\(n=0\/∃a,base=some a/\bf h a b)
def fC (zero:List Value) (n:Nat):List Value:=(List.replicate n zero).flatten
def gx (h:Hp) (base:Option Addr) (off:Nat) (b:List Value):Hp:=match base with
 | some a=>kI h (a.add off) b 0
 | none=>h
def kN (size bytes:Nat) (zero:List Value) (l:Sl) (n:Nat) (new:List Value) (K:Sl->Hp->Prop) (h:Hp):Prop:=
 ∃d,qa h l.base (l.len*size) d/\(l.len+n<=140737488355328/\(l.len+n)*bytes<=140737488355328)/\
  ji new=true/\(l.len+n<=l.cap->(∀a,l.base=some a->rm h (a.add (l.len*size)) (n*size))/\K ⟨l.base,l.len+n,l.cap⟩ (gx h l.base (l.len*size) new))/\
  (l.cap<l.len+n->∀c b t,l.len+n<=c->h b=none->
   K ⟨some ⟨b,0,none⟩,l.len+n,c⟩ (h.set b (.cells (d++new++fC zero (c-(l.len+n))).toArray t (0,0))))
def fu (size bytes:Nat) (zero:List Value) (l x:Sl) (K:Sl->Hp->Prop) (h:Hp):Prop:=
 ∃new,qa h x.base (x.len*size) new/\kN size bytes zero l x.len new K h
def yC (size bytes:Nat) (zero:List Value) (l:Sl) (m:Int) (K:Sl->Hp->Prop) (h:Hp):Prop:=
 0<=m/\kN size bytes zero l m.toNat (fC zero m.toNat) K h
def qZ (s:ByteArray):List Value:=s.data.toList.map λb=>.int .u8 b.toNat
def yh (u:Nat) (size bytes:Nat) (zero:List Value) (l:Sl) (n:Nat) (new:List Value) (K:Sl->Hp->Prop) (h:Hp):Prop:=
 ∃d,qa h l.base (l.len*size) d/\(l.len+n<=140737488355328/\(l.len+n)*bytes<=140737488355328)/\
  ji new=true/\(l.len+n<=l.cap->(∀a,l.base=some a->rm h (a.add (l.len*size)) (n*size))/\K ⟨l.base,l.len+n,l.cap⟩ (gx h l.base (l.len*size) new))/\
  (l.cap<l.len+n->∀c b,l.len+n<=c->h b=none->
   K ⟨some ⟨b,0,none⟩,l.len+n,c⟩ (h.set b (.cells (d++new++fC zero (c-(l.len+n))).toArray u (0,0))))
theorem kN.u {size bytes:Nat} {zero:List Value} {l:Sl} {n:Nat} {new:List Value} {K:Sl->Hp->Prop} {h:Hp} (u:Nat) (a:kN size bytes zero l n new K h):yh u size bytes zero l n new K h:=by obtain ⟨g,a1,a2,a3,a4,a5⟩:=a;exact ⟨g,a1,a2,a3,a4,λd c b e f=>a5 d c b u e f⟩
def YY (u:Nat) (l:Sl) (s:ByteArray) (K:Sl->Hp->Prop) (h:Hp):Prop:=
 yh u 1 1 [.int .u8 0] l s.size (qZ s) K h
def fY (size:Nat) (d x:Sl) (K:Int->Hp->Prop) (h:Hp):Prop:=
 ∃new,qa h x.base (min x.len d.len*size) new/\ji new=true/\(∀a,d.base=some a->rm h a (min x.len d.len*size))/\K (min x.len d.len:Nat) (gx h d.base 0 new)
def dW (bytes:Nat) (zero:List Value) (len cap:Int) (K:Sl->Hp->Prop) (h:Hp):Prop:=
 (0<=len/\len<=cap/\cap<=281474976710656/\cap.toNat*bytes<=281474976710656)/\
  ∀b t,h b=none->K ⟨some ⟨b,0,none⟩,len.toNat,cap.toNat⟩ (h.set b (.cells (fC zero cap.toNat).toArray t (0,0)))
def Jm (s:ByteArray) (K:Sl->Hp->Prop) (h:Hp):Prop:=
 ∀c b t,s.size<=c->h b=none->
  K ⟨some ⟨b,0,none⟩,s.size,c⟩ (h.set b (.cells (qZ s++fC [.int .u8 0] (c-s.size)).toArray t (c,c+1)))
def Ad (a:Option Addr) (K:Unit->Hp->Prop) (h:Hp):Prop:=
 ∃b off c t,a=some ⟨b,off,none⟩/\h b=some (.cells c t (0,0))/\K () (h.set b (.cells c t (c.size,c.size+1)))
def E5 (K:Option Nat->Hp->Prop) (h:Hp):Prop:=∀b,h b=none->K (some b) (h.set b (.map #[] 0))
def Fg (h:Hp) (m:Option Nat) (a:List MapEntry):Prop:=
 (m=none/\a=[])\/∃r ck,m=some r/\h r=some (.map a.toArray ck)
def zA (b:TypeDesc) (zero:Value) (m:Option Nat) (k:Value) (h:Hp) (v:Value) (ok:Bool):Prop:=
 ∃a,Fg h m a/\((Instr.findNow b k a 0=some none/\v=zero/\ok=false)\/∃i,Instr.findNow b k a 0=some (some (i,v))/\ok=true)
def nm (c:Option Bool) (a:TypeDesc) (sh:Shape) (zero:Value) (m:Option Nat) (k:Value) (h:Hp) (K:sh.T->Bool->Prop):Prop:=
 ∃x ok,lI c (zA a zero m k h (sh.enc x) ok)/\K x ok
def xD (b:TypeDesc) (m:Option Nat) (k v:Value) (K:Hp->Prop) (h:Hp):Prop:=
 ∃r a ck,m=some r/\h r=some (.map a ck)/\
  ((Instr.findNow b k a.toList 0=some none/\K (h.set r (.map (a.push {key:=k,val:=v,born:=ck}) (ck+1))))\/
   ∃i u,Instr.findNow b k a.toList 0=some (some (i,u))/\K (h.set r (.map (a.modify i λe=>{e with key:=k,val:=v}) ck)))
def wP (b:TypeDesc) (m:Option Nat) (k:Value) (K:Hp->Prop) (h:Hp):Prop:=
 (m=none/\K h)\/∃r a ck,m=some r/\h r=some (.map a ck)/\
  ((Instr.findNow b k a.toList 0=some none/\K (h.set r (.map a ck)))\/
   ∃i u,Instr.findNow b k a.toList 0=some (some (i,u))/\K (h.set r (.map (a.eraseIdxIfInBounds i) ck)))
def sv :TypeDesc->Bool
 | .int _ | .string | .bool=>true
 | _=>false
def dM (op:BinOp) (k:IntKind) (x y:Int):Int:=
 match op with
 | .and=>k.wrap ((BitVec.ofInt k.bits x&&&BitVec.ofInt k.bits y).toNat)
 | .or=>k.wrap ((BitVec.ofInt k.bits x ||| BitVec.ofInt k.bits y).toNat)
 | .xor=>k.wrap ((BitVec.ofInt k.bits x^^^BitVec.ofInt k.bits y).toNat)
 | _=>k.wrap ((BitVec.ofInt k.bits x&&& ~~~ BitVec.ofInt k.bits y).toNat)
def qV (k:IntKind) (x y:Int):Int:=k.wrap (x*2^(min y.toNat k.bits))
def gy (k:IntKind) (x y:Int):Int:=x.fdiv (2^(min y.toNat k.bits))
def sat (base:Option Addr) (size:Nat) (i:Int):Addr:=(base.getD ⟨0,0,none⟩).add (i.toNat*size)
def bF (base:Option Addr) (len:Nat) (i:Int):Prop:=base≠none/\0<=i/\i<(len:Int)
def be (base:Option Addr) (size l m:Nat):Option Addr:=if m=l then base else base.map (·.add (l*size))
def FG (c:Option Bool) (op:BinOp) (k:IntKind) (x y:Int) (K:LV->Prop):Prop:=
 match op with
 | .add=>K (.v (.int k (k.wrap (x+y))))
 | .sub=>K (.v (.int k (k.wrap (x-y))))
 | .mul=>K (.v (.int k (k.wrap (x*y))))
 | .quo=>lI c (y≠0)/\K (.v (.int k (k.wrap (x.tdiv y))))
 | .rem=>lI c (y≠0)/\K (.v (.int k (x.tmod y)))
 | .and=>K (.v (.int k (dM .and k x y)))
 | .or=>K (.v (.int k (dM .or k x y)))
 | .xor=>K (.v (.int k (dM .xor k x y)))
 | .andNot=>K (.v (.int k (dM .andNot k x y)))
 | .eql=>K (.v (.bool (x==y)))
 | .neq=>K (.v (.bool (x !=y)))
 | .lss=>K (.v (.bool (decide (x<y))))
 | .leq=>K (.v (.bool (decide (x<=y))))
 | .gtr=>K (.v (.bool (decide (x>y))))
 | .geq=>K (.v (.bool (decide (x>=y))))
 | _=>False
def nF (c:Option Bool) (P:Program) (tb:Tb) (t:Nat) (s:Sem Value) (h:Hp) (K:LV->Prop):Prop:=
 match tb.ty t with
 | some e=>iu c P s e.sh h (λx=>K (.v (e.sh.enc x)))
 | none=>False
def cS (op:BinOp) (t:Nat) (x y:Operand) (a b:Value):Sem Value:=do eqGuard op t x y a b;binOp op t a b
def th :Operand->Bool
 | .const (.pointer none) | .const (.slice none _ _) | .const (.map none) | .const .nilFunc | .const .nilIface=>true
 | _=>false
def xY (op:BinOp) (b:Bool) (K:LV->Prop):Prop:=
 match op with
 | .eql=>K (.v (.bool b))
 | .neq=>K (.v (.bool (!b)))
 | _=>False
def LL :Value->Bool
 | .nilIface=>true
 | _=>false
def D0 :Operand->Bool
 | .const .nilIface=>true
 | _=>false
def vP (tb:Tb) (t:Nat):Bool:=match tb.ty t with
 | some e=>match e.bO with
  | .interface _=>true
  | _=>false
 | none=>false
def qw :Value->Bool
 | .nilIface=>true
 | .iface _ _=>true
 | _=>false
def tQ (c:Option Bool) (P:Program) (tb:Tb) (op:BinOp) (t:Nat) (x y:Operand) (d:Nat) (a b:Value) (h:Hp) (K:LV->Prop):Prop:=
 match a,b with
 | .int k m,.int f n=>
  match op with
  | .shl=>lI c (0<=n)/\K (.v (.int k (qV k m n)))
  | .shr=>lI c (0<=n)/\K (.v (.int k (gy k m n)))
  | op=>cond (FH k f) (FG c op k m n K) False
 | .bool m,.bool n=>match tb.ty t with
  | some e=>match e.bO,op with
   | .bool,.eql=>K (.v (.bool (m==n)))
   | .bool,.neq=>K (.v (.bool (!(m==n))))
   | _,_=>False
  | none=>False
 | .string m,.string n=>match op with
  | .eql=>K (.v (.bool (m.toList==n.toList)))
  | .neq=>K (.v (.bool (!(m.toList==n.toList))))
  | .add=>lI c (m.size+n.size<=9223372036854775807)/\K (.v (.string (m++n)))
  | _=>nF c P tb d (cS op t x y (.string m) (.string n)) h K
 | .pointer p,.pointer q=>cond (th y) (match tb.ty t with
  | some e=>match e.bO with
   | .pointer _=>xY op p.isNone K
   | _=>False
  | none=>False) (nF c P tb d (cS op t x y (.pointer p) (.pointer q)) h K)
 | a,b=>nF c P tb d (cS op t x y a b) h K
def vz (c:Option Bool) (P:Program) (tb:Tb) (op:BinOp) (t:Nat) (x y:Operand) (d:Nat) (a b:Value) (h:Hp) (K:LV->Prop):Prop:=
 cond (D0 y) (cond (vP tb t) (lI c (qw a=true)/\xY op (LL a) K) (tQ c P tb op t x y d a b h K)) (tQ c P tb op t x y d a b h K)
def Ni (l:Option LV) (K:LV->Prop):Prop:=match l with
 | some l=>K l
 | none=>False
def iS (l:Option LV) (K:Value->Prop):Prop:=match l with
 | some (.v x)=>K x
 | _=>False
def eK (s:St) (ch:aZ):List Operand->Option (List Value)
 | []=>some []
 | x::l=>match ev s ch x,eK s ch l with
  | some (.v v),some r=>some (v::r)
  | _,_=>none
def oy (l:Option (List Value)) (K:List Value->Prop):Prop:=match l with
 | some l=>K l
 | none=>False
def za (tb:Tb) (t i:Nat) (K:Nat->Nat->Prop):Prop:=
 match tb.ty t with
 | some e=>match e.bO with
  | .struct a=>match nth a.toList i with
   | some f=>match tb.ty f.type with
    | some g=>match g.size with
     | 0=>False
     | n+1=>K f.offset (n+1)
    | none=>False
   | none=>False
  | _=>False
 | none=>False
def gL (tb:Tb) (t:Nat):Option Ty:=
 match tb.ty t with
 | some e=>match e.bO with
  | .slice u=>tb.ty u
  | _=>none
 | none=>none
def Ey (tb:Tb) (t:Nat):Nat:=
 match tb.ty t with
 | some e=>match e.bO with
  | .slice u=>u
  | _=>0
 | none=>0
def mE (tb:Tb) (t:Nat):Option (Nat×Ty):=
 match tb.ty t with
 | some e=>match e.bO with
  | .array n u=>match tb.ty u with
   | some g=>some (n,g)
   | none=>none
  | _=>none
 | none=>none
def jw (tb:Tb) (t:Nat) (a:List Value) (off:Nat) (K:LV->Prop):Prop:=
 match tb.ty t with
 | some e=>cond (qb e.bO) (cond (Nat.ble (off+e.size) a.length) (K (.v (.agg (qA (qt a off) e.size).toArray))) False)
  (match nth a off with
   | some v=>K (.v v)
   | none=>False)
 | none=>False
def CT :Operand->Bool
 | .const _=>true
 | _=>false
def qB (tb:Tb):List Field->Bool
 | []=>true
 | f::r=>match tb.ty f.type with
  | some _=>qB tb r
  | none=>false
def rD (tb:Tb) (b:List Field) (a:List Value):List (Nat×Value)->Option (List Value)
 | []=>some a
 | (i,v)::r=>match nth b i with
  | some f=>match tb.ty f.type with
   | some e=>cond (Nat.beq (bp v).length e.size) (cond (Nat.ble (f.offset+e.size) a.length) (rD tb b (lx a f.offset (bp v)) r) none) none
   | none=>none
  | none=>none
def oi (size:Nat) (a:List Value):List (Nat×Value)->Option (List Value)
 | []=>some a
 | (i,v)::r=>cond (Nat.beq (bp v).length size) (cond (Nat.ble (i*size+size) a.length) (oi size (lx a (i*size) (bp v)) r) none) none
def mO (s:St) (ch:aZ):List (Nat×Operand)->Option (List (Nat×Value))
 | []=>some []
 | (i,x)::l=>match ev s ch x,mO s ch l with
  | some (.v v),some r=>some ((i,v)::r)
  | _,_=>none
def lF {a:Type _} (l:List a):Nat->List a
 | 0=> []
 | n+1=>l++lF l n
def FZ (c:Option Bool) (a:Bool) (len cap:Nat) (d b e:Option Int) (K:Nat->Nat->Nat->Prop):Prop:=
 match d,b,e with
 | none,none,none=>K 0 len cap
 | some l,none,none=>lI c (0<=l/\l<=(len:Int))/\K l.toNat len cap
 | none,some x,none=>lI c (0<=x/\x<=(cap:Int))/\K 0 x.toNat cap
 | some l,some x,none=>lI c (0<=l/\l<=x/\x<=(cap:Int))/\K l.toNat x.toNat cap
 | none,some x,some m=>lI c (0<=x/\x<=m/\m<=(cap:Int))/\K 0 x.toNat m.toNat
 | some l,some x,some m=>lI c (0<=l/\l<=x/\x<=m/\m<=(cap:Int))/\K l.toNat x.toNat m.toNat
 | _,none,some _=>a= !a
def pO (s:St) (ch:aZ):Option Operand->Option (Option Int)
 | none=>some none
 | some x=>match ev s ch x with
  | some (.v (.int _ n))=>some (some n)
  | _=>none
def Ez (c:Option Bool) (tb:Tb) (t:Nat) (x:Value) (f d g:Option Int) (K:LV->Prop):Prop:=
 match x with
 | .slice base len cap=>match gL tb t with
  | some e=>FZ c true len cap f d g λl n m=>aI (⟨be base e.size l m,n-l,m-l⟩:Sl) λy=>K (.v (.slice y.base y.len y.cap))
  | none=>False
 | .pointer (some a)=>match mE tb t with
  | some (n,e)=>FZ c false n n f d g λl x m=>aI (⟨be (some a) e.size l m,x-l,m-l⟩:Sl) λy=>K (.v (.slice y.base y.len y.cap))
  | none=>False
 | .string b=>match tb.ty t,g with
  | some e,none=>match e.bO with
   | .string=>FZ c false b.size b.size f d none λl n _=>K (.v (.string (b.extract l n)))
   | _=>False
  | _,_=>False
 | _=>False
def FJ (c:Option Bool) (P:Program) (tb:Tb) (ty a:Nat) (x:Value) (h:Hp) (K:LV->Prop):Prop:=
 match tb.ty ty with
 | some e=>match e.bO,x with
  | .string,.string b=>K (.v (.int .i64 (b.size:Int)))
  | .slice _,.slice _ n _=>K (.v (.int .i64 (n:Int)))
  | .array n _,_=>K (.v (.int .i64 (n:Int)))
  | _,_=>nF c P tb a (Builtin.len_ #[ty] a #[x]) h K
 | none=>False
def sP (lt:Int->Int->Int) (k:IntKind) (x:Int):List Value->Option Value
 | []=>some (.int k x)
 | .int _ y::r=>sP lt k (lt x y) r
 | _=>none
def ju (x y:Int):Int:=if y<x then y else x
def qx (x y:Int):Int:=if y>x then y else x
def PA (op:UnOp) (x:Value) (K:LV->Prop):Prop:=
 match op,x with
 | .not,.bool b=>K (.v (.bool !b))
 | .neg,.int k n=>K (.v (.int k (k.wrap (0-n))))
 | .neg,.float k b=>K (.v (.float k (Op.negFloat k b)))
 | .xor,.int k n=>K (.v (.int k (dM .xor k (if k.signed then -1 else k.max) n)))
 | _,_=>False
def zB (s:St) (ch:aZ) (t:Nat) (w:Bool) (x:Operand):Option LV:=
 match x with
 | .tmp u=>match s.f u with
  | some (l,c)=>cond (nH c ((t,w)::ch)) (some l) none
  | none=>none
 | .const v=>some (.v v)
 | _=>none
def vZ (s:St) (ch:aZ) (x a b:Operand) (K:LV->Prop):Prop:=
 match x with
 | .tmp t=>match s.f t with
  | some (.v (.bool p),c)=>cond (nH c ch)
   (match a,b with
    | .tmp _,.const (.bool false)=>iS (zB s ch t true a) λv=>match v with
     | .bool q=>aI (p&&q) λy=>K (.v (.bool y))
     | _=>False
    | .const (.bool true),.tmp _=>iS (zB s ch t false b) λv=>match v with
     | .bool q=>aI (p || q) λy=>K (.v (.bool y))
     | _=>False
    | .const (.bool true),.const (.bool false)=>K (.v (.bool p))
    | .const (.bool x),.const (.bool y)=>K (.v (.bool (cond p x y)))
    | _,_=>False) False
  | _=>False
 | _=>False
def OP (c:Option Bool) (P:Program) (tb:Tb) (b:Builtin) (f:List Value) (d:List TypeId) (a:Nat) (h:Hp) (K:LV->Prop):Prop:=
 match b,f,d with
 | .len,[x],[ty]=>FJ c P tb ty a x h K
 | .cap,[.slice _ _ c],[ty]=>match tb.ty ty with
  | some e=>match e.bO with
   | .slice _=>K (.v (.int .i64 (c:Int)))
   | _=>False
  | none=>False
 | .min,.int k x::r,_=>match sP ju k x r with
  | some v=>K (.v v)
  | none=>False
 | .max,.int k x::r,_=>match sP qx k x r with
  | some v=>K (.v v)
  | none=>False
 | _,_,_=>False
def FN (n:Int):Nat:=match n with
 | .ofNat m=>m
 | .negSucc _=>0
def A6 (c:Option Bool) (tb:Tb) (t:Nat) (cs:List Value) (n:Int) (K:LV->Prop):Prop:=
 match mE tb t with
 | some (len,e)=>cond (qb e.bO) False (lI c (0<=n/\n<(len:Int))/\∃x,lI c (cs[n.toNat*e.size]? =some (e.sh.enc x))/\K (.v (e.sh.enc x)))
 | none=>False
def wz (P:Program) (tb:Tb) (o:Oper) (ch:aZ) (s:St) (h:Hp) (K:LV->Prop):Prop:=
 match o.op with
 | .move x=>Ni (ev s ch x) K
 | .assign x=>Ni (ev s ch x) K
 | .pick x a b=>vZ s ch x a b K
 | .extract x i=>iS (ev s ch x) λv=>match v with
  | .tuple z=>match nth z.toList i with
   | some y=>K (.v y)
   | none=>False
  | _=>False
 | .binOp op t x y _=>iS (ev s ch x) λa=>iS (ev s ch y) λb=>vz (eZ s ch) P tb op t x y o.type a b h K
 | .unOp op _ x=>iS (ev s ch x) λa=>PA op a K
 | .nilCheck x=>match ev s ch x with
  | some (.v (.pointer p))=>ai (eZ s ch) p λa=>K (.v (.pointer (some a)))
  | some (.box k off)=>K (.box k off)
  | some (.dV k off)=>K (.dV k off)
  | _=>False
 | .load t x=>match ev s ch x with
  | some (.v (.pointer (some a)))=>match tb.ty t with
   | some e=>aR (eZ s ch) e.sh h a λx=>K (.v (e.sh.enc x))
   | none=>False
  | some (.box k off)=>match s.m k with
   | some c=>jw tb t c off K
   | none=>False
  | some (.dV k off)=>match s.m k,tb.ty t with
   | some c,some e=>cond (qb e.bO) False (∃x,lI (eZ s ch) (c[off]? =some (e.sh.enc x))/\K (.v (e.sh.enc x)))
   | _,_=>False
  | _=>False
 | .fieldAddr t x i=>za tb t i λoff _=>match ev s ch x with
  | some (.v (.pointer (some a)))=>K (.v (.pointer (some (a.add off))))
  | some (.box k o)=>K (.box k (o+off))
  | some (.dV k o)=>K (.dV k (o+off))
  | _=>False
 | .field t x i=>match tb.ty t with
  | some e=>match e.bO with
   | .struct j=>match nth j.toList i with
    | some f=>iS (ev s ch x) λv=>match v with
     | .agg c=>jw tb f.type c.toList f.offset K
     | _=>False
    | none=>False
   | _=>False
  | none=>False
 | .indexAddr t x i=>match ev s ch x,ev s ch i with
  | some (.v (.slice base len _)),some (.v (.int _ n))=>match gL tb t with
   | some e=>lI (eZ s ch) (bF base len n)/\K (.v (.pointer (some (sat base e.size n))))
   | none=>False
  | some (.v (.pointer (some a))),some (.v (.int _ n))=>match mE tb t with
   | some (len,e)=>lI (eZ s ch) (0<=n/\n<(len:Int))/\K (.v (.pointer (some (a.add (n.toNat*e.size)))))
   | none=>False
  | some (.box k off),some (.v (.int _ n))=>match mE tb t with
   | some (len,e)=>lI (eZ s ch) (0<=n/\n<(len:Int))/\cond (CT i) (K (.box k (off+FN n*e.size))) (K (.dV k (off+n.toNat*e.size)))
   | none=>False
  | _,_=>False
 | .index t x i=>match ev s ch x,ev s ch i with
  | some (.v (.string b)),some (.v (.int _ n))=>match tb.ty t with
   | some y=>match y.bO with
    | .string=>lI (eZ s ch) (0<=n/\n<(b.size:Int))/\K (.v (.int .u8 ((b.data.toList.getD n.toNat 0).toNat:Int)))
    | _=>False
   | none=>False
  | some (.v (.agg c)),some (.v (.int _ n))=>A6 (eZ s ch) tb t c.toList n K
  | _,_=>False
 | .slice t x r q w=>iS (ev s ch x) λv=>match pO s ch r,pO s ch q,pO s ch w with
  | some r,some q,some w=>Ez (eZ s ch) tb t v r q w K
  | _,_,_=>False
 | .makeInterface t x=>iS (ev s ch x) λv=>match tb.ty t with
  | some e=>match e.bO with
   | .interface _=>False
   | _=>K (.v (.iface t v))
  | none=>False
 | .makeFunc fn first captured=>oy (eK s ch first.toList) λa=>oy (eK s ch captured.toList) λb=>K (.v (.func fn a.toArray b.toArray))
 | .convert src d x=>iS (ev s ch x) λv=>match tb.ty src,tb.ty d,v with
  | some _,some e,.int _ n=>match e.bO with
   | .int k=>K (.v (.int k (k.wrap n)))
   | _=>nF (eZ s ch) P tb d (convert src d v) h K
  | some _,some _,v=>nF (eZ s ch) P tb d (convert src d v) h K
  | _,_,_=>False
 | .build t parts=>oy ((mO s ch parts.toList).map λ_=> []) λ_=>match mO s ch parts.toList,tb.ty t with
  | some B,some e=>match e.bO with
   | .struct j=>cond (qB tb j.toList) (match rD tb j.toList (bp e.zero) B with
    | some c=>K (.v (.agg c.toArray))
    | none=>False) False
   | .array _ u=>match tb.ty u with
    | some g=>match oi g.size (bp e.zero) B with
     | some c=>K (.v (.agg c.toArray))
     | none=>False
    | none=>False
   | _=>False
  | _,_=>False
 | .lookup t x i ok=>iS (ev s ch x) λa=>iS (ev s ch i) λb=>match a,tb.ty t with
  | .map m,some e=>match e.bO with
   | .map k u=>match tb.ty k,tb.ty u with
    | some A,some l=>cond (sv A.bO) (nm (eZ s ch) A.bO l.sh l.zero m b h λx y=>cond ok (K (.v (.tuple #[l.sh.enc x,.bool y]))) (K (.v (l.sh.enc x))))
      (nF (eZ s ch) P tb o.type (Instr.lookup t a b ok) h K)
    | _,_=>False
   | _=>False
  | _,_=>False
 | .call {callee:=.builtin b,args:=D,argTypes:=C}=>oy (eK s ch D.toList) λz=>OP (eZ s ch) P tb b z C.toList o.type h K
 | _=>False
inductive Kd where
 | pure
 | box
 | mem
def cN (tb:Tb) (o:Oper) (ch:aZ) (s:St):Kd:=
 match o.op with
 | .load _ x=>match ev s ch x with
  | some (.box _ _)=>.box
  | some (.dV _ _)=>.box
  | _=>.mem
 | .lookup .. =>.mem
 | .binOp op _ x y _=>match ev s ch x,ev s ch y with
  | some (.v (.int _ _)),some (.v (.int _ _))=>.pure
  | some (.v (.bool _)),some (.v (.bool _))=>.pure
  | some (.v (.string _)),some (.v (.string _))=>match op with
   | .eql=>.pure
   | .neq=>.pure
   | .add=>.pure
   | _=>.mem
  | some (.v (.pointer _)),some (.v (.pointer _))=>cond (th y) .pure .mem
  | _,_=>.mem
 | .convert _ d x=>match ev s ch x,tb.ty d with
  | some (.v (.int _ _)),some e=>match e.bO with
   | .int _=>.pure
   | _=>.mem
  | _,_=>.mem
 | .call {callee:=.builtin .len,args:=b,argTypes:=a}=>match eK s ch b.toList,a.toList with
  | some [x],[t]=>match tb.ty t with
   | some e=>match e.bO,x with
    | .string,.string _=>.pure
    | .slice _,.slice _ _ _=>.pure
    | .array _ _,_=>.pure
    | _,_=>.mem
   | none=>.mem
  | _,_=>.mem
 | _=>.pure
def sI (c:Option Bool) (P:Program) (tb:Tb) (t:Nat) (s:Sem Value) (K:LV->Hp->Prop) (h:Hp):Prop:=
 match tb.ty t with
 | some e=>cY c (λ(K:e.sh.T->Hp->Prop) h=>kE P s e.sh K h) (λx a=>K (.v (e.sh.enc x)) a) h
 | none=>False
def Nl (c:Option Bool) (P:Program) (sh:Shape) (s:Sem Value) (K:LV->Hp->Prop) (h:Hp):Prop:=
 cY c (λ(K:sh.T->Hp->Prop) h=>kE P s sh K h) (λx a=>K (.v (sh.enc x)) a) h
def D1 (P:Program) (tb:Tb) (c:Option Bool) (t:Nat) (x y z:Option LV) (K:LV->Hp->Prop) (h:Hp):Prop:=
 iS x λa=>iS y λb=>iS z λv=>match a,tb.ty t with
  | .map m,some e=>match e.bO with
   | .map k _=>match tb.ty k with
    | some d=>cY c (λ(K:Unit->Hp->Prop) h=>cond (sv d.bO) (xD d.bO m b v (K ()) h) (Fo P (Instr.mapUpdate t a b v) (K ()) h)) (λ_ f=>K (.v (.tuple #[])) f) h
    | none=>False
   | _=>False
  | _,_=>False
def AZ (tb:Tb) (c:Option Bool) (k:List TypeId) (o:List Value) (h:Hp) (K:LV->Hp->Prop):Prop:=
 match o,k with
 | [.slice p n a,.slice j i g],[t,d]=>match gL tb t,gL tb d with
  | some e,some _=>cY c (fu e.size e.bytes (bp e.zero) ⟨p,n,a⟩ ⟨j,i,g⟩) (λl b=>K (.v (.slice l.base l.len l.cap)) b) h
  | _,_=>False
 | [.slice p n a,.string x],[t,d]=>match gL tb t,tb.ty d with
  | some e,some f=>match e.bO,f.bO with
   | .int .u8,.string=>cond (Nat.beq e.bytes 1) (cY c (YY (Ey tb t) ⟨p,n,a⟩ x) (λl b=>K (.v (.slice l.base l.len l.cap)) b) h) False
   | _,_=>False
  | _,_=>False
 | [.slice p n a,.int .i64 m],[t,d]=>match gL tb t,tb.ty d with
  | some e,some f=>match f.bO with
   | .int .i64=>cY c (yC e.size e.bytes (bp e.zero) ⟨p,n,a⟩ m) (λl b=>K (.v (.slice l.base l.len l.cap)) b) h
   | _=>False
  | _,_=>False
 | _,_=>False
def vD (P:Program) (tb:Tb) (ty:Nat) (c:Option Bool) (a:Array TypeId) (b:List Value) (h:Hp) (K:LV->Hp->Prop):Prop:=
 match b,a.toList with
 | [.slice p n f,.slice j i d],[t,_]=>match gL tb t with
  | some e=>cY c (fY e.size ⟨p,n,f⟩ ⟨j,i,d⟩) (λk g=>K (.v (.int .i64 k)) g) h
  | none=>False
 | _,_=>sI c P tb ty (Builtin.copy_ a ty b.toArray) K h
def A0 (P:Program) (tb:Tb) (ty:Nat) (c:Option Bool) (b:Array TypeId) (d:List Value) (h:Hp) (K:LV->Hp->Prop):Prop:=
 match d,b.toList with
 | [.map m,k],[t,_]=>match tb.ty t with
  | some e=>match e.bO with
   | .map g _=>match tb.ty g with
    | some a=>cond (sv a.bO) (cY c (λ(K:Unit->Hp->Prop) h=>wP a.bO m k (K ()) h) (λ_ f=>K (.v (.tuple #[])) f) h)
      (sI c P tb ty (Builtin.delete_ b ty d.toArray) K h)
    | none=>False
   | _=>False
  | none=>False
 | _,_=>False
def EA (P:Program) (tb:Tb) (ty:Nat) (c:Option Bool) (g:FuncId) (b:List Value) (h:Hp) (K:LV->Hp->Prop):Prop:=
 match tb.ty ty with
 | some e=>cond (tb.call g) (cY c (aa P g b e.sh) (λx a=>K (.v (e.sh.enc x)) a) h) (match tb.ext g with
  | some f=>cY c (λ(K:e.sh.T->Hp->Prop) h=>kE P (f b.toArray) e.sh K h) (λx a=>K (.v (e.sh.enc x)) a) h
  | none=>False)
 | none=>False
def EB (P:Program) (tb:Tb) (ty:Nat) (c:Option Bool) (a:Option LV) (d:List Value) (h:Hp) (K:LV->Hp->Prop):Prop:=
 match tb.ty ty with
 | some e=>iS a λa=>cY c (gK P tb a d e.sh) (λx b=>K (.v (e.sh.enc x)) b) h
 | none=>False
def xR (P:Program) (tb:Tb) (o:Oper) (ch:aZ) (s:St) (h:Hp) (K:LV->Hp->Prop):Prop:=
 match o.op with
 | .store t x y=>match ev s ch x,ev s ch y with
  | some (.v (.pointer (some a))),some (.v v)=>match ch,tb.ty t with
   | [],some e=>cond (Nat.beq (bp v).length e.size) (cond (ji (bp v)) (cJ h a (bp v) λd=>K (.v (.tuple #[])) d) False) False
   | _,_=>False
  | _,_=>False
 | .alloc t=>match tb.ty t with
  | some e=>cY (eZ s ch) (zz t (bp e.zero)) (λa d=>K (.v (.pointer (some a))) d) h
  | none=>False
 | .box _ x=>iS (ev s ch x) λv=>cY (eZ s ch) (bh (bp v)) (λa d=>K (.v (.pointer (some a))) d) h
 | .buildSlice t len parts=>match mO s ch parts.toList,gL tb t with
  | some u,some e=>cond (Nat.ble (len*e.size) 16777216) (match oi e.size (lF (bp e.zero) len) u with
   | some r=>cY (eZ s ch) (bh r) (λa d=>K (.v (.slice (some a) len len)) d) h
   | none=>False) False
  | _,_=>False
 | .makeMap _ none=>cY (eZ s ch) E5 (λm d=>K (.v (.map m)) d) h
 | .makeSlice t x y=>iS (ev s ch x) λa=>iS (ev s ch y) λb=>match a,b,gL tb t with
  | .int .i64 m,.int .i64 n,some e=>cY (eZ s ch) (dW e.bytes (bp e.zero) m n) (λl d=>K (.v (.slice l.base l.len l.cap)) d) h
  | _,_,_=>False
 | .mapUpdate t x y z=>D1 P tb (eZ s ch) t (ev s ch x) (ev s ch y) (ev s ch z) K h
 | .insert t x y z=>D1 P tb (eZ s ch) t (ev s ch x) (ev s ch y) (ev s ch z) K h
 | .mapEntry t x y=>iS (ev s ch x) λa=>iS (ev s ch y) λb=>sI (eZ s ch) P tb o.type (Instr.mapEntry t a b) K h
 | .binOp op t x y _=>iS (ev s ch x) λa=>iS (ev s ch y) λb=>sI (eZ s ch) P tb o.type (cS op t x y a b) K h
 | .entryStore t x y z=>iS (ev s ch x) λa=>iS (ev s ch y) λb=>iS (ev s ch z) λc=>
  cY (eZ s ch) (λ(K:Unit->Hp->Prop) h=>Fo P (Instr.entryStore t a b c) (K ()) h) (λ_ d=>K (.v (.tuple #[])) d) h
 | .range t x=>iS (ev s ch x) λa=>Nl (eZ s ch) P ag (Instr.range t a) K h
 | .next x b=>iS (ev s ch x) λa=>Nl (eZ s ch) P Vy (Instr.next a b o.type) K h
 | .convert src q x=>iS (ev s ch x) λv=>match v,tb.ty src,gL tb q with
  | .string b,some e,some g=>match e.bO,g.bO with
   | .string,.int .u8=>cY (eZ s ch) (Jm b) (λl d=>K (.v (.slice l.base l.len l.cap)) d) h
   | _,_=>False
  | .slice p n c,some e,some g=>match e.bO,g.bO with
   | .slice _,.int .u8=>cond (Nat.beq src q) (cY (eZ s ch) (Ad p) (λ_ d=>K (.v (.slice p n c)) d) h) False
   | _,_=>False
  | _,_,_=>False
 | .call {callee:=.builtin b,args:=k,argTypes:=j}=>oy (eK s ch k.toList) λi=>match b with
  | .append=>AZ tb (eZ s ch) j.toList i h K
  | .copy=>vD P tb o.type (eZ s ch) j i h K
  | .delete=>A0 P tb o.type (eZ s ch) j i h K
  | .clear=>sI (eZ s ch) P tb o.type (Builtin.clear_ j o.type i.toArray) K h
  | _=>False
 | .call {callee:=.value f,args:=k,argTypes:=_}=>oy (eK s ch k.toList) λi=>match f with
  | .func g=>EA P tb o.type (eZ s ch) g i h K
  | .tmp t=>EB P tb o.type (eZ s ch) (ev s ch (.tmp t)) i h K
  | _=>False
 | _=>False
def TH (tb:Tb) (o:Oper):Bool:=
 match o.op with
 | .convert s d _=>match tb.ty s,tb.ty d with
  | some a,some b=>match a.bO,b.bO with
   | .int _,.int _ | .int _,.float _ | .float _,.int _ | .float _,.float _ | .int _,.string | .slice _,.string | .string,.string=>true
   | _,_=>false
  | _,_=>false
 | _=>false
def O0 (tb:Tb) (op:BinOp) (t:Nat):Bool:=
 match op with
 | .add | .sub | .mul | .quo=>match tb.ty t with
  | some e=>match e.bO with
   | .float _=>true
   | _=>false
  | none=>false
 | _=>false
def isVal (tb:Tb) (o:Oper):Bool:=
 match o.op with
 | .binOp op t _ _ _=>cond (O0 tb op t) false true
 | .move _ | .assign _ | .pick .. | .extract .. | .unOp .. | .nilCheck _ | .load .. | .fieldAddr .. | .field .. | .indexAddr .. | .index ..
 | .slice .. | .makeInterface .. | .makeFunc .. | .build .. | .lookup .. =>true
 | .convert .. =>TH tb o
 | .call {callee:=.builtin b,..}=>match b with
  | .len | .cap | .min | .max=>true
  | _=>false
 | _=>false
def has (l:List Nat) (i:Nat):Bool:=
 match l with
 | []=>false
 | a::r=>cond (Nat.beq i a) true (has r i)
def bW :List Oper->List Nat
 | []=> []
 | o::r=>match o.dst with
  | some d=>d::bW r
  | none=>bW r
def app {b:Type _}:List b->List b->List b
 | [],l=>l
 | a::r,l=>a::app r l
def kS :List Nat->List Nat->Bool
 | [],_=>true
 | a::r,l=>cond (has l a) (kS r l) false
structure Ctx where
 P:Program
 tb:Tb
 aS:List Nat
def ry (l:List Nat) (o:Oper):Option Nat:=
 match o.dst with
 | some d=>cond (has l d) (some d) none
 | none=>none
def qE (a:List Oper):Nat->Oper->Option aZ
 | 0,_=>none
 | n+1,o=>match o.guard with
  | none=>some []
  | some (j,w)=>match nth a j with
   | some p=>match p.dst,qE a n p with
    | some d,some c=>some ((d,w)::c)
    | _,_=>none
   | none=>none
def KK (C:Ctx) (t:Nat) (a b:Value) (ok:Bool) (h:Hp) (v:Value):Prop:=
 match a,C.tb.ty t with
 | .map m,some e=>match e.bO with
  | .map k u=>match C.tb.ty k,C.tb.ty u with
   | some c,some d=>cond (sv c.bO) (cond ok (match v with
     | .tuple ⟨[x,.bool y]⟩=>zA c.bO d.zero m b h x y
     | _=>False) (∃y,zA c.bO d.zero m b h v y)) (iC C.P (Instr.lookup t a b ok) h v)
   | _,_=>False
  | _=>False
 | _,_=>False
def qc (C:Ctx) (c:Nat->Bool) (o:Oper) (ch:aZ) (s:St) (h:Hp):Prop:=
 match o.op,o.dst with
 | .load _ x,some d=>match s.f d with
  | some (.v v,_)=>match ev s ch x with
   | some (.v (.pointer (some a)))=>lI (eZ s ch) (bf h a (bp v))
   | some (.box b _)=>cond (c b) False True
   | some (.dV b _)=>cond (c b) False True
   | _=>False
  | _=>False
 | .lookup t x i ok,some d=>match s.f d with
  | some (.v v,_)=>iS (ev s ch x) λa=>iS (ev s ch i) λb=>lI (eZ s ch) (KK C t a b ok h v)
  | _=>False
 | .call {callee:=.builtin .len,args:=g,argTypes:=e},some d=>match s.f d with
  | some (.v v,_)=>match eK s ch g.toList with
   | some [x]=>lI (eZ s ch) (iC C.P (Builtin.len_ e o.type #[x]) h v)
   | _=>False
  | _=>False
 | _,_=>False
def Ep (C:Ctx) (b:Nat->Bool) (a:List Oper) (s:St) (h:Hp):List Nat->Prop
 | []=>True
 | r::l=>(match nth a r with
   | some o=>match qE a a.length o with
    | some ch=>qc C b o ch s h
    | none=>False
   | none=>False)/\Ep C b a s h l
def ux (s:St):aZ->Bool
 | []=>true
 | (d,_)::c=>match s.f d with
  | some (.v (.bool _),a)=>cond (pH a c) (ux s c) false
  | _=>false
def nodup :List Nat->Bool
 | []=>true
 | a::r=>cond (has r a) false (nodup r)
def tj :List Oper->Bool
 | []=>true
 | o::r=>match o.guard with
  | none=>tj r
  | some _=>false
def zC (d i:Nat):List Oper->Option Nat
 | []=>none
 | o::r=>match o.op with
  | .extract (.tmp t) j=>cond (Nat.beq t d) (cond (Nat.beq j i) (some o.type) (zC d i r)) (zC d i r)
  | _=>zC d i r
def Jn (tb:Tb) (d i:Nat) (a:List Oper):Shape:=match zC d i a with
 | some t=>match tb.ty t with
  | some e=>e.sh
  | none=>AA
 | none=>AA
def A2 (C:Ctx) (b:List Oper) (o:Oper) (ch:aZ) (s:St) (h:Hp) (K:LV->Hp->Prop):Prop:=
 match o.op,o.dst with
 | .entry x,some d=>iS (ev s ch x) λa=>Nl (eZ s ch) C.P (nK (Jn C.tb d 0 b) (Jn C.tb d 1 b)) (Instr.entry a) K h
 | _,_=>False
def Bj (C:Ctx) (b:List Oper) (f:List Nat) (o:Oper) (s:St) (h:Hp) (K:St->Hp->Prop):Prop:=
 match qE b b.length o with
 | none=>False
 | some ch=>cond (ux s ch)
  (cond (isVal C.tb o) (wz C.P C.tb o ch s h λl=>K (s.put o.dst l ch) h)
  (match ry C.aS o,ch with
   | some d,[]=>cond (has f d) (match o.op with
    | .alloc t=>match C.tb.ty t with
     | some e=>K ((s.put (some d) (.box d 0) []).gI d (bp e.zero)) h
     | none=>False
    | .box _ x=>iS (ev s ch x) λv=>K ((s.put (some d) (.box d 0) []).gI d (bp v)) h
    | _=>False) False
   | some _,_=>False
   | none,_=>match o.op with
    | .store t x y=>match ev s ch x,ev s ch y with
     | some (.box k off),some (.v v)=>match s.m k,C.tb.ty t,ch with
      | some c,some e,[]=>cond (has f k) (cond (Nat.beq (bp v).length e.size) (cond (Nat.ble (off+e.size) c.length) (cond (ji (bp v))
        (K ((s.put o.dst (.v (.tuple #[])) ch).gI k (lx c off (bp v))) h) False) False) False) False
      | _,_,_=>False
     | _,_=>xR C.P C.tb o ch s h λl a=>K (s.put o.dst l ch) a
    | .entry _=>A2 C b o ch s h λl a=>K (s.put o.dst l ch) a
    | _=>xR C.P C.tb o ch s h λl a=>K (s.put o.dst l ch) a)) False
def vB (o:Oper) (s:St) (k:Nat):Bool:=match o.op with
 | .store _ x _=>(match ev s [] x with
  | some (.box b _)=>Nat.beq k b
  | some (.v _)=>false
  | _=>true)
 | _=>false
def sb (tb:Tb) (o:Oper):Bool:=match o.op with
 | .move _ | .assign _ | .pick .. | .extract .. | .unOp .. | .nilCheck _ | .fieldAddr .. | .field .. | .indexAddr .. | .index .. | .slice .. | .makeInterface .. | .makeFunc .. | .build .. =>false
 | .binOp _ t _ _ _=>match tb.ty t with
  | some e=>match e.bO with
   | .int _ | .bool | .string | .float _=>false
   | _=>true
  | none=>true
 | .call {callee:=.builtin b,argTypes:=a,..}=>match b with
  | .cap | .min | .max=>false
  | .len=>match a.toList with
   | [t]=>match tb.ty t with
    | some e=>match e.bO with
     | .slice _ | .string | .array _ _=>false
     | _=>true
    | none=>true
   | _=>true
  | _=>true
 | .convert s _ _=>match tb.ty s with
  | some e=>match e.bO with
   | .int _ | .float _ | .string=>false
   | _=>true
  | none=>true
 | _=>true
def EC (C:Ctx) (a:List Oper) (o:Oper) (s:St):Bool:=
 cond (isVal C.tb o) (cond (sb C.tb o) true (match qE a a.length o with
  | some ch=>match cN C.tb o ch s with
   | .pure=>true
   | _=>false
  | none=>false)) true
def pP (C:Ctx) (a:List Oper) (c:List Nat):List (Nat×List Nat)->St->Hp->(St->Hp->Prop)->Prop
 | [],s,h,K=>K s h
 | (i,ws)::r,s,h,K=>match nth a i with
  | some o=>cond (EC C a o s) (Bj C a c o s h λd b=>match ws with
   | []=>pP C a c r d b K
   | ws=>Ep C (vB o s) a d b ws/\pP C a c r d b K) False
  | none=>False
def Bo (C:Ctx) (b:List Oper) (a:List Nat):List Oper->St->Hp->(St->Hp->Prop)->Prop
 | [],s,h,K=>K s h
 | o::r,s,h,K=>Bj C b a o s h λd c=>Bo C b a r d c K
def E6 (e:Edge):Bool:=match e.ground with
 | .textOnly _=>false
 | .gcOnly _=>false
 | _=>true
def waits (o:Oper):List Nat:=go o.after.toList
 where
 go:List Edge->List Nat
  | []=> []
  | e::r=>cond (E6 e) (e.on::go r) (go r)
def vx (j:Nat) (l:List Nat):List Nat:=cond (has l j) l (j::l)
def Bc :List Nat->List Nat->List Nat
 | [],b=>b
 | a::r,b=>Bc r (vx a b)
def bE :List Oper->List (List Nat)->List (List Nat)
 | [],a=>a
 | o::r,a=>bE r (app a [union (waits o) a])
 where
 union:List Nat->List (List Nat)->List Nat
  | [],_=> []
  | j::l,a=>vx j (Bc (match nth a j with
   | some x=>x
   | none=> []) (union l a))
def mn (rows:List (List Nat)) (i:Nat):List Nat:=match nth rows i with
 | some l=>l
 | none=> []
def mT (aS:List Nat) (o:Oper):Bool:=match o.op,o.dst with
 | .alloc _,some d=>has aS d
 | .box _ _,some d=>has aS d
 | _,_=>false
def yc :List (Nat×Operand)->List Operand
 | []=> []
 | (_,x)::r=>x::yc r
def vX :Option Operand->List Operand
 | none=> []
 | some x=> [x]
def ED :Op->Option (List Operand)
 | .alloc _=>some []
 | .move x | .assign x | .box _ x | .load _ x | .nilCheck x | .unOp _ _ x | .convert _ _ x | .fieldAddr _ x _ | .field _ x _ | .range _ x | .next x _ | .entry x | .extract x _ | .makeInterface _ x=>some [x]
 | .pick c a b=>some [c,a,b]
 | .build _ e | .buildSlice _ _ e=>some (yc e.toList)
 | .store _ a v | .binOp _ _ a v _ | .makeSlice _ a v | .indexAddr _ a v | .index _ a v | .lookup _ a v _ | .mapEntry _ a v=>some [a,v]
 | .makeFunc _ first captured=>some (app first.toList captured.toList)
 | .makeMap _ r=>some (vX r)
 | .slice _ x l h m=>some (x::app (vX l) (app (vX h) (vX m)))
 | .mapUpdate _ m k v | .entryStore _ m k v | .insert _ m k v=>some [m,k,v]
 | .call {callee:=.value f,args:=d,..}=>some (f::d.toList)
 | .call {callee:=.builtin _,args:=d,..}=>some d.toList
 | _=>none
def tV (o:Oper) (t:Nat):Bool:=match o.dst with
 | some d=>Nat.beq d t
 | none=>false
def looksAt (o:Oper) (t:Nat):Bool:=match ED o.op with
 | some l=>go l
 | none=>true
 where
 go:List Operand->Bool
  | []=>false
  | .tmp u::r=>cond (Nat.beq u t) true (go r)
  | _::r=>go r
def uU (rows:List (List Nat)) (i t:Nat):List Oper->Nat->Bool
 | [],_=>true
 | p::r,j=>cond (cond (tV p t) (cond (has (mn rows i) j) true (cond (Nat.beq i j) true (has (mn rows j) i))) true) (uU rows i t r (j+1)) false
def dB (a:List Oper) (rows:List (List Nat)) (i:Nat) (o:Oper):Bool:=
 match ED o.op with
 | some l=>cond (go l) (match o.guard with
  | none=>true
  | some (j,_)=>has (mn rows i) j) false
 | none=>false
 where
 go:List Operand->Bool
  | []=>true
  | .tmp t::r=>cond (uU rows i t a 0) (go r) false
  | _::r=>go r
def ig (rows:List (List Nat)) (j:Nat) (o:Oper):List Oper->Nat->Bool
 | [],_=>false
 | p::r,i=>match o.dst with
  | none=>false
  | some d=>cond (cond (looksAt p d) (cond (has (mn rows i) j) false true) false) true (ig rows j o r (i+1))
def eJ (tb:Tb) (aS:List Nat) (a:List Oper) (rows:List (List Nat)):List (Nat×List Nat)->List Nat->Option Nat->Bool
 | [],_,_=>true
 | (i,b)::r,done,last=>match nth a i with
  | some o=>cond (cond (kS (waits o) done) (dB a rows i o) false)
   (cond (has done i) false (cond (match last with
     | none=>true
     | some e=>has (mn rows i) e)
    (match cond (isVal tb o) true (mT aS o),ig rows i o a 0 with
     | true,false=>eJ tb aS a rows r (i::done) last
     | true,true=>eJ tb aS a rows r (i::done) (some i)
     | false,_=>cond (watched tb a rows b i done) (eJ tb aS a rows r (i::done) (some i)) false) false)) false
  | none=>false
 where
 watched (tb:Tb) (a:List Oper) (rows:List (List Nat)) (b:List Nat) (e:Nat):List Nat->Bool
  | []=>true
  | r::l=>cond (match nth a r with
    | some o=>cond (cond (sb tb o) (isVal tb o) false) (cond (has b r) true (has (mn rows e) r)) true
    | none=>false) (watched tb a rows b e l) false
def St.clean (s:St):St:={f:=λi=>match s.f i with | some (l,[])=>some (l,[]) | _=>none,m:=s.m}
def lq (aS:List Nat):List Oper->List Nat
 | []=> []
 | o::r=>cond (mT aS o) (match o.dst with
  | some d=>d::lq aS r
  | none=>lq aS r) (lq aS r)
def qK (l:List Nat) (x:Option (LV×aZ)):Option (LV×aZ):=match x with
 | some (.box k o,c)=>cond (has l k) none (some (.box k o,c))
 | some (.dV k o,c)=>cond (has l k) none (some (.dV k o,c))
 | some (.v v,c)=>some (.v v,c)
 | none=>none
def St.lM (s:St) (l:List Nat):St:=match l with
 | []=>s
 | l=>{f:=λi=>qK l (s.f i),m:=λk=>cond (has l k) none (s.m k)}
def yU :List Oper->Nat->Bool
 | [],_=>true
 | o::r,i=>match o.guard with
  | none=>yU r (i+1)
  | some (j,_)=>cond (Nat.blt j i) (yU r (i+1)) false
def Az (aS:List Nat) (a:List Oper):Bool:=
 cond (nodup (lq aS a)) (cond (tj a) true (cond (nodup (bW a)) (yU a 0) false)) false
structure J where
 O1:Bool
 i:Nat
 t:Nat
inductive jC where
 | tt
 | sq (x y:jC)
 | jn (js:List J) (mm:List Nat) (x y:jC)
 | lp (js:List J) (mm:List Nat) (x:jC)
 | bk (x:jC)
 | bj (js:List J) (mm:List Nat) (x:jC)
 | sp (k:Nat) (x y:jC)
 | gs (l:Nat) (x:jC)
 | gj (l:Nat) (js:List J) (mm:List Nat) (x y:jC)
 | rg (ord:List (Nat×List Nat))
 | r2 (pre:List (Nat×List Nat)) (i j:Nat) (x y:jC)
 | gd (l:Nat) (a x:jC)
def jC.fst :jC->jC
 | .sq x _ | .jn _ _ x _ | .gj _ _ _ x _ | .sp _ x _ | .lp _ _ x | .bk x | .bj _ _ x=>x
 | _=>.tt
def jC.snd :jC->jC
 | .sq _ y | .jn _ _ _ y | .gj _ _ _ _ y | .sp _ _ y=>y
 | _=>.tt
inductive Ex where
 | gE
 | ret
 | ext (i:Nat)
 | kL (i:Nat)
abbrev Env :=Ex->St->Hp->Prop
def Env.gE (E:Env) (K:St->Hp->Prop):Env
 | .gE=>K
 | .ret=>E .ret
 | .ext i=>E (.ext i)
 | .kL i=>E (.kL i)
def Env.iN (E:Env) (id:Nat) (K:St->Hp->Prop):Env
 | .gE=>K
 | .ret=>E .ret
 | .ext i=>cond (Nat.beq i id) K (E (.ext i))
 | .kL i=>E (.kL i)
def Env.mM (E:Env):Env
 | .gE=>E .gE
 | .ret=>E .ret
 | .ext i=>E (.ext i)
 | .kL _=>λ_ _=>False
def pC (tb:Tb):List J->Type
 | []=>Unit
 | [j]=>(dN tb j.t).T
 | j::a::js=>(dN tb j.t).T×pC tb (a::js)
def zE (tb:Tb) (t:Nat):Bool:=match tb.ty t with
 | some e=>qb e.bO
 | none=>false
def zb (tb:Tb) (t:Nat) (a:List Value):Option Value:=
 cond (zE tb t) (some (.agg a.toArray)) (match a with
  | [v]=>some v
  | _=>none)
def OG (sh:Shape) (v:Value) (K:sh.T->Prop):Prop:=∃x,sh.enc x=v/\K x
def Ao (tb:Tb) (t:Nat):Bool:=match tb.ty t with
 | some e=>match e.bO with
  | .interface _=>true
  | _=>false
 | none=>false
def uI (tb:Tb) (t:Nat) (v:Value) (K:(dN tb t).T->Prop):Prop:=
 cond (Ao tb t) (OG (dN tb t) v K) (match (dN tb t).dec v with
  | some x=>K x
  | none=>False)
def zF (tb:Tb) (s:St) (j:J) (K:(dN tb j.t).T->Prop):Prop:=
 cond j.O1
  (match s.m j.i with
   | some a=>match zb tb j.t a with
    | some v=>uI tb j.t v K
    | none=>False
   | none=>False)
  (match s.f j.i with
   | some (.v v,[])=>uI tb j.t v K
   | _=>False)
def oj (tb:Tb):(js:List J)->St->(pC tb js->Prop)->Prop
 | [],_,K=>K ()
 | [j],s,K=>zF tb s j K
 | j::a::js,s,K=>zF tb s j λx=>oj tb (a::js) s λy=>K (x,y)
def w8 (tb:Tb) (j:J) (x:(dN tb j.t).T) (s:St):St:=
 cond j.O1 (s.gI j.i (bp ((dN tb j.t).enc x))) (s.put (some j.i) (.v ((dN tb j.t).enc x)) [])
def pa (tb:Tb):(js:List J)->pC tb js->St->St
 | [],_,s=>s
 | [j],x,s=>w8 tb j x s
 | j::a::js,p,s=>pa tb (a::js) p.2 (w8 tb j p.1 s)
def eC :Code->List Nat
 | .region _ c _=>bW c.toList
 | .seq a b=>app (eC a) (eC b)
 | .cond _ a b=>app (eC a) (eC b)
 | .block _ a=>eC a
 | .loop a=>eC a
 | .scope a=>eC a
 | _=> []
def St.forget (s:St) (l a:List Nat):St:=
 {f:=λi=>cond (has l i) none (qK l (s.f i)),m:=λi=>cond (has a i) none (s.m i)}
inductive Md where
 | full
 | fr (l:Nat)
 | pr (l:Nat)
 | rs (l:Nat)
 | rz (l:Nat)
def lN :Code->Nat->Bool
 | .seq a b,l=>cond (lN a l) (lN b l) false
 | .label c,l=>cond (Nat.beq c l) false true
 | _,_=>true
def re :Code->Nat->Option Code
 | .seq a b,l=>match a with
  | .label c=>cond (Nat.beq c l) (some b) none
  | _=>cond (lN a l) (re b l) none
 | _,_=>none
def nS :Code->Nat->Option Code
 | .seq a b,l=>match a with
  | .label c=>cond (Nat.beq c l) (some b) (nS b l)
  | _=>cond (lN a l) (nS b l) none
 | _,_=>none
def Env.put (E:Env) (l:Nat) (K:St->Hp->Prop):Env
 | .gE=>E .gE
 | .ret=>E .ret
 | .ext i=>E (.ext i)
 | .kL i=>cond (Nat.beq i l) K (E (.kL i))
def vM (R:Nat->jC->Env->St->Hp->Prop):jC->Env->Env
 | .gd l a x,E=>vM R x (E.put l (R l a E))
 | _,E=>E
def Aj :jC->jC
 | .gd _ _ x=>Aj x
 | a=>a
def Env.Nh (E:Env) (l:Nat) (K:St->Hp->Prop):Env
 | .gE=>K
 | .ret=>E .ret
 | .ext i=>E (.ext i)
 | .kL i=>cond (Nat.beq i l) K λ_ _=>False
def Bl (k:Nat) (s:St) (h:Hp) (K:St->Hp->Prop):Prop:=
 match s.f k,s.m k with
 | some (.box d off,[]),some b=>cond (Nat.beq k d) (cond (Nat.beq off 0) (bh b (λa c=>
   K {f:=λi=>cond (Nat.beq i k) (some (.v (.pointer (some a)),[])) (s.f i),m:=λi=>cond (Nat.beq i k) none (s.m i)} c) h) False) False
 | _,_=>False
def eS :List Oper->Nat->Nat->List Oper
 | [],_,_=> []
 | o::r,0,i=>{o with after:=⟨app o.after.toList [⟨i,.data⟩]⟩}::r
 | o::r,j+1,i=>o::eS r j i
def vf (tb:Tb) (aS:List Nat) (a:List Oper) (rows:List (List Nat)):List (Nat×List Nat)->List Nat->Option Nat->List Nat×Option Nat
 | [],done,last=>(done,last)
 | (i,_)::r,done,last=>match nth a i with
  | some o=>match cond (isVal tb o) true (mT aS o),ig rows i o a 0 with
   | true,false=>vf tb aS a rows r (i::done) last
   | _,_=>vf tb aS a rows r (i::done) (some i)
  | none=>(done,last)
def uV (rows:List (List Nat)) (i:Nat) (done:List Nat):Nat->Bool
 | 0=>true
 | k+1=>cond (cond (has done k) true (cond (Nat.beq k i) true (has (mn rows k) i))) (uV rows i done k) false
def uW (b:List Oper) (c:List (List Nat)) (a:List Oper) (rows:List (List Nat)):List Nat->Bool
 | []=>true
 | k::r=>cond (match nth a k with
  | some o=>cond (ig c k o b 0) true (cond (dB a rows k o) (cond (ig rows k o a 0) false true) false)
  | none=>false) (uW b c a rows r) false
def Jp (a:List Oper) (i j:Nat) (done:List Nat) (last:Option Nat):Bool:=
 cond (Nat.beq i j) false (match nth a i,nth a j with
  | some o,some p=>cond (has done i) false (cond (has done j) false (cond (kS (waits o) done) (cond (kS (waits p) done) (cond (match last with
    | none=>true
    | some e=>cond (has done e) (uV (bE a []) e done a.length) false)
   (cond (uV (bE (eS a j i) []) i done a.length) (cond (uV (bE (eS a i j) []) j done a.length)
    (cond (uW a (bE a []) (eS a j i) (bE (eS a j i) []) done) (uW a (bE a []) (eS a i j) (bE (eS a i j) []) done) false) false) false) false) false) false))
  | _,_=>false)
def oJ (tb:Tb) (aS:List Nat):jC->List Oper->List Nat->Option Nat->Bool
 | .rg ord,ops,done,last=>cond (Nat.beq (done.length+ord.length) ops.length) (eJ tb aS ops (bE ops []) ord done last) false
 | .r2 pre i j x y,ops,done,last=>cond (eJ tb aS ops (bE ops []) pre done last) (match vf tb aS ops (bE ops []) pre done last with
   | (d,l)=>cond (Jp ops i j d l) (cond (oJ tb aS x (eS ops j i) d l) (oJ tb aS y (eS ops i j) d l) false) false) false
 | _,_,_,_=>false
def wb (C:Ctx) (b:List Nat) (K:St->Hp->Prop):jC->List Oper->St->Hp->Prop
 | .rg e,a,s,h=>pP C a b e s h K
 | .r2 pre i j x y,a,s,h=>pP C a b pre s h λd c=>wb C b K x (eS a j i) d c/\wb C b K y (eS a i j) d c
 | _,_,_,_=>False
def liftM (C:Ctx):Code->Md->jC->List Nat->St->Env->Hp->Prop
 | .skip,.full,_,_,s,E,h=>E .gE s h
 | .ret,.full,_,_,s,E,h=>E .ret s h
 | .exit id,.full,_,_,s,E,h=>E (.ext id) s h
 | .goto l,.full,_,_,s,E,h=>E (.kL l) s h
 | .label _,.full,_,_,s,E,h=>E .gE s h
 | .region _ g n,.full,A,mok,s,E,h=>
  match n with
  | false=>cond (Az C.aS g.toList) (Bo C g.toList mok g.toList (s.lM (lq C.aS g.toList)) h λe d=>E .gE e.clean d) False
  | true=>cond (cond (nodup (bW g.toList)) (oJ C.tb C.aS A g.toList [] none) false) (wb C mok (λe d=>E .gE e.clean d) A g.toList (s.lM (lq C.aS g.toList)) h) False
 | .seq a b,.full,A,mok,s,E,h=>
  match A with
  | .jn f mm _ _=>cond (kS mm mok) (nW (λ(R:pC C.tb f->Hp->Prop)=>liftM C a .full A.fst mm s (E.gE λe d=>oj C.tb f e λx=>R x d) h)
    (λx d=>liftM C b .full A.snd mok (pa C.tb f x (s.forget (eC a) mm)) E d)) False
  | .sp k _ _=>cond (has mok k) (liftM C a .full A.fst mok s (E.gE λe d=>Bl k e d λs2 o=>liftM C b .full A.snd mok s2 E o) h) False
  | _=>liftM C a .full A.fst mok s (E.gE λe d=>liftM C b .full A.snd mok e E d) h
 | .seq a b,.fr l,A,mok,s,E,h=>
  match a with
  | .label _=>E .gE s h
  | _=>liftM C a .full A.fst mok s (E.gE λe d=>liftM C b (.fr l) A.snd mok e E d) h
 | .seq a b,.pr l,A,mok,s,E,h=>
  match a with
  | .label _=>False
  | _=>match A with
   | .gj _ f mm x _=>cond (kS mm mok) (liftM C a .full .tt mok s (E.mM.gE λe d=>
     nW (λ(R:pC C.tb f->Hp->Prop)=>liftM C b (.fr l) x mm e (E.Nh l λe d=>oj C.tb f e λx=>R x d) d)
      (λx d=>liftM C b (.rs l) A.snd mok (pa C.tb f x (e.forget (eC b) mm)) E.mM d)) h) False
   | _=>liftM C a .full A.fst mok s (E.mM.gE λe d=>liftM C b (.pr l) A.snd mok e E d) h
 | .seq a b,.rs l,A,mok,s,E,h=>
  match a with
  | .label _=>liftM C b .full A mok s E h
  | _=>liftM C b (.rs l) A mok s E h
 | .seq a b,.rz l,A,mok,s,E,h=>
  match a with
  | .label p=>cond (Nat.beq p l) (liftM C b .full A mok s E h) (liftM C b (.rz l) A mok s E h)
  | _=>liftM C b (.rz l) A mok s E h
 | .cond c a b,.full,A,mok,s,E,h=>iS (ev s [] c) λv=>match v with
  | .bool t=>if t=true then liftM C a .full A.fst mok s E h else liftM C b .full A.snd mok s E h
  | _=>False
 | .scope a,.full,A,mok,s,E,h=>
  match A with
  | .gs l x=>match re a l with
   | some _=>liftM C a (.pr l) x mok s E h
   | none=>False
  | .gd j a0 i=>liftM C a .full (Aj (.gd j a0 i)) mok s (vM (λl m E s h=>match nS a l with
   | some _=>liftM C a (.rz l) m mok s E h
   | none=>False) (.gd j a0 i) E.mM) h
  | _=>liftM C a .full A mok s E.mM h
 | .block id a,.full,A,mok,s,E,h=>
  match A with
  | .bj f mm _=>cond (kS mm mok) (nW (λ(R:pC C.tb f->Hp->Prop)=>liftM C a .full A.fst mm s (E.iN id λe d=>oj C.tb f e λx=>R x d) h)
    (λx d=>E .gE (pa C.tb f x (s.forget (eC a) mm)) d)) False
  | _=>liftM C a .full A.fst mok s (E.iN id (E .gE)) h
 | .loop a,.full,A,mok,s,E,h=>
  match A with
  | .lp f mm _=>cond (kS mm mok) (oj C.tb f s λi=>tJ (λ(R:pC C.tb f->Hp->Prop) x h=>liftM C a .full A.fst mm (pa C.tb f x (s.forget (eC a) mm))
    (E.gE λe d=>oj C.tb f e λx=>R x d) h) i h) False
  | _=>False
 | _,_,_,_,_,_,_=>False
def nL (C:Ctx) (s:St) (r:ResultVar) (t:Nat) (K:(dN C.tb t).T->Prop):Prop:=
 match r with
 | .tmp i=>match s.f i with
  | some (.v v,[])=>uI C.tb t v K
  | _=>False
 | .cell i b=>cond (Nat.beq b t) (match s.f i,C.tb.ty t with
  | some (.box k 0,[]),some _=>match s.m k with
   | some a=>match zb C.tb t a with
    | some v=>uI C.tb t v K
    | none=>False
   | none=>False
  | _,_=>False) False
def bD (tb:Tb):List Nat->Shape
 | []=>uA
 | [a]=>dN tb a
 | [a,b]=>nK (dN tb a) (dN tb b)
 | [a,b,c]=>pU (dN tb a) (dN tb b) (dN tb c)
 | [a,b,c,d]=>zx (dN tb a) (dN tb b) (dN tb c) (dN tb d)
 | [a,b,c,d,e]=>zy (dN tb a) (dN tb b) (dN tb c) (dN tb d) (dN tb e)
 | [a,b,c,d,e,f,g]=>VA (dN tb a) (dN tb b) (dN tb c) (dN tb d) (dN tb e) (dN tb f) (dN tb g)
 | _=>uA
def uN (C:Ctx) (s:St) (h:Hp):(rs:List ResultVar)->(u:List Nat)->((bD C.tb u).T->Hp->Prop)->Prop
 | [],[],K=>K () h
 | [r],[t],K=>nL C s r t λx=>K x h
 | [a,r2],[t1,t2],K=>nL C s a t1 λb=>nL C s r2 t2 λc=>K (b,c) h
 | [a,r2,d],[t1,t2,e],K=>nL C s a t1 λb=>nL C s r2 t2 λc=>nL C s d e λf=>K (b,c,f) h
 | [a,r2,d,g],[t1,t2,e,i],K=>nL C s a t1 λb=>nL C s r2 t2 λc=>nL C s d e λf=>nL C s g i λj=>K (b,c,f,j) h
 | [a,r2,d,g,k],[t1,t2,e,i,l],K=>nL C s a t1 λb=>nL C s r2 t2 λc=>nL C s d e λf=>nL C s g i λj=>
   nL C s k l λm=>K (b,c,f,j,m) h
 | [a,r2,d,g,k,n,o],[t1,t2,e,i,l,p,q],K=>nL C s a t1 λb=>nL C s r2 t2 λc=>nL C s d e λf=>nL C s g i λj=>
   nL C s k l λm=>nL C s n p λv=>nL C s o q λw=>K (b,c,f,j,m,v,w) h
 | _,_,_=>False
def tP (args:List Value) (i:Nat):Option (LV×aZ):=match nth args i with
 | some v=>some (.v v,[])
 | none=>none
def w9 (f:Func):Code:=match f.body with
 | some c=>c
 | none=>.refuse ""
def tO (n:Nat):List Nat->Bool
 | []=>true
 | i::r=>cond (Nat.blt i n) (tO n r) false
def A4 (C:Ctx) (f:Func) (A:jC) (args:List Value) (K:(bD C.tb f.resultTypes.toList).T->Hp->Prop) (h:Hp):Prop:=
 cond (cond (Nat.ble args.length f.ntmps) (tO f.ntmps (eC (w9 f))) false)
  (liftM C (w9 f) .full A C.aS {f:=tP args,m:=λ_=>none} (λe s h=>match e with
   | .gE | .ret=>uN C s h f.results.toList f.resultTypes.toList K
   | _=>False) h) False
structure Tb.Ok (P:Program) (tb:Tb):Prop where
 bO:∀t e,tb.ty t=some e->P.underlying t=some e.bO
 info:∀t e,tb.ty t=some e->∃i,P.info? t=some i/\i.size=e.size/\i.bytes=e.bytes/\i.zero=some e.zero
 agg:∀t e,tb.ty t=some e->qb e.bO=true->∀x,∃cs,e.sh.enc x=.agg cs/\cs.size=e.size
 leaf:∀t e,tb.ty t=some e->qb e.bO=false->e.size=1/\∀x,(bp (e.sh.enc x)).length=1/\∀cs,e.sh.enc x≠ .agg cs
 yY:∀t e,tb.ty t=some e->(bp e.zero).length=e.size
 AF:∀t e,tb.ty t=some e->e.bO=.int .u8->bp e.zero=[.int .u8 0]
 PG:∀t e,tb.ty t=some e->qb e.bO=true->∃cs,e.zero=.agg cs
 call:∀g,tb.call g=true->∀args w,(callFunc g args).run P w=.ok (.enter g args) w
 ext:∀g f,tb.ext g=some f->∀args w,(callFunc g args).run P w=((f args).run P w).andThen λv w'=>.ok (.value v) w'
 mixed:P.follows .mixedOrders=true
theorem zc :∀ {c d:aZ},pH c d=true->c=d
 | [],[],_=>rfl
 | [],_::_,h=>by simp [pH] at h
 | (t,w)::c,[],h=>by simp [pH] at h
 | (t,w)::c,(u,x)::d,h=>by
  simp only [pH] at h;cases a:Nat.beq t u with
  | false=>simp [a] at h
  | true=>
   cases b:Jk w x with
   | false=>simp [a,b] at h
   | true=>
    simp only [a,b,cond_true] at h;have e:t=u:=Nat.eq_of_beq_eq_true a;have f:w=x:=by cases w<;>cases x<;>first | rfl | cases b
    rw [e,f,zc h]
theorem LW :∀ {c ch:aZ},nH c ch=true->∀p∈c,p∈ch
 | c,[],h=>by
  cases c with
  | nil=>intro p hp;cases hp
  | cons a r=>simp [nH] at h
 | c,q::d,h=>by
  cases c with
  | nil=>intro p hp;cases hp
  | cons a r=>
   simp only [nH] at h;cases b:pH (a::r) (q::d) with
   | true=>intro p hp;rw [<-zc b];exact hp
   | false=>simp only [b,cond_false] at h;intro p hp;exact List.mem_cons_of_mem _ (LW h p hp)
def hb (s:St) (t:Nat):Option Bool:=match s.f t with
 | some (.v (.bool b),_)=>some b
 | _=>none
def holds (s:St) (ch:aZ):Prop:=∀p∈ch,hb s p.1=some p.2
theorem bI (s:St):holds s []:=λ_ h=>by cases h
theorem Ov {s:St} {c ch:aZ} (a:nH c ch=true) (h:holds s ch):holds s c:=λp hp=>h p (LW a p hp)
theorem LX {s:St} (t:Nat) (w:Bool) (r:aZ):∃b,eZ s ((t,w)::r)=some b/\(holds s ((t,w)::r)->b=true):=by
 induction r generalizing t w with
 | nil=>
  simp only [eZ];split
  ·rename_i b c a;refine ⟨_,rfl,λh=> ?_⟩;have:=h (t,w) (List.mem_cons_self ..);simp only [hb,a] at this;grind
  ·refine ⟨false,rfl,λh=> ?_⟩;have:=h (t,w) (List.mem_cons_self ..);unfold hb at this;split at this
   ·rename_i e _ b c a;exact absurd a (e b c)
   ·cases this
 | cons p r k=>
  obtain ⟨l,m⟩:=p;obtain ⟨f,g,i⟩:=k l m;simp only [eZ];split
  ·rename_i b c a;rw [g];refine ⟨_,rfl,λh=> ?_⟩;have d:=h (t,w) (List.mem_cons_self ..);simp only [hb,a] at d;injection d with d
   have n:f=true:=i λq j=>h q (List.mem_cons_of_mem _ j);grind
  ·refine ⟨false,rfl,λh=> ?_⟩;have:=h (t,w) (List.mem_cons_self ..);unfold hb at this;split at this
   ·rename_i e _ b c a;exact absurd a (e b c)
   ·cases this
theorem py {s:St} {ch:aZ} {p:Prop} (h:lI (eZ s ch) p) (a:holds s ch):p:=by
 cases ch with
 | nil=>exact h
 | cons q r=>obtain ⟨t,w⟩:=q;obtain ⟨b,hb,c⟩:=LX (s:=s) t w r;rw [hb] at h;exact h (c a)
def LVal (a:Nat->Nat):LV->Value
 | .v x=>x
 | .box k o=>.pointer (some ⟨a k,o,none⟩)
 | .dV k o=>.pointer (some ⟨a k,o,none⟩)
def fa (β:Nat->Nat) (s:St) (ρ:Operand->Value):Operand->Prop
 | .tmp t=>∀l c,s.f t=some (l,c)->holds s c->ρ (.tmp t)=LVal β l
 | .const v=>ρ (.const v)=v
 | .global g=>ρ (.global g)=.pointer (some ⟨g,0,none⟩)
 | .func f=>ρ (.func f)=.func (.func f) #[] #[]
theorem bH {e:Nat->Nat} {s:St} {h:Operand->Value} {x:Operand} {ch:aZ} {l:LV} (b:fa e s h x) (j:holds s ch) (a:ev s ch x=some l):h x=LVal e l:=by
 cases x with
 | tmp t=>
  simp only [ev] at a;split at a
  ·rename_i k c i;cases d:nH c ch with
   | false=>simp [d] at a
   | true=>simp only [d,cond_true] at a;cases a;exact b l c i (Ov d j)
  ·cases a
 | const v=>cases a;exact b
 | global g=>cases a;exact b
 | func f=>cases a;exact b
theorem Rb {l:Option LV} {K:LV->Prop} (h:Ni l K):∃x,l=some x/\K x:=by
 cases l with
 | none=>exact h.elim
 | some x=>exact ⟨x,rfl,h⟩
theorem kJ {l:Option LV} {K:Value->Prop} (h:iS l K):∃x,l=some (.v x)/\K x:=by
 cases l with
 | none=>exact h.elim
 | some x=>cases x<;>first | exact ⟨_,rfl,h⟩ | exact h.elim
theorem E0 {l:Option (List Value)} {K:List Value->Prop} (h:oy l K):∃x,l=some x/\K x:=by
 cases l with
 | none=>exact h.elim
 | some x=>exact ⟨x,rfl,h⟩
def qG (d:Nat->Nat) (s:St) (o:Oper) (w:World):Prop:=
 ∀t,Operand.tmp t∈o.op.operands->∀k off c,(s.f t=some (.box k off,c)\/s.f t=some (.dV k off,c))->holds s c->∀a,s.m k=some a->∃b,w.heap[d k]? =some (.cells a.toArray b (0,0))
theorem tu {s:St} {ch:aZ} {x:Operand} {l:LV} (a:ev s ch x=some l) (h:∀v,l≠ .v v) (e:holds s ch):∃t c,x=.tmp t/\s.f t=some (l,c)/\holds s c:=by
 cases x with
 | tmp t=>
  simp only [ev] at a;split at a
  ·rename_i i c d;cases b:nH c ch with
   | false=>simp [b] at a
   | true=>simp only [b,cond_true] at a;cases a;exact ⟨t,c,rfl,d,Ov b e⟩
  ·cases a
 | const v=>cases a;grind
 | global g=>cases a;grind
 | func f=>cases a;grind
theorem qG.box {β:Nat->Nat} {s:St} {o:Oper} {w:World} (hb:qG β s o w) {ch:aZ} {x:Operand} {k off:Nat} (i:x∈o.op.operands) (e:ev s ch x=some (.box k off)) (g:holds s ch)
  {a:List Value} (h:s.m k=some a):∃b,w.heap[β k]? =some (.cells a.toArray b (0,0)):=by
 obtain ⟨t,c,rfl,f,d⟩:=tu e (by simp) g;exact hb t i k off c (.inl f) d a h
theorem qG.dV {b:Nat->Nat} {s:St} {o:Oper} {w:World} (hb:qG b s o w) {ch:aZ} {x:Operand} {k off:Nat} (j:x∈o.op.operands) (f:ev s ch x=some (.dV k off)) (h:holds s ch)
  {a:List Value} (i:s.m k=some a):∃d,w.heap[b k]? =some (.cells a.toArray d (0,0)):=by
 obtain ⟨t,c,rfl,g,e⟩:=tu f (by simp) h;exact hb t j k off c (.inr g) e a i
def qn (a:Kd) (P:Program) (o:Oper) (s:St) (h:Hp) (l:LV):Prop:=
 ∀(c:Nat->Nat) (d:Operand->Value) (w:World),(∀x∈o.op.operands,fa c s d x)->(a=.mem->Sub h w)->(a≠ .pure->qG c s o w)->
  ∃b,(execOp d o).run P w=.ok (.value (LVal c l)) b/\(a≠ .mem->b=w)/\(a=.mem->Step h h w b)
theorem nJ {b:Type _}:∀(l:List b) (i:Nat),nth l i=l[i]?
 | [],_=>by simp [nth]
 | a::l,0=>by simp [nth]
 | a::l,n+1=>by simp [nth,nJ l n]
theorem LY {b:Type _}:∀(l:List b) (i:Nat),qt l i=l.drop i
 | l,0=>by simp [qt]
 | [],n+1=>by simp [qt]
 | a::l,n+1=>by simp [qt,LY l n]
theorem LZ {b:Type _}:∀(l:List b) (i:Nat),qA l i=l.take i
 | l,0=>by simp [qA]
 | [],n+1=>by simp [qA]
 | a::l,n+1=>by simp [qA,LZ l n]
theorem sc {b:Type _}:∀(l r:List b),app l r=l++r
 | [],r=>rfl
 | a::l,r=>by simp [app,sc l r]
theorem sm :∀(l:List Nat) (i:Nat),has l i=true↔i∈l
 | [],i=>by simp [has]
 | a::l,i=>by
  simp only [has];cases h:Nat.beq i a with
  | true=>simp [Nat.eq_of_beq_eq_true h]
  | false=>
   have:i≠a:=λe=>by rw [e] at h;simp at h
   simp [sm l i,this]
theorem zh {l:List Nat} {i:Nat} (h:has l i=false):i∉l:=λa=>by rw [(sm l i).2 a] at h;cases h
section
variable {P:Program} {tb:Tb}
theorem aw (ok:tb.Ok P) {t:Nat} {e:Ty} (h:tb.ty t=some e) (w:World):(underlying t).run P w=.ok e.bO w:=by simp [underlying,ok.bO t e h]
theorem lQ (ok:tb.Ok P) {t:Nat} {e:Ty} (h:tb.ty t=some e) (w:World):
  ∃i,(typeInfo t).run P w=.ok i w/\i.size=e.size/\i.bytes=e.bytes/\i.zero=some e.zero:=by
 obtain ⟨i,d,a,b,c⟩:=ok.info t e h;exact ⟨i,by simp [typeInfo,d],a,b,c⟩
theorem bX (ok:tb.Ok P) {t:Nat} {e:Ty} (h:tb.ty t=some e) (w:World):(Go.sizeOf t).run P w=.ok e.size w:=by obtain ⟨i,b,a,c,d⟩:=lQ ok h w;simp only [Go.sizeOf,Sem.run_bind,b,Result.andThen_ok,Sem.run_pure,a]
theorem cI (ok:tb.Ok P) {t:Nat} {e:Ty} (h:tb.ty t=some e) (w:World):(zeroValue t).run P w=.ok e.zero w:=by obtain ⟨i,b,c,d,a⟩:=lQ ok h w;simp only [zeroValue,Sem.run_bind,b,Result.andThen_ok,a,Sem.run_pure]
theorem mf (ok:tb.Ok P) {t:Nat} {e:Ty} (h:tb.ty t=some e) (w:World):(isAgg t).run P w=.ok (qb e.bO) w:=by simp only [isAgg,Sem.run_bind,aw ok h,Result.andThen_ok];cases e.bO<;>rfl
theorem pj (v:Value):v.cells.toList=bp v:=by cases v<;>rfl
theorem zuc {w:World} {a:Addr}:∀(n i:Nat) (d:Array Value) (b:List Value),b.length=n->
  (∀j v,b[j]? =some v->w.cell? (a.add (i+j))=some v)->(loadCellsFrom a i n d).run P w=.ok (d++b.toArray) w
 | 0,i,d,b,e,_=>by have:b=[]:=List.length_eq_zero_iff.1 e;subst this;simp [loadCellsFrom]
 | n+1,i,d,[],e,_=>by simp at e
 | n+1,i,d,c::b,e,f=>by
  have g:w.cell? (a.add i)=some c:=by simpa using f 0 c (by simp)
  have k:=zuc n (i+1) (d.push c) b (by simpa using e) (λj v h=>by
   have:=f (j+1) v (by simpa using h)
   rwa [show i+1+j=i+(j+1) from by omega])
  simp only [loadCellsFrom,Sem.run_bind,run_load,g,Result.andThen_ok,k];congr 1;simp
theorem YD {w:World} {a:Addr} {b:List Value} (c:∀j v,b[j]? =some v->w.cell? (a.add j)=some v):(loadCells a b.length).run P w=.ok b.toArray w:=by unfold loadCells;rw [zuc b.length 0 #[] b rfl (by simpa using c)];simp
theorem Og (ok:tb.Ok P) {t:Nat} {e:Ty} (h:tb.ty t=some e) {w:World} {a:Addr} {x:e.sh.T}
  (d:∀j v,(bp (e.sh.enc x))[j]? =some v->w.cell? (a.add j)=some v):(loadVar t a).run P w=.ok (e.sh.enc x) w:=by
 simp only [loadVar,Sem.run_bind,mf ok h,Result.andThen_ok];cases c:qb e.bO with
 | true=>
  obtain ⟨b,f,o⟩:=ok.agg t e h c x;simp only [if_true,Sem.run_bind,bX ok h,Result.andThen_ok];have m:b.toList.length=e.size:=by simpa using o
  have k:∀j v,b.toList[j]? =some v->w.cell? (a.add j)=some v:=by simpa [f,bp] using d
  rw [<-m,YD k];simp [f]
 | false=>
  obtain ⟨p,i⟩:=ok.leaf t e h c;have n:=(i x).2;have l:bp (e.sh.enc x)=[e.sh.enc x]:=by generalize e.sh.enc x=v at n;cases v<;>first | rfl | grind
  have:=d 0 (e.sh.enc x) (by simp [l]);have g:a.add 0=a:=by simp [Addr.add]
  rw [g] at this;simp [this]
theorem tF (a:Addr) (i j:Nat):(a.add i).add j=a.add (i+j):=by unfold Addr.add;grind
theorem kK (b o i:Nat):(⟨b,o,none⟩:Addr).add i=⟨b,o+i,none⟩:=by unfold Addr.add;simp
theorem Ds {w:World} {b t:Nat} {a:List Value} (hb:w.heap[b]? =some (.cells a.toArray t (0,0))) (i:Nat):w.cell? ⟨b,i,none⟩=a[i]?:=by unfold World.cell?;simp [hb]
end
section
variable {P:Program} {tb:Tb}
def mW (o:Oper) (ch:aZ) (s:St) (l:LV):Prop:=
 ∀k off,(l=.box k off\/l=.dV k off)->∃x∈o.op.operands,∃a,ev s ch x=some (.box k a)\/ev s ch x=some (.dV k a)
theorem xa (o:Oper) (ch:aZ) (s:St) (v:Value):mW o ch s (.v v):=λ_ _ e=>by grind
theorem D2 {o:Oper} {ch:aZ} {s:St} {l:LV} {x:Operand} (a:x∈o.op.operands) (b:ev s ch x=some l):mW o ch s l:=λk off e=>
 ⟨x,a,off,by grind⟩
theorem L3 {o:Oper} {ch:aZ} {s:St} {l:LV} {x:Operand} {k off:Nat} (c:x∈o.op.operands) (d:ev s ch x=some (.box k off))
  (f:∀a b,(l=.box a b\/l=.dV a b)->a=k):mW o ch s l:=λa b e=>⟨x,c,off,.inl (by grind)⟩
theorem ZV {o:Oper} {ch:aZ} {s:St} {l:LV} {x:Operand} {k off:Nat} (c:x∈o.op.operands) (d:ev s ch x=some (.dV k off))
  (f:∀a b,(l=.box a b\/l=.dV a b)->a=k):mW o ch s l:=λa b e=>⟨x,c,off,.inr (by grind)⟩
def eM (P:Program) (tb:Tb) (o:Oper) (ch:aZ) (s:St) (h:Hp) (K:LV->Prop):Prop:=
 ∃l,K l/\(holds s ch->qn (cN tb o ch s) P o s h l)/\mW o ch s l
theorem lg {o:Oper} {ch:aZ} {s:St} {h:Hp} {K:LV->Prop} (l:LV) (b:K l)
  (d:holds s ch->∀(β:Nat->Nat) (ρ:Operand->Value) (w:World),(∀x∈o.op.operands,fa β s ρ x)->
   (execOp ρ o).run P w=.ok (.value (LVal β l)) w)
  (hp:mW o ch s l:=by exact xa _ _ _ _):eM P tb o ch s h K:=
 ⟨l,b,λa β ρ w c f hb=>⟨w,d a β ρ w c,λ_=>rfl,λe=>.refl (f e)⟩,hp⟩
theorem KL {o:Oper} {ch:aZ} {s:St} {h:Hp} {K:LV->Prop} (f:cN tb o ch s=.box) (l:LV) (d:K l)
  (i:holds s ch->∀(a:Nat->Nat) (b:Operand->Value) (w:World),(∀x∈o.op.operands,fa a s b x)->qG a s o w->
   (execOp b o).run P w=.ok (.value (LVal a l)) w)
  (hp:mW o ch s l:=by exact xa _ _ _ _):eM P tb o ch s h K:=
 ⟨l,d,λc a b w g j hb=>⟨w,i c a b w g (hb (by rw [f];simp)),λ_=>rfl,λe=>.refl (j e)⟩,hp⟩
theorem CU {o:Oper} {ch:aZ} {s:St} {h:Hp} {K:LV->Prop} (g:cN tb o ch s=.mem) (l:LV) (f:K l)
  (j:holds s ch->∀(a:Nat->Nat) (b:Operand->Value) (w:World),(∀x∈o.op.operands,fa a s b x)->Sub h w->
   (execOp b o).run P w=.ok (.value (LVal a l)) w)
  (hp:mW o ch s l:=by exact xa _ _ _ _):eM P tb o ch s h K:=
 ⟨l,f,λd a b w i c hb=>⟨w,j d a b w i (c g),λ_=>rfl,λe=>.refl (c e)⟩,hp⟩
theorem CV {s:Sem Value} {h:Hp} {v:Value} (b:iC P s h v) {w:World} (c:Sub h w):∃a,s.run P w=.ok v a/\Step h h w a:=b w c
theorem tl {o:Oper} {ch:aZ} {s:St} {h:Hp} {K:LV->Prop} {t:Nat} {i:Sem Value} (g:cN tb o ch s=.mem) (b:nF (eZ s ch) P tb t i h K)
  (p:holds s ch->∀(d:Nat->Nat) (c:Operand->Value),(∀x∈o.op.operands,fa d s c x)->∀(w a:World) (v:Value),i.run P w=.ok v a->(execOp c o).run P w=.ok (.value v) a):
  eM P tb o ch s h K:=by
 unfold nF at b;split at b
 ·rename_i e r;obtain ⟨x,q,j⟩:=b;refine ⟨_,j,λf d c w k m hb=> ?_,xa _ _ _ _⟩;obtain ⟨a,l,n⟩:=CV (py q f) (m g);exact ⟨a,p f d c k w a _ l,λe=>absurd g e,λ_=>n⟩
 ·exact b.elim
theorem L4 {o:Oper} {ch:aZ} {s:St} {h:Hp} {K:LV->Prop} {x:Operand} (a:o.op=.move x\/o.op=.assign x) (hv:Ni (ev s ch x) K):eM P tb o ch s h K:=by obtain ⟨l,b,d⟩:=Rb hv;refine lg l d (λc g i w e=> ?_) (D2 (by rcases a with h | h<;>simp [h,Op.operands]) b);have f:i x=LVal g l:=bH (e x (by rcases a with h | h<;>simp [h,Op.operands])) c b;rcases a with h | h<;>simp [execOp,h,f]
theorem HV {t:Nat} {w:World} {a b:Bool} (c:(underlying t).run P w=.ok .bool w):(Op.equal t (.bool a) (.bool b)).run P w=.ok (a==b) w:=by
 have key:∀d,(Op.equalIn (d+1) t (.bool a) (.bool b)).run P w=.ok (a==b) w:=by intro d;unfold Op.equalIn;simp only [Sem.run_bind,c,Result.andThen_ok,Sem.run_pure]
 exact key 9999
theorem Ip {t elem:Nat} {w:World} {p:Option Addr} (a:(underlying t).run P w=.ok (.pointer elem) w):(Op.equal t (.pointer p) (.pointer none)).run P w=.ok p.isNone w:=by
 have key:∀d,(Op.equalIn (d+1) t (.pointer p) (.pointer none)).run P w=.ok p.isNone w:=by intro d;unfold Op.equalIn;simp only [Sem.run_bind,a,Result.andThen_ok];cases p<;>simp only [Sem.run_pure]<;>rfl
 exact key 9999
set_option maxHeartbeats 800000 in
theorem L5 (ok:tb.Ok P) {o:Oper} {ch:aZ} {s:St} {h:Hp} {K:LV->Prop} {op:BinOp} {t R:Nat} {x y:Operand} (F:o.op=.binOp op t x y R)
  (hv:iS (ev s ch x) λa=>iS (ev s ch y) λb=>tQ (eZ s ch) P tb op t x y o.type a b h K):eM P tb o ch s h K:=by
 obtain ⟨a,L,G⟩:=kJ hv;clear hv;obtain ⟨b,E,hv⟩:=kJ G;clear G;have Q:holds s ch->∀(g:Nat->Nat) (d:Operand->Value),(∀x∈o.op.operands,fa g s d x)->d x=a/\d y=b:=λc g d i=>
  ⟨bH (i x (by simp [F,Op.operands])) c L,bH (i y (by simp [F,Op.operands])) c E⟩
 have C:holds s ch->∀(g:Nat->Nat) (d:Operand->Value),(∀x∈o.op.operands,fa g s d x)->∀(w l:World) (v:Value),(cS op t x y a b).run P w=.ok v l->
   (execOp d o).run P w=.ok (.value v) l:=by
  intro c g d i w l v j;obtain ⟨J,hb⟩:=Q c g d i;simp only [execOp,F,J,hb];change (cS op t x y a b>>=λx=>pure (Next.value x)).run P w=_;rw [Sem.run_bind,j];rfl
 have gen:∀v:Value,K (.v v)->(holds s ch->∀w,(cS op t x y a b).run P w=.ok v w)->eM P tb o ch s h K:=λv A j=>
  lg (.v v) A λc g d w i=>C c g d i w w v (j c w)
 unfold tQ at hv;split at hv
 · -- numbers
  rename_i k m H n;have f:∀w:World,(eqGuard op t x y (.int k m) (.int H n)).run P w=.ok () w:=λw=>by unfold eqGuard;split<;>rfl
  split at hv
  ·refine gen _ hv.2 λc w=> ?_;have r:=py hv.1 c;simp only [cS,Sem.run_bind,f,Result.andThen_ok];simp [binOp,Op.shift,qV,Int.not_lt.2 r]
  ·refine gen _ hv.2 λc w=> ?_;have r:=py hv.1 c;simp only [cS,Sem.run_bind,f,Result.andThen_ok];simp [binOp,Op.shift,gy,Int.not_lt.2 r]
  ·cases A:FH k H with
   | false=>simp [A] at hv
   | true=>
    have N:=Ji A;subst N;simp only [A,cond_true] at hv;cases op<;>simp only [FG] at hv<;>
     first
     |exact hv.elim
     |exact gen _ hv λ_ w=>by simp only [cS,Sem.run_bind,f,Result.andThen_ok];simp [binOp,Op.intArith,Op.intCmp,Op.intBits,dM]
     |exact gen _ hv.2 λc w=>by have r:=py hv.1 c;simp only [cS,Sem.run_bind,f,Result.andThen_ok];simp [binOp,Op.intDiv,r]
 · -- truths
  rename_i m n;split at hv
  ·rename_i e D;have f:∀w:World,(eqGuard op t x y (.bool m) (.bool n)).run P w=.ok () w:=λw=>by unfold eqGuard;split<;>rfl
   have B:=λw=>aw ok D w;split at hv
   ·rename_i u;refine gen _ hv λ_ w=> ?_;simp only [cS,Sem.run_bind,f,Result.andThen_ok,binOp,HV (u▸B w),Sem.run_pure]
   ·rename_i u;refine gen _ hv λ_ w=> ?_;simp only [cS,Sem.run_bind,f,Result.andThen_ok,binOp,HV (u▸B w),Sem.run_pure]
   ·exact hv.elim
  ·exact hv.elim
 · -- texts
  rename_i m n;have f:∀w:World,(eqGuard op t x y (.string m) (.string n)).run P w=.ok () w:=λw=>by unfold eqGuard;split<;>rfl
  split at hv
  ·exact gen _ hv λ_ w=>by simp only [cS,Sem.run_bind,f,Result.andThen_ok];simp [binOp,Op.stringOp]
  ·exact gen _ hv λ_ w=>by simp only [cS,Sem.run_bind,f,Result.andThen_ok];simp [binOp,Op.stringOp]
  ·refine gen _ hv.2 λc w=> ?_;have r:=py hv.1 c;simp only [cS,Sem.run_bind,f,Result.andThen_ok];have I:¬(((m.size+n.size:Nat):Int)>IntKind.i64.max):=by
    have:IntKind.i64.max=9223372036854775807:=by decide
    rw [this];omega
   simp only [binOp,Op.stringOp,if_neg I,Sem.run_pure]
  ·exact tl (by simp_all [cN]) hv λc g d i w l v j=>C c g d i w l v j
 · -- pointers
  rename_i p q;cases z:th y with
  | false=>simp only [z,cond_false] at hv;exact tl (by simp_all [cN]) hv λc g d i w l v j=>C c g d i w l v j
  | true=>
   simp only [z,cond_true] at hv;split at hv
   ·rename_i e D;split at hv
    ·rename_i elem u;have O:q=none:=by
      cases y with
      | const v=>
       simp only [ev] at E;cases E;cases q with
       | none=>rfl
       | some _=>simp [th] at z
      | tmp _=>simp [th] at z
      | global _=>simp [th] at z
      | func _=>simp [th] at z
     subst O;have f:∀w:World,(eqGuard op t x y (.pointer p) (.pointer none)).run P w=.ok () w:=λw=>by unfold eqGuard;split<;>rfl
     have B:=λw=>aw ok D w;unfold xY at hv;split at hv
     ·refine gen _ hv λ_ w=> ?_;simp only [cS,Sem.run_bind,f,Result.andThen_ok,binOp,Ip (u▸B w),Sem.run_pure]
     ·refine gen _ hv λ_ w=> ?_;simp only [cS,Sem.run_bind,f,Result.andThen_ok,binOp,Ip (u▸B w),Sem.run_pure]
     ·exact hv.elim
    ·exact hv.elim
   ·exact hv.elim
 ·rename_i S T U V;have M:cN tb o ch s=.mem:=by unfold cN;grind
  exact tl M hv λc g d i w l v j=>C c g d i w l v j
theorem I2 {t:Nat} {w:World} {ms} {a:Value} (b:qw a=true) (c:(underlying t).run P w=.ok (.interface ms) w):(Op.equal t a .nilIface).run P w=.ok (LL a) w:=by
 have key:∀d,(Op.equalIn (d+1) t a .nilIface).run P w=.ok (LL a) w:=by intro d;unfold Op.equalIn;simp only [Sem.run_bind,c,Result.andThen_ok];cases a<;>first | rfl | cases b
 exact key 9999
theorem D3 {a:Value} (b:qw a=true):a=.nilIface\/∃t v,a=.iface t v:=by cases a<;>first | exact .inl rfl | exact .inr ⟨_,_,rfl⟩ | cases b
theorem TJ (ok:tb.Ok P) {o:Oper} {ch:aZ} {s:St} {h:Hp} {K:LV->Prop} {op:BinOp} {t I:Nat} {x y:Operand} (j:o.op=.binOp op t x y I)
  (hv:iS (ev s ch x) λa=>iS (ev s ch y) λb=>vz (eZ s ch) P tb op t x y o.type a b h K):eM P tb o ch s h K:=by
 cases k:D0 y with
 | false=>refine L5 ok j ?_;simpa only [vz,k,cond_false] using hv
 | true=>
  cases g:vP tb t with
  | false=>refine L5 ok j ?_;simpa only [vz,k,g,cond_false,cond_true] using hv
  | true=>
   obtain ⟨a,E,A⟩:=kJ hv;clear hv;obtain ⟨b,p,hv⟩:=kJ A;clear A;simp only [vz,k,g,cond_true] at hv;obtain ⟨u,hv⟩:=hv;have H:y=.const .nilIface:=by unfold D0 at k;grind
   subst H;have hb:b=.nilIface:=by simp only [ev] at p;grind
   subst hb;have F:holds s ch->∀(l:Nat->Nat) (i:Operand->Value),(∀x∈o.op.operands,fa l s i x)->∀(w n:World) (v:Value),(cS op t x (.const .nilIface) a .nilIface).run P w=.ok v n->
     (execOp i o).run P w=.ok (.value v) n:=by
    intro d l i f w n v m;have c:i x=a:=bH (f x (by simp [j,Op.operands])) d E;have hb:i (.const .nilIface)=.nilIface:=bH (f (.const .nilIface) (by simp [j,Op.operands])) d p;simp only [execOp,j,c,hb];change (cS op t x (.const .nilIface) a .nilIface>>=λx=>pure (Next.value x)).run P w=_;rw [Sem.run_bind,m];rfl
   have gen:∀v:Value,K (.v v)->(holds s ch->∀w,(cS op t x (.const .nilIface) a .nilIface).run P w=.ok v w)->eM P tb o ch s h K:=λv G m=>
    lg (.v v) G λd l i w f=>F d l i f w w v (m d w)
   unfold vP at g;split at g
   ·rename_i e D;split at g
    ·rename_i J q;have z:=λw=>aw ok D w;have r:qw a=true->∀w:World,(eqGuard op t x (.const .nilIface) a .nilIface).run P w=.ok () w:=λc w=>by unfold eqGuard;rcases D3 c with rfl | ⟨_,_,rfl⟩<;>cases op<;>first | rfl | (cases x<;>rfl)
     have C:qw a=true->op=.eql->∀w:World,(binOp op t a .nilIface).run P w=.ok (.bool (LL a)) w:=λc f w=>by subst f;rcases D3 c with rfl | ⟨_,_,rfl⟩<;>simp only [binOp,Sem.run_bind,I2 (P:=P) c (q▸z w),Result.andThen_ok,Sem.run_pure]
     have B:qw a=true->op=.neq->∀w:World,(binOp op t a .nilIface).run P w=.ok (.bool (!LL a)) w:=λc f w=>by subst f;rcases D3 c with rfl | ⟨_,_,rfl⟩<;>simp only [binOp,Sem.run_bind,I2 (P:=P) c (q▸z w),Result.andThen_ok,Sem.run_pure]
     unfold xY at hv;split at hv
     ·refine gen _ hv λd w=> ?_;have c:=py u d;simp only [cS,Sem.run_bind,r c,Result.andThen_ok,C c rfl]
     ·refine gen _ hv λd w=> ?_;have c:=py u d;simp only [cS,Sem.run_bind,r c,Result.andThen_ok,B c rfl]
     ·exact hv.elim
    ·cases g
   ·cases g
end
section
variable {P:Program} {tb:Tb} {o:Oper} {ch:aZ} {s:St} {h:Hp} {K:LV->Prop}
theorem zI {β:Nat->Nat} {ρ:Operand->Value} (b:holds s ch):∀ {l:List Operand} {a:List Value},eK s ch l=some a->(∀x∈l,fa β s ρ x)->l.map ρ=a
 | [],a,h,_=>by cases h;rfl
 | x::l,a,h,c=>by
  simp only [eK] at h;split at h
  ·rename_i v r hv d;cases h;simp only [List.map_cons];rw [bH (c x (List.mem_cons_self ..)) b hv,zI b d λy e=>c y (List.mem_cons_of_mem _ e)];rfl
  ·cases h
theorem Dt {β:Nat->Nat} {ρ:Operand->Value} (b:holds s ch):∀ {l:List (Nat×Operand)} {a:List (Nat×Value)},mO s ch l=some a->(∀x∈l.map (·.2),fa β s ρ x)->
  l.map (λp=>(p.1,ρ p.2))=a
 | [],a,h,_=>by cases h;rfl
 | (i,x)::l,a,h,c=>by
  simp only [mO] at h;split at h
  ·rename_i v r hv d;cases h;simp only [List.map_cons];rw [bH (c x (by simp)) b hv,Dt b d λy e=>c y (by grind)];rfl
  ·cases h
theorem KM {e:Nat->Nat} {i:Operand->Value} {x:Operand} {t:Nat} {w:Bool} {l:LV} (d:fa e s i x) (m:holds s ch) (j:hb s t=some w)
  (a:zB s ch t w x=some l):i x=LVal e l:=by
 cases x with
 | tmp u=>
  simp only [zB] at a;split at a
  ·rename_i n c k;cases b:nH c ((t,w)::ch) with
   | false=>simp [b] at a
   | true=>
    simp only [b,cond_true] at a;cases a;refine d l c k (Ov b λp hp=> ?_);rcases List.mem_cons.1 hp with rfl | hp
    ·exact j
    ·exact m p hp
  ·cases a
 | const v=>cases a;exact d
 | global g=>cases a
 | func f=>cases a
theorem Rc {x a b:Operand} (f:o.op=.pick x a b) (hv:vZ s ch x a b K):eM P tb o ch s h K:=by
 unfold vZ at hv;split at hv
 ·rename_i t;split at hv
  ·rename_i p y r;cases m:nH y ch with
   | false=>simp [m] at hv
   | true=>
    simp only [m,cond_true] at hv;have n:hb s t=some p:=by simp [hb,r]
    have i:holds s ch->∀(g:Nat->Nat) (c:Operand->Value),(∀x∈o.op.operands,fa g s c x)->c (.tmp t)=.bool p:=λe g c d=>
     d (.tmp t) (by simp [f,Op.operands]) _ _ r (Ov m e)
    have run:∀(c:Operand->Value) (w:World),c (.tmp t)=.bool p->(execOp c o).run P w=.ok (.value (if p=true then c a else c b)) w:=by intro c w hp;simp only [execOp,f,hp,asBool,Sem.run_bind,Sem.run_pure,Result.andThen_ok]
    split at hv
    ·rename_i u;obtain ⟨v,l,hv⟩:=kJ hv;split at hv
     ·rename_i q;refine lg (.v (.bool (p&&q))) (hv _ rfl) λe g c w d=> ?_;rw [run c w (i e g c d)];cases hp:p with
      | true=>have:=KM (d (.tmp u) (by simp [f,Op.operands])) e (hp▸n) l;simp [this,LVal]
      | false=>have:c (.const (.bool false))=.bool false:=d (.const (.bool false)) (by simp [f,Op.operands]);simp [this,LVal]
     ·exact hv.elim
    ·rename_i u;obtain ⟨v,l,hv⟩:=kJ hv;split at hv
     ·rename_i q;refine lg (.v (.bool (p || q))) (hv _ rfl) λe g c w d=> ?_;rw [run c w (i e g c d)];cases hp:p with
      | false=>have:=KM (d (.tmp u) (by simp [f,Op.operands])) e (hp▸n) l;simp [this,LVal]
      | true=>have:c (.const (.bool true))=.bool true:=d (.const (.bool true)) (by simp [f,Op.operands]);simp [this,LVal]
     ·exact hv.elim
    ·refine lg _ hv λe g c w d=> ?_;rw [run c w (i e g c d)];have j:c (.const (.bool true))=.bool true:=d (.const (.bool true)) (by simp [f,Op.operands]);have k:c (.const (.bool false))=.bool false:=d (.const (.bool false)) (by simp [f,Op.operands]);cases p<;>simp [j,k,LVal]
    ·rename_i u v _;refine lg _ hv λe g c w d=> ?_;rw [run c w (i e g c d)];have j:c (.const (.bool u))=.bool u:=d (.const (.bool u)) (by simp [f,Op.operands]);have k:c (.const (.bool v))=.bool v:=d (.const (.bool v)) (by simp [f,Op.operands]);cases p<;>simp [j,k,LVal]
    ·exact hv.elim
  ·exact hv.elim
 ·exact hv.elim
theorem XV {x:Operand} {i:Nat} (c:o.op=.extract x i) (hv:iS (ev s ch x) λv=>match v with
  | .tuple b=>match nth b.toList i with
   | some y=>K (.v y)
   | none=>False
  | _=>False):eM P tb o ch s h K:=by
 obtain ⟨v,e,a⟩:=kJ hv;clear hv;split at a
 ·rename_i b;split at a
  ·rename_i y d;refine lg (.v y) a λf k l w g=> ?_;have j:=bH (g x (by simp [c,Op.operands])) f e;have:b[i]? =some y:=by rw [nJ] at d;simpa using d
   simp only [execOp,c,j,LVal,Instr.extract,this,Sem.run_bind,Sem.run_pure,Result.andThen_ok]
  ·exact a.elim
 ·exact a.elim
theorem VC {op:UnOp} {t:Nat} {x:Operand} (c:o.op=.unOp op t x) (hv:iS (ev s ch x) λa=>PA op a K):eM P tb o ch s h K:=by
 obtain ⟨v,d,b⟩:=kJ hv;clear hv;unfold PA at b;split at b<;>
  first
  |exact b.elim
  |refine lg _ b λe i j w f=> ?_
   have g:=bH (f x (by simp [c,Op.operands])) e d;simp [execOp,c,g,LVal,Op.unary,Op.intArith,Op.intBits,dM]
theorem TM {x:Operand} (b:o.op=.nilCheck x) (hv:match ev s ch x with
  | some (.v (.pointer p))=>ai (eZ s ch) p λa=>K (.v (.pointer (some a)))
  | some (.box k off)=>K (.box k off)
  | some (.dV k off)=>K (.dV k off)
  | _=>False):eM P tb o ch s h K:=by
 split at hv
 ·rename_i p c;obtain ⟨a,l,j⟩:=hv;refine lg _ j λd g i w e=> ?_;have f:=bH (e x (by simp [b,Op.operands])) d c;have hp:=py l d;subst hp;simp [execOp,b,f,LVal]
 ·rename_i k off c;refine lg _ hv (λd g i w e=> ?_) (D2 (by simp [b,Op.operands]) c);have f:=bH (e x (by simp [b,Op.operands])) d c;simp [execOp,b,f,LVal]
 ·rename_i k off c;refine lg _ hv (λd g i w e=> ?_) (D2 (by simp [b,Op.operands]) c);have f:=bH (e x (by simp [b,Op.operands])) d c;simp [execOp,b,f,LVal]
 ·exact hv.elim
theorem JT {t:Nat} {a:List Value} {off:Nat} (hv:jw tb t a off K):
  ∃e v,tb.ty t=some e/\K (.v v)/\((qb e.bO=true/\v=.agg ((a.drop off).take e.size).toArray/\off+e.size<=a.length)\/(qb e.bO=false/\a[off]? =some v)):=by
 unfold jw at hv;split at hv
 ·rename_i e d;cases b:qb e.bO with
  | true=>
   simp only [b,cond_true,LY,LZ] at hv;cases c:Nat.ble (off+e.size) a.length with
   | false=>simp [c] at hv
   | true=>simp only [c,cond_true] at hv;exact ⟨e,_,d,hv,.inl ⟨b,rfl,Nat.le_of_ble_eq_true c⟩⟩
  | false=>simp only [b,cond_false,nJ] at hv;grind
 ·exact hv.elim
theorem Jh (ok:tb.Ok P) {t:Nat} {a:List Value} {off b f:Nat} {e:Ty} {v:Value} {w:World} (d:tb.ty t=some e)
  (hv:(qb e.bO=true/\v=.agg ((a.drop off).take e.size).toArray/\off+e.size<=a.length)\/(qb e.bO=false/\a[off]? =some v))
  (hb:w.heap[b]? =some (.cells a.toArray f (0,0))):(loadVar t ⟨b,off,none⟩).run P w=.ok v w:=by
 simp only [loadVar,Sem.run_bind,mf ok d,Result.andThen_ok];rcases hv with ⟨c,hv,l⟩ | ⟨c,hv⟩
 ·have i:((a.drop off).take e.size).length=e.size:=by simp;omega
  have g:∀j v,((a.drop off).take e.size)[j]? =some v->w.cell? ((⟨b,off,none⟩:Addr).add j)=some v:=by intro j v k;rw [kK,Ds hb];grind
  rw [c];simp only [if_true,Sem.run_bind,bX ok d,Result.andThen_ok]
  conv=>lhs;rw [<-i]
  rw [YD g];simp [hv]
 ·have:=Ds hb off;rw [hv] at this;simp [c,this]
theorem Rd (ok:tb.Ok P) {t:Nat} {x:Operand} (d:o.op=.load t x) (hv:match ev s ch x with
  | some (.v (.pointer (some a)))=>match tb.ty t with
   | some e=>aR (eZ s ch) e.sh h a λx=>K (.v (e.sh.enc x))
   | none=>False
  | some (.box k off)=>match s.m k with
   | some i=>jw tb t i off K
   | none=>False
  | some (.dV k off)=>match s.m k,tb.ty t with
   | some i,some e=>cond (qb e.bO) False (∃x,lI (eZ s ch) (i[off]? =some (e.sh.enc x))/\K (.v (e.sh.enc x)))
   | _,_=>False
  | _=>False):eM P tb o ch s h K:=by
 have run:∀(f:Operand->Value) (w:World) (a:Addr) (v:Value),f x=.pointer (some a)->(loadVar t a).run P w=.ok v w->(execOp f o).run P w=.ok (.value v) w:=by intro f w a v g p;simp only [execOp,d,g,Instr.loadAt,Instr.sureAddr,Sem.run_bind,Sem.run_pure,Result.andThen_ok,p]
 split at hv
 ·rename_i a b;split at hv
  ·rename_i e q;obtain ⟨y,p,l⟩:=hv;refine CU (by simp [cN,d,b]) _ l λc A f w n E=> ?_;have g:=bH (n x (by simp [d,Op.operands])) c b;exact run f w a _ g (Og ok q λj v D=>wT E (py p c j v D))
  ·exact hv.elim
 ·rename_i k off b;split at hv
  ·rename_i i z;obtain ⟨e,v,q,l,C⟩:=JT hv;refine KL (by simp [cN,d,b]) _ l λc A f w n hb=> ?_;have g:=bH (n x (by simp [d,Op.operands])) c b;obtain ⟨B,u⟩:=hb.box (by simp [d,Op.operands]) b c z;exact run f w _ _ g (Jh ok q C u)
  ·exact hv.elim
 ·rename_i k off b;split at hv
  ·rename_i i e z q;cases r:qb e.bO with
   | true=>simp [r] at hv
   | false=>simp only [r,cond_false] at hv;obtain ⟨y,p,l⟩:=hv;refine KL (by simp [cN,d,b]) _ l λc A f w n hb=> ?_;have g:=bH (n x (by simp [d,Op.operands])) c b;obtain ⟨B,u⟩:=hb.dV (by simp [d,Op.operands]) b c z;exact run f w _ _ g (Jh ok q (.inr ⟨r,py p c⟩) u)
  ·exact hv.elim
 ·exact hv.elim
theorem W6 {t i:Nat} {Q:Nat->Nat->Prop} (hv:za tb t i Q):
  ∃e a f g,tb.ty t=some e/\e.bO=.struct a/\a[i]? =some f/\tb.ty f.type=some g/\g.size≠0/\Q f.offset g.size:=by
 unfold za at hv;split at hv
 ·rename_i e c;split at hv
  ·rename_i a d;split at hv
   ·rename_i f b;split at hv
    ·rename_i g j;split at hv
     ·exact hv.elim
     ·rename_i n k;refine ⟨e,a,f,g,c,d,by rw [nJ] at b;simpa using b,j,by omega,k▸hv⟩
    ·exact hv.elim
   ·exact hv.elim
  ·exact hv.elim
 ·exact hv.elim
theorem Wk (ok:tb.Ok P) {t i:Nat} {x:Operand} (d:o.op=.fieldAddr t x i) (hv:za tb t i λoff _=>match ev s ch x with
  | some (.v (.pointer (some a)))=>K (.v (.pointer (some (a.add off))))
  | some (.box k o)=>K (.box k (o+off))
  | some (.dV k o)=>K (.dV k (o+off))
  | _=>False):eM P tb o ch s h K:=by
 obtain ⟨e,D,f,g,q,u,r,y,B,m⟩:=W6 hv;have run:∀(b:Operand->Value) (w:World) (a:Addr),b x=.pointer (some a)->(execOp b o).run P w=.ok (.value (.pointer (some (a.add f.offset)))) w:=by intro b w a A;have n:=aw ok q w;rw [u] at n;have z:=bX ok y w;simp only [execOp,d,A,Instr.fieldAt,Instr.sureAddr,Sem.run_bind,n,Result.andThen_ok,r,Sem.run_pure,fieldPlace,z,if_neg B]
 split at m
 ·rename_i a c;refine lg _ m λj p b w l=> ?_;exact run b w a (bH (l x (by simp [d,Op.operands])) j c)
 ·rename_i k C c;refine lg _ m (λj p b w l=> ?_) (L3 (by simp [d,Op.operands]) c (by simp));rw [run b w _ (bH (l x (by simp [d,Op.operands])) j c),kK];rfl
 ·rename_i k C c;refine lg _ m (λj p b w l=> ?_) (ZV (by simp [d,Op.operands]) c (by simp));rw [run b w _ (bH (l x (by simp [d,Op.operands])) j c),kK];rfl
 ·exact m.elim
theorem L6 (ok:tb.Ok P) {t:Nat} {cs:List Value} {off:Nat} {e:Ty} {v:Value} {w:World} (b:tb.ty t=some e)
  (hv:(qb e.bO=true/\v=.agg ((cs.drop off).take e.size).toArray/\off+e.size<=cs.length)\/(qb e.bO=false/\cs[off]? =some v)):
  (part t cs.toArray off).run P w=.ok v w:=by
 simp only [part,Sem.run_bind,mf ok b,Result.andThen_ok];rcases hv with ⟨a,hv,_⟩ | ⟨a,hv⟩
 ·simp only [a,if_true,Sem.run_bind,bX ok b,Result.andThen_ok,Sem.run_pure,hv];simp
 ·simp [a,hv]
theorem ZW (ok:tb.Ok P) {t i:Nat} {x:Operand} (j:o.op=.field t x i) (hv:match tb.ty t with
  | some e=>match e.bO with
   | .struct a=>match nth a.toList i with
    | some f=>iS (ev s ch x) λv=>match v with
     | .agg c=>jw tb f.type c.toList f.offset K
     | _=>False
    | none=>False
   | _=>False
  | none=>False):eM P tb o ch s h K:=by
 split at hv
 ·rename_i e m;split at hv
  ·rename_i a q;split at hv
   ·rename_i f d;obtain ⟨v,n,b⟩:=kJ hv;clear hv;split at b
    ·rename_i c;obtain ⟨g,y,r,z,l⟩:=JT b;refine lg _ z λu C D w A=> ?_;have B:=bH (A x (by simp [j,Op.operands])) u n;have k:=aw ok m w;rw [q] at k;have p:a[i]? =some f:=by rw [nJ] at d;simpa using d
     have hp:=L6 (w:=w) ok r l;simp only [Array.toArray_toList] at hp;simp only [execOp,j,B,LVal,Instr.field,Sem.run_bind,k,Result.andThen_ok,p,asAgg,Sem.run_pure,hp]
    ·exact b.elim
   ·exact hv.elim
  ·exact hv.elim
 ·exact hv.elim
end
section
variable {P:Program} {tb:Tb} {o:Oper} {ch:aZ} {s:St} {h:Hp} {K:LV->Prop}
theorem wO {t:Nat} {g:Ty} (h:gL tb t=some g):∃e u,tb.ty t=some e/\e.bO=.slice u/\tb.ty u=some g:=by unfold gL at h;grind
theorem Ci {t n:Nat} {g:Ty} (h:mE tb t=some (n,g)):∃e u,tb.ty t=some e/\e.bO=.array n u/\tb.ty u=some g:=by unfold mE at h;grind
theorem Wl (ok:tb.Ok P) {t:Nat} {x i:Operand} (d:o.op=.indexAddr t x i) (hv:match ev s ch x,ev s ch i with
  | some (.v (.slice base len _)),some (.v (.int _ n))=>match gL tb t with
   | some e=>lI (eZ s ch) (bF base len n)/\K (.v (.pointer (some (sat base e.size n))))
   | none=>False
  | some (.v (.pointer (some a))),some (.v (.int _ n))=>match mE tb t with
   | some (len,e)=>lI (eZ s ch) (0<=n/\n<(len:Int))/\K (.v (.pointer (some (a.add (n.toNat*e.size)))))
   | none=>False
  | some (.box k off),some (.v (.int _ n))=>match mE tb t with
   | some (len,e)=>lI (eZ s ch) (0<=n/\n<(len:Int))/\cond (CT i) (K (.box k (off+n.toNat*e.size))) (K (.dV k (off+n.toNat*e.size)))
   | none=>False
  | _,_=>False):eM P tb o ch s h K:=by
 have L:∀(f:Operand->Value) (w:World) (a:Addr) (k:IntKind) (n:Int) (len:Nat) (e:Ty),mE tb t=some (len,e)->f x=.pointer (some a)->f i=.int k n->0<=n/\n<(len:Int)->
   (execOp f o).run P w=.ok (.value (.pointer (some (a.add (n.toNat*e.size))))) w:=by
  intro f w a k n len e j F C hb;obtain ⟨y,u,G,E,B⟩:=Ci j;have r:=aw ok G w;have D:=bX ok B w;rw [E] at r;simp only [execOp,d,F,C,Instr.indexAt,asIntOf,Instr.sureAddr,Sem.run_bind,Sem.run_pure,Result.andThen_ok,r,if_pos hb,D]
 split at hv
 ·rename_i base len c k n m q;split at hv
  ·rename_i e j;obtain ⟨y,u,G,E,B⟩:=wO j;refine lg _ hv.2 λb z f w g=> ?_;have F:=bH (g x (by simp [d,Op.operands])) b m;have C:=bH (g i (by simp [d,Op.operands])) b q;obtain ⟨O,M,N⟩:=py hv.1 b;obtain ⟨a,rfl⟩:∃a,base=some a:=Option.ne_none_iff_exists'.1 O;have r:=aw ok G w;have D:=bX ok B w;rw [E] at r;simp only [execOp,d,F,C,LVal,Instr.indexAt,asIntOf,Sem.run_bind,Sem.run_pure,Result.andThen_ok,r,if_pos (And.intro M N),D,sat,Option.getD_some]
  ·exact hv.elim
 ·rename_i a k n m q;split at hv
  ·rename_i len e j;refine lg _ hv.2 λb z f w g=> ?_;exact L f w a k n len e j (bH (g x (by simp [d,Op.operands])) b m) (bH (g i (by simp [d,Op.operands])) b q) (py hv.1 b)
  ·exact hv.elim
 ·rename_i p off k n m q;split at hv
  ·rename_i len e j;have J:∀l:LV,(∀z,LVal z l=.pointer (some ⟨z p,off+n.toNat*e.size,none⟩))->(∀H A,(l=.box H A\/l=.dV H A)->H=p)->K l->eM P tb o ch s h K:=λl R hb Q=>
    lg l Q (λb z f w g=>by
     rw [L f w _ k n len e j (bH (g x (by simp [d,Op.operands])) b m) (bH (g i (by simp [d,Op.operands])) b q) (py hv.1 b),kK,R]) (L3 (by simp [d,Op.operands]) m hb)
   cases I:CT i with
   | true=>exact J (.box p (off+n.toNat*e.size)) (λ_=>rfl) (by intro p A e;rcases e with e | e<;>cases e<;>rfl) (by simpa [I] using hv.2)
   | false=>exact J (.dV p (off+n.toNat*e.size)) (λ_=>rfl) (by intro p A e;rcases e with e | e<;>cases e<;>rfl) (by simpa [I] using hv.2)
  ·exact hv.elim
 ·exact hv.elim
theorem ZX (ok:tb.Ok P) {t:Nat} {x i:Operand} (c:o.op=.index t x i) (hv:match ev s ch x,ev s ch i with
  | some (.v (.string b)),some (.v (.int _ n))=>match tb.ty t with
   | some y=>match y.bO with
    | .string=>lI (eZ s ch) (0<=n/\n<(b.size:Int))/\K (.v (.int .u8 ((b.data.toList.getD n.toNat 0).toNat:Int)))
    | _=>False
   | none=>False
  | some (.v (.agg cs)),some (.v (.int _ n))=>A6 (eZ s ch) tb t cs.toList n K
  | _,_=>False):eM P tb o ch s h K:=by
 split at hv
 ·rename_i b k n j g;split at hv
  ·rename_i y q;split at hv
   ·rename_i m;refine lg _ hv.2 λa I J w d=> ?_;have p:=bH (d x (by simp [c,Op.operands])) a j;have l:=bH (d i (by simp [c,Op.operands])) a g;obtain ⟨C,L⟩:=py hv.1 a;have f:=aw ok q w;rw [m] at f;have B:n.toNat<b.size:=by omega
    have E:b[n.toNat]? =some (b.data.toList.getD n.toNat 0):=by
     rw [getElem?_pos b n.toNat B];congr 1;have:n.toNat<b.data.toList.length:=by simpa using B
     rw [List.getD_eq_getElem?_getD,List.getElem?_eq_getElem this];rfl
    simp only [execOp,c,p,l,LVal,Instr.index,asIntOf,Sem.run_bind,Sem.run_pure,Result.andThen_ok,f,if_pos C,E]
   ·exact hv.elim
  ·exact hv.elim
 ·rename_i cs k n j g;unfold A6 at hv;split at hv
  ·rename_i len e D;obtain ⟨y,u,q,m,A⟩:=Ci D;cases r:qb e.bO with
   | true=>grind
   | false=>simp only [r,cond_false] at hv;obtain ⟨hb,z,H,F⟩:=hv;refine lg _ F λa I J w d=> ?_;have p:=bH (d x (by simp [c,Op.operands])) a j;have l:=bH (d i (by simp [c,Op.operands])) a g;have f:=aw ok q w;have G:=bX ok A w;have hp:=L6 ok (w:=w) (cs:=cs.toList) A (.inr ⟨r,py H a⟩);rw [m] at f;simp only [Array.toArray_toList] at hp;simp only [execOp,c,p,l,LVal,Instr.index,asIntOf,Sem.run_bind,Sem.run_pure,Result.andThen_ok,f,if_pos (py hb a),G,hp]
  ·exact hv.elim
 ·exact hv.elim
theorem Rf {f:Nat->Nat} {b:Operand->Value} (c:holds s ch) {x:Option Operand} {r:Option Int} (a:pO s ch x=some r) (d:∀y,x=some y->fa f s b y):
  (x=none/\r=none)\/∃y k n,x=some y/\b y=.int k n/\r=some n:=by
 cases x with
 | none=>cases a;simp
 | some y=>
  simp only [pO] at a;split at a
  ·rename_i k n e;cases a;exact .inr ⟨y,k,n,rfl,bH (d y rfl) c e,rfl⟩
  ·cases a
theorem zi {k:IntKind} {n:Int} {m:Nat} {c:BoundsCode} {w:World} (a:0<=n) (b:n<=(m:Int)):(Instr.sliceBound (.int k n) m c).run P w=.ok n.toNat w:=by simp only [Instr.sliceBound,asIntOf,Sem.run_bind,Sem.run_pure,Result.andThen_ok,if_pos (And.intro a b)]
theorem D4 {c:Option Bool} {v:Bool} {len cap:Nat} {r q t:Option Int} {Q:Nat->Nat->Nat->Prop} (hv:FZ c v len cap r q t Q):
  ∃l x m,Q l x m/\((c=none\/(c=some true))->∀(g f i:Option Value),(r=none/\g=none\/∃k n,r=some n/\g=some (.int k n))->
   (q=none/\f=none\/∃k n,q=some n/\f=some (.int k n))->(t=none/\i=none\/∃k n,t=some n/\i=some (.int k n))->
   ∀w:World,(Instr.sliceBounds v len cap g f i).run P w=.ok (l,x,m) w):=by
 have j:∀ {p:Prop},lI c p->(c=none\/c=some true)->p:=by
  intro p u hc;rcases hc with hc | hc<;>subst hc
  ·exact u
  ·exact u rfl
 unfold FZ at hv;split at hv
 ·refine ⟨_,_,_,hv,λhc g f i a b d w=> ?_⟩;simp at a b d;subst a;subst b;subst d;simp [Instr.sliceBounds]
 ·rename_i l;refine ⟨_,_,_,hv.2,λhc g f i a b d w=> ?_⟩;obtain ⟨a0,a1⟩:=j hv.1 hc;simp at a b d;subst b;subst d;obtain ⟨k,rfl⟩:=a;simp [Instr.sliceBounds,zi a0 a1]
 ·rename_i x;refine ⟨_,_,_,hv.2,λhc g f i a b d w=> ?_⟩;obtain ⟨a0,a1⟩:=j hv.1 hc;simp at a b d;subst a;subst d;obtain ⟨k,rfl⟩:=b;simp [Instr.sliceBounds,zi a0 a1]
 ·rename_i l x;refine ⟨_,_,_,hv.2,λhc g f i a b d w=> ?_⟩;obtain ⟨a0,a1,a2⟩:=j hv.1 hc;simp at a b d;subst d;obtain ⟨k,rfl⟩:=a;obtain ⟨y,rfl⟩:=b;have e:(x.toNat:Int)=x:=Int.toNat_of_nonneg (by omega);simp [Instr.sliceBounds,zi (Int.le_trans a0 a1) a2,zi (n:=l) (m:=x.toNat) a0 (by omega)]
 ·rename_i x m;refine ⟨_,_,_,hv.2,λhc g f i a b d w=> ?_⟩;obtain ⟨a0,a1,a2⟩:=j hv.1 hc;simp at a b d;subst a;obtain ⟨k,rfl⟩:=b;obtain ⟨y,rfl⟩:=d;simp [Instr.sliceBounds,zi (n:=m) (Int.le_trans a0 a1) a2,zi (n:=x) (m:=m.toNat) a0 (by omega)]
 ·rename_i l x m;refine ⟨_,_,_,hv.2,λhc g f i a b d w=> ?_⟩;obtain ⟨a0,a1,a2,a3⟩:=j hv.1 hc;simp at a b d;obtain ⟨k,rfl⟩:=a;obtain ⟨y,rfl⟩:=b;obtain ⟨z,rfl⟩:=d;simp [Instr.sliceBounds,zi (n:=m) (by omega) a3,zi (n:=x) (m:=m.toNat) (by omega) (by omega),zi (n:=l) (m:=x.toNat) a0 (by omega)]
 ·simp at hv
end
section
variable {P:Program} {tb:Tb} {o:Oper} {ch:aZ} {s:St} {h:Hp} {K:LV->Prop}
theorem CW (a:holds s ch):eZ s ch=none\/eZ s ch=some true:=by
 cases ch with
 | nil=>exact .inl rfl
 | cons q r=>obtain ⟨t,w⟩:=q;obtain ⟨b,hb,c⟩:=LX (s:=s) t w r;grind
theorem ZY (ok:tb.Ok P) {t:Nat} {x:Operand} {I H A:Option Operand} (j:o.op=.slice t x I H A) (hv:iS (ev s ch x) λv=>match pO s ch I,pO s ch H,pO s ch A with
  | some I,some H,some A=>Ez (eZ s ch) tb t v I H A K
  | _,_,_=>False):eM P tb o ch s h K:=by
 obtain ⟨v,L,f⟩:=kJ hv;clear hv;split at f
 ·rename_i l n m N O B;have q:holds s ch->∀(p:Nat->Nat) (i:Operand->Value),(∀x∈o.op.operands,fa p s i x)->∀ {y:Option Operand} {r:Option Int},pO s ch y=some r->(∀z,y=some z->z∈o.op.operands)->
    (r=none/\y.map i=none\/∃k n,r=some n/\y.map i=some (.int k n)):=by
   intro c p i g y r Z B;rcases Rf c Z (λz d=>g z (B z d)) with ⟨T,U⟩ | ⟨z,k,n,T,U,h3⟩
   ·exact .inl ⟨U,by rw [T];rfl⟩
   grind
  unfold Ez at f;split at f
  ·rename_i base len cap;split at f
   ·rename_i e J;obtain ⟨y,u,S,R,M⟩:=wO J;obtain ⟨W,Y,X,C,E⟩:=D4 (P:=P) f;refine lg _ (C _ rfl) λc p i w g=> ?_;have G:=bH (g x (by simp [j,Op.operands])) c L;have F:=aw ok S w;have Q:=bX ok M w;rw [R] at F;have D:=E (CW c) _ _ _ (q c p i g N (by intro z d;simp [j,Op.operands,d])) (q c p i g O (by intro z d;simp [j,Op.operands,d]))
     (q c p i g B (by intro z d;simp [j,Op.operands,d])) w
    simp only [execOp,j,G,LVal,Instr.sliceAt,Instr.slice,Sem.run_bind,F,Result.andThen_ok,D,Q,Sem.run_pure,be]
   ·exact f.elim
  ·rename_i a;split at f
   ·rename_i n' e J;obtain ⟨y',u,b0,a9,M⟩:=Ci J;obtain ⟨W,Y,X,C,E⟩:=D4 (P:=P) f;refine lg _ (C _ rfl) λc p i w g=> ?_;have G:=bH (g x (by simp [j,Op.operands])) c L;have V:=aw ok b0 w;have Q:=bX ok M w;rw [a9] at V;have D:=E (CW c) _ _ _ (q c p i g N (by intro z d;simp [j,Op.operands,d])) (q c p i g O (by intro z d;simp [j,Op.operands,d]))
     (q c p i g B (by intro z d;simp [j,Op.operands,d])) w
    simp only [execOp,j,G,LVal,Instr.sliceAt,Instr.slice,Instr.sureAddr,Sem.run_bind,Result.andThen_ok,V,D,Q,Sem.run_pure,be];split<;>simp_all
   ·exact f.elim
  ·rename_i b;split at f
   ·rename_i e S;split at f
    ·rename_i R;obtain ⟨W,Y,X,C,E⟩:=D4 (P:=P) f;refine lg _ C λc p i w g=> ?_;have G:=bH (g x (by simp [j,Op.operands])) c L;have F:=aw ok S w;rw [R] at F;have a8:A=none:=by
      cases A with
      | none=>rfl
      | some z=>simp only [pO] at B;grind
     have D:=E (CW c) _ _ none (q c p i g N (by intro z d;simp [j,Op.operands,d])) (q c p i g O (by intro z d;simp [j,Op.operands,d])) (.inl ⟨rfl,rfl⟩) w;subst a8;simp [execOp,j,G,LVal,Instr.sliceAt,Instr.slice,F,D]
    ·exact f.elim
   ·exact f.elim
  ·exact f.elim
 ·exact f.elim
theorem ZZ (ok:tb.Ok P) {t:Nat} {x:Operand} (a:o.op=.makeInterface t x) (hv:iS (ev s ch x) λv=>match tb.ty t with
  | some e=>match e.bO with
   | .interface _=>False
   | _=>K (.v (.iface t v))
  | none=>False):eM P tb o ch s h K:=by
 obtain ⟨v,d,b⟩:=kJ hv;clear hv;split at b
 ·rename_i e c;have run:(∀n,e.bO≠ .interface n)->K (.v (.iface t v))->eM P tb o ch s h K:=λi g=>
   lg _ g λf p q w j=>by have m:=bH (j x (by simp [a,Op.operands])) f d;have l:=aw ok c w;simp only [execOp,a,m,LVal,Instr.makeInterface,Sem.run_bind,l,Result.andThen_ok];cases k:e.bO<;>first | exact absurd k (i _) | rfl
  grind
 ·exact b.elim
theorem Rh {fn:Fn} {first captured:Array Operand} (c:o.op=.makeFunc fn first captured)
  (hv:oy (eK s ch first.toList) λa=>oy (eK s ch captured.toList) λb=>K (.v (.func fn a.toArray b.toArray))):eM P tb o ch s h K:=by
 obtain ⟨a,i,k⟩:=E0 hv;obtain ⟨b,hb,j⟩:=E0 k;refine lg _ j λd β ρ w e=> ?_;have m:=zI (β:=β) (ρ:=ρ) d i λx l=>e x (by simp [c,Op.operands];grind);have n:=zI (β:=β) (ρ:=ρ) d hb λx l=>e x (by simp [c,Op.operands];grind);have f:first.map ρ=a.toArray:=by grind
 have g:captured.map ρ=b.toArray:=by grind
 simp only [execOp,c,Instr.makeFunc,Sem.run_bind,Sem.run_pure,Result.andThen_ok,f,g,LVal]
theorem XX (ok:tb.Ok P) {src c:Nat} {x:Operand} (q:o.op=.convert src c x) (hv:iS (ev s ch x) λv=>match tb.ty src,tb.ty c,v with
  | some _,some e,.int _ n=>match e.bO with
   | .int k=>K (.v (.int k (k.wrap n)))
   | _=>nF (eZ s ch) P tb c (convert src c v) h K
  | some _,some _,v=>nF (eZ s ch) P tb c (convert src c v) h K
  | _,_,_=>False):eM P tb o ch s h K:=by
 obtain ⟨v,y,i⟩:=kJ hv;clear hv;have l:holds s ch->∀(b:Nat->Nat) (a:Operand->Value),(∀x∈o.op.operands,fa b s a x)->∀(w g:World) (u:Value),(convert src c v).run P w=.ok u g->(execOp a o).run P w=.ok (.value u) g:=by intro d b a f w g u j;have B:=bH (f x (by simp [q,Op.operands])) d y;simp only [execOp,q,B,LVal,Sem.run_bind,j,Result.andThen_ok,Sem.run_pure]
 split at i
 ·rename_i r e k n z t;split at i
  ·rename_i D A;refine lg _ i λd b a w f=>l d b a f w w _ ?_;have m:=aw ok z w;have p:=aw ok t w;rw [A] at p;generalize r.bO=C at m;simp only [convert,Sem.run_bind,m,p,Result.andThen_ok];cases C<;>rfl
  ·exact tl (by simp_all [cN]) i λd b a f w g u j=>l d b a f w g u j
 ·exact tl (by simp_all [cN]) i λd b a f w g u j=>l d b a f w g u j
 ·exact i.elim
theorem zJ :∀(l:List Value) (i:Nat) (new:List Value),i+new.length<=l.length->lx l i new=l.take i++new++l.drop (i+new.length)
 | l,0,[],_=>by cases l<;>simp [lx]
 | [],0,b::new,h=>by simp at h
 | a::l,0,b::new,h=>by have:=zJ l 0 new (by grind);simp only [lx,this];simp
 | [],n+1,new,h=>by simp at h
 | a::l,n+1,new,h=>by have:=zJ l n new (by simp at h ⊢;omega);simp only [lx,this];grind
theorem XY (l:List Value) (i:Nat) (new:List Value) (h:i+new.length<=l.length):(lx l i new).length=l.length:=by rw [zJ l i new h];simp;omega
theorem L7 :∀(new:List Value) (k:Nat) (l:List Value) (off:Nat),off+k+new.length<=l.length->
  ((new.zipIdx k).foldl (λ(a:Array Value) (p:Value×Nat)=>a.setIfInBounds (off+p.2) p.1) l.toArray).toList=l.take (off+k)++new++l.drop (off+k+new.length)
 | [],k,l,off,_=>by simp
 | v::new,k,l,off,h=>by
  simp only [List.zipIdx_cons,List.foldl_cons];have b:off+(k+1)+new.length<=(l.set (off+k) v).length:=by simp at h ⊢;omega
  have:=L7 new (k+1) (l.set (off+k) v) off b;rw [show (l.toArray.setIfInBounds (off+k) v)=(l.set (off+k) v).toArray by simp];rw [this];simp at h;apply List.ext_getElem?;intro j;simp only [List.getElem?_append,List.length_append,List.length_take,List.length_set,List.length_cons,List.getElem?_take,List.getElem?_drop,List.getElem?_set];grind
theorem L9 (v:Value) (l:List Value) (off:Nat) (h:off+(bp v).length<=l.length):
  (v.cells.zipIdx.foldl (λ(a:Array Value) (p:Value×Nat)=>a.setIfInBounds (off+p.2) p.1) l.toArray)=(lx l off (bp v)).toArray:=by
 apply Array.ext';rw [<-Array.foldl_toList];have:v.cells.zipIdx.toList=(bp v).zipIdx:=by rw [Array.toList_zipIdx,pj]
 rw [this,L7 (bp v) 0 l off (by omega),zJ l off _ h];simp
theorem Du {size:Nat}:∀ {e:List (Nat×Value)} {a b:List Value},oi size a e=some b->
  Instr.fill (λi=>some (i*size,size)) a.toArray e=some b.toArray
 | [],a,b,h=>by cases h;rfl
 | (i,v)::r,a,b,h=>by
  simp only [oi] at h;cases c:Nat.beq (bp v).length size with
  | false=>simp [c] at h
  | true=>
   cases d:Nat.ble (i*size+size) a.length with
   | false=>simp [c,d] at h
   | true=>
    simp only [c,d,cond_true] at h;have f:=Nat.eq_of_beq_eq_true c;have j:=Nat.le_of_ble_eq_true d;have g:v.cells.size=size:=by rw [<-Array.length_toList,pj,f]
    have:=Du h;simp only [Instr.fill,g,ne_eq,not_true,decide_false,Bool.false_or,decide_eq_true_eq];rw [if_neg (by simp;omega)];have k:=L9 v a (i*size) (by omega);grind
theorem Ma {fs:List Field} {pl:Nat->Option (Nat×Nat)} (j:∀i f e,fs[i]? =some f->tb.ty f.type=some e->pl i=some (f.offset,e.size)):
  ∀ {k:List (Nat×Value)} {a b:List Value},rD tb fs a k=some b->Instr.fill pl a.toArray k=some b.toArray
 | [],a,b,h=>by cases h;rfl
 | (i,v)::r,a,b,h=>by
  simp only [rD] at h;split at h
  ·rename_i f g;split at h
   ·rename_i e n;cases c:Nat.beq (bp v).length e.size with
    | false=>simp [c] at h
    | true=>
     cases d:Nat.ble (f.offset+e.size) a.length with
     | false=>simp [c,d] at h
     | true=>
      simp only [c,d,cond_true] at h;have l:=Nat.eq_of_beq_eq_true c;have p:=Nat.le_of_ble_eq_true d;have m:v.cells.size=e.size:=by rw [<-Array.length_toList,pj,l]
      have:=Ma j h;rw [nJ] at g;simp only [Instr.fill,j i f e g n,m];rw [if_neg (by simp;omega)];rw [L9 v a f.offset (by omega)];exact this
   ·cases h
  ·cases h
theorem JU (ok:tb.Ok P) {w:World}:∀(fs:List Field),(∀f∈fs,∃e,tb.ty f.type=some e)->
  ∃a:List (Nat×Nat),(fs.mapM λf=>(do pure (f.offset,<-Go.sizeOf f.type):Sem (Nat×Nat))).run P w=.ok a w/\a.length=fs.length/\
   ∀(i:Nat) f e,fs[i]? =some f->tb.ty f.type=some e->a[i]? =some (f.offset,e.size)
 | [],_=>⟨[],by simp,rfl,by simp⟩
 | f::fs,b=>by
  obtain ⟨e,c⟩:=b f (List.mem_cons_self ..);obtain ⟨a,k,j,hp⟩:=JU ok (w:=w) fs λg d=>b g (List.mem_cons_of_mem _ d);refine ⟨(f.offset,e.size)::a,?_,by simp [j],?_⟩
  ·simp only [List.mapM_cons,Sem.run_bind,bX ok c,Result.andThen_ok,Sem.run_pure,k]
  grind
theorem KN :∀ {fs:List Field},qB tb fs=true->∀f∈fs,∃e,tb.ty f.type=some e
 | [],_,f,hf=>by cases hf
 | g::fs,h,f,hf=>by
  simp only [qB] at h;split at h
  ·rename_i e a;rcases List.mem_cons.1 hf with rfl | hf
   ·exact ⟨e,a⟩
   ·exact KN h f hf
  ·cases h
theorem Z0 (ok:tb.Ok P) {t:Nat} {parts:Array (Nat×Operand)} (y:o.op=.build t parts)
  (hv:oy ((mO s ch parts.toList).map λ_=> []) λ_=>match mO s ch parts.toList,tb.ty t with
  | some b,some e=>match e.bO with
   | .struct fs=>cond (qB tb fs.toList) (match rD tb fs.toList (bp e.zero) b with
    | some c=>K (.v (.agg c.toArray))
    | none=>False) False
   | .array _ u=>match tb.ty u with
    | some g=>match oi g.size (bp e.zero) b with
     | some c=>K (.v (.agg c.toArray))
     | none=>False
    | none=>False
   | _=>False
  | _,_=>False):eM P tb o ch s h K:=by
 obtain ⟨_,_,a⟩:=E0 hv;clear hv;split at a
 ·rename_i b e G m;have C:holds s ch->∀(β:Nat->Nat) (ρ:Operand->Value),(∀x∈o.op.operands,fa β s ρ x)->(parts.map λ(i,x)=>(i,ρ x)).toList=b:=by intro j β ρ k;have:=Dt (β:=β) (ρ:=ρ) j G λx J=>k x (by simp [y,Op.operands];simpa using J);simpa using this
  split at a
  ·rename_i fs A;cases z:qB tb fs.toList with
   | false=>simp [z] at a
   | true=>
    simp only [z,cond_true] at a;split at a
    ·rename_i c r;refine lg _ a λj β ρ w k=> ?_;have l:=aw ok m w;rw [A] at l;have B:=cI ok m w;obtain ⟨pl,H,L,hp⟩:=JU ok (w:=w) fs.toList (KN z);have F:(fs.mapM λf=>(do pure (f.offset,<-Go.sizeOf f.type):Sem (Nat×Nat))).run P w=.ok pl.toArray w:=by rw [Array.mapM_eq_mapM_toList];simp only [Sem.run_map,H,Result.andThen_ok]
     have d:=Ma (tb:=tb) (fs:=fs.toList) (pl:=λ(i:Nat)=>pl[i]?) hp r;have p:(parts.map λ(i,x)=>(i,ρ x)).toList=b:=C j β ρ k;have q:(bp e.zero).toArray=e.zero.cells:=by apply Array.ext';simp [pj]
     rw [q] at d;simp only [execOp,y,Instr.build,Sem.run_bind,B,Result.andThen_ok,l,F,p];have D:(λ(i:Nat)=>pl.toArray[i]?)=λ(i:Nat)=>pl[i]?:=by funext i;simp
     rw [D,d];simp [LVal]
    ·exact a.elim
  ·rename_i n u A;split at a
   ·rename_i g E;split at a
    ·rename_i c r;refine lg _ a λj β ρ w k=> ?_;have l:=aw ok m w;rw [A] at l;have B:=cI ok m w;have I:=bX ok E w;have d:=Du r;have p:(parts.map λ(i,x)=>(i,ρ x)).toList=b:=C j β ρ k;have q:(bp e.zero).toArray=e.zero.cells:=by apply Array.ext';simp [pj]
     rw [q] at d;simp only [execOp,y,Instr.build,Sem.run_bind,B,Result.andThen_ok,l,I,p,d];simp [LVal]
    ·exact a.elim
   ·exact a.elim
  ·exact a.elim
 ·exact a.elim
end
section
variable {P:Program} {tb:Tb} {o:Oper} {ch:aZ} {s:St} {h:Hp} {K:LV->Prop}
theorem Da (ok:tb.Ok P) {k:Nat} {e:Ty} {b:Bool} {v:Value} {w:World} (c:tb.ty k=some e) (a:sv e.bO=true):
  (Instr.checkKey b 10000 k v).run P w=.ok () w:=by
 have f:=aw ok c w;have key:∀n,(Instr.checkKey b (n+1) k v).run P w=.ok () w:=by intro n;unfold Instr.checkKey;simp only [Sem.run_bind,f,Result.andThen_ok];generalize e.bO=d at a;cases d<;>first | rfl | (simp [sv] at a)
 exact key 9999
theorem AH (ok:tb.Ok P) {k:Nat} {e:Ty} {v:Value} {a:List MapEntry} {r:Option (Nat×Value)} {w:World} (b:tb.ty k=some e)
  (c:Instr.findNow e.bO v a 0=some r):(Instr.findKey k v a).run P w=.ok r w:=by
 simp only [Instr.findKey,Sem.run_bind,aw ok b,Result.andThen_ok,c,Sem.run_pure]
theorem LP {r:Nat} {a:Array MapEntry} {ck:Nat} {w:World} (hb:w.heap[r]? =some (.map a ck)):(getObj r).run P w=.ok (.map a ck) w:=by simp [getObj,Sem.run,hb]
theorem Ow (ok:tb.Ok P) {t k u:Nat} {e j q:Ty} {m:Option Nat} {b v:Value} {y l:Bool} {w:World} (x:tb.ty t=some e) (C:e.bO=.map k u)
  (d:tb.ty k=some j) (p:tb.ty u=some q) (n:sv j.bO=true) (B:Sub h w) (f:zA j.bO q.zero m b h v y):
  (Instr.lookup t (.map m) b l).run P w=.ok (if l then .tuple #[v,.bool y] else v) w:=by
 have g:=aw ok x w;rw [C] at g;obtain ⟨D,z,f⟩:=f;rcases z with ⟨rfl,rfl⟩ | ⟨r,ck,rfl,A⟩
 ·simp only [Instr.lookup,Sem.run_bind,g,Result.andThen_ok,Sem.run_pure,Da ok d n];rcases f with ⟨a,hv,c⟩ | ⟨i,a,c⟩
  ·simp only [AH ok d a,Result.andThen_ok,Sem.run_bind,cI ok p,Sem.run_pure,hv,c]
  ·simp only [AH ok d a,Result.andThen_ok,Sem.run_bind,Sem.run_pure,c]
 ·simp only [Instr.lookup,Sem.run_bind,g,Result.andThen_ok,LP (B r _ A),Sem.run_pure,Da ok d n];rcases f with ⟨a,hv,c⟩ | ⟨i,a,c⟩
  ·simp only [AH ok d a,Result.andThen_ok,Sem.run_bind,cI ok p,Sem.run_pure,hv,c]
  ·simp only [AH ok d a,Result.andThen_ok,Sem.run_bind,Sem.run_pure,c]
theorem YZ (ok:tb.Ok P) {t:Nat} {x i:Operand} {l:Bool} (n:o.op=.lookup t x i l) (hv:iS (ev s ch x) λa=>iS (ev s ch i) λb=>match a,tb.ty t with
  | .map m,some e=>match e.bO with
   | .map k u=>match tb.ty k,tb.ty u with
    | some A,some p=>cond (sv A.bO) (nm (eZ s ch) A.bO p.sh p.zero m b h λx y=>cond l (K (.v (.tuple #[p.sh.enc x,.bool y]))) (K (.v (p.sh.enc x))))
      (nF (eZ s ch) P tb o.type (Instr.lookup t a b l) h K)
    | _,_=>False
   | _=>False
  | _,_=>False):eM P tb o ch s h K:=by
 obtain ⟨a,J,I⟩:=kJ hv;clear hv;obtain ⟨b,L,hv⟩:=kJ I;clear I;have B:holds s ch->∀(g:Nat->Nat) (d:Operand->Value),(∀x∈o.op.operands,fa g s d x)->∀(w q:World) (u:Value),(Instr.lookup t a b l).run P w=.ok u q->(execOp d o).run P w=.ok (.value u) q:=by intro c g d f w q u j;have N:=bH (f x (by simp [n,Op.operands])) c J;have M:=bH (f i (by simp [n,Op.operands])) c L;simp only [execOp,n,N,M,LVal,Sem.run_bind,j,Result.andThen_ok,Sem.run_pure]
 split at hv
 ·rename_i m e D;split at hv
  ·rename_i k u G;split at hv
   ·rename_i A p E H;cases r:sv A.bO with
    | false=>simp only [r,cond_false] at hv;exact tl (by simp_all [cN]) hv λc g d f w q u j=>B c g d f w q u j
    | true=>
     simp only [r,cond_true] at hv;obtain ⟨y,z,j,F⟩:=hv;cases l with
     | true=>refine CU (by simp [cN,n]) _ F λc g d w f C=>B c g d f w w _ ?_;rw [Ow ok D G E H r C (py j c)];rfl
     | false=>refine CU (by simp [cN,n]) _ F λc g d w f C=>B c g d f w w _ ?_;rw [Ow ok D G E H r C (py j c)];rfl
   ·exact hv.elim
  ·exact hv.elim
 ·exact hv.elim
theorem Nb {k:IntKind} {w:World}:∀ {r:List Value} {x:Int} {v:Value},sP ju k x r=some v->(r.foldlM Builtin.min2 (.int k x)).run P w=.ok v w
 | [],x,v,h=>by cases h;rfl
 | a::r,x,v,h=>by
  cases a<;>simp only [sP] at h<;>first
   |cases h
   | (simp only [List.foldlM_cons,Sem.run_bind,Builtin.min2,Sem.run_pure,Result.andThen_ok]
      exact Nb h)
theorem Nc {k:IntKind} {w:World}:∀ {r:List Value} {x:Int} {v:Value},sP qx k x r=some v->(r.foldlM Builtin.max2 (.int k x)).run P w=.ok v w
 | [],x,v,h=>by cases h;rfl
 | a::r,x,v,h=>by
  cases a<;>simp only [sP] at h<;>first
   |cases h
   | (simp only [List.foldlM_cons,Sem.run_bind,Builtin.max2,Sem.run_pure,Result.andThen_ok]
      exact Nc h)
theorem XZ (ok:tb.Ok P) {b:Builtin} {G:Array Operand} {z:Array TypeId} (j:o.op=.call {callee:=.builtin b,args:=G,argTypes:=z})
  (hv:oy (eK s ch G.toList) λF=>OP (eZ s ch) P tb b F z.toList o.type h K):eM P tb o ch s h K:=by
 obtain ⟨F,J,a⟩:=E0 hv;clear hv;have q:holds s ch->∀(β:Nat->Nat) (ρ:Operand->Value),(∀x∈o.op.operands,fa β s ρ x)->G.map ρ=F.toArray:=by intro d β ρ f;have:=zI (β:=β) (ρ:=ρ) d J λx L=>f x (by simp [j,Op.operands,Call.operands];simpa using L);grind
 unfold OP at a;split at a
 ·rename_i x ty D;have E:z= #[ty]:=by apply Array.ext';simpa using D
  have t:holds s ch->∀(β:Nat->Nat) (ρ:Operand->Value),(∀x∈o.op.operands,fa β s ρ x)->∀(w m:World) (u:Value),(Builtin.len_ #[ty] o.type #[x]).run P w=.ok u m->(execOp ρ o).run P w=.ok (.value u) m:=by intro d β ρ f w m u C;have g:=q d β ρ f;simp only [execOp,j,resolve,invoke,builtin,Sem.run_bind,Sem.run_pure,Result.andThen_ok,g,E,C]
  unfold FJ at a;split at a
  ·rename_i e A;have l:=λw=>aw ok A w;split at a
   ·rename_i M i;refine lg _ a λd β ρ w f=>t d β ρ f w w _ ?_;simp [Builtin.len_,l,i,goInt,LVal]
   ·rename_i I p n c i;refine lg _ a λd β ρ w f=>t d β ρ f w w _ ?_;simp [Builtin.len_,l,i,goInt,LVal]
   ·rename_i y n I i;refine lg _ a λd β ρ w f=>t d β ρ f w w _ ?_;cases y<;>simp [Builtin.len_,l,i,goInt,LVal]
   ·exact tl (by simp_all [cN]) a λd β ρ f w m u C=>t d β ρ f w m u C
  ·exact a.elim
 ·rename_i p n c ty D;have E:z= #[ty]:=by apply Array.ext';simpa using D
  split at a
  ·rename_i e A;split at a
   ·rename_i u l;refine lg _ a λd β ρ w f=> ?_;have g:=q d β ρ f;have H:=aw ok A w;rw [l] at H;simp [execOp,j,resolve,invoke,builtin,g,E,Builtin.cap_,H,goInt,LVal]
   ·exact a.elim
  ·exact a.elim
 ·rename_i k x r;split at a
  ·rename_i v B;refine lg _ a λd β ρ w f=> ?_;have g:=q d β ρ f;simp [execOp,j,resolve,invoke,builtin,g,Builtin.min_,Nb B,LVal]
  ·exact a.elim
 ·rename_i k x r;split at a
  ·rename_i v B;refine lg _ a λd β ρ w f=> ?_;have g:=q d β ρ f;simp [execOp,j,resolve,invoke,builtin,g,Builtin.max_,Nc B,LVal]
  ·exact a.elim
 ·exact a.elim
theorem JV (ok:tb.Ok P) (hv:wz P tb o ch s h K):eM P tb o ch s h K:=by
 obtain ⟨e,op,ty,pos,after,guard⟩:=o;cases op with
 | move x=>exact L4 (.inl rfl) hv
 | assign x=>exact L4 (.inr rfl) hv
 | pick x a b=>exact Rc rfl hv
 | extract x i=>exact XV rfl hv
 | binOp op t x y p=>exact TJ ok rfl hv
 | unOp op t x=>exact VC rfl hv
 | nilCheck x=>exact TM rfl hv
 | load t x=>exact Rd ok rfl hv
 | fieldAddr t x i=>exact Wk ok rfl hv
 | field t x i=>exact ZW ok rfl hv
 | indexAddr t x i=>exact Wl ok rfl hv
 | index t x i=>exact ZX ok rfl hv
 | slice t x j g l=>exact ZY ok rfl hv
 | makeInterface t x=>exact ZZ ok rfl hv
 | makeFunc fn a b=>exact Rh rfl hv
 | convert a b x=>exact XX ok rfl hv
 | build t n=>exact Z0 ok rfl hv
 | lookup t x i k=>exact YZ ok rfl hv
 | call c=>
  obtain ⟨callee,args,d⟩:=c;cases callee with
  | builtin b=>exact XZ ok rfl hv
  | value f=>exact hv.elim
  | invoke r m=>exact hv.elim
 | _=>exact hv.elim
end
section
variable {P:Program} {tb:Tb} {o:Oper} {ch:aZ} {s:St} {h:Hp} {K:LV->Hp->Prop}
theorem TO (s:St) (t:Nat) (w:Bool) (r:aZ):∃b,eZ s ((t,w)::r)=some b/\(b=true↔holds s ((t,w)::r)):=by
 induction r generalizing t w with
 | nil=>
  simp only [eZ];split
  ·rename_i b c a;refine ⟨_,rfl,λh=> ?_,λh=> ?_⟩
   ·intro p hp;simp at hp;subst hp;simp only [hb,a];grind
   ·have:=h (t,w) (List.mem_cons_self ..);simp only [hb,a] at this;grind
  ·refine ⟨false,rfl,λh=>(by cases h),λh=> ?_⟩;have:=h (t,w) (List.mem_cons_self ..);unfold hb at this;split at this
   ·rename_i f _ b c a;exact absurd a (f b c)
   ·cases this
 | cons p r k=>
  obtain ⟨l,m⟩:=p;obtain ⟨g,j,i⟩:=k l m;simp only [eZ];split
  ·rename_i b c a;rw [j];refine ⟨_,rfl,λh=> ?_,λh=> ?_⟩
   ·have e:g=true/\b=w:=by grind
    intro q hq;rcases List.mem_cons.1 hq with rfl | hq
    ·simp only [hb,a,e.2]
    ·exact i.1 e.1 q hq
   ·have d:=h (t,w) (List.mem_cons_self ..);simp only [hb,a] at d;injection d with d
    have e:g=true:=i.2 λq hq=>h q (List.mem_cons_of_mem _ hq);grind
  ·refine ⟨false,rfl,λh=>(by cases h),λh=> ?_⟩;have:=h (t,w) (List.mem_cons_self ..);unfold hb at this;split at this
   ·rename_i f _ b c a;exact absurd a (f b c)
   ·cases this
def gz (P:Program) (o:Oper) (ch:aZ) (s:St) (h:Hp) (K:LV->Hp->Prop):Prop:=
 (holds s ch->∀(β:Nat->Nat) (a:Act) (w:World),(∀x∈o.op.operands,fa β s a.eval x)->Sub h w->∀(next:Act->World->Prop) (Q:Exit->Act->World->Prop),
  (∀x b c,K (.v x) b->Step h b w c->next (a.put o.dst x) c)->o.wp P a w next Q)/\
 (¬holds s ch->∃x,K (.v x) h)
theorem CX {d:Type} {A:(d->Hp->Prop)->Hp->Prop} {K:d->Hp->Prop} (a:cY (eZ s ch) A K h):(holds s ch->A K h)/\(¬holds s ch->∃x,K x h):=by
 cases ch with
 | nil=>exact ⟨λ_=>a,λc=>absurd (bI s) c⟩
 | cons p r=>obtain ⟨t,w⟩:=p;obtain ⟨b,hb,f⟩:=TO s t w r;rw [hb] at a;exact ⟨λe=>a.1 (f.2 e),λc=>a.2 (by grind)⟩
theorem uR {e:Type} {A:(e->Hp->Prop)->Hp->Prop} {f:e->Value} (j:cY (eZ s ch) A (λx b=>K (.v (f x)) b) h)
  (c:holds s ch->∀(β:Nat->Nat) (ρ:Operand->Value) (w:World),(∀x∈o.op.operands,fa β s ρ x)->Sub h w->∀(K:e->Hp->Prop),A K h->
   ∃x b d,(execOp ρ o).run P w=.ok (.value (f x)) d/\K x b/\Step h b w d):gz P o ch s h K:=by
 obtain ⟨i,m⟩:=CX j;refine ⟨λhh β a w ho hs next Q g=> ?_,λg=> ?_⟩
 ·obtain ⟨x,b,d,c,k,l⟩:=c hh β a.eval w ho hs _ (i hh);unfold Oper.wp;rw [c,Oper.upon_value];exact g _ _ _ k l
 grind
theorem KO {h:Hp} {a b:Addr} {v:Value} (i:∃u,dd h b=some u):∃u,dd (h.put a v) b=some u:=by
 obtain ⟨u,j⟩:=i;obtain ⟨c,t,fr,hb,g,d⟩:=EV j;unfold Hp.put;split
 ·rename_i k l m f;unfold dd Hp.set;by_cases e:b.block=a.block
  ·rw [e] at hb;rw [hb] at f;cases f;simp only [e,if_true,g,Option.isSome_none,Bool.false_eq_true,if_false];split
   ·exact ⟨u,d⟩
   ·rw [Array.getElem?_setIfInBounds];split
    ·rename_i n;have:b.off<c.size:=by
      rcases Nat.lt_or_ge b.off c.size with h | h
      ·exact h
      ·rw [Array.getElem?_eq_none h] at d;cases d
     rw [if_pos (by omega)];exact ⟨v,rfl⟩
    ·exact ⟨u,d⟩
  ·simp only [if_neg e,hb,g];exact ⟨u,by simpa using d⟩
 grind
theorem KP (h:Hp) (a b:Addr) (v:Value):gM (h.put a v) b=gM h b:=by
 unfold Hp.put;split
 ·rename_i c e fr hb;unfold gM Hp.set;grind
 ·rfl
theorem E7 {h:Hp} {a:Addr}:∀ {n:Nat},rm h a n->∀i,i<n->(∃v,dd h (a.add i)=some v)/\gM h (a.add i)=false
 | 0,_,i,c=>by omega
 | n+1,b,i,c=>by
  rcases Nat.lt_or_ge i n with h | h
  ·exact E7 b.1 i h
  ·have:i=n:=by omega
   subst this;exact b.2
theorem EN {a:Addr}:∀(b:List Value) (i:Nat) (h:Hp) (w:World),Sub h w->ji b=true->
  (∀j,j<b.length->(∃v,dd h (a.add (i+j))=some v)/\gM h (a.add (i+j))=false)->
  ∃f,(storeCells a b i).run P w=.ok () f/\Step h (kI h a b i) w f
 | [],i,h,w,d,_,_=>⟨w,rfl,.refl d⟩
 | v::b,i,h,w,d,g,k=>by
  obtain ⟨⟨v0,e⟩,l⟩:=k 0 (by simp);rw [Nat.add_zero] at e l;have n:=LM (v:=v) d e;have m:ji b=true/\v.oneCell'=true:=by cases v<;>simp only [ji] at g<;>first | exact ⟨g,rfl⟩ | cases g
  obtain ⟨f,r,u⟩:=EN b (i+1) (h.put (a.add i) v) (w.setCell (a.add i) v) n.sub m.1 (λj y=>by
   have:=k (j+1) (by simp;omega);rw [show i+1+j=i+(j+1) from by omega];exact ⟨KO this.1,by rw [KP];exact this.2⟩)
  refine ⟨f,?_,n.trans u⟩;simp only [storeCells,Sem.run_bind];have x:(store (a.add i) v).run P w=.ok () (w.setCell (a.add i) v):=by
   have p:=wT d e;obtain ⟨c,t,fr,hb,_,_⟩:=EV e;have q:w.frozen? (a.add i)=false:=by rw [CO d hb];exact l
   have hv:=m.2;cases v<;>first
    | (simp [Value.oneCell'] at hv;done)
    |simp only [store,Sem.run,p,q,Bool.false_eq_true,if_false]
  rw [x];simp only [Result.andThen_ok];exact r
theorem Z1 (ok:tb.Ok P) {t:Nat} {x y:Operand} (d:o.op=.store t x y) (hv:match ev s ch x,ev s ch y with
  | some (.v (.pointer (some a))),some (.v v)=>match ch,tb.ty t with
   | [],some e=>cond (Nat.beq (bp v).length e.size) (cond (ji (bp v)) (cJ h a (bp v) λg=>K (.v (.tuple #[])) g) False) False
   | _,_=>False
  | _,_=>False):gz P o ch s h K:=by
 split at hv
 ·rename_i a v k l;split at hv
  ·rename_i e i;cases b:Nat.beq (bp v).length e.size with
   | false=>simp [b] at hv
   | true=>
    cases f:ji (bp v) with
    | false=>grind
    | true=>
     simp only [b,f,cond_true] at hv;refine ⟨λhh β act w ho hs next Q c=> ?_,λc=>absurd (bI s) c⟩;have z:act.eval x=_:=bH (ho x (by simp [d,Op.operands])) hh k;have A:act.eval y=_:=bH (ho y (by simp [d,Op.operands])) hh l;obtain ⟨B,p,r⟩:=EN (P:=P) (bp v) 0 h w hs f (λj m=>by simpa using E7 hv.1 j m);have u:=bX ok i w;have n:v.cells.size=e.size:=by rw [<-Array.length_toList,pj];exact Nat.eq_of_beq_eq_true b
     unfold Oper.wp;have q:(execOp act.eval o).run P w=.ok .skip B:=by
      simp only [execOp,d,z,A,LVal,Instr.storeAt,Instr.sureAddr,Sem.run_bind,Sem.run_pure,Result.andThen_ok,storeVar,u,n,ne_eq,not_true,if_false,pj];have:(if False then (stuck "storeVar: the value has not the size of the variable" :Sem Unit) else pure PUnit.unit).run P w=.ok () w:=rfl
      first | rw [this] | skip
      simp only [p,Result.andThen_ok]
     rw [q,Oper.upon_skip];exact c _ _ _ hv.2 r
  ·exact hv.elim
 ·exact hv.elim
theorem ur {e:TypeId} {a:Array Value} {w:World}:(newRow e a).run P w=.ok ⟨w.heap.size,0,none⟩ {w with heap:=w.heap.push (.cells a e)}:=by simp [newRow]
theorem Dv {a:List Value} {K:Addr->Hp->Prop} {t:Nat} {w:World} (e:Sub h w) (c:bh a K h):
  ∃b,K ⟨w.heap.size,0,none⟩ b/\Step h b w {w with heap:=w.heap.push (.cells a.toArray t)}:=by
 obtain ⟨d,f⟩:=AN e (.cells a.toArray t);exact ⟨_,c _ t d,f⟩
theorem Y0 {b:List Value} {K:Addr->Hp->Prop} {t:Nat} {w:World} (d:Sub h w) (a:zz t b K h):
  ∃c,K ⟨w.heap.size,0,none⟩ c/\Step h c w {w with heap:=w.heap.push (.cells b.toArray t)}:=by
 unfold zz at a;split at a
 ·obtain ⟨e,f⟩:=AN d (.cells (List.toArray [.pointer none,.slice none 0 0]) t);exact ⟨_,a _ e,f⟩
 ·exact Dv d a
theorem Z2 (ok:tb.Ok P) {t:Nat} (j:o.op=.alloc t) (hv:match tb.ty t with
  | some e=>cY (eZ s ch) (zz t (bp e.zero)) (λa b=>K (.v (.pointer (some a))) b) h
  | none=>False):gz P o ch s h K:=by
 split at hv
 ·rename_i e d;refine uR (f:=λa=>.pointer (some a)) hv λm p q w n k K g=> ?_;obtain ⟨b,i,l⟩:=Y0 (t:=t) k g;refine ⟨_,b,_,?_,i,l⟩;have c:(bp e.zero).toArray=e.zero.cells:=by apply Array.ext';simp [pj]
  rw [c];simp [execOp,j,Instr.alloc,cI ok d,newVar,ur]
 ·exact hv.elim
theorem TQ {t:Nat} {x:Operand} (c:o.op=.box t x) (hv:iS (ev s ch x) λv=>cY (eZ s ch) (bh (bp v)) (λa b=>K (.v (.pointer (some a))) b) h):
  gz P o ch s h K:=by
 obtain ⟨v,e,n⟩:=kJ hv;refine uR (f:=λa=>.pointer (some a)) n λg q r w k l K i=> ?_;obtain ⟨b,j,m⟩:=Dv (t:=t) l i;refine ⟨_,b,_,?_,j,m⟩;have p:=bH (k x (by simp [c,Op.operands])) g e;have d:(bp v).toArray=v.cells:=by apply Array.ext';simp [pj]
 rw [d];simp [execOp,c,p,LVal,Instr.box,newVar,ur]
theorem Oh {a:Type} (l:List a):∀n,(lF l n).length=n*l.length
 | 0=>by simp [lF]
 | n+1=>by simp [lF,Oh l n,Nat.add_mul,Nat.add_comm]
theorem Mc (l:List Value):∀n i,i<n*l.length->(lF l n)[i]? =l[i%l.length]?
 | 0,i,h=>by simp at h
 | n+1,i,h=>by
  simp only [lF];rcases Nat.lt_or_ge i l.length with hi | hi
  ·rw [List.getElem?_append_left hi,Nat.mod_eq_of_lt hi]
  ·rw [List.getElem?_append_right hi,Mc l n (i-l.length) (by grind)];congr 1;rw [<-Nat.mod_eq_sub_mod hi]
theorem CY (z:List Value) (n size:Nat) (a:z.length=size):((Array.range (n*size)).map (λi=>z.toArray[i%z.toArray.size]!))=(lF z n).toArray:=by
 apply Array.ext';apply List.ext_getElem?;intro i;rcases Nat.lt_or_ge i (n*size) with hi | hi
 ·have b:(lF z n)[i]? =z[i%z.length]?:=Mc z n i (by rw [a];exact hi);have d:0<size:=by
   rcases Nat.eq_zero_or_pos size with h | h
   ·subst h;simp at hi
   ·exact h
  have c:i%z.length<z.length:=Nat.mod_lt _ (by omega);grind
 ·have b:(lF z n).length<=i:=by rw [Oh,a];exact hi
  grind
theorem UB (ok:tb.Ok P) {t len:Nat} {parts:Array (Nat×Operand)} (n:o.op=.buildSlice t len parts) (hv:match mO s ch parts.toList,gL tb t with
  | some l,some e=>cond (Nat.ble (len*e.size) 16777216) (match oi e.size (lF (bp e.zero) len) l with
   | some m=>cY (eZ s ch) (bh m) (λa d=>K (.v (.slice (some a) len len)) d) h
   | none=>False) False
  | _,_=>False):gz P o ch s h K:=by
 split at hv
 ·rename_i l e G A;obtain ⟨y,u,O,M,k⟩:=wO A;cases g:Nat.ble (len*e.size) 16777216 with
  | false=>simp [g] at hv
  | true=>
   simp only [g,cond_true] at hv;have R:=Nat.le_of_ble_eq_true g;split at hv
   ·rename_i m z;refine uR (f:=λa=>.slice (some a) len len) hv λB β ρ w E I K C=> ?_;obtain ⟨d,D,J⟩:=Dv (t:=u) I C;refine ⟨_,d,_,?_,D,J⟩;have F:(parts.map λ(i,x)=>(i,ρ x)).toList=l:=by have:=Dt (β:=β) (ρ:=ρ) B G λx N=>E x (by simp [n,Op.operands];simpa using N);simpa using this
    have p:=aw ok O w;rw [M] at p;have L:=bX ok k w;have Q:=cI ok k w;have q:=ok.yY u e k;have j:=Du z;have r:e.zero.cells=(bp e.zero).toArray:=by apply Array.ext';simp [pj]
    simp only [execOp,n,Instr.buildSlice,Sem.run_bind,p,Result.andThen_ok,L,F];rw [pN];by_cases b:len*e.size=0
    ·have H:lF (bp e.zero) len=[]:=by apply List.length_eq_zero_iff.1;rw [Oh,q];exact b
     rw [H] at j;have c:(Array.map (λx=>(#[]:Array Value)[x%(#[]:Array Value).size]!) (Array.range (len*e.size)))=([]:List Value).toArray:=by rw [b];simp
     simp only [b,if_true,Sem.run_pure,Result.andThen_ok,Sem.run_bind];rw [b] at c;simp only [c,j,Sem.run_bind,ur,Result.andThen_ok,Sem.run_pure]
    ·have c:=CY (bp e.zero) len e.size q;simp only [b,if_false,Sem.run_bind,Q,Result.andThen_ok,Sem.run_pure,r];simp only [c,j,Sem.run_bind,ur,Result.andThen_ok,Sem.run_pure]
   ·exact hv.elim
 ·exact hv.elim
end
end Lf
