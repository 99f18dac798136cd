/-
  Part 1 of the texts that the claim leans on.
-/
import Derived.Calls
import Derived.Orders
import Derived.Scope
import Derived.ScopeJumps
import Derived.KernelRfl
import Derived.Laws.Sem
abbrev yw(n:Int):Int:=Go.IntKind.wrap .i64 n
set_option maxRecDepth 100000
namespace Lf
open Go
def Hp :Type:=Nat->Option Obj
def Hp.set (h:Hp) (b:Nat) (o:Obj):Hp:=λi=>if i=b then some o else h i
instance:LE Hp:=⟨λh a=>∀b o,h b=some o->a b=some o⟩
theorem Hp.le_refl (h:Hp):h<=h:=λ_ _ e=>e
theorem Hp.le_trans {a b c:Hp} (h:a<=b) (k:b<=c):a<=c:=λi o e=>k i o (h i o e)
def cW (h:Hp) (a:Addr):Option Value:=
 match h a.block with
 | some (.cells c _ _)=>if a.spot.isSome then none else c[a.off]?
 | _=>none
def fY (h:Hp) (a:Addr):Bool:=
 match h a.block with
 | some (.cells _ _ (c,b))=>c<=a.off&&a.off<b
 | _=>false
def Hp.put (h:Hp) (a:Addr) (v:Value):Hp:=
 match h a.block with
 | some (.cells c e fr)=>h.set a.block (.cells (if a.spot.isSome then c else c.setIfInBounds a.off v) e fr)
 | _=>h
def Ev :Obj->Option (TypeId×Nat)
 | .cells c e _=>some (e,c.size)
 | _=>none
def isCells :Obj->Bool
 | .cells .. =>true
 | _=>false
def cT {α:Type} (P:Program):Sem α->(α->Hp->Prop)->Hp->Prop
 | .pure a,K,h=>K a h
 | .load _ a k,K,h=>∃v,cW h a=some v/\cT P (k v) K h
 | .store _ _ (.agg _) _,_,_ | .store _ _ (.tuple _) _,_,_=>False
 | .store _ a v k,K,h=>(∃v0,cW h a=some v0)/\fY h a=false/\cT P k K (h.put a v)
 | .new o k,K,h=>∀b,h b=none->cT P (k b) K (h.set b o)
 | .shape r k,K,h=>∃o,h r=some o/\cT P (k (Ev o)) K h
 | .freeze _ _ _,_,_=>False
 | .frozen a k,K,h=>(∃o,h a.block=some o)/\cT P (k (fY h a)) K h
 | .getObj r k,K,h=>∃o,h r=some o/\isCells o=false/\cT P (k o) K h
 | .setObj r o k,K,h=>(∃c,h r=some c/\isCells c=false)/\cT P k K (h.set r o)
 | .choose q k,K,h=>if q.forced then cT P (k 0) K h else ∀t,cT P (k (q.cut t)) K h
 | .sys _ _,_,_=>False
 | .program k,K,h=>cT P (k P) K h
 | .mark _ k,K,h=>cT P k K h
 | .halt _,_,_=>False
def Sub (h:Hp) (w:World):Prop:=∀b o,h b=some o->w.heap[b]? =some o
structure Step (h h':Hp) (w w':World):Prop where
 sub:Sub h' w'
 size:w.heap.size<=w'.heap.size
 cF:∀b,b<w.heap.size->h b=none->w'.heap[b]? =w.heap[b]?/\h' b=none
 os:w'.os=w.os
 tape:w'.tape=w.tape
 output:w'.output=w.output
theorem Sub.lt {h:Hp} {w:World} (a:Sub h w) {b:Nat} {o:Obj} (e:h b=some o):b<w.heap.size:=by have:=a b o e;grind
theorem Sub.mono {h a:Hp} {w:World} (d:Sub a w) (c:h<=a):Sub h w:=λb o e=>d b o (c b o e)
theorem Step.refl {h:Hp} {w:World} (a:Sub h w):Step h h w w:=
 ⟨a,Nat.le_refl _,λ_ _ h=>⟨rfl,h⟩,rfl,rfl,rfl⟩
theorem Step.trans {d e f:Hp} {g h j:World} (a:Step d e g h) (b:Step e f h j):Step d f g j:=by refine ⟨b.sub,Nat.le_trans a.size b.size,λi c k=> ?_,b.os.trans a.os,b.tape.trans a.tape,b.output.trans a.output⟩;have h1:=a.cF i c k;have l:=b.cF i (Nat.lt_of_lt_of_le c a.size) h1.2;grind
theorem Step.drew {h b:Hp} {w c:World} {n:Nat} (a:Step h b {w with drawn:=n} c):Step h b w c:=
 ⟨a.sub,a.size,a.cF,a.os,a.tape,a.output⟩
theorem vw {h:Hp} {w:World} (b:Sub h w) {a:Addr} {v:Value} (e:cW h a=some v):w.cell? a=some v:=by
 unfold cW at e;cases hb:h a.block with
 | none=>simp [hb] at e
 | some o=>have:=b _ _ hb;unfold World.cell?;grind
theorem Di {h:Hp} {w:World} (b:Sub h w) {a:Addr} {o:Obj} (e:h a.block=some o):w.frozen? a=fY h a:=by have:=b _ _ e;unfold World.frozen? fY;grind
theorem ER {h:Hp} {a:Addr} {v:Value} (e:cW h a=some v):
  ∃c t fr,h a.block=some (.cells c t fr)/\a.spot=none/\c[a.off]? =some v:=by
 unfold cW at e;split at e
 ·rename_i c t fr hb;refine ⟨c,t,fr,hb,?_⟩;cases b:a.spot with
  | none=>simp [b] at e;exact ⟨rfl,e⟩
  | some s=>simp [b] at e
 grind
theorem YP {h:Hp} {a:Addr} {v v0:Value} (e:cW h a=some v0):
  ∃c t fr,h a.block=some (.cells c t fr)/\h.put a v=h.set a.block (.cells (c.setIfInBounds a.off v) t fr):=by
 obtain ⟨c,t,fr,hb,b,_⟩:=ER e;refine ⟨c,t,fr,hb,?_⟩;unfold Hp.put;grind
theorem Ig {h:Hp} {w:World} (c:Sub h w) {b:Nat} {o:Obj} (hb:b<w.heap.size):
  Sub (h.set b o) {w with heap:=w.heap.setIfInBounds b o}:=by
 intro i x e;unfold Hp.set at e;by_cases a:i=b
 ·grind
 ·simp [a] at e;have:=c _ _ e;grind
theorem GF {h:Hp} {w:World} (g:Sub h w) {a:Addr} {v v0:Value} (e:cW h a=some v0):
  Step h (h.put a v) w (w.setCell a v):=by
 obtain ⟨c,t,fr,hb,m⟩:=YP (v:=v) e;obtain ⟨_,_,_,p,n,_⟩:=ER e;have j:=g.lt hb;have o:w.setCell a v={w with heap:=w.heap.setIfInBounds a.block (.cells (c.setIfInBounds a.off v) t fr)}:=by
  unfold World.setCell;congr 1;apply Array.ext_getElem?;intro i;by_cases d:i=a.block
  ·subst d;rw [Array.getElem?_setIfInBounds_self_of_lt j,Array.getElem?_modify,if_pos rfl,g _ _ hb];simp [n]
  ·rw [Array.getElem?_setIfInBounds_ne (Ne.symm d),Array.getElem?_modify,if_neg (Ne.symm d)]
 rw [m,o];refine ⟨Ig g j,by simp,λb q f=> ?_,rfl,rfl,rfl⟩;have k:b≠a.block:=λl=>by rw [l,hb] at f;cases f
 refine ⟨by simp [Array.getElem?_setIfInBounds_ne (Ne.symm k)],?_⟩;unfold Hp.set;rw [if_neg k];exact f
theorem tn {h:Hp} {w:World} (d:Sub h w) {r:Nat} {o i:Obj} (e:h r=some i):
  Step h (h.set r o) w {w with heap:=w.heap.setIfInBounds r o}:=by
 have g:=d.lt e;refine ⟨Ig d g,by simp,λb j a=> ?_,rfl,rfl,rfl⟩;have c:b≠r:=λf=>by rw [f,e] at a;cases a
 refine ⟨by simp [Array.getElem?_setIfInBounds_ne (Ne.symm c)],?_⟩;unfold Hp.set;rw [if_neg c];exact a
theorem AQ {h:Hp} {w:World} (a:Sub h w) (o:Obj):
  h w.heap.size=none/\Step h (h.set w.heap.size o) w {w with heap:=w.heap.push o}:=by
 have d:h w.heap.size=none:=by
  cases e:h w.heap.size with
  | none=>rfl
  | some x=>exact absurd (a.lt e) (Nat.lt_irrefl _)
 refine ⟨d,?_,by simp,λb hb g=> ?_,rfl,rfl,rfl⟩
 ·intro i x e;unfold Hp.set at e;by_cases c:i=w.heap.size
  ·grind
  ·simp [c] at e;have f:=a.lt e;have:=a _ _ e;grind
 ·refine ⟨by simp [Array.getElem?_push,Nat.ne_of_lt hb],?_⟩;unfold Hp.set;grind
theorem Kr {C:Type} {P:Program} (s:Sem C):∀ {K:C->Hp->Prop} {h:Hp} {w:World},Sub h w->cT P s K h->
  ∃a f e,s.run P w=.ok a f/\K a e/\Step h e w f:=by
 induction s with
 | pure a=>intro K h w d b;exact ⟨a,w,h,rfl,b,.refl d⟩
 | load m a k i=>intro K h w d b;obtain ⟨v,hv,b⟩:=b;obtain ⟨x,f,e,l,j,g⟩:=i v d b;exact ⟨x,f,e,by simp only [Sem.run,vw d hv,l],j,g⟩
 | store m a v k i=>
  intro K h w d b;have J:((∃v0,cW h a=some v0)/\fY h a=false/\cT P k K (h.put a v))->(∀p,v≠ .agg p)->(∀p,v≠ .tuple p)->
    ∃x f e,(Sem.store m a v k).run P w=.ok x f/\K x e/\Step h e w f:=by
   rintro ⟨⟨v0,A⟩,D,b⟩ G H;have g:=GF (v:=v) d A;obtain ⟨x,f,e,l,j,y⟩:=i g.sub b;refine ⟨x,f,e,?_,j,g.trans y⟩;have E:w.frozen? a=false:=by obtain ⟨c,t,fr,hb,_,_⟩:=ER A;rw [Di d hb];exact D
   cases v<;>first | exact absurd rfl (G _) | exact absurd rfl (H _) | simp only [Sem.run,vw d A,E,l,Bool.false_eq_true,if_false]
  cases v<;>first | exact b.elim | exact J b (by intros;simp) (by intros;simp)
 | new o k i=>intro K h w d b;obtain ⟨F,g⟩:=AQ d o;obtain ⟨x,f,e,l,j,y⟩:=i _ g.sub (b _ F);exact ⟨x,f,e,by simp only [Sem.run,l],j,g.trans y⟩
 | shape r k i=>
  intro K h w d b;obtain ⟨o,u,b⟩:=b;obtain ⟨x,f,e,l,j,g⟩:=i _ d b;refine ⟨x,f,e,?_,j,g⟩;simp only [Sem.run];have:w.shape? r=Ev o:=by unfold World.shape?;rw [d _ _ u];cases o<;>rfl
  grind
 | freeze a n k i=>intro K h w d b;exact b.elim
 | frozen a k i=>intro K h w d b;obtain ⟨⟨o,u⟩,b⟩:=b;obtain ⟨x,f,e,l,j,g⟩:=i _ d b;refine ⟨x,f,e,?_,j,g⟩;simp only [Sem.run,Di d u];exact l
 | getObj r k i=>intro K h w d b;obtain ⟨o,u,B,b⟩:=b;obtain ⟨x,f,e,l,j,g⟩:=i _ d b;refine ⟨x,f,e,?_,j,g⟩;simp only [Sem.run,d _ _ u];cases o<;>first | exact l | simp [isCells] at B
 | setObj r o k i=>intro K h w d b;obtain ⟨⟨L,u,B⟩,b⟩:=b;have g:=tn (o:=o) d u;obtain ⟨x,f,e,l,j,y⟩:=i g.sub b;refine ⟨x,f,e,?_,j,g.trans y⟩;simp only [Sem.run,d _ _ u];cases L<;>first | exact l | simp [isCells] at B
 | choose q k i=>
  intro K h w d b;simp only [cT] at b;by_cases z:q.forced=true
  ·simp only [z,if_true] at b;obtain ⟨x,f,e,l,j,g⟩:=i _ d b;exact ⟨x,f,e,by simp only [Sem.run,z,if_true,l],j,g⟩
  ·simp only [z,if_false,Bool.false_eq_true] at b;have I:Sub h {w with drawn:=w.drawn+1}:=d;obtain ⟨x,f,e,l,j,g⟩:=i _ I (b (w.tape w.drawn q));exact ⟨x,f,e,by simp only [Sem.run,z,if_false,Bool.false_eq_true,l],j,g.drew⟩
 | sys c k i=>intro K h w d b;exact b.elim
 | program k i=>intro K h w d b;obtain ⟨x,f,e,l,j,g⟩:=i _ d b;exact ⟨x,f,e,by simp only [Sem.run,l],j,g⟩
 | mark m k i=>intro K h w d b;obtain ⟨x,f,e,l,j,g⟩:=i d b;exact ⟨x,f,e,by simp only [Sem.run,l],j,g⟩
 | halt x=>intro K h w d b;exact b.elim
theorem R0 {j:Type} {P:Program} (s:Sem j):∀ {K g:j->Hp->Prop} {h:Hp},(∀a h,K a h->g a h)->cT P s K h->cT P s g h:=by
 induction s with
 | pure a=>intro K g h e d;exact e _ _ d
 | load m a k f=>rintro K g h e ⟨v,hv,d⟩;exact ⟨v,hv,f _ e d⟩
 | store m a v k f=>intro K g h e d;cases v<;>first | exact d.elim | exact ⟨d.1,d.2.1,f e d.2.2⟩
 | new o k f=>intro K g h e d b hb;exact f _ e (d b hb)
 | shape r k f=>rintro K g h e ⟨o,i,d⟩;exact ⟨o,i,f _ e d⟩
 | freeze a n k f=>intro K g h e d;exact d.elim
 | frozen a k f=>rintro K g h e ⟨i,d⟩;exact ⟨i,f _ e d⟩
 | getObj r k f=>rintro K g h e ⟨o,i,l,d⟩;exact ⟨o,i,l,f _ e d⟩
 | setObj r o k f=>rintro K g h e ⟨i,d⟩;exact ⟨i,f e d⟩
 | choose q k f=>intro K g h e d;simp only [cT] at d ⊢;grind
 | sys c k f=>intro K g h e d;exact d.elim
 | program k f=>intro K g h e d;exact f _ e d
 | mark m k f=>intro K g h e d;exact f e d
 | halt x=>intro K g h e d;exact d.elim
theorem Dk {d e:Type} {P:Program} (s:Sem d) (f:d->Sem e):∀ {K:e->Hp->Prop} {h:Hp},
  cT P (s.bind f) K h↔cT P s (λa h=>cT P (f a) K h) h:=by
 induction s with
 | pure a=>intro K h;exact Iff.rfl
 | load m a k b=>intro K h;simp only [Sem.bind,cT];grind
 | store m a v k b=>intro K h;cases v<;>simp only [Sem.bind,cT]<;>first | exact Iff.rfl | grind
 | new o k b=>intro K h;simp only [Sem.bind,cT];grind
 | shape r k b=>intro K h;simp only [Sem.bind,cT];grind
 | freeze a n k b=>intro K h;exact Iff.rfl
 | frozen a k b=>intro K h;simp only [Sem.bind,cT];grind
 | getObj r k b=>intro K h;simp only [Sem.bind,cT];grind
 | setObj r o k b=>intro K h;simp only [Sem.bind,cT];grind
 | choose q k b=>intro K h;simp only [Sem.bind,cT];grind
 | sys c k b=>intro K h;exact Iff.rfl
 | program k b=>intro K h;simp only [Sem.bind,cT];exact b _
 | mark m k b=>intro K h;simp only [Sem.bind,cT];exact b
 | halt x=>intro K h;exact Iff.rfl
end Lf
namespace Lf
structure dP where
 op:Int
 a:Int
 b:Int
 c:Int
 lL:Int
def lx (op:Int):Bool×Bool×Bool×Bool:=
 if op=1 then (true,false,false,true)
 else if op=2\/op=20\/op=21\/op=25\/op=26 then (true,true,false,false)
 else if (3<=op/\op<=14)\/(15<=op/\op<=19)\/op=24 then (true,true,true,false)
 else if op=22\/op=29\/op=30 then (false,false,false,true)
 else if op=23 then (true,false,false,true)
 else if op=27\/op=28\/op=31\/op=32\/op=33 then (true,false,false,false)
 else (false,false,false,false)
def gl (has:Bool) (n:Int):Int:=if has=false/\n≠0 then 11 else if n<0\/8<=n then 10 else 0
def nC (x:dP) (n an:Int):Int×Int:=
 if x.op<0\/34<=x.op then (9,0)
 else if gl (lx x.op).1 x.a≠0 then (gl (lx x.op).1 x.a,1)
 else if gl (lx x.op).2.1 x.b≠0 then (gl (lx x.op).2.1 x.b,2)
 else if gl (lx x.op).2.2.1 x.c≠0 then (gl (lx x.op).2.2.1 x.c,3)
 else if (lx x.op).2.2.2=false/\x.lL≠0 then (11,4)
 else if (x.op=22\/x.op=23)/\(x.lL<0\/n<x.lL) then (12,4)
 else if (x.op=29\/x.op=30)/\(x.lL<0\/an<=x.lL) then (13,4)
 else (0,0)
def lV (n an:Int):List dP->Int->Int×Int
 | [],_=>(0,0)
 | x::r,i=>if (nC x n an).1≠0 then ((nC x n an).1,i) else lV n an r (i+1)
def jT (l:List dP) (an:Int):Int×Int:=
 if an<0\/8<an then (1,0) else if 256<l.length then (3,256) else lV l.length an l 0
structure iX where
 part:Int
 code:List dP
structure aV where
 labels:List Int
 table:List Int
 fuel:Int
 lane:Int
 an:Int
 log:Int
 procs:List iX
def kN (n a b:Int):Bool:=decide (a<=n)&&decide (n<=b)
def nY (parts an:Int):List iX->Int->Int×Int
 | [],_=>(0,0)
 | p::r,i=>if kN p.part 0 (parts-1)=false then (2,7+i) else if (jT p.code an).1≠0 then ((jT p.code an).1,7+i) else nY parts an r (i+1)
def um (m:Int) (c:aV):Int×Int:=
 if m≠0 then (m,0)
 else if c.table=[] then (1,1)
 else if 64<c.table.length then (3,1)
 else if c.table.all (λp=>kN p 0 (c.labels.length-1))=false then (2,1)
 else if kN c.fuel 1 256=false then (2,2)
 else if kN c.lane 1 64=false then (2,3)
 else if kN c.an 0 8=false then (2,4)
 else if kN c.log 0 4096=false then (2,5)
 else if c.procs=[] then (1,6)
 else if 32<c.procs.length then (3,6)
 else nY c.labels.length c.an c.procs 0
def Gq :List UInt8->Nat
 | []=>0
 | b::r=>b.toNat+256*Gq r
structure pN where
 tick:Int
 proc:Int
 value:Int
structure ly where
 proc:Int
 value:Int
structure bq where
 values:List Int
 waiters:List ly
 taken:Int
 dropped:Int
structure ai where
 state:Int
 pc:Int
 br:List Int
 ae:Int
 timer:Int
 bF:Bool
 cn:Int
 af:List bq
structure cY where
 ae:Int
 log:List pN
 lost:Int
 forbidden:Int
 az:List Int
 al:List (List Int)
structure fz where
 tick:Int
 parts:List cY
 procs:List ai
section
variable (c:aV) (s:fz)
def EE (p:Int) (i:Nat):Prop:=0<=p/\∃y,c.procs[p.toNat]? =some y/\y.part=(i:Int)
def M7 (p:Int) (q:ai->Prop):Prop:=∃x,s.procs[p.toNat]? =some x/\q x
def uG (i:Nat):Nat:=(c.procs.filter λy=>decide (y.part=(i:Int))).length
def jB (n:Int):Prop:=0<=n/\n<=65535
def qk (y:iX) (pc:Int):Option dP:=if 0<=pc then y.code[pc.toNat]? else none
def wi (i:Nat):Int->List pN->Prop
 | _,[]=>True
 | last,e::r=>last<=e.tick/\e.tick<s.tick/\EE c e.proc i/\wi i e.tick r
def E6 (i:Nat) (x:cY):Prop:=
 (0<=x.ae/\(0<x.ae->x.ae<uG c i)/\(x.log.length:Int)<=c.log)/\wi c s i 0 x.log/\jB x.lost/\jB x.forbidden/\(0<x.lost->c.log<=x.log.length)/\
 (x.az.length:Int)=c.an/\(x.al.length:Int)=c.an/\∀p∈x.az,p≠ -1->EE c p i/\M7 s p λz=>z.state≠5/\z.state≠6
def sY (l:bq):Prop:=l.values≠ []\/0<l.taken\/0<l.dropped
def rV (fl:Nat->Int->Prop) (x:ai) (y:iX):Prop:=
 (0<=x.state/\x.state<=6)/\(0<=x.pc/\x.pc<=y.code.length)/\x.af.length=c.labels.length+1/\(0<=x.ae/\x.ae<x.af.length)/\
 (0<=x.timer/\x.timer<=s.tick+1099511627776)/\(0<=x.cn/\x.cn<=s.tick+1099511627776)/\(0<x.cn↔x.state=4)/\
 (x.state=5\/x.state=6->x.timer=0/\x.bF=false)/\
 (∀(i:Nat) l,x.af[i]? =some l->(l.values.length:Int)<=c.lane/\jB l.taken/\jB l.dropped/\(sY l->i<c.labels.length->fl i y.part))/\
 (x.state=1->(∃n,qk y x.pc=some n/\n.op=25)/\(∀l∈x.af,l.values=[])/\x.bF=false)/\
 (x.state=2->∃n,qk y x.pc=some n/\n.op=24)/\(x.state=3->∃n,qk y x.pc=some n/\n.op=29)/\(x.state=4->∃n,qk y x.pc=some n/\n.op=28)
def Lv (p:Int) (q:ai->dP->Prop):Prop:=∃x y n,s.procs[p.toNat]? =some x/\c.procs[p.toNat]? =some y/\qk y x.pc=some n/\q x n
def YQ (p v:Int) (r:Nat):Prop:=Lv c s p λx n=>x.state=2/\n.op=24/\x.br[n.b.toNat]? =some (r:Int)/\x.br[n.c.toNat]? =some v
def mq (p:Int) (x:cY):Nat:=(x.al.map λq=>q.countP (λz=>decide (z=p))).sum
def uq (p:Int) (l:bq):Nat:=l.waiters.countP λw=>decide (w.proc=p)
def mo (p:Int) (x:ai):Nat:=(x.af.map (uq p)).sum
def Jr :Prop:=
 (∀(i:Nat) x,s.parts[i]? =some x->∀(k:Nat) q,x.al[k]? =some q->∀p∈q,EE c p i/\(Lv c s p λz n=>z.state=3/\n.lL=(k:Int))/\∃o,x.az[k]? =some o/\0<=o/\o≠p)/\
 (∀(r:Nat) x y,s.procs[r]? =some x->c.procs[r]? =some y->∀(i:Nat) l,x.af[i]? =some l->∀w∈l.waiters,(i:Int)=y.part/\EE c w.proc i/\(x.state≠5/\x.state≠6)/\(l.values.length:Int)=c.lane/\YQ c s w.proc w.value r)/\
 (∀(p:Nat) x,s.procs[p]? =some x->(s.parts.map (mq (p:Int))).sum+(s.procs.map (mo (p:Int))).sum=if x.state=3\/x.state=2 then 1 else 0)
def YR :Prop:=(0<=s.tick/\s.tick<=4611686018427387904)/\s.parts.length=c.labels.length/\s.procs.length=c.procs.length
def tZ (fl:Nat->Int->Prop):Prop:=
 YR c s/\(∀(i:Nat) x,s.parts[i]? =some x->E6 c s i x)/\(∀(p:Nat) x y,s.procs[p]? =some x->c.procs[p]? =some y->rV c s fl x y)/\Jr c s
end
theorem vi {b:Type} (f:b->Nat):∀(l:List b) (i:Nat),(∀j x,l[j]? =some x->j≠i->f x=0)->(l.map f).sum=((l[i]?).map f).getD 0
 | [],i,_=>by simp
 | x::r,0,h=>by
  have:(r.map f).sum=0:=by rw [List.sum_eq_zero_iff_forall_eq_nat];intro y d;obtain ⟨z,e,rfl⟩:=List.mem_map.1 d;obtain ⟨j,a⟩:=List.getElem?_of_mem e;exact h (j+1) z (by simpa using a) (by omega)
  simp [this]
 | x::r,i+1,h=>by have c:=h 0 x rfl (by omega);have:=vi f r i λj y a g=>h (j+1) y (by simpa using a) (by omega);simp [c,this]
end Lf
namespace Lf
open Go
def cm {α:Type} (f:Nat->α) (i:Nat) (x:α):Nat->α:=λj=>if j=i then x else f j
theorem jA {a:Type} {f:Nat->a} {i:Nat} {x:a}:cm f i x i=x:=if_pos rfl
theorem jE {a:Type} {f:Nat->a} {i j:Nat} {x:a} (h:j≠i):cm f i x j=f j:=if_neg h
theorem Uq {a b:Type} (g:a->b) {f:Nat->a} {i:Nat} {x:a}:(λj=>g (cm f i x j))=cm (λj=>g (f j)) i (g x):=by funext j;unfold cm;split<;>rfl
theorem xL {a:Type} {f:Nat->a} {i:Nat}:cm f i (f i)=f:=by
 funext j;unfold cm;split
 ·rename_i h;rw [h]
 ·rfl
theorem Ks {a:Type} {f:Nat->a} {i:Nat} {x y:a}:cm (cm f i x) i y=cm f i y:=by funext j;unfold cm;split<;>rfl
structure MS where
 tick:Int
 part:Nat->cY
 proc:Nat->ai
def MS.aG (s:MS) (p:Nat) (x:ai):MS:=⟨s.tick,s.part,cm s.proc p x⟩
def MS.cX (s:MS) (i:Nat) (x:cY):MS:=⟨s.tick,cm s.part i x,s.proc⟩
def ax (c:aV) (p:Nat):Nat:=((c.procs[p]?).map λy=>y.part.toNat).getD 0
def gz (c:aV) (p:Nat):List dP:=((c.procs[p]?).map λy=>y.code).getD []
def nP (c:aV):Nat:=c.labels.length
def nQ (c:aV):Nat:=c.procs.length
def MS.list (c:aV) (s:MS):fz:=⟨s.tick,(List.range (nP c)).map s.part,(List.range (nQ c)).map s.proc⟩
def gG (l:List dP) (pc:Int):Option dP:=if 0<=pc then l[pc.toNat]? else none
def jy (r:List Int) (i v:Int):List Int:=if 0<=i/\i<8 then r.set i.toNat v else r
def ft (r:List Int) (i:Int):Int:=r.getD i.toNat 0
structure Core where
 pc:Int
 br:List Int
def ai.core (x:ai):Core:=⟨x.pc,x.br⟩
def ai.put (x:ai) (k:Core):ai:={x with pc:=k.pc,br:=k.br}
def fC (k:Core):Core:=⟨k.pc+1,k.br⟩
def j5 (l:List dP) (k:Core) (v:Int):Core:=match gG l k.pc with
 | some n=>⟨k.pc+1,jy k.br n.a v⟩
 | none=>fC k
def gh (l:List dP) (k:Core) (v from_:Int):Core:=match gG l k.pc with
 | some n=>⟨k.pc+1,jy (jy k.br n.a v) n.b from_⟩
 | none=>fC k
structure Want where
 kind:Int
 to:Int
 value:Int
def kC (x:dP) (r:List Int):Option (Want×Bool):=
 if x.op=0 then some (⟨1,0,0⟩,true)
 else if x.op=24 then some (⟨2,ft r x.b,ft r x.c⟩,true)
 else if x.op=25 then some (⟨3,0,0⟩,true)
 else if x.op=26 then some (⟨4,0,0⟩,true)
 else if x.op=27 then some (⟨5,0,ft r x.a⟩,false)
 else if x.op=28 then some (⟨6,0,ft r x.a⟩,true)
 else if x.op=29 then some (⟨7,x.lL,0⟩,true)
 else if x.op=30 then some (⟨8,x.lL,0⟩,false)
 else if x.op=31 then some (⟨9,0,ft r x.a⟩,false)
 else none
def rE (D:Int->Int->Int->Int) (x:dP) (k:Core) (tick d:Int):Core:=
 if x.op=1 then ⟨k.pc+1,jy k.br x.a x.lL⟩
 else if x.op=2 then ⟨k.pc+1,jy k.br x.a (ft k.br x.b)⟩
 else if x.op=32 then ⟨k.pc+1,jy k.br x.a tick⟩
 else if x.op=33 then ⟨k.pc+1,jy k.br x.a d⟩
 else if x.op=22 then ⟨x.lL,k.br⟩
 else if x.op=23 then if ft k.br x.a=0 then fC k else ⟨x.lL,k.br⟩
 else ⟨k.pc+1,jy k.br x.a (D x.op (ft k.br x.b) (ft k.br x.c))⟩
def gg (D:Int->Int->Int->Int) (l:List dP) (k:Core) (tick self:Int):Core×Want:=match gG l k.pc with
 | none=>(k,⟨1,0,0⟩)
 | some x=>if (nC x l.length 8).1≠0 then (k,⟨1,0,0⟩) else match kC x k.br with
  | some (w,a)=>(if a then k else fC k,w)
  | none=>(rE D x k tick self,⟨0,0,0⟩)
section
variable (c:aV) (D:Int->Int->Int->Int) (fl:Nat->Nat->Bool)
def more (n:Int):Int:=if n+1<=65535 then n+1 else 65535
def jk (x:ai):Bool:=decide (x.state≠5)&&decide (x.state≠6)
def uz (x:ai) (k:Core):ai:={x with state:=0,pc:=k.pc,br:=k.br}
def oK (s:MS) (p:Nat):MS:=s.aG p (uz (s.proc p) (fC (s.proc p).core))
def gu (s:MS) (kj:Int):MS:=if 0<=kj then oK s kj.toNat else s
def bQ (s:MS) (p:Nat) (v:Int):MS:=s.aG p (uz (s.proc p) (j5 (gz c p) (s.proc p).core v))
def dH (x:ai):ai:={x with state:=if x.state=1 then 0 else x.state}
def bz (x:ai) (i:Nat) (f:bq->bq):ai:={x with af:=x.af.modify i f}
def rn (v:Int) (l:bq):bq:={l with values:=l.values++ [v]}
def jc (l:bq):bq:={l with dropped:=more l.dropped}
def gM (p v:Int) (l:bq):bq:={l with waiters:=l.waiters++ [⟨p,v⟩]}
def ed (x:ai) (i:Nat):Bool:=match x.af[i]? with
 | some l=>decide (c.lane<=(l.values.length:Int))
 | none=>true
def iI (s:MS) (p:Nat) (to v:Int):MS:=
 if to<0\/(nQ c:Int)<=to then bQ c s p 1
 else if fl (ax c p) (ax c to.toNat)=false then bQ c (s.cX (ax c p) {s.part (ax c p) with forbidden:=more (s.part (ax c p)).forbidden}) p 0
 else if ax c p=ax c to.toNat then
  if jk (s.proc to.toNat)=false then bQ c s p 2
  else if ed c (s.proc to.toNat) (ax c p) then
   let s1:=s.aG to.toNat (bz (s.proc to.toNat) (ax c p) (gM p v))
   s1.aG p {s1.proc p with state:=2}
  else bQ c (s.aG to.toNat (dH (bz (s.proc to.toNat) (ax c p) (rn v)))) p 0
 else if jk (s.proc to.toNat)=false\/ed c (s.proc to.toNat) (ax c p) then bQ c (s.aG to.toNat (bz (s.proc to.toNat) (ax c p) jc)) p 0
 else bQ c (s.aG to.toNat (dH (bz (s.proc to.toNat) (ax c p) (rn v)))) p 0
def nZ (ae:Int) (l:List bq):Option Nat:=
 ((List.range l.length).map λk=>(ae.toNat+k)%l.length).find? λi=>match l[i]? with
  | some x=> !x.values.isEmpty
  | none=>false
def dG (l:bq):bq:=match l.waiters with
 | []=>{l with values:=l.values.tail,taken:=more l.taken}
 | w::r=>{l with values:=l.values.tail++ [w.value],waiters:=r,taken:=more l.taken}
def ir (s:MS) (p:Nat) (a:Bool):MS:=
 let x:=s.proc p
 match nZ x.ae x.af with
 | some i=>
  let l:=x.af.getD i ⟨[],[],0,0⟩;let b:={bz x i dG with ae:=((i+1:Nat):Int)%(x.af.length:Int)};let s1:=s.aG p (b.put (gh (gz c p) x.core (l.values.headD 0) i))
  match l.waiters with
  | []=>s1
  | w::_=>bQ c s1 w.proc.toNat 0
 | none=>
  if x.bF then s.aG p {x.put (gh (gz c p) x.core 0 (-2)) with bF:=false}
  else if a then s.aG p (x.put (gh (gz c p) x.core 0 (-1)))
  else s.aG p {x with state:=1}
def gX {b:Type} (f:b->Bool):List b->List b
 | []=> []
 | a::l=>if f a then l else a::gX f l
def mh (p:Int) (x:ai):ai:={x with af:=x.af.map λl=>{l with waiters:=gX (λw=>decide (w.proc=p)) l.waiters}}
def iA (p:Int):List Int->List (List Int)->List Int×List (List Int)×List Int
 | o::os,q::qs=>
  let r:=iA p os qs
  if o=p then match q with
   | []=>(-1::r.1,[]::r.2.1, -1::r.2.2)
   | a::b=>(a::r.1,b::r.2.1,a::r.2.2)
  else (o::r.1,q::r.2.1,r.2.2)
 | os,qs=>(os,qs,[])
def nX (p:Int) (x:cY):cY×List Int:=
 let r:=iA p x.az (x.al.map (gX λz=>decide (z=p)))
 ({x with az:=r.1,al:=r.2.1},r.2.2)
def kI (s:MS) (p:Nat) (st:Int):MS:=
 let i:=ax c p;let s1:=s.aG p {s.proc p with state:=st,bF:=false};let s2:MS:=⟨s1.tick,s1.part,λq=>if q<nQ c/\ax c q=i then mh p (s1.proc q) else s1.proc q⟩;let r:=nX p (s2.part i);let b:=r.2.foldl gu (s2.cX i r.1);let a:=b.aG p {b.proc p with timer:=0,cn:=0};let d:=(a.proc p).af.flatMap (·.waiters)
 d.foldl (λs w=>bQ c s w.proc.toNat 2) (a.aG p {a.proc p with af:=(a.proc p).af.map λl=>{l with waiters:=[]}})
def pI (s:MS) (p:Nat) (v:Int):MS:=
 let x:=s.part (ax c p)
 s.cX (ax c p) (if (x.log.length:Int)<c.log then {x with log:=x.log++ [⟨s.tick,p,v⟩]} else {x with lost:=more x.lost})
def ij (s:MS) (p:Nat) (n:Int):MS:=
 let x:=s.part (ax c p);let o:=x.az.getD n.toNat 0
 if o= -1\/o=p then goK (s.cX (ax c p) {x with az:=x.az.set n.toNat p}) p
 else (s.cX (ax c p) {x with al:=x.al.modify n.toNat (· ++ [(p:Int)])}).aG p {s.proc p with state:=3}
where
 goK (s:MS) (p:Nat):MS:=s.aG p ((s.proc p).put (fC (s.proc p).core))
def sL (s:MS) (p:Nat) (n:Int):MS:=
 let x:=s.part (ax c p)
 if x.az.getD n.toNat (-1)=p then match x.al.getD n.toNat [] with
  | []=>s.cX (ax c p) {x with az:=x.az.set n.toNat (-1)}
  | a::r=>gu (s.cX (ax c p) {x with az:=x.az.set n.toNat a,al:=x.al.set n.toNat r}) a
 else s
def pG (a b:Int):Int:=if a<=b then a else b
def uH (a b:Int):Int:=if a<=b then b else a
def sb (s:MS) (p:Nat):MS:=
 let r:=gg D (gz c p) (s.proc p).core s.tick p;let s1:=s.aG p ((s.proc p).put r.1);let w:=r.2
 if w.kind=1 then kI c s1 p 5
 else if w.kind=2 then iI c fl s1 p w.to w.value
 else if w.kind=3 then ir c s1 p false
 else if w.kind=4 then ir c s1 p true
 else if w.kind=5 then s1.aG p {s1.proc p with bF:=false,timer:=if 0<w.value then s.tick+pG w.value 1099511627776 else 0}
 else if w.kind=6 then s1.aG p {s1.proc p with state:=4,cn:=s.tick+pG (uH w.value 1) 1099511627776}
 else if w.kind=7 then ij c s1 p w.to
 else if w.kind=8 then sL c s1 p w.to
 else if w.kind=9 then pI c s1 p w.value
 else s1
def kX (t:Int) (x:ai):ai:=
 let y:ai:=if 0<x.cn/\x.cn<=t then {x with cn:=0,state:=0,pc:=x.pc+1} else x
 if 0<y.timer/\y.timer<=t then {y with timer:=0,bF:=true,state:=if y.state=1 then 0 else y.state} else y
def gQ (s:MS) (i:Nat):MS:=⟨s.tick,s.part,λq=>if q<nQ c/\ax c q=i then kX s.tick (s.proc q) else s.proc q⟩
def dK (i:Nat):List Nat:=(List.range (nQ c)).filter λq=>decide (ax c q=i)
def ik (s:MS) (i:Nat):Option Nat:=
 ((List.range (dK c i).length).map λk=>((s.part i).ae.toNat+k)%(dK c i).length).find? λa=>decide ((s.proc ((dK c i).getD a 0)).state=0)
def ji (s:MS) (i a:Nat):MS:=sb c D fl (s.cX i {s.part i with ae:=((a+1:Nat):Int)%((dK c i).length:Int)}) ((dK c i).getD a 0)
def kQ (i:Nat):Nat->MS->MS
 | 0,s=>s
 | n+1,s=>match ik c s i with
  | none=>s
  | some a=>kQ i n (ji c D fl s i a)
def iv (t:Int):Nat:=(c.table.getD (t.toNat%c.table.length) 0).toNat
def iJ (s:MS):MS:=
 let s1:=kQ c D fl (iv c s.tick) c.fuel.toNat (gQ c s (iv c s.tick))
 ⟨s1.tick+1,s1.part,s1.proc⟩
def pS (s:MS) (p:Int):Int:=if p<0\/(nQ c:Int)<=p then 17 else if jk (s.proc p.toNat)=false then 18 else 0
def zip (s:MS) (p v:Int):MS×Int:=
 if pS c s p≠0 then (s,pS c s p)
 else if ed c (s.proc p.toNat) (nP c) then (s.aG p.toNat (bz (s.proc p.toNat) (nP c) jc),19)
 else (s.aG p.toNat (dH (bz (s.proc p.toNat) (nP c) (rn v))),0)
def ig (s:MS) (p:Int):MS×Int:=
 if pS c s p≠0 then (s,pS c s p) else (kI c s p.toNat 6,0)
def pP :MS:=⟨0,λ_=>⟨0,[],0,0,List.replicate c.an.toNat (-1),List.replicate c.an.toNat []⟩,
 λ_=>⟨0,0,List.replicate 8 0,0,0,false,0,List.replicate (nP c+1) ⟨[],[],0,0⟩⟩⟩
end
section
variable (c:aV) (fl:Nat->Nat->Bool)
def dF (p:Nat) (x:ai):Option dP:=gG (gz c p) x.pc
def MG (T:Int) (i:Nat) (l:List pN):Prop:=
 l.Pairwise (λa b=>a.tick<=b.tick)/\∀e∈l,0<=e.tick/\e.tick<T/\0<=e.proc/\e.proc.toNat<nQ c/\ax c e.proc.toNat=i
structure uf (T:Int) (i:Nat) (x:cY):Prop where
 cur:0<=x.ae/\(0<x.ae->x.ae<(dK c i).length)
 jH:(x.log.length:Int)<=c.log
 log:MG c T i x.log
 lost:jB x.lost
 kJ:jB x.forbidden
 full:0<x.lost->c.log<=x.log.length
 gJ:(x.az.length:Int)=c.an
 iz:(x.al.length:Int)=c.an
structure cL (t:Int) (p:Nat) (z:Prop) (x:ai):Prop where
 st:0<=x.state/\x.state<=6
 pc:0<=x.pc/\x.pc<=(gz c p).length
 lr:x.af.length=nP c+1
 cur:0<=x.ae/\x.ae<x.af.length
 mG:0<=x.timer/\x.timer<=t+1099511627776
 mH:0<=x.cn/\x.cn<=t+1099511627776
 ns:z\/(0<x.cn↔x.state=4)
 dead:x.state=5\/x.state=6->(z\/x.timer=0)/\x.bF=false
 dJ:∀(i:Nat) l,x.af[i]? =some l->(l.values.length:Int)<=c.lane/\jB l.taken/\jB l.dropped/\(sY l->i<nP c->fl i (ax c p)=true)
 recv:x.state=1->(∃n,dF c p x=some n/\n.op=25)/\(∀l∈x.af,l.values=[])/\x.bF=false
 snd:x.state=2->∃n,dF c p x=some n/\n.op=24
 pD:x.state=3->∃n,dF c p x=some n/\n.op=29
 jh:x.state=4->∃n,dF c p x=some n/\n.op=28
 br:x.br.length=8
variable (s:MS) (X Z:Nat->Prop)
def pv (i k:Nat) (z:Int):Prop:=
 0<=z/\z.toNat<nQ c/\ax c z.toNat=i/\¬X z.toNat/\(Z z.toNat\/((s.proc z.toNat).state=3/\∃n,dF c z.toNat (s.proc z.toNat)=some n/\n.op=29/\n.lL=(k:Int)))
def mn (i r:Nat) (w:ly):Prop:=
 0<=w.proc/\w.proc.toNat<nQ c/\ax c w.proc.toNat=i/\¬X w.proc.toNat/\
  (Z w.proc.toNat\/((s.proc w.proc.toNat).state=2/\∃n,dF c w.proc.toNat (s.proc w.proc.toNat)=some n/\n.op=24/\ft (s.proc w.proc.toNat).br n.b=(r:Int)/\ft (s.proc w.proc.toNat).br n.c=w.value))
structure Good (T:Int):Prop where
 tick:0<=s.tick
 part:∀i,i<nP c->uf c T i (s.part i)
 proc:∀p,p<nQ c->cL c fl s.tick p (Z p) (s.proc p)
 own:∀i,i<nP c->∀(k:Nat) o,(s.part i).az[k]? =some o->o= -1\/(0<=o/\o.toNat<nQ c/\ax c o.toNat=i/\(jk (s.proc o.toNat)=true\/Z o.toNat))
 iy:∀i,i<nP c->∀(k:Nat) q,(s.part i).al[k]? =some q->q.Nodup/\(∀z∈q,pv c s X Z i k z)/\(q≠ []->∃o,(s.part i).az[k]? =some o/\o≠ -1/\o∉q)
 dJ:∀r,r<nQ c->∀(i:Nat) l,(s.proc r).af[i]? =some l->(l.waiters.map (·.proc)).Nodup/\(l.waiters≠ []->i=ax c r/\(jk (s.proc r)=true\/Z r)/\(l.values.length:Int)=c.lane)/\∀w∈l.waiters,mn c s X Z i r w
 rj:∀p,p<nQ c->¬X p->(s.proc p).state=3->∃(k:Nat) (q:List Int),(s.part (ax c p)).al[k]? =some q/\(p:Int)∈q
 ri:∀p,p<nQ c->¬X p->(s.proc p).state=2->∃r,r<nQ c/\∃l,(s.proc r).af[ax c p]? =some l/\∃w∈l.waiters,w.proc=(p:Int)
end
structure cg (c:aV):Prop where
 parts:1<=nP c/\nP c<=8
 table:c.table≠ []/\c.table.length<=64/\∀i∈c.table,0<=i/\i<(nP c:Int)
 fuel:1<=c.fuel/\c.fuel<=256
 lane:1<=c.lane/\c.lane<=64
 an:0<=c.an/\c.an<=8
 log:0<=c.log/\c.log<=4096
 procs:1<=nQ c/\nQ c<=32
 part:∀y∈c.procs,0<=y.part/\y.part<(nP c:Int)
 code:∀y∈c.procs,y.code.length<=256/\∀x∈y.code,(nC x y.code.length c.an).1=0
section
variable {c:aV} {fl:Nat->Nat->Bool} {s:MS} {X Z:Nat->Prop} {T:Int}
theorem cg.eR (m:cg c) {p:Nat}:ax c p<nP c:=by
 unfold ax;cases h:c.procs[p]? with
 | none=>simp;have:=m.parts;omega
 | some y=>have:=m.part y (List.mem_of_getElem? h);simp;omega
theorem cg.mT (m:cg c) {p:Nat}:(gz c p).length<=256:=by
 unfold gz;cases h:c.procs[p]? with
 | none=>simp
 | some y=>exact (m.code y (List.mem_of_getElem? h)).1
theorem cg.ins (m:cg c) {p:Nat} {x:ai} {n:dP} (h:dF c p x=some n):(nC n (gz c p).length c.an).1=0/\0<=x.pc/\x.pc<(gz c p).length:=by
 unfold dF gG at h;split at h
 ·rename_i b;have a:=List.mem_of_getElem? h;have d:=(List.getElem?_eq_some_iff.1 h).1;refine ⟨?_,b,by omega⟩;unfold gz at a ⊢;cases e:c.procs[p]? with
  | none=>grind
  | some y=>rw [e] at a;exact (m.code y (List.mem_of_getElem? e)).2 n a
 ·cases h
theorem cZ {x:ai}:jk x=true↔x.state≠5/\x.state≠6:=by unfold jk;simp
theorem Xv {p:Prop} [Decidable p] {e:Int} {i:Int} {r:Int×Int} (a:e≠0) (h:(if p then (e,i) else r).1=0):¬p/\r.1=0:=by grind
theorem Xy {has:Bool} {v:Int} {i:Int} {r:Int×Int} (h:(if gl has v≠0 then (gl has v,i) else r).1=0):gl has v=0/\r.1=0:=by grind
theorem Ew {v:Int} (h:gl true v=0):0<=v/\v<8:=by unfold gl at h;omega
theorem xq {n:dP} {k l:Int} (h:(nC n k l).1=0):(0<=n.op/\n.op<34)/\gl (lx n.op).1 n.a=0/\gl (lx n.op).2.1 n.b=0/\gl (lx n.op).2.2.1 n.c=0/\
  ((n.op=22\/n.op=23)->0<=n.lL/\n.lL<=k)/\((n.op=29\/n.op=30)->0<=n.lL/\n.lL<l):=by
 unfold nC at h;obtain ⟨d,h⟩:=Xv (by decide) h;obtain ⟨e,h⟩:=Xy h;grind
theorem wT {n:dP} {k l:Int} (h:(nC n k l).1=0) (a:n.op=29\/n.op=30):0<=n.lL/\n.lL<l:=(xq h).2.2.2.2.2 a
theorem PB {n:dP} {k l:Int} (h:(nC n k l).1=0) (g:n.op=24):(0<=n.a/\n.a<8)/\(0<=n.b/\n.b<8)/\(0<=n.c/\n.c<8):=by obtain ⟨_,d,e,f,_⟩:=xq h;rw [g] at d e f;exact ⟨Ew d,Ew e,Ew f⟩
end
section
variable {c:aV} {fl:Nat->Nat->Bool} {s:MS} {X Z:Nat->Prop} {T:Int} {p:Nat} {x':ai}
theorem fH {s:MS} {p:Nat} {x:ai}:(s.aG p x).proc p=x:=jA
theorem iu {s:MS} {p q:Nat} {x:ai} (h:q≠p):(s.aG p x).proc q=s.proc q:=jE h
theorem AL {s:MS} {p:Nat} {x y:ai}:(s.aG p x).aG p y=s.aG p y:=by unfold MS.aG;rw [Ks]
theorem sM {s:MS} {i:Nat} {x:cY}:(s.cX i x).part i=x:=jA
theorem tC {s:MS} {i j:Nat} {x:cY} (h:j≠i):(s.cX i x).part j=s.part j:=jE h
def Out (s:MS) (X Z:Nat->Prop) (p:Nat):Prop:=¬Z p/\(X p\/((s.proc p).state≠2/\(s.proc p).state≠3))
theorem pv.out {i k:Nat} {z:Int} (h:pv c s X Z i k z) (o:Out s X Z p):z.toNat≠p:=λe=>by
 subst e;obtain ⟨_,_,_,a,h2⟩:=h;rcases o.2 with o2 | o2
 ·exact a o2
 ·rcases h2 with h2 | h2
  ·exact o.1 h2
  ·exact o2.2 h2.1
theorem mn.out {i r:Nat} {w:ly} (h:mn c s X Z i r w) (o:Out s X Z p):w.proc.toNat≠p:=λe=>by
 subst e;obtain ⟨_,_,_,a,h2⟩:=h;rcases o.2 with o2 | o2
 ·exact a o2
 ·rcases h2 with h2 | h2
  ·exact o.1 h2
  ·exact o2.1 h2.1
theorem pv.cF {s':MS} {a:Nat->Prop} {i k:Nat} {z:Int} (h:pv c s X Z i k z) (l:a z.toNat->X z.toNat) (e:s'.proc z.toNat=s.proc z.toNat):pv c s' a Z i k z:=by obtain ⟨b,d,f,g,j⟩:=h;exact ⟨b,d,f,λh=>g (l h),by rw [e];exact j⟩
theorem mn.cF {s':MS} {a:Nat->Prop} {i r:Nat} {w:ly} (h:mn c s X Z i r w) (k:a w.proc.toNat->X w.proc.toNat) (e:s'.proc w.proc.toNat=s.proc w.proc.toNat):mn c s' a Z i r w:=by obtain ⟨b,d,f,g,j⟩:=h;exact ⟨b,d,f,λh=>g (k h),by rw [e];exact j⟩
theorem Good.run (g:Good c fl s X Z T) (o:Out s X Z p) (pm:cL c fl s.tick p (Z p) x') (A:x'.state≠2/\x'.state≠3) (v:x'.af=(s.proc p).af) (hv:jk (s.proc p)=true->jk x'=true):
  Good c fl (s.aG p x') (λq=>X q/\q≠p) Z T where
 tick:=g.tick
 part:=g.part
 proc q hq:=by
  by_cases e:q=p
  ·subst e;rw [fH];exact pm
  ·rw [iu e];exact g.proc q hq
 own i hi k ow h:=by
  rcases g.own i hi k ow h with h | ⟨n,f,j,t⟩
  ·exact .inl h
  ·refine .inr ⟨n,f,j,t.imp (λt=> ?_) id⟩;by_cases e:ow.toNat=p
   ·rw [e,fH];grind
   ·rw [iu e];exact t
 iy i hi k q h:=by obtain ⟨n,f,j⟩:=g.iy i hi k q h;exact ⟨n,λz y=>(f z y).cF (λh=>h.1) (iu ((f z y).out o)),j⟩
 dJ r u i l h:=by
  have e:((s.aG p x').proc r).af=(s.proc r).af:=by
   by_cases e:r=p
   ·subst e;rw [fH];exact v
   ·rw [iu e]
  rw [e] at h;obtain ⟨n,f,j⟩:=g.dJ r u i l h;refine ⟨n,λm=> ?_,λw m=>(j w m).cF (λh=>h.1) (iu ((j w m).out o))⟩;obtain ⟨a,b,d⟩:=f m;refine ⟨a,b.imp (λb=> ?_) id,d⟩;by_cases e:r=p
  ·subst e;rw [fH];exact hv b
  ·rw [iu e];exact b
 rj q hq hx j:=by
  by_cases e:q=p
  ·subst e;rw [fH] at j;omega
  ·rw [iu e] at j;exact g.rj q hq (λh=>hx ⟨h,e⟩) j
 ri q hq hx f:=by
  by_cases e:q=p
  ·subst e;rw [fH] at f;omega
  ·rw [iu e] at f;obtain ⟨r,u,l,x,m⟩:=g.ri q hq (λh=>hx ⟨h,e⟩) f;refine ⟨r,u,l,?_,m⟩;by_cases e:r=p
   ·subst e;rw [fH,v];exact x
   ·rw [iu e];exact x
theorem Good.af {X':Nat->Prop} (g:Good c fl s X Z T) (pm:cL c fl s.tick p (Z p) x') (c1:x'.state=(s.proc p).state\/((s.proc p).state=1/\x'.state=0)) (b8:x'.pc=(s.proc p).pc) (hr:x'.br=(s.proc p).br)
  (hl:x'.af.length=(s.proc p).af.length) (Q:∀(i:Nat) l o,(s.proc p).af[i]? =some l->x'.af[i]? =some o->o.waiters.Sublist l.waiters/\(o.waiters≠ []->(o.values.length:Int)=c.lane)/\∀w∈l.waiters,w∈o.waiters\/X' w.proc.toNat)
  (hp:p<nQ c) (S:∀q,X q->X' q) (K:∀q,X' q->X q\/(¬Z q/\∃(i:Nat) (l o:bq) (w:ly),(s.proc p).af[i]? =some l/\x'.af[i]? =some o/\w∈l.waiters/\w.proc∉o.waiters.map (·.proc)/\w.proc=(q:Int))):
  Good c fl (s.aG p x') X' Z T:=by
 have I:∀q,((s.aG p x').proc q).pc=(s.proc q).pc/\((s.aG p x').proc q).br=(s.proc q).br/\(((s.aG p x').proc q).state=(s.proc q).state\/((s.proc q).state=1/\((s.aG p x').proc q).state=0)):=λq=>by
  by_cases e:q=p
  ·subst e;rw [fH];grind
  ·rw [iu e];simp
 have a8:∀q,jk (s.proc q)=true->jk ((s.aG p x').proc q)=true:=λq h=>by rw [cZ] at h ⊢;grind
 have c2:∀q n,n=2\/n=3->(s.proc q).state=n->((s.aG p x').proc q).state=n:=λq n hn h=>by grind
 have b6:∀q,dF c q ((s.aG p x').proc q)=dF c q (s.proc q):=λq=>by unfold dF;rw [(I q).1]
 have b0:∀ {i k z},pv c s X Z i k z->¬X' z.toNat:=λ{i k z} h m=>by
  obtain ⟨t,d,f,B,F⟩:=h;rcases K _ m with C | ⟨E,j,l,o,w,A,N,x,O,P⟩
  ·exact B C
  ·obtain ⟨_,_,L⟩:=g.dJ p hp j l A;obtain ⟨_,_,_,_,b4⟩:=L w x;grind
 have b7:∀ {i r w},r≠p->mn c s X Z i r w->¬X' w.proc.toNat:=λ{i r w} c0 h m=>by
  obtain ⟨t,d,f,B,F⟩:=h;rcases K _ m with C | ⟨E,j,l,o,M,A,N,x,O,P⟩
  ·exact B C
  ·obtain ⟨_,_,L⟩:=g.dJ p hp j l A;obtain ⟨_,_,_,_,b4⟩:=L M x;grind
 have Y:∀ {i r w},mn c s X Z i r w->¬X' w.proc.toNat->mn c (s.aG p x') X' Z i r w:=λ{i r w} h m=>by obtain ⟨t,d,f,B,F⟩:=h;refine ⟨t,d,f,m,F.imp id λF=> ?_⟩;grind
 refine ⟨g.tick,g.part,λq v=> ?_,λi u k ow h=> ?_,λi u k q h=> ?_,λr y i l h=> ?_,λq v m f=> ?_,λq v m d=> ?_⟩
 ·by_cases e:q=p
  ·subst e;rw [fH];exact pm
  ·rw [iu e];exact g.proc q v
 ·rcases g.own i u k ow h with h | ⟨t,d,f,B⟩
  ·exact .inl h
  grind
 ·obtain ⟨t,d,f⟩:=g.iy i u k q h;refine ⟨t,λz E=> ?_,f⟩;have v:=b0 (d z E);obtain ⟨a1,a2,a3,a4,a5⟩:=d z E;refine ⟨a1,a2,a3,v,a5.imp id λa5=> ?_⟩;grind
 ·by_cases e:r=p
  ·subst e;rw [fH] at h ⊢;have u:i<(s.proc r).af.length:=by grind
   have G:(s.proc r).af[i]? =some ((s.proc r).af[i]):=List.getElem?_eq_getElem u;generalize (s.proc r).af[i]=U at G;obtain ⟨t,d,f⟩:=g.dJ r y i U G;obtain ⟨V,w2,w3⟩:=Q i U l G h;refine ⟨t.sublist (V.map _),λa9=> ?_,λw J=> ?_⟩
   ·obtain ⟨a,b,_⟩:=d λe=>by grind
    refine ⟨a,b.imp (λb=> ?_) id,w2 a9⟩;have:=a8 r b;rw [fH] at this;exact this
   ·have D:=V.subset J;refine Y (f w D) λm=> ?_;rcases K _ m with C | ⟨E,j,l1,o,M,A,N,x,O,P⟩
    ·exact (f w D).2.2.2.1 C
    · -- the same lane
     obtain ⟨b1,W,b3⟩:=g.dJ r y j l1 A;have hj:j=ax c r:=(W λe=>by rw [e] at x;cases x).1;have b5:i=ax c r:=(d λe=>by rw [e] at D;cases D).1;have e7:M.proc=w.proc:=by have:=(f w D).1;omega
     grind
  ·rw [iu e] at h ⊢;obtain ⟨t,d,f⟩:=g.dJ r y i l h;grind
 ·have:=(I q).2.2;exact g.rj q v (λh=>m (S q h)) (by omega)
 ·have:=(I q).2.2;obtain ⟨r,y,l,H,w,J,R⟩:=g.ri q v (λh=>m (S q h)) (by omega);by_cases e:r=p
  ·subst e;have u:ax c q<x'.af.length:=by rw [hl];exact (List.getElem?_eq_some_iff.1 H).1
   obtain ⟨_,_,w3⟩:=Q _ l _ H (List.getElem?_eq_getElem u);refine ⟨r,y,x'.af[ax c q],by rw [fH];exact List.getElem?_eq_getElem u,w,?_,R⟩;grind
  ·exact ⟨r,y,l,by rw [iu e];exact H,w,J,R⟩
theorem Good.parts {i:Nat} {y:cY} (g:Good c fl s X Z T) (pm:uf c T i y) (d:y.az=(s.part i).az) (l:y.al=(s.part i).al):Good c fl (s.cX i y) X Z T:=by
 have f:∀j,((s.cX i y).part j).az=(s.part j).az:=λj=>by
  by_cases e:j=i
  ·subst e;rw [sM,d]
  ·rw [tC e]
 have m:∀j,((s.cX i y).part j).al=(s.part j).al:=λj=>by
  by_cases e:j=i
  ·subst e;rw [sM,l]
  ·rw [tC e]
 refine ⟨g.tick,λj a=> ?_,g.proc,λj a k o h=>g.own j a k o (by grind),λj a k q h=> ?_,g.dJ,λq n r b=> ?_,g.ri⟩
 ·by_cases e:j=i
  ·subst e;rw [sM];exact pm
  ·rw [tC e];exact g.part j a
 ·rw [f];exact g.iy j a k q (by grind)
 ·rw [m];exact g.rj q n r b
end
section
variable {c:aV} {fl:Nat->Nat->Bool} {s:MS} {X Z:Nat->Prop} {T:Int} {p:Nat} {x:ai} {t:Int} {z:Prop}
theorem Good.congr {a:Nat->Prop} (g:Good c fl s X Z T) (h:∀q,X q↔a q):Good c fl s a Z T:=by have:X=a:=funext λq=>propext (h q);grind
theorem il {r:List Int} {i v:Int}:(jy r i v).length=r.length:=by unfold jy;split<;>simp
theorem vj {n:Int} (h:jB n):jB (more n):=by unfold jB more at*;split<;>omega
theorem Ur {l:List dP} {k:Core} {v:Int} (h:∃n,gG l k.pc=some n):(j5 l k v).pc=k.pc+1/\(j5 l k v).br.length=k.br.length:=by obtain ⟨n,a⟩:=h;unfold j5;rw [a];exact ⟨rfl,il⟩
theorem Ut {l:List dP} {k:Core} {v w:Int} (h:∃n,gG l k.pc=some n):(gh l k v w).pc=k.pc+1/\(gh l k v w).br.length=k.br.length:=by obtain ⟨n,a⟩:=h;unfold gh;rw [a];exact ⟨rfl,by simp [il]⟩
theorem cL.go (pm:cL c fl t p z x) (b:x.state≠4) {k:Core} (d:0<=k.pc/\k.pc<=(gz c p).length) (e:k.br.length=8):cL c fl t p z (uz x k) where
 st:=by show (0:Int)<=0/\(0:Int)<=6;omega
 pc:=d
 lr:=pm.lr
 cur:=pm.cur
 mG:=pm.mG
 mH:=pm.mH
 ns:=pm.ns.imp id λh=>⟨λa=>absurd (h.1 a) b,λa=>by have:(0:Int)=4:=a;omega⟩
 dead:=λh=>by have:(0:Int)=5\/(0:Int)=6:=h;omega
 dJ:=pm.dJ
 recv:=λh=>by have:(0:Int)=1:=h;omega
 snd:=λh=>by have:(0:Int)=2:=h;omega
 pD:=λh=>by have:(0:Int)=3:=h;omega
 jh:=λh=>by have:(0:Int)=4:=h;omega
 br:=e
theorem cL.put (pm:cL c fl t p z x) (a:x.state=0) {k:Core} (b:0<=k.pc/\k.pc<=(gz c p).length) (d:k.br.length=8):cL c fl t p z (x.put k):=by
 have:=pm.go (by omega) b d;have e:x.put k=uz x k:=by unfold ai.put uz;rw [<-a]
 rw [e];exact this
theorem AU {n:dP} (h:dF c p x=some n):0<=x.pc/\x.pc<(gz c p).length:=by unfold dF gG at h;grind
theorem Good.told (g:Good c fl s X Z T) (hp:p<nQ c) (o:Out s X Z p) (e:(s.proc p).state≠4) (a:∃n,dF c p (s.proc p)=some n) (v:Int):Good c fl (bQ c s p v) (λq=>X q/\q≠p) Z T:=by have pm:=g.proc p hp;have d:=Ur (l:=gz c p) (k:=(s.proc p).core) (v:=v) a;have h:0<=(s.proc p).pc/\(s.proc p).pc<(gz c p).length:=a.elim λn f=>AU f;have b:(j5 (gz c p) (s.proc p).core v).pc=(s.proc p).pc+1:=d.1;refine g.run o (pm.go e ⟨by rw [b];omega,by rw [b];omega⟩ (d.2.trans pm.br)) ⟨by show (0:Int)≠2;omega,by show (0:Int)≠3;omega⟩ rfl λ_=>rfl
theorem Good.MY (g:Good c fl s X Z T) (hp:p<nQ c) (o:Out s X Z p) (a:(s.proc p).state≠4) (b:∃n,dF c p (s.proc p)=some n):Good c fl (oK s p) (λq=>X q/\q≠p) Z T:=by have pm:=g.proc p hp;have e:0<=(s.proc p).pc/\(s.proc p).pc<(gz c p).length:=b.elim λn d=>AU d;refine g.run o (pm.go a ⟨by show 0<=(s.proc p).pc+1;omega,by show (s.proc p).pc+1<=_;omega⟩ pm.br) ⟨by show (0:Int)≠2;omega,by show (0:Int)≠3;omega⟩ rfl λ_=>rfl
theorem cL.lane (pm:cL c fl t p z x) {i:Nat} {f:bq->bq} (r:∀l,x.af[i]? =some l->((f l).values.length:Int)<=c.lane/\jB (f l).taken/\jB (f l).dropped/\(sY (f l)->i<nP c->fl i (ax c p)=true)) (o:x.state=1->∀l,l.values=[]->(f l).values=[]):
  cL c fl t p z (bz x i f) where
 st:=pm.st
 pc:=pm.pc
 lr:=by show (x.af.modify i f).length=_;rw [List.length_modify];exact pm.lr
 cur:=by show 0<=x.ae/\x.ae<((x.af.modify i f).length:Int);rw [List.length_modify];exact pm.cur
 mG:=pm.mG
 mH:=pm.mH
 ns:=pm.ns
 dead:=pm.dead
 dJ:=λj l h=>by
  have h:(x.af.modify i f)[j]? =some l:=h;rw [List.getElem?_modify] at h;cases e:x.af[j]? with
  | none=>grind
  | some k=>
   rw [e] at h;by_cases m:i=j
   ·grind
   ·simp [m] at h;subst h;exact pm.dJ j k e
 recv:=λh=>by
  obtain ⟨a,b,d⟩:=pm.recv h;refine ⟨a,λl q=> ?_,d⟩;obtain ⟨j,g⟩:=List.getElem?_of_mem (show l∈x.af.modify i f from q);rw [List.getElem?_modify] at g;cases e:x.af[j]? with
  | none=>grind
  | some k=>
   rw [e] at g;have n:=b k (List.mem_of_getElem? e);by_cases m:i=j
   ·simp [m] at g;rw [<-g];exact o h k n
   grind
 snd:=pm.snd
 pD:=pm.pD
 jh:=pm.jh
 br:=pm.br
theorem cL.cn (pm:cL c fl t p z x):cL c fl t p z (dH x):=by
 by_cases h:x.state=1
 ·have:dH x=uz x x.core:=by unfold dH uz ai.core;rw [if_pos h]
  rw [this];exact pm.go (by omega) pm.pc pm.br
 ·have:dH x=x:=by unfold dH;rw [if_neg h]
  grind
theorem Good.lane (g:Good c fl s X Z T) (hp:p<nQ c) {i:Nat} {f:bq->bq} (b:∀l,(s.proc p).af[i]? =some l->((f l).values.length:Int)<=c.lane/\jB (f l).taken/\jB (f l).dropped/\(sY (f l)->i<nP c->fl i (ax c p)=true))
  (w:∀l,(s.proc p).af[i]? =some l->(f l).waiters=l.waiters/\(l.waiters≠ []->(f l).values.length=l.values.length)) (a:Bool) (n:a=false->∀l,l.values=[]->(f l).values=[]):
  Good c fl (s.aG p (if a then dH (bz (s.proc p) i f) else bz (s.proc p) i f)) X Z T:=by
 have pm:=g.proc p hp;have r:cL c fl s.tick p (Z p) (if a then dH (bz (s.proc p) i f) else bz (s.proc p) i f):=by
  cases a with
  | false=>exact pm.lane b λ_=>n rfl
  | true=>
   by_cases h:(s.proc p).state=1
   ·have u:cL c fl s.tick p (Z p) (uz (s.proc p) (s.proc p).core):=pm.go (by omega) pm.pc pm.br;have:=u.lane (i:=i) (f:=f) b λh=>by have:(0:Int)=1:=h;omega
    have e:dH (bz (s.proc p) i f)=bz (uz (s.proc p) (s.proc p).core) i f:=by unfold dH bz uz ai.core;simp [h]
    grind
   ·exact (pm.lane b λm=>absurd m h).cn
 have o:(if a then dH (bz (s.proc p) i f) else bz (s.proc p) i f).af=(s.proc p).af.modify i f:=by cases a<;>rfl
 refine g.af r ?_ (by cases a<;>rfl) (by cases a<;>rfl) (by grind) (λj l y d k=> ?_) hp (λ_ h=>h) λq h=>.inl h
 ·cases a with
  | false=>exact .inl rfl
  | true=>
   by_cases h:(s.proc p).state=1
   ·refine .inr ⟨h,?_⟩;show (if (s.proc p).state=1 then (0:Int) else (s.proc p).state)=0;rw [if_pos h]
   ·refine .inl ?_;show (if (s.proc p).state=1 then (0:Int) else (s.proc p).state)=_;rw [if_neg h]
 ·rw [o,List.getElem?_modify,d] at k;obtain ⟨_,v,_⟩:=g.dJ p hp j l d;grind
theorem DV {D:Int->Int->Int->Int} {l:List dP} {k:Core} {tk self:Int}:((gg D l k tk self).2.kind=1/\(gg D l k tk self).1=k)\/(∃n,gG l k.pc=some n/\(nC n l.length 8).1=0/\
  ((kC n k.br=none/\gg D l k tk self=(rE D n k tk self,⟨0,0,0⟩))\/∃w a,kC n k.br=some (w,a)/\gg D l k tk self=(if a then k else fC k,w))):=by
 unfold gg;grind
theorem Ky {n:dP} {r:List Int} {w:Want} {st:Bool} (h:kC n r=some (w,st)):
  (w.kind=1/\st=true)\/(n.op=24/\w=⟨2,ft r n.b,ft r n.c⟩/\st=true)\/(n.op=25/\w.kind=3/\st=true)\/(n.op=26/\w.kind=4/\st=true)\/(w.kind=5/\st=false)\/(n.op=28/\w.kind=6/\st=true)\/
   (n.op=29/\w.kind=7/\w.to=n.lL/\st=true)\/(n.op=30/\w.kind=8/\w.to=n.lL/\st=false)\/(w.kind=9/\st=false):=by
 unfold kC at h;split at h
 ·cases h;exact .inl ⟨rfl,rfl⟩
 split at h
 ·rename_i e;cases h;exact .inr (.inl ⟨e,rfl,rfl⟩)
 split at h
 ·rename_i e;cases h;exact .inr (.inr (.inl ⟨e,rfl,rfl⟩))
 split at h
 ·rename_i e;cases h;exact .inr (.inr (.inr (.inl ⟨e,rfl,rfl⟩)))
 split at h
 ·rename_i e;cases h;exact .inr (.inr (.inr (.inr (.inl ⟨rfl,rfl⟩))))
 split at h
 ·rename_i e;cases h;exact .inr (.inr (.inr (.inr (.inr (.inl ⟨e,rfl,rfl⟩)))))
 grind
theorem Kz {D:Int->Int->Int->Int} {l:List dP} {k:Core} {tk self:Int} {n:dP} (b:gG l k.pc=some n) (d:(nC n l.length 8).1=0) (a:k.br.length=8):
  (0<=(rE D n k tk self).pc/\(rE D n k tk self).pc<=l.length)/\(rE D n k tk self).br.length=8:=by
 have g:0<=k.pc/\k.pc<l.length:=AU (c:=⟨[],[],0,0,0,0,[⟨0,l⟩]⟩) (p:=0) (x:=⟨0,k.pc,[],0,0,false,0,[]⟩) b;have f:=(xq d).2.2.2.2.1;unfold rE;split
 ·exact ⟨⟨by grind,by show k.pc+1<=_;omega⟩,il.trans a⟩
 split
 ·exact ⟨⟨by show 0<=k.pc+1;omega,by show k.pc+1<=_;omega⟩,il.trans a⟩
 split
 ·exact ⟨⟨by show 0<=k.pc+1;omega,by show k.pc+1<=_;omega⟩,il.trans a⟩
 split
 ·exact ⟨⟨by show 0<=k.pc+1;omega,by show k.pc+1<=_;omega⟩,il.trans a⟩
 split
 ·grind
 split
 ·rename_i e;split
  ·exact ⟨⟨by show 0<=k.pc+1;omega,by show k.pc+1<=_;omega⟩,a⟩
  grind
 ·exact ⟨⟨by grind,by show k.pc+1<=_;omega⟩,il.trans a⟩
end
def lQ (p:Int) (s:MS) (l:List Nat):MS:=⟨s.tick,s.part,λq=>if q∈l then mh p (s.proc q) else s.proc q⟩
def No :Nat->Prop:=λ_=>False
section
variable {c:aV} {fl:Nat->Nat->Bool} {s:MS} {T:Int} {p:Nat} {x:ai} {t:Int} {z:Prop}
theorem wa (h:(s.proc p).state≠2/\(s.proc p).state≠3) {X:Nat->Prop}:Out s X No p:=⟨λh=>h,.inr h⟩
theorem we (g:Good c fl s (λq=>No q/\q≠p) No T):Good c fl s No No T:=g.congr λ_=>⟨λh=>h.1,λh=>h.elim⟩
theorem Good.wD {X Z:Nat->Prop} (g:Good c fl s X Z T) {q i:Nat} (a:q<nQ c) (b:i<=nP c):∃l,(s.proc q).af[i]? =some l:=by have:=(g.proc q a).lr;exact ⟨_,List.getElem?_eq_getElem (by omega)⟩
theorem cL.wait (pm:cL c fl t p z x) (e:x.state=0) {m:Int} (f:m=2\/m=3) {n:dP} (a:dF c p x=some n) (b:(m=2->n.op=24)/\(m=3->n.op=29)):cL c fl t p z {x with state:=m} where
 st:=by grind
 pc:=pm.pc
 lr:=pm.lr
 cur:=pm.cur
 mG:=pm.mG
 mH:=pm.mH
 ns:=pm.ns.imp id λh=>⟨λd=>by grind,λd=>by grind⟩
 dead:=λh=>by grind
 dJ:=pm.dJ
 recv:=λh=>by grind
 snd:=λh=>⟨n,a,b.1 h⟩
 pD:=λh=>⟨n,a,b.2 h⟩
 jh:=λh=>by grind
 br:=pm.br
theorem Dl {d:Type} {l:List d} {i j:Nat} {f:d->d} {a:d} (h:(l.modify i f)[j]? =some a):∃b,l[j]? =some b/\((i=j/\a=f b)\/(i≠j/\a=b)):=by grind
theorem vk {a:Type} {l:List a} {i:Nat} {f:a->a} {b:a} (h:l[i]? =some b):(l.modify i f)[i]? =some (f b):=by grind
theorem DW {a:Type} {l:List a} {i j:Nat} {f:a->a} (h:i≠j):(l.modify i f)[j]? =l[j]?:=by grind
def jj (c:aV) (s:MS) (p q:Nat) (v:Int):MS:=(s.aG q (bz (s.proc q) (ax c p) (gM p v))).aG p {(s.aG q (bz (s.proc q) (ax c p) (gM p v))).proc p with state:=2}
theorem PE {q:Nat} {v:Int} (r:Nat):(jj c s p q v).proc r={(if r=q then bz (s.proc q) (ax c p) (gM p v) else s.proc r) with state:=if r=p then 2 else (s.proc r).state}:=by
 unfold jj;by_cases b:r=p
 ·subst b;rw [fH,if_pos rfl];by_cases a:r=q
  ·subst a;rw [fH,if_pos rfl]
  ·rw [iu a,if_neg a]
 ·rw [iu b,if_neg b];by_cases a:r=q
  ·subst a;rw [fH,if_pos rfl];rfl
  ·rw [iu a,if_neg a]
theorem Good.wait (m:cg c) (g:Good c fl s No No T) {q:Nat} {v:Int} {n:dP} (hp:p<nQ c) (M:q<nQ c) (h0:(s.proc p).state=0) (hn:dF c p (s.proc p)=some n) (ho:n.op=24) (hb:ft (s.proc p).br n.b=(q:Int)) (hc:ft (s.proc p).br n.c=v)
  (b4:ax c p=ax c q) (hv:jk (s.proc q)=true) (Y:∀l,(s.proc q).af[ax c p]? =some l->(l.values.length:Int)=c.lane):Good c fl (jj c s p q v) No No T:=by
 have H:Out s No No p:=wa ⟨by omega,by omega⟩;have A:=PE (c:=c) (s:=s) (p:=p) (q:=q) (v:=v);have b0:∀r,((jj c s p q v).proc r).pc=(s.proc r).pc/\((jj c s p q v).proc r).br=(s.proc r).br:=λr=>by
  rw [A];by_cases e:r=q
  ·subst e;rw [if_pos rfl];exact ⟨rfl,rfl⟩
  grind
 have O:∀r,r≠p->((jj c s p q v).proc r).state=(s.proc r).state:=λr e=>by grind
 have b6:((jj c s p q v).proc p).state=2:=by grind
 have a9:∀r,r≠q->((jj c s p q v).proc r).af=(s.proc r).af:=λr e=>by rw [A,if_neg e]
 have G:((jj c s p q v).proc q).af=(s.proc q).af.modify (ax c p) (gM p v):=by rw [A,if_pos rfl];rfl
 have Z:∀r,dF c r ((jj c s p q v).proc r)=dF c r (s.proc r):=λr=>by unfold dF;rw [(b0 r).1]
 have a8:∀r,jk (s.proc r)=true->jk ((jj c s p q v).proc r)=true:=λr h=>by rw [cZ] at h ⊢;grind
 have V:∀ {i r w},mn c s No No i r w->mn c (jj c s p q v) No No i r w:=λ{i r w} h=>by have C:=h.out H;obtain ⟨a1,a2,a3,a4,a5⟩:=h;refine ⟨a1,a2,a3,a4,?_⟩;grind
 have b5:mn c (jj c s p q v) No No (ax c p) q ⟨(p:Int),v⟩:=by refine ⟨by show (0:Int)<=(p:Int);omega,hp,rfl,λh=>h,.inr ?_⟩;grind
 refine ⟨g.tick,g.part,λr d=> ?_,λi F k ow h=> ?_,λi F k l h=> ?_,λr d i l h=> ?_,λr d _ u=> ?_,λr d _ j=> ?_⟩
 ·have pm:=g.proc r d;have R:cL c fl s.tick r (No r) (if r=q then bz (s.proc q) (ax c p) (gM p v) else s.proc r):=by
   by_cases e:r=q
   ·subst e;rw [if_pos rfl];exact pm.lane (λl f=>pm.dJ _ l f) λ_ l f=>f
   grind
  have B:(if r=q then bz (s.proc q) (ax c p) (gM p v) else s.proc r).state=(s.proc r).state:=by
   by_cases e:r=q
   ·subst e;rw [if_pos rfl];rfl
   ·rw [if_neg e]
  rw [A];by_cases e:r=p
  ·rw [if_pos e];refine R.wait (n:=n) (by grind) (.inl rfl) ?_ ⟨λ_=>ho,λh=>by omega⟩;have:=Z r;rw [A] at this;rw [e] at this ⊢;rw [<-hn];exact this
  ·rw [if_neg e,<-B];exact R
 ·rcases g.own i F k ow h with h | ⟨L,j,u,h4⟩
  ·exact .inl h
  grind
 ·obtain ⟨L,j,u⟩:=g.iy i F k l h;refine ⟨L,λy Q=> ?_,u⟩;have C:=(j y Q).out H;obtain ⟨a1,a2,a3,a4,a5⟩:=j y Q;refine ⟨a1,a2,a3,a4,?_⟩;grind
 ·by_cases e:r=q
  ·subst e;rw [G] at h;obtain ⟨D,B,X⟩:=Dl h;obtain ⟨J,S,E⟩:=g.dJ r d i D B;rcases X with ⟨K,o⟩ | ⟨K,o⟩
   ·subst K;subst o;refine ⟨?_,λ_=>⟨b4,.inl (a8 r hv),Y D B⟩,λw hw=> ?_⟩
    ·show ((D.waiters++ [(⟨(p:Int),v⟩:ly)]).map (·.proc)).Nodup;rw [List.map_append,List.nodup_append];refine ⟨J,by simp,λa W b hb=> ?_⟩;obtain ⟨w,hw,rfl⟩:=List.mem_map.1 W;have C:=(E w hw).out H;have:b=(p:Int):=by simpa using hb
     rw [this];intro e;rw [e] at C;exact C rfl
    ·rcases List.mem_append.1 (show w∈D.waiters++ [⟨(p:Int),v⟩] from hw) with hw | hw
     ·exact V (E w hw)
     ·rw [List.mem_singleton.1 hw];exact b5
   grind
  ·rw [a9 r e] at h;obtain ⟨J,S,E⟩:=g.dJ r d i l h;grind
 ·have e:r≠p:=λe=>by grind
  rw [O r e] at u;exact g.rj r d (λh=>h) u
 ·by_cases e:r=p
  ·subst e;obtain ⟨l,f⟩:=g.wD (c:=c) (i:=ax c r) M (Nat.le_of_lt m.eR);exact ⟨q,M,gM r v l,by grind,⟨(r:Int),v⟩,by show _∈l.waiters++ [(⟨(r:Int),v⟩:ly)];simp,rfl⟩
  ·rw [O r e] at j;obtain ⟨I,N,l,f,w,hw,P⟩:=g.ri r d (λh=>h) j;by_cases U:I=q
   ·subst U;by_cases o:ax c p=ax c r
    ·exact ⟨I,N,gM p v l,by rw [G,o];exact vk f,w,by show w∈l.waiters++ [_];exact List.mem_append_left _ hw,P⟩
    ·exact ⟨I,N,l,by rw [G,DW o];exact f,w,hw,P⟩
   grind
end
theorem fD {c:aV} {i q:Nat}:q∈dK c i↔q<nQ c/\ax c q=i:=by unfold dK;simp
theorem KA {c:aV} {i:Nat}:(dK c i).Nodup:=(List.Pairwise.filter _ List.nodup_range)
def se (l:bq):bq:={l with waiters:=[]}
def fL (s:MS) (p:Nat) (st:Int):MS:=s.aG p {s.proc p with state:=st,bF:=false}
def dV (c:aV) (s:MS) (p:Nat) (st:Int):MS:=lQ p (fL s p st) (dK c (ax c p))
def pB (c:aV) (s:MS) (p:Nat):MS:=s.cX (ax c p) (nX p (s.part (ax c p))).1
def iT (c:aV) (s:MS) (p:Nat):MS:=(nX p (s.part (ax c p))).2.foldl gu (pB c s p)
def gR (s:MS) (p:Nat):MS:=s.aG p {s.proc p with timer:=0,cn:=0}
def iU (s:MS) (p:Nat):MS:=s.aG p {s.proc p with af:=(s.proc p).af.map se}
def qc (c:aV) (s:MS) (p:Nat):MS:=((s.proc p).af.flatMap (·.waiters)).foldl (λs w=>bQ c s w.proc.toNat 2) (iU s p)
theorem yf {c:aV} {s:MS} {p:Nat} {st:Int}:kI c s p st=qc c (gR (iT c (dV c s p st) p) p) p:=by
 have e:(⟨(fL s p st).tick,(fL s p st).part,λq=>if q<nQ c/\ax c q=ax c p then mh p ((fL s p st).proc q) else (fL s p st).proc q⟩:MS)=dV c s p st:=by
  unfold dV lQ;congr 1;funext q;by_cases h:q<nQ c/\ax c q=ax c p
  ·rw [if_pos h,if_pos (fD.2 h)]
  ·rw [if_neg h,if_neg λb=>h (fD.1 b)]
 have a:kI c s p st=(let s2:MS:=⟨(fL s p st).tick,(fL s p st).part,λq=>if q<nQ c/\ax c q=ax c p then mh p ((fL s p st).proc q) else (fL s p st).proc q⟩;qc c (gR (iT c s2 p) p) p):=rfl;rw [a,e]
section
variable {c:aV} {fl:Nat->Nat->Bool} {s:MS} {T:Int} {p:Nat}
theorem Uv {q r:Nat} {y:ai} (h:y.state=(s.proc q).state\/((s.proc q).state=1/\y.state=0)):((s.aG q y).proc r).state=(s.proc r).state\/((s.proc r).state=1/\((s.aG q y).proc r).state=0):=by
 by_cases e:r=q
 ·subst e;rw [fH];exact h
 ·rw [iu e];exact .inl rfl
theorem aaE {x:ai}:(dH x).state=x.state\/(x.state=1/\(dH x).state=0):=by
 unfold dH;by_cases h:x.state=1
 ·right;exact ⟨h,if_pos h⟩
 ·left;exact if_neg h
theorem XB {q r:Nat} {y:ai} (e:y.pc=(s.proc q).pc):((s.aG q y).proc r).pc=(s.proc r).pc:=by
 by_cases h:r=q
 ·subst h;rw [fH,e]
 ·rw [iu h]
theorem GH {q r:Nat} {y:ai} (e:y.pc=(s.proc q).pc):dF c r ((s.aG q y).proc r)=dF c r (s.proc r):=by unfold dF;rw [XB e]
theorem Good.wM (g:Good c fl s No No T) (hp:p<nQ c) (b:(s.proc p).state=0) (a:∃n,dF c p (s.proc p)=some n) (v:Int):Good c fl (bQ c s p v) No No T:=
 we (g.told hp (wa ⟨by omega,by omega⟩) (by omega) a v)
theorem Good.send (m:cg c) (g:Good c fl s No No T) {to v:Int} {n:dP} (hp:p<nQ c) (q:(s.proc p).state=0) (x:dF c p (s.proc p)=some n) (L:n.op=24) (hb:ft (s.proc p).br n.b=to) (G:ft (s.proc p).br n.c=v):Good c fl (iI c fl s p to v) No No T:=by
 unfold iI;have I:=m.eR (p:=p);by_cases B:to<0\/(nQ c:Int)<=to
 ·rw [if_pos B];exact g.wM hp q ⟨n,x⟩ 1
 rw [if_neg B];have z:to.toNat<nQ c:=by omega
 have F:((to.toNat:Nat):Int)=to:=by omega
 by_cases t:fl (ax c p) (ax c to.toNat)=false
 ·rw [if_pos t];have pm:=g.part _ I;have A:=g.parts (i:=ax c p) (y:={s.part (ax c p) with forbidden:=more (s.part (ax c p)).forbidden}) ⟨pm.cur,pm.jH,pm.log,pm.lost,vj pm.kJ,pm.full,pm.gJ,pm.iz⟩ rfl rfl;exact A.wM hp q ⟨n,x⟩ 0
 rw [if_neg t];have H:fl (ax c p) (ax c to.toNat)=true:=by cases e:fl (ax c p) (ax c to.toNat)<;>simp [e] at t ⊢
 have lane:∀(f:bq->bq) (d:Bool),(∀l,(s.proc to.toNat).af[ax c p]? =some l->((f l).values.length:Int)<=c.lane/\jB (f l).taken/\jB (f l).dropped)->
   (∀l,(s.proc to.toNat).af[ax c p]? =some l->(f l).waiters=l.waiters/\(l.waiters≠ []->(f l).values.length=l.values.length))->(d=false->∀l,l.values=[]->(f l).values=[])->
   Good c fl (bQ c (s.aG to.toNat (if d then dH (bz (s.proc to.toNat) (ax c p) f) else bz (s.proc to.toNat) (ax c p) f)) p 0) No No T:=by
  intro f d k M u;have A:=g.lane z (i:=ax c p) (f:=f) (λl a=>⟨(k l a).1,(k l a).2.1,(k l a).2.2,λ_ _=>H⟩) M d u;have E:(if d then dH (bz (s.proc to.toNat) (ax c p) f) else bz (s.proc to.toNat) (ax c p) f).pc=(s.proc to.toNat).pc:=by cases d<;>rfl
  refine A.wM hp ?_ ⟨n,?_⟩ 0
  ·have:(if d then dH (bz (s.proc to.toNat) (ax c p) f) else bz (s.proc to.toNat) (ax c p) f).state=(s.proc to.toNat).state\/((s.proc to.toNat).state=1/\(if d then dH (bz (s.proc to.toNat) (ax c p) f) else bz (s.proc to.toNat) (ax c p) f).state=0):=by
    cases d
    ·exact .inl rfl
    ·exact aaE
   rcases Uv (r:=p) this with h | h
   ·rw [h];exact q
   ·exact h.2
  ·rw [GH E];exact x
 have w:∀l,(s.proc to.toNat).af[ax c p]? =some l->(l.values.length:Int)<=c.lane/\jB l.taken/\jB l.dropped:=λl a=>by have:=(g.proc _ z).dJ _ l a;exact ⟨this.1,this.2.1,this.2.2.1⟩
 have D:ed c (s.proc to.toNat) (ax c p)=false->Good c fl (bQ c (s.aG to.toNat (dH (bz (s.proc to.toNat) (ax c p) (rn v)))) p 0) No No T:=by
  intro k;have C:∀l,(s.proc to.toNat).af[ax c p]? =some l->(l.values.length:Int)<c.lane:=λl a=>by unfold ed at k;rw [a] at k;have:=of_decide_eq_false k;omega
  refine lane (rn v) true (λl a=> ?_) (λl a=>⟨rfl,λK=> ?_⟩) (λh=>by cases h)
  ·have B:=C l a;have t:=w l a;refine ⟨?_,t.2⟩;show ((l.values++ [v]).length:Int)<=_;rw [List.length_append,List.length_singleton];omega
  ·have:=((g.dJ _ z _ l a).2.1 K).2.2;have:=C l a;omega
 have J:Good c fl (bQ c (s.aG to.toNat (bz (s.proc to.toNat) (ax c p) jc)) p 0) No No T:=
  lane jc false (λl a=>⟨(w l a).1,(w l a).2.1,vj (w l a).2.2⟩) (λl a=>⟨rfl,λ_=>rfl⟩) λ_ l a=>a
 by_cases u:ax c p=ax c to.toNat
 ·rw [if_pos u];by_cases j:jk (s.proc to.toNat)=false
  ·rw [if_pos j];exact g.wM hp q ⟨n,x⟩ 2
  rw [if_neg j];by_cases o:ed c (s.proc to.toNat) (ax c p)=true
  ·rw [if_pos o];refine g.wait (v:=v) m hp z q x L (by rw [hb,F]) G u (by cases e:jk (s.proc to.toNat)<;>simp [e] at j ⊢) λl a=> ?_;have N:=(w l a).1;unfold ed at o;rw [a] at o;have:=of_decide_eq_true o;omega
  ·rw [if_neg o];exact D (by cases e:ed c (s.proc to.toNat) (ax c p)<;>simp [e] at o ⊢)
 rw [if_neg u];by_cases j:jk (s.proc to.toNat)=false\/ed c (s.proc to.toNat) (ax c p)=true
 ·rw [if_pos j];exact J
 ·rw [if_neg j];exact D (by cases e:ed c (s.proc to.toNat) (ax c p)<;>simp [e] at j ⊢)
end
theorem aaG {ae:Int} {a:List bq} (f:0<=ae/\ae<a.length) (h:nZ ae a=none):∀l∈a,l.values=[]:=by
 intro l d;obtain ⟨j,c,g⟩:=List.getElem_of_mem d;unfold nZ at h;rw [List.find?_eq_none] at h;have e:j∈(List.range a.length).map λk=>(ae.toNat+k)%a.length:=by
  refine List.mem_map.2 ⟨(j+a.length-ae.toNat)%a.length,List.mem_range.2 (Nat.mod_lt _ (by omega)),?_⟩;by_cases i:ae.toNat<=j
  ·have b:j+a.length-ae.toNat=(j-ae.toNat)+a.length:=by omega
   rw [b,Nat.add_mod_right,Nat.mod_eq_of_lt (show j-ae.toNat<a.length by omega),Nat.mod_eq_of_lt (by omega)];omega
  ·rw [Nat.mod_eq_of_lt (show j+a.length-ae.toNat<a.length by omega)];have b:ae.toNat+(j+a.length-ae.toNat)=j+a.length:=by omega
   rw [b,Nat.add_mod_right,Nat.mod_eq_of_lt c]
 grind
theorem ZR {ae:Int} {a:List bq} {i:Nat} (h:nZ ae a=some i):∃l,a[i]? =some l/\l.values≠ []:=by unfold nZ at h;grind
section
variable {c:aV} {fl:Nat->Nat->Bool} {s:MS} {T:Int} {p:Nat} {t:Int} {x:ai} {z:Prop}
theorem cL.MW (pm:cL c fl t p z x):cL c fl t p z {x with bF:=false} where
 st:=pm.st
 pc:=pm.pc
 lr:=pm.lr
 cur:=pm.cur
 mG:=pm.mG
 mH:=pm.mH
 ns:=pm.ns
 dead:=λh=>⟨(pm.dead h).1,rfl⟩
 dJ:=pm.dJ
 recv:=λh=>⟨(pm.recv h).1,(pm.recv h).2.1,rfl⟩
 snd:=pm.snd
 pD:=pm.pD
 jh:=pm.jh
 br:=pm.br
theorem cL.ae (pm:cL c fl t p z x) {n:Int} (h:0<=n/\n<x.af.length):cL c fl t p z {x with ae:=n} where
 st:=pm.st
 pc:=pm.pc
 lr:=pm.lr
 cur:=h
 mG:=pm.mG
 mH:=pm.mH
 ns:=pm.ns
 dead:=pm.dead
 dJ:=pm.dJ
 recv:=pm.recv
 snd:=pm.snd
 pD:=pm.pD
 jh:=pm.jh
 br:=pm.br
theorem cL.FG (pm:cL c fl t p z x) (g:x.state=0) {n:dP} (e:dF c p x=some n) (f:n.op=25) (b:∀l∈x.af,l.values=[]) (d:x.bF=false):cL c fl t p z {x with state:=1} where
 st:=by simp
 pc:=pm.pc
 lr:=pm.lr
 cur:=pm.cur
 mG:=pm.mG
 mH:=pm.mH
 ns:=pm.ns.imp id λh=>⟨λa=>by grind,λa=>by grind⟩
 dead:=λh=>by grind
 dJ:=pm.dJ
 recv:=λ_=>⟨⟨n,e,f⟩,b,d⟩
 snd:=λh=>by grind
 pD:=λh=>by grind
 jh:=λh=>by grind
 br:=pm.br
theorem Good.core {X:Nat->Prop} (g:Good c fl s X No T) {y:ai} (o:Out s X No p) (pm:cL c fl s.tick p (No p) y) (d:y.af=(s.proc p).af) (e:y.state=0) {k:Core} (a:0<=k.pc/\k.pc<=(gz c p).length) (b:k.br.length=8):Good c fl (s.aG p (y.put k)) (λq=>X q/\q≠p) No T:=by refine g.run o (pm.put e a b) ⟨by show y.state≠2;omega,by show y.state≠3;omega⟩ d λ_=> ?_;rw [cZ];exact ⟨by show y.state≠5;omega,by show y.state≠6;omega⟩
theorem Good.take (m:cg c) (g:Good c fl s No No T) {t:Bool} {n:dP} (hp:p<nQ c) (h0:(s.proc p).state=0) (E:dF c p (s.proc p)=some n) (ho:t=false->n.op=25):Good c fl (ir c s p t) No No T:=by
 have pm:=g.proc p hp;have H:∀ {X:Nat->Prop},Out s X No p:=wa ⟨by omega,by omega⟩;have b6:=AU E;have u:∀ {v f:Int},(0<=(gh (gz c p) (s.proc p).core v f).pc/\(gh (gz c p) (s.proc p).core v f).pc<=(gz c p).length)/\(gh (gz c p) (s.proc p).core v f).br.length=8:=λ{v f}=>by obtain ⟨b,d⟩:=Ut (l:=gz c p) (k:=(s.proc p).core) (v:=v) (w:=f) ⟨n,E⟩;have b:(gh (gz c p) (s.proc p).core v f).pc=(s.proc p).pc+1:=b;exact ⟨by omega,d.trans pm.br⟩
 unfold ir;dsimp only;cases K:nZ (s.proc p).ae (s.proc p).af with
 | none=>
  dsimp only;have a9:=aaG pm.cur K;by_cases B:(s.proc p).bF=true
  ·rw [if_pos B];have e:({(s.proc p).put (gh (gz c p) (s.proc p).core 0 (-2)) with bF:=false}:ai)=({s.proc p with bF:=false}:ai).put (gh (gz c p) (s.proc p).core 0 (-2)):=rfl;rw [e];exact we (g.core H pm.MW rfl h0 u.1 u.2)
  ·rw [if_neg B];cases t with
   | true=>rw [if_pos rfl];exact we (g.core H pm rfl h0 u.1 u.2)
   | false=>rw [if_neg (by decide)];refine we (g.run H (pm.FG h0 E (ho rfl) a9 (by simpa using B)) ⟨by show (1:Int)≠2;omega,by show (1:Int)≠3;omega⟩ rfl λ_=> ?_);rw [cZ];simp
 | some i=>
  dsimp only;obtain ⟨l,o,b0⟩:=ZR K;have U:(s.proc p).af.getD i ⟨[],[],0,0⟩=l:=by grind
  rw [U];obtain ⟨P,b2,Q⟩:=g.dJ p hp i l o;have M:=pm.dJ i l o;have b7:1<=l.values.length:=by grind
  have B:∀A,(s.proc p).af[i]? =some A->((dG A).values.length:Int)<=c.lane/\jB (dG A).taken/\jB (dG A).dropped/\(sY (dG A)->i<nP c->fl i (ax c p)=true):=λA L=>by
   rw [o] at L;cases L;refine ⟨?_,?_,?_,λ_ hi=>M.2.2.2 (.inl b0) hi⟩
   ·unfold dG;grind
   ·unfold dG;cases l.waiters<;>exact vj M.2.1
   ·unfold dG;grind
  have N:cL c fl s.tick p (No p) (bz (s.proc p) i dG):=pm.lane B λh=>by omega
  let I:Nat->Prop:=λq=>∃w r,l.waiters=w::r/\w.proc=(q:Int);have W:Good c fl (s.aG p (bz (s.proc p) i dG)) I No T:=by
   refine g.af N (.inl rfl) rfl rfl (List.length_modify ..) (λj l1 l2 b d=> ?_) hp (λ_ h=>h.elim) λq hq=>.inr ⟨λh=>h,?_⟩
   ·have d:((s.proc p).af.modify i dG)[j]? =some l2:=d;obtain ⟨l0,J,V⟩:=Dl d;rw [b] at J;cases J;obtain ⟨c1,R,S⟩:=g.dJ p hp j l1 b;rcases V with ⟨rfl,rfl⟩ | ⟨e5,rfl⟩
    ·rw [o] at b;cases b;unfold dG;cases a:l.waiters with
     | nil=>exact ⟨List.Sublist.refl _,λh=>absurd rfl h,λw G=>by cases G⟩
     | cons w r=>
      refine ⟨List.sublist_cons_self ..,λ_=> ?_,λO G=> ?_⟩
      ·have h3:=(R (by rw [a];simp)).2.2;show ((l.values.tail++ [w.value]).length:Int)=_;rw [List.length_append,List.length_tail,List.length_singleton];omega
      ·rcases List.mem_cons.1 G with rfl | h4
       ·refine .inr ⟨O,r,a,?_⟩;have:=(S O (by rw [a];exact List.mem_cons_self ..)).1;omega
       ·exact .inl h4
    grind
   ·obtain ⟨w,r,a,he⟩:=hq;refine ⟨i,l,dG l,w,o,vk o,by rw [a];exact List.mem_cons_self ..,?_,he⟩;have nd:=P;rw [a,List.map_cons,List.nodup_cons] at nd;unfold dG;grind
  have b4:Out (s.aG p (bz (s.proc p) i dG)) I No p:=⟨λh=>h,.inr (by rw [fH];exact ⟨by show (s.proc p).state≠2;omega,by show (s.proc p).state≠3;omega⟩)⟩;have b5:i<(s.proc p).af.length:=(List.getElem?_eq_some_iff.1 o).1;have a8:0<=((i+1:Nat):Int)%((s.proc p).af.length:Int)/\((i+1:Nat):Int)%((s.proc p).af.length:Int)<((bz (s.proc p) i dG).af.length:Int):=by have e:(bz (s.proc p) i dG).af.length=(s.proc p).af.length:=List.length_modify ..;rw [e];exact ⟨Int.emod_nonneg _ (by omega),Int.emod_lt_of_pos _ (by omega)⟩
  have D:=W.core (y:={bz (s.proc p) i dG with ae:=((i+1:Nat):Int)%((s.proc p).af.length:Int)}) b4 (N.ae a8) (by rw [fH]) h0 (u (v:=l.values.headD 0) (f:=(i:Int))).1 u.2;rw [AL] at D;cases a:l.waiters with
  | nil=>refine D.congr λq=>⟨λh=> ?_,λh=>h.elim⟩;grind
  | cons w r=>
   dsimp only;have Z:=Q w (by rw [a];exact List.mem_cons_self ..);obtain ⟨w1,w2,w3,w4,C⟩:=Z;rcases C with C | ⟨C,n2,w6,w7,_⟩
   ·exact C.elim
   have F:w.proc.toNat≠p:=λe=>by rw [e] at C;omega
   have d:w.proc=((w.proc.toNat:Nat):Int):=by omega
   have Y:=D.told (p:=w.proc.toNat) w2 ⟨λh=>h,.inl ⟨⟨w,r,a,d⟩,F⟩⟩ (by rw [iu F];omega) ⟨n2,by rw [iu F];exact w6⟩ 0;refine Y.congr λq=>⟨λh=> ?_,λh=>h.elim⟩;grind
end
section
variable {c:aV} {fl:Nat->Nat->Bool} {s:MS} {T:Int} {p:Nat} {t:Int} {x:ai} {z:Prop} {X Z:Nat->Prop}
theorem Good.an {d:Nat->Prop} (g:Good c fl s X Z T) {i:Nat} {y:cY} (pm:uf c T i y)
  (I:∀(k:Nat) o,y.az[k]? =some o->o= -1\/(0<=o/\o.toNat<nQ c/\ax c o.toNat=i/\(jk (s.proc o.toNat)=true\/Z o.toNat)))
  (J:∀(k:Nat) a,y.al[k]? =some a->∃q,(s.part i).al[k]? =some q/\a.Sublist q/\(a≠ []->∃o,y.az[k]? =some o/\o≠ -1/\o∉a)/\∀z∈a,¬d z.toNat)
  (H:∀(k:Nat) q,(s.part i).al[k]? =some q->∃a,y.al[k]? =some a/\∀z∈q,z∈a\/d z.toNat\/Z z.toNat)
  (b:∀q,Z q->(s.proc q).state≠3)
  (B:∀q,X q->d q) (N:∀q,d q->X q\/(¬Z q/\(s.proc q).state=3/\ax c q=i)):Good c fl (s.cX i y) d Z T where
 tick:=g.tick
 part j hj:=by
  by_cases e:j=i
  ·subst e;rw [sM];exact pm
  ·rw [tC e];exact g.part j hj
 proc:=g.proc
 own j hj k o h:=by
  by_cases e:j=i
  ·subst e;rw [sM] at h;exact I k o h
  ·rw [tC e] at h;exact g.own j hj k o h
 iy j hj k q h:=by
  by_cases e:j=i
  ·subst e;rw [sM] at h ⊢;obtain ⟨M,F,u,v,G⟩:=J k q h;obtain ⟨f,m,n⟩:=g.iy j hj k M F;refine ⟨f.sublist u,λz b=> ?_,v⟩;obtain ⟨a1,a2,a3,a4,a5⟩:=m z (u.subset b);exact ⟨a1,a2,a3,G z b,a5⟩
  ·rw [tC e] at h ⊢;obtain ⟨f,m,n⟩:=g.iy j hj k q h;refine ⟨f,λz b=> ?_,n⟩;obtain ⟨a1,a2,a3,a4,a5⟩:=m z b;refine ⟨a1,a2,a3,λh=> ?_,a5⟩;grind
 dJ r hr j l h:=by obtain ⟨f,m,n⟩:=g.dJ r hr j l h;refine ⟨f,m,λw K=> ?_⟩;obtain ⟨a1,a2,a3,a4,a5⟩:=n w K;refine ⟨a1,a2,a3,λh=> ?_,a5⟩;grind
 rj q hq hn v:=by
  obtain ⟨k,l,A,C⟩:=g.rj q hq (λh=>hn (B q h)) v;by_cases e:ax c q=i
  ·rw [e] at A ⊢;rw [sM];obtain ⟨L,D,E⟩:=H k l A;refine ⟨k,L,D,?_⟩;rcases E _ C with h | h | h
   ·exact h
   ·grind
   ·exact absurd v (b q (by simpa using h))
  ·rw [tC e];grind
 ri q hq hn u:=g.ri q hq (λh=>hn (B q h)) u
theorem Good.queue (g:Good c fl s No No T) {k:Nat} {n:dP} {o:Int} {q:List Int} (hp:p<nQ c) (hi:ax c p<nP c) (V:(s.proc p).state=0) (N:dF c p (s.proc p)=some n) (O:n.op=29) (Y:n.lL=(k:Int)) (P:(s.part (ax c p)).az[k]? =some o) (a9:o≠ -1) (b0:o≠(p:Int))
  (Q:(s.part (ax c p)).al[k]? =some q):Good c fl ((s.cX (ax c p) {s.part (ax c p) with al:=(s.part (ax c p)).al.modify k (· ++ [(p:Int)])}).aG p {s.proc p with state:=3}) No No T:=by
 have I:Out s No No p:=wa ⟨by omega,by omega⟩;have B:∀r,r≠p->((s.cX (ax c p) {s.part (ax c p) with al:=(s.part (ax c p)).al.modify k (· ++ [(p:Int)])}).aG p {s.proc p with state:=3}).proc r=s.proc r:=λr e=>iu e;have H:((s.cX (ax c p) {s.part (ax c p) with al:=(s.part (ax c p)).al.modify k (· ++ [(p:Int)])}).aG p {s.proc p with state:=3}).proc p={s.proc p with state:=3}:=fH;have A:∀j,((s.cX (ax c p) {s.part (ax c p) with al:=(s.part (ax c p)).al.modify k (· ++ [(p:Int)])}).aG p {s.proc p with state:=3}).part j=(s.cX (ax c p) {s.part (ax c p) with al:=(s.part (ax c p)).al.modify k (· ++ [(p:Int)])}).part j:=λj=>rfl;have b7:∀r,jk (s.proc r)=true->jk (((s.cX (ax c p) {s.part (ax c p) with al:=(s.part (ax c p)).al.modify k (· ++ [(p:Int)])}).aG p {s.proc p with state:=3}).proc r)=true:=λr h=>by
  by_cases e:r=p
  ·subst e;rw [H];rfl
  grind
 generalize b5:(s.cX (ax c p) {s.part (ax c p) with al:=(s.part (ax c p)).al.modify k (· ++ [(p:Int)])}).aG p {s.proc p with state:=3}=J at*;have R:J.tick=s.tick:=by rw [<-b5];rfl
 have a8:∀r,(J.proc r).af=(s.proc r).af:=λr=>by grind
 have b6:∀ {i k z},pv c s No No i k z->pv c J No No i k z:=λ{i k z} h=>h.cF (λh=>h) (B _ (h.out I));refine ⟨by rw [R];exact g.tick,λj v=> ?_,λr d=> ?_,λj v f S h=> ?_,λj v f l h=> ?_,λr d j l h=> ?_,λr d _ G=> ?_,λr d _ F=> ?_⟩
 ·rw [A];by_cases e:j=ax c p
  ·subst e;rw [sM];have pm:=g.part _ v;exact ⟨pm.cur,pm.jH,pm.log,pm.lost,pm.kJ,pm.full,pm.gJ,by show ((List.modify _ _ _).length:Int)=_;rw [List.length_modify];exact pm.iz⟩
  ·rw [tC e];exact g.part j v
 ·rw [R];by_cases e:r=p
  ·subst e;rw [H];exact (g.proc r d).wait V (.inr rfl) N ⟨λh=>by omega,λ_=>O⟩
  ·rw [B r e];exact g.proc r d
 ·rw [A] at h;have h:(s.part j).az[f]? =some S:=by
   by_cases e:j=ax c p
   ·subst e;rw [sM] at h;exact h
   ·rw [tC e] at h;exact h
  rcases g.own j v f S h with h | ⟨h1,F,G,h4⟩
  ·exact .inl h
  grind
 ·rw [A] at h ⊢;by_cases e:j=ax c p
  ·subst e;rw [sM] at h ⊢;obtain ⟨b,m,u⟩:=Dl h;obtain ⟨C,D,y⟩:=g.iy _ v f b m;rcases u with ⟨u,rfl⟩ | ⟨u,rfl⟩
   ·subst u;rw [Q] at m;cases m;have b4:(p:Int)∉q:=λhm=>((D _ hm).out I) (by omega);refine ⟨?_,λz hz=> ?_,λ_=>⟨o,P,a9,?_⟩⟩
    ·rw [List.nodup_append];exact ⟨C,by simp,λa W b hb=>by rw [List.mem_singleton.1 hb];exact λe=>b4 (e▸W)⟩
    ·rcases List.mem_append.1 hz with hz | hz
     ·exact b6 (D z hz)
     ·rw [List.mem_singleton.1 hz];refine ⟨by omega,hp,rfl,λh=>h,.inr ?_⟩;rw [Int.toNat_natCast,H];exact ⟨rfl,n,N,O,Y⟩
    ·intro hm;rcases List.mem_append.1 hm with hm | hm
     ·obtain ⟨o',K,_,U⟩:=y (List.ne_nil_of_mem hm);rw [P] at K;cases K;exact U hm
     ·exact b0 (List.mem_singleton.1 hm)
   grind
  ·rw [tC e] at h ⊢;obtain ⟨C,D,y⟩:=g.iy j v f l h;grind
 ·rw [a8] at h;obtain ⟨C,D,y⟩:=g.dJ r d j l h;refine ⟨C,λE=> ?_,λw E=>(y w E).cF (λh=>h) (B _ ((y w E).out I))⟩;grind
 ·by_cases e:r=p
  ·subst e;rw [A,sM];exact ⟨k,_,vk Q,List.mem_append_right _ (List.mem_singleton.2 rfl)⟩
  ·rw [B r e] at G;obtain ⟨f,l,m,u⟩:=g.rj r d (λh=>h) G;rw [A];by_cases L:ax c r=ax c p
   ·rw [L] at m ⊢;rw [sM];by_cases M:k=f
    ·subst M;exact ⟨k,_,vk m,List.mem_append_left _ u⟩
    ·exact ⟨f,l,(DW M).trans m,u⟩
   ·rw [tC L];grind
 ·by_cases e:r=p
  ·grind
  ·rw [B r e] at F;obtain ⟨r',b8,l,hl,E⟩:=g.ri r d (λh=>h) F;grind
theorem Good.lock (m:cg c) (g:Good c fl s No No T) {k:Int} {n:dP} (hp:p<nQ c) (l:(s.proc p).state=0) (f:dF c p (s.proc p)=some n) (r:n.op=29) (B:n.lL=k):Good c fl (ij c s p k) No No T:=by
 have b:=m.eR (p:=p);have D:=wT (m.ins f).1 (.inl r);rw [B] at D;have pm:=g.part _ b;have L:=pm.gJ;have M:=pm.iz;have v:=List.getElem?_eq_getElem (show k.toNat<(s.part (ax c p)).al.length by omega);have u:=List.getElem?_eq_getElem (show k.toNat<(s.part (ax c p)).az.length by omega);generalize (s.part (ax c p)).al[k.toNat]=q at v;generalize (s.part (ax c p)).az[k.toNat]=o at u;have J:=AU f;have C:=g.proc p hp;unfold ij;dsimp only;have A:(s.part (ax c p)).az.getD k.toNat 0=o:=by grind
 rw [A];by_cases h:o= -1\/o=(p:Int)
 ·rw [if_pos h];unfold ij.goK;have N:Out s No No p:=wa ⟨by omega,by omega⟩;have i:Good c fl (s.cX (ax c p) {s.part (ax c p) with az:=(s.part (ax c p)).az.set k.toNat p}) No No T:=by
   refine g.an ⟨pm.cur,pm.jH,pm.log,pm.lost,pm.kJ,pm.full,by show ((List.set _ _ _).length:Int)=_;rw [List.length_set];exact pm.gJ,pm.iz⟩ (λj w a=> ?_) (λj d a=>⟨d,a,List.Sublist.refl _,λK=> ?_,λ_ _ h=>h⟩) (λj d a=>⟨d,a,λz E=>.inl E⟩) (λ_ h=>h.elim) (λ_ h=>h) λ_ h=>h.elim
   ·have a:((s.part (ax c p)).az.set k.toNat p)[j]? =some w:=a;by_cases e:k.toNat=j
    ·subst e;rw [List.getElem?_set_self (by omega)] at a;cases a;refine .inr ⟨by omega,hp,rfl,.inl ?_⟩;rw [Int.toNat_natCast,cZ];omega
    ·rw [List.getElem?_set_ne e] at a;exact g.own _ b j w a
   ·obtain ⟨G,H,I⟩:=g.iy _ b j d a;grind
  have F:Out (s.cX (ax c p) {s.part (ax c p) with az:=(s.part (ax c p)).az.set k.toNat p}) No No p:=wa ⟨by show (s.proc p).state≠2;omega,by show (s.proc p).state≠3;omega⟩;exact we (i.core (y:=s.proc p) (k:=fC (s.proc p).core) F (i.proc p hp) rfl l ⟨by show 0<=(s.proc p).pc+1;omega,by show (s.proc p).pc+1<=_;omega⟩ C.br)
 ·rw [if_neg h];exact g.queue hp b l f r (by omega) u (λe=>h (.inl e)) (λe=>h (.inr e)) v
theorem Good.given (g:Good c fl s X Z T) {a:Int} (d:0<=a) (f:a.toNat<nQ c) (h:X a.toNat) (i:¬Z a.toNat) (b:(s.proc a.toNat).state≠4) (e:∃n,dF c a.toNat (s.proc a.toNat)=some n):Good c fl (gu s a) (λq=>X q/\q≠a.toNat) Z T:=by unfold gu;rw [if_pos d];exact g.MY f ⟨i,.inl h⟩ b e
theorem Good.unlock (m:cg c) (g:Good c fl s No No T) {k:Int} (hp:p<nQ c) (N:0<=k/\k<c.an):Good c fl (sL c s p k) No No T:=by
 have f:=m.eR (p:=p);have pm:=g.part _ f;have O:=pm.gJ;have P:=pm.iz;have i:=List.getElem?_eq_getElem (show k.toNat<(s.part (ax c p)).al.length by omega);have C:=List.getElem?_eq_getElem (show k.toNat<(s.part (ax c p)).az.length by omega);generalize (s.part (ax c p)).al[k.toNat]=q at i;generalize (s.part (ax c p)).az[k.toNat]=o at C;unfold sL;dsimp only;have G:(s.part (ax c p)).az.getD k.toNat (-1)=o:=by simp [List.getD,C]
 have H:(s.part (ax c p)).al.getD k.toNat []=q:=by simp [List.getD,i]
 rw [G,H];by_cases h:o=(p:Int)
 ·rw [if_pos h];obtain ⟨E,y,M⟩:=g.iy _ f _ _ i;cases q with
  | nil=>
   dsimp only;refine g.an ⟨pm.cur,pm.jH,pm.log,pm.lost,pm.kJ,pm.full,by show ((List.set _ _ _).length:Int)=_;rw [List.length_set];exact pm.gJ,pm.iz⟩ (λj l b=> ?_) (λj d b=>⟨d,b,List.Sublist.refl _,λu=> ?_,λ_ _ h=>h⟩) (λj d b=>⟨d,b,λz hz=>.inl hz⟩) (λ_ h=>h.elim) (λ_ h=>h) λ_ h=>h.elim
   ·have b:((s.part (ax c p)).az.set k.toNat (-1))[j]? =some l:=b;by_cases e:k.toNat=j
    ·subst e;rw [List.getElem?_set_self (by omega)] at b;cases b;exact .inl rfl
    ·rw [List.getElem?_set_ne e] at b;exact g.own _ f j l b
   ·have b:(s.part (ax c p)).al[j]? =some d:=b;obtain ⟨F,A,w⟩:=g.iy _ f j d b;have e:¬k.toNat=j:=λe=>by subst e;rw [i] at b;cases b;exact u rfl
    show ∃o,((s.part (ax c p)).az.set k.toNat (-1))[j]? =some o/\o≠ -1/\o∉d;rw [List.getElem?_set_ne e];exact w u
  | cons a r=>
   dsimp only;obtain ⟨a1,a2,a3,a4,a5⟩:=y a (List.mem_cons_self ..);rcases a5 with a5 | ⟨a5,n,a6,a7,L⟩
   ·exact a5.elim
   have B:=List.nodup_cons.1 E;have I:Good c fl (s.cX (ax c p) {s.part (ax c p) with az:=(s.part (ax c p)).az.set k.toNat a,al:=(s.part (ax c p)).al.set k.toNat r}) (λq=>q=a.toNat) No T:=by
    refine g.an ⟨pm.cur,pm.jH,pm.log,pm.lost,pm.kJ,pm.full,by show ((List.set _ _ _).length:Int)=_;rw [List.length_set];exact pm.gJ,by show ((List.set _ _ _).length:Int)=_;rw [List.length_set];exact pm.iz⟩ (λj l b=> ?_) (λj d b=> ?_) (λj d b=> ?_) (λ_ h=>h.elim) (λ_ h=>h.elim) λd h=>.inr ⟨λh=>h,by rw [h];exact a5,by rw [h];exact a3⟩
    ·have b:((s.part (ax c p)).az.set k.toNat a)[j]? =some l:=b;by_cases e:k.toNat=j
     ·subst e;rw [List.getElem?_set_self (by omega)] at b;cases b;refine .inr ⟨a1,a2,a3,.inl ?_⟩;rw [cZ];omega
     ·rw [List.getElem?_set_ne e] at b;exact g.own _ f j l b
    ·have b:((s.part (ax c p)).al.set k.toNat r)[j]? =some d:=b;show ∃q,(s.part (ax c p)).al[j]? =some q/\d.Sublist q/\(d≠ []->∃o,((s.part (ax c p)).az.set k.toNat a)[j]? =some o/\o≠ -1/\o∉d)/\_;by_cases e:k.toNat=j
     ·subst e;rw [List.getElem?_set_self (by omega)] at b;cases b;refine ⟨a::r,i,List.sublist_cons_self ..,λ_=>⟨a,List.getElem?_set_self (by omega),by omega,B.1⟩,λz hz h=> ?_⟩;have Q:=(y z (List.mem_cons_of_mem _ hz)).1;have:z=a:=by omega
      exact B.1 (this▸hz)
     ·rw [List.getElem?_set_ne e] at b;obtain ⟨F,A,w⟩:=g.iy _ f j d b;refine ⟨d,b,List.Sublist.refl _,λu=>by rw [List.getElem?_set_ne e];exact w u,λz hz h=> ?_⟩;obtain ⟨S,U,V,W,v⟩:=A z hz;rcases v with v | ⟨v,R,D,Y,z8⟩
      ·exact v
      ·rw [h,a6] at D;cases D;omega
    ·have b:(s.part (ax c p)).al[j]? =some d:=b;show ∃K,((s.part (ax c p)).al.set k.toNat r)[j]? =some K/\_;by_cases e:k.toNat=j
     ·subst e;rw [i] at b;cases b;refine ⟨r,List.getElem?_set_self (by omega),λz hz=> ?_⟩;rcases List.mem_cons.1 hz with rfl | hz
      ·exact .inr (.inl rfl)
      ·exact .inl hz
     ·exact ⟨d,by rw [List.getElem?_set_ne e];exact b,λz hz=>.inl hz⟩
   have J:=I.given a1 a2 rfl (λh=>h) (by show (s.proc a.toNat).state≠4;omega) ⟨n,a6⟩;exact J.congr λq=>⟨λh=>(h.2 h.1).elim,λh=>h.elim⟩
 grind
end
theorem YB {c:Type} {f:c->Bool}:∀ {l:List c} {a:c},a∈l->f a=false->a∈gX f l
 | b::l,a,h,d=>by
  unfold gX;split
  ·grind
  ·rcases List.mem_cons.1 h with rfl | h
   ·simp
   ·exact List.mem_cons_of_mem _ (YB h d)
theorem bO {a:Type} {f:a->Bool}:∀ {l:List a},(gX f l).Sublist l
 | []=>List.Sublist.refl _
 | b::l=>by
  unfold gX;split
  ·simp
  ·exact bO.cons_cons _
theorem Mj {d c:Type} [DecidableEq c] {g:d->c} {b:c}:∀ {l:List d},(l.map g).Nodup->∀a∈gX (λx=>decide (g x=b)) l,g a≠b
 | [],_,a,h=>by cases h
 | x::l,nd,a,h=>by
  rw [List.map_cons,List.nodup_cons] at nd;unfold gX at h;split at h
  ·grind
  ·rename_i e;rcases List.mem_cons.1 h with rfl | h
   ·grind
   ·exact Mj nd.2 a h
section
variable {c:aV} {fl:Nat->Nat->Bool} {s:MS} {T:Int} {p:Nat} {t:Int} {x:ai} {z:Prop} {X Z:Nat->Prop}
theorem Good.dying (g:Good c fl s No No T) {st:Int} (F:st=5\/st=6) (hp:p<nQ c):Good c fl (s.aG p {s.proc p with state:=st,bF:=false}) No (λq=>q=p) T:=by
 have E:∀r,dF c r ((s.aG p {s.proc p with state:=st,bF:=false}).proc r)=dF c r (s.proc r):=λr=>GH rfl;have b:∀r,r≠p->(s.aG p {s.proc p with state:=st,bF:=false}).proc r=s.proc r:=λr e=>iu e;have B:(s.aG p {s.proc p with state:=st,bF:=false}).proc p={s.proc p with state:=st,bF:=false}:=fH;have C:∀r,((s.aG p {s.proc p with state:=st,bF:=false}).proc r).af=(s.proc r).af:=λr=>by grind
 refine ⟨g.tick,g.part,λr a=> ?_,λi m k o h=> ?_,λi m k q h=> ?_,λr a i l h=> ?_,λr a _ h=> ?_,λr a _ h=> ?_⟩
 ·by_cases e:r=p
  ·subst e;rw [B];have pm:=g.proc r a;exact ⟨by grind,pm.pc,pm.lr,pm.cur,pm.mG,pm.mH,.inl rfl,λ_=>⟨.inl rfl,rfl⟩,pm.dJ,λh=>by grind,λh=>by grind,λh=>by grind,λh=>by grind,pm.br⟩
  ·rw [b r e];have pm:=g.proc r a;exact ⟨pm.st,pm.pc,pm.lr,pm.cur,pm.mG,pm.mH,.inr (pm.ns.resolve_left (λh=>h)),λh=>⟨.inr ((pm.dead h).1.resolve_left (λh=>h)),(pm.dead h).2⟩,pm.dJ,pm.recv,pm.snd,pm.pD,pm.jh,pm.br⟩
 ·rcases g.own i m k o h with h | ⟨u,v,y,A⟩
  ·exact .inl h
  ·refine .inr ⟨u,v,y,?_⟩;by_cases e:o.toNat=p
   ·exact .inr e
   ·rw [b _ e];exact .inl (A.resolve_right (λh=>h))
 ·obtain ⟨d,f,j⟩:=g.iy i m k q h;refine ⟨d,λz D=> ?_,j⟩;obtain ⟨a1,a2,a3,a4,a5⟩:=f z D;refine ⟨a1,a2,a3,a4,?_⟩;grind
 ·rw [C] at h;obtain ⟨d,f,j⟩:=g.dJ r a i l h;refine ⟨d,λn=> ?_,λw n=> ?_⟩
  ·obtain ⟨a1,a2,a3⟩:=f n;refine ⟨a1,?_,a3⟩;by_cases e:r=p
   ·exact .inr e
   ·rw [b _ e];exact .inl (a2.resolve_right (λh=>h))
  ·obtain ⟨a1,a2,a3,a4,a5⟩:=j w n;refine ⟨a1,a2,a3,a4,?_⟩;grind
 ·by_cases e:r=p
  ·grind
  ·rw [b _ e] at h;exact g.rj r a (λh=>h) h
 ·by_cases e:r=p
  ·grind
  ·rw [b _ e] at h;obtain ⟨G,u,l,v,y⟩:=g.ri r a (λh=>h) h;grind
theorem IV {p:Int} {x:ai} {i:Nat} {l:bq} (h:(mh p x).af[i]? =some l):∃a,x.af[i]? =some a/\l.values=a.values/\l.taken=a.taken/\l.dropped=a.dropped/\l.waiters=gX (λw=>decide (w.proc=p)) a.waiters:=by have h:(x.af.map _)[i]? =some l:=h;grind
theorem cL.leave (pm:cL c fl t p z x) {q:Int}:cL c fl t p z (mh q x) where
 st:=pm.st
 pc:=pm.pc
 lr:=by show (List.map _ _).length=_;rw [List.length_map];exact pm.lr
 cur:=by show 0<=x.ae/\x.ae<((List.map _ _).length:Int);rw [List.length_map];exact pm.cur
 mG:=pm.mG
 mH:=pm.mH
 ns:=pm.ns
 dead:=pm.dead
 dJ:=λi l h=>by obtain ⟨a,e,k,m,n,_⟩:=IV h;have:=pm.dJ i a e;unfold sY at this ⊢;grind
 recv:=λh=>by obtain ⟨b,d,f⟩:=pm.recv h;refine ⟨b,λl j=> ?_,f⟩;obtain ⟨a,g,rfl⟩:=List.mem_map.1 j;exact d a g
 snd:=pm.snd
 pD:=pm.pD
 jh:=pm.jh
 br:=pm.br
theorem Good.leave (g:Good c fl s X (λq=>q=p) T) (b4:(s.proc p).state≠2/\(s.proc p).state≠3) {L:List Nat} (O:∀q,q∈L↔q<nQ c/\ax c q=ax c p):Good c fl (lQ p s L) X (λq=>q=p) T/\∀r,r<nQ c->∀l∈((lQ p s L).proc r).af,∀w∈l.waiters,w.proc≠(p:Int):=by
 have J:∀r,(lQ p s L).proc r=mh p (s.proc r)\/(lQ p s L).proc r=s.proc r:=λr=>by
  by_cases h:r∈L
  ·exact .inl (if_pos h)
  ·exact .inr (if_neg h)
 have E:∀r,((lQ p s L).proc r).state=(s.proc r).state/\((lQ p s L).proc r).pc=(s.proc r).pc/\((lQ p s L).proc r).br=(s.proc r).br:=λr=>by rcases J r with h | h<;>rw [h]<;>exact ⟨rfl,rfl,rfl⟩
 have a9:∀r,dF c r ((lQ p s L).proc r)=dF c r (s.proc r):=λr=>by unfold dF;grind
 have b0:∀r,jk ((lQ p s L).proc r)=jk (s.proc r):=λr=>by unfold jk;rw [(E r).1]
 have I:∀(r i:Nat) (l:bq),((lQ p s L).proc r).af[i]? =some l->∃b:bq,(s.proc r).af[i]? =some b/\l.values=b.values/\l.waiters.Sublist b.waiters/\(r∈L->∀w∈gX (λw=>decide (w.proc=(p:Int))) b.waiters,w∈l.waiters)/\(r∈L->l.waiters=gX (λw=>decide (w.proc=(p:Int))) b.waiters)/\(r∉L->l=b):=λr i l h=>by
  by_cases a:r∈L
  ·have e:(lQ p s L).proc r=mh p (s.proc r):=if_pos a;rw [e] at h;obtain ⟨b,n,C,_,_,u⟩:=IV h;exact ⟨b,n,C,by rw [u];exact bO,λ_ w d=>by rw [u];exact d,λ_=>u,λU=>absurd a U⟩
  ·have e:(lQ p s L).proc r=s.proc r:=if_neg a;grind
 refine ⟨⟨g.tick,g.part,λr a=> ?_,λi B k o h=> ?_,λi B k q h=> ?_,λr a i l h=> ?_,λr a F h=> ?_,λr a F h=> ?_⟩,λr a l S w d H=> ?_⟩
 ·rcases J r with h | h
  ·rw [h];exact (g.proc r a).leave
  ·rw [h];exact g.proc r a
 ·rcases g.own i B k o h with h | ⟨v,N,G,D⟩
  ·exact .inl h
  grind
 ·obtain ⟨j,y,m⟩:=g.iy i B k q h;refine ⟨j,λz V=> ?_,m⟩;obtain ⟨a1,a2,a3,a4,a5⟩:=y z V;exact ⟨a1,a2,a3,a4,by grind⟩
 ·obtain ⟨b,n,C,A,_⟩:=I r i l h;obtain ⟨j,y,m⟩:=g.dJ r a i b n;refine ⟨j.sublist (A.map _),λd=> ?_,λw d=> ?_⟩
  ·grind
  ·obtain ⟨a1,a2,a3,a4,a5⟩:=m w (A.subset d);refine ⟨a1,a2,a3,a4,?_⟩;grind
 ·rw [(E r).1] at h;exact g.rj r a F h
 ·rw [(E r).1] at h;obtain ⟨f,v,l,N,w,G,D⟩:=g.ri r a F h;have b5:r≠p:=λe=>by grind
  by_cases K:f∈L
  ·have e:(lQ p s L).proc f=mh p (s.proc f):=if_pos K;refine ⟨f,v,{l with waiters:=gX (λw=>decide (w.proc=(p:Int))) l.waiters},?_,w,?_,D⟩
   ·rw [e];show (List.map _ _)[_]? =_;grind
   ·exact YB G (decide_eq_false (by rw [D];omega))
  ·have e:(lQ p s L).proc f=s.proc f:=if_neg K;grind
 ·obtain ⟨i,B,a8⟩:=List.getElem_of_mem S;have Q:((lQ p s L).proc r).af[i]? =some l:=by grind
  obtain ⟨b,n,C,A,W,u,Y⟩:=I r i l Q;obtain ⟨j,y,m⟩:=g.dJ r a i b n;have M:=A.subset d;have P:=m w M;have hb:=y (List.ne_nil_of_mem M);have R:r∈L:=(O r).2 ⟨a,by
   have v:=P.2.2.1;rw [H,Int.toNat_natCast] at v;rw [v,hb.1]⟩
  rw [u R] at d;exact Mj j w d H
end
theorem Dm {p:Int}:∀ {os:List Int} {qs:List (List Int)},os.length=qs.length->
  (iA p os qs).1.length=os.length/\(iA p os qs).2.1.length=qs.length/\
  (∀(k:Nat) o q,os[k]? =some o->qs[k]? =some q->(o≠p/\(iA p os qs).1[k]? =some o/\(iA p os qs).2.1[k]? =some q)\/(o=p/\q=[]/\(iA p os qs).1[k]? =some (-1)/\(iA p os qs).2.1[k]? =some [])\/
   (o=p/\∃a r,q=a::r/\(iA p os qs).1[k]? =some a/\(iA p os qs).2.1[k]? =some r/\a∈(iA p os qs).2.2))/\
  (∀a∈(iA p os qs).2.2,a= -1\/∃(k:Nat) (r:List Int),os[k]? =some p/\qs[k]? =some (a::r))/\
  ((∀(j k:Nat) (z:Int) (a b:List Int),qs[j]? =some a->qs[k]? =some b->z∈a->z∈b->j=k)->(iA p os qs).2.2.Pairwise λa b=>a≠b\/a= -1)
 | [],[],_=>by simp [iA]
 | [],_::_,h=>by simp at h
 | _::_,[],h=>by simp at h
 | o::os,q::qs,h=>by
  obtain ⟨t,u,v,B,w⟩:=Dm (p:=p) (os:=os) (qs:=qs) (by simpa using h);have y:(∀(j k:Nat) (z:Int) (a b:List Int),(q::qs)[j]? =some a->(q::qs)[k]? =some b->z∈a->z∈b->j=k)->∀(j k:Nat) (z:Int) (a b:List Int),qs[j]? =some a->qs[k]? =some b->z∈a->z∈b->j=k:=λg j k z a b ha hb E F=>by have:=g (j+1) (k+1) z a b (by simpa using ha) (by simpa using hb) E F;omega
  have C:∀a∈(iA p os qs).2.2,a= -1\/∃(k:Nat) (r:List Int),(o::os)[k]? =some p/\(q::qs)[k]? =some (a::r):=λa ha=>(B a ha).imp id λ⟨k,r,A,s⟩=>⟨k+1,r,by simpa using A,by simpa using s⟩;unfold iA;dsimp only;by_cases e:o=p
  ·rw [if_pos e];cases q with
   | nil=>
    dsimp only;refine ⟨by simp [t],by simp [u],λk m n i l=> ?_,λa ha=> ?_,λg=> ?_⟩
    ·cases k with
     | zero=>grind
     | succ k=>
      rcases v k m n (by simpa using i) (by simpa using l) with ⟨a,b,c⟩ | ⟨a,b,c,d⟩ | ⟨a,x,r,b,c,d,f⟩
      ·exact .inl ⟨a,by simpa using b,by simpa using c⟩
      ·exact .inr (.inl ⟨a,b,by simpa using c,by simpa using d⟩)
      ·exact .inr (.inr ⟨a,x,r,b,by simpa using c,by simpa using d,List.mem_cons_of_mem _ f⟩)
    ·grind
    ·exact List.pairwise_cons.2 ⟨λb _=>.inr rfl,w (y g)⟩
   | cons x r=>
    dsimp only;refine ⟨by simp [t],by simp [u],λk m n i l=> ?_,λa ha=> ?_,λg=> ?_⟩
    ·cases k with
     | zero=>grind
     | succ k=>
      rcases v k m n (by simpa using i) (by simpa using l) with ⟨a,b,c⟩ | ⟨a,b,c,d⟩ | ⟨a,x,r,b,c,d,f⟩
      ·exact .inl ⟨a,by simpa using b,by simpa using c⟩
      ·exact .inr (.inl ⟨a,b,by simpa using c,by simpa using d⟩)
      ·exact .inr (.inr ⟨a,x,r,b,by simpa using c,by simpa using d,List.mem_cons_of_mem _ f⟩)
    ·rcases List.mem_cons.1 ha with rfl | ha
     ·exact .inr ⟨0,r,by simp [e],by simp⟩
     ·exact C a ha
    ·refine List.pairwise_cons.2 ⟨λb hb=> ?_,w (y g)⟩;rcases B b hb with rfl | ⟨k,G,A,s⟩
     ·omega
     ·refine .inl λD=> ?_;subst D;have:=g 0 (k+1) x (x::r) (x::G) (by simp) (by simpa using s) (List.mem_cons_self ..) (List.mem_cons_self ..);omega
  ·rw [if_neg e];refine ⟨by simp [t],by simp [u],λk m n i l=> ?_,λa ha=>C a ha,λg=>w (y g)⟩;cases k with
   | zero=>grind
   | succ k=>
    rcases v k m n (by simpa using i) (by simpa using l) with ⟨a,b,c⟩ | ⟨a,b,c,d⟩ | ⟨a,x,r,b,c,d,f⟩
    ·exact .inl ⟨a,by simpa using b,by simpa using c⟩
    ·exact .inr (.inl ⟨a,b,by simpa using c,by simpa using d⟩)
    grind
section
variable {c:aV} {fl:Nat->Nat->Bool} {s:MS} {T:Int} {p:Nat} {X Z:Nat->Prop}
theorem Good.lJ :∀ {l:List Int} {s:MS},Good c fl s (λq=>(q:Int)∈l) Z T->(l.Pairwise λa b=>a≠b\/a= -1)->(∀a∈l,a= -1\/(0<=a/\a.toNat<nQ c/\¬Z a.toNat/\(s.proc a.toNat).state≠4/\∃n,dF c a.toNat (s.proc a.toNat)=some n))->Good c fl (l.foldl gu s) No Z T
 | [],s,g,_,_=>g.congr λq=>⟨λh=>(by cases h),λh=>h.elim⟩
 | a::l,s,g,hp,d=>by
  obtain ⟨m,f⟩:=List.pairwise_cons.1 hp;rw [List.foldl_cons];rcases d a (List.mem_cons_self ..) with w | ⟨a1,a2,a3,a4,a5⟩
  ·have e:gu s a=s:=by unfold gu;rw [if_neg (by omega)]
   rw [e];refine Good.lJ (g.congr λq=>⟨λh=> ?_,λh=>List.mem_cons_of_mem _ h⟩) f λb hb=>d b (List.mem_cons_of_mem _ hb);grind
  ·have j:a∉l:=λh=>(m a h).elim (λh=>h rfl) (λh=>by omega);have i:=g.given a1 a2 (by grind) a3 a4 a5;refine Good.lJ (i.congr λq=>⟨λh=> ?_,λh=>⟨List.mem_cons_of_mem _ h,λe=> ?_⟩⟩) f λb hb=> ?_
   ·grind
   ·grind
   ·rcases d b (List.mem_cons_of_mem _ hb) with h | ⟨o,r,t,u,v⟩
    ·exact .inl h
    ·have k:b.toNat≠a.toNat:=λe=>j (by rw [show a=b by omega];exact hb);have e:(gu s a).proc b.toNat=s.proc b.toNat:=by unfold gu;rw [if_pos a1];exact iu k
     grind
theorem Good.qD {v:Int}:∀ {l:List ly} {s:MS},Good c fl s (λq=>(q:Int)∈l.map (·.proc)) No T->(l.map (·.proc)).Nodup->(∀w∈l,0<=w.proc/\w.proc.toNat<nQ c/\(s.proc w.proc.toNat).state≠4/\∃n,dF c w.proc.toNat (s.proc w.proc.toNat)=some n)->Good c fl (l.foldl (λs w=>bQ c s w.proc.toNat v) s) No No T
 | [],s,g,_,_=>g.congr λq=>⟨λh=>(by cases h),λh=>h.elim⟩
 | a::l,s,g,hp,d=>by
  rw [List.map_cons,List.nodup_cons] at hp;rw [List.foldl_cons];obtain ⟨a1,a2,a4,a5⟩:=d a (List.mem_cons_self ..);have ea:((a.proc.toNat:Nat):Int)=a.proc:=by omega
  have f:=g.told (p:=a.proc.toNat) a2 ⟨λh=>h,.inl (by grind)⟩ a4 a5 v;refine Good.qD (f.congr λq=>⟨λh=> ?_,λh=>⟨List.mem_cons_of_mem _ h,λe=> ?_⟩⟩) hp.2 λb hb=> ?_
  ·grind
  ·grind
  ·obtain ⟨j,k,m,o⟩:=d b (List.mem_cons_of_mem _ hb);have i:b.proc.toNat≠a.proc.toNat:=λe=>hp.1 (List.mem_map.2 ⟨b,hb,by omega⟩);have e:(bQ c s a.proc.toNat v).proc b.proc.toNat=s.proc b.proc.toNat:=iu i;grind
theorem Good.uv (g:Good c fl s No (λq=>q=p) T) (I:ax c p<nP c) (c1:(s.proc p).state≠3):Good c fl (((nX p (s.part (ax c p))).2).foldl gu (s.cX (ax c p) (nX p (s.part (ax c p))).1)) No (λq=>q=p) T/\
  (∀i,i<nP c->∀(k:Nat),((s.cX (ax c p) (nX p (s.part (ax c p))).1).part i).az[k]?≠some (p:Int))/\∀i,i<nP c->∀(k:Nat) q,((s.cX (ax c p) (nX p (s.part (ax c p))).1).part i).al[k]? =some q->(p:Int)∉q:=by
 have pm:=g.part _ I;have b5:(s.part (ax c p)).az.length=((s.part (ax c p)).al.map (gX λz=>decide (z=(p:Int)))).length:=by have:=pm.gJ;have:=pm.iz;grind
 obtain ⟨L1,L2,H,HG,U⟩:=Dm (p:=(p:Int)) b5;have B:∀ {z:Int} {q:List Int} {k:Nat},(s.part (ax c p)).al[k]? =some q->z∈q->z≠(p:Int)->0<=z/\z.toNat<nQ c/\ax c z.toNat=ax c p/\z.toNat≠p/\(s.proc z.toNat).state=3/\∃n,dF c z.toNat (s.proc z.toNat)=some n/\n.op=29/\n.lL=(k:Int):=λ{z q k} K v J=>by obtain ⟨a1,a2,a3,a4,a5⟩:=(g.iy _ I k q K).2.1 z v;grind
 have b3:∀ {k:Nat} {q:List Int},((s.part (ax c p)).al.map (gX λz=>decide (z=(p:Int))))[k]? =some q->∃l,(s.part (ax c p)).al[k]? =some l/\q=gX (λz=>decide (z=(p:Int))) l:=λ{k q} h=>by grind
 have D:∀ {k:Nat} {l:List Int} {z:Int},(s.part (ax c p)).al[k]? =some l->z∈gX (λz=>decide (z=(p:Int))) l->z≠(p:Int):=λ{k l z} K v=>by have nd:=(g.iy _ I k l K).1;exact Mj (g:=λz=>z) (by simpa using nd) z v
 have b2:∀(j k:Nat) (z:Int) (a b:List Int),((s.part (ax c p)).al.map (gX λz=>decide (z=(p:Int))))[j]? =some a->((s.part (ax c p)).al.map (gX λz=>decide (z=(p:Int))))[k]? =some b->z∈a->z∈b->j=k:=by intro j k z a b C hb b7 c4;obtain ⟨a0,a9,rfl⟩:=b3 C;obtain ⟨b0,b8,rfl⟩:=b3 hb;have J:=D a9 b7;obtain ⟨_,_,_,_,_,n1,m,_,O⟩:=B a9 (bO.subset b7) J;obtain ⟨_,_,_,_,_,n2,f1,_,f3⟩:=B b8 (bO.subset c4) J;grind
 have W:∀a∈(iA (p:Int) (s.part (ax c p)).az ((s.part (ax c p)).al.map (gX λz=>decide (z=(p:Int))))).2.2,a= -1\/∃(k:Nat) (l r:List Int),(s.part (ax c p)).az[k]? =some (p:Int)/\(s.part (ax c p)).al[k]? =some l/\gX (λz=>decide (z=(p:Int))) l=a::r:=λa C=>by grind
 have U:=U b2;have b4:∀ {k:Nat} {l:List Int},(s.part (ax c p)).al[k]? =some l->∃o,(s.part (ax c p)).az[k]? =some o:=λ{k l} h=>by have h1:=(List.getElem?_eq_some_iff.1 h).1;rw [List.length_map] at b5;exact ⟨_,List.getElem?_eq_getElem (by omega)⟩
 have G:∀ {k:Nat} {l:List Int},(s.part (ax c p)).al[k]? =some l->((s.part (ax c p)).al.map (gX λz=>decide (z=(p:Int))))[k]? =some (gX (λz=>decide (z=(p:Int))) l):=λ{k l} h=>by grind
 have eY:nX p (s.part (ax c p))=({s.part (ax c p) with az:=(iA (p:Int) (s.part (ax c p)).az ((s.part (ax c p)).al.map (gX λz=>decide (z=(p:Int))))).1,al:=(iA (p:Int) (s.part (ax c p)).az ((s.part (ax c p)).al.map (gX λz=>decide (z=(p:Int))))).2.1},(iA (p:Int) (s.part (ax c p)).az ((s.part (ax c p)).al.map (gX λz=>decide (z=(p:Int))))).2.2):=rfl;rw [eY];dsimp only;generalize iA (p:Int) (s.part (ax c p)).az ((s.part (ax c p)).al.map (gX λz=>decide (z=(p:Int))))=R at*;have b1:∀(k:Nat) u,R.2.1[k]? =some u->∃l o,(s.part (ax c p)).al[k]? =some l/\(s.part (ax c p)).az[k]? =some o/\((o≠(p:Int)/\R.1[k]? =some o/\u=gX (λz=>decide (z=(p:Int))) l)\/(o=(p:Int)/\gX (λz=>decide (z=(p:Int))) l=[]/\R.1[k]? =some (-1)/\u=[])\/(o=(p:Int)/\∃a,gX (λz=>decide (z=(p:Int))) l=a::u/\R.1[k]? =some a/\a∈R.2.2)):=λk u h=>by
  have h1:=(List.getElem?_eq_some_iff.1 h).1;rw [L2,List.length_map] at h1;have m:=List.getElem?_eq_getElem h1;obtain ⟨o,t⟩:=b4 m;refine ⟨_,o,m,t,?_⟩;rcases H k o _ t (G m) with ⟨a,b,d⟩ | ⟨a,b,d,f⟩ | ⟨a,x,r,b,d,f,y⟩
  ·rw [h] at d;exact .inl ⟨a,b,Option.some.inj d⟩
  ·rw [h] at f;exact .inr (.inl ⟨a,b,d,Option.some.inj f⟩)
  grind
 have b6:∀(k:Nat) u,R.2.1[k]? =some u->∃l,(s.part (ax c p)).al[k]? =some l/\u.Sublist (gX (λz=>decide (z=(p:Int))) l):=λk u h=>by
  obtain ⟨l,o,m,t,F⟩:=b1 k u h;refine ⟨l,m,?_⟩;rcases F with ⟨_,_,e⟩ | ⟨_,_,_,e⟩ | ⟨_,a,e,_⟩
  ·rw [e];exact List.Sublist.refl _
  ·rw [e];exact List.nil_sublist _
  grind
 have c0:∀(k:Nat) A,R.1[k]? =some A->A= -1\/(A≠(p:Int)/\((s.part (ax c p)).az[k]? =some A\/∃l,(s.part (ax c p)).al[k]? =some l/\A∈l)):=λk A h=>by
  have h1:=(List.getElem?_eq_some_iff.1 h).1;rw [L1] at h1;have c3:k<(s.part (ax c p)).al.length:=by grind
  have m:=List.getElem?_eq_getElem c3;have t:=List.getElem?_eq_getElem h1;rcases H k _ _ t (G m) with ⟨a,b,d⟩ | ⟨a,b,d,f⟩ | ⟨a,x,r,b,d,f,y⟩
  ·grind
  ·grind
  ·rw [h] at d;cases d;have hx:A∈gX (λz=>decide (z=(p:Int))) (s.part (ax c p)).al[k]:=by rw [b];exact List.mem_cons_self ..
   exact .inr ⟨D m hx,.inr ⟨_,m,bO.subset hx⟩⟩
 have g3:Good c fl (s.cX (ax c p) {s.part (ax c p) with az:=R.1,al:=R.2.1}) (λq=>(q:Int)∈R.2.2) (λq=>q=p) T:=by
  refine g.an ⟨pm.cur,pm.jH,pm.log,pm.lost,pm.kJ,pm.full,by show (R.1.length:Int)=_;rw [L1];exact pm.gJ,by show (R.2.1.length:Int)=_;rw [L2,List.length_map];exact pm.iz⟩ (λk A h=> ?_) (λk u h=> ?_) (λk l h=> ?_) (λq K=>by rw [K];exact c1) (λ_ h=>h.elim) λq h=>.inr ?_
  ·rcases c0 k A h with h1 | ⟨h1,V | ⟨l,V,F⟩⟩
   ·exact .inl h1
   ·exact g.own _ I k A V
   ·obtain ⟨a1,a2,a3,a4,a5,_⟩:=B V F h1;refine .inr ⟨a1,a2,a3,.inl ?_⟩;rw [cZ];omega
  ·have h:R.2.1[k]? =some u:=h;obtain ⟨l,o,m,t,F⟩:=b1 k u h;obtain ⟨q1,f1,f2⟩:=b6 k u h;rw [m] at f1;cases f1;obtain ⟨d1,d2,d3⟩:=g.iy _ I k l m;refine ⟨l,m,f2.trans bO,λJ=> ?_,λz v P=> ?_⟩
   ·show ∃o,R.1[k]? =some o/\o≠ -1/\o∉u;rcases F with ⟨L,E,Q⟩ | ⟨L,E,Q,x4⟩ | ⟨L,a,E,Q,x4⟩
    ·have c2:l≠ []:=λh=>J (List.eq_nil_of_sublist_nil (h▸f2.trans bO));obtain ⟨o1,M,N,S⟩:=d3 c2;rw [t] at M;cases M;exact ⟨o,E,N,λw=>S ((f2.trans bO).subset w)⟩
    ·grind
    ·have C:a∈gX (λz=>decide (z=(p:Int))) l:=by rw [E];exact List.mem_cons_self ..
     have:=(B m (bO.subset C) (D m C)).1;refine ⟨a,Q,by omega,λw=> ?_⟩;have nd:=d1.sublist (bO (f:=λz=>decide (z=(p:Int))));grind
   ·have a8:=f2.subset v;have c5:=D m a8;have c7:=B m (bO.subset a8) c5;have ez:((z.toNat:Nat):Int)=z:=by omega
    have P:((z.toNat:Nat):Int)∈R.2.2:=P;rw [ez] at P;rcases W z P with h5 | ⟨k2,q2,r2,M,N,S⟩
    ·omega
    ·have hk:=b2 k k2 z _ _ (G m) (G N) a8 (by grind);subst hk;rw [m] at N;cases N;rw [t] at M;cases M;rcases F with ⟨L,_⟩ | ⟨_,E,_⟩ | ⟨L,a,E,Q,x4⟩
     ·exact L rfl
     ·grind
     ·rw [E] at S;cases S;have nd:=d1.sublist (bO (f:=λz=>decide (z=(p:Int))));grind
  ·obtain ⟨o,t⟩:=b4 h;have key:∀z∈l,z=(p:Int)\/z∈gX (λz=>decide (z=(p:Int))) l:=λz v=>by
    by_cases e:z=(p:Int)
    ·exact .inl e
    ·exact .inr (YB v (decide_eq_false e))
   show ∃u,R.2.1[k]? =some u/\_;rcases H k o _ t (G h) with ⟨a,b,d⟩ | ⟨a,b,d,f⟩ | ⟨a,x,r,b,d,f,y⟩
   ·refine ⟨_,d,λz v=> ?_⟩;rcases key z v with h1 | h1
    ·exact .inr (.inr (by omega))
    ·exact .inl h1
   ·refine ⟨_,f,λz v=> ?_⟩;grind
   ·refine ⟨_,f,λz v=> ?_⟩;rcases key z v with h1 | h1
    ·exact .inr (.inr (by omega))
    ·have c6:=(B h (bO.subset h1) (D h h1)).1;rw [b] at h1;rcases List.mem_cons.1 h1 with rfl | h1
     ·refine .inr (.inl ?_);show ((z.toNat:Nat):Int)∈R.2.2;rw [show ((z.toNat:Nat):Int)=z by omega];exact y
     ·exact .inl h1
  ·have h:(q:Int)∈R.2.2:=h;rcases W _ h with h1 | ⟨k,l,r,m,t,O⟩
   ·omega
   ·have w:(q:Int)∈gX (λz=>decide (z=(p:Int))) l:=by rw [O];exact List.mem_cons_self ..
    have ho:=B t (bO.subset w) (D t w);rw [Int.toNat_natCast] at ho;omega
 refine ⟨Good.lJ g3 U λa C=> ?_,λi Y k h=> ?_,λi Y k q h w=> ?_⟩
 ·rcases W a C with h | ⟨k,l,r,m,t,O⟩
  ·exact .inl h
  ·have w:a∈gX (λz=>decide (z=(p:Int))) l:=by rw [O];exact List.mem_cons_self ..
   obtain ⟨a1,a2,a3,a4,a5,n,a6,_⟩:=B t (bO.subset w) (D t w);exact .inr ⟨a1,a2,a4,by show (s.proc a.toNat).state≠4;omega,n,a6⟩
 ·by_cases e:i=ax c p
  ·subst e;rw [sM] at h;grind
  ·rw [tC e] at h;rcases g.own i Y k _ h with h1 | ⟨_,_,h1,_⟩
   ·omega
   grind
 ·by_cases e:i=ax c p
  ·subst e;rw [sM] at h;obtain ⟨l,m,t⟩:=b6 k q h;grind
  ·rw [tC e] at h;have:=((g.iy i Y k q h).2.1 _ w).2.2.1;grind
end
section
variable {c:aV} {fl:Nat->Nat->Bool} {s:MS} {T:Int} {p:Nat} {X Z:Nat->Prop}
theorem IX :∀ {l:List Int} {s:MS},(∀a∈l,a≠(p:Int))->((l.foldl gu s).proc p)=s.proc p
 | [],_,_=>rfl
 | a::l,s,h=>by
  rw [List.foldl_cons,IX λb hb=>h b (List.mem_cons_of_mem _ hb)];unfold gu;split
  ·have:=h a (List.mem_cons_self ..);exact iu (by omega)
  ·rfl
theorem Cc {q:Nat}:∀ {l:List Int} {s:MS},((l.foldl gu s).proc q).af=(s.proc q).af/\(l.foldl gu s).part=s.part
 | [],_=>⟨rfl,rfl⟩
 | a::l,s=>by
  have h:=Cc (q:=q) (l:=l) (s:=gu s a);have b:((gu s a).proc q).af=(s.proc q).af/\(gu s a).part=s.part:=by
   unfold gu;split
   ·unfold oK;refine ⟨?_,rfl⟩;by_cases e:q=a.toNat
    ·subst e;rw [fH];rfl
    ·rw [iu e]
   ·exact ⟨rfl,rfl⟩
  grind
theorem Good.empty (g:Good c fl s No (λq=>q=p) T) (hp:p<nQ c) (b0:(s.proc p).state=5\/(s.proc p).state=6) (a8:∀i,i<nP c->∀(k:Nat),(s.part i).az[k]?≠some (p:Int)) (R:∀i,i<nP c->∀(k:Nat) q,(s.part i).al[k]? =some q->(p:Int)∉q)
  (S:∀r,r<nQ c->∀l∈(s.proc r).af,∀w∈l.waiters,w.proc≠(p:Int)):Good c fl (iU (gR s p) p) (λq=>(q:Int)∈(((s.proc p).af.flatMap (·.waiters)).map (·.proc))) No T:=by
 have y:(iU (gR s p) p).proc p={s.proc p with timer:=0,cn:=0,af:=(s.proc p).af.map se}:=by unfold iU gR;rw [fH,fH]
 have m:∀r,r≠p->(iU (gR s p) p).proc r=s.proc r:=λr e=>by unfold iU gR;rw [iu e,iu e]
 have t:(iU (gR s p) p).part=s.part:=rfl;have I:(iU (gR s p) p).tick=s.tick:=rfl;have H:∀q:Nat,(q:Int)∈(((s.proc p).af.flatMap (·.waiters)).map (·.proc))->q≠p/\(s.proc q).state=2/\∃n,dF c q (s.proc q)=some n/\n.op=24/\ft (s.proc q).br n.b=(p:Int):=by
  intro q h;obtain ⟨w,f,e⟩:=List.mem_map.1 h;obtain ⟨l,Q,U⟩:=List.mem_flatMap.1 f;obtain ⟨i,a,O⟩:=List.getElem_of_mem Q;have P:(s.proc p).af[i]? =some l:=by rw [List.getElem?_eq_getElem a,O]
  obtain ⟨a1,a2,a3,a4,a5⟩:=(g.dJ p hp i l P).2.2 w U;grind
 generalize iU (gR s p) p=s' at*;refine ⟨by rw [I];exact g.tick,λi a=>by rw [t];exact g.part i a,λr d=> ?_,λi a k o h=> ?_,λi a k q h=> ?_,λr d i l h=> ?_,λr d j h=> ?_,λr d j h=> ?_⟩
 ·rw [I];have pm:=g.proc r d;have ht:=g.tick;by_cases e:r=p
  ·subst e;rw [y];refine ⟨pm.st,pm.pc,by show (List.map _ _).length=_;rw [List.length_map];exact pm.lr,by show 0<=(s.proc r).ae/\(s.proc r).ae<((List.map _ _).length:Int);rw [List.length_map];exact pm.cur,by show (0:Int)<=0/\(0:Int)<=_;omega,by show (0:Int)<=0/\(0:Int)<=_;omega,.inr ⟨λh=>absurd h (Int.lt_irrefl 0),λh=> ?_⟩,λh=>⟨.inr rfl,(pm.dead h).2⟩,λi l h=> ?_,λh=> ?_,λh=> ?_,λh=> ?_,λh=> ?_,pm.br⟩
   ·have h:(s.proc r).state=4:=h;omega
   ·have h:((s.proc r).af.map se)[i]? =some l:=h;rw [List.getElem?_map] at h;cases e:(s.proc r).af[i]? with
    | none=>rw [e] at h;cases h
    | some K=>rw [e] at h;cases h;exact pm.dJ i K e
   ·have h:(s.proc r).state=1:=h;omega
   ·have h:(s.proc r).state=2:=h;omega
   ·have h:(s.proc r).state=3:=h;omega
   grind
  ·rw [m r e];exact ⟨pm.st,pm.pc,pm.lr,pm.cur,pm.mG,pm.mH,.inr (pm.ns.resolve_left e),λh=>⟨.inr ((pm.dead h).1.resolve_left e),(pm.dead h).2⟩,pm.dJ,pm.recv,pm.snd,pm.pD,pm.jh,pm.br⟩
 ·rw [t] at h;rcases g.own i a k o h with x | ⟨x,E,F,G⟩
  ·exact .inl x
  grind
 ·rw [t] at h ⊢;obtain ⟨u,C,v⟩:=g.iy i a k q h;refine ⟨u,λz J=> ?_,v⟩;obtain ⟨a1,a2,a3,a4,a5⟩:=C z J;have V:z.toNat≠p:=λe=>R i a k q h (by rw [show (p:Int)=z by clear a5;omega];exact J);have a5:=a5.resolve_left V;refine ⟨a1,a2,a3,λj=> ?_,.inr ?_⟩
  ·have:=(H _ j).2.1;have h9:=a5.1;clear a5;omega
  grind
 ·by_cases e:r=p
  ·subst e;rw [y] at h;have h:((s.proc r).af.map se)[i]? =some l:=h;rw [List.getElem?_map] at h;cases e:(s.proc r).af[i]? with
   | none=>grind
   | some K=>rw [e] at h;cases h;exact ⟨List.Pairwise.nil,λh=>absurd rfl h,λw f=>by cases f⟩
  ·rw [m r e] at h;obtain ⟨u,C,v⟩:=g.dJ r d i l h;refine ⟨u,λf=> ?_,λw f=> ?_⟩
   ·grind
   ·obtain ⟨a1,a2,a3,a4,a5⟩:=v w f;have B:=S r d l (List.mem_of_getElem? h) w f;have B:w.proc.toNat≠p:=λe=>B (by clear a5;omega);obtain ⟨Y,n,L,c3,M,c5⟩:=a5.resolve_left B;refine ⟨a1,a2,a3,λj=> ?_,.inr ?_⟩
    ·obtain ⟨_,_,n',D,_,N⟩:=H _ j;rw [L] at D;cases D;rw [M] at N;clear a5;omega
    grind
 ·have A:r≠p:=λe=>by grind
  rw [m r A] at h;rw [t];exact g.rj r d (λh=>h) h
 ·have A:r≠p:=λe=>by subst e;rw [y] at h;have h:(s.proc r).state=2:=h;omega
  rw [m r A] at h;obtain ⟨W,x,l,E,w,F,G⟩:=g.ri r d (λh=>h) h;have a9:W≠p:=λe=>by subst e;refine j ?_;show (r:Int)∈_;exact List.mem_map.2 ⟨w,List.mem_flatMap.2 ⟨l,List.mem_of_getElem? E,F⟩,G⟩
  grind
theorem Good.ends (m:cg c) (g:Good c fl s No No T) {st:Int} (Y:st=5\/st=6) (hp:p<nQ c):Good c fl (kI c s p st) No No T:=by
 have b:=m.eR (p:=p);rw [yf];have J:=g.dying (st:=st) Y hp;have B:((fL s p st).proc p).state=st:=by unfold fL;rw [fH]
 obtain ⟨u,C⟩:=Good.leave (p:=p) (s:=fL s p st) (L:=dK c (ax c p)) J ⟨by rw [B];omega,by rw [B];omega⟩ λq=>fD;have u:Good c fl (dV c s p st) No (λq=>q=p) T:=u;have C:∀r,r<nQ c->∀l∈((dV c s p st).proc r).af,∀w∈l.waiters,w.proc≠(p:Int):=C;have o:((dV c s p st).proc p).state=st:=by show (if p∈dK c (ax c p) then mh p ((fL s p st).proc p) else (fL s p st).proc p).state=st;split<;>exact B
 obtain ⟨x,V,W⟩:=u.uv b (by rw [o];omega);have x:Good c fl (iT c (dV c s p st) p) No (λq=>q=p) T:=x;have F:=λq=>Cc (q:=q) (l:=(nX p ((dV c s p st).part (ax c p))).2) (s:=pB c (dV c s p st) p);have G:(iT c (dV c s p st) p).part=(pB c (dV c s p st) p).part:=(F 0).2;have S:∀q,((iT c (dV c s p st) p).proc q).af=((dV c s p st).proc q).af:=λq=>(F q).1;have b0:(iT c (dV c s p st) p).proc p=(dV c s p st).proc p:=by
  refine IX (s:=pB c (dV c s p st) p) λa O=> ?_;have U:((dV c s p st).part (ax c p)).az.length=(((dV c s p st).part (ax c p)).al.map (gX λz=>decide (z=(p:Int)))).length:=by have:=(u.part _ b).gJ;have:=(u.part _ b).iz;grind
  rcases (Dm (p:=(p:Int)) U).2.2.2.1 a O with h | ⟨k,r,E,v⟩
  ·omega
  ·intro e;rw [List.getElem?_map] at v;cases D:((dV c s p st).part (ax c p)).al[k]? with
   | none=>grind
   | some q0=>rw [D] at v;have v:=Option.some.inj v;have nd:=(u.iy _ b k q0 D).1;exact Mj (g:=λz=>z) (by simpa using nd) a (by grind) e
 have a8:((iT c (dV c s p st) p).proc p).state=5\/((iT c (dV c s p st) p).proc p).state=6:=by grind
 generalize iT c (dV c s p st) p=f at*;have K:=x.empty hp a8 (λi b k=>by rw [G];exact V i b k) (λi b k q h=>by rw [G] at h;exact W i b k q h) λr hr l d=>by grind
 have I:qc c (gR f p) p=((f.proc p).af.flatMap (·.waiters)).foldl (λs w=>bQ c s w.proc.toNat 2) (iU (gR f p) p):=by
  unfold qc;have:((gR f p).proc p).af=(f.proc p).af:=by unfold gR;rw [fH]
  rw [this]
 rw [I];refine Good.qD K ?_ λw hw=> ?_
 · -- kj waits stands in one lane alone
  have key:∀(t:List bq) (j:Nat),(∀(i:Nat) l,t[i]? =some l->(l.waiters.map (·.proc)).Nodup/\(l.waiters≠ []->i=j))->((t.flatMap (·.waiters)).map (·.proc)).Nodup:=by
   intro t
   induction t with
   | nil=>intro j _;exact List.Pairwise.nil
   | cons a t ih=>
    intro j h;rw [List.flatMap_cons,List.map_append];obtain ⟨E,v⟩:=h 0 a rfl;by_cases e:a.waiters=[]
    ·rw [e];cases j with
     | zero=>
      have:t.flatMap (·.waiters)=[]:=by
       rw [List.flatMap_eq_nil_iff];intro l d;obtain ⟨i,b,y⟩:=List.getElem_of_mem d;by_cases o:l.waiters=[]
       ·exact o
       ·have:=(h (i+1) l (by simp [List.getElem?_eq_getElem b,y])).2 o;omega
      rw [this];exact List.Pairwise.nil
     | succ j=>refine ih j λi l d=> ?_;obtain ⟨M,N⟩:=h (i+1) l (by simpa using d);exact ⟨M,λA=>by have:=N A;omega⟩
    ·have R:=v e;subst R;have:t.flatMap (·.waiters)=[]:=by
      rw [List.flatMap_eq_nil_iff];intro l d;obtain ⟨i,b,y⟩:=List.getElem_of_mem d;by_cases o:l.waiters=[]
      ·exact o
      ·have:=(h (i+1) l (by simp [List.getElem?_eq_getElem b,y])).2 o;omega
     rw [this];simpa using E
  refine key _ (ax c p) λi l d=> ?_;obtain ⟨b1,b2,b3⟩:=x.dJ p hp i l d;grind
 ·obtain ⟨l,d,H⟩:=List.mem_flatMap.1 hw;obtain ⟨i,Q,y⟩:=List.getElem_of_mem d;have P:(f.proc p).af[i]? =some l:=by rw [List.getElem?_eq_getElem Q,y]
  obtain ⟨a1,a2,a3,a4,a5⟩:=(x.dJ p hp i l P).2.2 w H;have a9:=C p hp l (by rw [S] at d;exact d) w H;have A:w.proc.toNat≠p:=λe=>a9 (by clear a5;omega);obtain ⟨c1,n,c2,_⟩:=a5.resolve_left A;have e:(iU (gR f p) p).proc w.proc.toNat=f.proc w.proc.toNat:=by unfold iU gR;rw [iu A,iu A]
  grind
end
section
variable {c:aV} {fl:Nat->Nat->Bool} {s:MS} {T:Int} {p:Nat} {t:Int} {x:ai} {z:Prop}
theorem Good.out (m:cg c) (g:Good c fl s No No T) {v:Int} (hp:p<nQ c) (k:T=s.tick+1):Good c fl (pI c s p v) No No T:=by
 have i:=m.eR (p:=p);have pm:=g.part _ i;have j:=g.tick;unfold pI;dsimp only;by_cases h:((s.part (ax c p)).log.length:Int)<c.log
 ·rw [if_pos h];refine g.parts ⟨pm.cur,by grind,⟨?_,λe he=> ?_⟩,pm.lost,pm.kJ,λd=> ?_,pm.gJ,pm.iz⟩ rfl rfl
  ·show ((s.part (ax c p)).log++ [_]).Pairwise _;rw [List.pairwise_append];refine ⟨pm.log.1,List.pairwise_singleton _ _,λa f b hb=> ?_⟩;have:=pm.log.2 a f;grind
  ·have he:e∈(s.part (ax c p)).log++ [⟨s.tick,(p:Int),v⟩]:=he;rcases List.mem_append.1 he with he | he
   ·exact pm.log.2 e he
   grind
  ·have d:0<(s.part (ax c p)).lost:=d;have:=pm.full d;omega
 ·rw [if_neg h];exact g.parts ⟨pm.cur,pm.jH,pm.log,vj pm.lost,pm.kJ,λ_=>by grind,pm.gJ,pm.iz⟩ rfl rfl
theorem Ei :x.put x.core=x:=rfl
theorem cL.sleep (pm:cL c fl t p z x) (e:x.state=0) {n:dP} (a:dF c p x=some n) (b:n.op=28) {w:Int} (d:0<w/\w<=t+1099511627776):cL c fl t p z {x with state:=4,cn:=w} where
 st:=by simp
 pc:=pm.pc
 lr:=pm.lr
 cur:=pm.cur
 mG:=pm.mG
 mH:=by grind
 ns:=.inr ⟨λ_=>rfl,λ_=>d.1⟩
 dead:=λh=>by grind
 dJ:=pm.dJ
 recv:=λh=>by grind
 snd:=λh=>by grind
 pD:=λh=>by grind
 jh:=λ_=>⟨n,a,b⟩
 br:=pm.br
theorem cL.timer (pm:cL c fl t p z x) (b:x.state=0) {w:Int} (a:0<=w/\w<=t+1099511627776):cL c fl t p z {x with bF:=false,timer:=w} where
 st:=pm.st
 pc:=pm.pc
 lr:=pm.lr
 cur:=pm.cur
 mG:=a
 mH:=pm.mH
 ns:=pm.ns
 dead:=λh=>by grind
 dJ:=pm.dJ
 recv:=λh=>by grind
 snd:=pm.snd
 pD:=pm.pD
 jh:=pm.jh
 br:=pm.br
theorem Good.MQ {D:Int->Int->Int->Int} (m:cg c) (g:Good c fl s No No T) (hp:p<nQ c) (f:(s.proc p).state=0) (H:T=s.tick+1):Good c fl (sb c D fl s p) No No T:=by
 have pm:=g.proc p hp;have P:=g.tick;have r:Out s No No p:=wa ⟨by omega,by omega⟩;have j:s.aG p (s.proc p)=s:=by unfold MS.aG;rw [xL]
 have O:∀ {y:ai},y.state=0\/y.state=4->(jk (s.proc p)=true->jk y=true):=λ{y} Q _=>by rw [cZ];omega
 unfold sb;dsimp only;rcases DV (D:=D) (l:=gz c p) (k:=(s.proc p).core) (tk:=s.tick) (self:=(p:Int)) with ⟨C,E⟩ | ⟨n,u,J,⟨_,e⟩ | ⟨w,st,L,e⟩⟩
 ·rw [C,if_pos rfl,E,Ei,j];exact g.ends m (.inl rfl) hp
 ·rw [e];dsimp only;rw [if_neg (by omega),if_neg (by omega),if_neg (by omega),if_neg (by omega),if_neg (by omega),if_neg (by omega),if_neg (by omega),if_neg (by omega),if_neg (by omega)];have A:=Kz (D:=D) (tk:=s.tick) (self:=(p:Int)) u J pm.br;exact we (g.core r pm rfl f A.1 A.2)
 ·rw [e];dsimp only;have i:dF c p (s.proc p)=some n:=u;have N:=AU i;have q:Good c fl (s.aG p ((s.proc p).put (fC (s.proc p).core))) No No T:=we (g.core r pm rfl f ⟨by show 0<=(s.proc p).pc+1;omega,by show (s.proc p).pc+1<=_;omega⟩ pm.br);have F:∀v:Int,0<v->0<pG v 1099511627776/\pG v 1099511627776<=1099511627776:=λv hv=>by unfold pG;split<;>omega
  rcases Ky L with ⟨a,b⟩ | ⟨o,a,b⟩ | ⟨o,a,b⟩ | ⟨o,a,b⟩ | ⟨a,b⟩ | ⟨o,a,b⟩ | ⟨o,a,d,b⟩ | ⟨o,a,d,b⟩ | ⟨a,b⟩
  ·rw [if_pos a,b];simp only [if_true];rw [Ei,j];exact g.ends m (.inl rfl) hp
  ·rw [a,b];dsimp only;rw [if_neg (by omega),if_pos rfl];simp only [if_true];rw [Ei,j];exact g.send m hp f i o rfl rfl
  ·rw [if_neg (by omega),if_neg (by omega),if_pos a,b];simp only [if_true];rw [Ei,j];exact g.take m hp f i λ_=>o
  ·rw [if_neg (by omega),if_neg (by omega),if_neg (by omega),if_pos a,b];simp only [if_true];rw [Ei,j];exact g.take m hp f i λh=>by cases h
  ·rw [if_neg (by omega),if_neg (by omega),if_neg (by omega),if_neg (by omega),if_pos a,b];simp only [Bool.false_eq_true,if_false];rw [fH];have M:Out (s.aG p ((s.proc p).put (fC (s.proc p).core))) No No p:=wa (by rw [fH];exact ⟨by show (s.proc p).state≠2;omega,by show (s.proc p).state≠3;omega⟩);have B:=q.proc p hp;rw [fH] at B;have I:0<=(if 0<w.value then s.tick+pG w.value 1099511627776 else 0)/\(if 0<w.value then s.tick+pG w.value 1099511627776 else 0)<=s.tick+1099511627776:=by grind
   refine we (q.run M (B.timer f I) ⟨by show (s.proc p).state≠2;omega,by show (s.proc p).state≠3;omega⟩ (by rw [fH]) λ_=> ?_);rw [cZ];exact ⟨by show (s.proc p).state≠5;omega,by show (s.proc p).state≠6;omega⟩
  ·rw [if_neg (by omega),if_neg (by omega),if_neg (by omega),if_neg (by omega),if_neg (by omega),if_pos a,b];simp only [if_true];rw [Ei,j];have G:0<uH w.value 1:=by unfold uH;split<;>omega
   have:=F _ G;refine we (g.run r (pm.sleep f i o (w:=s.tick+pG (uH w.value 1) 1099511627776) ⟨by omega,by omega⟩) ⟨by show (4:Int)≠2;omega,by show (4:Int)≠3;omega⟩ rfl λ_=> ?_);grind
  ·rw [if_neg (by omega),if_neg (by omega),if_neg (by omega),if_neg (by omega),if_neg (by omega),if_neg (by omega),if_pos a,b];simp only [if_true];rw [Ei,j];exact g.lock m hp f i o d.symm
  ·rw [if_neg (by omega),if_neg (by omega),if_neg (by omega),if_neg (by omega),if_neg (by omega),if_neg (by omega),if_neg (by omega),if_pos a,b];simp only [Bool.false_eq_true,if_false];have K:=wT (m.ins i).1 (.inr o);exact q.unlock m hp (by rw [d];exact K)
  ·rw [if_neg (by omega),if_neg (by omega),if_neg (by omega),if_neg (by omega),if_neg (by omega),if_neg (by omega),if_neg (by omega),if_neg (by omega),if_pos a,b];simp only [Bool.false_eq_true,if_false];exact q.out m hp H
end
section
variable {c:aV} {fl:Nat->Nat->Bool} {s:MS} {T:Int} {p:Nat} {t:Int} {x:ai} {z:Prop}
theorem R2 {to v:Int}:(iI c fl s p to v).tick=s.tick:=by
 unfold iI
 repeat' split
 all_goals rfl
theorem JI {a:Int}:(gu s a).tick=s.tick:=by unfold gu;split<;>rfl
theorem IY :∀ {l:List Int} {s:MS},(l.foldl gu s).tick=s.tick
 | [],_=>rfl
 | a::l,s=>by rw [List.foldl_cons,IY,JI]
theorem JJ {v:Int}:∀ {l:List ly} {s:MS},(l.foldl (λs w=>bQ c s w.proc.toNat v) s).tick=s.tick
 | [],_=>rfl
 | a::l,s=>by rw [List.foldl_cons,JJ];rfl
theorem KB {b:Bool}:(ir c s p b).tick=s.tick:=by
 unfold ir;dsimp only
 repeat' split
 all_goals rfl
theorem R4 {n:Int}:(ij c s p n).tick=s.tick:=by unfold ij;dsimp only;split<;>rfl
theorem aaH {n:Int}:(sL c s p n).tick=s.tick:=by
 unfold sL;dsimp only;split
 ·split
  ·rfl
  ·exact JI
 ·rfl
theorem GJ {st:Int}:(kI c s p st).tick=s.tick:=by rw [yf];unfold qc;rw [JJ];show (iT c (dV c s p st) p).tick=_;unfold iT;rw [IY];rfl
theorem Ey {D:Int->Int->Int->Int}:(sb c D fl s p).tick=s.tick:=by
 unfold sb;dsimp only;split
 ·exact GJ
 split
 ·exact R2
 split
 ·exact KB
 split
 ·exact KB
 split
 ·rfl
 split
 ·rfl
 split
 ·exact R4
 split
 ·exact aaH
 split
 ·rfl
 ·rfl
theorem Good.qI {X Z:Nat->Prop} {T':Int} (g:Good c fl s X Z T) (h:T<=T'):Good c fl s X Z T':=
 ⟨g.tick,λi b=>by
  have pm:=g.part i b;exact ⟨pm.cur,pm.jH,⟨pm.log.1,λe a=>by have:=pm.log.2 e a;omega⟩,pm.lost,pm.kJ,pm.full,pm.gJ,pm.iz⟩,g.proc,g.own,g.iy,g.dJ,g.rj,g.ri⟩
theorem Good.MR (g:Good c fl s No No T) (hp:p<nQ c):Good c fl (s.aG p (kX s.tick (s.proc p))) No No T:=by
 have H:=g.tick;have B:s.aG p (s.proc p)=s:=by unfold MS.aG;rw [xL]
 have f:Good c fl (s.aG p (if 0<(s.proc p).cn/\(s.proc p).cn<=s.tick then {s.proc p with cn:=0,state:=0,pc:=(s.proc p).pc+1} else s.proc p)) No No T:=by
  by_cases h:0<(s.proc p).cn/\(s.proc p).cn<=s.tick
  ·rw [if_pos h];have pm:=g.proc p hp;have o:=(pm.ns.resolve_left (λh=>h)).1 h.1;obtain ⟨n,v,_⟩:=pm.jh o;have G:=AU v;refine we (g.run (wa ⟨by omega,by omega⟩) ⟨by show (0:Int)<=0/\(0:Int)<=6;omega,by show 0<=(s.proc p).pc+1/\(s.proc p).pc+1<=_;omega,pm.lr,pm.cur,pm.mG,by show (0:Int)<=0/\(0:Int)<=_;omega,.inr ⟨λh=>absurd h (Int.lt_irrefl 0),λh=>by have h:(0:Int)=4:=h;omega⟩,λh=>by have h:(0:Int)=5\/(0:Int)=6:=h;omega,pm.dJ,λh=>by have h:(0:Int)=1:=h;omega,λh=>by have h:(0:Int)=2:=h;omega,λh=>by have h:(0:Int)=3:=h;omega,λh=>by have h:(0:Int)=4:=h;omega,pm.br⟩ ⟨by show (0:Int)≠2;omega,by show (0:Int)≠3;omega⟩ rfl λ_=>rfl)
  ·rw [if_neg h,B];exact g
 generalize E:(if 0<(s.proc p).cn/\(s.proc p).cn<=s.tick then ({s.proc p with cn:=0,state:=0,pc:=(s.proc p).pc+1}:ai) else s.proc p)=y at f;have e:kX s.tick (s.proc p)=if 0<y.timer/\y.timer<=s.tick then {y with timer:=0,bF:=true,state:=if y.state=1 then 0 else y.state} else y:=by unfold kX;dsimp only;rw [E]
 rw [e];by_cases h:0<y.timer/\y.timer<=s.tick
 ·rw [if_pos h];have pm:=f.proc p hp;rw [fH] at pm;have C:(if y.state=1 then (0:Int) else y.state)=y.state\/(y.state=1/\(if y.state=1 then (0:Int) else y.state)=0):=by
   by_cases h:y.state=1
   ·right;exact ⟨h,if_pos h⟩
   ·left;exact if_neg h
  have b:∀ {m:Int},m≠0->(if y.state=1 then (0:Int) else y.state)=m->y.state=m/\y.state≠1:=λ{m} u h=>by
   by_cases k:y.state=1
   ·rw [if_pos k] at h;exact absurd h.symm u
   ·rw [if_neg k] at h;exact ⟨h,k⟩
  have hb:=pm.st;have q:=f.af (p:=p) (x':={y with timer:=0,bF:=true,state:=if y.state=1 then 0 else y.state}) (X':=No)
   ⟨by show 0<=(if y.state=1 then (0:Int) else y.state)/\(if y.state=1 then (0:Int) else y.state)<=6;split<;>omega,pm.pc,pm.lr,pm.cur,by show (0:Int)<=0/\(0:Int)<=_;have:(s.aG p y).tick=s.tick:=rfl;omega,pm.mH,
    pm.ns.imp (λh=>h) λr=>⟨λa=>by
     have:=r.1 a;show (if y.state=1 then (0:Int) else y.state)=4;rw [if_neg (by omega)];exact this,λa=>r.2 (b (by decide) a).1⟩,
    λa=>by have a:(if y.state=1 then (0:Int) else y.state)=5\/(if y.state=1 then (0:Int) else y.state)=6:=a;have o:y.state=5\/y.state=6:=a.imp (λh=>(b (by decide) h).1) λh=>(b (by decide) h).1;have:=(pm.dead o).1.resolve_left (λh=>h);omega,
    pm.dJ,λa=>absurd (b (by decide) a).1 (b (by decide) a).2,λa=>pm.snd (b (by decide) a).1,λa=>pm.pD (b (by decide) a).1,λa=>pm.jh (b (by decide) a).1,pm.br⟩
   (by rw [fH];exact C) (by rw [fH]) (by rw [fH]) (by rw [fH]) (λi l F j d=>by
    rw [fH] at j;have d:y.af[i]? =some F:=d;rw [j] at d;cases d;refine ⟨List.Sublist.refl _,λA=> ?_,λw D=>.inl D⟩;exact ((f.dJ p hp i l (by rw [fH];exact j)).2.1 A).2.2) hp (λ_ h=>h) (λ_ h=>h.elim)
  rw [AL] at q;exact q
 grind
def mU (s:MS) (l:List Nat):MS:=⟨s.tick,s.part,λq=>if q∈l then kX s.tick (s.proc q) else s.proc q⟩
theorem Good.Fh (g:Good c fl s No No T):∀(l:List Nat),(∀q∈l,q<nQ c)->l.Nodup->Good c fl (mU s l) No No T
 | [],_,_=>by
  have e:mU s []=s:=by unfold mU;simp
  rw [e];exact g
 | q::l,h,b=>by
  rw [List.nodup_cons] at b;have f:=g.Fh l (λr i=>h r (List.mem_cons_of_mem _ i)) b.2;have j:=f.MR (p:=q) (h q (List.mem_cons_self ..));have d:(mU s l).proc q=s.proc q:=if_neg b.1;have e:(mU s l).aG q (kX (mU s l).tick ((mU s l).proc q))=mU s (q::l):=by
   rw [d];unfold mU MS.aG;congr 1;funext r;unfold cm;by_cases e:r=q
   ·subst e;rw [if_pos rfl,if_pos (by simp)]
   ·rw [if_neg e];show (if r∈l then kX s.tick (s.proc r) else s.proc r)=_;by_cases a:r∈l
    ·rw [if_pos a,if_pos (by simp [a])]
    ·rw [if_neg a,if_neg (by simp [a,e])]
  grind
theorem Good.due (g:Good c fl s No No T) {i:Nat}:Good c fl (gQ c s i) No No T:=by
 have h:=g.Fh (dK c i) (λq b=>(fD.1 b).1) KA;have e:mU s (dK c i)=gQ c s i:=by
  unfold mU gQ;congr 1;funext q;by_cases h:q<nQ c/\ax c q=i
  ·rw [if_pos h,if_pos (fD.2 h)]
  ·rw [if_neg h,if_neg λa=>h (fD.1 a)]
 grind
theorem CC {i a:Nat} (h:ik c s i=some a):a<(dK c i).length/\(s.proc ((dK c i).getD a 0)).state=0:=by unfold ik at h;have d:=List.find?_some h;have f:=List.mem_of_find?_eq_some h;obtain ⟨k,b,e⟩:=List.mem_map.1 f;have b:=List.mem_range.1 b;refine ⟨?_,of_decide_eq_true d⟩;rw [<-e];exact Nat.mod_lt _ (by omega)
theorem Good.Bz {D:Int->Int->Int->Int} (m:cg c) (g:Good c fl s No No T) {i a:Nat} (e:i<nP c) (j:T=s.tick+1) (h:ik c s i=some a):Good c fl (ji c D fl s i a) No No T:=by
 obtain ⟨n,d⟩:=CC h;unfold ji;have pm:=g.part i e;have b:Good c fl (s.cX i {s.part i with ae:=((a+1:Nat):Int)%((dK c i).length:Int)}) No No T:=by refine g.parts ⟨?_,pm.jH,pm.log,pm.lost,pm.kJ,pm.full,pm.gJ,pm.iz⟩ rfl rfl;have k:=Int.emod_nonneg ((a+1:Nat):Int) (show ((dK c i).length:Int)≠0 by omega);have l:=Int.emod_lt_of_pos ((a+1:Nat):Int) (show (0:Int)<((dK c i).length:Int) by omega);grind
 have f:(dK c i).getD a 0∈dK c i:=by grind
 exact b.MQ m (fD.1 f).1 d j
theorem Good.turns {D:Int->Int->Int->Int} (m:cg c) {i:Nat} (b:i<nP c):∀(n:Nat) {s:MS},Good c fl s No No T->T=s.tick+1->Good c fl (kQ c D fl i n s) No No T/\(kQ c D fl i n s).tick=s.tick
 | 0,s,g,_=>⟨g,rfl⟩
 | n+1,s,g,d=>by
  unfold kQ;cases h:ik c s i with
  | none=>exact ⟨g,rfl⟩
  | some a=>have e:(ji c D fl s i a).tick=s.tick:=Ey;have:=Good.turns (D:=D) m b n (g.Bz (D:=D) m b d h) (by rw [e];exact d);grind
theorem cg.je (m:cg c) {t:Int}:iv c t<nP c:=by
 unfold iv;have h:=m.table;have b:0<c.table.length:=List.length_pos_iff.2 h.1;have a:t.toNat%c.table.length<c.table.length:=Nat.mod_lt _ b;have:c.table.getD (t.toNat%c.table.length) 0=c.table[t.toNat%c.table.length]:=by simp [List.getD,List.getElem?_eq_getElem a]
 rw [this];have:=h.2.2 _ (List.getElem_mem a);omega
theorem cL.later (pm:cL c fl t p z x) {a:Int} (h:t<=a):cL c fl a p z x:=
 ⟨pm.st,pm.pc,pm.lr,pm.cur,by have:=pm.mG;omega,by have:=pm.mH;omega,pm.ns,pm.dead,pm.dJ,pm.recv,pm.snd,pm.pD,pm.jh,pm.br⟩
theorem Good.uV {D:Int->Int->Int->Int} (m:cg c) (g:Good c fl s No No s.tick):Good c fl (iJ c D fl s) No No (iJ c D fl s).tick:=by have d:=(g.qI (T':=s.tick+1) (by omega)).due (i:=iv c s.tick);obtain ⟨a,b⟩:=Good.turns (D:=D) m (m.je (t:=s.tick)) c.fuel.toNat d rfl;have b:(kQ c D fl (iv c s.tick) c.fuel.toNat (gQ c s (iv c s.tick))).tick=s.tick:=b;have f:=a.tick;unfold iJ;dsimp only;rw [b];exact ⟨by grind,a.part,λq e=>(a.proc q e).later (by grind),a.own,a.iy,a.dJ,a.rj,a.ri⟩
theorem DR {v:Int} (h:pS c s v=0):0<=v/\v.toNat<nQ c/\jk (s.proc v.toNat)=true:=by unfold pS at h;grind
theorem Good.Be (g:Good c fl s No No T) {q v:Int}:Good c fl (zip c s q v).1 No No T:=by
 unfold zip;by_cases h:pS c s q≠0
 ·grind
 rw [if_neg h];obtain ⟨k,d,m⟩:=DR (Classical.not_not.1 h);have b:∀l,(s.proc q.toNat).af[nP c]? =some l->(l.values.length:Int)<=c.lane/\jB l.taken/\jB l.dropped:=λl a=>by have:=(g.proc _ d).dJ _ l a;grind
 by_cases e:ed c (s.proc q.toNat) (nP c)=true
 ·rw [if_pos e];exact g.lane d (i:=nP c) (f:=jc) (λl a=>⟨(b l a).1,(b l a).2.1,vj (b l a).2.2,λ_ h=>by omega⟩) (λl a=>⟨rfl,λ_=>rfl⟩) false λ_ l a=>a
 ·rw [if_neg e];have n:∀l,(s.proc q.toNat).af[nP c]? =some l->(l.values.length:Int)<c.lane:=λl a=>by unfold ed at e;grind
  exact g.lane d (i:=nP c) (f:=rn v) (λl a=>⟨by
   show ((l.values++ [v]).length:Int)<=_;grind,(b l a).2.1,(b l a).2.2,λ_ h=>by omega⟩) (λl a=>⟨rfl,λj=>by
   have:=((g.dJ _ d _ l a).2.1 j).2.2;grind⟩) true λh=>by cases h
theorem Good.kill (m:cg c) (g:Good c fl s No No T) {q:Int}:Good c fl (ig c s q).1 No No T:=by
 unfold ig;by_cases h:pS c s q≠0
 ·grind
 rw [if_neg h];exact g.ends m (.inr rfl) (DR (Classical.not_not.1 h)).2.1
theorem aaJ {q v:Int}:(zip c s q v).1.tick=s.tick:=by
 unfold zip;split
 ·rfl
 ·split<;>rfl
theorem R6 {q:Int}:(ig c s q).1.tick=s.tick:=by
 unfold ig;split
 ·rfl
 ·exact GJ
theorem Good.first (m:cg c):Good c fl (pP c) No No (pP c).tick where
 tick:=Int.le_refl _
 part:=λi a=>by
  have f:=m.an;have g:=m.log;refine ⟨⟨Int.le_refl _,λh=>absurd h (Int.lt_irrefl 0)⟩,by show ((0:Nat):Int)<=c.log;omega,⟨List.Pairwise.nil,λe b=>by cases b⟩,⟨Int.le_refl _,by show (0:Int)<=65535;omega⟩,⟨Int.le_refl _,by show (0:Int)<=65535;omega⟩,λh=>absurd h (Int.lt_irrefl 0),?_,?_⟩
  ·show ((List.replicate c.an.toNat (-1:Int)).length:Int)=_;grind
  ·show ((List.replicate c.an.toNat ([]:List Int)).length:Int)=_;grind
 proc:=λp hp=>by
  refine ⟨by show (0:Int)<=0/\(0:Int)<=6;omega,by show (0:Int)<=0/\(0:Int)<=_;omega,List.length_replicate ..,?_,by show (0:Int)<=0/\(0:Int)<=0+1099511627776;omega,by show (0:Int)<=0/\(0:Int)<=0+1099511627776;omega,.inr ⟨λh=>absurd h (Int.lt_irrefl 0),λh=>by have h:(0:Int)=4:=h;omega⟩,λh=>by have h:(0:Int)=5\/(0:Int)=6:=h;omega,λi l h=> ?_,λh=>by have h:(0:Int)=1:=h;omega,λh=>by have h:(0:Int)=2:=h;omega,λh=>by have h:(0:Int)=3:=h;omega,λh=>by have h:(0:Int)=4:=h;omega,List.length_replicate ..⟩
  ·show (0:Int)<=0/\(0:Int)<((List.replicate (nP c+1) _).length:Int);simp
  ·have h:(List.replicate (nP c+1) (⟨[],[],0,0⟩:bq))[i]? =some l:=h;have d:=List.eq_of_mem_replicate (List.mem_of_getElem? h);subst d;have:=m.lane;refine ⟨by show ((0:Nat):Int)<=_;omega,⟨Int.le_refl _,by show (0:Int)<=65535;omega⟩,⟨Int.le_refl _,by show (0:Int)<=65535;omega⟩,λh=> ?_⟩;rcases h with h | h | h
   ·exact absurd rfl h
   ·exact absurd h (Int.lt_irrefl 0)
   grind
 own:=λi a k o h=>by have h:(List.replicate c.an.toNat (-1:Int))[k]? =some o:=h;grind
 iy:=λi a k q h=>by have h:(List.replicate c.an.toNat ([]:List Int))[k]? =some q:=h;grind
 dJ:=λr j i l h=>by have h:(List.replicate (nP c+1) (⟨[],[],0,0⟩:bq))[i]? =some l:=h;grind
 rj:=λp hp _ h=>by have h:(0:Int)=3:=h;omega
 ri:=λp hp _ h=>by have h:(0:Int)=2:=h;omega
end
structure Shape where
 T:Type
 enc:T->Value
 dec:Value->Option T
 ok:∀v x,dec v=some x->enc x=v
structure Sl where
 base:Option Addr
 len:Nat
 cap:Nat
def Sl.v (s:Sl):Value:=.slice s.base s.len s.cap
def Fs :IntKind->IntKind->Bool
 | .i8,.i8 | .i16,.i16 | .i32,.i32 | .i64,.i64 | .u8,.u8 | .u16,.u16 | .u32,.u32 | .u64,.u64=>true
 | _,_=>false
theorem Jt {a b:IntKind} (h:Fs a b=true):a=b:=by cases a<;>cases b<;>first | rfl | cases h
def MV :FloatKind->FloatKind->Bool
 | .f32,.f32 | .f64,.f64=>true
 | _,_=>false
theorem YT {a b:FloatKind} (h:MV a b=true):a=b:=by cases a<;>cases b<;>first | rfl | cases h
@[reducible] def ab (k : IntKind) : Shape where
 T:=Int
 enc:=λn=>.int k n
 dec:=λv=>match v with
  | .int b n=>cond (Fs b k) (some n) none
  | _=>none
 ok:=by
  intro v x h;split at h
  ·rename_i b n;cases a:Fs b k
   ·simp [a] at h
   ·simp [a] at h;rw [Jt a,h]
  ·cases h
@[reducible] def aQ : Shape where
 T:=Bool
 enc:=λn=>.bool n
 dec:=λv=>match v with
  | .bool n=>some n
  | _=>none
 ok:=by intro v x h;split at h<;>cases h;rfl
@[reducible] def pd : Shape where
 T:=ByteArray
 enc:=λn=>.string n
 dec:=λv=>match v with
  | .string n=>some n
  | _=>none
 ok:=by intro v x h;split at h<;>cases h;rfl
@[reducible] def aj : Shape where
 T:=Option Addr
 enc:=λn=>.pointer n
 dec:=λv=>match v with
  | .pointer n=>some n
  | _=>none
 ok:=by intro v x h;split at h<;>cases h;rfl
@[reducible] def ak : Shape where
 T:=Sl
 enc:=λn=>.slice n.base n.len n.cap
 dec:=λv=>match v with
  | .slice a l c=>some ⟨a,l,c⟩
  | _=>none
 ok:=by grind
@[reducible] def gL : Shape where
 T:=Option Nat
 enc:=λn=>.map n
 dec:=λv=>match v with
  | .map n=>some n
  | _=>none
 ok:=by intro v x h;split at h<;>cases h;rfl
@[reducible] def jg (k : FloatKind) : Shape where
 T:=Nat
 enc:=λn=>.float k n
 dec:=λv=>match v with
  | .float b n=>cond (MV b k) (some n) none
  | _=>none
 ok:=by
  intro v x h;split at h
  ·rename_i b n;cases a:MV b k
   ·simp [a] at h
   ·simp [a] at h;rw [YT a,h]
  ·cases h
@[reducible] def yX : Shape where
 T:=Value
 enc:=λv=>v
 dec:=λv=>some v
 ok:=by simp
def Ii :Value->Bool
 | .agg _=>false
 | _=>true
structure E2 where
 v:Value
 ok:Ii v=true
@[reducible] def CY : Shape where
 T:=E2
 enc:=λx=>x.v
 dec:=λv=>match h:Ii v with
  | true=>some ⟨v,h⟩
  | false=>none
 ok:=by grind
structure mM where
 g:Nat
 first:Array Value
 captured:Array Value
@[reducible] def eH : Shape where
 T:=mM
 enc:=λx=>.func (.func x.g) x.first x.captured
 dec:=λv=>match v with
  | .func (.func g) a b=>some ⟨g,a,b⟩
  | _=>none
 ok:=by grind
structure q7 (n:Nat) where
 l:List Value
 ok:Nat.beq l.length n=true
theorem q7.size {n:Nat} (x:q7 n):(Array.mk x.l).size=n:=Nat.eq_of_beq_eq_true x.ok
@[reducible] def XD (n : Nat) : Shape where
 T:=q7 n
 enc:=λx=>.agg ⟨x.l⟩
 dec:=λv=>match v with
  | .agg ⟨l⟩=>match h:Nat.beq l.length n with
   | true=>some ⟨l,h⟩
   | false=>none
  | _=>none
 ok:=by grind
@[reducible] def sQ : Shape where
 T:=Unit
 enc:=λ_=>.tuple #[]
 dec:=λv=>match v with
  | .tuple ⟨[]⟩=>some ()
  | _=>none
 ok:=by grind
structure E5 where
 more:Bool
 rest:List Value
@[reducible] def YU : Shape where
 T:=E5
 enc:=λx=>.tuple ⟨.bool x.more::x.rest⟩
 dec:=λv=>match v with
  | .tuple ⟨.bool b::r⟩=>some ⟨b,r⟩
  | _=>none
 ok:=by grind
@[reducible] def my (a b : Shape) : Shape where
 T:=a.T×b.T
 enc:=λp=>.tuple #[a.enc p.1,b.enc p.2]
 dec:=λv=>match v with
  | .tuple ⟨[x,y]⟩=>match a.dec x,b.dec y with
   | some x,some y=>some (x,y)
   | _,_=>none
  | _=>none
 ok:=by
  intro v x h;split at h
  ·split at h
   ·rename_i c d;cases h;rw [a.ok _ _ c,b.ok _ _ d]
   ·cases h
  ·cases h
@[reducible] def rK (a b c : Shape) : Shape where
 T:=a.T×b.T×c.T
 enc:=λp=>.tuple #[a.enc p.1,b.enc p.2.1,c.enc p.2.2]
 dec:=λv=>match v with
  | .tuple ⟨[x,y,z]⟩=>match a.dec x,b.dec y,c.dec z with
   | some x,some y,some z=>some (x,y,z)
   | _,_,_=>none
  | _=>none
 ok:=by
  intro v x h;split at h
  ·split at h
   ·rename_i d e f;cases h;rw [a.ok _ _ d,b.ok _ _ e,c.ok _ _ f]
   ·cases h
  ·cases h
@[reducible] def xd (a b c d : Shape) : Shape where
 T:=a.T×b.T×c.T×d.T
 enc:=λp=>.tuple #[a.enc p.1,b.enc p.2.1,c.enc p.2.2.1,d.enc p.2.2.2]
 dec:=λv=>match v with
  | .tuple ⟨[x,y,z,u]⟩=>match a.dec x,b.dec y,c.dec z,d.dec u with
   | some x,some y,some z,some u=>some (x,y,z,u)
   | _,_,_,_=>none
  | _=>none
 ok:=by
  intro v x h;split at h
  ·split at h
   ·rename_i e f g i;cases h;rw [a.ok _ _ e,b.ok _ _ f,c.ok _ _ g,d.ok _ _ i]
   ·cases h
  ·cases h
@[reducible] def xe (a b c d e : Shape) : Shape where
 T:=a.T×b.T×c.T×d.T×e.T
 enc:=λp=>.tuple #[a.enc p.1,b.enc p.2.1,c.enc p.2.2.1,d.enc p.2.2.2.1,e.enc p.2.2.2.2]
 dec:=λv=>match v with
  | .tuple ⟨[x,y,z,u,w]⟩=>match a.dec x,b.dec y,c.dec z,d.dec u,e.dec w with
   | some x,some y,some z,some u,some w=>some (x,y,z,u,w)
   | _,_,_,_,_=>none
  | _=>none
 ok:=by
  intro v x h;split at h
  ·split at h
   ·rename_i f g i j k;cases h;rw [a.ok _ _ f,b.ok _ _ g,c.ok _ _ i,d.ok _ _ j,e.ok _ _ k]
   ·cases h
  ·cases h
@[reducible] def YV (a b c d e f g : Shape) : Shape where
 T:=a.T×b.T×c.T×d.T×e.T×f.T×g.T
 enc:=λp=>.tuple #[a.enc p.1,b.enc p.2.1,c.enc p.2.2.1,d.enc p.2.2.2.1,e.enc p.2.2.2.2.1,f.enc p.2.2.2.2.2.1,g.enc p.2.2.2.2.2.2]
 dec:=λv=>match v with
  | .tuple ⟨[x,y,z,u,w,o,q]⟩=>match a.dec x,b.dec y,c.dec z,d.dec u,e.dec w,f.dec o,g.dec q with
   | some x,some y,some z,some u,some w,some o,some q=>some (x,y,z,u,w,o,q)
   | _,_,_,_,_,_,_=>none
  | _=>none
 ok:=by
  intro v x h;split at h
  ·split at h
   ·rename_i i j k l m n r;cases h;rw [a.ok _ _ i,b.ok _ _ j,c.ok _ _ k,d.ok _ _ l,e.ok _ _ m,f.ok _ _ n,g.ok _ _ r]
   ·cases h
  ·cases h
structure Ty where
 aH:TypeDesc
 size:Nat
 bytes:Nat
 zero:Value
 sh:Shape
structure Tb where
 ty:Nat->Option Ty
 call:Nat->Bool
 ext:Nat->Option (Array Value->Sem Value)
def nF :TypeDesc->Bool
 | .struct _ | .array _ _=>true
 | _=>false
def dz (tb:Tb) (t:Nat):Shape:=match tb.ty t with
 | some e=>e.sh
 | none=>sQ
def nth {b:Type _}:List b->Nat->Option b
 | [],_=>none
 | a::_,0=>some a
 | _::l,n+1=>nth l n
def oJ {a:Type _}:List a->Nat->List a
 | l,0=>l
 | [],_+1=> []
 | _::l,n+1=>oJ l n
def pe {b:Type _}:List b->Nat->List b
 | _,0=> []
 | [],_+1=> []
 | a::l,n+1=>a::pe l n
def kg {c:Type _}:List c->Nat->List c->List c
 | l,0,[]=>l
 | [],0,_::_=> []
 | _::l,0,b::new=>b::kg l 0 new
 | [],_+1,_=> []
 | a::l,n+1,new=>a::kg l n new
inductive LV where
 | v (x:Value)
 | box (k off:Nat)
 | dL (k off:Nat)
abbrev aU :=List (Nat×Bool)
structure St where
 f:Nat->Option (LV×aU)
 m:Nat->Option (List Value)
def St.put (s:St) (d:Option Nat) (l:LV) (ch:aU):St:=
 match d with
 | none=>s
 | some d=>{f:=λi=>cond (Nat.beq i d) (some (l,ch)) (s.f i),m:=s.m}
def St.fU (s:St) (k:Nat) (cs:List Value):St:=
 {f:=s.f,m:=λi=>cond (Nat.beq i k) (some cs) (s.m i)}
def Ju :Bool->Bool->Bool
 | true,b=>b
 | false,true=>false
 | false,false=>true
def nJ :aU->aU->Bool
 | [],[]=>true
 | (t,w)::c,(u,x)::d=>cond (Nat.beq t u) (cond (Ju w x) (nJ c d) false) false
 | _,_=>false
def mw (c:aU):aU->Bool
 | []=>match c with
  | []=>true
  | _=>false
 | p::d=>match c with
  | []=>true
  | _=>cond (nJ c (p::d)) true (mw c d)
def ev (s:St) (ch:aU):Operand->Option LV
 | .tmp t=>match s.f t with
  | some (l,c)=>cond (mw c ch) (some l) none
  | none=>none
 | .const v=>some (.v v)
 | .global g=>some (.v (.pointer (some ⟨g,0,none⟩)))
 | .func f=>some (.v (.func (.func f) #[] #[]))
def eC (s:St):aU->Option Bool
 | []=>none
 | [(t,w)]=>match s.f t with
  | some (.v (.bool b),_)=>some (cond w b (!b))
  | _=>some false
 | (t,w)::p::r=>match s.f t with
  | some (.v (.bool b),_)=>match eC s (p::r) with
   | some x=>some (cond w (x&&b) (x&& !b))
   | none=>some (cond w b (!b))
  | _=>some false
def ko (c:Option Bool) (p:Prop):Prop:=
 match c with
 | none=>p
 | some b=>b=true->p
def iV :List Value->Bool
 | []=>true
 | .agg _::_=>false
 | .tuple _::_=>false
 | _::r=>iV r
def bp (h:Hp) (a:Addr) (cs:List Value):Prop:=∀i v,cs[i]? =some v->cW h (a.add i)=some v
def be (v:Value):List Value:=match v with
 | .agg cs=>cs.toList
 | v=> [v]
def aN (c:Option Bool) (sh:Shape) (h:Hp) (a:Addr) (K:sh.T->Prop):Prop:=
 ∃x,ko c (bp h a (be (sh.enc x)))/\K x
def ag (c:Option Bool) (p:Option Addr) (K:Addr->Prop):Prop:=∃a,ko c (p=some a)/\K a
def ic (P:Program) (s:Sem Value) (h:Hp) (v:Value):Prop:=∀w,Sub h w->∃a,s.run P w=.ok v a/\Step h h w a
def fK (c:Option Bool) (P:Program) (s:Sem Value) (sh:Shape) (h:Hp) (K:sh.T->Prop):Prop:=
 ∃x,ko c (ic P s h (sh.enc x))/\K x
def jG (P:Program) (s:Sem Value) (sh:Shape) (K:sh.T->Hp->Prop) (h:Hp):Prop:=
 cT P s (λv a=>∃x,v=sh.enc x/\K x a) h
def Fb (P:Program) (s:Sem Unit) (K:Hp->Prop) (h:Hp):Prop:=cT P s (λ_ a=>K a) h
def cG {a:Type} (c:Option Bool) (A:(a->Hp->Prop)->Hp->Prop) (K:a->Hp->Prop) (h:Hp):Prop:=
 match c with
 | none=>A K h
 | some b=>(b=true->A K h)/\(b=false->∃x,K x h)
def bD (cs:List Value) (K:Addr->Hp->Prop) (h:Hp):Prop:=
 ∀b t,h b=none->K ⟨b,0,none⟩ (h.set b (.cells cs.toArray t (0,0)))
def E4 (t:Nat) (a:List Value) (K:Addr->Hp->Prop) (h:Hp):Prop:=
 ∀b,h b=none->K ⟨b,0,none⟩ (h.set b (.cells a.toArray t (0,0)))
def xf (t:Nat) (a:List Value) (K:Addr->Hp->Prop) (h:Hp):Prop:=
 match a with
 | [.pointer none,.slice none 0 0]=>E4 t a K h
 | _=>bD a K h
def jJ (h:Hp) (a:Addr):List Value->Nat->Hp
 | [],_=>h
 | v::l,i=>jJ (h.put (a.add i) v) a l (i+1)
def pY (h:Hp) (a:Addr):Nat->Prop
 | 0=>True
 | n+1=>pY h a n/\(∃v,cW h (a.add n)=some v)/\fY h (a.add n)=false
def cD (h:Hp) (a:Addr) (b:List Value) (K:Hp->Prop):Prop:=pY h a b.length/\K (jJ h a b 0)
def rR (P:Program) (g:FuncId) (args:List Value) (K:Value->Hp->Prop) (h:Hp):Prop:=
 ∀w,Sub h w->Calls P g args.toArray w (λe b=>∃v a,e=.returned v/\K v a/\Step h a w b)
def aa (P:Program) (g:FuncId) (args:List Value) (sh:Shape) (K:sh.T->Hp->Prop) (h:Hp):Prop:=
 rR P g args (λv a=>∃x,v=sh.enc x/\K x a) h
def dM (P:Program) (tb:Tb) (f:Value) (args:List Value) (sh:Shape) (K:sh.T->Hp->Prop) (h:Hp):Prop:=
 ∃g first captured,f=.func (.func g) first captured/\tb.call g=true/\aa P g (first.toList++args++captured.toList) sh K h
def mN {σ:Type} (A:(σ->Hp->Prop)->Prop) (B:σ->Hp->Prop):Prop:=∃R:σ->Hp->Prop,A R/\∀x h,R x h->B x h
def pV {σ:Type} (d:(σ->Hp->Prop)->σ->Hp->Prop) (x:σ) (h:Hp):Prop:=
 ∃(I:σ->Hp->Prop) (c:σ->Hp->Nat),I x h/\∀x h,I x h->d (λb a=>I b a/\c b a<c x h) x h
def aF {α:Type} (x:α) (K:α->Prop):Prop:=∀y,y=x->K y
def oa (h:Hp) (base:Option Addr) (n:Nat) (b:List Value):Prop:=
 b.length=n/\(n=0\/∃a,base=some a/\bp h a b)
def fc (zero:List Value) (n:Nat):List Value:=(List.replicate n zero).flatten
def fM (h:Hp) (base:Option Addr) (off:Nat) (b:List Value):Hp:=match base with
 | some a=>jJ h (a.add off) b 0
 | none=>h
def jP (size bytes:Nat) (zero:List Value) (l:Sl) (n:Nat) (new:List Value) (K:Sl->Hp->Prop) (h:Hp):Prop:=
 ∃d,oa h l.base (l.len*size) d/\(l.len+n<=140737488355328/\(l.len+n)*bytes<=140737488355328)/\
  iV new=true/\(l.len+n<=l.cap->(∀a,l.base=some a->pY h (a.add (l.len*size)) (n*size))/\K ⟨l.base,l.len+n,l.cap⟩ (fM h l.base (l.len*size) new))/\
  (l.cap<l.len+n->∀c b t,l.len+n<=c->h b=none->
   K ⟨some ⟨b,0,none⟩,l.len+n,c⟩ (h.set b (.cells (d++new++fc zero (c-(l.len+n))).toArray t (0,0))))
def fR (size bytes:Nat) (zero:List Value) (l x:Sl) (K:Sl->Hp->Prop) (h:Hp):Prop:=
 ∃new,oa h x.base (x.len*size) new/\jP size bytes zero l x.len new K h
def xM (size bytes:Nat) (zero:List Value) (l:Sl) (m:Int) (K:Sl->Hp->Prop) (h:Hp):Prop:=
 0<=m/\jP size bytes zero l m.toNat (fc zero m.toNat) K h
def pO (s:ByteArray):List Value:=s.data.toList.map λb=>.int .u8 b.toNat
def xt (u:Nat) (size bytes:Nat) (zero:List Value) (l:Sl) (n:Nat) (new:List Value) (K:Sl->Hp->Prop) (h:Hp):Prop:=
 ∃d,oa h l.base (l.len*size) d/\(l.len+n<=140737488355328/\(l.len+n)*bytes<=140737488355328)/\
  iV new=true/\(l.len+n<=l.cap->(∀a,l.base=some a->pY h (a.add (l.len*size)) (n*size))/\K ⟨l.base,l.len+n,l.cap⟩ (fM h l.base (l.len*size) new))/\
  (l.cap<l.len+n->∀c b,l.len+n<=c->h b=none->
   K ⟨some ⟨b,0,none⟩,l.len+n,c⟩ (h.set b (.cells (d++new++fc zero (c-(l.len+n))).toArray u (0,0))))
theorem jP.u {size bytes:Nat} {zero:List Value} {l:Sl} {n:Nat} {new:List Value} {K:Sl->Hp->Prop} {h:Hp} (u:Nat) (a:jP size bytes zero l n new K h):xt u size bytes zero l n new K h:=by obtain ⟨g,a1,a2,a3,a4,a5⟩:=a;exact ⟨g,a1,a2,a3,a4,λd c b e f=>a5 d c b u e f⟩
def PG (u:Nat) (l:Sl) (s:ByteArray) (K:Sl->Hp->Prop) (h:Hp):Prop:=
 xt u 1 1 [.int .u8 0] l s.size (pO s) K h
def fI (size:Nat) (d x:Sl) (K:Int->Hp->Prop) (h:Hp):Prop:=
 ∃new,oa h x.base (min x.len d.len*size) new/\iV new=true/\(∀a,d.base=some a->pY h a (min x.len d.len*size))/\K (min x.len d.len:Nat) (fM h d.base 0 new)
def c9 (bytes:Nat) (zero:List Value) (len cap:Int) (K:Sl->Hp->Prop) (h:Hp):Prop:=
 (0<=len/\len<=cap/\cap<=281474976710656/\cap.toNat*bytes<=281474976710656)/\
  ∀b t,h b=none->K ⟨some ⟨b,0,none⟩,len.toNat,cap.toNat⟩ (h.set b (.cells (fc zero cap.toNat).toArray t (0,0)))
def Jv (s:ByteArray) (K:Sl->Hp->Prop) (h:Hp):Prop:=
 ∀c b t,s.size<=c->h b=none->
  K ⟨some ⟨b,0,none⟩,s.size,c⟩ (h.set b (.cells (pO s++fc [.int .u8 0] (c-s.size)).toArray t (c,c+1)))
def yx (a:Option Addr) (K:Unit->Hp->Prop) (h:Hp):Prop:=
 ∃b off c t,a=some ⟨b,off,none⟩/\h b=some (.cells c t (0,0))/\K () (h.set b (.cells c t (c.size,c.size+1)))
def vn (K:Option Nat->Hp->Prop) (h:Hp):Prop:=∀b,h b=none->K (some b) (h.set b (.map #[] 0))
def E3 (h:Hp) (m:Option Nat) (a:List MapEntry):Prop:=
 (m=none/\a=[])\/∃r ck,m=some r/\h r=some (.map a.toArray ck)
def xg (b:TypeDesc) (zero:Value) (m:Option Nat) (k:Value) (h:Hp) (v:Value) (ok:Bool):Prop:=
 ∃a,E3 h m a/\((Instr.findNow b k a 0=some none/\v=zero/\ok=false)\/∃i,Instr.findNow b k a 0=some (some (i,v))/\ok=true)
def mO (c:Option Bool) (a:TypeDesc) (sh:Shape) (zero:Value) (m:Option Nat) (k:Value) (h:Hp) (K:sh.T->Bool->Prop):Prop:=
 ∃x ok,ko c (xg a zero m k h (sh.enc x) ok)/\K x ok
def rF (b:TypeDesc) (m:Option Nat) (k v:Value) (K:Hp->Prop) (h:Hp):Prop:=
 ∃r a ck,m=some r/\h r=some (.map a ck)/\
  ((Instr.findNow b k a.toList 0=some none/\K (h.set r (.map (a.push {key:=k,val:=v,born:=ck}) (ck+1))))\/
   ∃i u,Instr.findNow b k a.toList 0=some (some (i,u))/\K (h.set r (.map (a.modify i λe=>{e with key:=k,val:=v}) ck)))
def vx (b:TypeDesc) (m:Option Nat) (k:Value) (K:Hp->Prop) (h:Hp):Prop:=
 (m=none/\K h)\/∃r a ck,m=some r/\h r=some (.map a ck)/\
  ((Instr.findNow b k a.toList 0=some none/\K (h.set r (.map a ck)))\/
   ∃i u,Instr.findNow b k a.toList 0=some (some (i,u))/\K (h.set r (.map (a.eraseIdxIfInBounds i) ck)))
def q5 :TypeDesc->Bool
 | .int _ | .string | .bool=>true
 | _=>false
def dZ (op:BinOp) (k:IntKind) (x y:Int):Int:=
 match op with
 | .and=>k.wrap ((BitVec.ofInt k.bits x&&&BitVec.ofInt k.bits y).toNat)
 | .or=>k.wrap ((BitVec.ofInt k.bits x ||| BitVec.ofInt k.bits y).toNat)
 | .xor=>k.wrap ((BitVec.ofInt k.bits x^^^BitVec.ofInt k.bits y).toNat)
 | _=>k.wrap ((BitVec.ofInt k.bits x&&& ~~~ BitVec.ofInt k.bits y).toNat)
def wJ (k:IntKind) (x y:Int):Int:=k.wrap (x*2^(min y.toNat k.bits))
def gW (k:IntKind) (x y:Int):Int:=x.fdiv (2^(min y.toNat k.bits))
def sat (base:Option Addr) (size:Nat) (i:Int):Addr:=(base.getD ⟨0,0,none⟩).add (i.toNat*size)
def bB (base:Option Addr) (len:Nat) (i:Int):Prop:=base≠none/\0<=i/\i<(len:Int)
def aX (base:Option Addr) (size l m:Nat):Option Addr:=if m=l then base else base.map (·.add (l*size))
def Fq (c:Option Bool) (op:BinOp) (k:IntKind) (x y:Int) (K:LV->Prop):Prop:=
 match op with
 | .add=>K (.v (.int k (k.wrap (x+y))))
 | .sub=>K (.v (.int k (k.wrap (x-y))))
 | .mul=>K (.v (.int k (k.wrap (x*y))))
 | .quo=>ko c (y≠0)/\K (.v (.int k (k.wrap (x.tdiv y))))
 | .rem=>ko c (y≠0)/\K (.v (.int k (x.tmod y)))
 | .and=>K (.v (.int k (dZ .and k x y)))
 | .or=>K (.v (.int k (dZ .or k x y)))
 | .xor=>K (.v (.int k (dZ .xor k x y)))
 | .andNot=>K (.v (.int k (dZ .andNot k x y)))
 | .eql=>K (.v (.bool (x==y)))
 | .neq=>K (.v (.bool (x !=y)))
 | .lss=>K (.v (.bool (decide (x<y))))
 | .leq=>K (.v (.bool (decide (x<=y))))
 | .gtr=>K (.v (.bool (decide (x>y))))
 | .geq=>K (.v (.bool (decide (x>=y))))
 | _=>False
def mr (c:Option Bool) (P:Program) (tb:Tb) (t:Nat) (s:Sem Value) (h:Hp) (K:LV->Prop):Prop:=
 match tb.ty t with
 | some e=>fK c P s e.sh h (λx=>K (.v (e.sh.enc x)))
 | none=>False
def cE (op:BinOp) (t:Nat) (x y:Operand) (a b:Value):Sem Value:=do eqGuard op t x y a b;binOp op t a b
def rG :Operand->Bool
 | .const (.pointer none) | .const (.slice none _ _) | .const (.map none) | .const .nilFunc | .const .nilIface=>true
 | _=>false
def wG (op:BinOp) (b:Bool) (K:LV->Prop):Prop:=
 match op with
 | .eql=>K (.v (.bool b))
 | .neq=>K (.v (.bool (!b)))
 | _=>False
def Kt :Value->Bool
 | .nilIface=>true
 | _=>false
def Ez :Operand->Bool
 | .const .nilIface=>true
 | _=>false
def uE (tb:Tb) (t:Nat):Bool:=match tb.ty t with
 | some e=>match e.aH with
  | .interface _=>true
  | _=>false
 | none=>false
def oV :Value->Bool
 | .nilIface=>true
 | .iface _ _=>true
 | _=>false
def rZ (c:Option Bool) (P:Program) (tb:Tb) (op:BinOp) (t:Nat) (x y:Operand) (d:Nat) (a b:Value) (h:Hp) (K:LV->Prop):Prop:=
 match a,b with
 | .int k m,.int f n=>
  match op with
  | .shl=>ko c (0<=n)/\K (.v (.int k (wJ k m n)))
  | .shr=>ko c (0<=n)/\K (.v (.int k (gW k m n)))
  | op=>cond (Fs k f) (Fq c op k m n K) False
 | .bool m,.bool n=>match tb.ty t with
  | some e=>match e.aH,op with
   | .bool,.eql=>K (.v (.bool (m==n)))
   | .bool,.neq=>K (.v (.bool (!(m==n))))
   | _,_=>False
  | none=>False
 | .string m,.string n=>match op with
  | .eql=>K (.v (.bool (m.toList==n.toList)))
  | .neq=>K (.v (.bool (!(m.toList==n.toList))))
  | .add=>ko c (m.size+n.size<=9223372036854775807)/\K (.v (.string (m++n)))
  | _=>mr c P tb d (cE op t x y (.string m) (.string n)) h K
 | .pointer p,.pointer q=>cond (rG y) (match tb.ty t with
  | some e=>match e.aH with
   | .pointer _=>wG op p.isNone K
   | _=>False
  | none=>False) (mr c P tb d (cE op t x y (.pointer p) (.pointer q)) h K)
 | a,b=>mr c P tb d (cE op t x y a b) h K
def uk (c:Option Bool) (P:Program) (tb:Tb) (op:BinOp) (t:Nat) (x y:Operand) (d:Nat) (a b:Value) (h:Hp) (K:LV->Prop):Prop:=
 cond (Ez y) (cond (uE tb t) (ko c (oV a=true)/\wG op (Kt a) K) (rZ c P tb op t x y d a b h K)) (rZ c P tb op t x y d a b h K)
def Lz (l:Option LV) (K:LV->Prop):Prop:=match l with
 | some l=>K l
 | none=>False
def hO (l:Option LV) (K:Value->Prop):Prop:=match l with
 | some (.v x)=>K x
 | _=>False
def dX (s:St) (ch:aU):List Operand->Option (List Value)
 | []=>some []
 | x::l=>match ev s ch x,dX s ch l with
  | some (.v v),some r=>some (v::r)
  | _,_=>none
def ng (l:Option (List Value)) (K:List Value->Prop):Prop:=match l with
 | some l=>K l
 | none=>False
def yg (tb:Tb) (t i:Nat) (K:Nat->Nat->Prop):Prop:=
 match tb.ty t with
 | some e=>match e.aH with
  | .struct a=>match nth a.toList i with
   | some f=>match tb.ty f.type with
    | some g=>match g.size with
     | 0=>False
     | n+1=>K f.offset (n+1)
    | none=>False
   | none=>False
  | _=>False
 | none=>False
def fX (tb:Tb) (t:Nat):Option Ty:=
 match tb.ty t with
 | some e=>match e.aH with
  | .slice u=>tb.ty u
  | _=>none
 | none=>none
def CZ (tb:Tb) (t:Nat):Nat:=
 match tb.ty t with
 | some e=>match e.aH with
  | .slice u=>u
  | _=>0
 | none=>0
def kY (tb:Tb) (t:Nat):Option (Nat×Ty):=
 match tb.ty t with
 | some e=>match e.aH with
  | .array n u=>match tb.ty u with
   | some g=>some (n,g)
   | none=>none
  | _=>none
 | none=>none
def iH (tb:Tb) (t:Nat) (a:List Value) (off:Nat) (K:LV->Prop):Prop:=
 match tb.ty t with
 | some e=>cond (nF e.aH) (cond (Nat.ble (off+e.size) a.length) (K (.v (.agg (pe (oJ a off) e.size).toArray))) False)
  (match nth a off with
   | some v=>K (.v v)
   | none=>False)
 | none=>False
def Dn :Operand->Bool
 | .const _=>true
 | _=>false
def pg (tb:Tb):List Field->Bool
 | []=>true
 | f::r=>match tb.ty f.type with
  | some _=>pg tb r
  | none=>false
def qe (tb:Tb) (b:List Field) (a:List Value):List (Nat×Value)->Option (List Value)
 | []=>some a
 | (i,v)::r=>match nth b i with
  | some f=>match tb.ty f.type with
   | some e=>cond (Nat.beq (be v).length e.size) (cond (Nat.ble (f.offset+e.size) a.length) (qe tb b (kg a f.offset (be v)) r) none) none
   | none=>none
  | none=>none
def mW (size:Nat) (a:List Value):List (Nat×Value)->Option (List Value)
 | []=>some a
 | (i,v)::r=>cond (Nat.beq (be v).length size) (cond (Nat.ble (i*size+size) a.length) (mW size (kg a (i*size) (be v)) r) none) none
def lg (s:St) (ch:aU):List (Nat×Operand)->Option (List (Nat×Value))
 | []=>some []
 | (i,x)::l=>match ev s ch x,lg s ch l with
  | some (.v v),some r=>some ((i,v)::r)
  | _,_=>none
def ki {a:Type _} (l:List a):Nat->List a
 | 0=> []
 | n+1=>l++ki l n
def FL (c:Option Bool) (a:Bool) (len cap:Nat) (d b e:Option Int) (K:Nat->Nat->Nat->Prop):Prop:=
 match d,b,e with
 | none,none,none=>K 0 len cap
 | some l,none,none=>ko c (0<=l/\l<=(len:Int))/\K l.toNat len cap
 | none,some x,none=>ko c (0<=x/\x<=(cap:Int))/\K 0 x.toNat cap
 | some l,some x,none=>ko c (0<=l/\l<=x/\x<=(cap:Int))/\K l.toNat x.toNat cap
 | none,some x,some m=>ko c (0<=x/\x<=m/\m<=(cap:Int))/\K 0 x.toNat m.toNat
 | some l,some x,some m=>ko c (0<=l/\l<=x/\x<=m/\m<=(cap:Int))/\K l.toNat x.toNat m.toNat
 | _,none,some _=>a= !a
def nO (s:St) (ch:aU):Option Operand->Option (Option Int)
 | none=>some none
 | some x=>match ev s ch x with
  | some (.v (.int _ n))=>some (some n)
  | _=>none
def C0 (c:Option Bool) (tb:Tb) (t:Nat) (x:Value) (f d g:Option Int) (K:LV->Prop):Prop:=
 match x with
 | .slice base len cap=>match fX tb t with
  | some e=>FL c true len cap f d g λl n m=>aF (⟨aX base e.size l m,n-l,m-l⟩:Sl) λy=>K (.v (.slice y.base y.len y.cap))
  | none=>False
 | .pointer (some a)=>match kY tb t with
  | some (n,e)=>FL c false n n f d g λl x m=>aF (⟨aX (some a) e.size l m,x-l,m-l⟩:Sl) λy=>K (.v (.slice y.base y.len y.cap))
  | none=>False
 | .string b=>match tb.ty t,g with
  | some e,none=>match e.aH with
   | .string=>FL c false b.size b.size f d none λl n _=>K (.v (.string (b.extract l n)))
   | _=>False
  | _,_=>False
 | _=>False
def Fv (c:Option Bool) (P:Program) (tb:Tb) (ty a:Nat) (x:Value) (h:Hp) (K:LV->Prop):Prop:=
 match tb.ty ty with
 | some e=>match e.aH,x with
  | .string,.string b=>K (.v (.int .i64 (b.size:Int)))
  | .slice _,.slice _ n _=>K (.v (.int .i64 (n:Int)))
  | .array n _,_=>K (.v (.int .i64 (n:Int)))
  | _,_=>mr c P tb a (Builtin.len_ #[ty] a #[x]) h K
 | none=>False
def rp (lt:Int->Int->Int) (k:IntKind) (x:Int):List Value->Option Value
 | []=>some (.int k x)
 | .int _ y::r=>rp lt k (lt x y) r
 | _=>none
def iF (x y:Int):Int:=if y<x then y else x
def oY (x y:Int):Int:=if y>x then y else x
def M8 (op:UnOp) (x:Value) (K:LV->Prop):Prop:=
 match op,x with
 | .not,.bool b=>K (.v (.bool !b))
 | .neg,.int k n=>K (.v (.int k (k.wrap (0-n))))
 | .neg,.float k b=>K (.v (.float k (Op.negFloat k b)))
 | .xor,.int k n=>K (.v (.int k (dZ .xor k (if k.signed then -1 else k.max) n)))
 | _,_=>False
def xh (s:St) (ch:aU) (t:Nat) (w:Bool) (x:Operand):Option LV:=
 match x with
 | .tmp u=>match s.f u with
  | some (l,c)=>cond (mw c ((t,w)::ch)) (some l) none
  | none=>none
 | .const v=>some (.v v)
 | _=>none
def uO (s:St) (ch:aU) (x a b:Operand) (K:LV->Prop):Prop:=
 match x with
 | .tmp t=>match s.f t with
  | some (.v (.bool p),c)=>cond (mw c ch)
   (match a,b with
    | .tmp _,.const (.bool false)=>hO (xh s ch t true a) λv=>match v with
     | .bool q=>aF (p&&q) λy=>K (.v (.bool y))
     | _=>False
    | .const (.bool true),.tmp _=>hO (xh s ch t false b) λv=>match v with
     | .bool q=>aF (p || q) λy=>K (.v (.bool y))
     | _=>False
    | .const (.bool true),.const (.bool false)=>K (.v (.bool p))
    | .const (.bool x),.const (.bool y)=>K (.v (.bool (cond p x y)))
    | _,_=>False) False
  | _=>False
 | _=>False
def MM (c:Option Bool) (P:Program) (tb:Tb) (b:Builtin) (f:List Value) (d:List TypeId) (a:Nat) (h:Hp) (K:LV->Prop):Prop:=
 match b,f,d with
 | .len,[x],[ty]=>Fv c P tb ty a x h K
 | .cap,[.slice _ _ c],[ty]=>match tb.ty ty with
  | some e=>match e.aH with
   | .slice _=>K (.v (.int .i64 (c:Int)))
   | _=>False
  | none=>False
 | .min,.int k x::r,_=>match rp iF k x r with
  | some v=>K (.v v)
  | none=>False
 | .max,.int k x::r,_=>match rp oY k x r with
  | some v=>K (.v v)
  | none=>False
 | _,_,_=>False
def Fz (n:Int):Nat:=match n with
 | .ofNat m=>m
 | .negSucc _=>0
def Bd (c:Option Bool) (tb:Tb) (t:Nat) (cs:List Value) (n:Int) (K:LV->Prop):Prop:=
 match kY tb t with
 | some (len,e)=>cond (nF e.aH) False (ko c (0<=n/\n<(len:Int))/\∃x,ko c (cs[n.toNat*e.size]? =some (e.sh.enc x))/\K (.v (e.sh.enc x)))
 | none=>False
def u9 (P:Program) (tb:Tb) (o:Oper) (ch:aU) (s:St) (h:Hp) (K:LV->Prop):Prop:=
 match o.op with
 | .move x=>Lz (ev s ch x) K
 | .assign x=>Lz (ev s ch x) K
 | .pick x a b=>uO s ch x a b K
 | .extract x i=>hO (ev s ch x) λv=>match v with
  | .tuple A=>match nth A.toList i with
   | some y=>K (.v y)
   | none=>False
  | _=>False
 | .binOp op t x y _=>hO (ev s ch x) λa=>hO (ev s ch y) λb=>uk (eC s ch) P tb op t x y o.type a b h K
 | .unOp op _ x=>hO (ev s ch x) λa=>M8 op a K
 | .nilCheck x=>match ev s ch x with
  | some (.v (.pointer p))=>ag (eC s ch) p λa=>K (.v (.pointer (some a)))
  | some (.box k off)=>K (.box k off)
  | some (.dL k off)=>K (.dL k off)
  | _=>False
 | .load t x=>match ev s ch x with
  | some (.v (.pointer (some a)))=>match tb.ty t with
   | some e=>aN (eC s ch) e.sh h a λx=>K (.v (e.sh.enc x))
   | none=>False
  | some (.box k off)=>match s.m k with
   | some c=>iH tb t c off K
   | none=>False
  | some (.dL k off)=>match s.m k,tb.ty t with
   | some c,some e=>cond (nF e.aH) False (∃x,ko (eC s ch) (c[off]? =some (e.sh.enc x))/\K (.v (e.sh.enc x)))
   | _,_=>False
  | _=>False
 | .fieldAddr t x i=>yg tb t i λoff _=>match ev s ch x with
  | some (.v (.pointer (some a)))=>K (.v (.pointer (some (a.add off))))
  | some (.box k o)=>K (.box k (o+off))
  | some (.dL k o)=>K (.dL k (o+off))
  | _=>False
 | .field t x i=>match tb.ty t with
  | some e=>match e.aH with
   | .struct j=>match nth j.toList i with
    | some f=>hO (ev s ch x) λv=>match v with
     | .agg c=>iH tb f.type c.toList f.offset K
     | _=>False
    | none=>False
   | _=>False
  | none=>False
 | .indexAddr t x i=>match ev s ch x,ev s ch i with
  | some (.v (.slice base len _)),some (.v (.int _ n))=>match fX tb t with
   | some e=>ko (eC s ch) (bB base len n)/\K (.v (.pointer (some (sat base e.size n))))
   | none=>False
  | some (.v (.pointer (some a))),some (.v (.int _ n))=>match kY tb t with
   | some (len,e)=>ko (eC s ch) (0<=n/\n<(len:Int))/\K (.v (.pointer (some (a.add (n.toNat*e.size)))))
   | none=>False
  | some (.box k off),some (.v (.int _ n))=>match kY tb t with
   | some (len,e)=>ko (eC s ch) (0<=n/\n<(len:Int))/\cond (Dn i) (K (.box k (off+Fz n*e.size))) (K (.dL k (off+n.toNat*e.size)))
   | none=>False
  | _,_=>False
 | .index t x i=>match ev s ch x,ev s ch i with
  | some (.v (.string b)),some (.v (.int _ n))=>match tb.ty t with
   | some y=>match y.aH with
    | .string=>ko (eC s ch) (0<=n/\n<(b.size:Int))/\K (.v (.int .u8 ((b.data.toList.getD n.toNat 0).toNat:Int)))
    | _=>False
   | none=>False
  | some (.v (.agg c)),some (.v (.int _ n))=>Bd (eC s ch) tb t c.toList n K
  | _,_=>False
 | .slice t x r q w=>hO (ev s ch x) λv=>match nO s ch r,nO s ch q,nO s ch w with
  | some r,some q,some w=>C0 (eC s ch) tb t v r q w K
  | _,_,_=>False
 | .makeInterface t x=>hO (ev s ch x) λv=>match tb.ty t with
  | some e=>match e.aH with
   | .interface _=>False
   | _=>K (.v (.iface t v))
  | none=>False
 | .makeFunc fn first captured=>ng (dX s ch first.toList) λa=>ng (dX s ch captured.toList) λb=>K (.v (.func fn a.toArray b.toArray))
 | .convert z d x=>hO (ev s ch x) λv=>match tb.ty z,tb.ty d,v with
  | some _,some e,.int _ n=>match e.aH with
   | .int k=>K (.v (.int k (k.wrap n)))
   | _=>mr (eC s ch) P tb d (convert z d v) h K
  | some _,some _,v=>mr (eC s ch) P tb d (convert z d v) h K
  | _,_,_=>False
 | .build t parts=>ng ((lg s ch parts.toList).map λ_=> []) λ_=>match lg s ch parts.toList,tb.ty t with
  | some C,some e=>match e.aH with
   | .struct j=>cond (pg tb j.toList) (match qe tb j.toList (be e.zero) C with
    | some c=>K (.v (.agg c.toArray))
    | none=>False) False
   | .array _ u=>match tb.ty u with
    | some g=>match mW g.size (be e.zero) C with
     | some c=>K (.v (.agg c.toArray))
     | none=>False
    | none=>False
   | _=>False
  | _,_=>False
 | .lookup t x i ok=>hO (ev s ch x) λa=>hO (ev s ch i) λb=>match a,tb.ty t with
  | .map m,some e=>match e.aH with
   | .map k u=>match tb.ty k,tb.ty u with
    | some B,some l=>cond (q5 B.aH) (mO (eC s ch) B.aH l.sh l.zero m b h λx y=>cond ok (K (.v (.tuple #[l.sh.enc x,.bool y]))) (K (.v (l.sh.enc x))))
      (mr (eC s ch) P tb o.type (Instr.lookup t a b ok) h K)
    | _,_=>False
   | _=>False
  | _,_=>False
 | .call {callee:=.builtin b,args:=E,argTypes:=D}=>ng (dX s ch E.toList) λA=>MM (eC s ch) P tb b A D.toList o.type h K
 | _=>False
inductive Kd where
 | pure
 | box
 | mem
def cH (tb:Tb) (o:Oper) (ch:aU) (s:St):Kd:=
 match o.op with
 | .load _ x=>match ev s ch x with
  | some (.box _ _)=>.box
  | some (.dL _ _)=>.box
  | _=>.mem
 | .lookup .. =>.mem
 | .binOp op _ x y _=>match ev s ch x,ev s ch y with
  | some (.v (.int _ _)),some (.v (.int _ _))=>.pure
  | some (.v (.bool _)),some (.v (.bool _))=>.pure
  | some (.v (.string _)),some (.v (.string _))=>match op with
   | .eql=>.pure
   | .neq=>.pure
   | .add=>.pure
   | _=>.mem
  | some (.v (.pointer _)),some (.v (.pointer _))=>cond (rG y) .pure .mem
  | _,_=>.mem
 | .convert _ d x=>match ev s ch x,tb.ty d with
  | some (.v (.int _ _)),some e=>match e.aH with
   | .int _=>.pure
   | _=>.mem
  | _,_=>.mem
 | .call {callee:=.builtin .len,args:=b,argTypes:=a}=>match dX s ch b.toList,a.toList with
  | some [x],[t]=>match tb.ty t with
   | some e=>match e.aH,x with
    | .string,.string _=>.pure
    | .slice _,.slice _ _ _=>.pure
    | .array _ _,_=>.pure
    | _,_=>.mem
   | none=>.mem
  | _,_=>.mem
 | _=>.pure
def rf (c:Option Bool) (P:Program) (tb:Tb) (t:Nat) (s:Sem Value) (K:LV->Hp->Prop) (h:Hp):Prop:=
 match tb.ty t with
 | some e=>cG c (λ(K:e.sh.T->Hp->Prop) h=>jG P s e.sh K h) (λx a=>K (.v (e.sh.enc x)) a) h
 | none=>False
def LC (c:Option Bool) (P:Program) (sh:Shape) (s:Sem Value) (K:LV->Hp->Prop) (h:Hp):Prop:=
 cG c (λ(K:sh.T->Hp->Prop) h=>jG P s sh K h) (λx a=>K (.v (sh.enc x)) a) h
def EA (P:Program) (tb:Tb) (c:Option Bool) (t:Nat) (x y z:Option LV) (K:LV->Hp->Prop) (h:Hp):Prop:=
 hO x λa=>hO y λb=>hO z λv=>match a,tb.ty t with
  | .map m,some e=>match e.aH with
   | .map k _=>match tb.ty k with
    | some d=>cG c (λ(K:Unit->Hp->Prop) h=>cond (q5 d.aH) (rF d.aH m b v (K ()) h) (Fb P (Instr.mapUpdate t a b v) (K ()) h)) (λ_ f=>K (.v (.tuple #[])) f) h
    | none=>False
   | _=>False
  | _,_=>False
def A4 (tb:Tb) (c:Option Bool) (k:List TypeId) (o:List Value) (h:Hp) (K:LV->Hp->Prop):Prop:=
 match o,k with
 | [.slice p n a,.slice j i g],[t,d]=>match fX tb t,fX tb d with
  | some e,some _=>cG c (fR e.size e.bytes (be e.zero) ⟨p,n,a⟩ ⟨j,i,g⟩) (λl b=>K (.v (.slice l.base l.len l.cap)) b) h
  | _,_=>False
 | [.slice p n a,.string x],[t,d]=>match fX tb t,tb.ty d with
  | some e,some f=>match e.aH,f.aH with
   | .int .u8,.string=>cond (Nat.beq e.bytes 1) (cG c (PG (CZ tb t) ⟨p,n,a⟩ x) (λl b=>K (.v (.slice l.base l.len l.cap)) b) h) False
   | _,_=>False
  | _,_=>False
 | [.slice p n a,.int .i64 m],[t,d]=>match fX tb t,tb.ty d with
  | some e,some f=>match f.aH with
   | .int .i64=>cG c (xM e.size e.bytes (be e.zero) ⟨p,n,a⟩ m) (λl b=>K (.v (.slice l.base l.len l.cap)) b) h
   | _=>False
  | _,_=>False
 | _,_=>False
def ur (P:Program) (tb:Tb) (ty:Nat) (c:Option Bool) (a:Array TypeId) (b:List Value) (h:Hp) (K:LV->Hp->Prop):Prop:=
 match b,a.toList with
 | [.slice p n f,.slice j i d],[t,_]=>match fX tb t with
  | some e=>cG c (fI e.size ⟨p,n,f⟩ ⟨j,i,d⟩) (λk g=>K (.v (.int .i64 k)) g) h
  | none=>False
 | _,_=>rf c P tb ty (Builtin.copy_ a ty b.toArray) K h
def A8 (P:Program) (tb:Tb) (ty:Nat) (c:Option Bool) (b:Array TypeId) (d:List Value) (h:Hp) (K:LV->Hp->Prop):Prop:=
 match d,b.toList with
 | [.map m,k],[t,_]=>match tb.ty t with
  | some e=>match e.aH with
   | .map g _=>match tb.ty g with
    | some a=>cond (q5 a.aH) (cG c (λ(K:Unit->Hp->Prop) h=>vx a.aH m k (K ()) h) (λ_ f=>K (.v (.tuple #[])) f) h)
      (rf c P tb ty (Builtin.delete_ b ty d.toArray) K h)
    | none=>False
   | _=>False
  | none=>False
 | _,_=>False
def C1 (P:Program) (tb:Tb) (ty:Nat) (c:Option Bool) (g:FuncId) (b:List Value) (h:Hp) (K:LV->Hp->Prop):Prop:=
 match tb.ty ty with
 | some e=>cond (tb.call g) (cG c (aa P g b e.sh) (λx a=>K (.v (e.sh.enc x)) a) h) (match tb.ext g with
  | some f=>cG c (λ(K:e.sh.T->Hp->Prop) h=>jG P (f b.toArray) e.sh K h) (λx a=>K (.v (e.sh.enc x)) a) h
  | none=>False)
 | none=>False
def C2 (P:Program) (tb:Tb) (ty:Nat) (c:Option Bool) (a:Option LV) (d:List Value) (h:Hp) (K:LV->Hp->Prop):Prop:=
 match tb.ty ty with
 | some e=>hO a λa=>cG c (dM P tb a d e.sh) (λx b=>K (.v (e.sh.enc x)) b) h
 | none=>False
def wB (P:Program) (tb:Tb) (o:Oper) (ch:aU) (s:St) (h:Hp) (K:LV->Hp->Prop):Prop:=
 match o.op with
 | .store t x y=>match ev s ch x,ev s ch y with
  | some (.v (.pointer (some a))),some (.v v)=>match ch,tb.ty t with
   | [],some e=>cond (Nat.beq (be v).length e.size) (cond (iV (be v)) (cD h a (be v) λd=>K (.v (.tuple #[])) d) False) False
   | _,_=>False
  | _,_=>False
 | .alloc t=>match tb.ty t with
  | some e=>cG (eC s ch) (xf t (be e.zero)) (λa d=>K (.v (.pointer (some a))) d) h
  | none=>False
 | .box _ x=>hO (ev s ch x) λv=>cG (eC s ch) (bD (be v)) (λa d=>K (.v (.pointer (some a))) d) h
 | .buildSlice t len parts=>match lg s ch parts.toList,fX tb t with
  | some w,some e=>cond (Nat.ble (len*e.size) 16777216) (match mW e.size (ki (be e.zero) len) w with
   | some u=>cG (eC s ch) (bD u) (λa d=>K (.v (.slice (some a) len len)) d) h
   | none=>False) False
  | _,_=>False
 | .makeMap _ none=>cG (eC s ch) vn (λm d=>K (.v (.map m)) d) h
 | .makeSlice t x y=>hO (ev s ch x) λa=>hO (ev s ch y) λb=>match a,b,fX tb t with
  | .int .i64 m,.int .i64 n,some e=>cG (eC s ch) (c9 e.bytes (be e.zero) m n) (λl d=>K (.v (.slice l.base l.len l.cap)) d) h
  | _,_,_=>False
 | .mapUpdate t x y z=>EA P tb (eC s ch) t (ev s ch x) (ev s ch y) (ev s ch z) K h
 | .insert t x y z=>EA P tb (eC s ch) t (ev s ch x) (ev s ch y) (ev s ch z) K h
 | .mapEntry t x y=>hO (ev s ch x) λa=>hO (ev s ch y) λb=>rf (eC s ch) P tb o.type (Instr.mapEntry t a b) K h
 | .binOp op t x y _=>hO (ev s ch x) λa=>hO (ev s ch y) λb=>rf (eC s ch) P tb o.type (cE op t x y a b) K h
 | .entryStore t x y z=>hO (ev s ch x) λa=>hO (ev s ch y) λb=>hO (ev s ch z) λc=>
  cG (eC s ch) (λ(K:Unit->Hp->Prop) h=>Fb P (Instr.entryStore t a b c) (K ()) h) (λ_ d=>K (.v (.tuple #[])) d) h
 | .range t x=>hO (ev s ch x) λa=>LC (eC s ch) P aj (Instr.range t a) K h
 | .next x b=>hO (ev s ch x) λa=>LC (eC s ch) P YU (Instr.next a b o.type) K h
 | .convert r q x=>hO (ev s ch x) λv=>match v,tb.ty r,fX tb q with
  | .string b,some e,some g=>match e.aH,g.aH with
   | .string,.int .u8=>cG (eC s ch) (Jv b) (λl d=>K (.v (.slice l.base l.len l.cap)) d) h
   | _,_=>False
  | .slice p n c,some e,some g=>match e.aH,g.aH with
   | .slice _,.int .u8=>cond (Nat.beq r q) (cG (eC s ch) (yx p) (λ_ d=>K (.v (.slice p n c)) d) h) False
   | _,_=>False
  | _,_,_=>False
 | .call {callee:=.builtin b,args:=k,argTypes:=j}=>ng (dX s ch k.toList) λi=>match b with
  | .append=>A4 tb (eC s ch) j.toList i h K
  | .copy=>ur P tb o.type (eC s ch) j i h K
  | .delete=>A8 P tb o.type (eC s ch) j i h K
  | .clear=>rf (eC s ch) P tb o.type (Builtin.clear_ j o.type i.toArray) K h
  | _=>False
 | .call {callee:=.value f,args:=k,argTypes:=_}=>ng (dX s ch k.toList) λi=>match f with
  | .func g=>C1 P tb o.type (eC s ch) g i h K
  | .tmp t=>C2 P tb o.type (eC s ch) (ev s ch (.tmp t)) i h K
  | _=>False
 | _=>False
def XF (tb:Tb) (o:Oper):Bool:=
 match o.op with
 | .convert s d _=>match tb.ty s,tb.ty d with
  | some a,some b=>match a.aH,b.aH with
   | .int _,.int _ | .int _,.float _ | .float _,.int _ | .float _,.float _ | .int _,.string | .slice _,.string | .string,.string=>true
   | _,_=>false
  | _,_=>false
 | _=>false
def M0 (tb:Tb) (op:BinOp) (t:Nat):Bool:=
 match op with
 | .add | .sub | .mul | .quo=>match tb.ty t with
  | some e=>match e.aH with
   | .float _=>true
   | _=>false
  | none=>false
 | _=>false
def isVal (tb:Tb) (o:Oper):Bool:=
 match o.op with
 | .binOp op t _ _ _=>cond (M0 tb op t) false true
 | .move _ | .assign _ | .pick .. | .extract .. | .unOp .. | .nilCheck _ | .load .. | .fieldAddr .. | .field .. | .indexAddr .. | .index ..
 | .slice .. | .makeInterface .. | .makeFunc .. | .build .. | .lookup .. =>true
 | .convert .. =>XF tb o
 | .call {callee:=.builtin b,..}=>match b with
  | .len | .cap | .min | .max=>true
  | _=>false
 | _=>false
def has (l:List Nat) (i:Nat):Bool:=
 match l with
 | []=>false
 | a::r=>cond (Nat.beq i a) true (has r i)
def bR :List Oper->List Nat
 | []=> []
 | o::r=>match o.dst with
  | some d=>d::bR r
  | none=>bR r
def app {b:Type _}:List b->List b->List b
 | [],l=>l
 | a::r,l=>a::app r l
def jS :List Nat->List Nat->Bool
 | [],_=>true
 | a::r,l=>cond (has l a) (jS r l) false
structure Ctx where
 P:Program
 tb:Tb
 aM:List Nat
def qb (l:List Nat) (o:Oper):Option Nat:=
 match o.dst with
 | some d=>cond (has l d) (some d) none
 | none=>none
def pj (a:List Oper):Nat->Oper->Option aU
 | 0,_=>none
 | n+1,o=>match o.guard with
  | none=>some []
  | some (j,w)=>match nth a j with
   | some p=>match p.dst,pj a n p with
    | some d,some c=>some ((d,w)::c)
    | _,_=>none
   | none=>none
def KC (C:Ctx) (t:Nat) (a b:Value) (ok:Bool) (h:Hp) (v:Value):Prop:=
 match a,C.tb.ty t with
 | .map m,some e=>match e.aH with
  | .map k u=>match C.tb.ty k,C.tb.ty u with
   | some c,some d=>cond (q5 c.aH) (cond ok (match v with
     | .tuple ⟨[x,.bool y]⟩=>xg c.aH d.zero m b h x y
     | _=>False) (∃y,xg c.aH d.zero m b h v y)) (ic C.P (Instr.lookup t a b ok) h v)
   | _,_=>False
  | _=>False
 | _,_=>False
def od (C:Ctx) (c:Nat->Bool) (o:Oper) (ch:aU) (s:St) (h:Hp):Prop:=
 match o.op,o.dst with
 | .load _ x,some d=>match s.f d with
  | some (.v v,_)=>match ev s ch x with
   | some (.v (.pointer (some a)))=>ko (eC s ch) (bp h a (be v))
   | some (.box b _)=>cond (c b) False True
   | some (.dL b _)=>cond (c b) False True
   | _=>False
  | _=>False
 | .lookup t x i ok,some d=>match s.f d with
  | some (.v v,_)=>hO (ev s ch x) λa=>hO (ev s ch i) λb=>ko (eC s ch) (KC C t a b ok h v)
  | _=>False
 | .call {callee:=.builtin .len,args:=g,argTypes:=e},some d=>match s.f d with
  | some (.v v,_)=>match dX s ch g.toList with
   | some [x]=>ko (eC s ch) (ic C.P (Builtin.len_ e o.type #[x]) h v)
   | _=>False
  | _=>False
 | _,_=>False
def Ek (C:Ctx) (b:Nat->Bool) (a:List Oper) (s:St) (h:Hp):List Nat->Prop
 | []=>True
 | r::l=>(match nth a r with
   | some o=>match pj a a.length o with
    | some ch=>od C b o ch s h
    | none=>False
   | none=>False)/\Ek C b a s h l
def sN (s:St):aU->Bool
 | []=>true
 | (d,_)::c=>match s.f d with
  | some (.v (.bool _),a)=>cond (nJ a c) (sN s c) false
  | _=>false
def nodup :List Nat->Bool
 | []=>true
 | a::r=>cond (has r a) false (nodup r)
def rH :List Oper->Bool
 | []=>true
 | o::r=>match o.guard with
  | none=>rH r
  | some _=>false
def xi (d i:Nat):List Oper->Option Nat
 | []=>none
 | o::r=>match o.op with
  | .extract (.tmp t) j=>cond (Nat.beq t d) (cond (Nat.beq j i) (some o.type) (xi d i r)) (xi d i r)
  | _=>xi d i r
def Jw (tb:Tb) (d i:Nat) (a:List Oper):Shape:=match xi d i a with
 | some t=>match tb.ty t with
  | some e=>e.sh
  | none=>yX
 | none=>yX
def A9 (C:Ctx) (b:List Oper) (o:Oper) (ch:aU) (s:St) (h:Hp) (K:LV->Hp->Prop):Prop:=
 match o.op,o.dst with
 | .entry x,some d=>hO (ev s ch x) λa=>LC (eC s ch) C.P (my (Jw C.tb d 0 b) (Jw C.tb d 1 b)) (Instr.entry a) K h
 | _,_=>False
def Bq (C:Ctx) (b:List Oper) (f:List Nat) (o:Oper) (s:St) (h:Hp) (K:St->Hp->Prop):Prop:=
 match pj b b.length o with
 | none=>False
 | some ch=>cond (sN s ch)
  (cond (isVal C.tb o) (u9 C.P C.tb o ch s h λl=>K (s.put o.dst l ch) h)
  (match qb C.aM o,ch with
   | some d,[]=>cond (has f d) (match o.op with
    | .alloc t=>match C.tb.ty t with
     | some e=>K ((s.put (some d) (.box d 0) []).fU d (be e.zero)) h
     | none=>False
    | .box _ x=>hO (ev s ch x) λv=>K ((s.put (some d) (.box d 0) []).fU d (be v)) h
    | _=>False) False
   | some _,_=>False
   | none,_=>match o.op with
    | .store t x y=>match ev s ch x,ev s ch y with
     | some (.box k off),some (.v v)=>match s.m k,C.tb.ty t,ch with
      | some c,some e,[]=>cond (has f k) (cond (Nat.beq (be v).length e.size) (cond (Nat.ble (off+e.size) c.length) (cond (iV (be v))
        (K ((s.put o.dst (.v (.tuple #[])) ch).fU k (kg c off (be v))) h) False) False) False) False
      | _,_,_=>False
     | _,_=>wB C.P C.tb o ch s h λl a=>K (s.put o.dst l ch) a
    | .entry _=>A9 C b o ch s h λl a=>K (s.put o.dst l ch) a
    | _=>wB C.P C.tb o ch s h λl a=>K (s.put o.dst l ch) a)) False
def uo (o:Oper) (s:St) (k:Nat):Bool:=match o.op with
 | .store _ x _=>(match ev s [] x with
  | some (.box b _)=>Nat.beq k b
  | some (.v _)=>false
  | _=>true)
 | _=>false
def qS (tb:Tb) (o:Oper):Bool:=match o.op with
 | .move _ | .assign _ | .pick .. | .extract .. | .unOp .. | .nilCheck _ | .fieldAddr .. | .field .. | .indexAddr .. | .index .. | .slice .. | .makeInterface .. | .makeFunc .. | .build .. =>false
 | .binOp _ t _ _ _=>match tb.ty t with
  | some e=>match e.aH with
   | .int _ | .bool | .string | .float _=>false
   | _=>true
  | none=>true
 | .call {callee:=.builtin b,argTypes:=a,..}=>match b with
  | .cap | .min | .max=>false
  | .len=>match a.toList with
   | [t]=>match tb.ty t with
    | some e=>match e.aH with
     | .slice _ | .string | .array _ _=>false
     | _=>true
    | none=>true
   | _=>true
  | _=>true
 | .convert s _ _=>match tb.ty s with
  | some e=>match e.aH with
   | .int _ | .float _ | .string=>false
   | _=>true
  | none=>true
 | _=>true
def C3 (C:Ctx) (a:List Oper) (o:Oper) (s:St):Bool:=
 cond (isVal C.tb o) (cond (qS C.tb o) true (match pj a a.length o with
  | some ch=>match cH C.tb o ch s with
   | .pure=>true
   | _=>false
  | none=>false)) true
def nR (C:Ctx) (a:List Oper) (c:List Nat):List (Nat×List Nat)->St->Hp->(St->Hp->Prop)->Prop
 | [],s,h,K=>K s h
 | (i,ws)::r,s,h,K=>match nth a i with
  | some o=>cond (C3 C a o s) (Bq C a c o s h λd b=>match ws with
   | []=>nR C a c r d b K
   | ws=>Ek C (uo o s) a d b ws/\nR C a c r d b K) False
  | none=>False
def Bu (C:Ctx) (b:List Oper) (a:List Nat):List Oper->St->Hp->(St->Hp->Prop)->Prop
 | [],s,h,K=>K s h
 | o::r,s,h,K=>Bq C b a o s h λd c=>Bu C b a r d c K
def tq (e:Edge):Bool:=match e.ground with
 | .textOnly _=>false
 | .gcOnly _=>false
 | _=>true
def waits (o:Oper):List Nat:=go o.after.toList
 where
 go:List Edge->List Nat
  | []=> []
  | e::r=>cond (tq e) (e.on::go r) (go r)
def uj (j:Nat) (l:List Nat):List Nat:=cond (has l j) l (j::l)
def Bj :List Nat->List Nat->List Nat
 | [],b=>b
 | a::r,b=>Bj r (uj a b)
def bC :List Oper->List (List Nat)->List (List Nat)
 | [],a=>a
 | o::r,a=>bC r (app a [union (waits o) a])
 where
 union:List Nat->List (List Nat)->List Nat
  | [],_=> []
  | j::l,a=>uj j (Bj (match nth a j with
   | some x=>x
   | none=> []) (union l a))
def kP (rows:List (List Nat)) (i:Nat):List Nat:=match nth rows i with
 | some l=>l
 | none=> []
def lu (aM:List Nat) (o:Oper):Bool:=match o.op,o.dst with
 | .alloc _,some d=>has aM d
 | .box _ _,some d=>has aM d
 | _,_=>false
def wK :List (Nat×Operand)->List Operand
 | []=> []
 | (_,x)::r=>x::wK r
def uM :Option Operand->List Operand
 | none=> []
 | some x=> [x]
def C4 :Op->Option (List Operand)
 | .alloc _=>some []
 | .move x | .assign x | .box _ x | .load _ x | .nilCheck x | .unOp _ _ x | .convert _ _ x | .fieldAddr _ x _ | .field _ x _ | .range _ x | .next x _ | .entry x | .extract x _ | .makeInterface _ x=>some [x]
 | .pick c a b=>some [c,a,b]
 | .build _ e | .buildSlice _ _ e=>some (wK e.toList)
 | .store _ a v | .binOp _ _ a v _ | .makeSlice _ a v | .indexAddr _ a v | .index _ a v | .lookup _ a v _ | .mapEntry _ a v=>some [a,v]
 | .makeFunc _ first captured=>some (app first.toList captured.toList)
 | .makeMap _ r=>some (uM r)
 | .slice _ x l h m=>some (x::app (uM l) (app (uM h) (uM m)))
 | .mapUpdate _ m k v | .entryStore _ m k v | .insert _ m k v=>some [m,k,v]
 | .call {callee:=.value f,args:=d,..}=>some (f::d.toList)
 | .call {callee:=.builtin _,args:=d,..}=>some d.toList
 | _=>none
def sc (o:Oper) (t:Nat):Bool:=match o.dst with
 | some d=>Nat.beq d t
 | none=>false
def looksAt (o:Oper) (t:Nat):Bool:=match C4 o.op with
 | some l=>go l
 | none=>true
 where
 go:List Operand->Bool
  | []=>false
  | .tmp u::r=>cond (Nat.beq u t) true (go r)
  | _::r=>go r
def tG (rows:List (List Nat)) (i t:Nat):List Oper->Nat->Bool
 | [],_=>true
 | p::r,j=>cond (cond (sc p t) (cond (has (kP rows i) j) true (cond (Nat.beq i j) true (has (kP rows j) i))) true) (tG rows i t r (j+1)) false
def dj (a:List Oper) (rows:List (List Nat)) (i:Nat) (o:Oper):Bool:=
 match C4 o.op with
 | some l=>cond (go l) (match o.guard with
  | none=>true
  | some (j,_)=>has (kP rows i) j) false
 | none=>false
 where
 go:List Operand->Bool
  | []=>true
  | .tmp t::r=>cond (tG rows i t a 0) (go r) false
  | _::r=>go r
def gH (rows:List (List Nat)) (j:Nat) (o:Oper):List Oper->Nat->Bool
 | [],_=>false
 | p::r,i=>match o.dst with
  | none=>false
  | some d=>cond (cond (looksAt p d) (cond (has (kP rows i) j) false true) false) true (gH rows j o r (i+1))
def dW (tb:Tb) (aM:List Nat) (a:List Oper) (rows:List (List Nat)):List (Nat×List Nat)->List Nat->Option Nat->Bool
 | [],_,_=>true
 | (i,b)::r,done,last=>match nth a i with
  | some o=>cond (cond (jS (waits o) done) (dj a rows i o) false)
   (cond (has done i) false (cond (match last with
     | none=>true
     | some e=>has (kP rows i) e)
    (match cond (isVal tb o) true (lu aM o),gH rows i o a 0 with
     | true,false=>dW tb aM a rows r (i::done) last
     | true,true=>dW tb aM a rows r (i::done) (some i)
     | false,_=>cond (watched tb a rows b i done) (dW tb aM a rows r (i::done) (some i)) false) false)) false
  | none=>false
 where
 watched (tb:Tb) (a:List Oper) (rows:List (List Nat)) (b:List Nat) (e:Nat):List Nat->Bool
  | []=>true
  | r::l=>cond (match nth a r with
    | some o=>cond (cond (qS tb o) (isVal tb o) false) (cond (has b r) true (has (kP rows e) r)) true
    | none=>false) (watched tb a rows b e l) false
def St.clean (s:St):St:={f:=λi=>match s.f i with | some (l,[])=>some (l,[]) | _=>none,m:=s.m}
def j7 (aM:List Nat):List Oper->List Nat
 | []=> []
 | o::r=>cond (lu aM o) (match o.dst with
  | some d=>d::j7 aM r
  | none=>j7 aM r) (j7 aM r)
def pA (l:List Nat) (x:Option (LV×aU)):Option (LV×aU):=match x with
 | some (.box k o,c)=>cond (has l k) none (some (.box k o,c))
 | some (.dL k o,c)=>cond (has l k) none (some (.dL k o,c))
 | some (.v v,c)=>some (.v v,c)
 | none=>none
def St.kq (s:St) (l:List Nat):St:=match l with
 | []=>s
 | l=>{f:=λi=>pA l (s.f i),m:=λk=>cond (has l k) none (s.m k)}
def xI :List Oper->Nat->Bool
 | [],_=>true
 | o::r,i=>match o.guard with
  | none=>xI r (i+1)
  | some (j,_)=>cond (Nat.blt j i) (xI r (i+1)) false
def yW (aM:List Nat) (a:List Oper):Bool:=
 cond (nodup (j7 aM a)) (cond (rH a) true (cond (nodup (bR a)) (xI a 0) false)) false
structure J where
 M1:Bool
 i:Nat
 t:Nat
inductive bt where
 | tt
 | sq (x y:bt)
 | jn (js:List J) (mm:List Nat) (x y:bt)
 | lp (js:List J) (mm:List Nat) (x:bt)
 | bk (x:bt)
 | bj (js:List J) (mm:List Nat) (x:bt)
 | sp (k:Nat) (x y:bt)
 | gs (l:Nat) (x:bt)
 | gj (l:Nat) (js:List J) (mm:List Nat) (x y:bt)
 | rg (ord:List (Nat×List Nat))
 | r2 (pre:List (Nat×List Nat)) (i j:Nat) (x y:bt)
 | gd (l:Nat) (a x:bt)
def bt.fst :bt->bt
 | .sq x _ | .jn _ _ x _ | .gj _ _ _ x _ | .sp _ x _ | .lp _ _ x | .bk x | .bj _ _ x=>x
 | _=>.tt
def bt.snd :bt->bt
 | .sq _ y | .jn _ _ _ y | .gj _ _ _ _ y | .sp _ _ y=>y
 | _=>.tt
inductive Ex where
 | fS
 | ret
 | ext (i:Nat)
 | jN (i:Nat)
abbrev Env :=Ex->St->Hp->Prop
def Env.fS (E:Env) (K:St->Hp->Prop):Env
 | .fS=>K
 | .ret=>E .ret
 | .ext i=>E (.ext i)
 | .jN i=>E (.jN i)
def Env.yB (E:Env) (id:Nat) (K:St->Hp->Prop):Env
 | .fS=>K
 | .ret=>E .ret
 | .ext i=>cond (Nat.beq i id) K (E (.ext i))
 | .jN i=>E (.jN i)
def Env.lf (E:Env):Env
 | .fS=>E .fS
 | .ret=>E .ret
 | .ext i=>E (.ext i)
 | .jN _=>λ_ _=>False
def nG (tb:Tb):List J->Type
 | []=>Unit
 | [j]=>(dz tb j.t).T
 | j::a::js=>(dz tb j.t).T×nG tb (a::js)
def xj (tb:Tb) (t:Nat):Bool:=match tb.ty t with
 | some e=>nF e.aH
 | none=>false
def yh (tb:Tb) (t:Nat) (a:List Value):Option Value:=
 cond (xj tb t) (some (.agg a.toArray)) (match a with
  | [v]=>some v
  | _=>none)
def ME (sh:Shape) (v:Value) (K:sh.T->Prop):Prop:=∃x,sh.enc x=v/\K x
def yM (tb:Tb) (t:Nat):Bool:=match tb.ty t with
 | some e=>match e.aH with
  | .interface _=>true
  | _=>false
 | none=>false
def s8 (tb:Tb) (t:Nat) (v:Value) (K:(dz tb t).T->Prop):Prop:=
 cond (yM tb t) (ME (dz tb t) v K) (match (dz tb t).dec v with
  | some x=>K x
  | none=>False)
def xk (tb:Tb) (s:St) (j:J) (K:(dz tb j.t).T->Prop):Prop:=
 cond j.M1
  (match s.m j.i with
   | some a=>match yh tb j.t a with
    | some v=>s8 tb j.t v K
    | none=>False
   | none=>False)
  (match s.f j.i with
   | some (.v v,[])=>s8 tb j.t v K
   | _=>False)
def mY (tb:Tb):(js:List J)->St->(nG tb js->Prop)->Prop
 | [],_,K=>K ()
 | [j],s,K=>xk tb s j K
 | j::a::js,s,K=>xk tb s j λx=>mY tb (a::js) s λy=>K (x,y)
def vH (tb:Tb) (j:J) (x:(dz tb j.t).T) (s:St):St:=
 cond j.M1 (s.fU j.i (be ((dz tb j.t).enc x))) (s.put (some j.i) (.v ((dz tb j.t).enc x)) [])
def np (tb:Tb):(js:List J)->nG tb js->St->St
 | [],_,s=>s
 | [j],x,s=>vH tb j x s
 | j::a::js,p,s=>np tb (a::js) p.2 (vH tb j p.1 s)
def dU :Code->List Nat
 | .region _ c _=>bR c.toList
 | .seq a b=>app (dU a) (dU b)
 | .cond _ a b=>app (dU a) (dU b)
 | .block _ a=>dU a
 | .loop a=>dU a
 | .scope a=>dU a
 | _=> []
def St.forget (s:St) (l a:List Nat):St:=
 {f:=λi=>cond (has l i) none (pA l (s.f i)),m:=λi=>cond (has a i) none (s.m i)}
inductive Md where
 | full
 | fr (l:Nat)
 | pr (l:Nat)
 | rs (l:Nat)
 | rz (l:Nat)
def kr :Code->Nat->Bool
 | .seq a b,l=>cond (kr a l) (kr b l) false
 | .label c,l=>cond (Nat.beq c l) false true
 | _,_=>true
def pT :Code->Nat->Option Code
 | .seq a b,l=>match a with
  | .label c=>cond (Nat.beq c l) (some b) none
  | _=>cond (kr a l) (pT b l) none
 | _,_=>none
def mJ :Code->Nat->Option Code
 | .seq a b,l=>match a with
  | .label c=>cond (Nat.beq c l) (some b) (mJ b l)
  | _=>cond (kr a l) (mJ b l) none
 | _,_=>none
def Env.put (E:Env) (l:Nat) (K:St->Hp->Prop):Env
 | .fS=>E .fS
 | .ret=>E .ret
 | .ext i=>E (.ext i)
 | .jN i=>cond (Nat.beq i l) K (E (.jN i))
def uA (R:Nat->bt->Env->St->Hp->Prop):bt->Env->Env
 | .gd l a x,E=>uA R x (E.put l (R l a E))
 | _,E=>E
def yF :bt->bt
 | .gd _ _ x=>yF x
 | a=>a
def Env.Ly (E:Env) (l:Nat) (K:St->Hp->Prop):Env
 | .fS=>K
 | .ret=>E .ret
 | .ext i=>E (.ext i)
 | .jN i=>cond (Nat.beq i l) K λ_ _=>False
def Bs (k:Nat) (s:St) (h:Hp) (K:St->Hp->Prop):Prop:=
 match s.f k,s.m k with
 | some (.box d off,[]),some b=>cond (Nat.beq k d) (cond (Nat.beq off 0) (bD b (λa c=>
   K {f:=λi=>cond (Nat.beq i k) (some (.v (.pointer (some a)),[])) (s.f i),m:=λi=>cond (Nat.beq i k) none (s.m i)} c) h) False) False
 | _,_=>False
def eu :List Oper->Nat->Nat->List Oper
 | [],_,_=> []
 | o::r,0,i=>{o with after:=⟨app o.after.toList [⟨i,.data⟩]⟩}::r
 | o::r,j+1,i=>o::eu r j i
def tT (tb:Tb) (aM:List Nat) (a:List Oper) (rows:List (List Nat)):List (Nat×List Nat)->List Nat->Option Nat->List Nat×Option Nat
 | [],done,last=>(done,last)
 | (i,_)::r,done,last=>match nth a i with
  | some o=>match cond (isVal tb o) true (lu aM o),gH rows i o a 0 with
   | true,false=>tT tb aM a rows r (i::done) last
   | _,_=>tT tb aM a rows r (i::done) (some i)
  | none=>(done,last)
def tH (rows:List (List Nat)) (i:Nat) (done:List Nat):Nat->Bool
 | 0=>true
 | k+1=>cond (cond (has done k) true (cond (Nat.beq k i) true (has (kP rows k) i))) (tH rows i done k) false
def tI (b:List Oper) (c:List (List Nat)) (a:List Oper) (rows:List (List Nat)):List Nat->Bool
 | []=>true
 | k::r=>cond (match nth a k with
  | some o=>cond (gH c k o b 0) true (cond (dj a rows k o) (cond (gH rows k o a 0) false true) false)
  | none=>false) (tI b c a rows r) false
def Jz (a:List Oper) (i j:Nat) (done:List Nat) (last:Option Nat):Bool:=
 cond (Nat.beq i j) false (match nth a i,nth a j with
  | some o,some p=>cond (has done i) false (cond (has done j) false (cond (jS (waits o) done) (cond (jS (waits p) done) (cond (match last with
    | none=>true
    | some e=>cond (has done e) (tH (bC a []) e done a.length) false)
   (cond (tH (bC (eu a j i) []) i done a.length) (cond (tH (bC (eu a i j) []) j done a.length)
    (cond (tI a (bC a []) (eu a j i) (bC (eu a j i) []) done) (tI a (bC a []) (eu a i j) (bC (eu a i j) []) done) false) false) false) false) false) false))
  | _,_=>false)
def nh (tb:Tb) (aM:List Nat):bt->List Oper->List Nat->Option Nat->Bool
 | .rg ord,ops,done,last=>cond (Nat.beq (done.length+ord.length) ops.length) (dW tb aM ops (bC ops []) ord done last) false
 | .r2 pre i j x y,ops,done,last=>cond (dW tb aM ops (bC ops []) pre done last) (match tT tb aM ops (bC ops []) pre done last with
   | (d,l)=>cond (Jz ops i j d l) (cond (nh tb aM x (eu ops j i) d l) (nh tb aM y (eu ops i j) d l) false) false) false
 | _,_,_,_=>false
def uR (C:Ctx) (b:List Nat) (K:St->Hp->Prop):bt->List Oper->St->Hp->Prop
 | .rg e,a,s,h=>nR C a b e s h K
 | .r2 pre i j x y,a,s,h=>nR C a b pre s h λd c=>uR C b K x (eu a j i) d c/\uR C b K y (eu a i j) d c
 | _,_,_,_=>False
def liftM (C:Ctx):Code->Md->bt->List Nat->St->Env->Hp->Prop
 | .skip,.full,_,_,s,E,h=>E .fS s h
 | .ret,.full,_,_,s,E,h=>E .ret s h
 | .exit id,.full,_,_,s,E,h=>E (.ext id) s h
 | .goto l,.full,_,_,s,E,h=>E (.jN l) s h
 | .label _,.full,_,_,s,E,h=>E .fS s h
 | .region _ g n,.full,A,mok,s,E,h=>
  match n with
  | false=>cond (yW C.aM g.toList) (Bu C g.toList mok g.toList (s.kq (j7 C.aM g.toList)) h λe d=>E .fS e.clean d) False
  | true=>cond (cond (nodup (bR g.toList)) (nh C.tb C.aM A g.toList [] none) false) (uR C mok (λe d=>E .fS e.clean d) A g.toList (s.kq (j7 C.aM g.toList)) h) False
 | .seq a b,.full,A,mok,s,E,h=>
  match A with
  | .jn f mm _ _=>cond (jS mm mok) (mN (λ(R:nG C.tb f->Hp->Prop)=>liftM C a .full A.fst mm s (E.fS λe d=>mY C.tb f e λx=>R x d) h)
    (λx d=>liftM C b .full A.snd mok (np C.tb f x (s.forget (dU a) mm)) E d)) False
  | .sp k _ _=>cond (has mok k) (liftM C a .full A.fst mok s (E.fS λe d=>Bs k e d λs2 o=>liftM C b .full A.snd mok s2 E o) h) False
  | _=>liftM C a .full A.fst mok s (E.fS λe d=>liftM C b .full A.snd mok e E d) h
 | .seq a b,.fr l,A,mok,s,E,h=>
  match a with
  | .label _=>E .fS s h
  | _=>liftM C a .full A.fst mok s (E.fS λe d=>liftM C b (.fr l) A.snd mok e E d) h
 | .seq a b,.pr l,A,mok,s,E,h=>
  match a with
  | .label _=>False
  | _=>match A with
   | .gj _ f mm x _=>cond (jS mm mok) (liftM C a .full .tt mok s (E.lf.fS λe d=>
     mN (λ(R:nG C.tb f->Hp->Prop)=>liftM C b (.fr l) x mm e (E.Ly l λe d=>mY C.tb f e λx=>R x d) d)
      (λx d=>liftM C b (.rs l) A.snd mok (np C.tb f x (e.forget (dU b) mm)) E.lf d)) h) False
   | _=>liftM C a .full A.fst mok s (E.lf.fS λe d=>liftM C b (.pr l) A.snd mok e E d) h
 | .seq a b,.rs l,A,mok,s,E,h=>
  match a with
  | .label _=>liftM C b .full A mok s E h
  | _=>liftM C b (.rs l) A mok s E h
 | .seq a b,.rz l,A,mok,s,E,h=>
  match a with
  | .label p=>cond (Nat.beq p l) (liftM C b .full A mok s E h) (liftM C b (.rz l) A mok s E h)
  | _=>liftM C b (.rz l) A mok s E h
 | .cond c a b,.full,A,mok,s,E,h=>hO (ev s [] c) λv=>match v with
  | .bool t=>if t=true then liftM C a .full A.fst mok s E h else liftM C b .full A.snd mok s E h
  | _=>False
 | .scope a,.full,A,mok,s,E,h=>
  match A with
  | .gs l x=>match pT a l with
   | some _=>liftM C a (.pr l) x mok s E h
   | none=>False
  | .gd j a0 i=>liftM C a .full (yF (.gd j a0 i)) mok s (uA (λl m E s h=>match mJ a l with
   | some _=>liftM C a (.rz l) m mok s E h
   | none=>False) (.gd j a0 i) E.lf) h
  | _=>liftM C a .full A mok s E.lf h
 | .block id a,.full,A,mok,s,E,h=>
  match A with
  | .bj f mm _=>cond (jS mm mok) (mN (λ(R:nG C.tb f->Hp->Prop)=>liftM C a .full A.fst mm s (E.yB id λe d=>mY C.tb f e λx=>R x d) h)
    (λx d=>E .fS (np C.tb f x (s.forget (dU a) mm)) d)) False
  | _=>liftM C a .full A.fst mok s (E.yB id (E .fS)) h
 | .loop a,.full,A,mok,s,E,h=>
  match A with
  | .lp f mm _=>cond (jS mm mok) (mY C.tb f s λi=>pV (λ(R:nG C.tb f->Hp->Prop) x h=>liftM C a .full A.fst mm (np C.tb f x (s.forget (dU a) mm))
    (E.fS λe d=>mY C.tb f e λx=>R x d) h) i h) False
  | _=>False
 | _,_,_,_,_,_,_=>False
def mz (C:Ctx) (s:St) (r:ResultVar) (t:Nat) (K:(dz C.tb t).T->Prop):Prop:=
 match r with
 | .tmp i=>match s.f i with
  | some (.v v,[])=>s8 C.tb t v K
  | _=>False
 | .cell i b=>cond (Nat.beq b t) (match s.f i,C.tb.ty t with
  | some (.box k 0,[]),some _=>match s.m k with
   | some a=>match yh C.tb t a with
    | some v=>s8 C.tb t v K
    | none=>False
   | none=>False
  | _,_=>False) False
def bP (tb:Tb):List Nat->Shape
 | []=>sQ
 | [a]=>dz tb a
 | [a,b]=>my (dz tb a) (dz tb b)
 | [a,b,c]=>rK (dz tb a) (dz tb b) (dz tb c)
 | [a,b,c,d]=>xd (dz tb a) (dz tb b) (dz tb c) (dz tb d)
 | [a,b,c,d,e]=>xe (dz tb a) (dz tb b) (dz tb c) (dz tb d) (dz tb e)
 | [a,b,c,d,e,f,g]=>YV (dz tb a) (dz tb b) (dz tb c) (dz tb d) (dz tb e) (dz tb f) (dz tb g)
 | _=>sQ
def th (C:Ctx) (s:St) (h:Hp):(rs:List ResultVar)->(u:List Nat)->((bP C.tb u).T->Hp->Prop)->Prop
 | [],[],K=>K () h
 | [r],[t],K=>mz C s r t λx=>K x h
 | [a,r2],[t1,t2],K=>mz C s a t1 λb=>mz C s r2 t2 λc=>K (b,c) h
 | [a,r2,d],[t1,t2,e],K=>mz C s a t1 λb=>mz C s r2 t2 λc=>mz C s d e λf=>K (b,c,f) h
 | [a,r2,d,g],[t1,t2,e,i],K=>mz C s a t1 λb=>mz C s r2 t2 λc=>mz C s d e λf=>mz C s g i λj=>K (b,c,f,j) h
 | [a,r2,d,g,k],[t1,t2,e,i,l],K=>mz C s a t1 λb=>mz C s r2 t2 λc=>mz C s d e λf=>mz C s g i λj=>
   mz C s k l λm=>K (b,c,f,j,m) h
 | [a,r2,d,g,k,n,o],[t1,t2,e,i,l,p,q],K=>mz C s a t1 λb=>mz C s r2 t2 λc=>mz C s d e λf=>mz C s g i λj=>
   mz C s k l λm=>mz C s n p λv=>mz C s o q λw=>K (b,c,f,j,m,v,w) h
 | _,_,_=>False
def rY (args:List Value) (i:Nat):Option (LV×aU):=match nth args i with
 | some v=>some (.v v,[])
 | none=>none
def vI (f:Func):Code:=match f.body with
 | some c=>c
 | none=>.refuse ""
def rX (n:Nat):List Nat->Bool
 | []=>true
 | i::r=>cond (Nat.blt i n) (rX n r) false
def Fl (C:Ctx) (f:Func) (A:bt) (args:List Value) (K:(bP C.tb f.resultTypes.toList).T->Hp->Prop) (h:Hp):Prop:=
 cond (cond (Nat.ble args.length f.ntmps) (rX f.ntmps (dU (vI f))) false)
  (liftM C (vI f) .full A C.aM {f:=rY args,m:=λ_=>none} (λe s h=>match e with
   | .fS | .ret=>th C s h f.results.toList f.resultTypes.toList K
   | _=>False) h) False
structure Tb.Ok (P:Program) (tb:Tb):Prop where
 aH:∀t e,tb.ty t=some e->P.underlying t=some e.aH
 info:∀t e,tb.ty t=some e->∃i,P.info? t=some i/\i.size=e.size/\i.bytes=e.bytes/\i.zero=some e.zero
 agg:∀t e,tb.ty t=some e->nF e.aH=true->∀x,∃cs,e.sh.enc x=.agg cs/\cs.size=e.size
 leaf:∀t e,tb.ty t=some e->nF e.aH=false->e.size=1/\∀x,(be (e.sh.enc x)).length=1/\∀cs,e.sh.enc x≠ .agg cs
 xK:∀t e,tb.ty t=some e->(be e.zero).length=e.size
 AJ:∀t e,tb.ty t=some e->e.aH=.int .u8->be e.zero=[.int .u8 0]
 Nd:∀t e,tb.ty t=some e->nF e.aH=true->∃cs,e.zero=.agg cs
 call:∀g,tb.call g=true->∀args w,(callFunc g args).run P w=.ok (.enter g args) w
 ext:∀g f,tb.ext g=some f->∀args w,(callFunc g args).run P w=((f args).run P w).andThen λv w'=>.ok (.value v) w'
 mixed:P.follows .mixedOrders=true
theorem yi :∀ {c d:aU},nJ c d=true->c=d
 | [],[],_=>rfl
 | [],_::_,h=>by simp [nJ] at h
 | (t,w)::c,[],h=>by simp [nJ] at h
 | (t,w)::c,(u,x)::d,h=>by
  simp only [nJ] at h;cases a:Nat.beq t u with
  | false=>simp [a] at h
  | true=>
   cases b:Ju w x with
   | false=>simp [a,b] at h
   | true=>
    simp only [a,b,cond_true] at h;have e:t=u:=Nat.eq_of_beq_eq_true a;have f:w=x:=by cases w<;>cases x<;>first | rfl | cases b
    rw [e,f,yi h]
theorem GP :∀ {c ch:aU},mw c ch=true->∀p∈c,p∈ch
 | c,[],h=>by
  cases c with
  | nil=>intro p hp;cases hp
  | cons a r=>simp [mw] at h
 | c,q::d,h=>by
  cases c with
  | nil=>intro p hp;cases hp
  | cons a r=>
   simp only [mw] at h;cases b:nJ (a::r) (q::d) with
   | true=>intro p hp;rw [<-yi b];exact hp
   | false=>simp only [b,cond_false] at h;intro p hp;exact List.mem_cons_of_mem _ (GP h p hp)
def hb (s:St) (t:Nat):Option Bool:=match s.f t with
 | some (.v (.bool b),_)=>some b
 | _=>none
def holds (s:St) (ch:aU):Prop:=∀p∈ch,hb s p.1=some p.2
theorem bG (s:St):holds s []:=λ_ h=>by cases h
theorem wU {s:St} {c ch:aU} (a:mw c ch=true) (h:holds s ch):holds s c:=λp hp=>h p (GP a p hp)
theorem GR {s:St} (t:Nat) (w:Bool) (r:aU):∃b,eC s ((t,w)::r)=some b/\(holds s ((t,w)::r)->b=true):=by
 induction r generalizing t w with
 | nil=>
  simp only [eC];split
  ·rename_i b c a;refine ⟨_,rfl,λh=> ?_⟩;have:=h (t,w) (List.mem_cons_self ..);simp only [hb,a] at this;grind
  ·refine ⟨false,rfl,λh=> ?_⟩;have:=h (t,w) (List.mem_cons_self ..);unfold hb at this;split at this
   ·rename_i e _ b c a;exact absurd a (e b c)
   ·cases this
 | cons p r k=>
  obtain ⟨l,m⟩:=p;obtain ⟨f,g,i⟩:=k l m;simp only [eC];split
  ·rename_i b c a;rw [g];refine ⟨_,rfl,λh=> ?_⟩;have d:=h (t,w) (List.mem_cons_self ..);simp only [hb,a] at d;injection d with d
   have n:f=true:=i λq j=>h q (List.mem_cons_of_mem _ j);grind
  ·refine ⟨false,rfl,λh=> ?_⟩;have:=h (t,w) (List.mem_cons_self ..);unfold hb at this;split at this
   ·rename_i e _ b c a;exact absurd a (e b c)
   ·cases this
theorem nE {s:St} {ch:aU} {p:Prop} (h:ko (eC s ch) p) (a:holds s ch):p:=by
 cases ch with
 | nil=>exact h
 | cons q r=>obtain ⟨t,w⟩:=q;obtain ⟨b,hb,c⟩:=GR (s:=s) t w r;rw [hb] at h;exact h (c a)
def LVal (a:Nat->Nat):LV->Value
 | .v x=>x
 | .box k o=>.pointer (some ⟨a k,o,none⟩)
 | .dL k o=>.pointer (some ⟨a k,o,none⟩)
def eD (β:Nat->Nat) (s:St) (ρ:Operand->Value):Operand->Prop
 | .tmp t=>∀l c,s.f t=some (l,c)->holds s c->ρ (.tmp t)=LVal β l
 | .const v=>ρ (.const v)=v
 | .global g=>ρ (.global g)=.pointer (some ⟨g,0,none⟩)
 | .func f=>ρ (.func f)=.func (.func f) #[] #[]
theorem bE {e:Nat->Nat} {s:St} {h:Operand->Value} {x:Operand} {ch:aU} {l:LV} (b:eD e s h x) (j:holds s ch) (a:ev s ch x=some l):h x=LVal e l:=by
 cases x with
 | tmp t=>
  simp only [ev] at a;split at a
  ·rename_i k c i;cases d:mw c ch with
   | false=>simp [d] at a
   | true=>simp only [d,cond_true] at a;cases a;exact b l c i (wU d j)
  ·cases a
 | const v=>cases a;exact b
 | global g=>cases a;exact b
 | func f=>cases a;exact b
theorem Ux {l:Option LV} {K:LV->Prop} (h:Lz l K):∃x,l=some x/\K x:=by
 cases l with
 | none=>exact h.elim
 | some x=>exact ⟨x,rfl,h⟩
theorem jL {l:Option LV} {K:Value->Prop} (h:hO l K):∃x,l=some (.v x)/\K x:=by
 cases l with
 | none=>exact h.elim
 | some x=>cases x<;>first | exact ⟨_,rfl,h⟩ | exact h.elim
theorem EX {l:Option (List Value)} {K:List Value->Prop} (h:ng l K):∃x,l=some x/\K x:=by
 cases l with
 | none=>exact h.elim
 | some x=>exact ⟨x,rfl,h⟩
def pk (d:Nat->Nat) (s:St) (o:Oper) (w:World):Prop:=
 ∀t,Operand.tmp t∈o.op.operands->∀k off c,(s.f t=some (.box k off,c)\/s.f t=some (.dL k off,c))->holds s c->∀a,s.m k=some a->∃b,w.heap[d k]? =some (.cells a.toArray b (0,0))
theorem rL {s:St} {ch:aU} {x:Operand} {l:LV} (a:ev s ch x=some l) (h:∀v,l≠ .v v) (e:holds s ch):∃t c,x=.tmp t/\s.f t=some (l,c)/\holds s c:=by
 cases x with
 | tmp t=>
  simp only [ev] at a;split at a
  ·rename_i i c d;cases b:mw c ch with
   | false=>simp [b] at a
   | true=>simp only [b,cond_true] at a;cases a;exact ⟨t,c,rfl,d,wU b e⟩
  ·cases a
 | const v=>cases a;grind
 | global g=>cases a;grind
 | func f=>cases a;grind
theorem pk.box {β:Nat->Nat} {s:St} {o:Oper} {w:World} (hb:pk β s o w) {ch:aU} {x:Operand} {k off:Nat} (i:x∈o.op.operands) (e:ev s ch x=some (.box k off)) (g:holds s ch)
  {a:List Value} (h:s.m k=some a):∃b,w.heap[β k]? =some (.cells a.toArray b (0,0)):=by
 obtain ⟨t,c,rfl,f,d⟩:=rL e (by simp) g;exact hb t i k off c (.inl f) d a h
theorem pk.dL {b:Nat->Nat} {s:St} {o:Oper} {w:World} (hb:pk b s o w) {ch:aU} {x:Operand} {k off:Nat} (j:x∈o.op.operands) (f:ev s ch x=some (.dL k off)) (h:holds s ch)
  {a:List Value} (i:s.m k=some a):∃d,w.heap[b k]? =some (.cells a.toArray d (0,0)):=by
 obtain ⟨t,c,rfl,g,e⟩:=rL f (by simp) h;exact hb t j k off c (.inr g) e a i
def om (a:Kd) (P:Program) (o:Oper) (s:St) (h:Hp) (l:LV):Prop:=
 ∀(c:Nat->Nat) (d:Operand->Value) (w:World),(∀x∈o.op.operands,eD c s d x)->(a=.mem->Sub h w)->(a≠ .pure->pk c s o w)->
  ∃b,(execOp d o).run P w=.ok (.value (LVal c l)) b/\(a≠ .mem->b=w)/\(a=.mem->Step h h w b)
theorem mg {b:Type _}:∀(l:List b) (i:Nat),nth l i=l[i]?
 | [],_=>by simp [nth]
 | a::l,0=>by simp [nth]
 | a::l,n+1=>by simp [nth,mg l n]
theorem GS {b:Type _}:∀(l:List b) (i:Nat),oJ l i=l.drop i
 | l,0=>by simp [oJ]
 | [],n+1=>by simp [oJ]
 | a::l,n+1=>by simp [oJ,GS l n]
theorem GU {b:Type _}:∀(l:List b) (i:Nat),pe l i=l.take i
 | l,0=>by simp [pe]
 | [],n+1=>by simp [pe]
 | a::l,n+1=>by simp [pe,GU l n]
theorem qT {b:Type _}:∀(l r:List b),app l r=l++r
 | [],r=>rfl
 | a::l,r=>by simp [app,qT l r]
theorem qP :∀(l:List Nat) (i:Nat),has l i=true↔i∈l
 | [],i=>by simp [has]
 | a::l,i=>by
  simp only [has];cases h:Nat.beq i a with
  | true=>simp [Nat.eq_of_beq_eq_true h]
  | false=>
   have:i≠a:=λe=>by rw [e] at h;simp at h
   simp [qP l i,this]
theorem xN {l:List Nat} {i:Nat} (h:has l i=false):i∉l:=λa=>by rw [(qP l i).2 a] at h;cases h
section
variable {P:Program} {tb:Tb}
theorem au (ok:tb.Ok P) {t:Nat} {e:Ty} (h:tb.ty t=some e) (w:World):(underlying t).run P w=.ok e.aH w:=by simp [underlying,ok.aH t e h]
theorem kA (ok:tb.Ok P) {t:Nat} {e:Ty} (h:tb.ty t=some e) (w:World):
  ∃i,(typeInfo t).run P w=.ok i w/\i.size=e.size/\i.bytes=e.bytes/\i.zero=some e.zero:=by
 obtain ⟨i,d,a,b,c⟩:=ok.info t e h;exact ⟨i,by simp [typeInfo,d],a,b,c⟩
theorem bS (ok:tb.Ok P) {t:Nat} {e:Ty} (h:tb.ty t=some e) (w:World):(Go.sizeOf t).run P w=.ok e.size w:=by obtain ⟨i,b,a,c,d⟩:=kA ok h w;simp only [Go.sizeOf,Sem.run_bind,b,Result.andThen_ok,Sem.run_pure,a]
theorem cw (ok:tb.Ok P) {t:Nat} {e:Ty} (h:tb.ty t=some e) (w:World):(zeroValue t).run P w=.ok e.zero w:=by obtain ⟨i,b,c,d,a⟩:=kA ok h w;simp only [zeroValue,Sem.run_bind,b,Result.andThen_ok,a,Sem.run_pure]
theorem kL (ok:tb.Ok P) {t:Nat} {e:Ty} (h:tb.ty t=some e) (w:World):(isAgg t).run P w=.ok (nF e.aH) w:=by simp only [isAgg,Sem.run_bind,au ok h,Result.andThen_ok];cases e.aH<;>rfl
theorem ny (v:Value):v.cells.toList=be v:=by cases v<;>rfl
theorem zuh {w:World} {a:Addr}:∀(n i:Nat) (d:Array Value) (b:List Value),b.length=n->
  (∀j v,b[j]? =some v->w.cell? (a.add (i+j))=some v)->(loadCellsFrom a i n d).run P w=.ok (d++b.toArray) w
 | 0,i,d,b,e,_=>by have:b=[]:=List.length_eq_zero_iff.1 e;subst this;simp [loadCellsFrom]
 | n+1,i,d,[],e,_=>by simp at e
 | n+1,i,d,c::b,e,f=>by
  have g:w.cell? (a.add i)=some c:=by simpa using f 0 c (by simp)
  have k:=zuh n (i+1) (d.push c) b (by simpa using e) (λj v h=>by
   have:=f (j+1) v (by simpa using h)
   rwa [show i+1+j=i+(j+1) from by omega])
  simp only [loadCellsFrom,Sem.run_bind,run_load,g,Result.andThen_ok,k];congr 1;simp
theorem ZN {w:World} {a:Addr} {b:List Value} (c:∀j v,b[j]? =some v->w.cell? (a.add j)=some v):(loadCells a b.length).run P w=.ok b.toArray w:=by unfold loadCells;rw [zuh b.length 0 #[] b rfl (by simpa using c)];simp
theorem Mt (ok:tb.Ok P) {t:Nat} {e:Ty} (h:tb.ty t=some e) {w:World} {a:Addr} {x:e.sh.T}
  (d:∀j v,(be (e.sh.enc x))[j]? =some v->w.cell? (a.add j)=some v):(loadVar t a).run P w=.ok (e.sh.enc x) w:=by
 simp only [loadVar,Sem.run_bind,kL ok h,Result.andThen_ok];cases c:nF e.aH with
 | true=>
  obtain ⟨b,f,o⟩:=ok.agg t e h c x;simp only [if_true,Sem.run_bind,bS ok h,Result.andThen_ok];have m:b.toList.length=e.size:=by simpa using o
  have k:∀j v,b.toList[j]? =some v->w.cell? (a.add j)=some v:=by simpa [f,be] using d
  rw [<-m,ZN k];simp [f]
 | false=>
  obtain ⟨p,i⟩:=ok.leaf t e h c;have n:=(i x).2;have l:be (e.sh.enc x)=[e.sh.enc x]:=by generalize e.sh.enc x=v at n;cases v<;>first | rfl | grind
  have:=d 0 (e.sh.enc x) (by simp [l]);have g:a.add 0=a:=by simp [Addr.add]
  rw [g] at this;simp [this]
theorem sO (a:Addr) (i j:Nat):(a.add i).add j=a.add (i+j):=by unfold Addr.add;grind
theorem jM (b o i:Nat):(⟨b,o,none⟩:Addr).add i=⟨b,o+i,none⟩:=by unfold Addr.add;simp
theorem DX {w:World} {b t:Nat} {a:List Value} (hb:w.heap[b]? =some (.cells a.toArray t (0,0))) (i:Nat):w.cell? ⟨b,i,none⟩=a[i]?:=by unfold World.cell?;simp [hb]
end
section
variable {P:Program} {tb:Tb}
def lz (o:Oper) (ch:aU) (s:St) (l:LV):Prop:=
 ∀k off,(l=.box k off\/l=.dL k off)->∃x∈o.op.operands,∃a,ev s ch x=some (.box k a)\/ev s ch x=some (.dL k a)
theorem vJ (o:Oper) (ch:aU) (s:St) (v:Value):lz o ch s (.v v):=λ_ _ e=>by grind
theorem BH {o:Oper} {ch:aU} {s:St} {l:LV} {x:Operand} (a:x∈o.op.operands) (b:ev s ch x=some l):lz o ch s l:=λk off e=>
 ⟨x,a,off,by grind⟩
theorem GV {o:Oper} {ch:aU} {s:St} {l:LV} {x:Operand} {k off:Nat} (c:x∈o.op.operands) (d:ev s ch x=some (.box k off))
  (f:∀a b,(l=.box a b\/l=.dL a b)->a=k):lz o ch s l:=λa b e=>⟨x,c,off,.inl (by grind)⟩
theorem Sg {o:Oper} {ch:aU} {s:St} {l:LV} {x:Operand} {k off:Nat} (c:x∈o.op.operands) (d:ev s ch x=some (.dL k off))
  (f:∀a b,(l=.box a b\/l=.dL a b)->a=k):lz o ch s l:=λa b e=>⟨x,c,off,.inr (by grind)⟩
def dY (P:Program) (tb:Tb) (o:Oper) (ch:aU) (s:St) (h:Hp) (K:LV->Prop):Prop:=
 ∃l,K l/\(holds s ch->om (cH tb o ch s) P o s h l)/\lz o ch s l
theorem j6 {o:Oper} {ch:aU} {s:St} {h:Hp} {K:LV->Prop} (l:LV) (b:K l)
  (d:holds s ch->∀(β:Nat->Nat) (ρ:Operand->Value) (w:World),(∀x∈o.op.operands,eD β s ρ x)->
   (execOp ρ o).run P w=.ok (.value (LVal β l)) w)
  (hp:lz o ch s l:=by exact vJ _ _ _ _):dY P tb o ch s h K:=
 ⟨l,b,λa β ρ w c f hb=>⟨w,d a β ρ w c,λ_=>rfl,λe=>.refl (f e)⟩,hp⟩
theorem KD {o:Oper} {ch:aU} {s:St} {h:Hp} {K:LV->Prop} (f:cH tb o ch s=.box) (l:LV) (d:K l)
  (i:holds s ch->∀(a:Nat->Nat) (b:Operand->Value) (w:World),(∀x∈o.op.operands,eD a s b x)->pk a s o w->
   (execOp b o).run P w=.ok (.value (LVal a l)) w)
  (hp:lz o ch s l:=by exact vJ _ _ _ _):dY P tb o ch s h K:=
 ⟨l,d,λc a b w g j hb=>⟨w,i c a b w g (hb (by rw [f];simp)),λ_=>rfl,λe=>.refl (j e)⟩,hp⟩
theorem Dp {o:Oper} {ch:aU} {s:St} {h:Hp} {K:LV->Prop} (g:cH tb o ch s=.mem) (l:LV) (f:K l)
  (j:holds s ch->∀(a:Nat->Nat) (b:Operand->Value) (w:World),(∀x∈o.op.operands,eD a s b x)->Sub h w->
   (execOp b o).run P w=.ok (.value (LVal a l)) w)
  (hp:lz o ch s l:=by exact vJ _ _ _ _):dY P tb o ch s h K:=
 ⟨l,f,λd a b w i c hb=>⟨w,j d a b w i (c g),λ_=>rfl,λe=>.refl (c e)⟩,hp⟩
theorem Dq {s:Sem Value} {h:Hp} {v:Value} (b:ic P s h v) {w:World} (c:Sub h w):∃a,s.run P w=.ok v a/\Step h h w a:=b w c
theorem rI {o:Oper} {ch:aU} {s:St} {h:Hp} {K:LV->Prop} {t:Nat} {i:Sem Value} (g:cH tb o ch s=.mem) (b:mr (eC s ch) P tb t i h K)
  (p:holds s ch->∀(d:Nat->Nat) (c:Operand->Value),(∀x∈o.op.operands,eD d s c x)->∀(w a:World) (v:Value),i.run P w=.ok v a->(execOp c o).run P w=.ok (.value v) a):
  dY P tb o ch s h K:=by
 unfold mr at b;split at b
 ·rename_i e r;obtain ⟨x,q,j⟩:=b;refine ⟨_,j,λf d c w k m hb=> ?_,vJ _ _ _ _⟩;obtain ⟨a,l,n⟩:=Dq (nE q f) (m g);exact ⟨a,p f d c k w a _ l,λe=>absurd g e,λ_=>n⟩
 ·exact b.elim
theorem GW {o:Oper} {ch:aU} {s:St} {h:Hp} {K:LV->Prop} {x:Operand} (a:o.op=.move x\/o.op=.assign x) (hv:Lz (ev s ch x) K):dY P tb o ch s h K:=by obtain ⟨l,b,d⟩:=Ux hv;refine j6 l d (λc g i w e=> ?_) (BH (by rcases a with h | h<;>simp [h,Op.operands]) b);have f:i x=LVal g l:=bE (e x (by rcases a with h | h<;>simp [h,Op.operands])) c b;rcases a with h | h<;>simp [execOp,h,f]
theorem Gx {t:Nat} {w:World} {a b:Bool} (c:(underlying t).run P w=.ok .bool w):(Op.equal t (.bool a) (.bool b)).run P w=.ok (a==b) w:=by
 have key:∀d,(Op.equalIn (d+1) t (.bool a) (.bool b)).run P w=.ok (a==b) w:=by intro d;unfold Op.equalIn;simp only [Sem.run_bind,c,Result.andThen_ok,Sem.run_pure]
 exact key 9999
theorem HQ {t elem:Nat} {w:World} {p:Option Addr} (a:(underlying t).run P w=.ok (.pointer elem) w):(Op.equal t (.pointer p) (.pointer none)).run P w=.ok p.isNone w:=by
 have key:∀d,(Op.equalIn (d+1) t (.pointer p) (.pointer none)).run P w=.ok p.isNone w:=by intro d;unfold Op.equalIn;simp only [Sem.run_bind,a,Result.andThen_ok];cases p<;>simp only [Sem.run_pure]<;>rfl
 exact key 9999
set_option maxHeartbeats 800000 in
theorem GX (ok:tb.Ok P) {o:Oper} {ch:aU} {s:St} {h:Hp} {K:LV->Prop} {op:BinOp} {t R:Nat} {x y:Operand} (F:o.op=.binOp op t x y R)
  (hv:hO (ev s ch x) λa=>hO (ev s ch y) λb=>rZ (eC s ch) P tb op t x y o.type a b h K):dY P tb o ch s h K:=by
 obtain ⟨a,L,G⟩:=jL hv;clear hv;obtain ⟨b,E,hv⟩:=jL G;clear G;have Q:holds s ch->∀(g:Nat->Nat) (d:Operand->Value),(∀x∈o.op.operands,eD g s d x)->d x=a/\d y=b:=λc g d i=>
  ⟨bE (i x (by simp [F,Op.operands])) c L,bE (i y (by simp [F,Op.operands])) c E⟩
 have C:holds s ch->∀(g:Nat->Nat) (d:Operand->Value),(∀x∈o.op.operands,eD g s d x)->∀(w l:World) (v:Value),(cE op t x y a b).run P w=.ok v l->
   (execOp d o).run P w=.ok (.value v) l:=by
  intro c g d i w l v j;obtain ⟨J,hb⟩:=Q c g d i;simp only [execOp,F,J,hb];change (cE op t x y a b>>=λx=>pure (Next.value x)).run P w=_;rw [Sem.run_bind,j];rfl
 have gen:∀v:Value,K (.v v)->(holds s ch->∀w,(cE op t x y a b).run P w=.ok v w)->dY P tb o ch s h K:=λv A j=>
  j6 (.v v) A λc g d w i=>C c g d i w w v (j c w)
 unfold rZ at hv;split at hv
 · -- numbers
  rename_i k m H n;have f:∀w:World,(eqGuard op t x y (.int k m) (.int H n)).run P w=.ok () w:=λw=>by unfold eqGuard;split<;>rfl
  split at hv
  ·refine gen _ hv.2 λc w=> ?_;have r:=nE hv.1 c;simp only [cE,Sem.run_bind,f,Result.andThen_ok];simp [binOp,Op.shift,wJ,Int.not_lt.2 r]
  ·refine gen _ hv.2 λc w=> ?_;have r:=nE hv.1 c;simp only [cE,Sem.run_bind,f,Result.andThen_ok];simp [binOp,Op.shift,gW,Int.not_lt.2 r]
  ·cases A:Fs k H with
   | false=>simp [A] at hv
   | true=>
    have N:=Jt A;subst N;simp only [A,cond_true] at hv;cases op<;>simp only [Fq] at hv<;>
     first
     |exact hv.elim
     |exact gen _ hv λ_ w=>by simp only [cE,Sem.run_bind,f,Result.andThen_ok];simp [binOp,Op.intArith,Op.intCmp,Op.intBits,dZ]
     |exact gen _ hv.2 λc w=>by have r:=nE hv.1 c;simp only [cE,Sem.run_bind,f,Result.andThen_ok];simp [binOp,Op.intDiv,r]
 · -- truths
  rename_i m n;split at hv
  ·rename_i e D;have f:∀w:World,(eqGuard op t x y (.bool m) (.bool n)).run P w=.ok () w:=λw=>by unfold eqGuard;split<;>rfl
   have B:=λw=>au ok D w;split at hv
   ·rename_i u;refine gen _ hv λ_ w=> ?_;simp only [cE,Sem.run_bind,f,Result.andThen_ok,binOp,Gx (u▸B w),Sem.run_pure]
   ·rename_i u;refine gen _ hv λ_ w=> ?_;simp only [cE,Sem.run_bind,f,Result.andThen_ok,binOp,Gx (u▸B w),Sem.run_pure]
   ·exact hv.elim
  ·exact hv.elim
 · -- texts
  rename_i m n;have f:∀w:World,(eqGuard op t x y (.string m) (.string n)).run P w=.ok () w:=λw=>by unfold eqGuard;split<;>rfl
  split at hv
  ·exact gen _ hv λ_ w=>by simp only [cE,Sem.run_bind,f,Result.andThen_ok];simp [binOp,Op.stringOp]
  ·exact gen _ hv λ_ w=>by simp only [cE,Sem.run_bind,f,Result.andThen_ok];simp [binOp,Op.stringOp]
  ·refine gen _ hv.2 λc w=> ?_;have r:=nE hv.1 c;simp only [cE,Sem.run_bind,f,Result.andThen_ok];have I:¬(((m.size+n.size:Nat):Int)>IntKind.i64.max):=by
    have:IntKind.i64.max=9223372036854775807:=by decide
    rw [this];omega
   simp only [binOp,Op.stringOp,if_neg I,Sem.run_pure]
  ·exact rI (by simp_all [cH]) hv λc g d i w l v j=>C c g d i w l v j
 · -- pointers
  rename_i p q;cases z:rG y with
  | false=>simp only [z,cond_false] at hv;exact rI (by simp_all [cH]) hv λc g d i w l v j=>C c g d i w l v j
  | true=>
   simp only [z,cond_true] at hv;split at hv
   ·rename_i e D;split at hv
    ·rename_i elem u;have O:q=none:=by
      cases y with
      | const v=>
       simp only [ev] at E;cases E;cases q with
       | none=>rfl
       | some _=>simp [rG] at z
      | tmp _=>simp [rG] at z
      | global _=>simp [rG] at z
      | func _=>simp [rG] at z
     subst O;have f:∀w:World,(eqGuard op t x y (.pointer p) (.pointer none)).run P w=.ok () w:=λw=>by unfold eqGuard;split<;>rfl
     have B:=λw=>au ok D w;unfold wG at hv;split at hv
     ·refine gen _ hv λ_ w=> ?_;simp only [cE,Sem.run_bind,f,Result.andThen_ok,binOp,HQ (u▸B w),Sem.run_pure]
     ·refine gen _ hv λ_ w=> ?_;simp only [cE,Sem.run_bind,f,Result.andThen_ok,binOp,HQ (u▸B w),Sem.run_pure]
     ·exact hv.elim
    ·exact hv.elim
   ·exact hv.elim
 ·rename_i S T U V;have M:cH tb o ch s=.mem:=by unfold cH;grind
  exact rI M hv λc g d i w l v j=>C c g d i w l v j
theorem Iu {t:Nat} {w:World} {ms} {a:Value} (b:oV a=true) (c:(underlying t).run P w=.ok (.interface ms) w):(Op.equal t a .nilIface).run P w=.ok (Kt a) w:=by
 have key:∀d,(Op.equalIn (d+1) t a .nilIface).run P w=.ok (Kt a) w:=by intro d;unfold Op.equalIn;simp only [Sem.run_bind,c,Result.andThen_ok];cases a<;>first | rfl | cases b
 exact key 9999
theorem BJ {a:Value} (b:oV a=true):a=.nilIface\/∃t v,a=.iface t v:=by cases a<;>first | exact .inl rfl | exact .inr ⟨_,_,rfl⟩ | cases b
theorem XG (ok:tb.Ok P) {o:Oper} {ch:aU} {s:St} {h:Hp} {K:LV->Prop} {op:BinOp} {t I:Nat} {x y:Operand} (j:o.op=.binOp op t x y I)
  (hv:hO (ev s ch x) λa=>hO (ev s ch y) λb=>uk (eC s ch) P tb op t x y o.type a b h K):dY P tb o ch s h K:=by
 cases k:Ez y with
 | false=>refine GX ok j ?_;simpa only [uk,k,cond_false] using hv
 | true=>
  cases g:uE tb t with
  | false=>refine GX ok j ?_;simpa only [uk,k,g,cond_false,cond_true] using hv
  | true=>
   obtain ⟨a,E,A⟩:=jL hv;clear hv;obtain ⟨b,p,hv⟩:=jL A;clear A;simp only [uk,k,g,cond_true] at hv;obtain ⟨u,hv⟩:=hv;have H:y=.const .nilIface:=by unfold Ez at k;grind
   subst H;have hb:b=.nilIface:=by simp only [ev] at p;grind
   subst hb;have F:holds s ch->∀(l:Nat->Nat) (i:Operand->Value),(∀x∈o.op.operands,eD l s i x)->∀(w n:World) (v:Value),(cE op t x (.const .nilIface) a .nilIface).run P w=.ok v n->
     (execOp i o).run P w=.ok (.value v) n:=by
    intro d l i f w n v m;have c:i x=a:=bE (f x (by simp [j,Op.operands])) d E;have hb:i (.const .nilIface)=.nilIface:=bE (f (.const .nilIface) (by simp [j,Op.operands])) d p;simp only [execOp,j,c,hb];change (cE op t x (.const .nilIface) a .nilIface>>=λx=>pure (Next.value x)).run P w=_;rw [Sem.run_bind,m];rfl
   have gen:∀v:Value,K (.v v)->(holds s ch->∀w,(cE op t x (.const .nilIface) a .nilIface).run P w=.ok v w)->dY P tb o ch s h K:=λv G m=>
    j6 (.v v) G λd l i w f=>F d l i f w w v (m d w)
   unfold uE at g;split at g
   ·rename_i e D;split at g
    ·rename_i J q;have z:=λw=>au ok D w;have r:oV a=true->∀w:World,(eqGuard op t x (.const .nilIface) a .nilIface).run P w=.ok () w:=λc w=>by unfold eqGuard;rcases BJ c with rfl | ⟨_,_,rfl⟩<;>cases op<;>first | rfl | (cases x<;>rfl)
     have C:oV a=true->op=.eql->∀w:World,(binOp op t a .nilIface).run P w=.ok (.bool (Kt a)) w:=λc f w=>by subst f;rcases BJ c with rfl | ⟨_,_,rfl⟩<;>simp only [binOp,Sem.run_bind,Iu (P:=P) c (q▸z w),Result.andThen_ok,Sem.run_pure]
     have B:oV a=true->op=.neq->∀w:World,(binOp op t a .nilIface).run P w=.ok (.bool (!Kt a)) w:=λc f w=>by subst f;rcases BJ c with rfl | ⟨_,_,rfl⟩<;>simp only [binOp,Sem.run_bind,Iu (P:=P) c (q▸z w),Result.andThen_ok,Sem.run_pure]
     unfold wG at hv;split at hv
     ·refine gen _ hv λd w=> ?_;have c:=nE u d;simp only [cE,Sem.run_bind,r c,Result.andThen_ok,C c rfl]
     ·refine gen _ hv λd w=> ?_;have c:=nE u d;simp only [cE,Sem.run_bind,r c,Result.andThen_ok,B c rfl]
     ·exact hv.elim
    ·cases g
   ·cases g
end
section
variable {P:Program} {tb:Tb} {o:Oper} {ch:aU} {s:St} {h:Hp} {K:LV->Prop}
theorem yo {β:Nat->Nat} {ρ:Operand->Value} (b:holds s ch):∀ {l:List Operand} {a:List Value},dX s ch l=some a->(∀x∈l,eD β s ρ x)->l.map ρ=a
 | [],a,h,_=>by cases h;rfl
 | x::l,a,h,c=>by
  simp only [dX] at h;split at h
  ·rename_i v r hv d;cases h;simp only [List.map_cons];rw [bE (c x (List.mem_cons_self ..)) b hv,yo b d λy e=>c y (List.mem_cons_of_mem _ e)];rfl
  ·cases h
theorem DY {β:Nat->Nat} {ρ:Operand->Value} (b:holds s ch):∀ {l:List (Nat×Operand)} {a:List (Nat×Value)},lg s ch l=some a->(∀x∈l.map (·.2),eD β s ρ x)->
  l.map (λp=>(p.1,ρ p.2))=a
 | [],a,h,_=>by cases h;rfl
 | (i,x)::l,a,h,c=>by
  simp only [lg] at h;split at h
  ·rename_i v r hv d;cases h;simp only [List.map_cons];rw [bE (c x (by simp)) b hv,DY b d λy e=>c y (by grind)];rfl
  ·cases h
theorem KE {e:Nat->Nat} {i:Operand->Value} {x:Operand} {t:Nat} {w:Bool} {l:LV} (d:eD e s i x) (m:holds s ch) (j:hb s t=some w)
  (a:xh s ch t w x=some l):i x=LVal e l:=by
 cases x with
 | tmp u=>
  simp only [xh] at a;split at a
  ·rename_i n c k;cases b:mw c ((t,w)::ch) with
   | false=>simp [b] at a
   | true=>
    simp only [b,cond_true] at a;cases a;refine d l c k (wU b λp hp=> ?_);rcases List.mem_cons.1 hp with rfl | hp
    ·exact j
    ·exact m p hp
  ·cases a
 | const v=>cases a;exact d
 | global g=>cases a
 | func f=>cases a
theorem Uz {x a b:Operand} (f:o.op=.pick x a b) (hv:uO s ch x a b K):dY P tb o ch s h K:=by
 unfold uO at hv;split at hv
 ·rename_i t;split at hv
  ·rename_i p y r;cases m:mw y ch with
   | false=>simp [m] at hv
   | true=>
    simp only [m,cond_true] at hv;have n:hb s t=some p:=by simp [hb,r]
    have i:holds s ch->∀(g:Nat->Nat) (c:Operand->Value),(∀x∈o.op.operands,eD g s c x)->c (.tmp t)=.bool p:=λe g c d=>
     d (.tmp t) (by simp [f,Op.operands]) _ _ r (wU m e)
    have run:∀(c:Operand->Value) (w:World),c (.tmp t)=.bool p->(execOp c o).run P w=.ok (.value (if p=true then c a else c b)) w:=by intro c w hp;simp only [execOp,f,hp,asBool,Sem.run_bind,Sem.run_pure,Result.andThen_ok]
    split at hv
    ·rename_i u;obtain ⟨v,l,hv⟩:=jL hv;split at hv
     ·rename_i q;refine j6 (.v (.bool (p&&q))) (hv _ rfl) λe g c w d=> ?_;rw [run c w (i e g c d)];cases hp:p with
      | true=>have:=KE (d (.tmp u) (by simp [f,Op.operands])) e (hp▸n) l;simp [this,LVal]
      | false=>have:c (.const (.bool false))=.bool false:=d (.const (.bool false)) (by simp [f,Op.operands]);simp [this,LVal]
     ·exact hv.elim
    ·rename_i u;obtain ⟨v,l,hv⟩:=jL hv;split at hv
     ·rename_i q;refine j6 (.v (.bool (p || q))) (hv _ rfl) λe g c w d=> ?_;rw [run c w (i e g c d)];cases hp:p with
      | false=>have:=KE (d (.tmp u) (by simp [f,Op.operands])) e (hp▸n) l;simp [this,LVal]
      | true=>have:c (.const (.bool true))=.bool true:=d (.const (.bool true)) (by simp [f,Op.operands]);simp [this,LVal]
     ·exact hv.elim
    ·refine j6 _ hv λe g c w d=> ?_;rw [run c w (i e g c d)];have j:c (.const (.bool true))=.bool true:=d (.const (.bool true)) (by simp [f,Op.operands]);have k:c (.const (.bool false))=.bool false:=d (.const (.bool false)) (by simp [f,Op.operands]);cases p<;>simp [j,k,LVal]
    ·rename_i u v _;refine j6 _ hv λe g c w d=> ?_;rw [run c w (i e g c d)];have j:c (.const (.bool u))=.bool u:=d (.const (.bool u)) (by simp [f,Op.operands]);have k:c (.const (.bool v))=.bool v:=d (.const (.bool v)) (by simp [f,Op.operands]);cases p<;>simp [j,k,LVal]
    ·exact hv.elim
  ·exact hv.elim
 ·exact hv.elim
theorem M9 {x:Operand} {i:Nat} (c:o.op=.extract x i) (hv:hO (ev s ch x) λv=>match v with
  | .tuple b=>match nth b.toList i with
   | some y=>K (.v y)
   | none=>False
  | _=>False):dY P tb o ch s h K:=by
 obtain ⟨v,e,a⟩:=jL hv;clear hv;split at a
 ·rename_i b;split at a
  ·rename_i y d;refine j6 (.v y) a λf k l w g=> ?_;have j:=bE (g x (by simp [c,Op.operands])) f e;have:b[i]? =some y:=by rw [mg] at d;simpa using d
   simp only [execOp,c,j,LVal,Instr.extract,this,Sem.run_bind,Sem.run_pure,Result.andThen_ok]
  ·exact a.elim
 ·exact a.elim
theorem YX {op:UnOp} {t:Nat} {x:Operand} (c:o.op=.unOp op t x) (hv:hO (ev s ch x) λa=>M8 op a K):dY P tb o ch s h K:=by
 obtain ⟨v,d,b⟩:=jL hv;clear hv;unfold M8 at b;split at b<;>
  first
  |exact b.elim
  |refine j6 _ b λe i j w f=> ?_
   have g:=bE (f x (by simp [c,Op.operands])) e d;simp [execOp,c,g,LVal,Op.unary,Op.intArith,Op.intBits,dZ]
theorem XH {x:Operand} (b:o.op=.nilCheck x) (hv:match ev s ch x with
  | some (.v (.pointer p))=>ag (eC s ch) p λa=>K (.v (.pointer (some a)))
  | some (.box k off)=>K (.box k off)
  | some (.dL k off)=>K (.dL k off)
  | _=>False):dY P tb o ch s h K:=by
 split at hv
 ·rename_i p c;obtain ⟨a,l,j⟩:=hv;refine j6 _ j λd g i w e=> ?_;have f:=bE (e x (by simp [b,Op.operands])) d c;have hp:=nE l d;subst hp;simp [execOp,b,f,LVal]
 ·rename_i k off c;refine j6 _ hv (λd g i w e=> ?_) (BH (by simp [b,Op.operands]) c);have f:=bE (e x (by simp [b,Op.operands])) d c;simp [execOp,b,f,LVal]
 ·rename_i k off c;refine j6 _ hv (λd g i w e=> ?_) (BH (by simp [b,Op.operands]) c);have f:=bE (e x (by simp [b,Op.operands])) d c;simp [execOp,b,f,LVal]
 ·exact hv.elim
theorem JN {t:Nat} {a:List Value} {off:Nat} (hv:iH tb t a off K):
  ∃e v,tb.ty t=some e/\K (.v v)/\((nF e.aH=true/\v=.agg ((a.drop off).take e.size).toArray/\off+e.size<=a.length)\/(nF e.aH=false/\a[off]? =some v)):=by
 unfold iH at hv;split at hv
 ·rename_i e d;cases b:nF e.aH with
  | true=>
   simp only [b,cond_true,GS,GU] at hv;cases c:Nat.ble (off+e.size) a.length with
   | false=>simp [c] at hv
   | true=>simp only [c,cond_true] at hv;exact ⟨e,_,d,hv,.inl ⟨b,rfl,Nat.le_of_ble_eq_true c⟩⟩
  | false=>simp only [b,cond_false,mg] at hv;grind
 ·exact hv.elim
theorem I2 (ok:tb.Ok P) {t:Nat} {a:List Value} {off b f:Nat} {e:Ty} {v:Value} {w:World} (d:tb.ty t=some e)
  (hv:(nF e.aH=true/\v=.agg ((a.drop off).take e.size).toArray/\off+e.size<=a.length)\/(nF e.aH=false/\a[off]? =some v))
  (hb:w.heap[b]? =some (.cells a.toArray f (0,0))):(loadVar t ⟨b,off,none⟩).run P w=.ok v w:=by
 simp only [loadVar,Sem.run_bind,kL ok d,Result.andThen_ok];rcases hv with ⟨c,hv,l⟩ | ⟨c,hv⟩
 ·have i:((a.drop off).take e.size).length=e.size:=by simp;omega
  have g:∀j v,((a.drop off).take e.size)[j]? =some v->w.cell? ((⟨b,off,none⟩:Addr).add j)=some v:=by intro j v k;rw [jM,DX hb];grind
  rw [c];simp only [if_true,Sem.run_bind,bS ok d,Result.andThen_ok]
  conv=>lhs;rw [<-i]
  rw [ZN g];simp [hv]
 ·have:=DX hb off;rw [hv] at this;simp [c,this]
theorem UB (ok:tb.Ok P) {t:Nat} {x:Operand} (d:o.op=.load t x) (hv:match ev s ch x with
  | some (.v (.pointer (some a)))=>match tb.ty t with
   | some e=>aN (eC s ch) e.sh h a λx=>K (.v (e.sh.enc x))
   | none=>False
  | some (.box k off)=>match s.m k with
   | some i=>iH tb t i off K
   | none=>False
  | some (.dL k off)=>match s.m k,tb.ty t with
   | some i,some e=>cond (nF e.aH) False (∃x,ko (eC s ch) (i[off]? =some (e.sh.enc x))/\K (.v (e.sh.enc x)))
   | _,_=>False
  | _=>False):dY P tb o ch s h K:=by
 have run:∀(f:Operand->Value) (w:World) (a:Addr) (v:Value),f x=.pointer (some a)->(loadVar t a).run P w=.ok v w->(execOp f o).run P w=.ok (.value v) w:=by intro f w a v g p;simp only [execOp,d,g,Instr.loadAt,Instr.sureAddr,Sem.run_bind,Sem.run_pure,Result.andThen_ok,p]
 split at hv
 ·rename_i a b;split at hv
  ·rename_i e q;obtain ⟨y,p,l⟩:=hv;refine Dp (by simp [cH,d,b]) _ l λc A f w n E=> ?_;have g:=bE (n x (by simp [d,Op.operands])) c b;exact run f w a _ g (Mt ok q λj v D=>vw E (nE p c j v D))
  ·exact hv.elim
 ·rename_i k off b;split at hv
  ·rename_i i z;obtain ⟨e,v,q,l,C⟩:=JN hv;refine KD (by simp [cH,d,b]) _ l λc A f w n hb=> ?_;have g:=bE (n x (by simp [d,Op.operands])) c b;obtain ⟨B,u⟩:=hb.box (by simp [d,Op.operands]) b c z;exact run f w _ _ g (I2 ok q C u)
  ·exact hv.elim
 ·rename_i k off b;split at hv
  ·rename_i i e z q;cases r:nF e.aH with
   | true=>simp [r] at hv
   | false=>simp only [r,cond_false] at hv;obtain ⟨y,p,l⟩:=hv;refine KD (by simp [cH,d,b]) _ l λc A f w n hb=> ?_;have g:=bE (n x (by simp [d,Op.operands])) c b;obtain ⟨B,u⟩:=hb.dL (by simp [d,Op.operands]) b c z;exact run f w _ _ g (I2 ok q (.inr ⟨r,nE p c⟩) u)
  ·exact hv.elim
 ·exact hv.elim
theorem ZV {t i:Nat} {Q:Nat->Nat->Prop} (hv:yg tb t i Q):
  ∃e a f g,tb.ty t=some e/\e.aH=.struct a/\a[i]? =some f/\tb.ty f.type=some g/\g.size≠0/\Q f.offset g.size:=by
 unfold yg at hv;split at hv
 ·rename_i e c;split at hv
  ·rename_i a d;split at hv
   ·rename_i f b;split at hv
    ·rename_i g j;split at hv
     ·exact hv.elim
     ·rename_i n k;refine ⟨e,a,f,g,c,d,by rw [mg] at b;simpa using b,j,by omega,k▸hv⟩
    ·exact hv.elim
   ·exact hv.elim
  ·exact hv.elim
 ·exact hv.elim
theorem YE (ok:tb.Ok P) {t i:Nat} {x:Operand} (d:o.op=.fieldAddr t x i) (hv:yg tb t i λoff _=>match ev s ch x with
  | some (.v (.pointer (some a)))=>K (.v (.pointer (some (a.add off))))
  | some (.box k o)=>K (.box k (o+off))
  | some (.dL k o)=>K (.dL k (o+off))
  | _=>False):dY P tb o ch s h K:=by
 obtain ⟨e,D,f,g,q,u,r,y,B,m⟩:=ZV hv;have run:∀(b:Operand->Value) (w:World) (a:Addr),b x=.pointer (some a)->(execOp b o).run P w=.ok (.value (.pointer (some (a.add f.offset)))) w:=by intro b w a A;have n:=au ok q w;rw [u] at n;have z:=bS ok y w;simp only [execOp,d,A,Instr.fieldAt,Instr.sureAddr,Sem.run_bind,n,Result.andThen_ok,r,Sem.run_pure,fieldPlace,z,if_neg B]
 split at m
 ·rename_i a c;refine j6 _ m λj p b w l=> ?_;exact run b w a (bE (l x (by simp [d,Op.operands])) j c)
 ·rename_i k C c;refine j6 _ m (λj p b w l=> ?_) (GV (by simp [d,Op.operands]) c (by simp));rw [run b w _ (bE (l x (by simp [d,Op.operands])) j c),jM];rfl
 ·rename_i k C c;refine j6 _ m (λj p b w l=> ?_) (Sg (by simp [d,Op.operands]) c (by simp));rw [run b w _ (bE (l x (by simp [d,Op.operands])) j c),jM];rfl
 ·exact m.elim
theorem GY (ok:tb.Ok P) {t:Nat} {cs:List Value} {off:Nat} {e:Ty} {v:Value} {w:World} (b:tb.ty t=some e)
  (hv:(nF e.aH=true/\v=.agg ((cs.drop off).take e.size).toArray/\off+e.size<=cs.length)\/(nF e.aH=false/\cs[off]? =some v)):
  (part t cs.toArray off).run P w=.ok v w:=by
 simp only [part,Sem.run_bind,kL ok b,Result.andThen_ok];rcases hv with ⟨a,hv,_⟩ | ⟨a,hv⟩
 ·simp only [a,if_true,Sem.run_bind,bS ok b,Result.andThen_ok,Sem.run_pure,hv];simp
 ·simp [a,hv]
theorem Si (ok:tb.Ok P) {t i:Nat} {x:Operand} (j:o.op=.field t x i) (hv:match tb.ty t with
  | some e=>match e.aH with
   | .struct a=>match nth a.toList i with
    | some f=>hO (ev s ch x) λv=>match v with
     | .agg c=>iH tb f.type c.toList f.offset K
     | _=>False
    | none=>False
   | _=>False
  | none=>False):dY P tb o ch s h K:=by
 split at hv
 ·rename_i e m;split at hv
  ·rename_i a q;split at hv
   ·rename_i f d;obtain ⟨v,n,b⟩:=jL hv;clear hv;split at b
    ·rename_i c;obtain ⟨g,y,r,z,l⟩:=JN b;refine j6 _ z λu C D w A=> ?_;have B:=bE (A x (by simp [j,Op.operands])) u n;have k:=au ok m w;rw [q] at k;have p:a[i]? =some f:=by rw [mg] at d;simpa using d
     have hp:=GY (w:=w) ok r l;simp only [Array.toArray_toList] at hp;simp only [execOp,j,B,LVal,Instr.field,Sem.run_bind,k,Result.andThen_ok,p,asAgg,Sem.run_pure,hp]
    ·exact b.elim
   ·exact hv.elim
  ·exact hv.elim
 ·exact hv.elim
end
section
variable {P:Program} {tb:Tb} {o:Oper} {ch:aU} {s:St} {h:Hp} {K:LV->Prop}
theorem vp {t:Nat} {g:Ty} (h:fX tb t=some g):∃e u,tb.ty t=some e/\e.aH=.slice u/\tb.ty u=some g:=by unfold fX at h;grind
theorem CD {t n:Nat} {g:Ty} (h:kY tb t=some (n,g)):∃e u,tb.ty t=some e/\e.aH=.array n u/\tb.ty u=some g:=by unfold kY at h;grind
theorem YH (ok:tb.Ok P) {t:Nat} {x i:Operand} (d:o.op=.indexAddr t x i) (hv:match ev s ch x,ev s ch i with
  | some (.v (.slice base len _)),some (.v (.int _ n))=>match fX tb t with
   | some e=>ko (eC s ch) (bB base len n)/\K (.v (.pointer (some (sat base e.size n))))
   | none=>False
  | some (.v (.pointer (some a))),some (.v (.int _ n))=>match kY tb t with
   | some (len,e)=>ko (eC s ch) (0<=n/\n<(len:Int))/\K (.v (.pointer (some (a.add (n.toNat*e.size)))))
   | none=>False
  | some (.box k off),some (.v (.int _ n))=>match kY tb t with
   | some (len,e)=>ko (eC s ch) (0<=n/\n<(len:Int))/\cond (Dn i) (K (.box k (off+n.toNat*e.size))) (K (.dL k (off+n.toNat*e.size)))
   | none=>False
  | _,_=>False):dY P tb o ch s h K:=by
 have L:∀(f:Operand->Value) (w:World) (a:Addr) (k:IntKind) (n:Int) (len:Nat) (e:Ty),kY tb t=some (len,e)->f x=.pointer (some a)->f i=.int k n->0<=n/\n<(len:Int)->
   (execOp f o).run P w=.ok (.value (.pointer (some (a.add (n.toNat*e.size))))) w:=by
  intro f w a k n len e j F C hb;obtain ⟨y,u,G,E,B⟩:=CD j;have r:=au ok G w;have D:=bS ok B w;rw [E] at r;simp only [execOp,d,F,C,Instr.indexAt,asIntOf,Instr.sureAddr,Sem.run_bind,Sem.run_pure,Result.andThen_ok,r,if_pos hb,D]
 split at hv
 ·rename_i base len c k n m q;split at hv
  ·rename_i e j;obtain ⟨y,u,G,E,B⟩:=vp j;refine j6 _ hv.2 λb z f w g=> ?_;have F:=bE (g x (by simp [d,Op.operands])) b m;have C:=bE (g i (by simp [d,Op.operands])) b q;obtain ⟨O,M,N⟩:=nE hv.1 b;obtain ⟨a,rfl⟩:∃a,base=some a:=Option.ne_none_iff_exists'.1 O;have r:=au ok G w;have D:=bS ok B w;rw [E] at r;simp only [execOp,d,F,C,LVal,Instr.indexAt,asIntOf,Sem.run_bind,Sem.run_pure,Result.andThen_ok,r,if_pos (And.intro M N),D,sat,Option.getD_some]
  ·exact hv.elim
 ·rename_i a k n m q;split at hv
  ·rename_i len e j;refine j6 _ hv.2 λb z f w g=> ?_;exact L f w a k n len e j (bE (g x (by simp [d,Op.operands])) b m) (bE (g i (by simp [d,Op.operands])) b q) (nE hv.1 b)
  ·exact hv.elim
 ·rename_i p off k n m q;split at hv
  ·rename_i len e j;have J:∀l:LV,(∀z,LVal z l=.pointer (some ⟨z p,off+n.toNat*e.size,none⟩))->(∀H A,(l=.box H A\/l=.dL H A)->H=p)->K l->dY P tb o ch s h K:=λl R hb Q=>
    j6 l Q (λb z f w g=>by
     rw [L f w _ k n len e j (bE (g x (by simp [d,Op.operands])) b m) (bE (g i (by simp [d,Op.operands])) b q) (nE hv.1 b),jM,R]) (GV (by simp [d,Op.operands]) m hb)
   cases I:Dn i with
   | true=>exact J (.box p (off+n.toNat*e.size)) (λ_=>rfl) (by intro p A e;rcases e with e | e<;>cases e<;>rfl) (by simpa [I] using hv.2)
   | false=>exact J (.dL p (off+n.toNat*e.size)) (λ_=>rfl) (by intro p A e;rcases e with e | e<;>cases e<;>rfl) (by simpa [I] using hv.2)
  ·exact hv.elim
 ·exact hv.elim
theorem Sk (ok:tb.Ok P) {t:Nat} {x i:Operand} (c:o.op=.index t x i) (hv:match ev s ch x,ev s ch i with
  | some (.v (.string b)),some (.v (.int _ n))=>match tb.ty t with
   | some y=>match y.aH with
    | .string=>ko (eC s ch) (0<=n/\n<(b.size:Int))/\K (.v (.int .u8 ((b.data.toList.getD n.toNat 0).toNat:Int)))
    | _=>False
   | none=>False
  | some (.v (.agg cs)),some (.v (.int _ n))=>Bd (eC s ch) tb t cs.toList n K
  | _,_=>False):dY P tb o ch s h K:=by
 split at hv
 ·rename_i b k n j g;split at hv
  ·rename_i y q;split at hv
   ·rename_i m;refine j6 _ hv.2 λa I J w d=> ?_;have p:=bE (d x (by simp [c,Op.operands])) a j;have l:=bE (d i (by simp [c,Op.operands])) a g;obtain ⟨C,L⟩:=nE hv.1 a;have f:=au ok q w;rw [m] at f;have B:n.toNat<b.size:=by omega
    have E:b[n.toNat]? =some (b.data.toList.getD n.toNat 0):=by
     rw [getElem?_pos b n.toNat B];congr 1;have:n.toNat<b.data.toList.length:=by simpa using B
     rw [List.getD_eq_getElem?_getD,List.getElem?_eq_getElem this];rfl
    simp only [execOp,c,p,l,LVal,Instr.index,asIntOf,Sem.run_bind,Sem.run_pure,Result.andThen_ok,f,if_pos C,E]
   ·exact hv.elim
  ·exact hv.elim
 ·rename_i cs k n j g;unfold Bd at hv;split at hv
  ·rename_i len e D;obtain ⟨y,u,q,m,A⟩:=CD D;cases r:nF e.aH with
   | true=>grind
   | false=>simp only [r,cond_false] at hv;obtain ⟨hb,z,H,F⟩:=hv;refine j6 _ F λa I J w d=> ?_;have p:=bE (d x (by simp [c,Op.operands])) a j;have l:=bE (d i (by simp [c,Op.operands])) a g;have f:=au ok q w;have G:=bS ok A w;have hp:=GY ok (w:=w) (cs:=cs.toList) A (.inr ⟨r,nE H a⟩);rw [m] at f;simp only [Array.toArray_toList] at hp;simp only [execOp,c,p,l,LVal,Instr.index,asIntOf,Sem.run_bind,Sem.run_pure,Result.andThen_ok,f,if_pos (nE hb a),G,hp]
  ·exact hv.elim
 ·exact hv.elim
theorem UE {f:Nat->Nat} {b:Operand->Value} (c:holds s ch) {x:Option Operand} {r:Option Int} (a:nO s ch x=some r) (d:∀y,x=some y->eD f s b y):
  (x=none/\r=none)\/∃y k n,x=some y/\b y=.int k n/\r=some n:=by
 cases x with
 | none=>cases a;simp
 | some y=>
  simp only [nO] at a;split at a
  ·rename_i k n e;cases a;exact .inr ⟨y,k,n,rfl,bE (d y rfl) c e,rfl⟩
  ·cases a
theorem xQ {k:IntKind} {n:Int} {m:Nat} {c:BoundsCode} {w:World} (a:0<=n) (b:n<=(m:Int)):(Instr.sliceBound (.int k n) m c).run P w=.ok n.toNat w:=by simp only [Instr.sliceBound,asIntOf,Sem.run_bind,Sem.run_pure,Result.andThen_ok,if_pos (And.intro a b)]
theorem BM {c:Option Bool} {v:Bool} {len cap:Nat} {r q t:Option Int} {Q:Nat->Nat->Nat->Prop} (hv:FL c v len cap r q t Q):
  ∃l x m,Q l x m/\((c=none\/(c=some true))->∀(g f i:Option Value),(r=none/\g=none\/∃k n,r=some n/\g=some (.int k n))->
   (q=none/\f=none\/∃k n,q=some n/\f=some (.int k n))->(t=none/\i=none\/∃k n,t=some n/\i=some (.int k n))->
   ∀w:World,(Instr.sliceBounds v len cap g f i).run P w=.ok (l,x,m) w):=by
 have j:∀ {p:Prop},ko c p->(c=none\/c=some true)->p:=by
  intro p u hc;rcases hc with hc | hc<;>subst hc
  ·exact u
  ·exact u rfl
 unfold FL at hv;split at hv
 ·refine ⟨_,_,_,hv,λhc g f i a b d w=> ?_⟩;simp at a b d;subst a;subst b;subst d;simp [Instr.sliceBounds]
 ·rename_i l;refine ⟨_,_,_,hv.2,λhc g f i a b d w=> ?_⟩;obtain ⟨a0,a1⟩:=j hv.1 hc;simp at a b d;subst b;subst d;obtain ⟨k,rfl⟩:=a;simp [Instr.sliceBounds,xQ a0 a1]
 ·rename_i x;refine ⟨_,_,_,hv.2,λhc g f i a b d w=> ?_⟩;obtain ⟨a0,a1⟩:=j hv.1 hc;simp at a b d;subst a;subst d;obtain ⟨k,rfl⟩:=b;simp [Instr.sliceBounds,xQ a0 a1]
 ·rename_i l x;refine ⟨_,_,_,hv.2,λhc g f i a b d w=> ?_⟩;obtain ⟨a0,a1,a2⟩:=j hv.1 hc;simp at a b d;subst d;obtain ⟨k,rfl⟩:=a;obtain ⟨y,rfl⟩:=b;have e:(x.toNat:Int)=x:=Int.toNat_of_nonneg (by omega);simp [Instr.sliceBounds,xQ (Int.le_trans a0 a1) a2,xQ (n:=l) (m:=x.toNat) a0 (by omega)]
 ·rename_i x m;refine ⟨_,_,_,hv.2,λhc g f i a b d w=> ?_⟩;obtain ⟨a0,a1,a2⟩:=j hv.1 hc;simp at a b d;subst a;obtain ⟨k,rfl⟩:=b;obtain ⟨y,rfl⟩:=d;simp [Instr.sliceBounds,xQ (n:=m) (Int.le_trans a0 a1) a2,xQ (n:=x) (m:=m.toNat) a0 (by omega)]
 ·rename_i l x m;refine ⟨_,_,_,hv.2,λhc g f i a b d w=> ?_⟩;obtain ⟨a0,a1,a2,a3⟩:=j hv.1 hc;simp at a b d;obtain ⟨k,rfl⟩:=a;obtain ⟨y,rfl⟩:=b;obtain ⟨z,rfl⟩:=d;simp [Instr.sliceBounds,xQ (n:=m) (by omega) a3,xQ (n:=x) (m:=m.toNat) (by omega) (by omega),xQ (n:=l) (m:=x.toNat) a0 (by omega)]
 ·simp at hv
end
section
variable {P:Program} {tb:Tb} {o:Oper} {ch:aU} {s:St} {h:Hp} {K:LV->Prop}
theorem Dr (a:holds s ch):eC s ch=none\/eC s ch=some true:=by
 cases ch with
 | nil=>exact .inl rfl
 | cons q r=>obtain ⟨t,w⟩:=q;obtain ⟨b,hb,c⟩:=GR (s:=s) t w r;grind
theorem Sn (ok:tb.Ok P) {t:Nat} {x:Operand} {I H A:Option Operand} (j:o.op=.slice t x I H A) (hv:hO (ev s ch x) λv=>match nO s ch I,nO s ch H,nO s ch A with
  | some I,some H,some A=>C0 (eC s ch) tb t v I H A K
  | _,_,_=>False):dY P tb o ch s h K:=by
 obtain ⟨v,L,f⟩:=jL hv;clear hv;split at f
 ·rename_i l n m N O B;have q:holds s ch->∀(p:Nat->Nat) (i:Operand->Value),(∀x∈o.op.operands,eD p s i x)->∀ {y:Option Operand} {r:Option Int},nO s ch y=some r->(∀z,y=some z->z∈o.op.operands)->
    (r=none/\y.map i=none\/∃k n,r=some n/\y.map i=some (.int k n)):=by
   intro c p i g y r Z B;rcases UE c Z (λz d=>g z (B z d)) with ⟨T,U⟩ | ⟨z,k,n,T,U,h3⟩
   ·exact .inl ⟨U,by rw [T];rfl⟩
   grind
  unfold C0 at f;split at f
  ·rename_i base len cap;split at f
   ·rename_i e J;obtain ⟨y,u,S,R,M⟩:=vp J;obtain ⟨W,Y,X,C,E⟩:=BM (P:=P) f;refine j6 _ (C _ rfl) λc p i w g=> ?_;have G:=bE (g x (by simp [j,Op.operands])) c L;have F:=au ok S w;have Q:=bS ok M w;rw [R] at F;have D:=E (Dr c) _ _ _ (q c p i g N (by intro z d;simp [j,Op.operands,d])) (q c p i g O (by intro z d;simp [j,Op.operands,d]))
     (q c p i g B (by intro z d;simp [j,Op.operands,d])) w
    simp only [execOp,j,G,LVal,Instr.sliceAt,Instr.slice,Sem.run_bind,F,Result.andThen_ok,D,Q,Sem.run_pure,aX]
   ·exact f.elim
  ·rename_i a;split at f
   ·rename_i n' e J;obtain ⟨y',u,b0,a9,M⟩:=CD J;obtain ⟨W,Y,X,C,E⟩:=BM (P:=P) f;refine j6 _ (C _ rfl) λc p i w g=> ?_;have G:=bE (g x (by simp [j,Op.operands])) c L;have V:=au ok b0 w;have Q:=bS ok M w;rw [a9] at V;have D:=E (Dr c) _ _ _ (q c p i g N (by intro z d;simp [j,Op.operands,d])) (q c p i g O (by intro z d;simp [j,Op.operands,d]))
     (q c p i g B (by intro z d;simp [j,Op.operands,d])) w
    simp only [execOp,j,G,LVal,Instr.sliceAt,Instr.slice,Instr.sureAddr,Sem.run_bind,Result.andThen_ok,V,D,Q,Sem.run_pure,aX];split<;>simp_all
   ·exact f.elim
  ·rename_i b;split at f
   ·rename_i e S;split at f
    ·rename_i R;obtain ⟨W,Y,X,C,E⟩:=BM (P:=P) f;refine j6 _ C λc p i w g=> ?_;have G:=bE (g x (by simp [j,Op.operands])) c L;have F:=au ok S w;rw [R] at F;have a8:A=none:=by
      cases A with
      | none=>rfl
      | some z=>simp only [nO] at B;grind
     have D:=E (Dr c) _ _ none (q c p i g N (by intro z d;simp [j,Op.operands,d])) (q c p i g O (by intro z d;simp [j,Op.operands,d])) (.inl ⟨rfl,rfl⟩) w;subst a8;simp [execOp,j,G,LVal,Instr.sliceAt,Instr.slice,F,D]
    ·exact f.elim
   ·exact f.elim
  ·exact f.elim
 ·exact f.elim
theorem Sq (ok:tb.Ok P) {t:Nat} {x:Operand} (a:o.op=.makeInterface t x) (hv:hO (ev s ch x) λv=>match tb.ty t with
  | some e=>match e.aH with
   | .interface _=>False
   | _=>K (.v (.iface t v))
  | none=>False):dY P tb o ch s h K:=by
 obtain ⟨v,d,b⟩:=jL hv;clear hv;split at b
 ·rename_i e c;have run:(∀n,e.aH≠ .interface n)->K (.v (.iface t v))->dY P tb o ch s h K:=λi g=>
   j6 _ g λf p q w j=>by have m:=bE (j x (by simp [a,Op.operands])) f d;have l:=au ok c w;simp only [execOp,a,m,LVal,Instr.makeInterface,Sem.run_bind,l,Result.andThen_ok];cases k:e.aH<;>first | exact absurd k (i _) | rfl
  grind
 ·exact b.elim
theorem UH {fn:Fn} {first captured:Array Operand} (c:o.op=.makeFunc fn first captured)
  (hv:ng (dX s ch first.toList) λa=>ng (dX s ch captured.toList) λb=>K (.v (.func fn a.toArray b.toArray))):dY P tb o ch s h K:=by
 obtain ⟨a,i,k⟩:=EX hv;obtain ⟨b,hb,j⟩:=EX k;refine j6 _ j λd β ρ w e=> ?_;have m:=yo (β:=β) (ρ:=ρ) d i λx l=>e x (by simp [c,Op.operands];grind);have n:=yo (β:=β) (ρ:=ρ) d hb λx l=>e x (by simp [c,Op.operands];grind);have f:first.map ρ=a.toArray:=by grind
 have g:captured.map ρ=b.toArray:=by grind
 simp only [execOp,c,Instr.makeFunc,Sem.run_bind,Sem.run_pure,Result.andThen_ok,f,g,LVal]
theorem Na (ok:tb.Ok P) {l c:Nat} {x:Operand} (r:o.op=.convert l c x) (hv:hO (ev s ch x) λv=>match tb.ty l,tb.ty c,v with
  | some _,some e,.int _ n=>match e.aH with
   | .int k=>K (.v (.int k (k.wrap n)))
   | _=>mr (eC s ch) P tb c (convert l c v) h K
  | some _,some _,v=>mr (eC s ch) P tb c (convert l c v) h K
  | _,_,_=>False):dY P tb o ch s h K:=by
 obtain ⟨v,z,i⟩:=jL hv;clear hv;have m:holds s ch->∀(b:Nat->Nat) (a:Operand->Value),(∀x∈o.op.operands,eD b s a x)->∀(w g:World) (u:Value),(convert l c v).run P w=.ok u g->(execOp a o).run P w=.ok (.value u) g:=by intro d b a f w g u j;have C:=bE (f x (by simp [r,Op.operands])) d z;simp only [execOp,r,C,LVal,Sem.run_bind,j,Result.andThen_ok,Sem.run_pure]
 split at i
 ·rename_i t e k n A y;split at i
  ·rename_i E B;refine j6 _ i λd b a w f=>m d b a f w w _ ?_;have p:=au ok A w;have q:=au ok y w;rw [B] at q;generalize t.aH=D at p;simp only [convert,Sem.run_bind,p,q,Result.andThen_ok];cases D<;>rfl
  ·exact rI (by simp_all [cH]) i λd b a f w g u j=>m d b a f w g u j
 ·exact rI (by simp_all [cH]) i λd b a f w g u j=>m d b a f w g u j
 ·exact i.elim
theorem yq :∀(l:List Value) (i:Nat) (new:List Value),i+new.length<=l.length->kg l i new=l.take i++new++l.drop (i+new.length)
 | l,0,[],_=>by cases l<;>simp [kg]
 | [],0,b::new,h=>by simp at h
 | a::l,0,b::new,h=>by have:=yq l 0 new (by grind);simp only [kg,this];simp
 | [],n+1,new,h=>by simp at h
 | a::l,n+1,new,h=>by have:=yq l n new (by simp at h ⊢;omega);simp only [kg,this];grind
theorem Nb (l:List Value) (i:Nat) (new:List Value) (h:i+new.length<=l.length):(kg l i new).length=l.length:=by rw [yq l i new h];simp;omega
theorem GZ :∀(new:List Value) (k:Nat) (l:List Value) (off:Nat),off+k+new.length<=l.length->
  ((new.zipIdx k).foldl (λ(a:Array Value) (p:Value×Nat)=>a.setIfInBounds (off+p.2) p.1) l.toArray).toList=l.take (off+k)++new++l.drop (off+k+new.length)
 | [],k,l,off,_=>by simp
 | v::new,k,l,off,h=>by
  simp only [List.zipIdx_cons,List.foldl_cons];have b:off+(k+1)+new.length<=(l.set (off+k) v).length:=by simp at h ⊢;omega
  have:=GZ new (k+1) (l.set (off+k) v) off b;rw [show (l.toArray.setIfInBounds (off+k) v)=(l.set (off+k) v).toArray by simp];rw [this];simp at h;apply List.ext_getElem?;intro j;simp only [List.getElem?_append,List.length_append,List.length_take,List.length_set,List.length_cons,List.getElem?_take,List.getElem?_drop,List.getElem?_set];grind
theorem G0 (v:Value) (l:List Value) (off:Nat) (h:off+(be v).length<=l.length):
  (v.cells.zipIdx.foldl (λ(a:Array Value) (p:Value×Nat)=>a.setIfInBounds (off+p.2) p.1) l.toArray)=(kg l off (be v)).toArray:=by
 apply Array.ext';rw [<-Array.foldl_toList];have:v.cells.zipIdx.toList=(be v).zipIdx:=by rw [Array.toList_zipIdx,ny]
 rw [this,GZ (be v) 0 l off (by omega),yq l off _ h];simp
theorem DZ {size:Nat}:∀ {e:List (Nat×Value)} {a b:List Value},mW size a e=some b->
  Instr.fill (λi=>some (i*size,size)) a.toArray e=some b.toArray
 | [],a,b,h=>by cases h;rfl
 | (i,v)::r,a,b,h=>by
  simp only [mW] at h;cases c:Nat.beq (be v).length size with
  | false=>simp [c] at h
  | true=>
   cases d:Nat.ble (i*size+size) a.length with
   | false=>simp [c,d] at h
   | true=>
    simp only [c,d,cond_true] at h;have f:=Nat.eq_of_beq_eq_true c;have j:=Nat.le_of_ble_eq_true d;have g:v.cells.size=size:=by rw [<-Array.length_toList,ny,f]
    have:=DZ h;simp only [Instr.fill,g,ne_eq,not_true,decide_false,Bool.false_or,decide_eq_true_eq];rw [if_neg (by simp;omega)];have k:=G0 v a (i*size) (by omega);grind
theorem G3 {fs:List Field} {pl:Nat->Option (Nat×Nat)} (j:∀i f e,fs[i]? =some f->tb.ty f.type=some e->pl i=some (f.offset,e.size)):
  ∀ {k:List (Nat×Value)} {a b:List Value},qe tb fs a k=some b->Instr.fill pl a.toArray k=some b.toArray
 | [],a,b,h=>by cases h;rfl
 | (i,v)::r,a,b,h=>by
  simp only [qe] at h;split at h
  ·rename_i f g;split at h
   ·rename_i e n;cases c:Nat.beq (be v).length e.size with
    | false=>simp [c] at h
    | true=>
     cases d:Nat.ble (f.offset+e.size) a.length with
     | false=>simp [c,d] at h
     | true=>
      simp only [c,d,cond_true] at h;have l:=Nat.eq_of_beq_eq_true c;have p:=Nat.le_of_ble_eq_true d;have m:v.cells.size=e.size:=by rw [<-Array.length_toList,ny,l]
      have:=G3 j h;rw [mg] at g;simp only [Instr.fill,j i f e g n,m];rw [if_neg (by simp;omega)];rw [G0 v a f.offset (by omega)];exact this
   ·cases h
  ·cases h
theorem JO (ok:tb.Ok P) {w:World}:∀(fs:List Field),(∀f∈fs,∃e,tb.ty f.type=some e)->
  ∃a:List (Nat×Nat),(fs.mapM λf=>(do pure (f.offset,<-Go.sizeOf f.type):Sem (Nat×Nat))).run P w=.ok a w/\a.length=fs.length/\
   ∀(i:Nat) f e,fs[i]? =some f->tb.ty f.type=some e->a[i]? =some (f.offset,e.size)
 | [],_=>⟨[],by simp,rfl,by simp⟩
 | f::fs,b=>by
  obtain ⟨e,c⟩:=b f (List.mem_cons_self ..);obtain ⟨a,k,j,hp⟩:=JO ok (w:=w) fs λg d=>b g (List.mem_cons_of_mem _ d);refine ⟨(f.offset,e.size)::a,?_,by simp [j],?_⟩
  ·simp only [List.mapM_cons,Sem.run_bind,bS ok c,Result.andThen_ok,Sem.run_pure,k]
  grind
theorem KF :∀ {fs:List Field},pg tb fs=true->∀f∈fs,∃e,tb.ty f.type=some e
 | [],_,f,hf=>by cases hf
 | g::fs,h,f,hf=>by
  simp only [pg] at h;split at h
  ·rename_i e a;rcases List.mem_cons.1 hf with rfl | hf
   ·exact ⟨e,a⟩
   ·exact KF h f hf
  ·cases h
theorem Ss (ok:tb.Ok P) {t:Nat} {parts:Array (Nat×Operand)} (y:o.op=.build t parts)
  (hv:ng ((lg s ch parts.toList).map λ_=> []) λ_=>match lg s ch parts.toList,tb.ty t with
  | some b,some e=>match e.aH with
   | .struct fs=>cond (pg tb fs.toList) (match qe tb fs.toList (be e.zero) b with
    | some c=>K (.v (.agg c.toArray))
    | none=>False) False
   | .array _ u=>match tb.ty u with
    | some g=>match mW g.size (be e.zero) b with
     | some c=>K (.v (.agg c.toArray))
     | none=>False
    | none=>False
   | _=>False
  | _,_=>False):dY P tb o ch s h K:=by
 obtain ⟨_,_,a⟩:=EX hv;clear hv;split at a
 ·rename_i b e G m;have C:holds s ch->∀(β:Nat->Nat) (ρ:Operand->Value),(∀x∈o.op.operands,eD β s ρ x)->(parts.map λ(i,x)=>(i,ρ x)).toList=b:=by intro j β ρ k;have:=DY (β:=β) (ρ:=ρ) j G λx J=>k x (by simp [y,Op.operands];simpa using J);simpa using this
  split at a
  ·rename_i fs A;cases z:pg tb fs.toList with
   | false=>simp [z] at a
   | true=>
    simp only [z,cond_true] at a;split at a
    ·rename_i c r;refine j6 _ a λj β ρ w k=> ?_;have l:=au ok m w;rw [A] at l;have B:=cw ok m w;obtain ⟨pl,H,L,hp⟩:=JO ok (w:=w) fs.toList (KF z);have F:(fs.mapM λf=>(do pure (f.offset,<-Go.sizeOf f.type):Sem (Nat×Nat))).run P w=.ok pl.toArray w:=by rw [Array.mapM_eq_mapM_toList];simp only [Sem.run_map,H,Result.andThen_ok]
     have d:=G3 (tb:=tb) (fs:=fs.toList) (pl:=λ(i:Nat)=>pl[i]?) hp r;have p:(parts.map λ(i,x)=>(i,ρ x)).toList=b:=C j β ρ k;have q:(be e.zero).toArray=e.zero.cells:=by apply Array.ext';simp [ny]
     rw [q] at d;simp only [execOp,y,Instr.build,Sem.run_bind,B,Result.andThen_ok,l,F,p];have D:(λ(i:Nat)=>pl.toArray[i]?)=λ(i:Nat)=>pl[i]?:=by funext i;simp
     rw [D,d];simp [LVal]
    ·exact a.elim
  ·rename_i n u A;split at a
   ·rename_i g E;split at a
    ·rename_i c r;refine j6 _ a λj β ρ w k=> ?_;have l:=au ok m w;rw [A] at l;have B:=cw ok m w;have I:=bS ok E w;have d:=DZ r;have p:(parts.map λ(i,x)=>(i,ρ x)).toList=b:=C j β ρ k;have q:(be e.zero).toArray=e.zero.cells:=by apply Array.ext';simp [ny]
     rw [q] at d;simp only [execOp,y,Instr.build,Sem.run_bind,B,Result.andThen_ok,l,I,p,d];simp [LVal]
    ·exact a.elim
   ·exact a.elim
  ·exact a.elim
 ·exact a.elim
end
section
variable {P:Program} {tb:Tb} {o:Oper} {ch:aU} {s:St} {h:Hp} {K:LV->Prop}
theorem CV (ok:tb.Ok P) {k:Nat} {e:Ty} {b:Bool} {v:Value} {w:World} (c:tb.ty k=some e) (a:q5 e.aH=true):
  (Instr.checkKey b 10000 k v).run P w=.ok () w:=by
 have f:=au ok c w;have key:∀n,(Instr.checkKey b (n+1) k v).run P w=.ok () w:=by intro n;unfold Instr.checkKey;simp only [Sem.run_bind,f,Result.andThen_ok];generalize e.aH=d at a;cases d<;>first | rfl | (simp [q5] at a)
 exact key 9999
theorem AK (ok:tb.Ok P) {k:Nat} {e:Ty} {v:Value} {a:List MapEntry} {r:Option (Nat×Value)} {w:World} (b:tb.ty k=some e)
  (c:Instr.findNow e.aH v a 0=some r):(Instr.findKey k v a).run P w=.ok r w:=by
 simp only [Instr.findKey,Sem.run_bind,au ok b,Result.andThen_ok,c,Sem.run_pure]
theorem Ku {r:Nat} {a:Array MapEntry} {ck:Nat} {w:World} (hb:w.heap[r]? =some (.map a ck)):(getObj r).run P w=.ok (.map a ck) w:=by simp [getObj,Sem.run,hb]
theorem wV (ok:tb.Ok P) {t k u:Nat} {e j q:Ty} {m:Option Nat} {b v:Value} {y l:Bool} {w:World} (x:tb.ty t=some e) (C:e.aH=.map k u)
  (d:tb.ty k=some j) (p:tb.ty u=some q) (n:q5 j.aH=true) (B:Sub h w) (f:xg j.aH q.zero m b h v y):
  (Instr.lookup t (.map m) b l).run P w=.ok (if l then .tuple #[v,.bool y] else v) w:=by
 have g:=au ok x w;rw [C] at g;obtain ⟨D,z,f⟩:=f;rcases z with ⟨rfl,rfl⟩ | ⟨r,ck,rfl,A⟩
 ·simp only [Instr.lookup,Sem.run_bind,g,Result.andThen_ok,Sem.run_pure,CV ok d n];rcases f with ⟨a,hv,c⟩ | ⟨i,a,c⟩
  ·simp only [AK ok d a,Result.andThen_ok,Sem.run_bind,cw ok p,Sem.run_pure,hv,c]
  ·simp only [AK ok d a,Result.andThen_ok,Sem.run_bind,Sem.run_pure,c]
 ·simp only [Instr.lookup,Sem.run_bind,g,Result.andThen_ok,Ku (B r _ A),Sem.run_pure,CV ok d n];rcases f with ⟨a,hv,c⟩ | ⟨i,a,c⟩
  ·simp only [AK ok d a,Result.andThen_ok,Sem.run_bind,cw ok p,Sem.run_pure,hv,c]
  ·simp only [AK ok d a,Result.andThen_ok,Sem.run_bind,Sem.run_pure,c]
theorem PI (ok:tb.Ok P) {t:Nat} {x i:Operand} {l:Bool} (n:o.op=.lookup t x i l) (hv:hO (ev s ch x) λa=>hO (ev s ch i) λb=>match a,tb.ty t with
  | .map m,some e=>match e.aH with
   | .map k u=>match tb.ty k,tb.ty u with
    | some A,some p=>cond (q5 A.aH) (mO (eC s ch) A.aH p.sh p.zero m b h λx y=>cond l (K (.v (.tuple #[p.sh.enc x,.bool y]))) (K (.v (p.sh.enc x))))
      (mr (eC s ch) P tb o.type (Instr.lookup t a b l) h K)
    | _,_=>False
   | _=>False
  | _,_=>False):dY P tb o ch s h K:=by
 obtain ⟨a,J,I⟩:=jL hv;clear hv;obtain ⟨b,L,hv⟩:=jL I;clear I;have B:holds s ch->∀(g:Nat->Nat) (d:Operand->Value),(∀x∈o.op.operands,eD g s d x)->∀(w q:World) (u:Value),(Instr.lookup t a b l).run P w=.ok u q->(execOp d o).run P w=.ok (.value u) q:=by intro c g d f w q u j;have N:=bE (f x (by simp [n,Op.operands])) c J;have M:=bE (f i (by simp [n,Op.operands])) c L;simp only [execOp,n,N,M,LVal,Sem.run_bind,j,Result.andThen_ok,Sem.run_pure]
 split at hv
 ·rename_i m e D;split at hv
  ·rename_i k u G;split at hv
   ·rename_i A p E H;cases r:q5 A.aH with
    | false=>simp only [r,cond_false] at hv;exact rI (by simp_all [cH]) hv λc g d f w q u j=>B c g d f w q u j
    | true=>
     simp only [r,cond_true] at hv;obtain ⟨y,z,j,F⟩:=hv;cases l with
     | true=>refine Dp (by simp [cH,n]) _ F λc g d w f C=>B c g d f w w _ ?_;rw [wV ok D G E H r C (nE j c)];rfl
     | false=>refine Dp (by simp [cH,n]) _ F λc g d w f C=>B c g d f w w _ ?_;rw [wV ok D G E H r C (nE j c)];rfl
   ·exact hv.elim
  ·exact hv.elim
 ·exact hv.elim
theorem Ij {k:IntKind} {w:World}:∀ {r:List Value} {x:Int} {v:Value},rp iF k x r=some v->(r.foldlM Builtin.min2 (.int k x)).run P w=.ok v w
 | [],x,v,h=>by cases h;rfl
 | a::r,x,v,h=>by
  cases a<;>simp only [rp] at h<;>first
   |cases h
   | (simp only [List.foldlM_cons,Sem.run_bind,Builtin.min2,Sem.run_pure,Result.andThen_ok]
      exact Ij h)
theorem Ik {k:IntKind} {w:World}:∀ {r:List Value} {x:Int} {v:Value},rp oY k x r=some v->(r.foldlM Builtin.max2 (.int k x)).run P w=.ok v w
 | [],x,v,h=>by cases h;rfl
 | a::r,x,v,h=>by
  cases a<;>simp only [rp] at h<;>first
   |cases h
   | (simp only [List.foldlM_cons,Sem.run_bind,Builtin.max2,Sem.run_pure,Result.andThen_ok]
      exact Ik h)
theorem Nc (ok:tb.Ok P) {b:Builtin} {G:Array Operand} {z:Array TypeId} (j:o.op=.call {callee:=.builtin b,args:=G,argTypes:=z})
  (hv:ng (dX s ch G.toList) λF=>MM (eC s ch) P tb b F z.toList o.type h K):dY P tb o ch s h K:=by
 obtain ⟨F,J,a⟩:=EX hv;clear hv;have q:holds s ch->∀(β:Nat->Nat) (ρ:Operand->Value),(∀x∈o.op.operands,eD β s ρ x)->G.map ρ=F.toArray:=by intro d β ρ f;have:=yo (β:=β) (ρ:=ρ) d J λx L=>f x (by simp [j,Op.operands,Call.operands];simpa using L);grind
 unfold MM at a;split at a
 ·rename_i x ty D;have E:z= #[ty]:=by apply Array.ext';simpa using D
  have t:holds s ch->∀(β:Nat->Nat) (ρ:Operand->Value),(∀x∈o.op.operands,eD β s ρ x)->∀(w m:World) (u:Value),(Builtin.len_ #[ty] o.type #[x]).run P w=.ok u m->(execOp ρ o).run P w=.ok (.value u) m:=by intro d β ρ f w m u C;have g:=q d β ρ f;simp only [execOp,j,resolve,invoke,builtin,Sem.run_bind,Sem.run_pure,Result.andThen_ok,g,E,C]
  unfold Fv at a;split at a
  ·rename_i e A;have l:=λw=>au ok A w;split at a
   ·rename_i M i;refine j6 _ a λd β ρ w f=>t d β ρ f w w _ ?_;simp [Builtin.len_,l,i,goInt,LVal]
   ·rename_i I p n c i;refine j6 _ a λd β ρ w f=>t d β ρ f w w _ ?_;simp [Builtin.len_,l,i,goInt,LVal]
   ·rename_i y n I i;refine j6 _ a λd β ρ w f=>t d β ρ f w w _ ?_;cases y<;>simp [Builtin.len_,l,i,goInt,LVal]
   ·exact rI (by simp_all [cH]) a λd β ρ f w m u C=>t d β ρ f w m u C
  ·exact a.elim
 ·rename_i p n c ty D;have E:z= #[ty]:=by apply Array.ext';simpa using D
  split at a
  ·rename_i e A;split at a
   ·rename_i u l;refine j6 _ a λd β ρ w f=> ?_;have g:=q d β ρ f;have H:=au ok A w;rw [l] at H;simp [execOp,j,resolve,invoke,builtin,g,E,Builtin.cap_,H,goInt,LVal]
   ·exact a.elim
  ·exact a.elim
 ·rename_i k x r;split at a
  ·rename_i v B;refine j6 _ a λd β ρ w f=> ?_;have g:=q d β ρ f;simp [execOp,j,resolve,invoke,builtin,g,Builtin.min_,Ij B,LVal]
  ·exact a.elim
 ·rename_i k x r;split at a
  ·rename_i v B;refine j6 _ a λd β ρ w f=> ?_;have g:=q d β ρ f;simp [execOp,j,resolve,invoke,builtin,g,Builtin.max_,Ik B,LVal]
  ·exact a.elim
 ·exact a.elim
theorem JP (ok:tb.Ok P) (hv:u9 P tb o ch s h K):dY P tb o ch s h K:=by
 obtain ⟨e,op,ty,pos,after,guard⟩:=o;cases op with
 | move x=>exact GW (.inl rfl) hv
 | assign x=>exact GW (.inr rfl) hv
 | pick x a b=>exact Uz rfl hv
 | extract x i=>exact M9 rfl hv
 | binOp op t x y p=>exact XG ok rfl hv
 | unOp op t x=>exact YX rfl hv
 | nilCheck x=>exact XH rfl hv
 | load t x=>exact UB ok rfl hv
 | fieldAddr t x i=>exact YE ok rfl hv
 | field t x i=>exact Si ok rfl hv
 | indexAddr t x i=>exact YH ok rfl hv
 | index t x i=>exact Sk ok rfl hv
 | slice t x j g l=>exact Sn ok rfl hv
 | makeInterface t x=>exact Sq ok rfl hv
 | makeFunc fn a b=>exact UH rfl hv
 | convert a b x=>exact Na ok rfl hv
 | build t n=>exact Ss ok rfl hv
 | lookup t x i k=>exact PI ok rfl hv
 | call c=>
  obtain ⟨callee,args,d⟩:=c;cases callee with
  | builtin b=>exact Nc ok rfl hv
  | value f=>exact hv.elim
  | invoke r m=>exact hv.elim
 | _=>exact hv.elim
end
section
variable {P:Program} {tb:Tb} {o:Oper} {ch:aU} {s:St} {h:Hp} {K:LV->Hp->Prop}
theorem XI (s:St) (t:Nat) (w:Bool) (r:aU):∃b,eC s ((t,w)::r)=some b/\(b=true↔holds s ((t,w)::r)):=by
 induction r generalizing t w with
 | nil=>
  simp only [eC];split
  ·rename_i b c a;refine ⟨_,rfl,λh=> ?_,λh=> ?_⟩
   ·intro p hp;simp at hp;subst hp;simp only [hb,a];grind
   ·have:=h (t,w) (List.mem_cons_self ..);simp only [hb,a] at this;grind
  ·refine ⟨false,rfl,λh=>(by cases h),λh=> ?_⟩;have:=h (t,w) (List.mem_cons_self ..);unfold hb at this;split at this
   ·rename_i f _ b c a;exact absurd a (f b c)
   ·cases this
 | cons p r k=>
  obtain ⟨l,m⟩:=p;obtain ⟨g,j,i⟩:=k l m;simp only [eC];split
  ·rename_i b c a;rw [j];refine ⟨_,rfl,λh=> ?_,λh=> ?_⟩
   ·have e:g=true/\b=w:=by grind
    intro q hq;rcases List.mem_cons.1 hq with rfl | hq
    ·simp only [hb,a,e.2]
    ·exact i.1 e.1 q hq
   ·have d:=h (t,w) (List.mem_cons_self ..);simp only [hb,a] at d;injection d with d
    have e:g=true:=i.2 λq hq=>h q (List.mem_cons_of_mem _ hq);grind
  ·refine ⟨false,rfl,λh=>(by cases h),λh=> ?_⟩;have:=h (t,w) (List.mem_cons_self ..);unfold hb at this;split at this
   ·rename_i f _ b c a;exact absurd a (f b c)
   ·cases this
def fP (P:Program) (o:Oper) (ch:aU) (s:St) (h:Hp) (K:LV->Hp->Prop):Prop:=
 (holds s ch->∀(β:Nat->Nat) (a:Act) (w:World),(∀x∈o.op.operands,eD β s a.eval x)->Sub h w->∀(next:Act->World->Prop) (Q:Exit->Act->World->Prop),
  (∀x b c,K (.v x) b->Step h b w c->next (a.put o.dst x) c)->o.wp P a w next Q)/\
 (¬holds s ch->∃x,K (.v x) h)
theorem Ds {d:Type} {A:(d->Hp->Prop)->Hp->Prop} {K:d->Hp->Prop} (a:cG (eC s ch) A K h):(holds s ch->A K h)/\(¬holds s ch->∃x,K x h):=by
 cases ch with
 | nil=>exact ⟨λ_=>a,λc=>absurd (bG s) c⟩
 | cons p r=>obtain ⟨t,w⟩:=p;obtain ⟨b,hb,f⟩:=XI s t w r;rw [hb] at a;exact ⟨λe=>a.1 (f.2 e),λc=>a.2 (by grind)⟩
theorem tz {e:Type} {A:(e->Hp->Prop)->Hp->Prop} {f:e->Value} (j:cG (eC s ch) A (λx b=>K (.v (f x)) b) h)
  (c:holds s ch->∀(β:Nat->Nat) (ρ:Operand->Value) (w:World),(∀x∈o.op.operands,eD β s ρ x)->Sub h w->∀(K:e->Hp->Prop),A K h->
   ∃x b d,(execOp ρ o).run P w=.ok (.value (f x)) d/\K x b/\Step h b w d):fP P o ch s h K:=by
 obtain ⟨i,m⟩:=Ds j;refine ⟨λhh β a w ho hs next Q g=> ?_,λg=> ?_⟩
 ·obtain ⟨x,b,d,c,k,l⟩:=c hh β a.eval w ho hs _ (i hh);unfold Oper.wp;rw [c,Oper.upon_value];exact g _ _ _ k l
 grind
theorem KG {h:Hp} {a b:Addr} {v:Value} (i:∃u,cW h b=some u):∃u,cW (h.put a v) b=some u:=by
 obtain ⟨u,j⟩:=i;obtain ⟨c,t,fr,hb,g,d⟩:=ER j;unfold Hp.put;split
 ·rename_i k l m f;unfold cW Hp.set;by_cases e:b.block=a.block
  ·rw [e] at hb;rw [hb] at f;cases f;simp only [e,if_true,g,Option.isSome_none,Bool.false_eq_true,if_false];split
   ·exact ⟨u,d⟩
   ·rw [Array.getElem?_setIfInBounds];split
    ·rename_i n;have:b.off<c.size:=by
      rcases Nat.lt_or_ge b.off c.size with h | h
      ·exact h
      ·rw [Array.getElem?_eq_none h] at d;cases d
     rw [if_pos (by omega)];exact ⟨v,rfl⟩
    ·exact ⟨u,d⟩
  ·simp only [if_neg e,hb,g];exact ⟨u,by simpa using d⟩
 grind
theorem KH (h:Hp) (a b:Addr) (v:Value):fY (h.put a v) b=fY h b:=by
 unfold Hp.put;split
 ·rename_i c e fr hb;unfold fY Hp.set;grind
 ·rfl
theorem tr {h:Hp} {a:Addr}:∀ {n:Nat},pY h a n->∀i,i<n->(∃v,cW h (a.add i)=some v)/\fY h (a.add i)=false
 | 0,_,i,c=>by omega
 | n+1,b,i,c=>by
  rcases Nat.lt_or_ge i n with h | h
  ·exact tr b.1 i h
  ·have:i=n:=by omega
   subst this;exact b.2
theorem EK {a:Addr}:∀(b:List Value) (i:Nat) (h:Hp) (w:World),Sub h w->iV b=true->
  (∀j,j<b.length->(∃v,cW h (a.add (i+j))=some v)/\fY h (a.add (i+j))=false)->
  ∃f,(storeCells a b i).run P w=.ok () f/\Step h (jJ h a b i) w f
 | [],i,h,w,d,_,_=>⟨w,rfl,.refl d⟩
 | v::b,i,h,w,d,g,k=>by
  obtain ⟨⟨v0,e⟩,l⟩:=k 0 (by simp);rw [Nat.add_zero] at e l;have n:=GF (v:=v) d e;have m:iV b=true/\v.oneCell'=true:=by cases v<;>simp only [iV] at g<;>first | exact ⟨g,rfl⟩ | cases g
  obtain ⟨f,r,u⟩:=EK b (i+1) (h.put (a.add i) v) (w.setCell (a.add i) v) n.sub m.1 (λj y=>by
   have:=k (j+1) (by simp;omega);rw [show i+1+j=i+(j+1) from by omega];exact ⟨KG this.1,by rw [KH];exact this.2⟩)
  refine ⟨f,?_,n.trans u⟩;simp only [storeCells,Sem.run_bind];have x:(store (a.add i) v).run P w=.ok () (w.setCell (a.add i) v):=by
   have p:=vw d e;obtain ⟨c,t,fr,hb,_,_⟩:=ER e;have q:w.frozen? (a.add i)=false:=by rw [Di d hb];exact l
   have hv:=m.2;cases v<;>first
    | (simp [Value.oneCell'] at hv;done)
    |simp only [store,Sem.run,p,q,Bool.false_eq_true,if_false]
  rw [x];simp only [Result.andThen_ok];exact r
theorem Sy (ok:tb.Ok P) {t:Nat} {x y:Operand} (d:o.op=.store t x y) (hv:match ev s ch x,ev s ch y with
  | some (.v (.pointer (some a))),some (.v v)=>match ch,tb.ty t with
   | [],some e=>cond (Nat.beq (be v).length e.size) (cond (iV (be v)) (cD h a (be v) λg=>K (.v (.tuple #[])) g) False) False
   | _,_=>False
  | _,_=>False):fP P o ch s h K:=by
 split at hv
 ·rename_i a v k l;split at hv
  ·rename_i e i;cases b:Nat.beq (be v).length e.size with
   | false=>simp [b] at hv
   | true=>
    cases f:iV (be v) with
    | false=>grind
    | true=>
     simp only [b,f,cond_true] at hv;refine ⟨λhh β act w ho hs next Q c=> ?_,λc=>absurd (bG s) c⟩;have z:act.eval x=_:=bE (ho x (by simp [d,Op.operands])) hh k;have A:act.eval y=_:=bE (ho y (by simp [d,Op.operands])) hh l;obtain ⟨B,p,r⟩:=EK (P:=P) (be v) 0 h w hs f (λj m=>by simpa using tr hv.1 j m);have u:=bS ok i w;have n:v.cells.size=e.size:=by rw [<-Array.length_toList,ny];exact Nat.eq_of_beq_eq_true b
     unfold Oper.wp;have q:(execOp act.eval o).run P w=.ok .skip B:=by
      simp only [execOp,d,z,A,LVal,Instr.storeAt,Instr.sureAddr,Sem.run_bind,Sem.run_pure,Result.andThen_ok,storeVar,u,n,ne_eq,not_true,if_false,ny];have:(if False then (stuck "storeVar: the value has not the size of the variable" :Sem Unit) else pure PUnit.unit).run P w=.ok () w:=rfl
      first | rw [this] | skip
      simp only [p,Result.andThen_ok]
     rw [q,Oper.upon_skip];exact c _ _ _ hv.2 r
  ·exact hv.elim
 ·exact hv.elim
theorem sJ {e:TypeId} {a:Array Value} {w:World}:(newRow e a).run P w=.ok ⟨w.heap.size,0,none⟩ {w with heap:=w.heap.push (.cells a e)}:=by simp [newRow]
theorem D0 {a:List Value} {K:Addr->Hp->Prop} {t:Nat} {w:World} (e:Sub h w) (c:bD a K h):
  ∃b,K ⟨w.heap.size,0,none⟩ b/\Step h b w {w with heap:=w.heap.push (.cells a.toArray t)}:=by
 obtain ⟨d,f⟩:=AQ e (.cells a.toArray t);exact ⟨_,c _ t d,f⟩
theorem PK {b:List Value} {K:Addr->Hp->Prop} {t:Nat} {w:World} (d:Sub h w) (a:xf t b K h):
  ∃c,K ⟨w.heap.size,0,none⟩ c/\Step h c w {w with heap:=w.heap.push (.cells b.toArray t)}:=by
 unfold xf at a;split at a
 ·obtain ⟨e,f⟩:=AQ d (.cells (List.toArray [.pointer none,.slice none 0 0]) t);exact ⟨_,a _ e,f⟩
 ·exact D0 d a
theorem SB (ok:tb.Ok P) {t:Nat} (j:o.op=.alloc t) (hv:match tb.ty t with
  | some e=>cG (eC s ch) (xf t (be e.zero)) (λa b=>K (.v (.pointer (some a))) b) h
  | none=>False):fP P o ch s h K:=by
 split at hv
 ·rename_i e d;refine tz (f:=λa=>.pointer (some a)) hv λm p q w n k K g=> ?_;obtain ⟨b,i,l⟩:=PK (t:=t) k g;refine ⟨_,b,_,?_,i,l⟩;have c:(be e.zero).toArray=e.zero.cells:=by apply Array.ext';simp [ny]
  rw [c];simp [execOp,j,Instr.alloc,cw ok d,newVar,sJ]
 ·exact hv.elim
theorem XK {t:Nat} {x:Operand} (c:o.op=.box t x) (hv:hO (ev s ch x) λv=>cG (eC s ch) (bD (be v)) (λa b=>K (.v (.pointer (some a))) b) h):
  fP P o ch s h K:=by
 obtain ⟨v,e,n⟩:=jL hv;refine tz (f:=λa=>.pointer (some a)) n λg q r w k l K i=> ?_;obtain ⟨b,j,m⟩:=D0 (t:=t) l i;refine ⟨_,b,_,?_,j,m⟩;have p:=bE (k x (by simp [c,Op.operands])) g e;have d:(be v).toArray=v.cells:=by apply Array.ext';simp [ny]
 rw [d];simp [execOp,c,p,LVal,Instr.box,newVar,sJ]
theorem Mu {a:Type} (l:List a):∀n,(ki l n).length=n*l.length
 | 0=>by simp [ki]
 | n+1=>by simp [ki,Mu l n,Nat.add_mul,Nat.add_comm]
theorem G4 (l:List Value):∀n i,i<n*l.length->(ki l n)[i]? =l[i%l.length]?
 | 0,i,h=>by simp at h
 | n+1,i,h=>by
  simp only [ki];rcases Nat.lt_or_ge i l.length with hi | hi
  ·rw [List.getElem?_append_left hi,Nat.mod_eq_of_lt hi]
  ·rw [List.getElem?_append_right hi,G4 l n (i-l.length) (by grind)];congr 1;rw [<-Nat.mod_eq_sub_mod hi]
theorem Dt (z:List Value) (n size:Nat) (a:z.length=size):((Array.range (n*size)).map (λi=>z.toArray[i%z.toArray.size]!))=(ki z n).toArray:=by
 apply Array.ext';apply List.ext_getElem?;intro i;rcases Nat.lt_or_ge i (n*size) with hi | hi
 ·have b:(ki z n)[i]? =z[i%z.length]?:=G4 z n i (by rw [a];exact hi);have d:0<size:=by
   rcases Nat.eq_zero_or_pos size with h | h
   ·subst h;simp at hi
   ·exact h
  have c:i%z.length<z.length:=Nat.mod_lt _ (by omega);grind
 ·have b:(ki z n).length<=i:=by rw [Mu,a];exact hi
  grind
theorem WZ (ok:tb.Ok P) {t len:Nat} {parts:Array (Nat×Operand)} (n:o.op=.buildSlice t len parts) (hv:match lg s ch parts.toList,fX tb t with
  | some l,some e=>cond (Nat.ble (len*e.size) 16777216) (match mW e.size (ki (be e.zero) len) l with
   | some m=>cG (eC s ch) (bD m) (λa d=>K (.v (.slice (some a) len len)) d) h
   | none=>False) False
  | _,_=>False):fP P o ch s h K:=by
 split at hv
 ·rename_i l e G A;obtain ⟨y,u,O,M,k⟩:=vp A;cases g:Nat.ble (len*e.size) 16777216 with
  | false=>simp [g] at hv
  | true=>
   simp only [g,cond_true] at hv;have R:=Nat.le_of_ble_eq_true g;split at hv
   ·rename_i m z;refine tz (f:=λa=>.slice (some a) len len) hv λB β ρ w E I K C=> ?_;obtain ⟨d,D,J⟩:=D0 (t:=u) I C;refine ⟨_,d,_,?_,D,J⟩;have F:(parts.map λ(i,x)=>(i,ρ x)).toList=l:=by have:=DY (β:=β) (ρ:=ρ) B G λx N=>E x (by simp [n,Op.operands];simpa using N);simpa using this
    have p:=au ok O w;rw [M] at p;have L:=bS ok k w;have Q:=cw ok k w;have q:=ok.xK u e k;have j:=DZ z;have r:e.zero.cells=(be e.zero).toArray:=by apply Array.ext';simp [ny]
    simp only [execOp,n,Instr.buildSlice,Sem.run_bind,p,Result.andThen_ok,L,F];rw [if_neg (by omega)];by_cases b:len*e.size=0
    ·have H:ki (be e.zero) len=[]:=by apply List.length_eq_zero_iff.1;rw [Mu,q];exact b
     rw [H] at j;have c:(Array.map (λx=>(#[]:Array Value)[x%(#[]:Array Value).size]!) (Array.range (len*e.size)))=([]:List Value).toArray:=by rw [b];simp
     simp only [b,if_true,Sem.run_pure,Result.andThen_ok,Sem.run_bind];rw [b] at c;simp only [c,j,Sem.run_bind,sJ,Result.andThen_ok,Sem.run_pure]
    ·have c:=Dt (be e.zero) len e.size q;simp only [b,if_false,Sem.run_bind,Q,Result.andThen_ok,Sem.run_pure,r];simp only [c,j,Sem.run_bind,sJ,Result.andThen_ok,Sem.run_pure]
   ·exact hv.elim
 ·exact hv.elim
end
end Lf
