/-
  Part 4 of the texts that the claim leans on.
-/
import Derived.Shelf.Strings.Search1
import Derived.Shelf.Strings.Search2
import Derived.Shelf.Strings.Search3
import Derived.Shelf.LaysM
import Derived.Test.YtakfmlcemmgllaaGreatProg
import Derived.Test.YtakfmlcemmgllaaGreatMgSgGoesOn2
set_option maxRecDepth 100000
namespace Lf
open D (dJ)
theorem eR {a b n:Int}:dD a b n=0↔a<=n/\n<=b:=by unfold dD within;simp
theorem dC {a b n:Int}:within n a b=true↔a<=n/\n<=b:=by unfold within;simp
theorem gY {a b n:Int}:within n a b=false↔¬(a<=n/\n<=b):=by rw [<-Bool.not_eq_true,dC]
theorem iq {m n:Int}:gg m n=0↔n≠0/\n<=m:=by unfold gg;omega
theorem Vp {b:List Int} {a:Int}:nL b a=0↔∀x,b.getLast? =some x->x<a:=by unfold nL;grind
theorem EX :∀(l b:List Int),dJ (λb a=>By 8 a/\nL b a=0) b l↔(∀a∈l,By 8 a)/\l.Pairwise (· < ·)/\∀x,b.getLast? =some x->∀a∈l,x<a
 | [],b=>by simp [dJ]
 | a::r,b=>by
  have c:=EX r (b++ [a]);have d:(b++ [a]).getLast? =some a:=by simp
  simp only [dJ];rw [c,Vp,List.pairwise_cons];grind
theorem nR {has:Bool} {n:Int}:du has n=0↔(has=false->n=0)/\0<=n/\n<8:=by unfold du;grind
theorem Vq {x:df} {n ag:Int} (h:(ja x n ag).1=0):(0<=x.op/\x.op<34)/\(0<=x.a/\x.a<8)/\(0<=x.b/\x.b<8)/\(0<=x.c/\x.c<8):=by
 unfold ja at h;by_cases g:x.op<0\/34<=x.op
 ·rw [if_pos g] at h;cases h
 rw [if_neg g] at h;by_cases d:du (iI x.op).1 x.a≠0
 ·rw [if_pos d] at h;exact absurd h d
 rw [if_neg d] at h;by_cases e:du (iI x.op).2.1 x.b≠0
 ·rw [if_pos e] at h;exact absurd h e
 rw [if_neg e] at h;by_cases f:du (iI x.op).2.2.1 x.c≠0
 ·rw [if_pos f] at h;exact absurd h f
 have i:=(nR.1 (Decidable.not_not.1 d)).2;have j:=(nR.1 (Decidable.not_not.1 e)).2;have k:=(nR.1 (Decidable.not_not.1 f)).2;omega
theorem OE {n ag:Int}:∀ {l:List df} {i:Int},(lf n ag l i).1=0↔∀x∈l,(ja x n ag).1=0
 | [],i=>by simp [lf]
 | x::r,i=>by
  simp only [lf];by_cases h:(ja x n ag).1=0
  ·rw [if_neg (λa=>a h),OE];simp [h]
  grind
theorem yZ {l:List df} {ag:Int} (a:0<=ag/\ag<=8):(je l ag).1=0↔l.length<=256/\∀x∈l,(ja x l.length ag).1=0:=by
 unfold je;rw [qt];by_cases h:256<l.length
 ·grind
 ·rw [if_neg h,OE];grind
theorem NF {parts ag:Int}:∀ {l:List fI} {i:Int},(wa parts ag l i).1=0↔∀p∈l,(0<=p.part/\p.part<=parts-1)/\(je p.code ag).1=0
 | [],i=>by simp [wa]
 | p::r,i=>by
  simp only [wa];by_cases a:within p.part 0 (parts-1)=false
  ·rw [if_pos a];have:=gY.1 a;grind
  ·rw [if_neg a];have c:=dC.1 (Bool.not_eq_false _▸a:within p.part 0 (parts-1)=true);by_cases b:(je p.code ag).1=0
   ·rw [if_neg (λd=>d b),NF];simp [b,c]
   grind
def xM (l:List Int):Prop:=l≠ []/\l.length<=8/\l.Pairwise (· < ·)
def Typed (c:aL):Prop:=(∀a∈c.labels,By 8 a)/\∀p∈c.procs,∀x∈p.code,cN x.gR
theorem fA {m:Int} {c:aL}:(uK m c).1=0↔m=0/\c.table≠ []/\c.table.length<=64/\(∀x∈c.table,0<=x/\x<=c.labels.length-1)/\(1<=c.fuel/\c.fuel<=256)/\(1<=c.lane/\c.lane<=64)/\(0<=c.ag/\c.ag<=8)/\
  (0<=c.log/\c.log<=4096)/\c.procs≠ []/\c.procs.length<=32/\∀p∈c.procs,(0<=p.part/\p.part<=c.labels.length-1)/\(je p.code c.ag).1=0:=by
 unfold uK;by_cases h0:m=0
 case neg=>rw [if_pos h0];exact ⟨λe=>absurd e h0,λe=>absurd e.1 h0⟩
 rw [if_neg (λn=>n h0)];by_cases h:c.table=[]
 ·rw [if_pos h];exact ⟨λe=>(by cases e),λe=>absurd h e.2.1⟩
 rw [if_neg h];by_cases k:64<c.table.length
 ·rw [if_pos k];exact ⟨λe=>(by cases e),λe=>(by have:=e.2.2.1;omega)⟩
 rw [if_neg k];by_cases a:c.table.all (λp=>within p 0 (c.labels.length-1))=false
 ·rw [if_pos a];refine ⟨λe=>(by cases e),λe=> ?_⟩;have:c.table.all (λp=>within p 0 (c.labels.length-1))=true:=List.all_eq_true.2 λx j=>dC.2 (e.2.2.2.1 x j);rw [this] at a;cases a
 rw [if_neg a];have o:∀x∈c.table,0<=x/\x<=c.labels.length-1:=λx j=>dC.1 (List.all_eq_true.1 (Bool.not_eq_false _▸a:c.table.all (λp=>within p 0 (c.labels.length-1))=true) x j);by_cases b:within c.fuel 1 256=false
 ·rw [if_pos b];exact ⟨λe=>(by cases e),λe=>absurd e.2.2.2.2.1 (gY.1 b)⟩
 rw [if_neg b];have q:=dC.1 (Bool.not_eq_false _▸b:within c.fuel 1 256=true);by_cases d:within c.lane 1 64=false
 ·rw [if_pos d];exact ⟨λe=>(by cases e),λe=>absurd e.2.2.2.2.2.1 (gY.1 d)⟩
 rw [if_neg d];have r:=dC.1 (Bool.not_eq_false _▸d:within c.lane 1 64=true);by_cases f:within c.ag 0 8=false
 ·rw [if_pos f];exact ⟨λe=>(by cases e),λe=>absurd e.2.2.2.2.2.2.1 (gY.1 f)⟩
 rw [if_neg f];have s:=dC.1 (Bool.not_eq_false _▸f:within c.ag 0 8=true);by_cases g:within c.log 0 4096=false
 ·rw [if_pos g];exact ⟨λe=>(by cases e),λe=>absurd e.2.2.2.2.2.2.2.1 (gY.1 g)⟩
 rw [if_neg g];have t:=dC.1 (Bool.not_eq_false _▸g:within c.log 0 4096=true);by_cases i:c.procs=[]
 ·rw [if_pos i];exact ⟨λe=>(by cases e),λe=>absurd i e.2.2.2.2.2.2.2.2.1⟩
 rw [if_neg i];by_cases l:32<c.procs.length
 ·rw [if_pos l];exact ⟨λe=>(by cases e),λe=>(by have:=e.2.2.2.2.2.2.2.2.2.1;omega)⟩
 rw [if_neg l,NF];grind
theorem BA {m:Int} {c:aL} (A:m=0↔xM c.labels):Typed c/\(uK m c).1=0↔nF c:=by
 rw [fA,A];have h:∀ {o:Type} {V:o->Prop} {l:List o},dJ (λ_ x=>V x) [] l↔∀x∈l,V x:=zl _ _;constructor
 ·rintro ⟨⟨t1,t2⟩,⟨B,J,C⟩,a1,a2,a3,a4,a5,a6,a7,r,D,q⟩;have K:0<c.labels.length:=List.length_pos_iff.2 B;have L:0<c.table.length:=List.length_pos_iff.2 a1;have M:0<c.procs.length:=List.length_pos_iff.2 r;refine ⟨⟨⟨by omega,by omega⟩,iq.2 (by omega)⟩,(EX _ _).2 ⟨t1,C,λx a=>by cases a⟩,⟨⟨by omega,by omega⟩,iq.2 (by omega)⟩,
   h.2 λx a=>⟨⟨(a3 x a).1,by grind⟩,eR.2 (a3 x a)⟩,⟨⟨by omega,by omega⟩,eR.2 a4⟩,⟨⟨by omega,by omega⟩,eR.2 a5⟩,
   ⟨⟨by omega,by omega⟩,eR.2 a6⟩,⟨⟨by omega,by omega⟩,eR.2 a7⟩,⟨⟨by omega,by omega⟩,iq.2 (by omega)⟩,h.2 λp hp=> ?_,trivial⟩
  obtain ⟨d,i⟩:=q p hp;obtain ⟨j,b⟩:=(yZ a6).1 i;refine ⟨⟨d.1,by omega⟩,eR.2 d,j,λx a=>⟨?_,b x a⟩⟩;obtain ⟨k,n,E,F⟩:=Vq (b x a);exact ⟨by omega,by omega,by omega,by omega,t2 p hp x a⟩
 ·rintro ⟨⟨_,d⟩,i,⟨_,j⟩,b,⟨_,s⟩,⟨_,t⟩,⟨_,g⟩,⟨_,u⟩,⟨_,v⟩,f,_⟩;obtain ⟨k,n,_⟩:=(EX _ _).1 i;have b:=h.1 b;have f:=h.1 f;have g:=eR.1 g;have G:=iq.1 d;have H:=iq.1 j;have I:=iq.1 v;refine ⟨⟨k,λp hp x a=>((f p hp).2.2.2 x a).1.2.2.2.2⟩,⟨λe=> ?_,by omega,n⟩,λe=> ?_,by omega,λx a=>eR.1 (b x a).2,eR.1 s,eR.1 t,g,eR.1 u,λe=> ?_,by omega,λp hp=> ?_⟩
  ·grind
  ·grind
  ·grind
  ·obtain ⟨_,w,y,z⟩:=f p hp;exact ⟨eR.1 w,(yZ g).2 ⟨y,λx a=>(z x a).2⟩⟩
end Lf
namespace Lf
open D (dJ)
theorem Hi :∀(n:Nat) (l:List Int),l.Nodup->(∀x∈l,0<=x/\x<n)->l.length<=n
 | 0,l,_,h=>by
  cases l with
  | nil=>simp
  | cons x r=>have:=h x (List.mem_cons_self ..);omega
 | n+1,l,b,h=>by
  by_cases f:(n:Int)∈l
  ·have:=Hi n (l.erase (n:Int)) (b.erase _) λx a=>by
    have c:=h x (List.mem_of_mem_erase a);have d:x≠(n:Int):=λe=>by rw [e] at a;exact (b.not_mem_erase) a
    omega
   grind
  ·have:=Hi n l b λx a=>by grind
   omega
theorem zM {a:Type} (f:a->Nat):∀(l:List a) (x:a),x∈l->f x<=(l.map f).sum
 | [],_,h=>by cases h
 | y::r,x,h=>by
  rcases List.mem_cons.1 h with rfl | h
  ·simp
  ·have:=zM f r x h;simp;omega
theorem ML {c d:Type}:∀ {l:List c} {m:List d} {x:c×d},x∈l.zip m->∃k:Nat,l[k]? =some x.1/\m[k]? =some x.2
 | [],_,_,h=>by simp at h
 | _::_,[],_,h=>by simp at h
 | a::l,b::m,x,h=>by
  rw [List.zip_cons_cons] at h;rcases List.mem_cons.1 h with rfl | h
  ·exact ⟨0,rfl,rfl⟩
  ·obtain ⟨k,e,f⟩:=ML h;exact ⟨k+1,by simpa using e,by simpa using f⟩
def zN (s:aR):Prop:=
 cN s.tick/\(∀x∈s.parts,∀e∈x.log,cN e.tick/\cN e.value)/\
 ∀x∈s.procs,x.aP.length=8/\(∀v∈x.aP,cN v)/\cN x.timer/\cN x.bP/\∀l∈x.ak,(∀v∈l.values,cN v)/\∀w∈l.waiters,cN w.value
structure Small (c:aL):Prop where
 nl:c.labels.length<=8
 np:c.procs.length<=32
 lane:c.lane<=64
 ag:0<=c.ag/\c.ag<=8
 log:c.log<=4096
 code:∀p∈c.procs,p.code.length<=256
section
variable {c:aL} {s:aR} {fl:Nat->Int->Prop}
theorem xi {p:Int} {i:Nat} (h:qF c p i):0<=p/\p<c.procs.length:=by obtain ⟨a,y,b,_⟩:=h;grind
theorem KN (h:xh c s) {p:Int} (b:0<=p) {x:aj} (a:s.procs[p.toNat]? =some x):(s.parts.map (j5 p)).sum+(s.procs.map (j4 p)).sum<=1:=by have:=h.2.2 p.toNat x a;grind
theorem adF (o:s.procs.length=c.procs.length) (h:xh c s) {i:Nat} {x:cJ} (d:s.parts[i]? =some x) {k:Nat} {q:List Int} (b:x.au[k]? =some q):q.length<=c.procs.length:=by
 have a:∀p∈q,0<=p/\p<c.procs.length:=λp hp=>xi (h.1 i x d k q b p hp).1;refine Hi _ q (List.nodup_iff_count.2 λp=> ?_) a;by_cases hp:p∈q
 ·obtain ⟨e,g⟩:=a p hp;have f:p.toNat<s.procs.length:=by omega
  have j:=KN h e (List.getElem?_eq_getElem f);have l:j5 p x<=(s.parts.map (j5 p)).sum:=zM _ _ _ (List.mem_of_getElem? d);have m:q.countP (λz=>decide (z=p))<=j5 p x:=zM (λq:List Int=>q.countP λz=>decide (z=p)) _ _ (List.mem_of_getElem? b);have n:List.count p q=q.countP (λz=>decide (z=p)):=by unfold List.count;congr 1
  omega
 grind
theorem Tz (f:s.procs.length=c.procs.length) (h:xh c s) {r:Nat} {x:aj} (a:s.procs[r]? =some x) {i:Nat} {l:aX} (d:x.ak[i]? =some l):l.waiters.length<=c.procs.length:=by
 obtain ⟨y,j⟩:=NY a f;have b:∀p∈l.waiters.map cd.proc,0<=p/\p<c.procs.length:=λp hp=>by obtain ⟨w,g,rfl⟩:=List.mem_map.1 hp;exact xi (h.2.1 r x y a j i l d w g).2.1
 have:=Hi _ (l.waiters.map cd.proc) (List.nodup_iff_count.2 λp=> ?_) b
 ·simpa using this
 by_cases hp:p∈l.waiters.map cd.proc
 ·obtain ⟨e,m⟩:=b p hp;have k:p.toNat<s.procs.length:=by omega
  have n:=KN h e (List.getElem?_eq_getElem k);have o:j4 p x<=(s.procs.map (j4 p)).sum:=zM _ _ _ (List.mem_of_getElem? a);have q:qC p l<=j4 p x:=zM (qC p) _ _ (List.mem_of_getElem? d);have t:List.count p (l.waiters.map cd.proc)=qC p l:=by unfold List.count qC;rw [List.countP_map];congr 1
  omega
 grind
theorem zu {a:Type} {V:a->Prop} {n:Nat} {l:List a} (b:l.length=n) (h:∀x∈l,V x):hZ V n l:=⟨l,rfl,b,(zl _ _).2 h⟩
theorem A9 {m n:Int} (h:n<=m):fK m n=0:=by unfold fK;omega
theorem Pf (a:Small c) (L:zN s) (h:wg c s fl):lM c s:=by
 obtain ⟨b,I,J,g⟩:=h;obtain ⟨t1,t2,T⟩:=L;have a9:=a.np;have a8:=a.nl;refine ⟨t1,zu b.2.1 λx j=> ?_,zu b.2.2 λx j=> ?_,trivial⟩
 ·obtain ⟨i,v⟩:=List.getElem?_of_mem j;obtain ⟨⟨o,C,q⟩,r,t,u,_,U,D,H⟩:=I i x v;have Y:=a.log;have Z:og c i<=c.procs.length:=List.length_filter_le _ _;refine ⟨⟨o,?_⟩,⟨⟨by omega,by omega⟩,A9 q⟩,(zl _ _).2 λe K=> ?_,⟨t.1,by have:=t.2;omega⟩,⟨u.1,by have:=u.2;omega⟩,?_,by omega⟩
  ·omega
  ·obtain ⟨k,d⟩:=List.getElem?_of_mem K;obtain ⟨_,_,f,_⟩:=MH r k e d;obtain ⟨m,n⟩:=xi f;grind
  ·have X:=a.ag;refine zu (by grind) λz N=> ?_;obtain ⟨k,O,F⟩:=ML N;have hq:=adF b.2.2 g v F;refine ⟨?_,⟨⟨by omega,by omega⟩,A9 (by omega)⟩,(zl _ _).2 λp hp=> ?_,trivial⟩
   ·by_cases e:z.1= -1
    ·omega
    ·obtain ⟨m,n⟩:=xi (H z.1 (List.mem_of_getElem? O) e).1;omega
   ·obtain ⟨m,n⟩:=xi (g.1 i x v k _ F p hp).1;omega
 ·obtain ⟨p,hp⟩:=List.getElem?_of_mem j;obtain ⟨y,A⟩:=NY hp b.2.2;obtain ⟨o,C,q,r,t,u,_,_,D,_⟩:=J p x y hp A;obtain ⟨P,r2,Q,R,S⟩:=T x j;have V:=a.code y (List.mem_of_getElem? A);refine ⟨⟨o.1,by show _<(256:Int);omega⟩,⟨C.1,by show _<(65536:Int);omega⟩,zu P r2,⟨r.1,by show _<(256:Int);omega⟩,Q,trivial,R,zu q λl E=> ?_,trivial⟩;obtain ⟨k,d⟩:=List.getElem?_of_mem E;obtain ⟨G,B,f,_⟩:=D k l d;have hs:=Tz b.2.2 g hp d;have W:=a.lane;refine ⟨⟨⟨by omega,by show _<(256:Int);omega⟩,A9 G⟩,(zl _ _).2 (S l E).1,⟨⟨by omega,by show _<(256:Int);omega⟩,A9 (by omega)⟩,(zl _ _).2 λw M=> ?_,⟨B.1,by have:=B.2;show _<(65536:Int);omega⟩,⟨f.1,by have:=f.2;show _<(65536:Int);omega⟩,trivial⟩;obtain ⟨m,n⟩:=xi (g.2.1 p x y hp A k l d w M).2.1;grind
end
end Lf
namespace Lf
open Go
def de {a:Type} (f:Nat->a) (i:Nat) (x:a):Nat->a:=λj=>if j=i then x else f j
theorem mz {a:Type} {f:Nat->a} {i:Nat} {x:a}:de f i x i=x:=if_pos rfl
theorem mn {a:Type} {f:Nat->a} {i j:Nat} {x:a} (h:j≠i):de f i x j=f j:=if_neg h
theorem XQ {a b:Type} (g:a->b) {f:Nat->a} {i:Nat} {x:a}:(λj=>g (de f i x j))=de (λj=>g (f j)) i (g x):=by funext j;unfold de;split<;>rfl
theorem BV {a:Type} {f:Nat->a} {i:Nat}:de f i (f i)=f:=by
 funext j;unfold de;split
 ·rename_i h;rw [h]
 ·rfl
theorem Qg {a:Type} {f:Nat->a} {i:Nat} {x y:a}:de (de f i x) i y=de f i y:=by funext j;unfold de;split<;>rfl
structure MS where
 tick:Int
 part:Nat->cJ
 proc:Nat->aj
def MS.ba (s:MS) (p:Nat) (x:aj):MS:=⟨s.tick,s.part,de s.proc p x⟩
def MS.dT (s:MS) (i:Nat) (x:cJ):MS:=⟨s.tick,de s.part i x,s.proc⟩
def aG (c:aL) (p:Nat):Nat:=((c.procs[p]?).map λy=>y.part.toNat).getD 0
def jq (c:aL) (p:Nat):List df:=((c.procs[p]?).map λy=>y.code).getD []
def nP (c:aL):Nat:=c.labels.length
def nQ (c:aL):Nat:=c.procs.length
def MS.list (c:aL) (s:MS):aR:=⟨s.tick,(List.range (nP c)).map s.part,(List.range (nQ c)).map s.proc⟩
def iu (l:List df) (pc:Int):Option df:=if 0<=pc then l[pc.toNat]? else none
def kf (r:List Int) (i v:Int):List Int:=if 0<=i/\i<8 then r.set i.toNat v else r
def fQ (r:List Int) (i:Int):Int:=r.getD i.toNat 0
structure Core where
 pc:Int
 aP:List Int
def aj.core (x:aj):Core:=⟨x.pc,x.aP⟩
def aj.put (x:aj) (k:Core):aj:={x with pc:=k.pc,aP:=k.aP}
def gu (k:Core):Core:=⟨k.pc+1,k.aP⟩
def kz (l:List df) (k:Core) (v:Int):Core:=match iu l k.pc with
 | some n=>⟨k.pc+1,kf k.aP n.a v⟩
 | none=>gu k
def gw (l:List df) (k:Core) (v from_:Int):Core:=match iu l k.pc with
 | some n=>⟨k.pc+1,kf (kf k.aP n.a v) n.b from_⟩
 | none=>gu k
structure Want where
 kind:Int
 to:Int
 value:Int
def mb (x:df) (r:List Int):Option (Want×Bool):=
 if x.op=0 then some (⟨1,0,0⟩,true)
 else if x.op=24 then some (⟨2,fQ r x.b,fQ r x.c⟩,true)
 else if x.op=25 then some (⟨3,0,0⟩,true)
 else if x.op=26 then some (⟨4,0,0⟩,true)
 else if x.op=27 then some (⟨5,0,fQ r x.a⟩,false)
 else if x.op=28 then some (⟨6,0,fQ r x.a⟩,true)
 else if x.op=29 then some (⟨7,x.gR,0⟩,true)
 else if x.op=30 then some (⟨8,x.gR,0⟩,false)
 else if x.op=31 then some (⟨9,0,fQ r x.a⟩,false)
 else none
def Cy (D:Int->Int->Int->Int) (x:df) (k:Core) (tick d:Int):Core:=
 if x.op=1 then ⟨k.pc+1,kf k.aP x.a x.gR⟩
 else if x.op=2 then ⟨k.pc+1,kf k.aP x.a (fQ k.aP x.b)⟩
 else if x.op=32 then ⟨k.pc+1,kf k.aP x.a tick⟩
 else if x.op=33 then ⟨k.pc+1,kf k.aP x.a d⟩
 else if x.op=22 then ⟨x.gR,k.aP⟩
 else if x.op=23 then if fQ k.aP x.a=0 then gu k else ⟨x.gR,k.aP⟩
 else ⟨k.pc+1,kf k.aP x.a (D x.op (fQ k.aP x.b) (fQ k.aP x.c))⟩
def ij (D:Int->Int->Int->Int) (l:List df) (k:Core) (tick self:Int):Core×Want:=match iu l k.pc with
 | none=>(k,⟨1,0,0⟩)
 | some x=>if (ja x l.length 8).1≠0 then (k,⟨1,0,0⟩) else match mb x k.aP with
  | some (w,a)=>(if a then k else gu k,w)
  | none=>(Cy D x k tick self,⟨0,0,0⟩)
section
variable (c:aL) (D:Int->Int->Int->Int) (fl:Nat->Nat->Bool)
def more (n:Int):Int:=if n+1<=65535 then n+1 else 65535
def lH (x:aj):Bool:=decide (x.state≠5)&&decide (x.state≠6)
def xt (x:aj) (k:Core):aj:={x with state:=0,pc:=k.pc,aP:=k.aP}
def ry (s:MS) (p:Nat):MS:=s.ba p (xt (s.proc p) (gu (s.proc p).core))
def jZ (s:MS) (my:Int):MS:=if 0<=my then ry s my.toNat else s
def db (s:MS) (p:Nat) (v:Int):MS:=s.ba p (xt (s.proc p) (kz (jq c p) (s.proc p).core v))
def fq (x:aj):aj:={x with state:=if x.state=1 then 0 else x.state}
def cf (x:aj) (i:Nat) (f:aX->aX):aj:={x with ak:=x.ak.modify i f}
def wA (v:Int) (l:aX):aX:={l with values:=l.values++ [v]}
def lS (l:aX):aX:={l with dropped:=more l.dropped}
def iS (p v:Int) (l:aX):aX:={l with waiters:=l.waiters++ [⟨p,v⟩]}
def gm (x:aj) (i:Nat):Bool:=match x.ak[i]? with
 | some l=>decide (c.lane<=(l.values.length:Int))
 | none=>true
def lW (s:MS) (p:Nat) (to v:Int):MS:=
 if to<0\/(nQ c:Int)<=to then db c s p 1
 else if fl (aG c p) (aG c to.toNat)=false then db c (s.dT (aG c p) {s.part (aG c p) with forbidden:=more (s.part (aG c p)).forbidden}) p 0
 else if aG c p=aG c to.toNat then
  if lH (s.proc to.toNat)=false then db c s p 2
  else if gm c (s.proc to.toNat) (aG c p) then
   let s1:=s.ba to.toNat (cf (s.proc to.toNat) (aG c p) (iS p v))
   s1.ba p {s1.proc p with state:=2}
  else db c (s.ba to.toNat (fq (cf (s.proc to.toNat) (aG c p) (wA v)))) p 0
 else if lH (s.proc to.toNat)=false\/gm c (s.proc to.toNat) (aG c p) then db c (s.ba to.toNat (cf (s.proc to.toNat) (aG c p) lS)) p 0
 else db c (s.ba to.toNat (fq (cf (s.proc to.toNat) (aG c p) (wA v)))) p 0
def qm (ai:Int) (l:List aX):Option Nat:=
 ((List.range l.length).map λk=>(ai.toNat+k)%l.length).find? λi=>match l[i]? with
  | some x=> !x.values.isEmpty
  | none=>false
def dK (l:aX):aX:=match l.waiters with
 | []=>{l with values:=l.values.tail,taken:=more l.taken}
 | w::r=>{l with values:=l.values.tail++ [w.value],waiters:=r,taken:=more l.taken}
def lr (s:MS) (p:Nat) (a:Bool):MS:=
 let x:=s.proc p
 match qm x.ai x.ak with
 | some i=>
  let l:=x.ak.getD i ⟨[],[],0,0⟩;let b:={cf x i dK with ai:=((i+1:Nat):Int)%(x.ak.length:Int)};let s1:=s.ba p (b.put (gw (jq c p) x.core (l.values.headD 0) i))
  match l.waiters with
  | []=>s1
  | w::_=>db c s1 w.proc.toNat 0
 | none=>
  if x.bB then s.ba p {x.put (gw (jq c p) x.core 0 (-2)) with bB:=false}
  else if a then s.ba p (x.put (gw (jq c p) x.core 0 (-1)))
  else s.ba p {x with state:=1}
def jo {b:Type} (f:b->Bool):List b->List b
 | []=> []
 | a::l=>if f a then l else a::jo f l
def sP (p:Int) (x:aj):aj:={x with ak:=x.ak.map λl=>{l with waiters:=jo (λw=>decide (w.proc=p)) l.waiters}}
def kB (p:Int):List Int->List (List Int)->List Int×List (List Int)×List Int
 | o::os,q::qs=>
  let r:=kB p os qs
  if o=p then match q with
   | []=>(-1::r.1,[]::r.2.1, -1::r.2.2)
   | a::b=>(a::r.1,b::r.2.1,a::r.2.2)
  else (o::r.1,q::r.2.1,r.2.2)
 | os,qs=>(os,qs,[])
def wU (p:Int) (x:cJ):cJ×List Int:=
 let r:=kB p x.ax (x.au.map (jo λz=>decide (z=p)))
 ({x with ax:=r.1,au:=r.2.1},r.2.2)
def oK (s:MS) (p:Nat) (st:Int):MS:=
 let i:=aG c p;let s1:=s.ba p {s.proc p with state:=st,bB:=false};let s2:MS:=⟨s1.tick,s1.part,λq=>if q<nQ c/\aG c q=i then sP p (s1.proc q) else s1.proc q⟩;let r:=wU p (s2.part i);let b:=r.2.foldl jZ (s2.dT i r.1);let a:=b.ba p {b.proc p with timer:=0,bP:=0};let d:=(a.proc p).ak.flatMap (·.waiters)
 d.foldl (λs w=>db c s w.proc.toNat 2) (a.ba p {a.proc p with ak:=(a.proc p).ak.map λl=>{l with waiters:=[]}})
def tH (s:MS) (p:Nat) (v:Int):MS:=
 let x:=s.part (aG c p)
 s.dT (aG c p) (if (x.log.length:Int)<c.log then {x with log:=x.log++ [⟨s.tick,p,v⟩]} else {x with lost:=more x.lost})
def lj (s:MS) (p:Nat) (n:Int):MS:=
 let x:=s.part (aG c p);let o:=x.ax.getD n.toNat 0
 if o= -1\/o=p then goK (s.dT (aG c p) {x with ax:=x.ax.set n.toNat p}) p
 else (s.dT (aG c p) {x with au:=x.au.modify n.toNat (· ++ [(p:Int)])}).ba p {s.proc p with state:=3}
where
 goK (s:MS) (p:Nat):MS:=s.ba p ((s.proc p).put (gu (s.proc p).core))
def Ao (s:MS) (p:Nat) (n:Int):MS:=
 let x:=s.part (aG c p)
 if x.ax.getD n.toNat (-1)=p then match x.au.getD n.toNat [] with
  | []=>s.dT (aG c p) {x with ax:=x.ax.set n.toNat (-1)}
  | a::r=>jZ (s.dT (aG c p) {x with ax:=x.ax.set n.toNat a,au:=x.au.set n.toNat r}) a
 else s
def pO (a b:Int):Int:=if a<=b then a else b
def wC (a b:Int):Int:=if a<=b then b else a
def ya (s:MS) (p:Nat):MS:=
 let r:=ij D (jq c p) (s.proc p).core s.tick p;let s1:=s.ba p ((s.proc p).put r.1);let w:=r.2
 if w.kind=1 then oK c s1 p 5
 else if w.kind=2 then lW c fl s1 p w.to w.value
 else if w.kind=3 then lr c s1 p false
 else if w.kind=4 then lr c s1 p true
 else if w.kind=5 then s1.ba p {s1.proc p with bB:=false,timer:=if 0<w.value then s.tick+pO w.value 1099511627776 else 0}
 else if w.kind=6 then s1.ba p {s1.proc p with state:=4,bP:=s.tick+pO (wC w.value 1) 1099511627776}
 else if w.kind=7 then lj c s1 p w.to
 else if w.kind=8 then Ao c s1 p w.to
 else if w.kind=9 then tH c s1 p w.value
 else s1
def ni (t:Int) (x:aj):aj:=
 let y:aj:=if 0<x.bP/\x.bP<=t then {x with bP:=0,state:=0,pc:=x.pc+1} else x
 if 0<y.timer/\y.timer<=t then {y with timer:=0,bB:=true,state:=if y.state=1 then 0 else y.state} else y
def j6 (s:MS) (i:Nat):MS:=⟨s.tick,s.part,λq=>if q<nQ c/\aG c q=i then ni s.tick (s.proc q) else s.proc q⟩
def fo (i:Nat):List Nat:=(List.range (nQ c)).filter λq=>decide (aG c q=i)
def lq (s:MS) (i:Nat):Option Nat:=
 ((List.range (fo c i).length).map λk=>((s.part i).ai.toNat+k)%(fo c i).length).find? λa=>decide ((s.proc ((fo c i).getD a 0)).state=0)
def ma (s:MS) (i a:Nat):MS:=ya c D fl (s.dT i {s.part i with ai:=((a+1:Nat):Int)%((fo c i).length:Int)}) ((fo c i).getD a 0)
def pv (i:Nat):Nat->MS->MS
 | 0,s=>s
 | n+1,s=>match lq c s i with
  | none=>s
  | some a=>pv i n (ma c D fl s i a)
def nT (t:Int):Nat:=(c.table.getD (t.toNat%c.table.length) 0).toNat
def lY (s:MS):MS:=
 let s1:=pv c D fl (nT c s.tick) c.fuel.toNat (j6 c s (nT c s.tick))
 ⟨s1.tick+1,s1.part,s1.proc⟩
def xq (s:MS) (p:Int):Int:=if p<0\/(nQ c:Int)<=p then 17 else if lH (s.proc p.toNat)=false then 18 else 0
def uA (s:MS) (p v:Int):MS×Int:=
 if xq c s p≠0 then (s,xq c s p)
 else if gm c (s.proc p.toNat) (nP c) then (s.ba p.toNat (cf (s.proc p.toNat) (nP c) lS),19)
 else (s.ba p.toNat (fq (cf (s.proc p.toNat) (nP c) (wA v))),0)
def jF (s:MS) (p:Int):MS×Int:=
 if xq c s p≠0 then (s,xq c s p) else (oK c s p.toNat 6,0)
def oZ :MS:=⟨0,λ_=>⟨0,[],0,0,List.replicate c.ag.toNat (-1),List.replicate c.ag.toNat []⟩,
 λ_=>⟨0,0,List.replicate 8 0,0,0,false,0,List.replicate (nP c+1) ⟨[],[],0,0⟩⟩⟩
end
section
variable (c:aL) (fl:Nat->Nat->Bool)
def eo (p:Nat) (x:aj):Option df:=iu (jq c p) x.pc
def R0 (T:Int) (i:Nat) (l:List qS):Prop:=
 l.Pairwise (λa b=>a.tick<=b.tick)/\∀e∈l,0<=e.tick/\e.tick<T/\0<=e.proc/\e.proc.toNat<nQ c/\aG c e.proc.toNat=i
structure xP (T:Int) (i:Nat) (x:cJ):Prop where
 cur:0<=x.ai/\(0<x.ai->x.ai<(fo c i).length)
 lR:(x.log.length:Int)<=c.log
 log:R0 c T i x.log
 lost:ji x.lost
 km:ji x.forbidden
 full:0<x.lost->c.log<=x.log.length
 iZ:(x.ax.length:Int)=c.ag
 jQ:(x.au.length:Int)=c.ag
structure dk (t:Int) (p:Nat) (z:Prop) (x:aj):Prop where
 st:0<=x.state/\x.state<=6
 pc:0<=x.pc/\x.pc<=(jq c p).length
 nC:x.ak.length=nP c+1
 cur:0<=x.ai/\x.ai<x.ak.length
 iQ:0<=x.timer/\x.timer<=t+1099511627776
 jg:0<=x.bP/\x.bP<=t+1099511627776
 qd:z\/(0<x.bP↔x.state=4)
 dead:x.state=5\/x.state=6->(z\/x.timer=0)/\x.bB=false
 dP:∀(i:Nat) l,x.ak[i]? =some l->(l.values.length:Int)<=c.lane/\ji l.taken/\ji l.dropped/\(rX l->i<nP c->fl i (aG c p)=true)
 recv:x.state=1->(∃n,eo c p x=some n/\n.op=25)/\(∀l∈x.ak,l.values=[])/\x.bB=false
 snd:x.state=2->∃n,eo c p x=some n/\n.op=24
 se:x.state=3->∃n,eo c p x=some n/\n.op=29
 ku:x.state=4->∃n,eo c p x=some n/\n.op=28
 aP:x.aP.length=8
variable (s:MS) (X Z:Nat->Prop)
def rS (i k:Nat) (z:Int):Prop:=
 0<=z/\z.toNat<nQ c/\aG c z.toNat=i/\¬X z.toNat/\(Z z.toNat\/((s.proc z.toNat).state=3/\∃n,eo c z.toNat (s.proc z.toNat)=some n/\n.op=29/\n.gR=(k:Int)))
def oJ (i r:Nat) (w:cd):Prop:=
 0<=w.proc/\w.proc.toNat<nQ c/\aG c w.proc.toNat=i/\¬X w.proc.toNat/\
  (Z w.proc.toNat\/((s.proc w.proc.toNat).state=2/\∃n,eo c w.proc.toNat (s.proc w.proc.toNat)=some n/\n.op=24/\fQ (s.proc w.proc.toNat).aP n.b=(r:Int)/\fQ (s.proc w.proc.toNat).aP n.c=w.value))
structure Good (T:Int):Prop where
 tick:0<=s.tick
 part:∀i,i<nP c->xP c T i (s.part i)
 proc:∀p,p<nQ c->dk c fl s.tick p (Z p) (s.proc p)
 own:∀i,i<nP c->∀(k:Nat) o,(s.part i).ax[k]? =some o->o= -1\/(0<=o/\o.toNat<nQ c/\aG c o.toNat=i/\(lH (s.proc o.toNat)=true\/Z o.toNat))
 kW:∀i,i<nP c->∀(k:Nat) q,(s.part i).au[k]? =some q->q.Nodup/\(∀z∈q,rS c s X Z i k z)/\(q≠ []->∃o,(s.part i).ax[k]? =some o/\o≠ -1/\o∉q)
 dP:∀r,r<nQ c->∀(i:Nat) l,(s.proc r).ak[i]? =some l->(l.waiters.map (·.proc)).Nodup/\(l.waiters≠ []->i=aG c r/\(lH (s.proc r)=true\/Z r)/\(l.values.length:Int)=c.lane)/\∀w∈l.waiters,oJ c s X Z i r w
 uO:∀p,p<nQ c->¬X p->(s.proc p).state=3->∃(k:Nat) (q:List Int),(s.part (aG c p)).au[k]? =some q/\(p:Int)∈q
 uN:∀p,p<nQ c->¬X p->(s.proc p).state=2->∃r,r<nQ c/\∃l,(s.proc r).ak[aG c p]? =some l/\∃w∈l.waiters,w.proc=(p:Int)
end
structure cP (c:aL):Prop where
 parts:1<=nP c/\nP c<=8
 table:c.table≠ []/\c.table.length<=64/\∀i∈c.table,0<=i/\i<(nP c:Int)
 fuel:1<=c.fuel/\c.fuel<=256
 lane:1<=c.lane/\c.lane<=64
 ag:0<=c.ag/\c.ag<=8
 log:0<=c.log/\c.log<=4096
 procs:1<=nQ c/\nQ c<=32
 part:∀y∈c.procs,0<=y.part/\y.part<(nP c:Int)
 code:∀y∈c.procs,y.code.length<=256/\∀x∈y.code,(ja x y.code.length c.ag).1=0
section
variable {c:aL} {fl:Nat->Nat->Bool} {s:MS} {X Z:Nat->Prop} {T:Int}
theorem cP.fP (m:cP c) {p:Nat}:aG c p<nP c:=by
 unfold aG;cases h:c.procs[p]? with
 | none=>simp;have:=m.parts;omega
 | some y=>have:=m.part y (List.mem_of_getElem? h);simp;omega
theorem cP.th (m:cP c) {p:Nat}:(jq c p).length<=256:=by
 unfold jq;cases h:c.procs[p]? with
 | none=>simp
 | some y=>exact (m.code y (List.mem_of_getElem? h)).1
theorem cP.ins (m:cP c) {p:Nat} {x:aj} {n:df} (h:eo c p x=some n):(ja n (jq c p).length c.ag).1=0/\0<=x.pc/\x.pc<(jq c p).length:=by
 unfold eo iu at h;split at h
 ·rename_i b;have a:=List.mem_of_getElem? h;have d:=(List.getElem?_eq_some_iff.1 h).1;refine ⟨?_,b,by omega⟩;unfold jq at a ⊢;cases e:c.procs[p]? with
  | none=>grind
  | some y=>rw [e] at a;exact (m.code y (List.mem_of_getElem? e)).2 n a
 ·cases h
theorem dH {x:aj}:lH x=true↔x.state≠5/\x.state≠6:=by unfold lH;simp
theorem aax {p:Prop} [Decidable p] {e:Int} {i:Int} {r:Int×Int} (a:e≠0) (h:(if p then (e,i) else r).1=0):¬p/\r.1=0:=by grind
theorem aay {has:Bool} {v:Int} {i:Int} {r:Int×Int} (h:(if du has v≠0 then (du has v,i) else r).1=0):du has v=0/\r.1=0:=by grind
theorem GP {v:Int} (h:du true v=0):0<=v/\v<8:=by unfold du at h;omega
theorem Bm {n:df} {k l:Int} (h:(ja n k l).1=0):(0<=n.op/\n.op<34)/\du (iI n.op).1 n.a=0/\du (iI n.op).2.1 n.b=0/\du (iI n.op).2.2.1 n.c=0/\
  ((n.op=22\/n.op=23)->0<=n.gR/\n.gR<=k)/\((n.op=29\/n.op=30)->0<=n.gR/\n.gR<l):=by
 unfold ja at h;obtain ⟨d,h⟩:=aax (by decide) h;obtain ⟨e,h⟩:=aay h;grind
theorem Ba {n:df} {k l:Int} (h:(ja n k l).1=0) (a:n.op=29\/n.op=30):0<=n.gR/\n.gR<l:=(Bm h).2.2.2.2.2 a
theorem TA {n:df} {k l:Int} (h:(ja n k l).1=0) (g:n.op=24):(0<=n.a/\n.a<8)/\(0<=n.b/\n.b<8)/\(0<=n.c/\n.c<8):=by obtain ⟨_,d,e,f,_⟩:=Bm h;rw [g] at d e f;exact ⟨GP d,GP e,GP f⟩
end
section
variable {c:aL} {fl:Nat->Nat->Bool} {s:MS} {X Z:Nat->Prop} {T:Int} {p:Nat} {x':aj}
theorem gD {s:MS} {p:Nat} {x:aj}:(s.ba p x).proc p=x:=mz
theorem jN {s:MS} {p q:Nat} {x:aj} (h:q≠p):(s.ba p x).proc q=s.proc q:=mn h
theorem C0 {s:MS} {p:Nat} {x y:aj}:(s.ba p x).ba p y=s.ba p y:=by unfold MS.ba;rw [Qg]
theorem vX {s:MS} {i:Nat} {x:cJ}:(s.dT i x).part i=x:=mz
theorem xn {s:MS} {i j:Nat} {x:cJ} (h:j≠i):(s.dT i x).part j=s.part j:=mn h
def Out (s:MS) (X Z:Nat->Prop) (p:Nat):Prop:=¬Z p/\(X p\/((s.proc p).state≠2/\(s.proc p).state≠3))
theorem rS.out {i k:Nat} {z:Int} (h:rS c s X Z i k z) (o:Out s X Z p):z.toNat≠p:=λe=>by
 subst e;obtain ⟨_,_,_,a,h2⟩:=h;rcases o.2 with o2 | o2
 ·exact a o2
 ·rcases h2 with h2 | h2
  ·exact o.1 h2
  ·exact o2.2 h2.1
theorem oJ.out {i r:Nat} {w:cd} (h:oJ c s X Z i r w) (o:Out s X Z p):w.proc.toNat≠p:=λe=>by
 subst e;obtain ⟨_,_,_,a,h2⟩:=h;rcases o.2 with o2 | o2
 ·exact a o2
 ·rcases h2 with h2 | h2
  ·exact o.1 h2
  ·exact o2.1 h2.1
theorem rS.bO {b:MS} {a:Nat->Prop} {i k:Nat} {z:Int} (h:rS c s X Z i k z) (m:a z.toNat->X z.toNat) (e:b.proc z.toNat=s.proc z.toNat):rS c b a Z i k z:=by obtain ⟨d,f,g,j,l⟩:=h;exact ⟨d,f,g,λh=>j (m h),by rw [e];exact l⟩
theorem oJ.bO {b:MS} {a:Nat->Prop} {i r:Nat} {w:cd} (h:oJ c s X Z i r w) (l:a w.proc.toNat->X w.proc.toNat) (e:b.proc w.proc.toNat=s.proc w.proc.toNat):oJ c b a Z i r w:=by obtain ⟨d,f,g,j,k⟩:=h;exact ⟨d,f,g,λh=>j (l h),by rw [e];exact k⟩
theorem Good.run (g:Good c fl s X Z T) (o:Out s X Z p) (pm:dk c fl s.tick p (Z p) x') (A:x'.state≠2/\x'.state≠3) (v:x'.ak=(s.proc p).ak) (hv:lH (s.proc p)=true->lH x'=true):
  Good c fl (s.ba p x') (λq=>X q/\q≠p) Z T where
 tick:=g.tick
 part:=g.part
 proc q hq:=by
  by_cases e:q=p
  ·subst e;rw [gD];exact pm
  ·rw [jN e];exact g.proc q hq
 own i hi k ow h:=by
  rcases g.own i hi k ow h with h | ⟨n,f,j,t⟩
  ·exact .inl h
  ·refine .inr ⟨n,f,j,t.imp (λt=> ?_) id⟩;by_cases e:ow.toNat=p
   ·rw [e,gD];grind
   ·rw [jN e];exact t
 kW i hi k q h:=by obtain ⟨n,f,j⟩:=g.kW i hi k q h;exact ⟨n,λz y=>(f z y).bO (λh=>h.1) (jN ((f z y).out o)),j⟩
 dP r u i l h:=by
  have e:((s.ba p x').proc r).ak=(s.proc r).ak:=by
   by_cases e:r=p
   ·subst e;rw [gD];exact v
   ·rw [jN e]
  rw [e] at h;obtain ⟨n,f,j⟩:=g.dP r u i l h;refine ⟨n,λm=> ?_,λw m=>(j w m).bO (λh=>h.1) (jN ((j w m).out o))⟩;obtain ⟨a,b,d⟩:=f m;refine ⟨a,b.imp (λb=> ?_) id,d⟩;by_cases e:r=p
  ·subst e;rw [gD];exact hv b
  ·rw [jN e];exact b
 uO q hq hx j:=by
  by_cases e:q=p
  ·subst e;rw [gD] at j;omega
  ·rw [jN e] at j;exact g.uO q hq (λh=>hx ⟨h,e⟩) j
 uN q hq hx f:=by
  by_cases e:q=p
  ·subst e;rw [gD] at f;omega
  ·rw [jN e] at f;obtain ⟨r,u,l,x,m⟩:=g.uN q hq (λh=>hx ⟨h,e⟩) f;refine ⟨r,u,l,?_,m⟩;by_cases e:r=p
   ·subst e;rw [gD,v];exact x
   ·rw [jN e];exact x
theorem Good.ak {X':Nat->Prop} (g:Good c fl s X Z T) (pm:dk c fl s.tick p (Z p) x') (c0:x'.state=(s.proc p).state\/((s.proc p).state=1/\x'.state=0)) (b8:x'.pc=(s.proc p).pc) (hr:x'.aP=(s.proc p).aP)
  (hl:x'.ak.length=(s.proc p).ak.length) (Q:∀(i:Nat) l o,(s.proc p).ak[i]? =some l->x'.ak[i]? =some o->o.waiters.Sublist l.waiters/\(o.waiters≠ []->(o.values.length:Int)=c.lane)/\∀w∈l.waiters,w∈o.waiters\/X' w.proc.toNat)
  (hp:p<nQ c) (S:∀q,X q->X' q) (K:∀q,X' q->X q\/(¬Z q/\∃(i:Nat) (l o:aX) (w:cd),(s.proc p).ak[i]? =some l/\x'.ak[i]? =some o/\w∈l.waiters/\w.proc∉o.waiters.map (·.proc)/\w.proc=(q:Int))):
  Good c fl (s.ba p x') X' Z T:=by
 have I:∀q,((s.ba p x').proc q).pc=(s.proc q).pc/\((s.ba p x').proc q).aP=(s.proc q).aP/\(((s.ba p x').proc q).state=(s.proc q).state\/((s.proc q).state=1/\((s.ba p x').proc q).state=0)):=λq=>by
  by_cases e:q=p
  ·subst e;rw [gD];grind
  ·rw [jN e];simp
 have a8:∀q,lH (s.proc q)=true->lH ((s.ba p x').proc q)=true:=λq h=>by rw [dH] at h ⊢;grind
 have c1:∀q n,n=2\/n=3->(s.proc q).state=n->((s.ba p x').proc q).state=n:=λq n hn h=>by grind
 have b6:∀q,eo c q ((s.ba p x').proc q)=eo c q (s.proc q):=λq=>by unfold eo;rw [(I q).1]
 have b0:∀ {i k z},rS c s X Z i k z->¬X' z.toNat:=λ{i k z} h m=>by
  obtain ⟨t,d,f,B,F⟩:=h;rcases K _ m with C | ⟨E,j,l,o,w,A,N,x,O,P⟩
  ·exact B C
  ·obtain ⟨_,_,L⟩:=g.dP p hp j l A;obtain ⟨_,_,_,_,b4⟩:=L w x;grind
 have b7:∀ {i r w},r≠p->oJ c s X Z i r w->¬X' w.proc.toNat:=λ{i r w} b9 h m=>by
  obtain ⟨t,d,f,B,F⟩:=h;rcases K _ m with C | ⟨E,j,l,o,M,A,N,x,O,P⟩
  ·exact B C
  ·obtain ⟨_,_,L⟩:=g.dP p hp j l A;obtain ⟨_,_,_,_,b4⟩:=L M x;grind
 have Y:∀ {i r w},oJ c s X Z i r w->¬X' w.proc.toNat->oJ c (s.ba p x') X' Z i r w:=λ{i r w} h m=>by obtain ⟨t,d,f,B,F⟩:=h;refine ⟨t,d,f,m,F.imp id λF=> ?_⟩;grind
 refine ⟨g.tick,g.part,λq v=> ?_,λi u k ow h=> ?_,λi u k q h=> ?_,λr y i l h=> ?_,λq v m f=> ?_,λq v m d=> ?_⟩
 ·by_cases e:q=p
  ·subst e;rw [gD];exact pm
  ·rw [jN e];exact g.proc q v
 ·rcases g.own i u k ow h with h | ⟨t,d,f,B⟩
  ·exact .inl h
  grind
 ·obtain ⟨t,d,f⟩:=g.kW i u k q h;refine ⟨t,λz E=> ?_,f⟩;have v:=b0 (d z E);obtain ⟨a1,a2,a3,a4,a5⟩:=d z E;refine ⟨a1,a2,a3,v,a5.imp id λa5=> ?_⟩;grind
 ·by_cases e:r=p
  ·subst e;rw [gD] at h ⊢;have u:i<(s.proc r).ak.length:=by grind
   have G:(s.proc r).ak[i]? =some ((s.proc r).ak[i]):=List.getElem?_eq_getElem u;generalize (s.proc r).ak[i]=U at G;obtain ⟨t,d,f⟩:=g.dP r y i U G;obtain ⟨V,w2,w3⟩:=Q i U l G h;refine ⟨t.sublist (V.map _),λa9=> ?_,λw J=> ?_⟩
   ·obtain ⟨a,b,_⟩:=d λe=>by grind
    refine ⟨a,b.imp (λb=> ?_) id,w2 a9⟩;have:=a8 r b;rw [gD] at this;exact this
   ·have D:=V.subset J;refine Y (f w D) λm=> ?_;rcases K _ m with C | ⟨E,j,l1,o,M,A,N,x,O,P⟩
    ·exact (f w D).2.2.2.1 C
    · -- the same lane
     obtain ⟨b1,W,b3⟩:=g.dP r y j l1 A;have hj:j=aG c r:=(W λe=>by rw [e] at x;cases x).1;have b5:i=aG c r:=(d λe=>by rw [e] at D;cases D).1;have e7:M.proc=w.proc:=by have:=(f w D).1;omega
     grind
  ·rw [jN e] at h ⊢;obtain ⟨t,d,f⟩:=g.dP r y i l h;grind
 ·have:=(I q).2.2;exact g.uO q v (λh=>m (S q h)) (by omega)
 ·have:=(I q).2.2;obtain ⟨r,y,l,H,w,J,R⟩:=g.uN q v (λh=>m (S q h)) (by omega);by_cases e:r=p
  ·subst e;have u:aG c q<x'.ak.length:=by rw [hl];exact (List.getElem?_eq_some_iff.1 H).1
   obtain ⟨_,_,w3⟩:=Q _ l _ H (List.getElem?_eq_getElem u);refine ⟨r,y,x'.ak[aG c q],by rw [gD];exact List.getElem?_eq_getElem u,w,?_,R⟩;grind
  ·exact ⟨r,y,l,by rw [jN e];exact H,w,J,R⟩
theorem Good.parts {i:Nat} {y:cJ} (g:Good c fl s X Z T) (pm:xP c T i y) (d:y.ax=(s.part i).ax) (l:y.au=(s.part i).au):Good c fl (s.dT i y) X Z T:=by
 have f:∀j,((s.dT i y).part j).ax=(s.part j).ax:=λj=>by
  by_cases e:j=i
  ·subst e;rw [vX,d]
  ·rw [xn e]
 have m:∀j,((s.dT i y).part j).au=(s.part j).au:=λj=>by
  by_cases e:j=i
  ·subst e;rw [vX,l]
  ·rw [xn e]
 refine ⟨g.tick,λj a=> ?_,g.proc,λj a k o h=>g.own j a k o (by grind),λj a k q h=> ?_,g.dP,λq n r b=> ?_,g.uN⟩
 ·by_cases e:j=i
  ·subst e;rw [vX];exact pm
  ·rw [xn e];exact g.part j a
 ·rw [f];exact g.kW j a k q (by grind)
 ·rw [m];exact g.uO q n r b
end
section
variable {c:aL} {fl:Nat->Nat->Bool} {s:MS} {X Z:Nat->Prop} {T:Int} {p:Nat} {x:aj} {t:Int} {z:Prop}
theorem Good.congr {a:Nat->Prop} (g:Good c fl s X Z T) (h:∀q,X q↔a q):Good c fl s a Z T:=by have:X=a:=funext λq=>propext (h q);grind
theorem jJ {r:List Int} {i v:Int}:(kf r i v).length=r.length:=by unfold kf;split<;>simp
theorem zc {n:Int} (h:ji n):ji (more n):=by unfold ji more at*;split<;>omega
theorem XR {l:List df} {k:Core} {v:Int} (h:∃n,iu l k.pc=some n):(kz l k v).pc=k.pc+1/\(kz l k v).aP.length=k.aP.length:=by obtain ⟨n,a⟩:=h;unfold kz;rw [a];exact ⟨rfl,jJ⟩
theorem XS {l:List df} {k:Core} {v w:Int} (h:∃n,iu l k.pc=some n):(gw l k v w).pc=k.pc+1/\(gw l k v w).aP.length=k.aP.length:=by obtain ⟨n,a⟩:=h;unfold gw;rw [a];exact ⟨rfl,by simp [jJ]⟩
theorem dk.go (pm:dk c fl t p z x) (b:x.state≠4) {k:Core} (d:0<=k.pc/\k.pc<=(jq c p).length) (e:k.aP.length=8):dk c fl t p z (xt x k) where
 st:=by show (0:Int)<=0/\(0:Int)<=6;omega
 pc:=d
 nC:=pm.nC
 cur:=pm.cur
 iQ:=pm.iQ
 jg:=pm.jg
 qd:=pm.qd.imp id λh=>⟨λa=>absurd (h.1 a) b,λa=>by have:(0:Int)=4:=a;omega⟩
 dead:=λh=>by have:(0:Int)=5\/(0:Int)=6:=h;omega
 dP:=pm.dP
 recv:=λh=>by have:(0:Int)=1:=h;omega
 snd:=λh=>by have:(0:Int)=2:=h;omega
 se:=λh=>by have:(0:Int)=3:=h;omega
 ku:=λh=>by have:(0:Int)=4:=h;omega
 aP:=e
theorem dk.put (pm:dk c fl t p z x) (a:x.state=0) {k:Core} (b:0<=k.pc/\k.pc<=(jq c p).length) (d:k.aP.length=8):dk c fl t p z (x.put k):=by
 have:=pm.go (by omega) b d;have e:x.put k=xt x k:=by unfold aj.put xt;rw [<-a]
 rw [e];exact this
theorem tZ {n:df} (h:eo c p x=some n):0<=x.pc/\x.pc<(jq c p).length:=by unfold eo iu at h;grind
theorem Good.told (g:Good c fl s X Z T) (hp:p<nQ c) (o:Out s X Z p) (e:(s.proc p).state≠4) (a:∃n,eo c p (s.proc p)=some n) (v:Int):Good c fl (db c s p v) (λq=>X q/\q≠p) Z T:=by have pm:=g.proc p hp;have d:=XR (l:=jq c p) (k:=(s.proc p).core) (v:=v) a;have h:0<=(s.proc p).pc/\(s.proc p).pc<(jq c p).length:=a.elim λn f=>tZ f;have b:(kz (jq c p) (s.proc p).core v).pc=(s.proc p).pc+1:=d.1;refine g.run o (pm.go e ⟨by rw [b];omega,by rw [b];omega⟩ (d.2.trans pm.aP)) ⟨by show (0:Int)≠2;omega,by show (0:Int)≠3;omega⟩ rfl λ_=>rfl
theorem Good.Sd (g:Good c fl s X Z T) (hp:p<nQ c) (o:Out s X Z p) (a:(s.proc p).state≠4) (b:∃n,eo c p (s.proc p)=some n):Good c fl (ry s p) (λq=>X q/\q≠p) Z T:=by have pm:=g.proc p hp;have e:0<=(s.proc p).pc/\(s.proc p).pc<(jq c p).length:=b.elim λn d=>tZ d;refine g.run o (pm.go a ⟨by show 0<=(s.proc p).pc+1;omega,by show (s.proc p).pc+1<=_;omega⟩ pm.aP) ⟨by show (0:Int)≠2;omega,by show (0:Int)≠3;omega⟩ rfl λ_=>rfl
theorem dk.lane (pm:dk c fl t p z x) {i:Nat} {f:aX->aX} (r:∀l,x.ak[i]? =some l->((f l).values.length:Int)<=c.lane/\ji (f l).taken/\ji (f l).dropped/\(rX (f l)->i<nP c->fl i (aG c p)=true)) (o:x.state=1->∀l,l.values=[]->(f l).values=[]):
  dk c fl t p z (cf x i f) where
 st:=pm.st
 pc:=pm.pc
 nC:=by show (x.ak.modify i f).length=_;rw [List.length_modify];exact pm.nC
 cur:=by show 0<=x.ai/\x.ai<((x.ak.modify i f).length:Int);rw [List.length_modify];exact pm.cur
 iQ:=pm.iQ
 jg:=pm.jg
 qd:=pm.qd
 dead:=pm.dead
 dP:=λj l h=>by
  have h:(x.ak.modify i f)[j]? =some l:=h;rw [List.getElem?_modify] at h;cases e:x.ak[j]? with
  | none=>grind
  | some k=>
   rw [e] at h;by_cases m:i=j
   ·grind
   ·simp [m] at h;subst h;exact pm.dP j k e
 recv:=λh=>by
  obtain ⟨a,b,d⟩:=pm.recv h;refine ⟨a,λl q=> ?_,d⟩;obtain ⟨j,g⟩:=List.getElem?_of_mem (show l∈x.ak.modify i f from q);rw [List.getElem?_modify] at g;cases e:x.ak[j]? with
  | none=>grind
  | some k=>
   rw [e] at g;have n:=b k (List.mem_of_getElem? e);by_cases m:i=j
   ·simp [m] at g;rw [<-g];exact o h k n
   grind
 snd:=pm.snd
 se:=pm.se
 ku:=pm.ku
 aP:=pm.aP
theorem dk.bP (pm:dk c fl t p z x):dk c fl t p z (fq x):=by
 by_cases h:x.state=1
 ·have:fq x=xt x x.core:=by unfold fq xt aj.core;rw [if_pos h]
  rw [this];exact pm.go (by omega) pm.pc pm.aP
 ·have:fq x=x:=by unfold fq;rw [if_neg h]
  grind
theorem Good.lane (g:Good c fl s X Z T) (hp:p<nQ c) {i:Nat} {f:aX->aX} (b:∀l,(s.proc p).ak[i]? =some l->((f l).values.length:Int)<=c.lane/\ji (f l).taken/\ji (f l).dropped/\(rX (f l)->i<nP c->fl i (aG c p)=true))
  (v:∀l,(s.proc p).ak[i]? =some l->(f l).waiters=l.waiters/\(l.waiters≠ []->(f l).values.length=l.values.length)) (a:Bool) (m:a=false->∀l,l.values=[]->(f l).values=[]):
  Good c fl (s.ba p (if a then fq (cf (s.proc p) i f) else cf (s.proc p) i f)) X Z T:=by
 have pm:=g.proc p hp;have o:dk c fl s.tick p (Z p) (if a then fq (cf (s.proc p) i f) else cf (s.proc p) i f):=by
  cases a with
  | false=>exact pm.lane b λ_=>m rfl
  | true=>
   by_cases h:(s.proc p).state=1
   ·have r:dk c fl s.tick p (Z p) (xt (s.proc p) (s.proc p).core):=pm.go (by omega) pm.pc pm.aP;have:=r.lane (i:=i) (f:=f) b λh=>by have:(0:Int)=1:=h;omega
    have e:fq (cf (s.proc p) i f)=cf (xt (s.proc p) (s.proc p).core) i f:=by unfold fq cf xt aj.core;simp [h]
    grind
   ·exact (pm.lane b λk=>absurd k h).bP
 have n:(if a then fq (cf (s.proc p) i f) else cf (s.proc p) i f).ak=(s.proc p).ak.modify i f:=by cases a<;>rfl
 refine g.ak o ?_ (by cases a<;>rfl) (by cases a<;>rfl) (by grind) (λj l w d e2=> ?_) hp (λ_ h=>h) λq h=>.inl h
 ·cases a with
  | false=>exact .inl rfl
  | true=>
   by_cases h:(s.proc p).state=1
   ·refine .inr ⟨h,?_⟩;show (if (s.proc p).state=1 then (0:Int) else (s.proc p).state)=0;rw [if_pos h]
   ·refine .inl ?_;show (if (s.proc p).state=1 then (0:Int) else (s.proc p).state)=_;rw [if_neg h]
 ·rw [n,List.getElem?_modify,d] at e2;obtain ⟨_,u,_⟩:=g.dP p hp j l d;grind
theorem Gb {D:Int->Int->Int->Int} {l:List df} {k:Core} {tk self:Int}:((ij D l k tk self).2.kind=1/\(ij D l k tk self).1=k)\/(∃n,iu l k.pc=some n/\(ja n l.length 8).1=0/\
  ((mb n k.aP=none/\ij D l k tk self=(Cy D n k tk self,⟨0,0,0⟩))\/∃w a,mb n k.aP=some (w,a)/\ij D l k tk self=(if a then k else gu k,w))):=by
 unfold ij;grind
theorem Pg {n:df} {r:List Int} {w:Want} {st:Bool} (h:mb n r=some (w,st)):
  (w.kind=1/\st=true)\/(n.op=24/\w=⟨2,fQ r n.b,fQ r n.c⟩/\st=true)\/(n.op=25/\w.kind=3/\st=true)\/(n.op=26/\w.kind=4/\st=true)\/(w.kind=5/\st=false)\/(n.op=28/\w.kind=6/\st=true)\/
   (n.op=29/\w.kind=7/\w.to=n.gR/\st=true)\/(n.op=30/\w.kind=8/\w.to=n.gR/\st=false)\/(w.kind=9/\st=false):=by
 unfold mb at h;split at h
 ·cases h;exact .inl ⟨rfl,rfl⟩
 split at h
 ·rename_i e;cases h;exact .inr (.inl ⟨e,rfl,rfl⟩)
 split at h
 ·rename_i e;cases h;exact .inr (.inr (.inl ⟨e,rfl,rfl⟩))
 split at h
 ·rename_i e;cases h;exact .inr (.inr (.inr (.inl ⟨e,rfl,rfl⟩)))
 split at h
 ·rename_i e;cases h;exact .inr (.inr (.inr (.inr (.inl ⟨rfl,rfl⟩))))
 split at h
 ·rename_i e;cases h;exact .inr (.inr (.inr (.inr (.inr (.inl ⟨e,rfl,rfl⟩)))))
 grind
theorem Ph {D:Int->Int->Int->Int} {l:List df} {k:Core} {tk self:Int} {n:df} (b:iu l k.pc=some n) (d:(ja n l.length 8).1=0) (a:k.aP.length=8):
  (0<=(Cy D n k tk self).pc/\(Cy D n k tk self).pc<=l.length)/\(Cy D n k tk self).aP.length=8:=by
 have g:0<=k.pc/\k.pc<l.length:=tZ (c:=⟨[],[],0,0,0,0,[⟨0,l⟩]⟩) (p:=0) (x:=⟨0,k.pc,[],0,0,false,0,[]⟩) b;have f:=(Bm d).2.2.2.2.1;unfold Cy;split
 ·exact ⟨⟨by grind,by show k.pc+1<=_;omega⟩,jJ.trans a⟩
 split
 ·exact ⟨⟨by show 0<=k.pc+1;omega,by show k.pc+1<=_;omega⟩,jJ.trans a⟩
 split
 ·exact ⟨⟨by show 0<=k.pc+1;omega,by show k.pc+1<=_;omega⟩,jJ.trans a⟩
 split
 ·exact ⟨⟨by show 0<=k.pc+1;omega,by show k.pc+1<=_;omega⟩,jJ.trans a⟩
 split
 ·grind
 split
 ·rename_i e;split
  ·exact ⟨⟨by show 0<=k.pc+1;omega,by show k.pc+1<=_;omega⟩,a⟩
  grind
 ·exact ⟨⟨by grind,by show k.pc+1<=_;omega⟩,jJ.trans a⟩
end
def nU (p:Int) (s:MS) (l:List Nat):MS:=⟨s.tick,s.part,λq=>if q∈l then sP p (s.proc q) else s.proc q⟩
def No :Nat->Prop:=λ_=>False
section
variable {c:aL} {fl:Nat->Nat->Bool} {s:MS} {T:Int} {p:Nat} {x:aj} {t:Int} {z:Prop}
theorem Ai (h:(s.proc p).state≠2/\(s.proc p).state≠3) {X:Nat->Prop}:Out s X No p:=⟨λh=>h,.inr h⟩
theorem Am (g:Good c fl s (λq=>No q/\q≠p) No T):Good c fl s No No T:=g.congr λ_=>⟨λh=>h.1,λh=>h.elim⟩
theorem Good.AE {X Z:Nat->Prop} (g:Good c fl s X Z T) {q i:Nat} (a:q<nQ c) (b:i<=nP c):∃l,(s.proc q).ak[i]? =some l:=by have:=(g.proc q a).nC;exact ⟨_,List.getElem?_eq_getElem (by omega)⟩
theorem dk.wait (pm:dk c fl t p z x) (e:x.state=0) {m:Int} (f:m=2\/m=3) {n:df} (a:eo c p x=some n) (b:(m=2->n.op=24)/\(m=3->n.op=29)):dk c fl t p z {x with state:=m} where
 st:=by grind
 pc:=pm.pc
 nC:=pm.nC
 cur:=pm.cur
 iQ:=pm.iQ
 jg:=pm.jg
 qd:=pm.qd.imp id λh=>⟨λd=>by grind,λd=>by grind⟩
 dead:=λh=>by grind
 dP:=pm.dP
 recv:=λh=>by grind
 snd:=λh=>⟨n,a,b.1 h⟩
 se:=λh=>⟨n,a,b.2 h⟩
 ku:=λh=>by grind
 aP:=pm.aP
theorem Bn {d:Type} {l:List d} {i j:Nat} {f:d->d} {a:d} (h:(l.modify i f)[j]? =some a):∃b,l[j]? =some b/\((i=j/\a=f b)\/(i≠j/\a=b)):=by grind
theorem zd {a:Type} {l:List a} {i:Nat} {f:a->a} {b:a} (h:l[i]? =some b):(l.modify i f)[i]? =some (f b):=by grind
theorem Gc {a:Type} {l:List a} {i j:Nat} {f:a->a} (h:i≠j):(l.modify i f)[j]? =l[j]?:=by grind
def kA (c:aL) (s:MS) (p q:Nat) (v:Int):MS:=(s.ba q (cf (s.proc q) (aG c p) (iS p v))).ba p {(s.ba q (cf (s.proc q) (aG c p) (iS p v))).proc p with state:=2}
theorem TB {q:Nat} {v:Int} (r:Nat):(kA c s p q v).proc r={(if r=q then cf (s.proc q) (aG c p) (iS p v) else s.proc r) with state:=if r=p then 2 else (s.proc r).state}:=by
 unfold kA;by_cases b:r=p
 ·subst b;rw [gD,if_pos rfl];by_cases a:r=q
  ·subst a;rw [gD,if_pos rfl]
  ·rw [jN a,if_neg a]
 ·rw [jN b,if_neg b];by_cases a:r=q
  ·subst a;rw [gD,if_pos rfl];rfl
  ·rw [jN a,if_neg a]
theorem Good.wait (m:cP c) (g:Good c fl s No No T) {q:Nat} {v:Int} {n:df} (hp:p<nQ c) (M:q<nQ c) (h0:(s.proc p).state=0) (hn:eo c p (s.proc p)=some n) (ho:n.op=24) (hb:fQ (s.proc p).aP n.b=(q:Int)) (hc:fQ (s.proc p).aP n.c=v)
  (b4:aG c p=aG c q) (hv:lH (s.proc q)=true) (Y:∀l,(s.proc q).ak[aG c p]? =some l->(l.values.length:Int)=c.lane):Good c fl (kA c s p q v) No No T:=by
 have H:Out s No No p:=Ai ⟨by omega,by omega⟩;have A:=TB (c:=c) (s:=s) (p:=p) (q:=q) (v:=v);have b0:∀r,((kA c s p q v).proc r).pc=(s.proc r).pc/\((kA c s p q v).proc r).aP=(s.proc r).aP:=λr=>by
  rw [A];by_cases e:r=q
  ·subst e;rw [if_pos rfl];exact ⟨rfl,rfl⟩
  grind
 have O:∀r,r≠p->((kA c s p q v).proc r).state=(s.proc r).state:=λr e=>by grind
 have b6:((kA c s p q v).proc p).state=2:=by grind
 have a9:∀r,r≠q->((kA c s p q v).proc r).ak=(s.proc r).ak:=λr e=>by rw [A,if_neg e]
 have G:((kA c s p q v).proc q).ak=(s.proc q).ak.modify (aG c p) (iS p v):=by rw [A,if_pos rfl];rfl
 have Z:∀r,eo c r ((kA c s p q v).proc r)=eo c r (s.proc r):=λr=>by unfold eo;rw [(b0 r).1]
 have a8:∀r,lH (s.proc r)=true->lH ((kA c s p q v).proc r)=true:=λr h=>by rw [dH] at h ⊢;grind
 have V:∀ {i r w},oJ c s No No i r w->oJ c (kA c s p q v) No No i r w:=λ{i r w} h=>by have C:=h.out H;obtain ⟨a1,a2,a3,a4,a5⟩:=h;refine ⟨a1,a2,a3,a4,?_⟩;grind
 have b5:oJ c (kA c s p q v) No No (aG c p) q ⟨(p:Int),v⟩:=by refine ⟨by show (0:Int)<=(p:Int);omega,hp,rfl,λh=>h,.inr ?_⟩;grind
 refine ⟨g.tick,g.part,λr d=> ?_,λi F k ow h=> ?_,λi F k l h=> ?_,λr d i l h=> ?_,λr d _ u=> ?_,λr d _ j=> ?_⟩
 ·have pm:=g.proc r d;have R:dk c fl s.tick r (No r) (if r=q then cf (s.proc q) (aG c p) (iS p v) else s.proc r):=by
   by_cases e:r=q
   ·subst e;rw [if_pos rfl];exact pm.lane (λl f=>pm.dP _ l f) λ_ l f=>f
   grind
  have B:(if r=q then cf (s.proc q) (aG c p) (iS p v) else s.proc r).state=(s.proc r).state:=by
   by_cases e:r=q
   ·subst e;rw [if_pos rfl];rfl
   ·rw [if_neg e]
  rw [A];by_cases e:r=p
  ·rw [if_pos e];refine R.wait (n:=n) (by grind) (.inl rfl) ?_ ⟨λ_=>ho,λh=>by omega⟩;have:=Z r;rw [A] at this;rw [e] at this ⊢;rw [<-hn];exact this
  ·rw [if_neg e,<-B];exact R
 ·rcases g.own i F k ow h with h | ⟨L,j,u,h4⟩
  ·exact .inl h
  grind
 ·obtain ⟨L,j,u⟩:=g.kW i F k l h;refine ⟨L,λy Q=> ?_,u⟩;have C:=(j y Q).out H;obtain ⟨a1,a2,a3,a4,a5⟩:=j y Q;refine ⟨a1,a2,a3,a4,?_⟩;grind
 ·by_cases e:r=q
  ·subst e;rw [G] at h;obtain ⟨D,B,X⟩:=Bn h;obtain ⟨J,S,E⟩:=g.dP r d i D B;rcases X with ⟨K,o⟩ | ⟨K,o⟩
   ·subst K;subst o;refine ⟨?_,λ_=>⟨b4,.inl (a8 r hv),Y D B⟩,λw hw=> ?_⟩
    ·show ((D.waiters++ [(⟨(p:Int),v⟩:cd)]).map (·.proc)).Nodup;rw [List.map_append,List.nodup_append];refine ⟨J,by simp,λa W b hb=> ?_⟩;obtain ⟨w,hw,rfl⟩:=List.mem_map.1 W;have C:=(E w hw).out H;have:b=(p:Int):=by simpa using hb
     rw [this];intro e;rw [e] at C;exact C rfl
    ·rcases List.mem_append.1 (show w∈D.waiters++ [⟨(p:Int),v⟩] from hw) with hw | hw
     ·exact V (E w hw)
     ·rw [List.mem_singleton.1 hw];exact b5
   grind
  ·rw [a9 r e] at h;obtain ⟨J,S,E⟩:=g.dP r d i l h;grind
 ·have e:r≠p:=λe=>by grind
  rw [O r e] at u;exact g.uO r d (λh=>h) u
 ·by_cases e:r=p
  ·subst e;obtain ⟨l,f⟩:=g.AE (c:=c) (i:=aG c r) M (Nat.le_of_lt m.fP);exact ⟨q,M,iS r v l,by grind,⟨(r:Int),v⟩,by show _∈l.waiters++ [(⟨(r:Int),v⟩:cd)];simp,rfl⟩
  ·rw [O r e] at j;obtain ⟨I,N,l,f,w,hw,P⟩:=g.uN r d (λh=>h) j;by_cases U:I=q
   ·subst U;by_cases o:aG c p=aG c r
    ·exact ⟨I,N,iS p v l,by rw [G,o];exact zd f,w,by show w∈l.waiters++ [_];exact List.mem_append_left _ hw,P⟩
    ·exact ⟨I,N,l,by rw [G,Gc o];exact f,w,hw,P⟩
   grind
end
theorem gy {c:aL} {i q:Nat}:q∈fo c i↔q<nQ c/\aG c q=i:=by unfold fo;simp
theorem Pj {c:aL} {i:Nat}:(fo c i).Nodup:=(List.Pairwise.filter _ List.nodup_range)
def vE (l:aX):aX:={l with waiters:=[]}
def gO (s:MS) (p:Nat) (st:Int):MS:=s.ba p {s.proc p with state:=st,bB:=false}
def fh (c:aL) (s:MS) (p:Nat) (st:Int):MS:=nU p (gO s p st) (fo c (aG c p))
def sc (c:aL) (s:MS) (p:Nat):MS:=s.dT (aG c p) (wU p (s.part (aG c p))).1
def j7 (c:aL) (s:MS) (p:Nat):MS:=(wU p (s.part (aG c p))).2.foldl jZ (sc c s p)
def iX (s:MS) (p:Nat):MS:=s.ba p {s.proc p with timer:=0,bP:=0}
def j8 (s:MS) (p:Nat):MS:=s.ba p {s.proc p with ak:=(s.proc p).ak.map vE}
def tr (c:aL) (s:MS) (p:Nat):MS:=((s.proc p).ak.flatMap (·.waiters)).foldl (λs w=>db c s w.proc.toNat 2) (j8 s p)
theorem Cc {c:aL} {s:MS} {p:Nat} {st:Int}:oK c s p st=tr c (iX (j7 c (fh c s p st) p) p) p:=by
 have e:(⟨(gO s p st).tick,(gO s p st).part,λq=>if q<nQ c/\aG c q=aG c p then sP p ((gO s p st).proc q) else (gO s p st).proc q⟩:MS)=fh c s p st:=by
  unfold fh nU;congr 1;funext q;by_cases h:q<nQ c/\aG c q=aG c p
  ·rw [if_pos h,if_pos (gy.2 h)]
  ·rw [if_neg h,if_neg λb=>h (gy.1 b)]
 have a:oK c s p st=(let s2:MS:=⟨(gO s p st).tick,(gO s p st).part,λq=>if q<nQ c/\aG c q=aG c p then sP p ((gO s p st).proc q) else (gO s p st).proc q⟩;tr c (iX (j7 c s2 p) p) p):=rfl;rw [a,e]
section
variable {c:aL} {fl:Nat->Nat->Bool} {s:MS} {T:Int} {p:Nat}
theorem XT {q r:Nat} {y:aj} (h:y.state=(s.proc q).state\/((s.proc q).state=1/\y.state=0)):((s.ba q y).proc r).state=(s.proc r).state\/((s.proc r).state=1/\((s.ba q y).proc r).state=0):=by
 by_cases e:r=q
 ·subst e;rw [gD];exact h
 ·rw [jN e];exact .inl rfl
theorem adG {x:aj}:(fq x).state=x.state\/(x.state=1/\(fq x).state=0):=by
 unfold fq;by_cases h:x.state=1
 ·right;exact ⟨h,if_pos h⟩
 ·left;exact if_neg h
theorem aaz {q r:Nat} {y:aj} (e:y.pc=(s.proc q).pc):((s.ba q y).proc r).pc=(s.proc r).pc:=by
 by_cases h:r=q
 ·subst h;rw [gD,e]
 ·rw [jN h]
theorem KP {q r:Nat} {y:aj} (e:y.pc=(s.proc q).pc):eo c r ((s.ba q y).proc r)=eo c r (s.proc r):=by unfold eo;rw [aaz e]
theorem Good.AL (g:Good c fl s No No T) (hp:p<nQ c) (b:(s.proc p).state=0) (a:∃n,eo c p (s.proc p)=some n) (v:Int):Good c fl (db c s p v) No No T:=
 Am (g.told hp (Ai ⟨by omega,by omega⟩) (by omega) a v)
theorem Good.send (m:cP c) (g:Good c fl s No No T) {to v:Int} {n:df} (hp:p<nQ c) (q:(s.proc p).state=0) (x:eo c p (s.proc p)=some n) (L:n.op=24) (hb:fQ (s.proc p).aP n.b=to) (G:fQ (s.proc p).aP n.c=v):Good c fl (lW c fl s p to v) No No T:=by
 unfold lW;have I:=m.fP (p:=p);by_cases B:to<0\/(nQ c:Int)<=to
 ·rw [if_pos B];exact g.AL hp q ⟨n,x⟩ 1
 rw [if_neg B];have z:to.toNat<nQ c:=by omega
 have F:((to.toNat:Nat):Int)=to:=by omega
 by_cases t:fl (aG c p) (aG c to.toNat)=false
 ·rw [if_pos t];have pm:=g.part _ I;have A:=g.parts (i:=aG c p) (y:={s.part (aG c p) with forbidden:=more (s.part (aG c p)).forbidden}) ⟨pm.cur,pm.lR,pm.log,pm.lost,zc pm.km,pm.full,pm.iZ,pm.jQ⟩ rfl rfl;exact A.AL hp q ⟨n,x⟩ 0
 rw [if_neg t];have H:fl (aG c p) (aG c to.toNat)=true:=by cases e:fl (aG c p) (aG c to.toNat)<;>simp [e] at t ⊢
 have lane:∀(f:aX->aX) (d:Bool),(∀l,(s.proc to.toNat).ak[aG c p]? =some l->((f l).values.length:Int)<=c.lane/\ji (f l).taken/\ji (f l).dropped)->
   (∀l,(s.proc to.toNat).ak[aG c p]? =some l->(f l).waiters=l.waiters/\(l.waiters≠ []->(f l).values.length=l.values.length))->(d=false->∀l,l.values=[]->(f l).values=[])->
   Good c fl (db c (s.ba to.toNat (if d then fq (cf (s.proc to.toNat) (aG c p) f) else cf (s.proc to.toNat) (aG c p) f)) p 0) No No T:=by
  intro f d k M u;have A:=g.lane z (i:=aG c p) (f:=f) (λl a=>⟨(k l a).1,(k l a).2.1,(k l a).2.2,λ_ _=>H⟩) M d u;have E:(if d then fq (cf (s.proc to.toNat) (aG c p) f) else cf (s.proc to.toNat) (aG c p) f).pc=(s.proc to.toNat).pc:=by cases d<;>rfl
  refine A.AL hp ?_ ⟨n,?_⟩ 0
  ·have:(if d then fq (cf (s.proc to.toNat) (aG c p) f) else cf (s.proc to.toNat) (aG c p) f).state=(s.proc to.toNat).state\/((s.proc to.toNat).state=1/\(if d then fq (cf (s.proc to.toNat) (aG c p) f) else cf (s.proc to.toNat) (aG c p) f).state=0):=by
    cases d
    ·exact .inl rfl
    ·exact adG
   rcases XT (r:=p) this with h | h
   ·rw [h];exact q
   ·exact h.2
  ·rw [KP E];exact x
 have w:∀l,(s.proc to.toNat).ak[aG c p]? =some l->(l.values.length:Int)<=c.lane/\ji l.taken/\ji l.dropped:=λl a=>by have:=(g.proc _ z).dP _ l a;exact ⟨this.1,this.2.1,this.2.2.1⟩
 have D:gm c (s.proc to.toNat) (aG c p)=false->Good c fl (db c (s.ba to.toNat (fq (cf (s.proc to.toNat) (aG c p) (wA v)))) p 0) No No T:=by
  intro k;have C:∀l,(s.proc to.toNat).ak[aG c p]? =some l->(l.values.length:Int)<c.lane:=λl a=>by unfold gm at k;rw [a] at k;have:=of_decide_eq_false k;omega
  refine lane (wA v) true (λl a=> ?_) (λl a=>⟨rfl,λK=> ?_⟩) (λh=>by cases h)
  ·have B:=C l a;have t:=w l a;refine ⟨?_,t.2⟩;show ((l.values++ [v]).length:Int)<=_;rw [List.length_append,List.length_singleton];omega
  ·have:=((g.dP _ z _ l a).2.1 K).2.2;have:=C l a;omega
 have J:Good c fl (db c (s.ba to.toNat (cf (s.proc to.toNat) (aG c p) lS)) p 0) No No T:=
  lane lS false (λl a=>⟨(w l a).1,(w l a).2.1,zc (w l a).2.2⟩) (λl a=>⟨rfl,λ_=>rfl⟩) λ_ l a=>a
 by_cases u:aG c p=aG c to.toNat
 ·rw [if_pos u];by_cases j:lH (s.proc to.toNat)=false
  ·rw [if_pos j];exact g.AL hp q ⟨n,x⟩ 2
  rw [if_neg j];by_cases o:gm c (s.proc to.toNat) (aG c p)=true
  ·rw [if_pos o];refine g.wait (v:=v) m hp z q x L (by rw [hb,F]) G u (by cases e:lH (s.proc to.toNat)<;>simp [e] at j ⊢) λl a=> ?_;have N:=(w l a).1;unfold gm at o;rw [a] at o;have:=of_decide_eq_true o;omega
  ·rw [if_neg o];exact D (by cases e:gm c (s.proc to.toNat) (aG c p)<;>simp [e] at o ⊢)
 rw [if_neg u];by_cases j:lH (s.proc to.toNat)=false\/gm c (s.proc to.toNat) (aG c p)=true
 ·rw [if_pos j];exact J
 ·rw [if_neg j];exact D (by cases e:gm c (s.proc to.toNat) (aG c p)<;>simp [e] at j ⊢)
end
theorem adH {ai:Int} {a:List aX} (f:0<=ai/\ai<a.length) (h:qm ai a=none):∀l∈a,l.values=[]:=by
 intro l d;obtain ⟨j,c,g⟩:=List.getElem_of_mem d;unfold qm at h;rw [List.find?_eq_none] at h;have e:j∈(List.range a.length).map λk=>(ai.toNat+k)%a.length:=by
  refine List.mem_map.2 ⟨(j+a.length-ai.toNat)%a.length,List.mem_range.2 (Nat.mod_lt _ (by omega)),?_⟩;by_cases i:ai.toNat<=j
  ·have b:j+a.length-ai.toNat=(j-ai.toNat)+a.length:=by omega
   rw [b,Nat.add_mod_right,Nat.mod_eq_of_lt (show j-ai.toNat<a.length by omega),Nat.mod_eq_of_lt (by omega)];omega
  ·rw [Nat.mod_eq_of_lt (show j+a.length-ai.toNat<a.length by omega)];have b:ai.toNat+(j+a.length-ai.toNat)=j+a.length:=by omega
   rw [b,Nat.add_mod_right,Nat.mod_eq_of_lt c]
 grind
theorem acR {ai:Int} {a:List aX} {i:Nat} (h:qm ai a=some i):∃l,a[i]? =some l/\l.values≠ []:=by unfold qm at h;grind
section
variable {c:aL} {fl:Nat->Nat->Bool} {s:MS} {T:Int} {p:Nat} {t:Int} {x:aj} {z:Prop}
theorem dk.Sc (pm:dk c fl t p z x):dk c fl t p z {x with bB:=false} where
 st:=pm.st
 pc:=pm.pc
 nC:=pm.nC
 cur:=pm.cur
 iQ:=pm.iQ
 jg:=pm.jg
 qd:=pm.qd
 dead:=λh=>⟨(pm.dead h).1,rfl⟩
 dP:=pm.dP
 recv:=λh=>⟨(pm.recv h).1,(pm.recv h).2.1,rfl⟩
 snd:=pm.snd
 se:=pm.se
 ku:=pm.ku
 aP:=pm.aP
theorem dk.ai (pm:dk c fl t p z x) {n:Int} (h:0<=n/\n<x.ak.length):dk c fl t p z {x with ai:=n} where
 st:=pm.st
 pc:=pm.pc
 nC:=pm.nC
 cur:=h
 iQ:=pm.iQ
 jg:=pm.jg
 qd:=pm.qd
 dead:=pm.dead
 dP:=pm.dP
 recv:=pm.recv
 snd:=pm.snd
 se:=pm.se
 ku:=pm.ku
 aP:=pm.aP
theorem dk.Ip (pm:dk c fl t p z x) (g:x.state=0) {n:df} (e:eo c p x=some n) (f:n.op=25) (b:∀l∈x.ak,l.values=[]) (d:x.bB=false):dk c fl t p z {x with state:=1} where
 st:=by simp
 pc:=pm.pc
 nC:=pm.nC
 cur:=pm.cur
 iQ:=pm.iQ
 jg:=pm.jg
 qd:=pm.qd.imp id λh=>⟨λa=>by grind,λa=>by grind⟩
 dead:=λh=>by grind
 dP:=pm.dP
 recv:=λ_=>⟨⟨n,e,f⟩,b,d⟩
 snd:=λh=>by grind
 se:=λh=>by grind
 ku:=λh=>by grind
 aP:=pm.aP
theorem Good.core {X:Nat->Prop} (g:Good c fl s X No T) {y:aj} (o:Out s X No p) (pm:dk c fl s.tick p (No p) y) (d:y.ak=(s.proc p).ak) (e:y.state=0) {k:Core} (a:0<=k.pc/\k.pc<=(jq c p).length) (b:k.aP.length=8):Good c fl (s.ba p (y.put k)) (λq=>X q/\q≠p) No T:=by refine g.run o (pm.put e a b) ⟨by show y.state≠2;omega,by show y.state≠3;omega⟩ d λ_=> ?_;rw [dH];exact ⟨by show y.state≠5;omega,by show y.state≠6;omega⟩
theorem Good.take (m:cP c) (g:Good c fl s No No T) {t:Bool} {n:df} (hp:p<nQ c) (h0:(s.proc p).state=0) (E:eo c p (s.proc p)=some n) (ho:t=false->n.op=25):Good c fl (lr c s p t) No No T:=by
 have pm:=g.proc p hp;have H:∀ {X:Nat->Prop},Out s X No p:=Ai ⟨by omega,by omega⟩;have b6:=tZ E;have u:∀ {v f:Int},(0<=(gw (jq c p) (s.proc p).core v f).pc/\(gw (jq c p) (s.proc p).core v f).pc<=(jq c p).length)/\(gw (jq c p) (s.proc p).core v f).aP.length=8:=λ{v f}=>by obtain ⟨b,d⟩:=XS (l:=jq c p) (k:=(s.proc p).core) (v:=v) (w:=f) ⟨n,E⟩;have b:(gw (jq c p) (s.proc p).core v f).pc=(s.proc p).pc+1:=b;exact ⟨by omega,d.trans pm.aP⟩
 unfold lr;dsimp only;cases K:qm (s.proc p).ai (s.proc p).ak with
 | none=>
  dsimp only;have a9:=adH pm.cur K;by_cases B:(s.proc p).bB=true
  ·rw [if_pos B];have e:({(s.proc p).put (gw (jq c p) (s.proc p).core 0 (-2)) with bB:=false}:aj)=({s.proc p with bB:=false}:aj).put (gw (jq c p) (s.proc p).core 0 (-2)):=rfl;rw [e];exact Am (g.core H pm.Sc rfl h0 u.1 u.2)
  ·rw [if_neg B];cases t with
   | true=>rw [if_pos rfl];exact Am (g.core H pm rfl h0 u.1 u.2)
   | false=>rw [if_neg (by decide)];refine Am (g.run H (pm.Ip h0 E (ho rfl) a9 (by simpa using B)) ⟨by show (1:Int)≠2;omega,by show (1:Int)≠3;omega⟩ rfl λ_=> ?_);rw [dH];simp
 | some i=>
  dsimp only;obtain ⟨l,o,b0⟩:=acR K;have U:(s.proc p).ak.getD i ⟨[],[],0,0⟩=l:=by grind
  rw [U];obtain ⟨P,b2,Q⟩:=g.dP p hp i l o;have M:=pm.dP i l o;have b7:1<=l.values.length:=by grind
  have B:∀A,(s.proc p).ak[i]? =some A->((dK A).values.length:Int)<=c.lane/\ji (dK A).taken/\ji (dK A).dropped/\(rX (dK A)->i<nP c->fl i (aG c p)=true):=λA L=>by
   rw [o] at L;cases L;refine ⟨?_,?_,?_,λ_ hi=>M.2.2.2 (.inl b0) hi⟩
   ·unfold dK;grind
   ·unfold dK;cases l.waiters<;>exact zc M.2.1
   ·unfold dK;grind
  have N:dk c fl s.tick p (No p) (cf (s.proc p) i dK):=pm.lane B λh=>by omega
  let I:Nat->Prop:=λq=>∃w r,l.waiters=w::r/\w.proc=(q:Int);have W:Good c fl (s.ba p (cf (s.proc p) i dK)) I No T:=by
   refine g.ak N (.inl rfl) rfl rfl (List.length_modify ..) (λj l1 l2 b d=> ?_) hp (λ_ h=>h.elim) λq hq=>.inr ⟨λh=>h,?_⟩
   ·have d:((s.proc p).ak.modify i dK)[j]? =some l2:=d;obtain ⟨l0,J,V⟩:=Bn d;rw [b] at J;cases J;obtain ⟨c1,R,S⟩:=g.dP p hp j l1 b;rcases V with ⟨rfl,rfl⟩ | ⟨e5,rfl⟩
    ·rw [o] at b;cases b;unfold dK;cases a:l.waiters with
     | nil=>exact ⟨List.Sublist.refl _,λh=>absurd rfl h,λw G=>by cases G⟩
     | cons w r=>
      refine ⟨List.sublist_cons_self ..,λ_=> ?_,λO G=> ?_⟩
      ·have h3:=(R (by rw [a];simp)).2.2;show ((l.values.tail++ [w.value]).length:Int)=_;rw [List.length_append,List.length_tail,List.length_singleton];omega
      ·rcases List.mem_cons.1 G with rfl | h4
       ·refine .inr ⟨O,r,a,?_⟩;have:=(S O (by rw [a];exact List.mem_cons_self ..)).1;omega
       ·exact .inl h4
    grind
   ·obtain ⟨w,r,a,he⟩:=hq;refine ⟨i,l,dK l,w,o,zd o,by rw [a];exact List.mem_cons_self ..,?_,he⟩;have nd:=P;rw [a,List.map_cons,List.nodup_cons] at nd;unfold dK;grind
  have b4:Out (s.ba p (cf (s.proc p) i dK)) I No p:=⟨λh=>h,.inr (by rw [gD];exact ⟨by show (s.proc p).state≠2;omega,by show (s.proc p).state≠3;omega⟩)⟩;have b5:i<(s.proc p).ak.length:=(List.getElem?_eq_some_iff.1 o).1;have a8:0<=((i+1:Nat):Int)%((s.proc p).ak.length:Int)/\((i+1:Nat):Int)%((s.proc p).ak.length:Int)<((cf (s.proc p) i dK).ak.length:Int):=by have e:(cf (s.proc p) i dK).ak.length=(s.proc p).ak.length:=List.length_modify ..;rw [e];exact ⟨Int.emod_nonneg _ (by omega),Int.emod_lt_of_pos _ (by omega)⟩
  have D:=W.core (y:={cf (s.proc p) i dK with ai:=((i+1:Nat):Int)%((s.proc p).ak.length:Int)}) b4 (N.ai a8) (by rw [gD]) h0 (u (v:=l.values.headD 0) (f:=(i:Int))).1 u.2;rw [C0] at D;cases a:l.waiters with
  | nil=>refine D.congr λq=>⟨λh=> ?_,λh=>h.elim⟩;grind
  | cons w r=>
   dsimp only;have Z:=Q w (by rw [a];exact List.mem_cons_self ..);obtain ⟨w1,w2,w3,w4,C⟩:=Z;rcases C with C | ⟨C,n2,w6,w7,_⟩
   ·exact C.elim
   have F:w.proc.toNat≠p:=λe=>by rw [e] at C;omega
   have d:w.proc=((w.proc.toNat:Nat):Int):=by omega
   have Y:=D.told (p:=w.proc.toNat) w2 ⟨λh=>h,.inl ⟨⟨w,r,a,d⟩,F⟩⟩ (by rw [jN F];omega) ⟨n2,by rw [jN F];exact w6⟩ 0;refine Y.congr λq=>⟨λh=> ?_,λh=>h.elim⟩;grind
end
section
variable {c:aL} {fl:Nat->Nat->Bool} {s:MS} {T:Int} {p:Nat} {t:Int} {x:aj} {z:Prop} {X Z:Nat->Prop}
theorem Good.ag {d:Nat->Prop} (g:Good c fl s X Z T) {i:Nat} {y:cJ} (pm:xP c T i y)
  (H:∀(k:Nat) o,y.ax[k]? =some o->o= -1\/(0<=o/\o.toNat<nQ c/\aG c o.toNat=i/\(lH (s.proc o.toNat)=true\/Z o.toNat)))
  (I:∀(k:Nat) a,y.au[k]? =some a->∃q,(s.part i).au[k]? =some q/\a.Sublist q/\(a≠ []->∃o,y.ax[k]? =some o/\o≠ -1/\o∉a)/\∀z∈a,¬d z.toNat)
  (G:∀(k:Nat) q,(s.part i).au[k]? =some q->∃a,y.au[k]? =some a/\∀z∈q,z∈a\/d z.toNat\/Z z.toNat)
  (b:∀q,Z q->(s.proc q).state≠3)
  (B:∀q,X q->d q) (M:∀q,d q->X q\/(¬Z q/\(s.proc q).state=3/\aG c q=i)):Good c fl (s.dT i y) d Z T where
 tick:=g.tick
 part j hj:=by
  by_cases e:j=i
  ·subst e;rw [vX];exact pm
  ·rw [xn e];exact g.part j hj
 proc:=g.proc
 own j hj k o h:=by
  by_cases e:j=i
  ·subst e;rw [vX] at h;exact H k o h
  ·rw [xn e] at h;exact g.own j hj k o h
 kW j hj k q h:=by
  by_cases e:j=i
  ·subst e;rw [vX] at h ⊢;obtain ⟨L,E,u,v,F⟩:=I k q h;obtain ⟨f,m,n⟩:=g.kW j hj k L E;refine ⟨f.sublist u,λz b=> ?_,v⟩;obtain ⟨a1,a2,a3,a4,a5⟩:=m z (u.subset b);exact ⟨a1,a2,a3,F z b,a5⟩
  ·rw [xn e] at h ⊢;obtain ⟨f,m,n⟩:=g.kW j hj k q h;refine ⟨f,λz b=> ?_,n⟩;obtain ⟨a1,a2,a3,a4,a5⟩:=m z b;refine ⟨a1,a2,a3,λh=> ?_,a5⟩;grind
 dP r hr j l h:=by obtain ⟨f,m,n⟩:=g.dP r hr j l h;refine ⟨f,m,λw J=> ?_⟩;obtain ⟨a1,a2,a3,a4,a5⟩:=n w J;refine ⟨a1,a2,a3,λh=> ?_,a5⟩;grind
 uO q hq hn v:=by
  obtain ⟨k,l,A,e2⟩:=g.uO q hq (λh=>hn (B q h)) v;by_cases e:aG c q=i
  ·rw [e] at A ⊢;rw [vX];obtain ⟨K,C,D⟩:=G k l A;refine ⟨k,K,C,?_⟩;rcases D _ e2 with h | h | h
   ·exact h
   ·grind
   ·exact absurd v (b q (by simpa using h))
  ·rw [xn e];grind
 uN q hq hn u:=g.uN q hq (λh=>hn (B q h)) u
theorem Good.queue (g:Good c fl s No No T) {k:Nat} {n:df} {o:Int} {q:List Int} (hp:p<nQ c) (hi:aG c p<nP c) (V:(s.proc p).state=0) (N:eo c p (s.proc p)=some n) (O:n.op=29) (Y:n.gR=(k:Int)) (P:(s.part (aG c p)).ax[k]? =some o) (a9:o≠ -1) (b0:o≠(p:Int))
  (Q:(s.part (aG c p)).au[k]? =some q):Good c fl ((s.dT (aG c p) {s.part (aG c p) with au:=(s.part (aG c p)).au.modify k (· ++ [(p:Int)])}).ba p {s.proc p with state:=3}) No No T:=by
 have I:Out s No No p:=Ai ⟨by omega,by omega⟩;have B:∀r,r≠p->((s.dT (aG c p) {s.part (aG c p) with au:=(s.part (aG c p)).au.modify k (· ++ [(p:Int)])}).ba p {s.proc p with state:=3}).proc r=s.proc r:=λr e=>jN e;have H:((s.dT (aG c p) {s.part (aG c p) with au:=(s.part (aG c p)).au.modify k (· ++ [(p:Int)])}).ba p {s.proc p with state:=3}).proc p={s.proc p with state:=3}:=gD;have A:∀j,((s.dT (aG c p) {s.part (aG c p) with au:=(s.part (aG c p)).au.modify k (· ++ [(p:Int)])}).ba p {s.proc p with state:=3}).part j=(s.dT (aG c p) {s.part (aG c p) with au:=(s.part (aG c p)).au.modify k (· ++ [(p:Int)])}).part j:=λj=>rfl;have b7:∀r,lH (s.proc r)=true->lH (((s.dT (aG c p) {s.part (aG c p) with au:=(s.part (aG c p)).au.modify k (· ++ [(p:Int)])}).ba p {s.proc p with state:=3}).proc r)=true:=λr h=>by
  by_cases e:r=p
  ·subst e;rw [H];rfl
  grind
 generalize b5:(s.dT (aG c p) {s.part (aG c p) with au:=(s.part (aG c p)).au.modify k (· ++ [(p:Int)])}).ba p {s.proc p with state:=3}=J at*;have R:J.tick=s.tick:=by rw [<-b5];rfl
 have a8:∀r,(J.proc r).ak=(s.proc r).ak:=λr=>by grind
 have b6:∀ {i k z},rS c s No No i k z->rS c J No No i k z:=λ{i k z} h=>h.bO (λh=>h) (B _ (h.out I));refine ⟨by rw [R];exact g.tick,λj v=> ?_,λr d=> ?_,λj v f S h=> ?_,λj v f l h=> ?_,λr d j l h=> ?_,λr d _ G=> ?_,λr d _ F=> ?_⟩
 ·rw [A];by_cases e:j=aG c p
  ·subst e;rw [vX];have pm:=g.part _ v;exact ⟨pm.cur,pm.lR,pm.log,pm.lost,pm.km,pm.full,pm.iZ,by show ((List.modify _ _ _).length:Int)=_;rw [List.length_modify];exact pm.jQ⟩
  ·rw [xn e];exact g.part j v
 ·rw [R];by_cases e:r=p
  ·subst e;rw [H];exact (g.proc r d).wait V (.inr rfl) N ⟨λh=>by omega,λ_=>O⟩
  ·rw [B r e];exact g.proc r d
 ·rw [A] at h;have h:(s.part j).ax[f]? =some S:=by
   by_cases e:j=aG c p
   ·subst e;rw [vX] at h;exact h
   ·rw [xn e] at h;exact h
  rcases g.own j v f S h with h | ⟨h1,F,G,h4⟩
  ·exact .inl h
  grind
 ·rw [A] at h ⊢;by_cases e:j=aG c p
  ·subst e;rw [vX] at h ⊢;obtain ⟨b,m,u⟩:=Bn h;obtain ⟨C,D,y⟩:=g.kW _ v f b m;rcases u with ⟨u,rfl⟩ | ⟨u,rfl⟩
   ·subst u;rw [Q] at m;cases m;have b4:(p:Int)∉q:=λhm=>((D _ hm).out I) (by omega);refine ⟨?_,λz hz=> ?_,λ_=>⟨o,P,a9,?_⟩⟩
    ·rw [List.nodup_append];exact ⟨C,by simp,λa W b hb=>by rw [List.mem_singleton.1 hb];exact λe=>b4 (e▸W)⟩
    ·rcases List.mem_append.1 hz with hz | hz
     ·exact b6 (D z hz)
     ·rw [List.mem_singleton.1 hz];refine ⟨by omega,hp,rfl,λh=>h,.inr ?_⟩;rw [Int.toNat_natCast,H];exact ⟨rfl,n,N,O,Y⟩
    ·intro hm;rcases List.mem_append.1 hm with hm | hm
     ·obtain ⟨o',K,_,U⟩:=y (List.ne_nil_of_mem hm);rw [P] at K;cases K;exact U hm
     ·exact b0 (List.mem_singleton.1 hm)
   grind
  ·rw [xn e] at h ⊢;obtain ⟨C,D,y⟩:=g.kW j v f l h;grind
 ·rw [a8] at h;obtain ⟨C,D,y⟩:=g.dP r d j l h;refine ⟨C,λE=> ?_,λw E=>(y w E).bO (λh=>h) (B _ ((y w E).out I))⟩;grind
 ·by_cases e:r=p
  ·subst e;rw [A,vX];exact ⟨k,_,zd Q,List.mem_append_right _ (List.mem_singleton.2 rfl)⟩
  ·rw [B r e] at G;obtain ⟨f,l,m,u⟩:=g.uO r d (λh=>h) G;rw [A];by_cases L:aG c r=aG c p
   ·rw [L] at m ⊢;rw [vX];by_cases M:k=f
    ·subst M;exact ⟨k,_,zd m,List.mem_append_left _ u⟩
    ·exact ⟨f,l,(Gc M).trans m,u⟩
   ·rw [xn L];grind
 ·by_cases e:r=p
  ·grind
  ·rw [B r e] at F;obtain ⟨r',b8,l,hl,E⟩:=g.uN r d (λh=>h) F;grind
theorem Good.lock (m:cP c) (g:Good c fl s No No T) {k:Int} {n:df} (hp:p<nQ c) (l:(s.proc p).state=0) (f:eo c p (s.proc p)=some n) (r:n.op=29) (B:n.gR=k):Good c fl (lj c s p k) No No T:=by
 have b:=m.fP (p:=p);have D:=Ba (m.ins f).1 (.inl r);rw [B] at D;have pm:=g.part _ b;have L:=pm.iZ;have M:=pm.jQ;have v:=List.getElem?_eq_getElem (show k.toNat<(s.part (aG c p)).au.length by omega);have u:=List.getElem?_eq_getElem (show k.toNat<(s.part (aG c p)).ax.length by omega);generalize (s.part (aG c p)).au[k.toNat]=q at v;generalize (s.part (aG c p)).ax[k.toNat]=o at u;have J:=tZ f;have C:=g.proc p hp;unfold lj;dsimp only;have A:(s.part (aG c p)).ax.getD k.toNat 0=o:=by grind
 rw [A];by_cases h:o= -1\/o=(p:Int)
 ·rw [if_pos h];unfold lj.goK;have N:Out s No No p:=Ai ⟨by omega,by omega⟩;have i:Good c fl (s.dT (aG c p) {s.part (aG c p) with ax:=(s.part (aG c p)).ax.set k.toNat p}) No No T:=by
   refine g.ag ⟨pm.cur,pm.lR,pm.log,pm.lost,pm.km,pm.full,by show ((List.set _ _ _).length:Int)=_;rw [List.length_set];exact pm.iZ,pm.jQ⟩ (λj w a=> ?_) (λj d a=>⟨d,a,List.Sublist.refl _,λK=> ?_,λ_ _ h=>h⟩) (λj d a=>⟨d,a,λz E=>.inl E⟩) (λ_ h=>h.elim) (λ_ h=>h) λ_ h=>h.elim
   ·have a:((s.part (aG c p)).ax.set k.toNat p)[j]? =some w:=a;by_cases e:k.toNat=j
    ·subst e;rw [List.getElem?_set_self (by omega)] at a;cases a;refine .inr ⟨by omega,hp,rfl,.inl ?_⟩;rw [Int.toNat_natCast,dH];omega
    ·rw [List.getElem?_set_ne e] at a;exact g.own _ b j w a
   ·obtain ⟨G,H,I⟩:=g.kW _ b j d a;grind
  have F:Out (s.dT (aG c p) {s.part (aG c p) with ax:=(s.part (aG c p)).ax.set k.toNat p}) No No p:=Ai ⟨by show (s.proc p).state≠2;omega,by show (s.proc p).state≠3;omega⟩;exact Am (i.core (y:=s.proc p) (k:=gu (s.proc p).core) F (i.proc p hp) rfl l ⟨by show 0<=(s.proc p).pc+1;omega,by show (s.proc p).pc+1<=_;omega⟩ C.aP)
 ·rw [if_neg h];exact g.queue hp b l f r (by omega) u (λe=>h (.inl e)) (λe=>h (.inr e)) v
theorem Good.given (g:Good c fl s X Z T) {a:Int} (d:0<=a) (f:a.toNat<nQ c) (h:X a.toNat) (i:¬Z a.toNat) (b:(s.proc a.toNat).state≠4) (e:∃n,eo c a.toNat (s.proc a.toNat)=some n):Good c fl (jZ s a) (λq=>X q/\q≠a.toNat) Z T:=by unfold jZ;rw [if_pos d];exact g.Sd f ⟨i,.inl h⟩ b e
theorem Good.unlock (m:cP c) (g:Good c fl s No No T) {k:Int} (hp:p<nQ c) (N:0<=k/\k<c.ag):Good c fl (Ao c s p k) No No T:=by
 have f:=m.fP (p:=p);have pm:=g.part _ f;have O:=pm.iZ;have P:=pm.jQ;have i:=List.getElem?_eq_getElem (show k.toNat<(s.part (aG c p)).au.length by omega);have C:=List.getElem?_eq_getElem (show k.toNat<(s.part (aG c p)).ax.length by omega);generalize (s.part (aG c p)).au[k.toNat]=q at i;generalize (s.part (aG c p)).ax[k.toNat]=o at C;unfold Ao;dsimp only;have G:(s.part (aG c p)).ax.getD k.toNat (-1)=o:=by simp [List.getD,C]
 have H:(s.part (aG c p)).au.getD k.toNat []=q:=by simp [List.getD,i]
 rw [G,H];by_cases h:o=(p:Int)
 ·rw [if_pos h];obtain ⟨E,y,M⟩:=g.kW _ f _ _ i;cases q with
  | nil=>
   dsimp only;refine g.ag ⟨pm.cur,pm.lR,pm.log,pm.lost,pm.km,pm.full,by show ((List.set _ _ _).length:Int)=_;rw [List.length_set];exact pm.iZ,pm.jQ⟩ (λj l b=> ?_) (λj d b=>⟨d,b,List.Sublist.refl _,λu=> ?_,λ_ _ h=>h⟩) (λj d b=>⟨d,b,λz hz=>.inl hz⟩) (λ_ h=>h.elim) (λ_ h=>h) λ_ h=>h.elim
   ·have b:((s.part (aG c p)).ax.set k.toNat (-1))[j]? =some l:=b;by_cases e:k.toNat=j
    ·subst e;rw [List.getElem?_set_self (by omega)] at b;cases b;exact .inl rfl
    ·rw [List.getElem?_set_ne e] at b;exact g.own _ f j l b
   ·have b:(s.part (aG c p)).au[j]? =some d:=b;obtain ⟨F,A,w⟩:=g.kW _ f j d b;have e:¬k.toNat=j:=λe=>by subst e;rw [i] at b;cases b;exact u rfl
    show ∃o,((s.part (aG c p)).ax.set k.toNat (-1))[j]? =some o/\o≠ -1/\o∉d;rw [List.getElem?_set_ne e];exact w u
  | cons a r=>
   dsimp only;obtain ⟨a1,a2,a3,a4,a5⟩:=y a (List.mem_cons_self ..);rcases a5 with a5 | ⟨a5,n,a6,a7,L⟩
   ·exact a5.elim
   have B:=List.nodup_cons.1 E;have I:Good c fl (s.dT (aG c p) {s.part (aG c p) with ax:=(s.part (aG c p)).ax.set k.toNat a,au:=(s.part (aG c p)).au.set k.toNat r}) (λq=>q=a.toNat) No T:=by
    refine g.ag ⟨pm.cur,pm.lR,pm.log,pm.lost,pm.km,pm.full,by show ((List.set _ _ _).length:Int)=_;rw [List.length_set];exact pm.iZ,by show ((List.set _ _ _).length:Int)=_;rw [List.length_set];exact pm.jQ⟩ (λj l b=> ?_) (λj d b=> ?_) (λj d b=> ?_) (λ_ h=>h.elim) (λ_ h=>h.elim) λd h=>.inr ⟨λh=>h,by rw [h];exact a5,by rw [h];exact a3⟩
    ·have b:((s.part (aG c p)).ax.set k.toNat a)[j]? =some l:=b;by_cases e:k.toNat=j
     ·subst e;rw [List.getElem?_set_self (by omega)] at b;cases b;refine .inr ⟨a1,a2,a3,.inl ?_⟩;rw [dH];omega
     ·rw [List.getElem?_set_ne e] at b;exact g.own _ f j l b
    ·have b:((s.part (aG c p)).au.set k.toNat r)[j]? =some d:=b;show ∃q,(s.part (aG c p)).au[j]? =some q/\d.Sublist q/\(d≠ []->∃o,((s.part (aG c p)).ax.set k.toNat a)[j]? =some o/\o≠ -1/\o∉d)/\_;by_cases e:k.toNat=j
     ·subst e;rw [List.getElem?_set_self (by omega)] at b;cases b;refine ⟨a::r,i,List.sublist_cons_self ..,λ_=>⟨a,List.getElem?_set_self (by omega),by omega,B.1⟩,λz hz h=> ?_⟩;have Q:=(y z (List.mem_cons_of_mem _ hz)).1;have:z=a:=by omega
      exact B.1 (this▸hz)
     ·rw [List.getElem?_set_ne e] at b;obtain ⟨F,A,w⟩:=g.kW _ f j d b;refine ⟨d,b,List.Sublist.refl _,λu=>by rw [List.getElem?_set_ne e];exact w u,λz hz h=> ?_⟩;obtain ⟨S,U,V,W,v⟩:=A z hz;rcases v with v | ⟨v,R,D,Y,z8⟩
      ·exact v
      ·rw [h,a6] at D;cases D;omega
    ·have b:(s.part (aG c p)).au[j]? =some d:=b;show ∃K,((s.part (aG c p)).au.set k.toNat r)[j]? =some K/\_;by_cases e:k.toNat=j
     ·subst e;rw [i] at b;cases b;refine ⟨r,List.getElem?_set_self (by omega),λz hz=> ?_⟩;rcases List.mem_cons.1 hz with rfl | hz
      ·exact .inr (.inl rfl)
      ·exact .inl hz
     ·exact ⟨d,by rw [List.getElem?_set_ne e];exact b,λz hz=>.inl hz⟩
   have J:=I.given a1 a2 rfl (λh=>h) (by show (s.proc a.toNat).state≠4;omega) ⟨n,a6⟩;exact J.congr λq=>⟨λh=>(h.2 h.1).elim,λh=>h.elim⟩
 grind
end
theorem zwj {c:Type} {f:c->Bool}:∀ {l:List c} {a:c},a∈l->f a=false->a∈jo f l
 | b::l,a,h,d=>by
  unfold jo;split
  ·grind
  ·rcases List.mem_cons.1 h with rfl | h
   ·simp
   ·exact List.mem_cons_of_mem _ (zwj h d)
theorem cG {a:Type} {f:a->Bool}:∀ {l:List a},(jo f l).Sublist l
 | []=>List.Sublist.refl _
 | b::l=>by
  unfold jo;split
  ·simp
  ·exact cG.cons_cons _
theorem RB {d c:Type} [DecidableEq c] {g:d->c} {b:c}:∀ {l:List d},(l.map g).Nodup->∀a∈jo (λx=>decide (g x=b)) l,g a≠b
 | [],_,a,h=>by cases h
 | x::l,nd,a,h=>by
  rw [List.map_cons,List.nodup_cons] at nd;unfold jo at h;split at h
  ·grind
  ·rename_i e;rcases List.mem_cons.1 h with rfl | h
   ·grind
   ·exact RB nd.2 a h
section
variable {c:aL} {fl:Nat->Nat->Bool} {s:MS} {T:Int} {p:Nat} {t:Int} {x:aj} {z:Prop} {X Z:Nat->Prop}
theorem Good.dying (g:Good c fl s No No T) {st:Int} (F:st=5\/st=6) (hp:p<nQ c):Good c fl (s.ba p {s.proc p with state:=st,bB:=false}) No (λq=>q=p) T:=by
 have E:∀r,eo c r ((s.ba p {s.proc p with state:=st,bB:=false}).proc r)=eo c r (s.proc r):=λr=>KP rfl;have b:∀r,r≠p->(s.ba p {s.proc p with state:=st,bB:=false}).proc r=s.proc r:=λr e=>jN e;have B:(s.ba p {s.proc p with state:=st,bB:=false}).proc p={s.proc p with state:=st,bB:=false}:=gD;have C:∀r,((s.ba p {s.proc p with state:=st,bB:=false}).proc r).ak=(s.proc r).ak:=λr=>by grind
 refine ⟨g.tick,g.part,λr a=> ?_,λi m k o h=> ?_,λi m k q h=> ?_,λr a i l h=> ?_,λr a _ h=> ?_,λr a _ h=> ?_⟩
 ·by_cases e:r=p
  ·subst e;rw [B];have pm:=g.proc r a;exact ⟨by grind,pm.pc,pm.nC,pm.cur,pm.iQ,pm.jg,.inl rfl,λ_=>⟨.inl rfl,rfl⟩,pm.dP,λh=>by grind,λh=>by grind,λh=>by grind,λh=>by grind,pm.aP⟩
  ·rw [b r e];have pm:=g.proc r a;exact ⟨pm.st,pm.pc,pm.nC,pm.cur,pm.iQ,pm.jg,.inr (pm.qd.resolve_left (λh=>h)),λh=>⟨.inr ((pm.dead h).1.resolve_left (λh=>h)),(pm.dead h).2⟩,pm.dP,pm.recv,pm.snd,pm.se,pm.ku,pm.aP⟩
 ·rcases g.own i m k o h with h | ⟨u,v,y,A⟩
  ·exact .inl h
  ·refine .inr ⟨u,v,y,?_⟩;by_cases e:o.toNat=p
   ·exact .inr e
   ·rw [b _ e];exact .inl (A.resolve_right (λh=>h))
 ·obtain ⟨d,f,j⟩:=g.kW i m k q h;refine ⟨d,λz D=> ?_,j⟩;obtain ⟨a1,a2,a3,a4,a5⟩:=f z D;refine ⟨a1,a2,a3,a4,?_⟩;grind
 ·rw [C] at h;obtain ⟨d,f,j⟩:=g.dP r a i l h;refine ⟨d,λn=> ?_,λw n=> ?_⟩
  ·obtain ⟨a1,a2,a3⟩:=f n;refine ⟨a1,?_,a3⟩;by_cases e:r=p
   ·exact .inr e
   ·rw [b _ e];exact .inl (a2.resolve_right (λh=>h))
  ·obtain ⟨a1,a2,a3,a4,a5⟩:=j w n;refine ⟨a1,a2,a3,a4,?_⟩;grind
 ·by_cases e:r=p
  ·grind
  ·rw [b _ e] at h;exact g.uO r a (λh=>h) h
 ·by_cases e:r=p
  ·grind
  ·rw [b _ e] at h;obtain ⟨G,u,l,v,y⟩:=g.uN r a (λh=>h) h;grind
theorem NG {p:Int} {x:aj} {i:Nat} {l:aX} (h:(sP p x).ak[i]? =some l):∃a,x.ak[i]? =some a/\l.values=a.values/\l.taken=a.taken/\l.dropped=a.dropped/\l.waiters=jo (λw=>decide (w.proc=p)) a.waiters:=by have h:(x.ak.map _)[i]? =some l:=h;grind
theorem dk.leave (pm:dk c fl t p z x) {q:Int}:dk c fl t p z (sP q x) where
 st:=pm.st
 pc:=pm.pc
 nC:=by show (List.map _ _).length=_;rw [List.length_map];exact pm.nC
 cur:=by show 0<=x.ai/\x.ai<((List.map _ _).length:Int);rw [List.length_map];exact pm.cur
 iQ:=pm.iQ
 jg:=pm.jg
 qd:=pm.qd
 dead:=pm.dead
 dP:=λi l h=>by obtain ⟨a,e,k,m,n,_⟩:=NG h;have:=pm.dP i a e;unfold rX at this ⊢;grind
 recv:=λh=>by obtain ⟨b,d,f⟩:=pm.recv h;refine ⟨b,λl j=> ?_,f⟩;obtain ⟨a,g,rfl⟩:=List.mem_map.1 j;exact d a g
 snd:=pm.snd
 se:=pm.se
 ku:=pm.ku
 aP:=pm.aP
theorem Good.leave (g:Good c fl s X (λq=>q=p) T) (b4:(s.proc p).state≠2/\(s.proc p).state≠3) {L:List Nat} (O:∀q,q∈L↔q<nQ c/\aG c q=aG c p):Good c fl (nU p s L) X (λq=>q=p) T/\∀r,r<nQ c->∀l∈((nU p s L).proc r).ak,∀w∈l.waiters,w.proc≠(p:Int):=by
 have J:∀r,(nU p s L).proc r=sP p (s.proc r)\/(nU p s L).proc r=s.proc r:=λr=>by
  by_cases h:r∈L
  ·exact .inl (if_pos h)
  ·exact .inr (if_neg h)
 have E:∀r,((nU p s L).proc r).state=(s.proc r).state/\((nU p s L).proc r).pc=(s.proc r).pc/\((nU p s L).proc r).aP=(s.proc r).aP:=λr=>by rcases J r with h | h<;>rw [h]<;>exact ⟨rfl,rfl,rfl⟩
 have a9:∀r,eo c r ((nU p s L).proc r)=eo c r (s.proc r):=λr=>by unfold eo;grind
 have b0:∀r,lH ((nU p s L).proc r)=lH (s.proc r):=λr=>by unfold lH;rw [(E r).1]
 have I:∀(r i:Nat) (l:aX),((nU p s L).proc r).ak[i]? =some l->∃b:aX,(s.proc r).ak[i]? =some b/\l.values=b.values/\l.waiters.Sublist b.waiters/\(r∈L->∀w∈jo (λw=>decide (w.proc=(p:Int))) b.waiters,w∈l.waiters)/\(r∈L->l.waiters=jo (λw=>decide (w.proc=(p:Int))) b.waiters)/\(r∉L->l=b):=λr i l h=>by
  by_cases a:r∈L
  ·have e:(nU p s L).proc r=sP p (s.proc r):=if_pos a;rw [e] at h;obtain ⟨b,n,C,_,_,u⟩:=NG h;exact ⟨b,n,C,by rw [u];exact cG,λ_ w d=>by rw [u];exact d,λ_=>u,λU=>absurd a U⟩
  ·have e:(nU p s L).proc r=s.proc r:=if_neg a;grind
 refine ⟨⟨g.tick,g.part,λr a=> ?_,λi B k o h=> ?_,λi B k q h=> ?_,λr a i l h=> ?_,λr a F h=> ?_,λr a F h=> ?_⟩,λr a l S w d H=> ?_⟩
 ·rcases J r with h | h
  ·rw [h];exact (g.proc r a).leave
  ·rw [h];exact g.proc r a
 ·rcases g.own i B k o h with h | ⟨v,N,G,D⟩
  ·exact .inl h
  grind
 ·obtain ⟨j,y,m⟩:=g.kW i B k q h;refine ⟨j,λz V=> ?_,m⟩;obtain ⟨a1,a2,a3,a4,a5⟩:=y z V;exact ⟨a1,a2,a3,a4,by grind⟩
 ·obtain ⟨b,n,C,A,_⟩:=I r i l h;obtain ⟨j,y,m⟩:=g.dP r a i b n;refine ⟨j.sublist (A.map _),λd=> ?_,λw d=> ?_⟩
  ·grind
  ·obtain ⟨a1,a2,a3,a4,a5⟩:=m w (A.subset d);refine ⟨a1,a2,a3,a4,?_⟩;grind
 ·rw [(E r).1] at h;exact g.uO r a F h
 ·rw [(E r).1] at h;obtain ⟨f,v,l,N,w,G,D⟩:=g.uN r a F h;have b5:r≠p:=λe=>by grind
  by_cases K:f∈L
  ·have e:(nU p s L).proc f=sP p (s.proc f):=if_pos K;refine ⟨f,v,{l with waiters:=jo (λw=>decide (w.proc=(p:Int))) l.waiters},?_,w,?_,D⟩
   ·rw [e];show (List.map _ _)[_]? =_;grind
   ·exact zwj G (decide_eq_false (by rw [D];omega))
  ·have e:(nU p s L).proc f=s.proc f:=if_neg K;grind
 ·obtain ⟨i,B,a8⟩:=List.getElem_of_mem S;have Q:((nU p s L).proc r).ak[i]? =some l:=by grind
  obtain ⟨b,n,C,A,W,u,Y⟩:=I r i l Q;obtain ⟨j,y,m⟩:=g.dP r a i b n;have M:=A.subset d;have P:=m w M;have hb:=y (List.ne_nil_of_mem M);have R:r∈L:=(O r).2 ⟨a,by
   have v:=P.2.2.1;rw [H,Int.toNat_natCast] at v;rw [v,hb.1]⟩
  rw [u R] at d;exact RB j w d H
end
theorem FC {p:Int}:∀ {os:List Int} {qs:List (List Int)},os.length=qs.length->
  (kB p os qs).1.length=os.length/\(kB p os qs).2.1.length=qs.length/\
  (∀(k:Nat) o q,os[k]? =some o->qs[k]? =some q->(o≠p/\(kB p os qs).1[k]? =some o/\(kB p os qs).2.1[k]? =some q)\/(o=p/\q=[]/\(kB p os qs).1[k]? =some (-1)/\(kB p os qs).2.1[k]? =some [])\/
   (o=p/\∃a r,q=a::r/\(kB p os qs).1[k]? =some a/\(kB p os qs).2.1[k]? =some r/\a∈(kB p os qs).2.2))/\
  (∀a∈(kB p os qs).2.2,a= -1\/∃(k:Nat) (r:List Int),os[k]? =some p/\qs[k]? =some (a::r))/\
  ((∀(j k:Nat) (z:Int) (a b:List Int),qs[j]? =some a->qs[k]? =some b->z∈a->z∈b->j=k)->(kB p os qs).2.2.Pairwise λa b=>a≠b\/a= -1)
 | [],[],_=>by simp [kB]
 | [],_::_,h=>by simp at h
 | _::_,[],h=>by simp at h
 | o::os,q::qs,h=>by
  obtain ⟨t,u,v,B,w⟩:=FC (p:=p) (os:=os) (qs:=qs) (by simpa using h);have y:(∀(j k:Nat) (z:Int) (a b:List Int),(q::qs)[j]? =some a->(q::qs)[k]? =some b->z∈a->z∈b->j=k)->∀(j k:Nat) (z:Int) (a b:List Int),qs[j]? =some a->qs[k]? =some b->z∈a->z∈b->j=k:=λg j k z a b ha hb E F=>by have:=g (j+1) (k+1) z a b (by simpa using ha) (by simpa using hb) E F;omega
  have C:∀a∈(kB p os qs).2.2,a= -1\/∃(k:Nat) (r:List Int),(o::os)[k]? =some p/\(q::qs)[k]? =some (a::r):=λa ha=>(B a ha).imp id λ⟨k,r,A,s⟩=>⟨k+1,r,by simpa using A,by simpa using s⟩;unfold kB;dsimp only;by_cases e:o=p
  ·rw [if_pos e];cases q with
   | nil=>
    dsimp only;refine ⟨by simp [t],by simp [u],λk m n i l=> ?_,λa ha=> ?_,λg=> ?_⟩
    ·cases k with
     | zero=>grind
     | succ k=>
      rcases v k m n (by simpa using i) (by simpa using l) with ⟨a,b,c⟩ | ⟨a,b,c,d⟩ | ⟨a,x,r,b,c,d,f⟩
      ·exact .inl ⟨a,by simpa using b,by simpa using c⟩
      ·exact .inr (.inl ⟨a,b,by simpa using c,by simpa using d⟩)
      ·exact .inr (.inr ⟨a,x,r,b,by simpa using c,by simpa using d,List.mem_cons_of_mem _ f⟩)
    ·grind
    ·exact List.pairwise_cons.2 ⟨λb _=>.inr rfl,w (y g)⟩
   | cons x r=>
    dsimp only;refine ⟨by simp [t],by simp [u],λk m n i l=> ?_,λa ha=> ?_,λg=> ?_⟩
    ·cases k with
     | zero=>grind
     | succ k=>
      rcases v k m n (by simpa using i) (by simpa using l) with ⟨a,b,c⟩ | ⟨a,b,c,d⟩ | ⟨a,x,r,b,c,d,f⟩
      ·exact .inl ⟨a,by simpa using b,by simpa using c⟩
      ·exact .inr (.inl ⟨a,b,by simpa using c,by simpa using d⟩)
      ·exact .inr (.inr ⟨a,x,r,b,by simpa using c,by simpa using d,List.mem_cons_of_mem _ f⟩)
    ·rcases List.mem_cons.1 ha with rfl | ha
     ·exact .inr ⟨0,r,by simp [e],by simp⟩
     ·exact C a ha
    ·refine List.pairwise_cons.2 ⟨λb hb=> ?_,w (y g)⟩;rcases B b hb with rfl | ⟨k,G,A,s⟩
     ·omega
     ·refine .inl λD=> ?_;subst D;have:=g 0 (k+1) x (x::r) (x::G) (by simp) (by simpa using s) (List.mem_cons_self ..) (List.mem_cons_self ..);omega
  ·rw [if_neg e];refine ⟨by simp [t],by simp [u],λk m n i l=> ?_,λa ha=>C a ha,λg=>w (y g)⟩;cases k with
   | zero=>grind
   | succ k=>
    rcases v k m n (by simpa using i) (by simpa using l) with ⟨a,b,c⟩ | ⟨a,b,c,d⟩ | ⟨a,x,r,b,c,d,f⟩
    ·exact .inl ⟨a,by simpa using b,by simpa using c⟩
    ·exact .inr (.inl ⟨a,b,by simpa using c,by simpa using d⟩)
    grind
section
variable {c:aL} {fl:Nat->Nat->Bool} {s:MS} {T:Int} {p:Nat} {X Z:Nat->Prop}
theorem Good.nI :∀ {l:List Int} {s:MS},Good c fl s (λq=>(q:Int)∈l) Z T->(l.Pairwise λa b=>a≠b\/a= -1)->(∀a∈l,a= -1\/(0<=a/\a.toNat<nQ c/\¬Z a.toNat/\(s.proc a.toNat).state≠4/\∃n,eo c a.toNat (s.proc a.toNat)=some n))->Good c fl (l.foldl jZ s) No Z T
 | [],s,g,_,_=>g.congr λq=>⟨λh=>(by cases h),λh=>h.elim⟩
 | a::l,s,g,hp,d=>by
  obtain ⟨m,f⟩:=List.pairwise_cons.1 hp;rw [List.foldl_cons];rcases d a (List.mem_cons_self ..) with w | ⟨a1,a2,a3,a4,a5⟩
  ·have e:jZ s a=s:=by unfold jZ;rw [qt]
   rw [e];refine Good.nI (g.congr λq=>⟨λh=> ?_,λh=>List.mem_cons_of_mem _ h⟩) f λb hb=>d b (List.mem_cons_of_mem _ hb);grind
  ·have j:a∉l:=λh=>(m a h).elim (λh=>h rfl) (λh=>by omega);have i:=g.given a1 a2 (by grind) a3 a4 a5;refine Good.nI (i.congr λq=>⟨λh=> ?_,λh=>⟨List.mem_cons_of_mem _ h,λe=> ?_⟩⟩) f λb hb=> ?_
   ·grind
   ·grind
   ·rcases d b (List.mem_cons_of_mem _ hb) with h | ⟨o,r,t,u,v⟩
    ·exact .inl h
    ·have k:b.toNat≠a.toNat:=λe=>j (by rw [show a=b by omega];exact hb);have e:(jZ s a).proc b.toNat=s.proc b.toNat:=by unfold jZ;rw [if_pos a1];exact jN k
     grind
theorem Good.tU {v:Int}:∀ {l:List cd} {s:MS},Good c fl s (λq=>(q:Int)∈l.map (·.proc)) No T->(l.map (·.proc)).Nodup->(∀w∈l,0<=w.proc/\w.proc.toNat<nQ c/\(s.proc w.proc.toNat).state≠4/\∃n,eo c w.proc.toNat (s.proc w.proc.toNat)=some n)->Good c fl (l.foldl (λs w=>db c s w.proc.toNat v) s) No No T
 | [],s,g,_,_=>g.congr λq=>⟨λh=>(by cases h),λh=>h.elim⟩
 | a::l,s,g,hp,d=>by
  rw [List.map_cons,List.nodup_cons] at hp;rw [List.foldl_cons];obtain ⟨a1,a2,a4,a5⟩:=d a (List.mem_cons_self ..);have r:((a.proc.toNat:Nat):Int)=a.proc:=by omega
  have f:=g.told (p:=a.proc.toNat) a2 ⟨λh=>h,.inl (by grind)⟩ a4 a5 v;refine Good.tU (f.congr λq=>⟨λh=> ?_,λh=>⟨List.mem_cons_of_mem _ h,λe=> ?_⟩⟩) hp.2 λb hb=> ?_
  ·grind
  ·grind
  ·obtain ⟨j,k,m,o⟩:=d b (List.mem_cons_of_mem _ hb);have i:b.proc.toNat≠a.proc.toNat:=λe=>hp.1 (List.mem_map.2 ⟨b,hb,by omega⟩);have e:(db c s a.proc.toNat v).proc b.proc.toNat=s.proc b.proc.toNat:=jN i;grind
theorem Good.yc (g:Good c fl s No (λq=>q=p) T) (I:aG c p<nP c) (c0:(s.proc p).state≠3):Good c fl (((wU p (s.part (aG c p))).2).foldl jZ (s.dT (aG c p) (wU p (s.part (aG c p))).1)) No (λq=>q=p) T/\
  (∀i,i<nP c->∀(k:Nat),((s.dT (aG c p) (wU p (s.part (aG c p))).1).part i).ax[k]?≠some (p:Int))/\∀i,i<nP c->∀(k:Nat) q,((s.dT (aG c p) (wU p (s.part (aG c p))).1).part i).au[k]? =some q->(p:Int)∉q:=by
 have pm:=g.part _ I;have b5:(s.part (aG c p)).ax.length=((s.part (aG c p)).au.map (jo λz=>decide (z=(p:Int)))).length:=by have:=pm.iZ;have:=pm.jQ;grind
 obtain ⟨L1,L2,H,HG,U⟩:=FC (p:=(p:Int)) b5;have B:∀ {z:Int} {q:List Int} {k:Nat},(s.part (aG c p)).au[k]? =some q->z∈q->z≠(p:Int)->0<=z/\z.toNat<nQ c/\aG c z.toNat=aG c p/\z.toNat≠p/\(s.proc z.toNat).state=3/\∃n,eo c z.toNat (s.proc z.toNat)=some n/\n.op=29/\n.gR=(k:Int):=λ{z q k} K v J=>by obtain ⟨a1,a2,a3,a4,a5⟩:=(g.kW _ I k q K).2.1 z v;grind
 have b3:∀ {k:Nat} {q:List Int},((s.part (aG c p)).au.map (jo λz=>decide (z=(p:Int))))[k]? =some q->∃l,(s.part (aG c p)).au[k]? =some l/\q=jo (λz=>decide (z=(p:Int))) l:=λ{k q} h=>by grind
 have D:∀ {k:Nat} {l:List Int} {z:Int},(s.part (aG c p)).au[k]? =some l->z∈jo (λz=>decide (z=(p:Int))) l->z≠(p:Int):=λ{k l z} K v=>by have nd:=(g.kW _ I k l K).1;exact RB (g:=λz=>z) (by simpa using nd) z v
 have b2:∀(j k:Nat) (z:Int) (a b:List Int),((s.part (aG c p)).au.map (jo λz=>decide (z=(p:Int))))[j]? =some a->((s.part (aG c p)).au.map (jo λz=>decide (z=(p:Int))))[k]? =some b->z∈a->z∈b->j=k:=by intro j k z a b C hb b7 c3;obtain ⟨a0,a9,rfl⟩:=b3 C;obtain ⟨b0,b8,rfl⟩:=b3 hb;have J:=D a9 b7;obtain ⟨_,_,_,_,_,n1,m,_,O⟩:=B a9 (cG.subset b7) J;obtain ⟨_,_,_,_,_,n2,f1,_,f3⟩:=B b8 (cG.subset c3) J;grind
 have W:∀a∈(kB (p:Int) (s.part (aG c p)).ax ((s.part (aG c p)).au.map (jo λz=>decide (z=(p:Int))))).2.2,a= -1\/∃(k:Nat) (l r:List Int),(s.part (aG c p)).ax[k]? =some (p:Int)/\(s.part (aG c p)).au[k]? =some l/\jo (λz=>decide (z=(p:Int))) l=a::r:=λa C=>by grind
 have U:=U b2;have b4:∀ {k:Nat} {l:List Int},(s.part (aG c p)).au[k]? =some l->∃o,(s.part (aG c p)).ax[k]? =some o:=λ{k l} h=>by have h1:=(List.getElem?_eq_some_iff.1 h).1;rw [List.length_map] at b5;exact ⟨_,List.getElem?_eq_getElem (by omega)⟩
 have G:∀ {k:Nat} {l:List Int},(s.part (aG c p)).au[k]? =some l->((s.part (aG c p)).au.map (jo λz=>decide (z=(p:Int))))[k]? =some (jo (λz=>decide (z=(p:Int))) l):=λ{k l} h=>by grind
 have eY:wU p (s.part (aG c p))=({s.part (aG c p) with ax:=(kB (p:Int) (s.part (aG c p)).ax ((s.part (aG c p)).au.map (jo λz=>decide (z=(p:Int))))).1,au:=(kB (p:Int) (s.part (aG c p)).ax ((s.part (aG c p)).au.map (jo λz=>decide (z=(p:Int))))).2.1},(kB (p:Int) (s.part (aG c p)).ax ((s.part (aG c p)).au.map (jo λz=>decide (z=(p:Int))))).2.2):=rfl;rw [eY];dsimp only;generalize kB (p:Int) (s.part (aG c p)).ax ((s.part (aG c p)).au.map (jo λz=>decide (z=(p:Int))))=R at*;have b1:∀(k:Nat) u,R.2.1[k]? =some u->∃l o,(s.part (aG c p)).au[k]? =some l/\(s.part (aG c p)).ax[k]? =some o/\((o≠(p:Int)/\R.1[k]? =some o/\u=jo (λz=>decide (z=(p:Int))) l)\/(o=(p:Int)/\jo (λz=>decide (z=(p:Int))) l=[]/\R.1[k]? =some (-1)/\u=[])\/(o=(p:Int)/\∃a,jo (λz=>decide (z=(p:Int))) l=a::u/\R.1[k]? =some a/\a∈R.2.2)):=λk u h=>by
  have h1:=(List.getElem?_eq_some_iff.1 h).1;rw [L2,List.length_map] at h1;have m:=List.getElem?_eq_getElem h1;obtain ⟨o,t⟩:=b4 m;refine ⟨_,o,m,t,?_⟩;rcases H k o _ t (G m) with ⟨a,b,d⟩ | ⟨a,b,d,f⟩ | ⟨a,x,r,b,d,f,y⟩
  ·rw [h] at d;exact .inl ⟨a,b,Option.some.inj d⟩
  ·rw [h] at f;exact .inr (.inl ⟨a,b,d,Option.some.inj f⟩)
  grind
 have b6:∀(k:Nat) u,R.2.1[k]? =some u->∃l,(s.part (aG c p)).au[k]? =some l/\u.Sublist (jo (λz=>decide (z=(p:Int))) l):=λk u h=>by
  obtain ⟨l,o,m,t,F⟩:=b1 k u h;refine ⟨l,m,?_⟩;rcases F with ⟨_,_,e⟩ | ⟨_,_,_,e⟩ | ⟨_,a,e,_⟩
  ·rw [e];exact List.Sublist.refl _
  ·rw [e];exact List.nil_sublist _
  grind
 have b9:∀(k:Nat) A,R.1[k]? =some A->A= -1\/(A≠(p:Int)/\((s.part (aG c p)).ax[k]? =some A\/∃l,(s.part (aG c p)).au[k]? =some l/\A∈l)):=λk A h=>by
  have h1:=(List.getElem?_eq_some_iff.1 h).1;rw [L1] at h1;have c2:k<(s.part (aG c p)).au.length:=by grind
  have m:=List.getElem?_eq_getElem c2;have t:=List.getElem?_eq_getElem h1;rcases H k _ _ t (G m) with ⟨a,b,d⟩ | ⟨a,b,d,f⟩ | ⟨a,x,r,b,d,f,y⟩
  ·grind
  ·grind
  ·rw [h] at d;cases d;have hx:A∈jo (λz=>decide (z=(p:Int))) (s.part (aG c p)).au[k]:=by rw [b];exact List.mem_cons_self ..
   exact .inr ⟨D m hx,.inr ⟨_,m,cG.subset hx⟩⟩
 have g3:Good c fl (s.dT (aG c p) {s.part (aG c p) with ax:=R.1,au:=R.2.1}) (λq=>(q:Int)∈R.2.2) (λq=>q=p) T:=by
  refine g.ag ⟨pm.cur,pm.lR,pm.log,pm.lost,pm.km,pm.full,by show (R.1.length:Int)=_;rw [L1];exact pm.iZ,by show (R.2.1.length:Int)=_;rw [L2,List.length_map];exact pm.jQ⟩ (λk A h=> ?_) (λk u h=> ?_) (λk l h=> ?_) (λq K=>by rw [K];exact c0) (λ_ h=>h.elim) λq h=>.inr ?_
  ·rcases b9 k A h with h1 | ⟨h1,V | ⟨l,V,F⟩⟩
   ·exact .inl h1
   ·exact g.own _ I k A V
   ·obtain ⟨a1,a2,a3,a4,a5,_⟩:=B V F h1;refine .inr ⟨a1,a2,a3,.inl ?_⟩;rw [dH];omega
  ·have h:R.2.1[k]? =some u:=h;obtain ⟨l,o,m,t,F⟩:=b1 k u h;obtain ⟨q1,f1,f2⟩:=b6 k u h;rw [m] at f1;cases f1;obtain ⟨d1,d2,d3⟩:=g.kW _ I k l m;refine ⟨l,m,f2.trans cG,λJ=> ?_,λz v P=> ?_⟩
   ·show ∃o,R.1[k]? =some o/\o≠ -1/\o∉u;rcases F with ⟨L,E,Q⟩ | ⟨L,E,Q,x4⟩ | ⟨L,a,E,Q,x4⟩
    ·have c1:l≠ []:=λh=>J (List.eq_nil_of_sublist_nil (h▸f2.trans cG));obtain ⟨o1,M,N,S⟩:=d3 c1;rw [t] at M;cases M;exact ⟨o,E,N,λw=>S ((f2.trans cG).subset w)⟩
    ·grind
    ·have C:a∈jo (λz=>decide (z=(p:Int))) l:=by rw [E];exact List.mem_cons_self ..
     have:=(B m (cG.subset C) (D m C)).1;refine ⟨a,Q,by omega,λw=> ?_⟩;have nd:=d1.sublist (cG (f:=λz=>decide (z=(p:Int))));grind
   ·have a8:=f2.subset v;have c4:=D m a8;have c6:=B m (cG.subset a8) c4;have ez:((z.toNat:Nat):Int)=z:=by omega
    have P:((z.toNat:Nat):Int)∈R.2.2:=P;rw [ez] at P;rcases W z P with h5 | ⟨k2,q2,r2,M,N,S⟩
    ·omega
    ·have hk:=b2 k k2 z _ _ (G m) (G N) a8 (by grind);subst hk;rw [m] at N;cases N;rw [t] at M;cases M;rcases F with ⟨L,_⟩ | ⟨_,E,_⟩ | ⟨L,a,E,Q,x4⟩
     ·exact L rfl
     ·grind
     ·rw [E] at S;cases S;have nd:=d1.sublist (cG (f:=λz=>decide (z=(p:Int))));grind
  ·obtain ⟨o,t⟩:=b4 h;have key:∀z∈l,z=(p:Int)\/z∈jo (λz=>decide (z=(p:Int))) l:=λz v=>by
    by_cases e:z=(p:Int)
    ·exact .inl e
    ·exact .inr (zwj v (decide_eq_false e))
   show ∃u,R.2.1[k]? =some u/\_;rcases H k o _ t (G h) with ⟨a,b,d⟩ | ⟨a,b,d,f⟩ | ⟨a,x,r,b,d,f,y⟩
   ·refine ⟨_,d,λz v=> ?_⟩;rcases key z v with h1 | h1
    ·exact .inr (.inr (by omega))
    ·exact .inl h1
   ·refine ⟨_,f,λz v=> ?_⟩;grind
   ·refine ⟨_,f,λz v=> ?_⟩;rcases key z v with h1 | h1
    ·exact .inr (.inr (by omega))
    ·have c5:=(B h (cG.subset h1) (D h h1)).1;rw [b] at h1;rcases List.mem_cons.1 h1 with rfl | h1
     ·refine .inr (.inl ?_);show ((z.toNat:Nat):Int)∈R.2.2;rw [show ((z.toNat:Nat):Int)=z by omega];exact y
     ·exact .inl h1
  ·have h:(q:Int)∈R.2.2:=h;rcases W _ h with h1 | ⟨k,l,r,m,t,O⟩
   ·omega
   ·have w:(q:Int)∈jo (λz=>decide (z=(p:Int))) l:=by rw [O];exact List.mem_cons_self ..
    have ho:=B t (cG.subset w) (D t w);rw [Int.toNat_natCast] at ho;omega
 refine ⟨Good.nI g3 U λa C=> ?_,λi Y k h=> ?_,λi Y k q h w=> ?_⟩
 ·rcases W a C with h | ⟨k,l,r,m,t,O⟩
  ·exact .inl h
  ·have w:a∈jo (λz=>decide (z=(p:Int))) l:=by rw [O];exact List.mem_cons_self ..
   obtain ⟨a1,a2,a3,a4,a5,n,a6,_⟩:=B t (cG.subset w) (D t w);exact .inr ⟨a1,a2,a4,by show (s.proc a.toNat).state≠4;omega,n,a6⟩
 ·by_cases e:i=aG c p
  ·subst e;rw [vX] at h;grind
  ·rw [xn e] at h;rcases g.own i Y k _ h with h1 | ⟨_,_,h1,_⟩
   ·omega
   grind
 ·by_cases e:i=aG c p
  ·subst e;rw [vX] at h;obtain ⟨l,m,t⟩:=b6 k q h;grind
  ·rw [xn e] at h;have:=((g.kW i Y k q h).2.1 _ w).2.2.1;grind
end
section
variable {c:aL} {fl:Nat->Nat->Bool} {s:MS} {T:Int} {p:Nat} {X Z:Nat->Prop}
theorem NH :∀ {l:List Int} {s:MS},(∀a∈l,a≠(p:Int))->((l.foldl jZ s).proc p)=s.proc p
 | [],_,_=>rfl
 | a::l,s,h=>by
  rw [List.foldl_cons,NH λb hb=>h b (List.mem_cons_of_mem _ hb)];unfold jZ;split
  ·have:=h a (List.mem_cons_self ..);exact jN (by omega)
  ·rfl
theorem NI {q:Nat}:∀ {l:List Int} {s:MS},((l.foldl jZ s).proc q).ak=(s.proc q).ak/\(l.foldl jZ s).part=s.part
 | [],_=>⟨rfl,rfl⟩
 | a::l,s=>by
  have h:=NI (q:=q) (l:=l) (s:=jZ s a);have b:((jZ s a).proc q).ak=(s.proc q).ak/\(jZ s a).part=s.part:=by
   unfold jZ;split
   ·unfold ry;refine ⟨?_,rfl⟩;by_cases e:q=a.toNat
    ·subst e;rw [gD];rfl
    ·rw [jN e]
   ·exact ⟨rfl,rfl⟩
  grind
theorem Good.empty (g:Good c fl s No (λq=>q=p) T) (hp:p<nQ c) (b0:(s.proc p).state=5\/(s.proc p).state=6) (a8:∀i,i<nP c->∀(k:Nat),(s.part i).ax[k]?≠some (p:Int)) (R:∀i,i<nP c->∀(k:Nat) q,(s.part i).au[k]? =some q->(p:Int)∉q)
  (S:∀r,r<nQ c->∀l∈(s.proc r).ak,∀w∈l.waiters,w.proc≠(p:Int)):Good c fl (j8 (iX s p) p) (λq=>(q:Int)∈(((s.proc p).ak.flatMap (·.waiters)).map (·.proc))) No T:=by
 have y:(j8 (iX s p) p).proc p={s.proc p with timer:=0,bP:=0,ak:=(s.proc p).ak.map vE}:=by unfold j8 iX;rw [gD,gD]
 have m:∀r,r≠p->(j8 (iX s p) p).proc r=s.proc r:=λr e=>by unfold j8 iX;rw [jN e,jN e]
 have t:(j8 (iX s p) p).part=s.part:=rfl;have I:(j8 (iX s p) p).tick=s.tick:=rfl;have H:∀q:Nat,(q:Int)∈(((s.proc p).ak.flatMap (·.waiters)).map (·.proc))->q≠p/\(s.proc q).state=2/\∃n,eo c q (s.proc q)=some n/\n.op=24/\fQ (s.proc q).aP n.b=(p:Int):=by
  intro q h;obtain ⟨w,f,e⟩:=List.mem_map.1 h;obtain ⟨l,Q,U⟩:=List.mem_flatMap.1 f;obtain ⟨i,a,O⟩:=List.getElem_of_mem Q;have P:(s.proc p).ak[i]? =some l:=by rw [List.getElem?_eq_getElem a,O]
  obtain ⟨a1,a2,a3,a4,a5⟩:=(g.dP p hp i l P).2.2 w U;grind
 generalize j8 (iX s p) p=s' at*;refine ⟨by rw [I];exact g.tick,λi a=>by rw [t];exact g.part i a,λr d=> ?_,λi a k o h=> ?_,λi a k q h=> ?_,λr d i l h=> ?_,λr d j h=> ?_,λr d j h=> ?_⟩
 ·rw [I];have pm:=g.proc r d;have ht:=g.tick;by_cases e:r=p
  ·subst e;rw [y];refine ⟨pm.st,pm.pc,by show (List.map _ _).length=_;rw [List.length_map];exact pm.nC,by show 0<=(s.proc r).ai/\(s.proc r).ai<((List.map _ _).length:Int);rw [List.length_map];exact pm.cur,by show (0:Int)<=0/\(0:Int)<=_;omega,by show (0:Int)<=0/\(0:Int)<=_;omega,.inr ⟨λh=>absurd h (Int.lt_irrefl 0),λh=> ?_⟩,λh=>⟨.inr rfl,(pm.dead h).2⟩,λi l h=> ?_,λh=> ?_,λh=> ?_,λh=> ?_,λh=> ?_,pm.aP⟩
   ·have h:(s.proc r).state=4:=h;omega
   ·have h:((s.proc r).ak.map vE)[i]? =some l:=h;rw [List.getElem?_map] at h;cases e:(s.proc r).ak[i]? with
    | none=>rw [e] at h;cases h
    | some K=>rw [e] at h;cases h;exact pm.dP i K e
   ·have h:(s.proc r).state=1:=h;omega
   ·have h:(s.proc r).state=2:=h;omega
   ·have h:(s.proc r).state=3:=h;omega
   grind
  ·rw [m r e];exact ⟨pm.st,pm.pc,pm.nC,pm.cur,pm.iQ,pm.jg,.inr (pm.qd.resolve_left e),λh=>⟨.inr ((pm.dead h).1.resolve_left e),(pm.dead h).2⟩,pm.dP,pm.recv,pm.snd,pm.se,pm.ku,pm.aP⟩
 ·rw [t] at h;rcases g.own i a k o h with x | ⟨x,E,F,G⟩
  ·exact .inl x
  grind
 ·rw [t] at h ⊢;obtain ⟨u,C,v⟩:=g.kW i a k q h;refine ⟨u,λz J=> ?_,v⟩;obtain ⟨a1,a2,a3,a4,a5⟩:=C z J;have V:z.toNat≠p:=λe=>R i a k q h (by rw [show (p:Int)=z by clear a5;omega];exact J);have a5:=a5.resolve_left V;refine ⟨a1,a2,a3,λj=> ?_,.inr ?_⟩
  ·have:=(H _ j).2.1;have h9:=a5.1;clear a5;omega
  grind
 ·by_cases e:r=p
  ·subst e;rw [y] at h;have h:((s.proc r).ak.map vE)[i]? =some l:=h;rw [List.getElem?_map] at h;cases e:(s.proc r).ak[i]? with
   | none=>grind
   | some K=>rw [e] at h;cases h;exact ⟨List.Pairwise.nil,λh=>absurd rfl h,λw f=>by cases f⟩
  ·rw [m r e] at h;obtain ⟨u,C,v⟩:=g.dP r d i l h;refine ⟨u,λf=> ?_,λw f=> ?_⟩
   ·grind
   ·obtain ⟨a1,a2,a3,a4,a5⟩:=v w f;have B:=S r d l (List.mem_of_getElem? h) w f;have B:w.proc.toNat≠p:=λe=>B (by clear a5;omega);obtain ⟨Y,n,L,c3,M,c5⟩:=a5.resolve_left B;refine ⟨a1,a2,a3,λj=> ?_,.inr ?_⟩
    ·obtain ⟨_,_,n',D,_,N⟩:=H _ j;rw [L] at D;cases D;rw [M] at N;clear a5;omega
    grind
 ·have A:r≠p:=λe=>by grind
  rw [m r A] at h;rw [t];exact g.uO r d (λh=>h) h
 ·have A:r≠p:=λe=>by subst e;rw [y] at h;have h:(s.proc r).state=2:=h;omega
  rw [m r A] at h;obtain ⟨W,x,l,E,w,F,G⟩:=g.uN r d (λh=>h) h;have a9:W≠p:=λe=>by subst e;refine j ?_;show (r:Int)∈_;exact List.mem_map.2 ⟨w,List.mem_flatMap.2 ⟨l,List.mem_of_getElem? E,F⟩,G⟩
  grind
theorem Good.ends (m:cP c) (g:Good c fl s No No T) {st:Int} (Y:st=5\/st=6) (hp:p<nQ c):Good c fl (oK c s p st) No No T:=by
 have b:=m.fP (p:=p);rw [Cc];have J:=g.dying (st:=st) Y hp;have B:((gO s p st).proc p).state=st:=by unfold gO;rw [gD]
 obtain ⟨u,C⟩:=Good.leave (p:=p) (s:=gO s p st) (L:=fo c (aG c p)) J ⟨by rw [B];omega,by rw [B];omega⟩ λq=>gy;have u:Good c fl (fh c s p st) No (λq=>q=p) T:=u;have C:∀r,r<nQ c->∀l∈((fh c s p st).proc r).ak,∀w∈l.waiters,w.proc≠(p:Int):=C;have o:((fh c s p st).proc p).state=st:=by show (if p∈fo c (aG c p) then sP p ((gO s p st).proc p) else (gO s p st).proc p).state=st;split<;>exact B
 obtain ⟨x,V,W⟩:=u.yc b (by rw [o];omega);have x:Good c fl (j7 c (fh c s p st) p) No (λq=>q=p) T:=x;have F:=λq=>NI (q:=q) (l:=(wU p ((fh c s p st).part (aG c p))).2) (s:=sc c (fh c s p st) p);have G:(j7 c (fh c s p st) p).part=(sc c (fh c s p st) p).part:=(F 0).2;have S:∀q,((j7 c (fh c s p st) p).proc q).ak=((fh c s p st).proc q).ak:=λq=>(F q).1;have b0:(j7 c (fh c s p st) p).proc p=(fh c s p st).proc p:=by
  refine NH (s:=sc c (fh c s p st) p) λa O=> ?_;have U:((fh c s p st).part (aG c p)).ax.length=(((fh c s p st).part (aG c p)).au.map (jo λz=>decide (z=(p:Int)))).length:=by have:=(u.part _ b).iZ;have:=(u.part _ b).jQ;grind
  rcases (FC (p:=(p:Int)) U).2.2.2.1 a O with h | ⟨k,r,E,v⟩
  ·omega
  ·intro e;rw [List.getElem?_map] at v;cases D:((fh c s p st).part (aG c p)).au[k]? with
   | none=>grind
   | some q0=>rw [D] at v;have v:=Option.some.inj v;have nd:=(u.kW _ b k q0 D).1;exact RB (g:=λz=>z) (by simpa using nd) a (by grind) e
 have a8:((j7 c (fh c s p st) p).proc p).state=5\/((j7 c (fh c s p st) p).proc p).state=6:=by grind
 generalize j7 c (fh c s p st) p=f at*;have K:=x.empty hp a8 (λi b k=>by rw [G];exact V i b k) (λi b k q h=>by rw [G] at h;exact W i b k q h) λr hr l d=>by grind
 have I:tr c (iX f p) p=((f.proc p).ak.flatMap (·.waiters)).foldl (λs w=>db c s w.proc.toNat 2) (j8 (iX f p) p):=by
  unfold tr;have:((iX f p).proc p).ak=(f.proc p).ak:=by unfold iX;rw [gD]
  rw [this]
 rw [I];refine Good.tU K ?_ λw hw=> ?_
 · -- my waits stands in one lane alone
  have key:∀(t:List aX) (j:Nat),(∀(i:Nat) l,t[i]? =some l->(l.waiters.map (·.proc)).Nodup/\(l.waiters≠ []->i=j))->((t.flatMap (·.waiters)).map (·.proc)).Nodup:=by
   intro t
   induction t with
   | nil=>intro j _;exact List.Pairwise.nil
   | cons a t ih=>
    intro j h;rw [List.flatMap_cons,List.map_append];obtain ⟨E,v⟩:=h 0 a rfl;by_cases e:a.waiters=[]
    ·rw [e];cases j with
     | zero=>
      have:t.flatMap (·.waiters)=[]:=by
       rw [List.flatMap_eq_nil_iff];intro l d;obtain ⟨i,b,y⟩:=List.getElem_of_mem d;by_cases o:l.waiters=[]
       ·exact o
       ·have:=(h (i+1) l (by simp [List.getElem?_eq_getElem b,y])).2 o;omega
      rw [this];exact List.Pairwise.nil
     | succ j=>refine ih j λi l d=> ?_;obtain ⟨M,N⟩:=h (i+1) l (by simpa using d);exact ⟨M,λA=>by have:=N A;omega⟩
    ·have R:=v e;subst R;have:t.flatMap (·.waiters)=[]:=by
      rw [List.flatMap_eq_nil_iff];intro l d;obtain ⟨i,b,y⟩:=List.getElem_of_mem d;by_cases o:l.waiters=[]
      ·exact o
      ·have:=(h (i+1) l (by simp [List.getElem?_eq_getElem b,y])).2 o;omega
     rw [this];simpa using E
  refine key _ (aG c p) λi l d=> ?_;obtain ⟨b1,b2,b3⟩:=x.dP p hp i l d;grind
 ·obtain ⟨l,d,H⟩:=List.mem_flatMap.1 hw;obtain ⟨i,Q,y⟩:=List.getElem_of_mem d;have P:(f.proc p).ak[i]? =some l:=by rw [List.getElem?_eq_getElem Q,y]
  obtain ⟨a1,a2,a3,a4,a5⟩:=(x.dP p hp i l P).2.2 w H;have a9:=C p hp l (by rw [S] at d;exact d) w H;have A:w.proc.toNat≠p:=λe=>a9 (by clear a5;omega);obtain ⟨c1,n,c2,_⟩:=a5.resolve_left A;have e:(j8 (iX f p) p).proc w.proc.toNat=f.proc w.proc.toNat:=by unfold j8 iX;rw [jN A,jN A]
  grind
end
section
variable {c:aL} {fl:Nat->Nat->Bool} {s:MS} {T:Int} {p:Nat} {t:Int} {x:aj} {z:Prop}
theorem Good.out (m:cP c) (g:Good c fl s No No T) {v:Int} (hp:p<nQ c) (j:T=s.tick+1):Good c fl (tH c s p v) No No T:=by
 have i:=m.fP (p:=p);have pm:=g.part _ i;have h0:=g.tick;unfold tH;dsimp only;by_cases h:((s.part (aG c p)).log.length:Int)<c.log
 ·rw [if_pos h];refine g.parts ⟨pm.cur,by grind,⟨?_,λe he=> ?_⟩,pm.lost,pm.km,λd=> ?_,pm.iZ,pm.jQ⟩ rfl rfl
  ·show ((s.part (aG c p)).log++ [_]).Pairwise _;rw [List.pairwise_append];refine ⟨pm.log.1,List.pairwise_singleton _ _,λa f b hb=> ?_⟩;have:=pm.log.2 a f;grind
  ·have he:e∈(s.part (aG c p)).log++ [⟨s.tick,(p:Int),v⟩]:=he;rcases List.mem_append.1 he with he | he
   ·exact pm.log.2 e he
   grind
  ·have d:0<(s.part (aG c p)).lost:=d;have:=pm.full d;omega
 ·rw [if_neg h];exact g.parts ⟨pm.cur,pm.lR,pm.log,zc pm.lost,pm.km,λ_=>by grind,pm.iZ,pm.jQ⟩ rfl rfl
theorem Hj :x.put x.core=x:=rfl
theorem dk.sleep (pm:dk c fl t p z x) (e:x.state=0) {n:df} (a:eo c p x=some n) (b:n.op=28) {w:Int} (d:0<w/\w<=t+1099511627776):dk c fl t p z {x with state:=4,bP:=w} where
 st:=by simp
 pc:=pm.pc
 nC:=pm.nC
 cur:=pm.cur
 iQ:=pm.iQ
 jg:=by grind
 qd:=.inr ⟨λ_=>rfl,λ_=>d.1⟩
 dead:=λh=>by grind
 dP:=pm.dP
 recv:=λh=>by grind
 snd:=λh=>by grind
 se:=λh=>by grind
 ku:=λ_=>⟨n,a,b⟩
 aP:=pm.aP
theorem dk.timer (pm:dk c fl t p z x) (b:x.state=0) {w:Int} (a:0<=w/\w<=t+1099511627776):dk c fl t p z {x with bB:=false,timer:=w} where
 st:=pm.st
 pc:=pm.pc
 nC:=pm.nC
 cur:=pm.cur
 iQ:=a
 jg:=pm.jg
 qd:=pm.qd
 dead:=λh=>by grind
 dP:=pm.dP
 recv:=λh=>by grind
 snd:=pm.snd
 se:=pm.se
 ku:=pm.ku
 aP:=pm.aP
theorem Good.R7 {D:Int->Int->Int->Int} (m:cP c) (g:Good c fl s No No T) (hp:p<nQ c) (f:(s.proc p).state=0) (H:T=s.tick+1):Good c fl (ya c D fl s p) No No T:=by
 have pm:=g.proc p hp;have P:=g.tick;have r:Out s No No p:=Ai ⟨by omega,by omega⟩;have j:s.ba p (s.proc p)=s:=by unfold MS.ba;rw [BV]
 have O:∀ {y:aj},y.state=0\/y.state=4->(lH (s.proc p)=true->lH y=true):=λ{y} Q _=>by rw [dH];omega
 unfold ya;dsimp only;rcases Gb (D:=D) (l:=jq c p) (k:=(s.proc p).core) (tk:=s.tick) (self:=(p:Int)) with ⟨C,E⟩ | ⟨n,u,J,⟨_,e⟩ | ⟨w,st,L,e⟩⟩
 ·rw [C,if_pos rfl,E,Hj,j];exact g.ends m (.inl rfl) hp
 ·rw [e];dsimp only;rw [qt,if_neg (by omega),if_neg (by omega),if_neg (by omega),if_neg (by omega),if_neg (by omega),if_neg (by omega),if_neg (by omega),if_neg (by omega)];have A:=Ph (D:=D) (tk:=s.tick) (self:=(p:Int)) u J pm.aP;exact Am (g.core r pm rfl f A.1 A.2)
 ·rw [e];dsimp only;have i:eo c p (s.proc p)=some n:=u;have N:=tZ i;have q:Good c fl (s.ba p ((s.proc p).put (gu (s.proc p).core))) No No T:=Am (g.core r pm rfl f ⟨by show 0<=(s.proc p).pc+1;omega,by show (s.proc p).pc+1<=_;omega⟩ pm.aP);have F:∀v:Int,0<v->0<pO v 1099511627776/\pO v 1099511627776<=1099511627776:=λv hv=>by unfold pO;split<;>omega
  rcases Pg L with ⟨a,b⟩ | ⟨o,a,b⟩ | ⟨o,a,b⟩ | ⟨o,a,b⟩ | ⟨a,b⟩ | ⟨o,a,b⟩ | ⟨o,a,d,b⟩ | ⟨o,a,d,b⟩ | ⟨a,b⟩
  ·rw [if_pos a,b];simp only [if_true];rw [Hj,j];exact g.ends m (.inl rfl) hp
  ·rw [a,b];dsimp only;rw [qt,if_pos rfl];simp only [if_true];rw [Hj,j];exact g.send m hp f i o rfl rfl
  ·rw [qt,if_neg (by omega),if_pos a,b];simp only [if_true];rw [Hj,j];exact g.take m hp f i λ_=>o
  ·rw [qt,if_neg (by omega),if_neg (by omega),if_pos a,b];simp only [if_true];rw [Hj,j];exact g.take m hp f i λh=>by cases h
  ·rw [qt,if_neg (by omega),if_neg (by omega),if_neg (by omega),if_pos a,b];simp only [Bool.false_eq_true,if_false];rw [gD];have M:Out (s.ba p ((s.proc p).put (gu (s.proc p).core))) No No p:=Ai (by rw [gD];exact ⟨by show (s.proc p).state≠2;omega,by show (s.proc p).state≠3;omega⟩);have B:=q.proc p hp;rw [gD] at B;have I:0<=(if 0<w.value then s.tick+pO w.value 1099511627776 else 0)/\(if 0<w.value then s.tick+pO w.value 1099511627776 else 0)<=s.tick+1099511627776:=by grind
   refine Am (q.run M (B.timer f I) ⟨by show (s.proc p).state≠2;omega,by show (s.proc p).state≠3;omega⟩ (by rw [gD]) λ_=> ?_);rw [dH];exact ⟨by show (s.proc p).state≠5;omega,by show (s.proc p).state≠6;omega⟩
  ·rw [qt,if_neg (by omega),if_neg (by omega),if_neg (by omega),if_neg (by omega),if_pos a,b];simp only [if_true];rw [Hj,j];have G:0<wC w.value 1:=by unfold wC;split<;>omega
   have:=F _ G;refine Am (g.run r (pm.sleep f i o (w:=s.tick+pO (wC w.value 1) 1099511627776) ⟨by omega,by omega⟩) ⟨by show (4:Int)≠2;omega,by show (4:Int)≠3;omega⟩ rfl λ_=> ?_);grind
  ·rw [qt,if_neg (by omega),if_neg (by omega),if_neg (by omega),if_neg (by omega),if_neg (by omega),if_pos a,b];simp only [if_true];rw [Hj,j];exact g.lock m hp f i o d.symm
  ·rw [qt,if_neg (by omega),if_neg (by omega),if_neg (by omega),if_neg (by omega),if_neg (by omega),if_neg (by omega),if_pos a,b];simp only [Bool.false_eq_true,if_false];have K:=Ba (m.ins i).1 (.inr o);exact q.unlock m hp (by rw [d];exact K)
  ·rw [qt,if_neg (by omega),if_neg (by omega),if_neg (by omega),if_neg (by omega),if_neg (by omega),if_neg (by omega),if_neg (by omega),if_pos a,b];simp only [Bool.false_eq_true,if_false];exact q.out m hp H
end
section
variable {c:aL} {fl:Nat->Nat->Bool} {s:MS} {T:Int} {p:Nat} {t:Int} {x:aj} {z:Prop}
theorem Vr {to v:Int}:(lW c fl s p to v).tick=s.tick:=by
 unfold lW
 repeat' split
 all_goals rfl
theorem OF {a:Int}:(jZ s a).tick=s.tick:=by unfold jZ;split<;>rfl
theorem NJ :∀ {l:List Int} {s:MS},(l.foldl jZ s).tick=s.tick
 | [],_=>rfl
 | a::l,s=>by rw [List.foldl_cons,NJ,OF]
theorem OG {v:Int}:∀ {l:List cd} {s:MS},(l.foldl (λs w=>db c s w.proc.toNat v) s).tick=s.tick
 | [],_=>rfl
 | a::l,s=>by rw [List.foldl_cons,OG];rfl
theorem Pk {b:Bool}:(lr c s p b).tick=s.tick:=by
 unfold lr;dsimp only
 repeat' split
 all_goals rfl
theorem Vs {n:Int}:(lj c s p n).tick=s.tick:=by unfold lj;dsimp only;split<;>rfl
theorem adI {n:Int}:(Ao c s p n).tick=s.tick:=by
 unfold Ao;dsimp only;split
 ·split
  ·rfl
  ·exact OF
 ·rfl
theorem KR {st:Int}:(oK c s p st).tick=s.tick:=by rw [Cc];unfold tr;rw [OG];show (j7 c (fh c s p st) p).tick=_;unfold j7;rw [NJ];rfl
theorem GR {D:Int->Int->Int->Int}:(ya c D fl s p).tick=s.tick:=by
 unfold ya;dsimp only;split
 ·exact KR
 split
 ·exact Vr
 split
 ·exact Pk
 split
 ·exact Pk
 split
 ·rfl
 split
 ·rfl
 split
 ·exact Vs
 split
 ·exact adI
 split
 ·rfl
 ·rfl
theorem Good.yL {X Z:Nat->Prop} {T':Int} (g:Good c fl s X Z T) (h:T<=T'):Good c fl s X Z T':=
 ⟨g.tick,λi b=>by
  have pm:=g.part i b;exact ⟨pm.cur,pm.lR,⟨pm.log.1,λe a=>by have:=pm.log.2 e a;omega⟩,pm.lost,pm.km,pm.full,pm.iZ,pm.jQ⟩,g.proc,g.own,g.kW,g.dP,g.uO,g.uN⟩
theorem Good.R8 (g:Good c fl s No No T) (hp:p<nQ c):Good c fl (s.ba p (ni s.tick (s.proc p))) No No T:=by
 have H:=g.tick;have B:s.ba p (s.proc p)=s:=by unfold MS.ba;rw [BV]
 have f:Good c fl (s.ba p (if 0<(s.proc p).bP/\(s.proc p).bP<=s.tick then {s.proc p with bP:=0,state:=0,pc:=(s.proc p).pc+1} else s.proc p)) No No T:=by
  by_cases h:0<(s.proc p).bP/\(s.proc p).bP<=s.tick
  ·rw [if_pos h];have pm:=g.proc p hp;have o:=(pm.qd.resolve_left (λh=>h)).1 h.1;obtain ⟨n,v,_⟩:=pm.ku o;have G:=tZ v;refine Am (g.run (Ai ⟨by omega,by omega⟩) ⟨by show (0:Int)<=0/\(0:Int)<=6;omega,by show 0<=(s.proc p).pc+1/\(s.proc p).pc+1<=_;omega,pm.nC,pm.cur,pm.iQ,by show (0:Int)<=0/\(0:Int)<=_;omega,.inr ⟨λh=>absurd h (Int.lt_irrefl 0),λh=>by have h:(0:Int)=4:=h;omega⟩,λh=>by have h:(0:Int)=5\/(0:Int)=6:=h;omega,pm.dP,λh=>by have h:(0:Int)=1:=h;omega,λh=>by have h:(0:Int)=2:=h;omega,λh=>by have h:(0:Int)=3:=h;omega,λh=>by have h:(0:Int)=4:=h;omega,pm.aP⟩ ⟨by show (0:Int)≠2;omega,by show (0:Int)≠3;omega⟩ rfl λ_=>rfl)
  ·rw [if_neg h,B];exact g
 generalize E:(if 0<(s.proc p).bP/\(s.proc p).bP<=s.tick then ({s.proc p with bP:=0,state:=0,pc:=(s.proc p).pc+1}:aj) else s.proc p)=y at f;have e:ni s.tick (s.proc p)=if 0<y.timer/\y.timer<=s.tick then {y with timer:=0,bB:=true,state:=if y.state=1 then 0 else y.state} else y:=by unfold ni;dsimp only;rw [E]
 rw [e];by_cases h:0<y.timer/\y.timer<=s.tick
 ·rw [if_pos h];have pm:=f.proc p hp;rw [gD] at pm;have C:(if y.state=1 then (0:Int) else y.state)=y.state\/(y.state=1/\(if y.state=1 then (0:Int) else y.state)=0):=by
   by_cases h:y.state=1
   ·right;exact ⟨h,if_pos h⟩
   ·left;exact if_neg h
  have b:∀ {m:Int},m≠0->(if y.state=1 then (0:Int) else y.state)=m->y.state=m/\y.state≠1:=λ{m} u h=>by
   by_cases k:y.state=1
   ·rw [if_pos k] at h;exact absurd h.symm u
   ·rw [if_neg k] at h;exact ⟨h,k⟩
  have hb:=pm.st;have q:=f.ak (p:=p) (x':={y with timer:=0,bB:=true,state:=if y.state=1 then 0 else y.state}) (X':=No)
   ⟨by show 0<=(if y.state=1 then (0:Int) else y.state)/\(if y.state=1 then (0:Int) else y.state)<=6;split<;>omega,pm.pc,pm.nC,pm.cur,by show (0:Int)<=0/\(0:Int)<=_;have:(s.ba p y).tick=s.tick:=rfl;omega,pm.jg,
    pm.qd.imp (λh=>h) λr=>⟨λa=>by
     have:=r.1 a;show (if y.state=1 then (0:Int) else y.state)=4;rw [qt];exact this,λa=>r.2 (b (by decide) a).1⟩,
    λa=>by have a:(if y.state=1 then (0:Int) else y.state)=5\/(if y.state=1 then (0:Int) else y.state)=6:=a;have o:y.state=5\/y.state=6:=a.imp (λh=>(b (by decide) h).1) λh=>(b (by decide) h).1;have:=(pm.dead o).1.resolve_left (λh=>h);omega,
    pm.dP,λa=>absurd (b (by decide) a).1 (b (by decide) a).2,λa=>pm.snd (b (by decide) a).1,λa=>pm.se (b (by decide) a).1,λa=>pm.ku (b (by decide) a).1,pm.aP⟩
   (by rw [gD];exact C) (by rw [gD]) (by rw [gD]) (by rw [gD]) (λi l F j d=>by
    rw [gD] at j;have d:y.ak[i]? =some F:=d;rw [j] at d;cases d;refine ⟨List.Sublist.refl _,λA=> ?_,λw D=>.inl D⟩;exact ((f.dP p hp i l (by rw [gD];exact j)).2.1 A).2.2) hp (λ_ h=>h) (λ_ h=>h.elim)
  rw [C0] at q;exact q
 grind
def pF (s:MS) (l:List Nat):MS:=⟨s.tick,s.part,λq=>if q∈l then ni s.tick (s.proc q) else s.proc q⟩
theorem Good.H2 (g:Good c fl s No No T):∀(l:List Nat),(∀q∈l,q<nQ c)->l.Nodup->Good c fl (pF s l) No No T
 | [],_,_=>by
  have e:pF s []=s:=by unfold pF;simp
  rw [e];exact g
 | q::l,h,b=>by
  rw [List.nodup_cons] at b;have f:=g.H2 l (λr i=>h r (List.mem_cons_of_mem _ i)) b.2;have j:=f.R8 (p:=q) (h q (List.mem_cons_self ..));have d:(pF s l).proc q=s.proc q:=if_neg b.1;have e:(pF s l).ba q (ni (pF s l).tick ((pF s l).proc q))=pF s (q::l):=by
   rw [d];unfold pF MS.ba;congr 1;funext r;unfold de;by_cases e:r=q
   ·subst e;rw [if_pos rfl,if_pos (by simp)]
   ·rw [if_neg e];show (if r∈l then ni s.tick (s.proc r) else s.proc r)=_;by_cases a:r∈l
    ·rw [if_pos a,if_pos (by simp [a])]
    ·rw [if_neg a,if_neg (by simp [a,e])]
  grind
theorem Good.due (g:Good c fl s No No T) {i:Nat}:Good c fl (j6 c s i) No No T:=by
 have h:=g.H2 (fo c i) (λq b=>(gy.1 b).1) Pj;have e:pF s (fo c i)=j6 c s i:=by
  unfold pF j6;congr 1;funext q;by_cases h:q<nQ c/\aG c q=i
  ·rw [if_pos h,if_pos (gy.2 h)]
  ·rw [if_neg h,if_neg λa=>h (gy.1 a)]
 grind
theorem OH {i a:Nat} (h:lq c s i=some a):a<(fo c i).length/\(s.proc ((fo c i).getD a 0)).state=0:=by unfold lq at h;have d:=List.find?_some h;have f:=List.mem_of_find?_eq_some h;obtain ⟨k,b,e⟩:=List.mem_map.1 f;have b:=List.mem_range.1 b;refine ⟨?_,of_decide_eq_true d⟩;rw [<-e];exact Nat.mod_lt _ (by omega)
theorem Good.ID {D:Int->Int->Int->Int} (m:cP c) (g:Good c fl s No No T) {i a:Nat} (e:i<nP c) (j:T=s.tick+1) (h:lq c s i=some a):Good c fl (ma c D fl s i a) No No T:=by
 obtain ⟨n,d⟩:=OH h;unfold ma;have pm:=g.part i e;have b:Good c fl (s.dT i {s.part i with ai:=((a+1:Nat):Int)%((fo c i).length:Int)}) No No T:=by refine g.parts ⟨?_,pm.lR,pm.log,pm.lost,pm.km,pm.full,pm.iZ,pm.jQ⟩ rfl rfl;have k:=Int.emod_nonneg ((a+1:Nat):Int) (show ((fo c i).length:Int)≠0 by omega);have l:=Int.emod_lt_of_pos ((a+1:Nat):Int) (show (0:Int)<((fo c i).length:Int) by omega);grind
 have f:(fo c i).getD a 0∈fo c i:=by grind
 exact b.R7 m (gy.1 f).1 d j
theorem Good.turns {D:Int->Int->Int->Int} (m:cP c) {i:Nat} (b:i<nP c):∀(n:Nat) {s:MS},Good c fl s No No T->T=s.tick+1->Good c fl (pv c D fl i n s) No No T/\(pv c D fl i n s).tick=s.tick
 | 0,s,g,_=>⟨g,rfl⟩
 | n+1,s,g,d=>by
  unfold pv;cases h:lq c s i with
  | none=>exact ⟨g,rfl⟩
  | some a=>have e:(ma c D fl s i a).tick=s.tick:=GR;have:=Good.turns (D:=D) m b n (g.ID (D:=D) m b d h) (by rw [e];exact d);grind
theorem cP.nO (m:cP c) {t:Int}:nT c t<nP c:=by
 unfold nT;have h:=m.table;have b:0<c.table.length:=List.length_pos_iff.2 h.1;have a:t.toNat%c.table.length<c.table.length:=Nat.mod_lt _ b;have:c.table.getD (t.toNat%c.table.length) 0=c.table[t.toNat%c.table.length]:=by simp [List.getD,List.getElem?_eq_getElem a]
 rw [this];have:=h.2.2 _ (List.getElem_mem a);omega
theorem dk.later (pm:dk c fl t p z x) {a:Int} (h:t<=a):dk c fl a p z x:=
 ⟨pm.st,pm.pc,pm.nC,pm.cur,by have:=pm.iQ;omega,by have:=pm.jg;omega,pm.qd,pm.dead,pm.dP,pm.recv,pm.snd,pm.se,pm.ku,pm.aP⟩
theorem Good.yA {D:Int->Int->Int->Int} (m:cP c) (g:Good c fl s No No s.tick):Good c fl (lY c D fl s) No No (lY c D fl s).tick:=by have d:=(g.yL (T':=s.tick+1) (by omega)).due (i:=nT c s.tick);obtain ⟨a,b⟩:=Good.turns (D:=D) m (m.nO (t:=s.tick)) c.fuel.toNat d rfl;have b:(pv c D fl (nT c s.tick) c.fuel.toNat (j6 c s (nT c s.tick))).tick=s.tick:=b;have f:=a.tick;unfold lY;dsimp only;rw [b];exact ⟨by grind,a.part,λq e=>(a.proc q e).later (by grind),a.own,a.kW,a.dP,a.uO,a.uN⟩
theorem FD {v:Int} (h:xq c s v=0):0<=v/\v.toNat<nQ c/\lH (s.proc v.toNat)=true:=by unfold xq at h;grind
theorem Good.Dr (g:Good c fl s No No T) {q v:Int}:Good c fl (uA c s q v).1 No No T:=by
 unfold uA;by_cases h:xq c s q≠0
 ·grind
 rw [if_neg h];obtain ⟨k,d,m⟩:=FD (Classical.not_not.1 h);have b:∀l,(s.proc q.toNat).ak[nP c]? =some l->(l.values.length:Int)<=c.lane/\ji l.taken/\ji l.dropped:=λl a=>by have:=(g.proc _ d).dP _ l a;grind
 by_cases e:gm c (s.proc q.toNat) (nP c)=true
 ·rw [if_pos e];exact g.lane d (i:=nP c) (f:=lS) (λl a=>⟨(b l a).1,(b l a).2.1,zc (b l a).2.2,λ_ h=>by omega⟩) (λl a=>⟨rfl,λ_=>rfl⟩) false λ_ l a=>a
 ·rw [if_neg e];have n:∀l,(s.proc q.toNat).ak[nP c]? =some l->(l.values.length:Int)<c.lane:=λl a=>by unfold gm at e;grind
  exact g.lane d (i:=nP c) (f:=wA v) (λl a=>⟨by
   show ((l.values++ [v]).length:Int)<=_;grind,(b l a).2.1,(b l a).2.2,λ_ h=>by omega⟩) (λl a=>⟨rfl,λj=>by
   have:=((g.dP _ d _ l a).2.1 j).2.2;grind⟩) true λh=>by cases h
theorem Good.kill (m:cP c) (g:Good c fl s No No T) {q:Int}:Good c fl (jF c s q).1 No No T:=by
 unfold jF;by_cases h:xq c s q≠0
 ·grind
 rw [if_neg h];exact g.ends m (.inr rfl) (FD (Classical.not_not.1 h)).2.1
theorem adJ {q v:Int}:(uA c s q v).1.tick=s.tick:=by
 unfold uA;split
 ·rfl
 ·split<;>rfl
theorem Vt {q:Int}:(jF c s q).1.tick=s.tick:=by
 unfold jF;split
 ·rfl
 ·exact KR
theorem Good.first (m:cP c):Good c fl (oZ c) No No (oZ c).tick where
 tick:=Int.le_refl _
 part:=λi a=>by
  have f:=m.ag;have g:=m.log;refine ⟨⟨Int.le_refl _,λh=>absurd h (Int.lt_irrefl 0)⟩,by show ((0:Nat):Int)<=c.log;omega,⟨List.Pairwise.nil,λe b=>by cases b⟩,⟨Int.le_refl _,by show (0:Int)<=65535;omega⟩,⟨Int.le_refl _,by show (0:Int)<=65535;omega⟩,λh=>absurd h (Int.lt_irrefl 0),?_,?_⟩
  ·show ((List.replicate c.ag.toNat (-1:Int)).length:Int)=_;grind
  ·show ((List.replicate c.ag.toNat ([]:List Int)).length:Int)=_;grind
 proc:=λp hp=>by
  refine ⟨by show (0:Int)<=0/\(0:Int)<=6;omega,by show (0:Int)<=0/\(0:Int)<=_;omega,List.length_replicate ..,?_,by show (0:Int)<=0/\(0:Int)<=0+1099511627776;omega,by show (0:Int)<=0/\(0:Int)<=0+1099511627776;omega,.inr ⟨λh=>absurd h (Int.lt_irrefl 0),λh=>by have h:(0:Int)=4:=h;omega⟩,λh=>by have h:(0:Int)=5\/(0:Int)=6:=h;omega,λi l h=> ?_,λh=>by have h:(0:Int)=1:=h;omega,λh=>by have h:(0:Int)=2:=h;omega,λh=>by have h:(0:Int)=3:=h;omega,λh=>by have h:(0:Int)=4:=h;omega,List.length_replicate ..⟩
  ·show (0:Int)<=0/\(0:Int)<((List.replicate (nP c+1) _).length:Int);simp
  ·have h:(List.replicate (nP c+1) (⟨[],[],0,0⟩:aX))[i]? =some l:=h;have d:=List.eq_of_mem_replicate (List.mem_of_getElem? h);subst d;have:=m.lane;refine ⟨by show ((0:Nat):Int)<=_;omega,⟨Int.le_refl _,by show (0:Int)<=65535;omega⟩,⟨Int.le_refl _,by show (0:Int)<=65535;omega⟩,λh=> ?_⟩;rcases h with h | h | h
   ·exact absurd rfl h
   ·exact absurd h (Int.lt_irrefl 0)
   grind
 own:=λi a k o h=>by have h:(List.replicate c.ag.toNat (-1:Int))[k]? =some o:=h;grind
 kW:=λi a k q h=>by have h:(List.replicate c.ag.toNat ([]:List Int))[k]? =some q:=h;grind
 dP:=λr j i l h=>by have h:(List.replicate (nP c+1) (⟨[],[],0,0⟩:aX))[i]? =some l:=h;grind
 uO:=λp hp _ h=>by have h:(0:Int)=3:=h;omega
 uN:=λp hp _ h=>by have h:(0:Int)=2:=h;omega
end
structure eD where
 R:Hp->(Nat->Prop)->Prop
 same:∀ {k k':Hp} {F:Nat->Prop},R k F->(∀b,F b->k' b=k b)->R k' F
 known:∀ {k:Hp} {F:Nat->Prop},R k F->∀b,F b->k b≠none
def Has (h0:Hp) (A:eD) (k:Hp):Prop:=h0<=k/\∃F,A.R k F/\∀b,F b->h0 b=none
def eD.star (A B:eD):eD where
 R k F:=∃f g:Nat->Prop,(∀b,F b↔f b\/g b)/\(∀b,f b->¬g b)/\A.R k f/\B.R k g
 same:=by rintro k i F ⟨f,g,e,d,a,b⟩ h;exact ⟨f,g,e,d,A.same a λc hc=>h c ((e c).2 (.inl hc)),B.same b λc hc=>h c ((e c).2 (.inr hc))⟩
 known:=by
  rintro k F ⟨f,g,e,d,a,b⟩ c hc;rcases (e c).1 hc with hc | hc
  ·exact A.known a c hc
  ·exact B.known b c hc
def eD.fact (p:Prop):eD:=⟨λ_ F=>p/\∀b,¬F b,λh _=>h,λh b hb=>absurd hb (h.2 b)⟩
def eD.some_ {b:Type} (A:b->eD):eD:=⟨λk F=>∃x,(A x).R k F,λ⟨x,h⟩ a=>⟨x,(A x).same h a⟩,λ⟨x,h⟩=>(A x).known h⟩
def eD.first (A:Nat->eD):Nat->eD
 | 0=>.fact True
 | n+1=>(eD.first A n).star (A n)
noncomputable def Hp.less (k:Hp) (F:Nat->Prop):Hp:=λb=>open Classical in if F b then none else k b
theorem Hp.vH {k:Hp} {F:Nat->Prop}:k.less F<=k:=λb o e=>by unfold Hp.less at e;grind
theorem Hp.ph {k:Hp} {F:Nat->Prop} {b:Nat} (h:¬F b):k.less F b=k b:=if_neg h
theorem Hp.vG {k:Hp} {F:Nat->Prop} {b:Nat} (h:F b):k.less F b=none:=if_pos h
section
variable {h0 h1 k f:Hp} {A g B C D:eD}
theorem Has.le (o:Has h0 A k):h0<=k:=o.1
theorem Has.fst (o:Has h0 (A.star B) k):∃h1,h0<=h1/\Has h1 A k/\(∃i,B.R h1 i/\∀b,i b->h0 b=none)/\∀g f,Has h1 g f->Has h0 (g.star B) f:=by
 obtain ⟨w,F,⟨l,i,e,d,a,b⟩,u⟩:=o;have n:B.R (k.less l) i:=B.same b λc hc=>Hp.ph λh=>d c h hc;have f2:∀b,i b->h0 b=none:=λc hc=>u c ((e c).2 (.inr hc));have p:h0<=k.less l:=λc j m=>by
  have:¬l c:=λh=>by grind
  rw [Hp.ph this];exact w c j m
 refine ⟨k.less l,p,⟨Hp.vH,l,a,λc hc=>Hp.vG hc⟩,⟨i,n,f2⟩,λg f j=> ?_⟩;obtain ⟨r,q,s,v⟩:=j;refine ⟨Hp.le_trans p r,λc=>q c\/i c,⟨q,i,λ_=>Iff.rfl,λc hc t=> ?_,s,B.same n λc hc=> ?_⟩,λc hc=> ?_⟩
 ·exact B.known n c t (v c hc)
 ·cases m:(k.less l) c with
  | none=>exact absurd m (B.known n c hc)
  | some j=>exact r c j m
 ·rcases hc with hc | hc
  ·cases m:h0 c with
   | none=>rfl
   | some j=>have:=p c j m;grind
  ·exact f2 c hc
theorem Has.map (h:∀k F,A.R k F->g.R k F) (o:Has h0 A k):Has h0 g k:=by obtain ⟨c,F,a,b⟩:=o;exact ⟨c,F,h k F a,b⟩
theorem HJ {F:Nat->Prop} (h:(A.star B).R k F):(B.star A).R k F:=by obtain ⟨i,j,e,d,a,b⟩:=h;exact ⟨j,i,λc=>(e c).trans or_comm,λc h1 l=>d c l h1,b,a⟩
theorem Bc {F:Nat->Prop} (h:((A.star B).star C).R k F):(A.star (B.star C)).R k F:=by
 obtain ⟨o,j,e,d,⟨n,i,l,p,a,b⟩,c⟩:=h;refine ⟨n,λx=>i x\/j x,λx=> ?_,λx h1 m=> ?_,a,i,j,λ_=>Iff.rfl,λx h1 m=>d x ((l x).2 (.inr h1)) m,b,c⟩
 ·rw [e,l,or_assoc]
 grind
theorem HK {F:Nat->Prop} (j:∀F,A.R k F->C.R k F) (hb:∀F,B.R k F->D.R k F) (h:(A.star B).R k F):(C.star D).R k F:=by obtain ⟨c,i,e,d,a,b⟩:=h;exact ⟨c,i,e,d,j _ a,hb _ b⟩
theorem Has.comm (o:Has h0 (A.star B) k):Has h0 (B.star A) k:=o.map λ_ _=>HJ
theorem Has.assoc (o:Has h0 ((A.star B).star C) k):Has h0 (A.star (B.star C)) k:=o.map λ_ _=>Bc
theorem Has.Di (o:Has h0 (A.star (B.star C)) k):Has h0 ((A.star B).star C) k:=o.map λ_ _ h=>HJ (Bc (HJ (Bc (HJ h))))
theorem Has.snd (o:Has h0 (A.star B) k):∃h1,h0<=h1/\Has h1 B k/\(∃h,A.R h1 h/\∀b,h b->h0 b=none)/\∀e f,Has h1 e f->Has h0 (A.star e) f:=by obtain ⟨h1,a,b,c,d⟩:=o.comm.fst;exact ⟨h1,a,b,c,λe f i=>(d e f i).comm⟩
theorem Has.left (o:Has h0 (A.star B) k):Has h0 A k:=by obtain ⟨l,F,⟨h,m,e,d,a,b⟩,j⟩:=o;exact ⟨l,h,a,λc i=>j c ((e c).2 (.inl i))⟩
theorem Has.right (o:Has h0 (A.star B) k):Has h0 B k:=o.comm.left
theorem Has.mono (o:Has h1 A k) (c:h0<=h1):Has h0 A k:=by obtain ⟨h,F,a,d⟩:=o;exact ⟨Hp.le_trans c h,F,a,λb hb=>qj c (d b hb)⟩
theorem Has.grow (o:Has h0 A k) (c:k<=f):Has h0 A f:=by
 obtain ⟨h,F,a,d⟩:=o;refine ⟨Hp.le_trans h c,F,A.same a λb hb=> ?_,d⟩;cases e:k b with
 | none=>exact absurd e (A.known a b hb)
 | some i=>exact c b i e
theorem Has.beside (o:Has h0 A k) (n:Has k B f):Has h0 (A.star B) f:=by
 obtain ⟨h,F,a,l⟩:=o;obtain ⟨i,G,b,d⟩:=n;refine ⟨Hp.le_trans h i,λc=>F c\/G c,⟨F,G,λ_=>Iff.rfl,λc h1 j=>A.known a c h1 (d c j),A.same a λc hc=> ?_,b⟩,λc hc=> ?_⟩
 ·cases e:k c with
  | none=>exact absurd e (A.known a c hc)
  | some m=>exact i c m e
 ·rcases hc with hc | hc
  ·exact l c hc
  ·exact qj h (d c hc)
theorem Has.carry {X:eD} (put:∀f,Has h1 A f->Has h0 X f) (o:Has h1 (A.star B) k):Has h0 (X.star B) k:=by
 obtain ⟨p,F,⟨l,j,e,d,a,b⟩,n⟩:=o;have ol:Has h1 A (k.less j):=⟨λc r m=>by
  have q:¬j c:=λh=>by grind
  rw [Hp.ph q];exact p c r m,l,A.same a λc i=>Hp.ph (λh=>d c i h),λc i=>n c ((e c).2 (.inl i))⟩
 exact (put _ ol).beside ⟨Hp.vH,j,b,λc i=>Hp.vG i⟩
theorem Has.fact {p:Prop} (hp:p) (a:h0<=k):Has h0 (.fact p) k:=⟨a,λ_=>False,⟨hp,λ_ h=>h⟩,λ_ h=>h.elim⟩
theorem Has.yj {p:Prop} (o:Has h0 (.fact p) k):p:=by obtain ⟨_,_,h,_⟩:=o;exact h.1
theorem Has.fV {p:Prop} (o:Has h0 A k) (hp:p):Has h0 (A.star (.fact p)) k:=o.beside (Has.fact hp (Hp.le_refl _))
theorem Has.kS {p:Prop} (o:Has h0 (A.star (.fact p)) k):Has h0 A k/\p:=⟨o.left,o.right.yj⟩
theorem Has.ex {d:Type} {A:d->eD}:Has h0 (.some_ A) k↔∃x,Has h0 (A x) k:=
 ⟨λ⟨c,F,⟨x,a⟩,b⟩=>⟨x,c,F,a,b⟩,λ⟨x,c,F,a,b⟩=>⟨c,F,⟨x,a⟩,b⟩⟩
end
theorem vR {A B:Nat->eD}:∀ {n:Nat},(∀i,i<n->A i=B i)->eD.first A n=eD.first B n
 | 0,_=>rfl
 | n+1,h=>by show (eD.first A n).star (A n)=(eD.first B n).star (B n);rw [vR λi a=>h i (by omega),h n (by omega)]
section
variable {h0 k:Hp} {A:Nat->eD} {B:eD}
theorem Has.one {n i:Nat} (J:i<n) (o:Has h0 (eD.first A n) k):∃f,h0<=f/\Has f (A i) k/\(∀j,j<n->j≠i->∃l,(A j).R f l)/\∀g h,Has f g h->Has h0 (eD.first (de A i g) n) h:=by
 induction n generalizing h0 with
 | zero=>omega
 | succ n r=>
  by_cases e:i=n
  ·subst e;obtain ⟨f,a,b,c,d⟩:=Has.snd o;obtain ⟨l,H,x⟩:=c;refine ⟨f,a,b,λj q G=> ?_,λg h p=> ?_⟩
   ·have key:∀m (F:Nat->Prop),(eD.first A m).R f F->j<m->∃l,(A j).R f l:=by
     intro m
     induction m with
     | zero=>intro F _ q;omega
     | succ m r=>
      rintro F ⟨u,v,_,_,C,D⟩ q;by_cases e:j=m
      ·subst e;exact ⟨v,D⟩
      ·exact r u C (by omega)
    grind
   ·have:=d g h p;show Has h0 ((eD.first (de A i g) i).star (de A i g i)) h;rw [mz,vR (B:=A) λj q=>mn (by omega)];exact this
  ·obtain ⟨f,a,b,c,d⟩:=Has.fst o;obtain ⟨E,a2,w,x,y⟩:=r (h0:=f) (by omega) b;obtain ⟨l,s,I⟩:=c;refine ⟨E,Hp.le_trans a a2,w,λj q G=> ?_,λg h p=> ?_⟩
   ·by_cases z:j=n
    ·subst z;refine ⟨l,(A j).same s λb hb=> ?_⟩;cases t:f b with
     | none=>exact absurd t ((A j).known s b hb)
     | some p=>exact a2 b p t
    grind
   ·have:=d _ _ (y g h p);show Has h0 ((eD.first (de A i g) n).star (de A i g n)) h;rw [mn (by omega)];exact this
theorem Has.at_ {n i:Nat} (c:i<n) (o:Has h0 (eD.first A n) k):Has h0 (A i) k:=by obtain ⟨d,a,b,_,_⟩:=o.one c;exact b.mono a
end
def Db (b:Nat) (a:List Value):eD:=⟨λk F=>eS k b a/\∀c,F c↔c=b,λh f=>⟨h.1.imp λt e=>(by grind),h.2⟩,λh c d=>by rw [(h.2 c).1 d];exact h.1.known⟩
theorem Has.fW {d k:Hp} {b:Nat} {c:List Value} (o:Has d (Db b c) k):eS k b c/\d b=none:=by obtain ⟨_,F,⟨a,e⟩,f⟩:=o;grind
theorem Has.Ik {a k:Hp} {b:Nat} {d:List Value} (f:a<=k) (hb:eS k b d) (g:a b=none):Has a (Db b d) k:=
 ⟨f,λc=>c=b,⟨hb,λ_=>Iff.rfl⟩,λc e=>by rw [e];exact g⟩
def dZ (sh:Shape) (p:Addr) (x:sh.T):eD:=(Db p.block (bA (sh.enc x))).star (.fact (p=⟨p.block,0,none⟩))
section
variable {h0 k:Hp} {sh:Shape} {p:Addr} {x:sh.T}
theorem Has.sr (o:Has h0 (dZ sh p x) k):∃b,p=⟨b,0,none⟩/\eS k b (bA (sh.enc x))/\h0 b=none:=⟨p.block,o.right.yj,(Has.left o).fW⟩
theorem Has.CN {b:Nat} (a:h0<=k) (hb:eS k b (bA (sh.enc x))) (c:h0 b=none):Has h0 (dZ sh ⟨b,0,none⟩ x) k:=(Has.Ik a hb c).fV rfl
theorem Has.ld (o:Has h0 (dZ sh p x) k) {shf:Shape} (v:shf.T) {off:Nat} (hv:((bA (sh.enc x)).drop off).take (bA (shf.enc v)).length=bA (shf.enc v)) {K:shf.T->Prop} (a:K v):aN none shf k (p.add off) K:=by obtain ⟨b,rfl,hb,_⟩:=o.sr;refine ⟨v,?_,a⟩;rw [kE,Nat.zero_add];exact hb.bU hv
theorem Has.xu (o:Has h0 (dZ sh p x) k) {shf:Shape} (v:shf.T) (hv:(bA (sh.enc x)).take (bA (shf.enc v)).length=bA (shf.enc v)) {K:shf.T->Prop} (a:K v):aN none shf k p K:=by obtain ⟨b,rfl,hb,_⟩:=o.sr;exact ⟨v,hb.bU (off:=0) (by simpa using hv),a⟩
theorem Has.pM (o:Has h0 (dZ sh p x) k) {shf:Shape} {c:Bool} (v:shf.T) {off:Nat} (hv:((bA (sh.enc x)).drop off).take (bA (shf.enc v)).length=bA (shf.enc v)) {K:shf.T->Prop} (a:K v):aN (some c) shf k (p.add off) K:=by obtain ⟨b,rfl,hb,_⟩:=o.sr;refine ⟨v,λ_=> ?_,a⟩;rw [kE,Nat.zero_add];exact hb.bU hv
theorem Has.fG (o:Has h0 (dZ sh p x) k) {off n:Nat} {vs:List Value} (hv:((bA (sh.enc x)).drop off).take n=vs):aZ k (p.add off) vs:=by obtain ⟨b,rfl,hb,_⟩:=o.sr;rw [kE,Nat.zero_add];exact hb.bU hv
theorem Has.st (o:Has h0 (dZ sh p x) k) (x':sh.T) {off:Nat} {new:List Value} (g:off+new.length<=(bA (sh.enc x)).length) (l:(bA (sh.enc x)).take off++new++(bA (sh.enc x)).drop (off+new.length)=bA (sh.enc x'))
  {K:Hp->Prop} (f:∀a,Has h0 (dZ sh p x') a->K a):cX k (p.add off) new K:=by
 obtain ⟨b,rfl,hb,h⟩:=o.sr;rw [kE,Nat.zero_add];refine qQ hb g λa m i=>f a (Has.CN (λc d e=> ?_) (by grind) h);exact m.bO c d (o.1 c d e) λj=>by grind
theorem Has.CU (o:Has h0 (dZ sh p x) k) (a:sh.T) {new:List Value} (f:new.length<=(bA (sh.enc x)).length) (g:new++(bA (sh.enc x)).drop new.length=bA (sh.enc a))
  {K:Hp->Prop} (d:∀c,Has h0 (dZ sh p a) c->K c):cX k p new K:=by
 obtain ⟨b,e,_⟩:=o.sr;have:=o.st a (off:=0) (new:=new) (by omega) (by grind) d;subst e;simpa [kE] using this
theorem vk {k:Hp} (x:sh.T) {c:List Value} (d:c=bA (sh.enc x)) {K:Addr->Hp->Prop} (e:∀p a,k<=a->Has k (dZ sh p x) a->K p a):bc c K k:=by intro b t hb;refine e _ _ (mY hb) ?_;exact Has.CN (mY hb) ⟨t,by rw [<-d];exact nz⟩ hb
end
section
variable {P:Program} {h:Hp}
theorem cO {b c:Type} (s:Sem b) (f:b->Sem c) {K:c->Hp->Prop}:dz P (s>>=f) K h↔dz P s (λa h=>dz P (f a) K h) h:=Fk s f
theorem Vu {t:Nat} {i:TypeInfo} (a:P.info? t=some i) {K:Nat->Hp->Prop} (b:K i.size h):dz P (sizeOf t) K h:=by
 show dz P (Sem.bind (match P.info? t with
  | some d=>Sem.pure d
  | none=>_) _) K h
 rw [a];exact b
theorem RV {a:Addr} {o:Obj} (e:h a.block=some o) {K:Bool->Hp->Prop} (b:K (ic h a) h):dz P (frozen a) K h:=⟨⟨o,e⟩,b⟩
theorem Bd {r:Nat} {o:Obj} (e:h r=some o) {K:Option (TypeId×Nat)->Hp->Prop} (a:K (GF o) h):dz P (shape r) K h:=⟨o,e,a⟩
theorem Gd {b:Nat} {a:List Value} (k:eS h b a) (off:Nat):ic h ⟨b,off,none⟩=false:=by obtain ⟨t,e⟩:=k;unfold ic;simp [e]
theorem NK {b off:Nat} {a:List Value} (k:eS h b a) {K:Unit->Hp->Prop} (c:K () h):dz P (noView ⟨b,off,none⟩) K h:=by obtain ⟨t,e⟩:=k;unfold noView viewAt;refine (cO _ _).2 ((cO _ _).2 (Bd (r:=b) e ?_));exact c
theorem L7 {b off:Nat} {d:List Value} (k:eS h b d) {K:Bool->Hp->Prop} (f:K false h):dz P (stringish ⟨b,off,none⟩) K h:=by have c:=k;obtain ⟨t,e⟩:=k;unfold stringish;refine (cO _ _).2 (RV (a:=⟨b,off,none⟩) e ?_);rw [Gd c];refine (cO _ _).2 (Bd (r:=b) e ?_);refine RV (a:=⟨b,_,none⟩) e ?_;rw [Gd c];exact f
theorem ZO {j B e:Nat} {i:TypeInfo} {a b c f q t s v:Nat} {u w:List Value} {K:Bool->Hp->Prop} (A:P.underlying j=some (.slice e)) (z:P.info? e=some i) (g:eS h a u) (k:eS h b w) (p:a≠b)
  (o:K false h):lx P (Extern.SlicesOverlaps.overlaps #[j,j] #[B] #[.slice (some ⟨a,c,none⟩) q t,.slice (some ⟨b,f,none⟩) s v]) bH K h:=by
 have x:((⟨a,c,none⟩:Addr).block !=(⟨b,f,none⟩:Addr).block)=true:=by simpa using p
 have y:((⟨a,c,none⟩:Addr).block==(⟨b,f,none⟩:Addr).block)=false:=by simpa using p
 obtain ⟨C,l⟩:=id g;obtain ⟨tb,m⟩:=id k;unfold lx;show dz P (α:=Value) (underlying j>>=λd=>_) _ h;refine (cO _ _).2 (FZ A ?_);refine (cO _ _).2 (Vu z ?_);dsimp only;by_cases n:q=0\/s=0\/i.size=0
 ·rw [if_pos n];exact ⟨false,rfl,o⟩
 ·rw [if_neg n];refine (cO _ _).2 (RV (a:=⟨a,c,none⟩) l ?_);refine (cO _ _).2 (RV (a:=⟨b,f,none⟩) m ?_);rw [x,Gd g];simp only [Bool.true_and,Bool.false_and,Bool.false_eq_true,if_false,if_true];refine (cO _ _).2 (NK g ?_);refine (cO _ _).2 (NK k ?_);refine (cO _ _).2 ?_;unfold mayBeOne;refine (cO _ _).2 (L7 g ?_);refine (cO _ _).2 (L7 k ?_);refine (cO _ _).2 ((cO _ _).2 (Bd (r:=a) l ?_));refine (cO _ _).2 ((cO _ _).2 (Bd (r:=b) m ?_));simp only [Bool.false_and,Bool.or_false];refine ⟨false,?_,o⟩;rw [y];rfl
theorem LK {a:Addr}:∀(b:List Value) (i:Nat) {h:Hp} {K:Unit->Hp->Prop},jL b=true->(∀j,j<b.length->(∃v,dy h (a.add (i+j))=some v)/\ic h (a.add (i+j))=false)->
  K () (lz h a b i)->dz P (storeCells a b i) K h
 | [],i,h,K,_,_,c=>c
 | v::b,i,h,K,d,m,c=>by
  obtain ⟨f,g⟩:=m 0 (by simp);rw [Nat.add_zero] at f g;have o:jL b=true:=by cases v<;>first | (exact d) | (cases d)
  have step:dz P (storeCells a b (i+1)) K (h.put (a.add i) v):=by
   refine LK b (i+1) o (λj n=> ?_) c;obtain ⟨⟨u,k⟩,l⟩:=m (j+1) (by simpa using n);have e:i+(j+1)=i+1+j:=by omega
   rw [e] at k l;exact ⟨O2 ⟨u,k⟩,(by rw [O3];exact l)⟩
  show dz P (Sem.store Mode.plain (a.add i) v (storeCells a b (i+1))) K h;cases v<;>first | (exact ⟨f,g,step⟩) | (cases d)
theorem Pm {t e b off n c:Nat} {z:Value} {a:List Value} {K:Hp->Prop} (o:P.underlying t=some (.slice e)) (p:∀ {K:Value->Hp->Prop} {h:Hp},K z h->dz P (zeroValue e) K h) (l:∀n,jL (fC (bA z) n)=true) (g:eS h b a)
  (s:off+n*(bA z).length<=a.length)
  (i:∀f,Mv [b] h [b] f->eS f b (a.take off++fC (bA z) n++a.drop (off+n*(bA z).length))->K f):
  n0 P (Builtin.clear_ #[t] 0 #[.slice (some ⟨b,off,none⟩) n c]) v7 K h:=by
 unfold n0 lx;show dz P (α:=Value) (underlying t>>=λd=>_) _ h;refine (cO _ _).2 (FZ o ?_);cases n with
 | zero=>refine ⟨(),rfl,i h (Mv.refl _ _) ?_⟩;simp [fC];exact g
 | succ n=>
  refine (cO _ _).2 ?_;refine p ?_;have q:(Builtin.zeroCells z.cells (n+1)).toList=fC (bA z) (n+1):=by rw [Hy,qi]
  have u:(fC (bA z) (n+1)).length=(n+1)*(bA z).length:=BO _ _;obtain ⟨v,r⟩:=g.put (off:=off) (new:=fC (bA z) (n+1)) (by omega);have m:=g.uV (off:=off) (fC (bA z) (n+1)).length (by omega);refine (cO _ _).2 ?_;rw [q];refine LK _ 0 (l _) (λj k=> ?_) ⟨(),rfl,i _ (Mv.lV r) (by grind)⟩;rw [Nat.zero_add];exact wM m j k
end
section
variable {α:Type} {h:Hp} {sz:Nat} {enc:α->List Value} {l:Sl} {xs:List α}
theorem Rw.wv (r:Rw h sz enc l xs) (d:∀x,(enc x).length=sz) (k:0<sz) {sh:Shape} (g:α->sh.T) {j:Nat} (n:∀x,((enc x).drop j).take (bA (sh.enc (g x))).length=bA (sh.enc (g x))) {i:Int} (b:0<=i) (c:i<(xs.length:Int))
  {K:sh.T->Prop} (e:∀x,xs[i.toNat]? =some x->K (g x)):bI l.base l.len i/\aN none sh h ((sat l.base sz i).add j) K:=by
 obtain ⟨a,x,m,f⟩:=r.read d k b (by rw [r.1];exact c);refine ⟨a,g x,λq v hv=> ?_,e x m⟩;rw [vV];refine f (j+q) v ?_;grind
theorem Rw.AB (r:Rw h sz enc l xs) (m:∀x,(enc x).length=sz) (p:0<sz) {sh:Shape} (g:α->sh.T) {j:Nat} (n:∀x,((enc x).drop j).take (bA (sh.enc (g x))).length=bA (sh.enc (g x))) (d:sh.T) {c:Bool} {i:Int} (a:c=true->0<=i/\i<(xs.length:Int))
  {K:sh.T->Prop} (b:∀y,(c=true->∃x,xs[i.toNat]? =some x/\y=g x)->K y):(c=true->bI l.base l.len i)/\aN (some c) sh h ((sat l.base sz i).add j) K:=by
 cases c with
 | false=>exact ⟨λe=>(by cases e),d,λe=>(by cases e),b d λe=>(by cases e)⟩
 | true=>obtain ⟨a,k⟩:=a rfl;obtain ⟨f,y,s,o⟩:=r.wv m p g n a k (K:=λy=>∃x,xs[i.toNat]? =some x/\y=g x) λx q=>⟨x,q,rfl⟩;exact ⟨λ_=>f,y,λ_=>s,b y λ_=>o⟩
theorem xa {b o a c:Nat} (d:c≠a):bq (some ⟨b,o,none⟩) sz a c=some ⟨b,o+a*sz,none⟩:=by unfold bq;rw [if_neg d];show some ((⟨b,o,none⟩:Addr).add (a*sz))=_;rw [kE]
theorem eS.rd {b:Nat} {a new:List Value} (k:eS h b a) {off n:Nat} (c:new.length=n) (e:(a.drop off).take n=new):qP h (some ⟨b,off,none⟩) n new:=⟨c,.inr ⟨_,rfl,k.bU e⟩⟩
theorem GC {b off dl dc n:Nat} {c new:List Value} {x:Sl} {K:Int->Hp->Prop} (g:eS h b c) (p:min x.len dl=n) (f:qP h x.base (n*sz) new) (q:jL new=true) (m:off+n*sz<=c.length)
  (k:∀d,Mv [b] h [b] d->eS d b (c.take off++new++c.drop (off+n*sz))->K (n:Nat) d):gE sz ⟨some ⟨b,off,none⟩,dl,dc⟩ x K h:=by
 subst p;have o:new.length=min x.len dl*sz:=f.1;refine ⟨new,f,q,λa j=> ?_,?_⟩
 ·cases j;exact g.uV _ m
 ·obtain ⟨i,r⟩:=g.put (off:=off) (new:=new) (by omega);have e:gP h (some ⟨b,off,none⟩) 0 new=lz h ⟨b,off,none⟩ new 0:=by simp only [gP,kE,Nat.add_zero]
  show K _ (gP h (some ⟨b,off,none⟩) 0 new);rw [e];rw [o] at i;exact k _ (Mv.lV r) i
theorem XU {bytes:Nat} {zero:List Value} {l:Sl} {m:Int} {e:List Value} {K:Sl->Hp->Prop} (j:0<=m) (k:qP h l.base (l.len*sz) e) (hb:l.len+m.toNat<=140737488355328/\(l.len+m.toNat)*bytes<=140737488355328)
  (n:jL (fC zero m.toNat)=true) (o:l.cap<l.len+m.toNat) (i:∀b c a,h b=none->l.len+m.toNat<=c->h<=a->Mv [] h [b] a->eS a b (e++fC zero m.toNat++fC zero (c-(l.len+m.toNat)))->K ⟨some ⟨b,0,none⟩,l.len+m.toNat,c⟩ a):
  Bv sz bytes zero l m K h:=
 ⟨j,e,k,hb,n,λf=>absurd f (by omega),λ_ c b t g d=>i b c _ d g (mY d) (Mv.new d) ⟨t,nz⟩⟩
theorem N0 {bytes b off c g n:Nat} {zero:List Value} {x:Sl} {d new k:List Value} {K:Sl->Hp->Prop} (j:eS h b d) (v:qP h (some ⟨b,off,none⟩) (c*sz) k) (i:qP h x.base (x.len*sz) new) (t:x.len=n) (u:jL new=true)
  (hb:c+n<=140737488355328/\(c+n)*bytes<=140737488355328) (y:c+n<=g) (r:off+c*sz+n*sz<=d.length)
  (q:∀f,Mv [b] h [b] f->eS f b (d.take (off+c*sz)++new++d.drop (off+c*sz+n*sz))->K ⟨some ⟨b,off,none⟩,c+n,g⟩ f):eC sz bytes zero ⟨some ⟨b,off,none⟩,c,g⟩ x K h:=by
 subst t;have s:new.length=x.len*sz:=i.1;refine ⟨new,i,k,v,hb,u,λ_=>⟨λa p=> ?_,?_⟩,λo=>absurd o (by grind)⟩
 ·cases p;rw [kE];exact j.uV _ r
 ·obtain ⟨m,w⟩:=j.put (off:=off+c*sz) (new:=new) (by omega);have e:gP h (some ⟨b,off,none⟩) (c*sz) new=lz h ⟨b,off+c*sz,none⟩ new 0:=by simp only [gP,kE]
  show K _ (gP h (some ⟨b,off,none⟩) (c*sz) new);rw [e];rw [s] at m;exact q _ (Mv.lV w) m
theorem FE {xs:List α} {i:Nat} (x:α) (a:i<xs.length):xs.set i x=xs.take i++x::xs.drop (i+1):=by rw [List.set_eq_take_append_cons_drop,if_pos a]
theorem dF.store {F:List Nat} (o:dF h sz enc l xs F) (e:∀x,(enc x).length=sz) {i:Int} (k:0<=i) (y:i<(xs.length:Int)) (x:α) {K:Hp->Prop} (p:∀a,dF a sz enc l (xs.set i.toNat x) F->Mv F h F a->K a):
  bI l.base l.len i/\cX h (sat l.base sz i) (enc x) K:=by
 obtain ⟨t,j,u⟩:=o;rcases u with ⟨_,v,_⟩ | ⟨b,c,d,rfl,r,w,f⟩
 ·omega
 ·refine ⟨⟨by rw [d];simp,k,by omega⟩,?_⟩;have n:i.toNat<xs.length:=by omega
  have m:sat l.base sz i=⟨b,i.toNat*sz,none⟩:=by unfold sat;rw [d,Option.getD_some,kE,Nat.zero_add]
  rw [m];have z:i.toNat*sz+sz<=l.len*sz:=by have:=Nat.mul_le_mul_right sz (show i.toNat+1<=l.len by omega);grind
  have A:l.len*sz<=l.cap*sz:=Nat.mul_le_mul_right sz j;refine qQ r (by grind) λa s g=> ?_;rw [e] at g;refine p a ⟨by simp [t],j,.inr ⟨b,_,d,rfl,g,?_,?_⟩⟩ s
  ·grind
  ·rw [FE x n];have t1:c.take (i.toNat*sz)=(xs.take i.toNat).flatMap enc:=by rw [C5 e,<-f,List.take_take];congr 1;omega
   have t2:(c.drop (i.toNat*sz+sz)).take (l.len*sz-(i.toNat*sz+sz))=(xs.drop (i.toNat+1)).flatMap enc:=by rw [BU e,<-f,Nat.add_mul,Nat.one_mul,List.drop_take]
   have q:(c.take (i.toNat*sz)++enc x).length=i.toNat*sz+sz:=by grind
   rw [List.take_append,q,t2,List.take_of_length_le (by omega),t1];simp
end
section
variable {P:Program} {α:Type} {h:Hp} {sz:Nat} {enc:α->List Value}
def H7 (P:Program) (sz bytes:Nat) (zero:List Value) (j k:Nat) (R:Sl->(Hp->Prop)->Hp->Prop) (s:Sl) (i:Int) (v:Sl) (Q:Sl->Hp->Prop) (h:Hp):Prop:=
 (((0:Int)<=i/\i<=((s.len:Nat):Int))/\aF (α:=Sl) ⟨(bq s.base sz (Int.toNat i) s.cap),(s.len-(Int.toNat i)),(s.cap-(Int.toNat i))⟩ λ_=>
 (if (((v.len:Nat):Int)==(0:Int))=true then
 Q s h
 else
 (if (i==((s.len:Nat):Int))=true then
 eC sz bytes zero s v (λr b=>
 Q r b) h
 else
 (if (decide ((yw (((s.len:Nat):Int)+((v.len:Nat):Int)))>((s.cap:Nat):Int)))=true then
 (((0:Int)<=i/\i<=((s.cap:Nat):Int))/\aF (α:=Sl) ⟨(bq s.base sz 0 s.cap),((Int.toNat i)-0),(s.cap-0)⟩ λa=>
 Bv sz bytes zero a (yw ((yw (((s.len:Nat):Int)+((v.len:Nat):Int)))-i)) (λr b=>
 (((0:Int)<=i/\i<=((r.len:Nat):Int))/\aF (α:=Sl) ⟨(bq r.base sz (Int.toNat i) r.cap),(r.len-(Int.toNat i)),(r.cap-(Int.toNat i))⟩ λg=>
 gE sz g v (λ_ c=>
 (((0:Int)<=(yw (i+((v.len:Nat):Int)))/\(yw (i+((v.len:Nat):Int)))<=((r.len:Nat):Int))/\aF (α:=Sl) ⟨(bq r.base sz (Int.toNat (yw (i+((v.len:Nat):Int)))) r.cap),(r.len-(Int.toNat (yw (i+((v.len:Nat):Int))))),(r.cap-(Int.toNat (yw (i+((v.len:Nat):Int)))))⟩ λe=>
 (((0:Int)<=i/\i<=((s.len:Nat):Int))/\aF (α:=Sl) ⟨(bq s.base sz (Int.toNat i) s.cap),(s.len-(Int.toNat i)),(s.cap-(Int.toNat i))⟩ λf=>
 gE sz e f (λ_ d=>
 Q r d) c))) b)) h)
 else
 (((0:Int)<=(yw (((s.len:Nat):Int)+((v.len:Nat):Int)))/\(yw (((s.len:Nat):Int)+((v.len:Nat):Int)))<=((s.cap:Nat):Int))/\aF (α:=Sl) ⟨(bq s.base sz 0 s.cap),((Int.toNat (yw (((s.len:Nat):Int)+((v.len:Nat):Int))))-0),(s.cap-0)⟩ λa=>
 (((0:Int)<=(yw (i+((v.len:Nat):Int)))/\(yw (i+((v.len:Nat):Int)))<=((a.len:Nat):Int))/\aF (α:=Sl) ⟨(bq a.base sz (Int.toNat (yw (i+((v.len:Nat):Int)))) a.cap),(a.len-(Int.toNat (yw (i+((v.len:Nat):Int))))),(a.cap-(Int.toNat (yw (i+((v.len:Nat):Int)))))⟩ λg=>
 lx P (Extern.SlicesOverlaps.overlaps #[j,j] #[k] #[v.v,g.v]) bH (λr b=>
 (if (!r)=true then
 (((0:Int)<=(yw (i+((v.len:Nat):Int)))/\(yw (i+((v.len:Nat):Int)))<=((a.len:Nat):Int))/\aF (α:=Sl) ⟨(bq a.base sz (Int.toNat (yw (i+((v.len:Nat):Int)))) a.cap),(a.len-(Int.toNat (yw (i+((v.len:Nat):Int))))),(a.cap-(Int.toNat (yw (i+((v.len:Nat):Int)))))⟩ λe=>
 (((0:Int)<=i/\i<=((a.len:Nat):Int))/\aF (α:=Sl) ⟨(bq a.base sz (Int.toNat i) a.cap),(a.len-(Int.toNat i)),(a.cap-(Int.toNat i))⟩ λf=>
 gE sz e f (λ_ c=>
 (((0:Int)<=i/\i<=((a.len:Nat):Int))/\aF (α:=Sl) ⟨(bq a.base sz (Int.toNat i) a.cap),(a.len-(Int.toNat i)),(a.cap-(Int.toNat i))⟩ λl=>
 gE sz l v (λ_ d=>
 Q a d) c)) b))
 else
 (((0:Int)<=((s.len:Nat):Int)/\((s.len:Nat):Int)<=((a.len:Nat):Int))/\aF (α:=Sl) ⟨(bq a.base sz (Int.toNat ((s.len:Nat):Int)) a.cap),(a.len-(Int.toNat ((s.len:Nat):Int))),(a.cap-(Int.toNat ((s.len:Nat):Int)))⟩ λe=>
 gE sz e v (λ_ c=>
 (((0:Int)<=i/\i<=((a.len:Nat):Int))/\aF (α:=Sl) ⟨(bq a.base sz (Int.toNat i) a.cap),(a.len-(Int.toNat i)),(a.cap-(Int.toNat i))⟩ λf=>
 R f (λd=>Q a d) c)) b))) h))))))
theorem ab1 {bytes tS tR tE y:Nat} {i0:TypeInfo} {zero b3:List Value} {R:Sl->(Hp->Prop)->Hp->Prop} {s v:Sl} {d:List α} {e:α} {F:List Nat} {i:Nat} {Q:Sl->Hp->Prop}
  (ht:P.underlying tS=some (.slice tE)) (c1:P.info? tE=some i0) (r:∀x,(enc x).length=sz) (f4:0<sz) (D:∀x,jL (enc x)=true) (hz:zero.length=sz) (c6:∀n,jL (fC zero n)=true)
  (o:dF h sz enc s d F) (J:Rw h sz enc v [e]) (hv:v.base=some ⟨y,0,none⟩) (I:eS h y b3) (a8:y∉F) (hi:i<=d.length) (hb:d.length+1<=140737488355328/\(d.length+1)*bytes<=140737488355328)
  (hq:∀T z K,dF z sz enc T (d.take i++e::d.drop i) K->Mv F h K z->Q T z):H7 P sz bytes zero tS tR R s (i:Int) v Q h:=by
 have hs:=o.1;have f0:=o.2.1;have a9:v.len=1:=J.1;have w1:yw ((s.len:Int)+(v.len:Int))=(s.len:Int)+1:=by rw [a9,aV];rfl
 have w2:yw ((i:Int)+(v.len:Int))=((i+1:Nat):Int):=by rw [a9,aV];omega
 have d6:qP h v.base (1*sz) (enc e):=by simpa using J.2
 unfold H7;rw [w1,w2];have it:(i:Int).toNat=i:=by omega
 have c7:((i+1:Nat):Int).toNat=i+1:=by omega
 rw [it,c7];refine ⟨by omega,aE ?_⟩;rw [if_neg (show ¬(((v.len:Int)==0)=true) by simp;omega)];by_cases e5:i=d.length
 ·rw [if_pos (show ((i:Int)==(s.len:Int))=true by simp;omega)];refine xV o J r D hz (by simpa using hb) λT z K o' m'=> ?_;grind
 rw [if_neg (show ¬(((i:Int)==(s.len:Int))=true) by simp;omega)];have e6:i<d.length:=by omega
 have O:∀a b:Nat,a<=b->a*sz<=b*sz:=λa b b7=>Nat.mul_le_mul_right sz b7;have E:((d.take i).flatMap enc).length=i*sz:=by rw [jv r,List.length_take];congr 1;omega
 have wz:((d.drop i).flatMap enc).length=(d.length-i)*sz:=by rw [jv r,List.length_drop]
 have c5:d.flatMap enc=(d.take i).flatMap enc++(d.drop i).flatMap enc:=by rw [<-List.flatMap_append,List.take_append_drop]
 have f5:(d.take i++e::d.drop i).flatMap enc=(d.take i).flatMap enc++enc e++(d.drop i).flatMap enc:=by simp
 have b0:(d.take i++e::d.drop i).length=d.length+1:=by simp;omega
 have j:(i+1)*sz=i*sz+sz:=by grind
 have e2:(d.length+1)*sz=i*sz+sz+(d.length-i)*sz:=by grind
 have Z:=tX D (d.drop i);rcases o.2.2 with ⟨ob,oc,_⟩ | ⟨b,f,ob,rfl,m,k,Y⟩
 ·omega
 have e3:s.cap≠0:=by omega
 rw [ob];rw [hs] at Y;have e4:d.length*sz<=f.length:=by rw [k];exact O _ _ (by omega)
 have V:bq (some (⟨b,0,none⟩:Addr)) sz 0 s.cap=some ⟨b,0,none⟩:=by rw [xa (by omega)];simp
 have W:bq (some (⟨b,0,none⟩:Addr)) sz i s.cap=some ⟨b,i*sz,none⟩:=by rw [xa (by omega)];simp
 have f6:d.length*sz=i*sz+(d.length-i)*sz:=by grind
 have d3:qP h (some ⟨b,0,none⟩) (i*sz) ((d.take i).flatMap enc):=m.rd E (by
  rw [List.drop_zero];have:f.take (i*sz)=(f.take (d.length*sz)).take (i*sz):=by rw [List.take_take];congr 1;omega
  grind)
 have d1:qP h (some ⟨b,i*sz,none⟩) ((d.length-i)*sz) ((d.drop i).flatMap enc):=m.rd wz (by
  have:(f.drop (i*sz)).take ((d.length-i)*sz)=(f.take (d.length*sz)).drop (i*sz):=by rw [List.drop_take];congr 1;omega
  grind)
 by_cases e9:s.cap<d.length+1
 ·rw [if_pos (show (decide ((s.len:Int)+1>(s.cap:Int)))=true by simp;omega)];refine ⟨by omega,aE ?_⟩;rw [V];have w3:yw ((s.len:Int)+1-(i:Int))=((d.length+1-i:Nat):Int):=by rw [aV];omega
  rw [w3];have C:(((d.length+1-i:Nat):Int)).toNat=d.length+1-i:=by omega
  refine XU (l:=⟨some ⟨b,0,none⟩,i-0,s.cap-0⟩) (by omega) d3 ?_ (c6 _) ?_ λg c M B hc l1 m1 k1=> ?_
  ·grind
  ·grind
  rw [C] at hc k1;have b5:(i-0)+(d.length+1-i)=d.length+1:=by omega
  have X:d.length+1<=c:=by grind
  have c8:eS M g ((d.take i).flatMap enc++fC zero (d.length+1-i)++fC zero (c-(d.length+1))):=by grind
  have c3:(⟨some ⟨b,0,none⟩,i-0,s.cap-0⟩:Sl).len+(((d.length+1-i:Nat):Int)).toNat=d.length+1:=by rw [C];exact b5
  rw [c3];have e7:g≠b:=λp=>by rw [p] at B;exact m.known B
  have e8:g≠y:=λp=>by rw [p] at B;exact I.known B
  refine ⟨by grind,aE ?_⟩;rw [xa (show c≠i by omega),Nat.zero_add];have b1:∀n,(fC zero n).length=n*sz:=λn=>by rw [BO,hz]
  have d7:((d.take i).flatMap enc++fC zero (d.length+1-i)++fC zero (c-(d.length+1))).length=c*sz:=by rw [List.length_append,List.length_append,E,b1,b1,<-Nat.add_mul,<-Nat.add_mul];congr 1;omega
  have d4:qP M v.base (1*sz) (enc e):=by simpa using (J.mono l1).2
  refine GC (n:=1) c8 (by grind) d4 (D e) (by grind) λA w S=> ?_;refine ⟨by grind,aE ⟨by omega,aE ?_⟩⟩;rw [xa (show c≠i+1 by omega),Nat.zero_add,W];have c9:eS A b f:=(m.le l1).mv w (by grind);have d2:qP A (some ⟨b,i*sz,none⟩) ((d.length-i)*sz) ((d.drop i).flatMap enc):=c9.rd wz (by
   grind)
  have G:=S;rw [Nat.one_mul] at G;have L:((d.take i).flatMap enc++fC zero (d.length+1-i)++fC zero (c-(d.length+1))).take (i*sz)=(d.take i).flatMap enc:=by grind
  rw [L] at G;have c4:(((d.take i).flatMap enc++fC zero (d.length+1-i)++fC zero (c-(d.length+1))).drop (i*sz+sz)).length=c*sz-(i*sz+sz):=by grind
  generalize ((d.take i).flatMap enc++fC zero (d.length+1-i)++fC zero (c-(d.length+1))).drop (i*sz+sz)=rest at G c4;have d9:=O _ _ X;refine GC (n:=d.length-i) G (by grind) d2 Z (by
   grind) λh3 U H=> ?_
  refine hq _ _ [g] ⟨b0.symm,X,.inr ⟨g,_,rfl,rfl,H,?_,?_⟩⟩ ?_
  ·grind
  ·grind
  ·have d0:Mv [b] h [g] M:=m1.sub (λb hb=>by cases hb) λb hb=>.inl hb;exact d0.trans (w.trans U)
 ·rw [if_neg (show ¬(decide ((s.len:Int)+1>(s.cap:Int)))=true by simp;omega)];refine ⟨by omega,aE ⟨?_,aE ?_⟩⟩
  ·show (0:Int)<=((i+1:Nat):Int)/\((i+1:Nat):Int)<=(((((s.len:Int)+1).toNat-0:Nat)):Int);omega
  have c2:((s.len:Int)+1).toNat-0=d.length+1:=by omega
  have c0:s.cap-0=s.cap:=by omega
  rw [V,c2,c0];have b9:bq (some (⟨b,0,none⟩:Addr)) sz (i+1) s.cap=some ⟨b,(i+1)*sz,none⟩:=by rw [xa (by omega)];simp
  show lx P (Extern.SlicesOverlaps.overlaps #[tS,tS] #[tR] #[.slice v.base v.len v.cap,.slice (bq (some (⟨b,0,none⟩:Addr)) sz (i+1) s.cap) (d.length+1-(i+1)) (s.cap-(i+1))]) bH _ h;rw [b9,hv];refine ZO ht c1 I m (λp=>a8 (by rw [p];exact List.mem_singleton.2 rfl)) ?_;rw [if_pos (by rfl)];refine ⟨by show (0:Int)<=((i+1:Nat):Int)/\((i+1:Nat):Int)<=((d.length+1:Nat):Int);omega,aE ⟨by show (0:Int)<=i/\(i:Int)<=((d.length+1:Nat):Int);omega,aE ?_⟩⟩;have d8:(d.length+1)*sz<=s.cap*sz:=O _ _ (by omega);have b8:bq (some (⟨b,0,none⟩:Addr)) sz i s.cap=some ⟨b,i*sz,none⟩:=W;show gE sz ⟨some ⟨b,(i+1)*sz,none⟩,d.length+1-(i+1),s.cap-(i+1)⟩ ⟨bq (some (⟨b,0,none⟩:Addr)) sz i s.cap,d.length+1-i,s.cap-i⟩ _ h;rw [b8];refine GC (n:=d.length-i) m (by show min (d.length+1-i) (d.length+1-(i+1))=_;omega) d1 Z (by rw [k,j];omega) λA w S=> ?_;refine ⟨by show (0:Int)<=i/\(i:Int)<=((d.length+1:Nat):Int);omega,aE ?_⟩;have d5:qP A v.base (1*sz) (enc e):=by
   refine ⟨by rw [r,Nat.one_mul],?_⟩;rcases d6.2 with e0 | ⟨a,N,hl⟩
   ·exact .inl e0
   ·refine .inr ⟨a,N,λq u hu=> ?_⟩;have:=hl q u hu;rw [hv] at N;cases N;rw [kE] at this ⊢;obtain ⟨t,ek⟩:=id I;obtain ⟨t',b6⟩:=I.mv w (λC=>a8 C);rw [Fh ek] at this;rw [Fh b6];exact this
  have L:(f.take ((i+1)*sz)++(d.drop i).flatMap enc++f.drop ((i+1)*sz+(d.length-i)*sz)).take (i*sz)=(d.take i).flatMap enc:=by
   rw [List.append_assoc,List.take_append_of_le_length (by rw [List.length_take,k];rw [j];omega),List.take_take];have:f.take (min (i*sz) ((i+1)*sz))=(f.take (d.length*sz)).take (i*sz):=by rw [List.take_take];congr 1;rw [j];omega
   rw [this,Y,c5,<-E,List.take_left]
  have b4:(f.take ((i+1)*sz)++(d.drop i).flatMap enc++f.drop ((i+1)*sz+(d.length-i)*sz)).drop (i*sz+1*sz)=(d.drop i).flatMap enc++f.drop ((i+1)*sz+(d.length-i)*sz):=by
   have:i*sz+1*sz=(f.take ((i+1)*sz)).length:=by rw [List.length_take,k,j,Nat.one_mul];omega
   rw [List.append_assoc,this,List.drop_left]
  refine GC (n:=1) S (by show min v.len (d.length+1-i)=1;omega) d5 (D e) (by
   simp only [List.length_append,List.length_take,List.length_drop,wz,k,j,Nat.one_mul];omega) λh3 U H=> ?_
  rw [L,b4] at H;refine hq _ _ [b] ⟨b0.symm,by show d.length+1<=s.cap;omega,.inr ⟨b,_,rfl,rfl,H,?_,?_⟩⟩ (w.trans U)
  ·simp only [List.length_append,List.length_drop,E,r,wz,k,j];show _=s.cap*sz;omega
  grind
def Ay (P:Program) (sz bytes:Nat) (zero:List Value) (c:Nat) (s:Sl) (i j:Int) (Q:Sl->Hp->Prop) (h:Hp):Prop:=
 (((0:Int)<=i/\(i<=j/\(j<=((s.len:Nat):Int)/\((s.len:Nat):Int)<=((s.cap:Nat):Int))))/\aF (α:=Sl) ⟨(bq s.base sz (Int.toNat i) (Int.toNat ((s.len:Nat):Int))),((Int.toNat j)-(Int.toNat i)),((Int.toNat ((s.len:Nat):Int))-(Int.toNat i))⟩ λ_=>
 (if (i==j)=true then
 Q s h
 else
 (((0:Int)<=i/\i<=((s.cap:Nat):Int))/\aF (α:=Sl) ⟨(bq s.base sz 0 s.cap),((Int.toNat i)-0),(s.cap-0)⟩ λd=>
 (((0:Int)<=j/\j<=((s.len:Nat):Int))/\aF (α:=Sl) ⟨(bq s.base sz (Int.toNat j) s.cap),(s.len-(Int.toNat j)),(s.cap-(Int.toNat j))⟩ λe=>
 eC sz bytes zero d e (λr a=>
 (((0:Int)<=((r.len:Nat):Int)/\(((r.len:Nat):Int)<=((s.len:Nat):Int)/\((s.len:Nat):Int)<=((r.cap:Nat):Int)))/\aF (α:=Sl) ⟨(bq r.base sz (Int.toNat ((r.len:Nat):Int)) r.cap),((Int.toNat ((s.len:Nat):Int))-(Int.toNat ((r.len:Nat):Int))),(r.cap-(Int.toNat ((r.len:Nat):Int)))⟩ λf=>
 n0 P (Builtin.clear_ #[c] 0 #[f.v]) v7 (λb=>
 Q r b) a)) h))))
theorem ab2 {bytes tS tE:Nat} {z:Value} {s:Sl} {c:List α} {F:List Nat} {i j:Nat} {Q:Sl->Hp->Prop}
  (R:P.underlying tS=some (.slice tE)) (V:∀ {K:Value->Hp->Prop} {h:Hp},K z h->dz P (zeroValue tE) K h) (f:∀x,(enc x).length=sz) (L:∀x,jL (enc x)=true) (u:(bA z).length=sz) (U:∀n,jL (fC (bA z) n)=true)
  (o:dF h sz enc s c F) (b2:i<j) (H:j<=c.length) (hb:c.length<=140737488355328/\c.length*bytes<=140737488355328)
  (M:∀w g,dF g sz enc w (c.take i++c.drop j) F->Mv F h F g->Q w g):Ay P sz bytes (bA z) tS s (i:Int) (j:Int) Q h:=by
 have O:=o.1;have b5:=o.2.1;unfold Ay;have W:(i:Int).toNat=i:=by omega
 have X:(j:Int).toNat=j:=by omega
 have st:(s.len:Int).toNat=c.length:=by omega
 rw [W,X,st];refine ⟨by omega,aE ?_⟩;rw [if_neg (show ¬(((i:Int)==(j:Int))=true) by simp;omega)];have e:∀a b:Nat,a<=b->a*sz<=b*sz:=λa b B=>Nat.mul_le_mul_right sz B;have T:((c.take i).flatMap enc).length=i*sz:=by rw [jv f,List.length_take];congr 1;omega
 have wz:((c.drop j).flatMap enc).length=(c.length-j)*sz:=by rw [jv f,List.length_drop]
 rcases o.2.2 with ⟨y,oc,_⟩ | ⟨b,d,y,rfl,l,m,k⟩
 ·omega
 rw [y];rw [O] at k;have b1:c.length*sz<=d.length:=by rw [m];exact e _ _ (by omega)
 have C:bq (some (⟨b,0,none⟩:Addr)) sz 0 s.cap=some ⟨b,0,none⟩:=by rw [xa (by omega)];simp
 have b3:=e i c.length (by omega);have b4:=e j c.length H;have b7:c.length*sz=j*sz+(c.length-j)*sz:=by rw [<-Nat.add_mul];congr 1;omega
 have b6:i*sz<=j*sz:=e _ _ (by omega);have S:d.take (i*sz)=(c.take i).flatMap enc:=by rw [C5 f,<-k,List.take_take];congr 1;omega
 have a9:qP h (some ⟨b,0,none⟩) ((i-0)*sz) ((c.take i).flatMap enc):=l.rd T (by rw [List.drop_zero];exact S);have a8:qP h (bq (some (⟨b,0,none⟩:Addr)) sz j s.cap) ((c.length-j)*sz) ((c.drop j).flatMap enc):=by
  by_cases E:s.cap=j
  ·refine ⟨wz,.inl ?_⟩;have:c.length-j=0:=by omega
   rw [this,Nat.zero_mul]
  ·rw [xa E,Nat.zero_add];refine l.rd wz ?_;rw [BU f,<-k,List.drop_take];congr 1;omega
 refine ⟨by omega,aE ⟨by omega,aE ?_⟩⟩;rw [C];have J:i-0+(c.length-j)<=c.length:=by omega
 have b0:(i-0+(c.length-j))*bytes<=c.length*bytes:=Nat.mul_le_mul_right _ J;have t:(⟨bq (some (⟨b,0,none⟩:Addr)) sz j s.cap,s.len-j,s.cap-j⟩:Sl).len=c.length-j:=by show s.len-j=_;omega
 refine N0 (n:=c.length-j) l a9 (by rw [t];exact a8) t (tX L _) ⟨by omega,by omega⟩ (by omega) (by
  have:i-0=i:=by omega
  rw [this,Nat.zero_add,m];have:=e (i+(c.length-j)) s.cap (by omega);rw [Nat.add_mul] at this;exact this) λA Z v=> ?_
 have p:i-0=i:=by omega
 rw [p,Nat.zero_add] at v;show ((0:Int)<=((i-0+(c.length-j):Nat):Int)/\((i-0+(c.length-j):Nat):Int)<=(s.len:Int)/\(s.len:Int)<=((s.cap-0:Nat):Int))/\aF (α:=Sl) ⟨bq (some ⟨b,0,none⟩) sz (((i-0+(c.length-j):Nat):Int)).toNat (s.cap-0),c.length-(((i-0+(c.length-j):Nat):Int)).toNat,s.cap-0-(((i-0+(c.length-j):Nat):Int)).toNat⟩ _;refine ⟨by omega,aE ?_⟩;have I:(((i-0+(c.length-j):Nat):Int)).toNat=i+(c.length-j):=by omega
 have D:s.cap-0=s.cap:=by omega
 rw [I,D,xa (show s.cap≠i+(c.length-j) by omega),Nat.zero_add];have G:c.length-(i+(c.length-j))=j-i:=by omega
 have r:(i+(c.length-j))*sz=i*sz+(c.length-j)*sz:=Nat.add_mul _ _ _;have q:(d.take (i*sz)++(c.drop j).flatMap enc++d.drop (i*sz+(c.length-j)*sz)).length=d.length:=by simp only [List.length_append,List.length_take,List.length_drop,wz];omega
 show n0 P (Builtin.clear_ #[tS] 0 #[.slice (some ⟨b,(i+(c.length-j))*sz,none⟩) (c.length-(i+(c.length-j))) (s.cap-(i+(c.length-j)))]) v7 _ A;rw [G];refine Pm R V U v (by
  rw [q,u,r];have:i*sz+(j-i)*sz=j*sz:=by rw [<-Nat.add_mul];congr 1;omega
  omega) λh2 m2 Y=> ?_
 have N:(c.take i++c.drop j).length=i+(c.length-j):=by simp;omega
 refine M _ _ ⟨?_,?_,.inr ⟨b,_,rfl,rfl,Y,?_,?_⟩⟩ (Z.trans m2)
 ·rw [N,p]
 ·show i-0+(c.length-j)<=s.cap;omega
 ·simp only [List.length_append,List.length_take,List.length_drop,q,BO,u];show _=s.cap*sz;have:i*sz+(j-i)*sz=j*sz:=by rw [<-Nat.add_mul];congr 1;omega
  rw [r];omega
 grind
end
def ff {g:Type} (sz:Nat) (enc:g->List Value) (l:Sl) (xs:List g):eD where
 R k F:=l.len=xs.length/\l.len<=l.cap/\((l.base=none/\l.cap=0/\∀b,¬F b)\/∃(b off:Nat) (cs:List Value),l.base=some ⟨b,off,none⟩/\(∀c,F c↔c=b)/\eS k b cs/\off+l.cap*sz<=cs.length/\(cs.drop off).take (l.len*sz)=xs.flatMap enc)
 same:=by rintro k p F ⟨j,m,d⟩ o;refine ⟨j,m,d.imp id ?_⟩;rintro ⟨b,off,cs,e,a,⟨t,f⟩,i⟩;exact ⟨b,off,cs,e,a,⟨t,by grind⟩,i⟩
 known:=by
  rintro k F ⟨_,_,d⟩ c n;rcases d with ⟨_,_,h⟩ | ⟨b,off,cs,e,a,f,_⟩
  ·grind
  ·rw [(a c).1 n];exact f.known
section
variable {α:Type} {h0 k:Hp} {sz:Nat} {enc:α->List Value} {l:Sl} {xs:List α}
theorem Has.mJ {h0 k:Hp} (a:h0<=k):Has h0 (ff sz enc ⟨none,0,0⟩ ([]:List α)) k:=⟨a,λ_=>False,⟨rfl,Nat.le_refl _,.inl ⟨rfl,rfl,λ_ h=>h⟩⟩,λ_ h=>h.elim⟩
theorem Has.jR (o:Has h0 (ff sz enc l xs) k):l.len=xs.length:=by obtain ⟨_,_,h,_⟩:=o;exact h.1
theorem Has.yu (o:Has h0 (ff sz enc l xs) k):l.len<=l.cap:=by obtain ⟨_,_,h,_⟩:=o;exact h.2.1
theorem Has.mO (o:Has h0 (ff sz enc l xs) k) (c:∀x,(enc x).length=sz):Rw k sz enc l xs:=by
 obtain ⟨_,F,⟨h1,h,a⟩,_⟩:=o;refine ⟨h1,jv c xs,?_⟩;rcases a with ⟨e,g,_⟩ | ⟨b,off,f,e,_,hb,i,d⟩
 ·grind
 ·right;exact ⟨_,e,hb.bU (n:=l.len*sz) d⟩
theorem Has.yk {b:Nat} {cs:List Value} (h:h0<=k) (i:h0 b=none) (hb:eS k b cs) (f:l.base=some ⟨b,0,none⟩) (a:l.len=xs.length) (d:l.len<=l.cap) (j:cs.length=l.cap*sz) (e:cs.take (l.len*sz)=xs.flatMap enc):Has h0 (ff sz enc l xs) k:=
 ⟨h,λc=>c=b,⟨a,d,.inr ⟨b,0,cs,f,λ_=>Iff.rfl,hb,by omega,by simpa using e⟩⟩,λc g=>by rw [g];exact i⟩
theorem Has.Dx {F:List Nat} (o:dF k sz enc l xs F) (d:h0<=k) (j:∀b∈F,h0 b=none):Has h0 (ff sz enc l xs) k:=by
 obtain ⟨a,c,g⟩:=o;rcases g with ⟨e,f,rfl⟩ | ⟨b,n,e,rfl,hb,i,m⟩
 ·exact ⟨d,λ_=>False,⟨a,c,.inl ⟨e,f,λ_ h=>h⟩⟩,λ_ h=>h.elim⟩
 ·exact Has.yk d (j b (List.mem_singleton.2 rfl)) hb e a c i m
theorem oh {k:Hp} {cs:List Value} {K:Addr->Hp->Prop} (d:cs=xs.flatMap enc) (e:∀x,(enc x).length=sz) (f:∀a c,k<=c->Has k (ff sz enc ⟨some a,xs.length,xs.length⟩ xs) c->K a c):bc cs K k:=by intro b t hb;refine f _ _ (mY hb) (Has.yk (b:=b) (cs:=cs) (mY hb) hb ⟨t,nz⟩ rfl rfl (Nat.le_refl _) (by rw [d,jv e]) ?_);rw [d];show List.take (xs.length*sz) _=_;rw [<-jv e xs,List.take_length]
theorem Has.app {zero:List Value} {bytes:Nat} {x:Sl} {d:List α} {K:Sl->Hp->Prop} (o:Has h0 (ff sz enc l xs) k) (r:Rw k sz enc x d) (f:∀x,(enc x).length=sz) (J:∀x,jL (enc x)=true)
  (N:zero.length=sz) (hb:xs.length+d.length<=140737488355328/\(xs.length+d.length)*bytes<=140737488355328)
  (q:∀z y,Has h0 (ff sz enc z (xs++d)) y->K z y):eC sz bytes zero l x K k:=by
 have L:=o.mO f;obtain ⟨i,F,⟨h1,D,E⟩,p⟩:=o;obtain ⟨g,X⟩:=r;refine ⟨d.flatMap enc,by grind,xs.flatMap enc,by rw [h1];exact L.2,by grind,tX J d,λw=> ?_,λw c b t G v=> ?_⟩
 ·rcases E with ⟨e,m,h⟩ | ⟨b,off,cs,e,h,u,T,M⟩
  ·have A:d.length=0:=by omega
   have B:d=[]:=List.length_eq_zero_iff.1 A;subst B;refine ⟨λa n=>(by grind),?_⟩;have j:gP k l.base (l.len*sz) (([]:List α).flatMap enc)=k:=by rw [e];rfl
   rw [j,g];exact q _ k ⟨i,F,⟨by simp [h1],by simpa using D,.inl ⟨e,m,h⟩⟩,p⟩
  ·have V:l.len*sz+(d.flatMap enc).length<=l.cap*sz:=by rw [jv f,<-Nat.add_mul];exact Nat.mul_le_mul_right sz (by omega)
   obtain ⟨P,Q⟩:=u.put (off:=off+l.len*sz) (new:=d.flatMap enc) (by omega);have W:h0 b=none:=p b ((h b).2 rfl);refine ⟨λa n=> ?_,?_⟩
   ·rw [e] at n;cases n;rw [kE];refine u.uV _ ?_;rw [g,<-jv f d];omega
   ·have j:gP k l.base (l.len*sz) (d.flatMap enc)=lz k ⟨b,off+l.len*sz,none⟩ (d.flatMap enc) 0:=by rw [e];simp only [gP,kE]
    rw [j];refine q _ _ ⟨λc O m=> ?_,F,⟨by simp [h1,g],w,.inr ⟨b,off,_,e,h,P,?_,?_⟩⟩,p⟩
    ·have I:c≠b:=λR=>by grind
     rw [Q c I];exact i c O m
    ·grind
    ·have U:off+l.len*sz<=cs.length:=by omega
     have s:(l.len+x.len)*sz=l.len*sz+(d.flatMap enc).length:=by rw [g,jv f,Nat.add_mul]
     have C:(cs.take (off+l.len*sz)).drop off=xs.flatMap enc:=by rw [List.drop_take,<-M];congr 1;omega
     show List.take ((l.len+x.len)*sz) _=_;rw [s,List.append_assoc,List.drop_append_of_le_length (by rw [List.length_take];omega),C,List.flatMap_append,<-List.append_assoc];have S:l.len*sz+(d.flatMap enc).length=(xs.flatMap enc++d.flatMap enc).length:=by rw [List.length_append,jv f xs,h1]
     grind
 ·have H:h0 b=none:=qj i v;refine q _ _ (Has.yk (b:=b) (cs:=xs.flatMap enc++d.flatMap enc++fC zero (c-(l.len+x.len))) (Hp.le_trans i (mY v)) H ⟨t,nz⟩ rfl (by simp [h1,g]) G ?_ ?_)
  ·rw [List.length_append,List.length_append,jv f,jv f,BO,N,<-Nat.add_mul,<-Nat.add_mul];grind
  ·have s:(l.len+x.len)*sz=(xs.flatMap enc++d.flatMap enc).length:=by rw [List.length_append,jv f,jv f,h1,g,Nat.add_mul]
   grind
theorem Has.push {zero:List Value} {bytes:Nat} {e:α} {cs:List Value} {K:Sl->Hp->Prop} (o:Has h0 (ff sz enc l xs) k) (g:cs=enc e) (b:∀x,(enc x).length=sz) (j:∀x,jL (enc x)=true)
  (m:zero.length=sz) (hb:xs.length+1<=140737488355328/\(xs.length+1)*bytes<=140737488355328)
  (h:∀f c,Has h0 (ff sz enc f (xs++ [e])) c->K f c):bc cs (λa d=>eC sz bytes zero l ⟨some a,1,1⟩ K d) k:=by
 refine oh (xs:=[e]) (sz:=sz) (enc:=enc) (by rw [g];simp) b λa d i n=> ?_;exact (o.grow i).app (n.mO b) b j m hb h
theorem Has.Ax (o:Has h0 (ff sz enc l xs) k) (i:∀x,(enc x).length=sz) {n c:Nat} (w:n<=xs.length) (t:n<=c) (u:c<=l.cap):Has h0 (ff sz enc ⟨bq l.base sz 0 c,n-0,c-0⟩ (xs.take n)) k:=by
 obtain ⟨m,F,⟨r,s,g⟩,j⟩:=o;have hb:bq l.base sz 0 c=l.base:=by
  unfold bq;split
  ·rfl
  ·cases l.base with
   | none=>rfl
   | some a=>obtain ⟨b,off,sp⟩:=a;simp [Addr.add]
 refine ⟨m,F,⟨by simp;omega,by simp;omega,?_⟩,j⟩;rw [hb];rcases g with ⟨e,q,d⟩ | ⟨b,off,f,e,d,h,v,p⟩
 ·grind
 ·refine .inr ⟨b,off,f,e,d,h,?_,?_⟩
  ·have:(c-0)*sz<=l.cap*sz:=Nat.mul_le_mul_right sz (by omega);grind
  ·show List.take ((n-0)*sz) _=_;rw [C5 i,<-p,List.take_take];congr 1;have:n*sz<=l.len*sz:=Nat.mul_le_mul_right sz (by omega);grind
theorem Has.rY {a:α} {r:List α} (o:Has h0 (ff sz enc l (a::r)) k) (y:∀x,(enc x).length=sz) {c:Nat} (v:l.len<=c) (w:c<=l.cap):Has h0 (ff sz enc ⟨bq l.base sz 1 c,l.len-1,c-1⟩ r) k:=by
 obtain ⟨n,F,⟨h1,u,j⟩,m⟩:=o;have p:l.len=r.length+1:=by simpa using h1
 refine ⟨n,F,⟨by grind,by grind,?_⟩,m⟩;rcases j with ⟨e,t,d⟩ | ⟨b,off,f,e,d,g,z,s⟩
 ·omega
 ·by_cases h:c=1
  ·have q:r=[]:=List.length_eq_zero_iff.1 (by omega);subst q;refine .inr ⟨b,off,f,?_,d,g,?_,?_⟩
   ·show bq l.base sz 1 c=_;unfold bq;rw [if_pos h];exact e
   ·show off+(c-1)*sz<=_;have:(c-1)*sz<=l.cap*sz:=Nat.mul_le_mul_right sz (by omega);omega
   grind
  ·refine .inr ⟨b,off+1*sz,f,?_,d,g,?_,?_⟩
   ·show bq l.base sz 1 c=_;rw [e,xa h]
   ·show off+1*sz+(c-1)*sz<=_;have:1*sz+(c-1)*sz<=l.cap*sz:=by rw [<-Nat.add_mul];exact Nat.mul_le_mul_right sz (by omega)
    omega
   ·show List.take ((l.len-1)*sz) _=_;have i:(List.flatMap enc (a::r)).drop sz=r.flatMap enc:=by grind
    rw [<-i,<-s,List.drop_take,List.drop_drop,Nat.one_mul];congr 1;rw [p,Nat.add_mul,Nat.one_mul];simp
theorem Vv (b:∀x,(enc x).length=sz) {off n:Nat} {a:List Value} (h:n=xs.length) (f:off+n*sz<=a.length) (d:(a.drop off).take (n*sz)=xs.flatMap enc) {i:Nat} (c:i<xs.length) (x:α):
  ((a.take (off+i*sz)++enc x++a.drop (off+i*sz+sz)).drop off).take (n*sz)=(xs.set i x).flatMap enc:=by
 have g:i*sz+sz<=n*sz:=by have:=Nat.mul_le_mul_right sz (show i+1<=n by omega);rw [Nat.add_mul,Nat.one_mul] at this;exact this
 rw [FE x c,List.flatMap_append,List.flatMap_cons,C5 b,BU b,<-d];have t1:((a.take (off+i*sz)).drop off)=(a.drop off).take (i*sz):=by rw [List.drop_take];congr 1;omega
 rw [List.append_assoc,List.drop_append_of_le_length (by rw [List.length_take];omega),t1,List.take_take,Nat.min_eq_left (by omega)];have e:((a.drop off).take (i*sz)).length=i*sz:=by rw [List.length_take,List.length_drop];omega
 rw [List.take_append,e,List.take_of_length_le (by omega),List.take_append,b,List.take_of_length_le (l:=enc x) (by rw [b];omega)];congr 2;rw [List.drop_take,List.drop_drop];grind
theorem Has.DG (o:Has h0 (ff sz enc l xs) k) (g:∀x,(enc x).length=sz) {i:Nat} {x x':α} (s:xs[i]? =some x) {off:Nat} {new:List Value} (S:off+new.length<=sz) (M:(enc x).take off++new++(enc x).drop (off+new.length)=enc x')
  {K:Hp->Prop} (J:∀j,Has h0 (ff sz enc l (xs.set i x')) j->K j):cX k ((sat l.base sz (i:Int)).add off) new K:=by
 have r:i<xs.length:=(List.getElem?_eq_some_iff.1 s).1;obtain ⟨L,F,⟨t,f,n⟩,w⟩:=o;rcases n with ⟨e,h,q⟩ | ⟨b,a,d,e,q,H,P,A⟩
 ·omega
 ·have N:h0 b=none:=w b ((q b).2 rfl);have Q:i*sz+sz<=l.len*sz:=by have:=Nat.mul_le_mul_right sz (show i+1<=l.len by omega);rw [Nat.add_mul,Nat.one_mul] at this;exact this
  have R:l.len*sz<=l.cap*sz:=Nat.mul_le_mul_right sz f;have G:(sat l.base sz (i:Int)).add off=⟨b,a+i*sz+off,none⟩:=by unfold sat;rw [e,Option.getD_some,kE,kE,Int.toNat_natCast]
  rw [G];have O:(d.drop (a+i*sz)).take sz=enc x:=by
   have f:(xs.drop i).flatMap enc=enc x++(xs.drop (i+1)).flatMap enc:=by rw [List.drop_eq_getElem_cons r,List.flatMap_cons];rw [List.getElem?_eq_getElem r] at s;rw [Option.some.inj s]
   have n:(xs.drop i).flatMap enc=(d.drop (a+i*sz)).take (l.len*sz-i*sz):=by rw [BU g,<-A,List.drop_take,List.drop_drop]
   rw [n] at f;have p:=congrArg (List.take sz) f;rw [List.take_take,Nat.min_eq_left (by omega),<-g x,List.take_left] at p;rw [g x] at p;exact p
  have v:d=d.take (a+i*sz)++(enc x++d.drop (a+i*sz+sz)):=by
   have E:d.drop (a+i*sz+sz)=(d.drop (a+i*sz)).drop sz:=by rw [List.drop_drop]
   rw [<-O,E,List.take_append_drop,List.take_append_drop]
  have y:(d.take (a+i*sz)).length=a+i*sz:=by rw [List.length_take];omega
  have z:(enc x).length=sz:=g x;have C:d.take (a+i*sz+off)=d.take (a+i*sz)++(enc x).take off:=by
   conv=>lhs;rw [v]
   rw [List.take_append,y,List.take_of_length_le (by omega),List.take_append,z,show a+i*sz+off-(a+i*sz)=off by omega,show off-sz=0 by omega,List.take_zero,List.append_nil]
  have D:d.drop (a+i*sz+off+new.length)=(enc x).drop (off+new.length)++d.drop (a+i*sz+sz):=by
   conv=>lhs;rw [v]
   rw [List.drop_append,y,List.drop_eq_nil_of_le (by omega),List.nil_append,List.drop_append,z,show a+i*sz+off+new.length-(a+i*sz)=off+new.length by omega,show off+new.length-sz=0 by omega,List.drop_zero]
  refine qQ H (by omega) λj m u=> ?_;rw [C,D,show d.take (a+i*sz)++(enc x).take off++new++((enc x).drop (off+new.length)++d.drop (a+i*sz+sz))=d.take (a+i*sz)++enc x'++d.drop (a+i*sz+sz) by rw [<-M];simp] at u;refine J j ⟨λc B h=>m.bO c B (L c B h) (λI=>(by rw [List.mem_singleton.1 I,N] at h;cases h)),F,⟨by simp [t],f,.inr ⟨b,a,_,e,q,u,?_,Vv g t (by omega) A r x'⟩⟩,w⟩;grind
end
section
variable {P:Program} {α:Type} {h0 k:Hp} {sz:Nat} {enc:α->List Value} {s:Sl} {xs:List α}
theorem Pn {g q bytes:Nat} {zero:List Value} {x y:Operand} {Q:Sl->Hp->Prop} (m:P.underlying g=some (.slice q)) (r:Rw k sz enc s xs) (w:0<sz) (d:∀x,(enc x).length=sz) (l:∀x,jL (enc x)=true) (p:zero.length=sz)
  (hb:xs.length<=140737488355328/\xs.length*bytes<=140737488355328) (f:∀c b,k<=b->Has k (ff sz enc c xs) b->Q c b):
  jC none P (dx .eql g x y s.v (.slice none 0 0)) bH k λx=>(if x=true then Q ⟨none,0,0⟩ k else bc [] (λa h=>eC sz bytes zero ⟨(some a),0,0⟩ s (λr i=>Q r i) h) k):=by
 refine ⟨s.base.isNone,RM m s,?_⟩;cases u:s.base with
 | none=>
  rw [if_pos (show (none:Option Addr).isNone=true from rfl)];have:xs=[]:=by
   rcases r.2.2 with e | ⟨a,t,_⟩
   ·exact List.length_eq_zero_iff.1 ((Nat.mul_eq_zero.1 e).resolve_right (by omega))
   grind
  subst this;exact f _ k (Hp.le_refl k) (Has.mJ (Hp.le_refl k))
 | some a=>rw [jO];refine oh (xs:=([]:List α)) (enc:=enc) (sz:=sz) rfl d λa z j n=> ?_;refine n.app (Rw.mono j r) d l p (by simpa using hb) λc b o=> ?_;exact f c b o.le (by simpa using o)
def jP (f:α->Bool) (xs:List α):Int:=match xs.findIdx? f with
 | some i=>i
 | none=> -1
theorem DZ (f:α->Bool):∀xs:List α,jo f xs=if 0<=jP f xs then xs.take (jP f xs).toNat++xs.drop ((jP f xs).toNat+1) else xs
 | []=>by simp [jo,jP]
 | a::l=>by
  unfold jo;by_cases h:f a=true
  ·have:jP f (a::l)=0:=by unfold jP;grind
   rw [if_pos h,this];simp
  ·have b:=DZ f l;rw [if_neg h,b];unfold jP;grind
theorem MM {f:α->Bool} {xs:List α} (h:0<=jP f xs):jP f xs<xs.length:=by
 unfold jP at*;cases e:xs.findIdx? f with
 | none=>grind
 | some i=>have:=(List.findIdx?_eq_some_iff_getElem.1 e).1;grind
theorem MO {f:α->Bool} {xs:List α} {t:Nat} {x:α} (c:xs[t]? =some x) (a:f x=true) (b:∀(j:Nat) y,j<t->xs[j]? =some y->f y=false):jP f xs=t:=by
 have:xs.findIdx? f=some t:=by rw [List.findIdx?_eq_some_iff_getElem];grind
 unfold jP;rw [this]
theorem Bo {f:α->Bool} {xs:List α} (a:∀x∈xs,f x=false):jP f xs= -1:=by have:xs.findIdx? f=none:=List.findIdx?_eq_none_iff.2 a;unfold jP;rw [this]
theorem Has.Iq {bytes r G:Nat} {z:Value} {i j:Nat} {Q:Sl->Hp->Prop} (ht:P.underlying r=some (.slice G)) (b0:∀ {K:Value->Hp->Prop} {h:Hp},K z h->dz P (zeroValue G) K h) (e:∀x,(enc x).length=sz) (X:∀x,jL (enc x)=true) (hz:(bA z).length=sz) (a9:∀n,jL (fC (bA z) n)=true)
  (o:Has h0 (ff sz enc s xs) k) (b6:i<j) (T:j<=xs.length) (hb:xs.length<=140737488355328/\xs.length*bytes<=140737488355328)
  (Y:∀C A,Has h0 (ff sz enc C (xs.take i++xs.drop j)) A->Q C A):Ay P sz bytes (bA z) r s (i:Int) (j:Int) Q k:=by
 obtain ⟨U,F,⟨hs,c0,L⟩,v⟩:=o;unfold Ay;have it:(i:Int).toNat=i:=by omega
 have jt:(j:Int).toNat=j:=by omega
 have st:(s.len:Int).toNat=xs.length:=by omega
 rw [it,jt,st];refine ⟨by omega,aE ?_⟩;rw [if_neg (show ¬(((i:Int)==(j:Int))=true) by simp;omega)];have l:∀a b:Nat,a<=b->a*sz<=b*sz:=λa b M=>Nat.mul_le_mul_right sz M;have a8:((xs.take i).flatMap enc).length=i*sz:=by rw [jv e,List.length_take];congr 1;omega
 have wz:((xs.drop j).flatMap enc).length=(xs.length-j)*sz:=by rw [jv e,List.length_drop]
 rcases L with ⟨D,oc,_⟩ | ⟨b,off,d,D,u,q,b4,f⟩
 ·omega
 rw [D];rw [hs] at f;have hn:h0 b=none:=v b ((u b).2 rfl);have b5:off+xs.length*sz<=d.length:=by grind
 have N:bq (some (⟨b,off,none⟩:Addr)) sz 0 s.cap=some ⟨b,off,none⟩:=by rw [xa (by omega)];simp
 have b7:=l i xs.length (by omega);have b8:=l j xs.length T;have c3:xs.length*sz=j*sz+(xs.length-j)*sz:=by rw [<-Nat.add_mul];congr 1;omega
 have c2:i*sz<=j*sz:=l _ _ (by omega);have c1:(d.drop off).take (i*sz)=(xs.take i).flatMap enc:=by rw [C5 e,<-f,List.take_take];congr 1;omega
 have b2:qP k (some ⟨b,off,none⟩) ((i-0)*sz) ((xs.take i).flatMap enc):=q.rd a8 (by omega);have b1:qP k (bq (some (⟨b,off,none⟩:Addr)) sz j s.cap) ((xs.length-j)*sz) ((xs.drop j).flatMap enc):=by
  by_cases R:s.cap=j
  ·refine ⟨wz,.inl ?_⟩;grind
  ·rw [xa R];refine q.rd wz ?_;rw [BU e,<-f,List.drop_take,List.drop_drop];grind
 refine ⟨by omega,aE ⟨by omega,aE ?_⟩⟩;rw [N];have V:i-0+(xs.length-j)<=xs.length:=by omega
 have b3:(i-0+(xs.length-j))*bytes<=xs.length*bytes:=Nat.mul_le_mul_right _ V;have y:(⟨bq (some (⟨b,off,none⟩:Addr)) sz j s.cap,s.len-j,s.cap-j⟩:Sl).len=xs.length-j:=by grind
 have g:i-0=i:=by omega
 refine N0 (n:=xs.length-j) q b2 (by rw [y];exact b1) y (tX X _) ⟨by omega,by omega⟩ (by omega) (by
  grind) λJ m1 B=> ?_
 rw [g] at B;show ((0:Int)<=((i-0+(xs.length-j):Nat):Int)/\((i-0+(xs.length-j):Nat):Int)<=(s.len:Int)/\(s.len:Int)<=((s.cap-0:Nat):Int))/\aF (α:=Sl) ⟨bq (some ⟨b,off,none⟩) sz (((i-0+(xs.length-j):Nat):Int)).toNat (s.cap-0),xs.length-(((i-0+(xs.length-j):Nat):Int)).toNat,s.cap-0-(((i-0+(xs.length-j):Nat):Int)).toNat⟩ _;refine ⟨by omega,aE ?_⟩;have W:(((i-0+(xs.length-j):Nat):Int)).toNat=i+(xs.length-j):=by omega
 have O:s.cap-0=s.cap:=by omega
 rw [W,O,xa (show s.cap≠i+(xs.length-j) by omega)];have S:xs.length-(i+(xs.length-j))=j-i:=by omega
 have p:(i+(xs.length-j))*sz=i*sz+(xs.length-j)*sz:=Nat.add_mul _ _ _;have w:(d.take (off+i*sz)++(xs.drop j).flatMap enc++d.drop (off+i*sz+(xs.length-j)*sz)).length=d.length:=by grind
 show n0 P (Builtin.clear_ #[r] 0 #[.slice (some ⟨b,off+(i+(xs.length-j))*sz,none⟩) (xs.length-(i+(xs.length-j))) (s.cap-(i+(xs.length-j)))]) v7 _ J;rw [S];have b9:i*sz+(j-i)*sz=j*sz:=by rw [<-Nat.add_mul];congr 1;omega
 refine Pm ht b0 a9 B (by
  grind) λh2 m2 k2=> ?_
 have Z:(xs.take i++xs.drop j).length=i+(xs.length-j):=by simp;omega
 have m:=m1.trans m2;refine Y _ _ ⟨λc E I=>m.bO c E (U c E I) (λhc=>(by grind)),F,⟨?_,?_,.inr ⟨b,off,_,rfl,u,k2,?_,?_⟩⟩,v⟩
 ·rw [Z,g]
 ·grind
 ·simp only [List.length_append,List.length_take,List.length_drop,w,BO,hz];omega
 ·show List.take ((i-0+(xs.length-j))*sz) _=_;have t1:((d.take (off+i*sz)).drop off)=(xs.take i).flatMap enc:=by grind
  have t:i*sz+(xs.length-j)*sz=((xs.take i).flatMap enc++(xs.drop j).flatMap enc).length:=by grind
  have H:List.drop off (List.take (off+(i+(xs.length-j))*sz) (d.take (off+i*sz)++(xs.drop j).flatMap enc++d.drop (off+i*sz+(xs.length-j)*sz)))=(xs.take i).flatMap enc++(xs.drop j).flatMap enc:=by rw [List.drop_take,show off+(i+(xs.length-j))*sz-off=i*sz+(xs.length-j)*sz by rw [p];omega,List.append_assoc,List.drop_append_of_le_length (by grind),t1,<-List.append_assoc,t,List.take_left]
  rw [g,List.append_assoc,List.drop_append_of_le_length (by rw [List.length_take,w,p];omega),H,p,t,List.flatMap_append,List.take_left]
end
section
variable {V:Type}
def kQ (a:Int):List (Int×V)->Option (Nat×V)
 | []=>none
 | (k,v)::r=>if a=k then some (0,v) else (kQ a r).map λp=>(p.1+1,p.2)
def iY (a:Int):List (Int×V)->Option V
 | []=>none
 | (k,v)::r=>if a=k then some v else iY a r
def lP (a:Int) (v:V):List (Int×V)->List (Int×V)
 | []=> [(a,v)]
 | (k,u)::r=>if a=k then (a,v)::r else (k,u)::lP a v r
def nK (a:Int):List (Int×V)->List (Int×V)
 | []=> []
 | (k,u)::r=>if a=k then r else (k,u)::nK a r
theorem BB (a b:Int) (v:V):∀l:List (Int×V),iY a (lP b v l)=if a=b then some v else iY a l
 | []=>by simp [lP,iY]
 | (k,u)::r=>by
  simp only [lP];by_cases h:b=k
  ·rw [if_pos h];subst h;simp only [iY];split<;>rfl
  ·rw [if_neg h];simp only [iY,BB a b v r];grind
theorem Pp {a:Int}:∀ {l:List (Int×V)},a∉l.map (·.1)->iY a l=none
 | [],_=>rfl
 | (k,u)::r,h=>by simp only [List.map_cons,List.mem_cons,not_or] at h;simp only [iY];rw [if_neg h.1];exact Pp h.2
theorem KT (a b:Int):∀l:List (Int×V),(l.map (·.1)).Nodup->iY a (nK b l)=if a=b then none else iY a l
 | [],_=>by simp [nK,iY]
 | (k,u)::r,c=>by
  simp only [List.map_cons,List.nodup_cons] at c;simp only [nK];by_cases h:b=k
  ·rw [if_pos h];subst h;simp only [iY];by_cases d:a=b
   ·subst d;rw [if_pos rfl];exact Pp c.1
   grind
  ·rw [if_neg h];simp only [iY,KT a b r c.2];grind
theorem Pr (b:Int) (v:V):∀(l:List (Int×V)) (a:Int),a∈(lP b v l).map (·.1)↔a=b\/a∈l.map (·.1)
 | [],a=>by simp [lP]
 | (k,u)::r,a=>by
  simp only [lP];by_cases h:b=k
  ·subst h;simp
  ·rw [if_neg h];simp only [List.map_cons,List.mem_cons,Pr b v r a];grind
theorem OI (b:Int) (v:V):∀ {l:List (Int×V)},(l.map (·.1)).Nodup->((lP b v l).map (·.1)).Nodup
 | [],_=>by simp [lP]
 | (k,u)::r,a=>by
  simp only [List.map_cons,List.nodup_cons] at a;simp only [lP];by_cases h:b=k
  ·grind
  ·rw [if_neg h];simp only [List.map_cons,List.nodup_cons];refine ⟨λe=> ?_,OI b v a.2⟩;rcases (Pr b v r k).1 e with e | e
   ·exact h e.symm
   ·exact a.1 e
theorem KU (b:Int):∀(l:List (Int×V)),(nK b l).Sublist l
 | []=>.slnil
 | (k,u)::r=>by
  simp only [nK];split
  ·simp
  ·exact .cons_cons _ (KU b r)
theorem TD (b:Int) {l:List (Int×V)} (h:(l.map (·.1)).Nodup):((nK b l).map (·.1)).Nodup:=h.sublist ((KU b l).map _)
theorem Pu {b:Int}:∀ {l:List (Int×V)},iY b l=none->nK b l=l
 | [],_=>rfl
 | (k,u)::r,h=>by
  simp only [iY] at h;simp only [nK];split at h
  ·cases h
  ·rename_i e;rw [if_neg e,Pu h]
theorem Ge (a:Int):∀l:List (Int×V),iY a l=(kQ a l).map (·.2)
 | []=>rfl
 | (k,v)::r=>by
  simp only [iY,kQ];split
  ·rfl
  ·rw [Ge a r];simp [Function.comp_def]
def ia (h:Hp) (m:Nat) (k:IntKind) (ev:V->Value) (c:List (Int×V)):Prop:=
 ∃(a:List MapEntry) (ck:Nat),h m=some (.map a.toArray ck)/\a.map (λe=>(e.key,e.val))=c.map λp=>(Value.int k p.1,ev p.2)
variable {h:Hp} {m:Nat} {k:IntKind} {ev:V->Value} {c:List (Int×V)}
theorem Cd (a:Int):∀(d:List MapEntry) (c:List (Int×V)) (j:Nat),d.map (λe=>(e.key,e.val))=c.map (λp=>(Value.int k p.1,ev p.2))->
  Instr.findNow (.int k) (.int k a) d j=some ((kQ a c).map λp=>(p.1+j,ev p.2))
 | [],[],j,_=>rfl
 | [],_::_,j,h=>by simp at h
 | _::_,[],j,h=>by simp at h
 | e::d,(b,v)::r,j,h=>by
  simp only [List.map_cons,List.cons.injEq,Prod.mk.injEq] at h;obtain ⟨⟨g,i⟩,l⟩:=h;simp only [Instr.findNow,g,Instr.sameNow,if_true,kQ];by_cases f:a=b
  ·simp [f,i]
  ·have n:(a==b)=false:=by simpa using f
   rw [n,if_neg f];simp only;rw [Cd a d r (j+1) l];cases kQ a r with
   | none=>rfl
   | some p=>simp;omega
theorem BC {e:IntKind} {sh:Shape} {c:List (Int×sh.T)} {a:Int} {z:sh.T} {zero:Value} {K:sh.T->Bool->Prop} (o:ia h m e sh.enc c) (q:sh.enc z=zero) (l:iY a c=none->K z false)
  (n:∀v,iY a c=some v->K v true):pA none (.int e) sh zero (some m) (.int e a) h K:=by
 obtain ⟨f,ck,g,j⟩:=o;have b:=Cd (ev:=sh.enc) a f c 0 j;have d:=Ge a c;cases i:kQ a c with
 | none=>rw [i] at b d;exact ⟨z,false,⟨f,.inr ⟨m,ck,rfl,g⟩,.inl ⟨b,q,rfl⟩⟩,l d⟩
 | some p=>rw [i] at b d;exact ⟨p.2,true,⟨f,.inr ⟨m,ck,rfl,g⟩,.inr ⟨_,b,rfl⟩⟩,n p.2 d⟩
theorem Pv {a:Int} {v:V}:∀ {l:List (Int×V)},kQ a l=none->lP a v l=l++ [(a,v)]
 | [],_=>rfl
 | (k,u)::r,h=>by
  simp only [kQ] at h;split at h
  ·cases h
  ·rename_i e;simp only [lP];rw [if_neg e,Pv (by simpa using h)];rfl
theorem KV {a:Int} {v u:V} {ev:V->Value}:∀ {g:List MapEntry} {l:List (Int×V)} {i:Nat},g.map (λe=>(e.key,e.val))=l.map (λp=>(Value.int k p.1,ev p.2))->kQ a l=some (i,u)->
  (g.modify i λe=>{e with key:=.int k a,val:=ev v}).map (λe=>(e.key,e.val))=(lP a v l).map λp=>(Value.int k p.1,ev p.2)
 | _,[],_,_,h=>by simp [kQ] at h
 | [],_::_,_,h,_=>by simp at h
 | e::g,(b,w)::r,i,h,d=>by
  simp only [List.map_cons,List.cons.injEq] at h;simp only [kQ] at d;simp only [lP];split at d
  ·grind
  ·rename_i j;rw [if_neg j];cases f:kQ a r with
   | none=>rw [f] at d;simp at d
   | some p=>rw [f] at d;simp at d;obtain ⟨rfl,rfl⟩:=d;simp only [List.modify_succ_cons,List.map_cons,h.1];rw [KV h.2 f]
theorem OJ {a:Int} {u:V} {ev:V->Value}:∀ {g:List MapEntry} {l:List (Int×V)} {i:Nat},g.map (λe=>(e.key,e.val))=l.map (λp=>(Value.int k p.1,ev p.2))->kQ a l=some (i,u)->
  (g.eraseIdx i).map (λe=>(e.key,e.val))=(nK a l).map λp=>(Value.int k p.1,ev p.2)
 | _,[],_,_,h=>by simp [kQ] at h
 | [],_::_,_,h,_=>by simp at h
 | e::g,(b,w)::r,i,h,d=>by
  simp only [List.map_cons,List.cons.injEq] at h;simp only [kQ] at d;simp only [nK];split at d
  ·grind
  ·rename_i j;rw [if_neg j];cases f:kQ a r with
   | none=>rw [f] at d;simp at d
   | some p=>rw [f] at d;simp at d;obtain ⟨rfl,rfl⟩:=d;simp only [List.eraseIdx_cons_succ,List.map_cons,h.1];rw [OJ h.2 f]
theorem Pw {a:Int} {v:V} {K:Hp->Prop} (l:ia h m k ev c) (i:∀o,isCells o=false->ia (h.set m o) m k ev (lP a v c)->K (h.set m o)):u5 (.int k) (some m) (.int k a) (ev v) K h:=by
 obtain ⟨f,ck,j,g⟩:=l;have b:=Cd (ev:=ev) a f c 0 g;refine ⟨m,f.toArray,ck,rfl,j,?_⟩;cases d:kQ a c with
 | none=>
  rw [d] at b;refine .inl ⟨b,i _ rfl ⟨f++ [{key:=.int k a,val:=ev v,born:=ck}],ck+1,?_,?_⟩⟩
  ·rw [nz];simp
  ·rw [Pv d];simp [g]
 | some p=>rw [d] at b;refine .inr ⟨p.1,ev p.2,b,i _ rfl ⟨f.modify p.1 λe=>{e with key:=.int k a,val:=ev v},ck,?_,KV (u:=p.2) g d⟩⟩;rw [nz];simp
theorem Vw {a:Int} {K:Hp->Prop} (j:ia h m k ev c) (g:∀o,isCells o=false->ia (h.set m o) m k ev (nK a c)->K (h.set m o)):zk (.int k) (some m) (.int k a) K h:=by
 obtain ⟨e,ck,i,f⟩:=j;have b:=Cd (ev:=ev) a e c 0 f;refine .inr ⟨m,e.toArray,ck,rfl,i,?_⟩;cases d:kQ a c with
 | none=>rw [d] at b;refine .inl ⟨b,g _ rfl ⟨e,ck,nz,?_⟩⟩;rw [Pu (by rw [Ge,d];rfl)];exact f
 | some p=>rw [d] at b;refine .inr ⟨p.1,ev p.2,b,g _ rfl ⟨e.eraseIdx p.1,ck,?_,OJ (u:=p.2) f d⟩⟩;rw [nz];simp
end
end Lf
namespace Lf
open Go Go.Proofs Tryz
abbrev fX :Int->List Value:=λx=> [.int .i64 x]
abbrev eW :cd->List Value:=λw=> [.int .i64 w.proc,.int .i64 w.value]
def qf (w:cd):bN:=⟨w.proc,w.value⟩
section
variable {h0 k:Hp} {A B C:eD}
theorem Has.f1 (o:Has h0 (A.star (B.star C)) k):∃c,h0<=c/\Has c A k/\∀e f,Has c e f->Has h0 (e.star (B.star C)) f:=by obtain ⟨c,a,b,_,d⟩:=o.fst;grind
theorem Has.f2 (o:Has h0 (A.star (B.star C)) k):∃c,h0<=c/\Has c B k/\∀B' e,Has c B' e->Has h0 (A.star (B'.star C)) e:=by obtain ⟨c,a,b,_,d⟩:=o.snd;obtain ⟨h,a2,f,_,g⟩:=b.fst;exact ⟨h,Hp.le_trans a a2,f,λB' e i=>d _ _ (g _ _ i)⟩
theorem Has.f3 (o:Has h0 (A.star (B.star C)) k):∃h1,h0<=h1/\Has h1 C k/\∀e c,Has h1 e c->Has h0 (A.star (B.star e)) c:=by obtain ⟨h1,a,b,_,d⟩:=o.snd;obtain ⟨h,a2,f,_,g⟩:=b.snd;exact ⟨h,Hp.le_trans a a2,f,λB' c i=>d _ _ (g _ _ i)⟩
theorem N2 {l:Option Addr} {sz c:Nat}:bq l sz 0 c=l:=by
 unfold bq;split
 ·rfl
 ·cases l with
  | none=>rfl
  | some a=>obtain ⟨b,off,sp⟩:=a;simp [Addr.add]
theorem Has.shift {i:Type} {sz:Nat} {enc:i->List Value} {l:Sl} {a:i} {r:List i} {K:Int->Hp->Prop} (o:Has h0 (ff sz enc l (a::r)) k) (h:∀x,(enc x).length=sz) (D:∀x,jL (enc x)=true)
  (w:∀f,Has h0 (ff sz enc ⟨l.base,r.length,l.cap⟩ r) f->K (r.length:Nat) f):gE sz l ⟨bq l.base sz 1 l.cap,l.len-1,l.cap-1⟩ K k:=by
 have H:=o.jR;have g:=o.yu;have G:=(o.rY h (c:=l.cap) g (Nat.le_refl _)).mO h;obtain ⟨y,F,⟨J,L,t⟩,p⟩:=o;have N:l.len=r.length+1:=by simpa using H
 rcases t with ⟨e,d,_⟩ | ⟨b,off,I,e,j,v,M,P⟩
 ·omega
 ·have z:h0 b=none:=p b ((j b).2 rfl);have O:r.length*sz<=l.cap*sz:=Nat.mul_le_mul_right sz (by omega);have s:l=⟨some ⟨b,off,none⟩,l.len,l.cap⟩:=by cases l;simp at e;subst e;rfl
  have E:(r.flatMap enc).length=r.length*sz:=jv h r;rw [show (gE sz l:Sl->_)=gE sz ⟨some ⟨b,off,none⟩,l.len,l.cap⟩ by rw [<-s]];refine GC (n:=r.length) (new:=r.flatMap enc) v (by show min (l.len-1) l.len=_;omega) G.2 (tX D r) (by omega) λf m u=>w f ⟨λc q d=>m.bO c q (y c q d) (λg=>(by rw [List.mem_singleton.1 g,z] at d;cases d)),F,⟨rfl,by show r.length<=l.cap;omega,.inr ⟨b,off,_,e,j,u,?_,?_⟩⟩,p⟩
  ·simp only [List.length_append,List.length_take,List.length_drop,E];show off+l.cap*sz<=_;omega
  grind
theorem Rw.map {a β:Type} {sz:Nat} {enc:β->List Value} {f:a->β} {l:Sl} {xs:List a} (r:Rw k sz (λx=>enc (f x)) l xs):Rw k sz enc l (xs.map f):=by obtain ⟨c,b⟩:=r;refine ⟨by grind,?_⟩;rw [List.length_map,List.flatMap_map];exact b
theorem KW {n:Int} (h:ji n):jV (yw (n+(1:Int))) (65535:Int)=more n:=by rw [wrap64 (by have:=h.1;omega) (by have:=h.2;omega)];unfold jV more;omega
end
def ee (q:Addr) (room:Int) (l:aX):eD:=
 .some_ λx:dO=>((dZ Fi q x).star ((ff 1 fX x.values l.values).star (ff 2 eW x.waiters l.waiters))).star (.fact (x.room=room/\x.taken=l.taken/\x.dropped=l.dropped))
section
variable {h0 k:Hp} {q:Addr} {room:Int} {l:aX}
theorem Has.cf (o:Has h0 (ee q room l) k):∃x:dO,x.room=room/\x.taken=l.taken/\x.dropped=l.dropped/\Has h0 ((dZ Fi q x).star ((ff 1 fX x.values l.values).star (ff 2 eW x.waiters l.waiters))) k:=by obtain ⟨x,o⟩:=Has.ex.1 o;obtain ⟨o,a,b,c⟩:=o.kS;grind
theorem Has.kT {x:dO} (o:Has h0 ((dZ Fi q x).star ((ff 1 fX x.values l.values).star (ff 2 eW x.waiters l.waiters))) k) (a:x.room=room) (b:x.taken=l.taken) (c:x.dropped=l.dropped):Has h0 (ee q room l) k:=
 Has.ex.2 ⟨x,o.fV ⟨a,b,c⟩⟩
theorem ab4 {Q:Int->Hp->Prop} (o:Has h0 (ee q room l) k) (a:Q (l.values.length:Int) k):zua prog (some q) Q k:=by obtain ⟨x,_,_,_,o⟩:=o.cf;unfold zua;refine aJ (o.left.ld (shf:=aw) x.values rfl ?_);rw [o.right.left.jR];exact a
theorem MP {Q:Bool->Hp->Prop} (o:Has h0 (ee q room l) k) (b:Q (decide (room<=(l.values.length:Int))) k):zrx prog (some q) Q k:=by obtain ⟨x,a,_,_,o⟩:=o.cf;unfold zrx;refine aJ (o.left.ld (shf:=aw) x.values rfl ?_);refine aJ (o.left.ld (shf:=af .i64) x.room rfl ?_);rw [o.right.left.jR,a];exact b
theorem aaA {v:Int} {Q:Int->Hp->Prop} (o:Has h0 (ee q room l) k) (u:room<=64) (t:room<=(l.values.length:Int)->Q 19 k) (g:∀b,¬room<=(l.values.length:Int)->Has h0 (ee q room (wA v l)) b->Q 0 b):ztw prog (some q) v Q k:=by
 unfold ztw;refine zul (MP o ?_);by_cases a:room<=(l.values.length:Int)
 ·grind
 ·rw [if_neg (λh=>a (of_decide_eq_true h))];obtain ⟨x,d,e,f,o⟩:=o.cf;refine aJ (o.left.ld (shf:=aw) x.values rfl ?_);obtain ⟨r,_,j,put⟩:=o.f2;refine j.push rfl (λ_=>rfl) (λ_=>rfl) rfl ⟨by omega,by omega⟩ λc w m=> ?_;have o:=put _ _ m;obtain ⟨s,_,n,put⟩:=o.f1;refine aJ (n.st {x with values:=c} (show (2:Nat)<=5 by decide) rfl λi p=> ?_);exact g i a (Has.kT (x:={x with values:=c}) (put _ _ p) d e f)
theorem XV {Q:Hp->Prop} (o:Has h0 (ee q room l) k) (e:ji l.dropped) (f:∀a,Has h0 (ee q room (lS l)) a->Q a):zrw prog (some q) Q k:=by obtain ⟨x,b,c,d,o⟩:=o.cf;unfold zrw;refine aJ (o.left.ld (shf:=af .i64) x.dropped rfl ?_);refine L5 ?_;unfold En;rw [d,KW e];obtain ⟨j,_,h,put⟩:=o.f1;refine aJ (h.st {x with dropped:=more l.dropped} (show (5:Nat)<=5 by decide) rfl λg i=> ?_);exact f g (Has.kT (x:={x with dropped:=more l.dropped}) (put _ _ i) b c rfl)
theorem XW {Q:Int->bN->Bool->Int->Hp->Prop} (o:Has h0 (ee q room l) k) (E:ji l.taken) (i:l.values.length<=64) (Y:l.values=[]->Q 0 ⟨0,0⟩ false 21 k)
  (C:∀v b h,l.values=v::b->l.waiters=[]->Has h0 (ee q room (dK l)) h->Q v ⟨0,0⟩ false 0 h)
  (D:∀v b w g h,l.values=v::b->l.waiters=w::g->Has h0 (ee q room (dK l)) h->Q v (qf w) true 0 h):zsa prog (some q) Q k:=by
 obtain ⟨x,p,B,r,o⟩:=o.cf;unfold zsa;have j:=o.right.left.jR;refine aJ (o.left.ld (shf:=aw) x.values rfl ?_);cases hv:l.values with
 | nil=>grind
 | cons v b=>
  rw [hv] at o j i;have j:x.values.len=b.length+1:=by simpa using j
  rw [if_neg (show ¬((x.values.len:Int)==0)=true by simp;omega)];refine aJ (o.left.ld (shf:=aw) x.values rfl ?_);have W:Rs k (af .i64) 1 x.values (v::b):=o.right.left.mO (λ_=>rfl);refine W.get (λ_=>rfl) (by omega) (by omega) (by simp) λ(y:Int) t=> ?_;have t:y=v:=by grind
  subst t;refine aJ (o.left.ld (shf:=aw) x.values rfl ?_);refine aJ (o.left.ld (shf:=aw) x.values rfl ?_);refine ⟨by omega,aE ?_⟩;obtain ⟨e,_,J,put⟩:=o.f2;refine J.shift (λ_=>rfl) (λ_=>rfl) λZ A=> ?_;have o:=put _ _ A;have s:=A.yu;refine aJ (o.left.ld (shf:=aw) x.values rfl ?_);have s:b.length<=x.values.cap:=s;refine ⟨by omega,aE ?_⟩;rw [N2,Int.toNat_natCast,Nat.sub_zero,Nat.sub_zero];obtain ⟨e,_,O,put⟩:=o.f1;refine aJ (O.st {x with values:=⟨x.values.base,b.length,x.values.cap⟩} (show (2:Nat)<=5 by decide) rfl λk2 P=> ?_);have o:=put _ _ P;refine aJ (o.left.ld (shf:=af .i64) x.taken rfl ?_);refine L5 ?_;unfold En;rw [B,KW E];obtain ⟨e,_,R,put⟩:=o.f1;refine aJ (R.st {x with values:=⟨x.values.base,b.length,x.values.cap⟩,taken:=more l.taken} (show (4:Nat)<=5 by decide) rfl λu S=> ?_);have o:=put _ _ S;refine aJ (o.left.ld (shf:=aw) x.waiters rfl ?_);have f:=o.right.right.jR;cases d:l.waiters with
  | nil=>
   rw [d] at f;rw [if_neg (show ¬(decide ((x.waiters.len:Int)>0))=true by simp at f;simp [f])];refine C y b u hv d (Has.kT (x:={x with values:=⟨x.values.base,b.length,x.values.cap⟩,taken:=more l.taken}) ?_ p (by unfold dK;rw [d]) (by unfold dK;rw [d];exact r));have:dK l={l with values:=b,taken:=more l.taken}:=by unfold dK;rw [d,hv];rfl
   grind
  | cons w g=>
   rw [d] at f o;have f:x.waiters.len=g.length+1:=by simpa using f
   rw [if_pos (decide_eq_true (show (x.waiters.len:Int)>0 by omega))];refine aJ (o.left.ld (shf:=aw) x.waiters rfl ?_);have CR:Rs u aC 2 x.waiters ((w::g).map qf):=(o.right.right.mO (λ_=>rfl)).map (enc:=λx=>bA (aC.enc x));refine CR.get (λ_=>rfl) (by omega) (by omega) (by simp) λ(X:bN) m=> ?_;have m:X=qf w:=by simpa using m.symm
   subst m;refine aJ (o.left.ld (shf:=aw) x.waiters rfl ?_);refine aJ (o.left.ld (shf:=aw) x.waiters rfl ?_);refine aJ (o.left.ld (shf:=aw) x.waiters rfl ?_);have G:=o.right.right.yu;refine ⟨by omega,aE ?_⟩;rw [Int.toNat_natCast];obtain ⟨e,_,T,put⟩:=o.f3;have U:=T.rY (λ_=>rfl) (c:=x.waiters.len) (Nat.le_refl _) G;have o:=put _ _ U;obtain ⟨e,_,V,put⟩:=o.f1;refine aJ (V.st {x with values:=⟨x.values.base,b.length,x.values.cap⟩,taken:=more l.taken,waiters:=⟨bq x.waiters.base 2 1 x.waiters.len,x.waiters.len-1,x.waiters.len-1⟩} (show (3:Nat)<=5 by decide) rfl λk4 K=> ?_);have o:=put _ _ K;refine aJ (o.left.ld (shf:=aw) ⟨x.values.base,b.length,x.values.cap⟩ rfl ?_);refine oh (xs:=[w.value]) (sz:=1) (enc:=fX) rfl (λ_=>rfl) λa k5 F I=> ?_;have o:=o.grow F;refine ⟨⟨?_,trivial⟩,?_⟩
   ·exact (Has.left o).fG (n:=1) rfl
   obtain ⟨e,_,L,put⟩:=o.f2;refine L.app (I.mO (λ_=>rfl)) (λ_=>rfl) (λ_=>rfl) rfl ⟨by simp at i ⊢;omega,by simp at i ⊢;omega⟩ λz k6 M=> ?_;have o:=put _ _ M;obtain ⟨e,_,N,put⟩:=o.f1;refine aJ (N.st {x with values:=z,taken:=more l.taken,waiters:=⟨bq x.waiters.base 2 1 x.waiters.len,x.waiters.len-1,x.waiters.len-1⟩} (show (2:Nat)<=5 by decide) rfl λH a8=> ?_);refine D y b w g H hv d (Has.kT (x:={x with values:=z,taken:=more l.taken,waiters:=⟨bq x.waiters.base 2 1 x.waiters.len,x.waiters.len-1,x.waiters.len-1⟩}) ?_ p (by unfold dK;rw [d]) (by unfold dK;rw [d];exact r));have:dK l={values:=b++ [w.value],waiters:=g,taken:=more l.taken,dropped:=l.dropped}:=by unfold dK;rw [d,hv];rfl
   grind
end
theorem cV {P:Program} {g:FuncId} {first captured:Array Value} {args:List Value} {sh:Shape} {K:sh.T->Hp->Prop} {h:Hp} (b:tb.call g=true) (a:ae P g (first.toList++args++captured.toList) sh K h):iK P tb (.func (.func g) first captured) args sh K h:=
 ⟨g,first,captured,rfl,b,a⟩
def oX (p:Int) (a:List cd):Int:=jP (λw=>decide (w.proc=p)) a
def qI (v:Int) (xs:List Int):Int:=jP (λz=>decide (z=v)) xs
theorem Vx {k:Hp} {s:Sl} {b:List cd} {a:Addr} {p:Int} {Q:Int->Hp->Prop} (r:Rw k 2 eW s b) (t:b.length<=1000000) (o:aZ k a [.int .i64 p]) (m:Q (oX p b) k):
  Tc prog s ⟨Q4, #[], #[.pointer (some a)]⟩ Q k:=by
 unfold Tc;have u:=r.1;have r:Rs k aC 2 s (b.map qf):=r.map (enc:=λx=>bA (aC.enc x));refine aB.intro (λi q=>q=k/\0<=i/\i<=(b.length:Int)/\∀(j:Nat) y,j<i.toNat->b[j]? =some y->decide (y.proc=p)=false) (λi _=>(b.length-i).toNat) ⟨rfl,by omega,by omega,λj y c=>by simp at c⟩ ?_;rintro i _ ⟨rfl,i0,i1,l⟩;by_cases n:i<(b.length:Int)
 ·rw [if_pos (iW)];refine r.get (λ_=>rfl) (by omega) i0 (by grind) λ(x:bN) h=> ?_;rw [List.getElem?_map] at h;cases d:b[i.toNat]? with
  | none=>grind
  | some w=>
   rw [d] at h;have h:x=qf w:=by grind
   subst h;refine cV (g:=Q4) rfl (SZ ?_);unfold zud;refine bg (sh:=af .i64) p o ?_;dsimp only;by_cases e:w.proc=p
   ·rw [if_pos (show ((qf w).cU==p)=true by unfold qf;simp [e])];have:oX p b=i:=by have:=MO (f:=λw=>decide (w.proc=p)) d (by simp [e]) l;unfold oX;rw [this];omega
    grind
   ·rw [if_neg (show ¬((qf w).cU==p)=true by unfold qf;simp [e]),aV];grind
 ·rw [if_neg (λe=>n (by have:=of_decide_eq_true e;omega))];have:oX p b= -1:=Bo λw d=>by obtain ⟨j,c⟩:=List.getElem?_of_mem d;have:=(List.getElem?_eq_some_iff.1 c).1;exact l j w (by omega) c
  rw [this] at m;exact m
theorem Px {k:Hp} {s:Sl} {a:List Int} {v:Int} {Q:Int->Hp->Prop} (r:Rw k 1 fX s a) (o:a.length<=1000000) (g:Q (qI v a) k):Wv prog s v Q k:=by
 unfold Wv;have p:=r.1;have r:Rs k (af .i64) 1 s a:=r;refine aB.intro (λi n=>n=k/\0<=i/\i<=(a.length:Int)/\∀(j:Nat) y,j<i.toNat->a[j]? =some y->decide (y=v)=false) (λi _=>(a.length-i).toNat) ⟨rfl,by omega,by omega,λj y b=>by simp at b⟩ ?_;rintro i _ ⟨rfl,i0,i1,d⟩;by_cases c:i<(a.length:Int)
 ·rw [if_pos (iW)];refine r.get (λ_=>rfl) (by omega) i0 c λ(x:Int) m=> ?_;by_cases e:x=v
  ·rw [if_pos (show (v==x)=true by simp [e])];have:qI v a=i:=by have:=MO (f:=λz=>decide (z=v)) m (by simp [e]) d;unfold qI;rw [this];omega
   grind
  ·rw [if_neg (show ¬(v==x)=true by simp;exact λh=>e h.symm),aV];grind
 ·rw [if_neg (λe=>c (by have:=of_decide_eq_true e;omega))];have:qI v a= -1:=Bo λw l=>by obtain ⟨j,b⟩:=List.getElem?_of_mem l;have:=(List.getElem?_eq_some_iff.1 b).1;exact d j w (by omega) b
  rw [this] at g;exact g
theorem XX {a:Type} {f:a->Bool} {xs:List a}:0<=jP f xs↔∃x∈xs,f x=true:=by
 constructor
 ·intro h;refine Classical.byContradiction λd=> ?_;rw [Bo λx b=>by
   grind] at h
  omega
 ·rintro ⟨x,b,c⟩;unfold jP;grind
theorem Nj {k:Hp} {s:Sl} {a:List Int} {v:Int} {Q:Bool->Hp->Prop} (r:Rw k 1 fX s a) (b:a.length<=1000000) (d:Q (decide (v∈a)) k):U1 prog s v Q k:=by
 unfold U1;refine zml (Px r b ?_);have:decide (qI v a>=0)=decide (v∈a):=by have:(qI v a>=0)↔v∈a:=(XX (f:=λz=>decide (z=v))).trans ⟨λ⟨x,c,e⟩=>(of_decide_eq_true e)▸c,λh=>⟨v,h,(by simp)⟩⟩;simp only [this]
 grind
section
variable {h0 k:Hp} {q:Addr} {room:Int} {l:aX}
theorem KX {p:Int} {Q:Int->Hp->Prop} (o:Has h0 (ee q room l) k) (d:l.waiters.length<=1000000) (i:∀b,Has h0 (ee q room l) b->Q (oX p l.waiters) b):zqr prog (some q) p Q k:=by
 unfold zqr;refine oh (xs:=[p]) (sz:=1) (enc:=fX) rfl (λ_=>rfl) λa j g n=> ?_;have o:=o.grow g;obtain ⟨x,_,_,_,c⟩:=o.cf;refine aJ (c.left.ld (shf:=aw) x.waiters rfl ?_);refine zhu (f:=⟨Q4, #[], #[.pointer (some a)]⟩) (Vx (p:=p) (c.right.right.mO (λ_=>rfl)) d ?_ (i j o));obtain ⟨_,h⟩:=n.mO (λ_=>rfl);rcases h.2 with e | ⟨m,r,s⟩
 ·simp at e
 grind
theorem XZ {p v:Int} {Q:Int->Hp->Prop} (o:Has h0 (ee q room l) k) (z:l.waiters.length<=100) (g:room<=(l.values.length:Int)) (h:∀w∈l.waiters,w.proc≠p) (i:∀a,Has h0 (ee q room (iS p v l)) a->Q 0 a):zsb prog (some q) p v Q k:=by
 unfold zsb;refine zul (MP o ?_);rw [if_neg (by simp;exact g)];refine zso (KX o (by omega) λA o=> ?_);have:oX p l.waiters= -1:=Bo λw j=>by simp [h w j]
 rw [this,if_neg (by decide)];obtain ⟨x,c,d,f,o⟩:=o.cf;refine aJ (o.left.ld (shf:=aw) x.waiters rfl ?_);obtain ⟨u,_,n,put⟩:=o.f3;refine n.push (e:=⟨p,v⟩) rfl (λ_=>rfl) (λ_=>rfl) rfl ⟨by omega,by omega⟩ λb B r=> ?_;have o:=put _ _ r;obtain ⟨y,_,s,put⟩:=o.f1;refine aJ (s.st {x with waiters:=b} (show (3:Nat)<=5 by decide) rfl λm t=> ?_);exact i m (Has.kT (x:={x with waiters:=b}) (put _ _ t) c d f)
def uk (p:Int) (l:aX):aX:={l with waiters:=jo (λw=>decide (w.proc=p)) l.waiters}
theorem Vz {p:Int} {Q:Bool->Hp->Prop} (o:Has h0 (ee q room l) k) (K:l.waiters.length<=100) (g:∀b a,Has h0 (ee q room (uk p l)) a->Q b a):zqp prog (some q) p Q k:=by
 unfold zqp;refine zso (KX o (by omega) λi o=> ?_);have A:=DZ (λw:cd=>decide (w.proc=p)) l.waiters;by_cases hp:oX p l.waiters<0
 ·rw [if_pos (decide_eq_true hp)];refine g false i ?_;have:uk p l=l:=by unfold uk;rw [A,if_neg (show ¬0<=jP (λw:cd=>decide (w.proc=p)) l.waiters by unfold oX at hp;omega)]
  rw [this];exact o
 ·rw [if_neg (λh=>hp (of_decide_eq_true h))];have t:0<=oX p l.waiters:=by omega
  have L:oX p l.waiters<l.waiters.length:=MM t;obtain ⟨x,j,r,s,o⟩:=o.cf;refine aJ (o.left.ld (shf:=aw) x.waiters rfl ?_);obtain ⟨u,_,F,put⟩:=o.f3;have C:prog.underlying 201=some (.slice 254):=cD.cH 201 vO rfl;obtain ⟨n,f⟩:∃n:Nat,oX p l.waiters=n:=⟨(oX p l.waiters).toNat,by omega⟩;have B:∀(d:Sl->Hp->Prop),(∀c a,Has u (ff 2 eW c (l.waiters.take n++l.waiters.drop (n+1))) a->d c a)->Tf prog x.waiters (n:Int) ((n+1:Nat):Int) d i:=λd y=>by
   unfold Tf;exact Has.Iq (bytes:=16) (z:=.agg #[.int .i64 0,.int .i64 0]) C (λv=>Fz cD (e:=yG) rfl v) (λ_=>rfl) (λ_=>rfl) rfl (λm=>by induction m with
    | zero=>rfl
    | succ m D=>exact D) F (by omega) (by omega) ⟨by omega,by omega⟩ y
  rw [f,aV];refine zjr (B _ λc N G=> ?_);have o:=put _ _ G;obtain ⟨J,_,H,put⟩:=o.f1;refine aJ (H.st {x with waiters:=c} (show (3:Nat)<=5 by decide) rfl λE I=> ?_);refine g true E (Has.kT (x:={x with waiters:=c}) ?_ j r s);have:(uk p l).waiters=l.waiters.take n++l.waiters.drop (n+1):=by show jo (λw=>decide (w.proc=p)) l.waiters=_;have M:jP (λw:cd=>decide (w.proc=p)) l.waiters=n:=f;grind
  rw [this];exact put _ _ I
def wq (l:aX):aX:={l with waiters:=[]}
theorem aaB {Q:Sl->Hp->Prop} (o:Has h0 (ee q room l) k) (i:∀s b,Has h0 ((ee q room (wq l)).star (ff 2 eW s l.waiters)) b->Q s b):ztz prog (some q) Q k:=by unfold ztz;obtain ⟨x,e,f,g,o⟩:=o.cf;refine aJ (o.left.ld (shf:=aw) x.waiters rfl ?_);refine aJ (o.left.ld (shf:=aw) x.waiters rfl ?_);refine aJ (o.left.ld (shf:=aw) x.waiters rfl ?_);have z:=o.right.right.jR;have h:=o.right.right.yu;refine ⟨by omega,aE ?_⟩;rw [Int.toNat_natCast];obtain ⟨v,_,j,put⟩:=o.f3;have d:=j.Ax (λ_=>rfl) (n:=x.waiters.len) (c:=x.waiters.len) (by omega) (Nat.le_refl _) h;rw [List.take_of_length_le (by omega)] at d;have o:=put _ _ d;obtain ⟨w,_,m,put⟩:=o.f1;refine aJ (m.st {x with waiters:=⟨none,0,0⟩} (show (3:Nat)<=5 by decide) rfl λa p=> ?_);have o:=put _ _ p;refine i _ a ?_;have u:=o.Di;obtain ⟨y,_,r,_,put⟩:=u.fst;have nil:Has a (ff 2 eW (⟨none,0,0⟩:Sl) ([]:List cd)) a:=Has.mJ (Hp.le_refl _);have t:=(r.beside nil).assoc;exact put _ _ (Has.kT (l:=wq l) (x:={x with waiters:=⟨none,0,0⟩}) t e f g)
end
end Lf
namespace Go.Proofs
open Go.Shelf
def Tryz.tD :Go.Shelf.Ren:=⟨λ| 144=>329 | 143=>338 | 219=>339 | 217=>340 | 225=>341 | 224=>342 | 267=>343 | 266=>344 | 314=>345 | n=>n,λ| 9=>9 | 4=>4 | 3=>3 | 5=>5 | 46=>286 | 146=>342 | 51=>341 | n=>n,λ| 1=>1 | n=>n⟩
theorem Tryz.AF :Go.Proofs.Lays.n144 Tryz.prog Tryz.tD:={
 mixed:=by kernel_rfl
 f143:=Tryz.func338.trans (congrArg some (by kernel_rfl))
 f144:=Tryz.func329.trans (congrArg some (by kernel_rfl))
 f217:=Tryz.func340.trans (congrArg some (by kernel_rfl))
 f219:=Tryz.func339.trans (congrArg some (by kernel_rfl))
 f224:=Tryz.func342.trans (congrArg some (by kernel_rfl))
 f225:=Tryz.func341.trans (congrArg some (by kernel_rfl))
 f266:=Tryz.func344.trans (congrArg some (by kernel_rfl))
 f267:=Tryz.func343.trans (congrArg some (by kernel_rfl))
 f314:=Tryz.func345.trans (congrArg some (by kernel_rfl))
 t3:=Tryz.underlying3
 a3:=Tryz.isAgg3
 z3:=Tryz.sizeOf3
 v3:=Tryz.zeroValue3
 t4:=Tryz.underlying4
 a4:=Tryz.isAgg4
 z4:=Tryz.sizeOf4
 v4:=Tryz.zeroValue4
 t5:=Tryz.underlying5
 a5:=Tryz.isAgg5
 z5:=Tryz.sizeOf5
 v5:=Tryz.zeroValue5
 t9:=Tryz.underlying9
 a9:=Tryz.isAgg9
 z9:=Tryz.sizeOf9
 v9:=Tryz.zeroValue9
 t46:=Tryz.underlying286
 a46:=Tryz.isAgg286
 z46:=Tryz.sizeOf286
 v46:=Tryz.zeroValue286
 t51:=Tryz.underlying341
 a51:=Tryz.isAgg341
 z51:=Tryz.sizeOf341
 v51:=Tryz.zeroValue341
 t146:=Tryz.underlying342
 a146:=Tryz.isAgg342
 z146:=Tryz.sizeOf342
 v146:=Tryz.zeroValue342
 g1:=by kernel_rfl}
open Go.RowKit Go.Lib in
theorem Tryz.strings_Contains_one (s:ByteArray) (c:UInt8) (w:World):
  Calls Tryz.prog 329 #[.string s,.string ⟨#[c]⟩] w λe a=>e=.returned (.bool (decide (0<=Lib.indexByte s.data.toList c)))/\a=w:=Any.strings_Contains_one Tryz.AF s c w
end Go.Proofs
namespace Lf
open Go
def mq (k:Hp) (R:List Nat):Hp:=λb=>if b∈R then none else k b
theorem N4 {k:Hp} {R:List Nat}:mq k R<=k:=λb o e=>by unfold mq at e;grind
theorem KY {k:Hp} {R:List Nat} {b:Nat} (h:b∈R):mq k R b=none:=by unfold mq;rw [if_pos h]
theorem um {k:Hp} {R:List Nat} {b:Nat} (h:b∉R):mq k R b=k b:=by unfold mq;rw [if_neg h]
theorem N6 {d k:Hp} {R:List Nat} (a:d<=k) (c:∀b∈R,d b=none):d<=mq k R:=λb o e=>by rw [um λhb=>by grind];exact a b o e
theorem TE {h b:Hp} {a:Addr} (e:b a.block=h a.block):dy b a=dy h a:=by unfold dy;rw [e]
theorem OK (a:Addr) (n:Nat):(a.add n).block=a.block:=by unfold Addr.add;split<;>rfl
theorem VB {h b:Hp} {a:Addr} {c:List Value} (l:aZ h a c) (e:b a.block=h a.block):aZ b a c:=λi v hv=>by have:dy b (a.add i)=dy h (a.add i):=TE (a:=a.add i) (by rw [OK];exact e);rw [this];exact l i v hv
section
variable {α:Type} {h c:Hp} {sz:Nat} {enc:α->List Value} {l:Sl} {xs:List α} {F:List Nat}
theorem Rw.same (r:Rw h sz enc l xs) (e:∀a,l.base=some a->c a.block=h a.block):Rw c sz enc l xs:=by obtain ⟨d,f,g⟩:=r;refine ⟨d,f,g.imp id ?_⟩;rintro ⟨a,b,i⟩;exact ⟨a,b,VB i (e a b)⟩
theorem Rw.nil {l:Sl} (a:l.len=0):Rw h sz enc l ([]:List α):=⟨a,(by simp),.inl (by simp)⟩
theorem dF.grow (o:dF h sz enc l xs F) (j:h<=c):dF c sz enc l xs F:=by obtain ⟨h1,g,i⟩:=o;refine ⟨h1,g,i.imp id ?_⟩;rintro ⟨b,a,d,rfl,e,f⟩;exact ⟨b,a,d,rfl,e.le j,f⟩
theorem dF.cut {R:List Nat} (o:dF h sz enc l xs F) (a:∀b∈F,b∉R):dF (mq h R) sz enc l xs F:=o.same λb hb=>um (a b hb)
theorem dF.base (o:dF h sz enc l xs F) {a:Addr} (d:l.base=some a):F=[a.block]:=by obtain ⟨_,_,b⟩:=o;grind
end
theorem adK {h:Hp} {a:Addr} {v:Value} (e:dy h a=some v):∃o,h a.block=some o:=by unfold dy at e;grind
section
variable {α:Type} {h b:Hp} {sz:Nat} {enc:α->List Value} {l:Sl} {xs:List α} {F c:List Nat}
theorem Rw.known (r:Rw h sz enc l xs) {a:Addr} (i:l.base=some a) (h0:xs.length*sz≠0):h a.block≠none:=by
 obtain ⟨m,f,g⟩:=r;obtain ⟨k,d,j⟩:=g.resolve_left h0;rw [i] at d;cases d;have n:(xs.flatMap enc).length≠0:=by rw [f];exact h0
 obtain ⟨v,hv⟩:∃v,(xs.flatMap enc)[0]? =some v:=⟨(xs.flatMap enc)[0]'(by omega),List.getElem?_eq_getElem (by omega)⟩;obtain ⟨o,e⟩:=adK (j 0 v hv);rw [OK] at e;rw [e];simp
end
end Lf
namespace Lf
open D (dJ)
theorem sI {a:Type} {f:a->List UInt8} {B:Nat}:∀(l:List a),(∀x∈l,(f x).length<=B)->(l.flatMap f).length<=l.length*B
 | [],_=>by simp
 | x::r,h=>by have c:=h x (List.mem_cons_self ..);have d:=sI r λy b=>h y (List.mem_cons_of_mem _ b);rw [List.flatMap_cons,List.length_append,List.length_cons,Nat.succ_mul];omega
theorem zz {b:Type} {V:b->Prop} {n:Nat} {l:List b} (h:hZ V n l):l.length=n/\∀x∈l,V x:=by obtain ⟨e,a,c,d⟩:=h;have a:l=e:=a;subst a;exact ⟨c,(zl _ _).1 d⟩
theorem BD {m n:Int} (h:fK m n=0):n<=m:=by
 unfold fK at h;by_cases a:m<n
 ·rw [if_pos a] at h;cases h
 ·omega
theorem X1 {lane np:Int} {l:aX} (h:mC lane np l) (c:lane<=64) (d:np<=32):(fU l).length<=806:=by
 obtain ⟨⟨_,a1⟩,_,⟨_,a2⟩,_⟩:=h;have a:=BD a1;have b:=BD a2;have f1:=sI (f:=λv=>bG v 8) (B:=8) l.values λv _=>by rw [eN];omega
 have f2:=sI (f:=zP) (B:=9) l.waiters λw _=>by simp [zP,eN]
 simp only [fU,List.length_append,eN];omega
theorem X3 {nl:Nat} {lane np:Int} {x:aj} (h:zH nl lane np x) (i:nl<=8) (b:lane<=64) (c:np<=32):(uw x).length<=7339:=by
 obtain ⟨_,_,a1,_,_,_,_,a2,_⟩:=h;obtain ⟨e,_⟩:=zz a1;obtain ⟨g,a⟩:=zz a2;have f1:=sI (f:=λv=>bG v 8) (B:=8) x.aP λv _=>by rw [eN];omega
 have f2:=sI (f:=fU) (B:=806) x.ak λl d=>X1 (a l d) b c;simp only [uw,List.length_append,eN];omega
theorem X5 {dS ag np:Int} {x:cJ} (h:vv dS ag np x) (g:dS<=4096) (i:0<=ag/\ag<=8) (j:np<=32):(jf x).length<=69911:=by
 obtain ⟨_,⟨_,a1⟩,_,_,_,a2,_⟩:=h;have d:=BD a1;obtain ⟨e,a⟩:=zz (n:=ag.toNat) a2;have f1:=sI (f:=qk) (B:=17) x.log λv _=>by simp [qk,eN]
 have f2:=sI (f:=iN) (B:=34) (x.ax.zip x.au) λz c=>by
  obtain ⟨_,⟨_,b⟩,_⟩:=a z c;have:=BD b;have f3:=sI (f:=λp=>bG p 1) (B:=1) z.2 λv _=>by rw [eN];omega
  simp only [iN,List.length_append,eN];omega
 simp only [jf,List.length_append,eN];omega
theorem MR {c:aL} (a:Small c) (h:nF c):(fg c).length<=98542:=by
 obtain ⟨_,_,⟨_,b⟩,_⟩:=h;have d:=iq.1 b;have i:=a.nl;have j:=a.np;have f1:=sI (f:=λv=>bG v 8) (B:=8) c.labels λv _=>by rw [eN];omega
 have f2:=sI (f:=λv=>bG v 1) (B:=1) c.table λv _=>by rw [eN];omega
 have f3:=sI (f:=gW) (B:=3075) c.procs λp hp=>by
  have g:=a.code p hp;have e:=sI (f:=nk) (B:=12) p.code λv _=>by simp [nk,eN]
  simp only [gW,mF,List.length_append,eN];omega
 simp only [fg,List.length_append,eN,List.length_cons,List.length_nil];omega
theorem X8 {c:aL} {s:aR} (a:Small c) (hv:nF c) (h:lM c s):(iO c s).length<1048576:=by obtain ⟨_,a1,a2,_⟩:=h;obtain ⟨i,d⟩:=zz a1;obtain ⟨j,e⟩:=zz a2;have g:=a.nl;have k:=a.np;have f1:=sI (f:=jf) (B:=69911) s.parts λx b=>X5 (d x b) a.log a.ag (by omega);have f2:=sI (f:=uw) (B:=7339) s.procs λx b=>X3 (e x b) g a.lane (by omega);have f3:=MR a hv;simp only [iO,List.length_append,eN,List.length_cons,List.length_nil];omega
end Lf
namespace Lf
open Go Go.Proofs Go.RowKit
theorem TF {P:Program} {g:FuncId} {args:List Value} {sh:Shape} {K:sh.T->Hp->Prop} {h:Hp} {x:sh.T} (c:∀w,Sub h w->Calls P g args.toArray w λe b=>e=.returned (sh.enc x)/\b=w) (d:K x h):ae P g args sh K h:=by intro w a;refine (c w a).mono ?_;rintro e b ⟨rfl,rfl⟩;exact ⟨_,h,rfl,⟨x,rfl,d⟩,⟨a,Nat.le_refl _,λi j f=>⟨rfl,f⟩,rfl,rfl,rfl⟩⟩
def tw (s:ByteArray) (c:UInt8):Bool:=decide (0<=Lib.indexByte s.data.toList c)
theorem adL {s:ByteArray} {c:UInt8} {K:Bool->Hp->Prop} {h:Hp} (a:K (tw s c) h):ae Tryz.prog zvi [.string s,.string ⟨#[c]⟩] bH K h:=by refine TF (x:=tw s c) (λw _=> ?_) a;exact Tryz.strings_Contains_one s c w
def bu (x:aS):df:=⟨x.Op,x.A,x.B,x.C,x.jM⟩
def gl :List (List UInt8):=[[],[97,105],[97,98],[97,98,99],[97,98,99],[97,98,99],[97,98,99],[97,98,99],[97,98,99],[97,98,99],[97,98,99],[97,98,99],[97,98,99],[97,98,99],[97,98,99],[97,98,99],[97,98,99],[97,98,99],[97,98,99],[97,98,99],[97,98],[97,98],[105],[97,105],[97,98,99],[97,98],[97,98],[97],[97],[105],[105],[97],[97],[97]]
def xb (op:Int):ByteArray:=if 0<=op/\op<34 then ⟨(gl.getD op.toNat []).toArray⟩ else ⟨#[]⟩
theorem adM :∀n,n<34->(decide (0<=Lib.indexByte (gl.getD n []) 97),decide (0<=Lib.indexByte (gl.getD n []) 98),decide (0<=Lib.indexByte (gl.getD n []) 99),decide (0<=Lib.indexByte (gl.getD n []) 105))=iI (n:Int):=by decide
theorem TG (op:Int):(tw (xb op) 97,tw (xb op) 98,tw (xb op) 99,tw (xb op) 105)=iI op:=by
 by_cases h:0<=op/\op<34
 ·have e:=adM op.toNat (by omega);rw [Int.toNat_of_nonneg h.1] at e;rw [<-e];simp [tw,xb,h]
 ·have a:xb op=⟨#[]⟩:=if_neg h;rw [a];have b:iI op=(false,false,false,false):=by unfold iI;grind
  rw [b];decide
theorem aaC :∀n,n<34->gl[n]? =some (gl.getD n []):=by decide
theorem Nk {a:Type} (l:List a) (i:Nat):List.get?Internal l i=l[i]?:=by simp
theorem abH {op:Int} {Q:ByteArray->Hp->Prop} {h:Hp} (c:Q (xb op) h):zze Tryz.prog op Q h:=by
 unfold zze;refine aE ?_;by_cases a:0<=op/\op<34
 ·rw [if_neg (by simp;omega)];refine ⟨a,xb op,?_,c⟩;have e:xb op=⟨(gl.getD op.toNat []).toArray⟩:=if_pos a;rw [Nk,e];have d:=aaC op.toNat (by omega);rw [Nat.mul_one];have b:(gl.map λl=>Value.string ⟨l.toArray⟩)[op.toNat]? =some (Value.string ⟨(gl.getD op.toNat []).toArray⟩):=by grind
  exact b
 ·rw [if_pos (by simp;omega)];have e:xb op=⟨#[]⟩:=if_neg a;grind
theorem xA {P:Program} {g:FuncId} {first captured:Array Value} {args:List Value} {sh:Shape} {K:sh.T->Hp->Prop} {h:Hp} (b:tb.call g=true) (a:ae P g (first.toList++args++captured.toList) sh K h):iK P tb (.func (.func g) first captured) args sh K h:=
 ⟨g,first,captured,rfl,b,a⟩
theorem MN {op:Int} {Q:Bool->Bool->Bool->Bool->Hp->Prop} {h:Hp} (l:∀d,h<=d->Q (iI op).1 (iI op).2.1 (iI op).2.2.1 (iI op).2.2.2 d):zzc Tryz.prog op Q h:=by
 unfold zzc;refine W8 (abH ?_);intro b t j;refine qQ (b:=b) (off:=0) (cs:=[.string ⟨#[]⟩]) ⟨t,nz⟩ (by simp) λa i hb=> ?_;have k:h<=a:=(((Mv.new j).trans i).le (Hp.le_refl h) (by simp)).1;have g:aZ a ⟨b,0,none⟩ [.string (xb op)]:=hb.bU (n:=1) (by rfl);have one:∀(c:UInt8) (K:Bool->Hp->Prop),K (tw (xb op) c) a->iK Tryz.prog tb (.func (.func Lq) #[] #[.pointer (some ⟨b,0,none⟩)]) [.string ⟨#[c]⟩] bH K a:=λc K f=>by refine xA rfl (Vo ?_);unfold Lz;refine bg (sh:=rH) (xb op) g ?_;exact adL f
 have e:=TG op;grind
theorem Eu {P:Program} {has:Bool} {n:Int} {Q:Int->Hp->Prop} {h:Hp} (b:Q (du has n) h):zub P has n Q h:=by
 unfold zub;refine aE ?_;unfold du at b;by_cases a:has=false/\n≠0
 ·grind
 ·rw [if_neg a] at b;rw [if_neg (by cases has<;>simp at a ⊢;exact a)];refine aE ?_;grind
theorem VD {P:Program} {x:aS} {has:Bool} {n ag:Int} {Q:Int->Hp->Prop} {h:Hp}
  (c:Q (if has=false/\x.jM≠0 then 11 else if (x.Op=22\/x.Op=23)/\(x.jM<0\/n<x.jM) then 12 else if (x.Op=29\/x.Op=30)/\(x.jM<0\/ag<=x.jM) then 13 else 0) h):zzd P x has n ag Q h:=by
 unfold zzd;refine aE ?_;by_cases a:has=false/\x.jM≠0
 ·grind
 ·rw [if_neg a] at c;rw [if_neg (by cases has<;>simp at a ⊢;exact a)];refine aE ?_;by_cases b:x.Op=22\/x.Op=23
  ·rw [if_pos (by simp;exact b)];refine aE ?_;grind
  ·rw [if_neg (λe=>b e.1)] at c;rw [if_neg (by simp;omega)];refine aE ?_;by_cases d:x.Op=29\/x.Op=30
   ·rw [if_pos (by simp;exact d)];refine aE ?_;grind
   grind
theorem Ya {x:aS} {n ag:Int} {Q:Int->Int->Hp->Prop} {h:Hp} (a:∀b at_,h<=b->((ja (bu x) n ag).1≠0->at_=(ja (bu x) n ag).2)->Q (ja (bu x) n ag).1 at_ b):DU Tryz.prog x n ag Q h:=by
 unfold DU;refine aE ?_;have le:=Hp.le_refl h;rw [show ja (bu x) n ag=(if x.Op<0\/34<=x.Op then (9,0)
  else if du (iI x.Op).1 x.A≠0 then (du (iI x.Op).1 x.A,1)
  else if du (iI x.Op).2.1 x.B≠0 then (du (iI x.Op).2.1 x.B,2)
  else if du (iI x.Op).2.2.1 x.C≠0 then (du (iI x.Op).2.2.1 x.C,3)
  else if (iI x.Op).2.2.2=false/\x.jM≠0 then (11,4)
  else if (x.Op=22\/x.Op=23)/\(x.jM<0\/n<x.jM) then (12,4)
  else if (x.Op=29\/x.Op=30)/\(x.jM<0\/ag<=x.jM) then (13,4)
  else (0,0)) from rfl] at a
 by_cases c:x.Op<0\/34<=x.Op
 ·grind
 ·rw [if_neg c] at a;rw [if_neg (by simp;omega)];refine KS (MN λc g=> ?_);dsimp only;refine zpf (Eu ?_);by_cases d:du (iI x.Op).1 x.A≠0
  ·grind
  ·rw [if_neg d] at a;rw [if_neg (by simpa using d)];refine zpf (Eu ?_);by_cases e:du (iI x.Op).2.1 x.B≠0
   ·grind
   ·rw [if_neg e] at a;rw [if_neg (by simpa using e)];refine zpf (Eu ?_);by_cases f:du (iI x.Op).2.2.1 x.C≠0
    ·grind
    ·rw [if_neg f] at a;rw [if_neg (by simpa using f)];refine W6 (VD ?_);grind
theorem Gf {x:aS} {n ag:Int} {Q:Int->Hp->Prop} {h:Hp} (b:∀a,h<=a->Q (ja (bu x) n ag).1 a):DT Tryz.prog x n ag Q h:=by unfold DT;exact Ye (Ya λa _ l _=>b a l)
abbrev nG (h:Hp) (l:Sl) (xs:List aS):Prop:=Rs h aT 5 l xs
theorem OL {l:Sl} {xs:List aS} {ag:Int} {Q:Int->Int->Hp->Prop} {h:Hp} (r:nG h l xs) (a:∀f,h<=f->Q (je (xs.map bu) ag).1 (je (xs.map bu) ag).2 f):EI Tryz.prog l ag Q h:=by
 unfold EI;have o:=r.1;refine aE ?_;unfold je at a;by_cases g:ag<0\/8<ag
 ·rw [if_pos g] at a;rw [if_pos (by simp;omega)];exact a h (Hp.le_refl h)
 ·rw [if_neg g,List.length_map] at a;rw [if_neg (by simp;omega)];by_cases j:256<xs.length
  ·rw [if_pos j] at a;rw [if_pos (by simp;omega)];exact a h (Hp.le_refl h)
  ·rw [if_neg j] at a;rw [if_neg (by simp;omega)];refine aB.intro (λi k=>h<=k/\0<=i/\i<=(xs.length:Int)/\lf xs.length ag ((xs.drop i.toNat).map bu) i=lf xs.length ag (xs.map bu) 0) (λi _=>(xs.length-i).toNat) ⟨Hp.le_refl h,by omega,by omega,rfl⟩ ?_;rintro i k ⟨d,h0,u,b⟩;by_cases n:i<(xs.length:Int)
   ·rw [if_pos (iW)];refine Rs.get (sh:=aT) (Rw.mono d r) (λ_=>rfl) (by omega) h0 n λx q=> ?_;refine zuj (Gf λt m=> ?_);have e:xs.drop i.toNat=x::xs.drop (i.toNat+1):=by obtain ⟨v,s⟩:=List.getElem?_eq_some_iff.1 q;rw [<-s];simp
    rw [e,List.map_cons,lf] at b;rw [o];by_cases c:(ja (bu x) xs.length ag).1≠0
    ·rw [if_pos c] at b;rw [if_pos (by simpa using c)];rw [<-b] at a;exact a t (Hp.le_trans d m)
    ·rw [if_neg c] at b;rw [if_neg (by simpa using c)];have p:yw (i+1)=i+1:=aV;rw [p];refine ⟨⟨Hp.le_trans d m,by omega,by omega,?_⟩,by omega⟩;grind
   ·rw [if_neg (by simp;omega)];have e:xs.drop i.toNat=[]:=List.drop_eq_nil_of_le (by omega);rw [e] at b;rw [<-b] at a;exact a k d
end Lf
namespace Lf
open Go
theorem aaD {r:Type} {h0 h:Hp} {sz n bytes:Nat} {enc:r->List Value} {zero m:List Value} {l:Sl} {i f:List r} {K:Sl->Hp->Prop} (q:h0<=h) (o:Own h0 h sz enc l i) (s:m=f.flatMap enc) (w:n=f.length)
  (j:∀x,(enc x).length=sz) (B:∀x,jL (enc x)=true) (C:zero.length=sz) (hb:i.length+f.length<=140737488355328/\(i.length+f.length)*bytes<=140737488355328)
  (t:∀g c,h0<=c->Own h0 c sz enc g (i++f)->(∀b d,h b=some d->(∀a,l.base=some a->a.block≠b)->c b=some d)->K g c):bc m (λa p=>eC sz bytes zero l ⟨some a,n,n⟩ K p) h:=by
 subst w;refine wW (h0:=h0) q s j λa p k A=> ?_;refine Cb (Hp.le_trans q k) (o.mono k) (A.rw j) j B C hb λg c v z u=>t g c v z λb d e y=>u b d (k b d e) y
def eB (b:UInt8):List Value:=[.int .u8 (b.toNat:Int)]
theorem sQ (b:UInt8):(eB b).length=1:=rfl
theorem tn (b:UInt8):jL (eB b)=true:=rfl
abbrev Bs (h:Hp) (l:Sl) (a:List UInt8):Prop:=Rw h 1 eB l a
abbrev ki (h0 h:Hp) (l:Sl) (a:List UInt8):Prop:=Own h0 h 1 eB l a
theorem Py (a:List UInt8):a.flatMap eB=a.map λb=>.int .u8 (b.toNat:Int):=by
 induction a with
 | nil=>rfl
 | cons b a c=>rw [List.flatMap_cons,c];rfl
theorem EY (n:Int):((UInt8.ofNat (n%256).toNat).toNat:Int)=n%256:=by rw [UInt8.toNat_ofNat'];omega
theorem mP (n:Int):IntKind.wrap .u8 n=((UInt8.ofNat (n%256).toNat).toNat:Int):=by rw [EY];rfl
theorem GS (n:Int):∀(k i:Nat),i<k->(bG n k)[i]? =some (UInt8.ofNat ((n / ((256^i:Nat):Int))%256).toNat)
 | 0,_,h=>by omega
 | k+1,0,_=>by simp [bG]
 | k+1,i+1,h=>by
  simp only [bG,List.getElem?_cons_succ];have e:n / 256 / ((256^i:Nat):Int)=n / ((256^(i+1):Nat):Int):=by rw [Int.ediv_ediv_of_nonneg (by decide)];grind
  rw [GS (n / 256) k i (by omega),e]
theorem Pz {n m:Int} {k:Nat} (h:n%((256^k:Nat):Int)=m%((256^k:Nat):Int)):bG n k=bG m k:=by
 have c:=za n k;have d:=za m k;have e:iR (bG n k)=iR (bG m k):=by omega
 have a:=Hh (bG n k);have b:=Hh (bG m k);rw [eN] at a b;rw [<-a,e,b]
theorem ze {n:Int} {k:Nat} (b:k<=8):bG (IntKind.wrap .u64 n) k=bG n k:=by apply Pz;have e:IntKind.wrap .u64 n=n%((256^8:Nat):Int):=rfl;rw [e];have a:((256^k:Nat):Int) ∣ ((256^8:Nat):Int):=Int.natCast_dvd_natCast.2 (Nat.pow_dvd_pow 256 b);exact Int.emod_emod_of_dvd n a
theorem Yc (n:Int) {i:Nat} (b:i<8):gQ .u64 n (8*(i:Int))=n / ((256^i:Nat):Int):=by
 have e:((256^i:Nat):Int)=2^(8*i):=by rw [show (256:Nat)=2^8 from rfl,<-Nat.pow_mul];exact Int.natCast_pow 2 (8*i)
 rw [e];have a:min (8*(i:Int)).toNat IntKind.u64.bits=8*i:=by have:IntKind.u64.bits=64:=rfl;omega
 unfold gQ;grind
theorem KZ (n:Int) {i:Int} (a:0<=i) (b:i<8):yw (8*i)=8*i/\IntKind.wrap .u8 (gQ .u64 n (8*i))=((UInt8.ofNat ((n / ((256^i.toNat:Nat):Int))%256).toNat).toNat:Int):=by
 refine ⟨aV,?_⟩;have e:(8*i)=8*((i.toNat:Nat):Int):=by omega
 rw [e,Yc n (by omega),mP]
section
variable {h0 h:Hp} {l:Sl} {bs:List UInt8} {K:Sl->Hp->Prop}
theorem GD (p:h0<=h) (o:ki h0 h l bs) {e:List Value} (c:List UInt8) {n:Nat} (j:e=c.map λb=>.int .u8 (b.toNat:Int)) (m:n=c.length) (hb:bs.length+c.length<=1099511627776)
  (k:∀f d,h0<=d->ki h0 d f (bs++c)->(∀b g,h b=some g->(∀a,l.base=some a->a.block≠b)->d b=some g)->K f d):bc e (λa i=>eC 1 1 [.int .u8 0] l ⟨some a,n,n⟩ K i) h:=
 aaD p o (by rw [j,Py]) m sQ tn rfl (by omega) k
theorem MU {n m:Int} {k:Nat} (A:m=(k:Int)) (F:k<=8) (C:h0<=h) (o:ki h0 h l bs) (hb:bs.length+8<=1099511627776) (E:∀g d,h0<=d->ki h0 d g (bs++bG n k)->K g d):
  bL (α1:=Sl) (α2:=Int) (λq b f c=>
   (if (decide (f<m))=true then
    ((0:Int)<=(yw ((8:Int)*f))/\bc [(.int .u8 (IntKind.wrap .u8 (gQ .u64 n (yw ((8:Int)*f)))))] (λa v=>
     eC 1 1 [(.int .u8 (0:Int))] ⟨b.base,b.len,b.cap⟩ ⟨(some a),1,1⟩ (λr w=>
      q r (yw (f+(1:Int))) w) v) c)
   else K b c)) l (0:Int) h:=by
 subst A;refine bL.intro (λb i c=>0<=i/\i<=(k:Int)/\h0<=c/\ki h0 c b (bs++(bG n k).take i.toNat)) (λ_ i _=>(k-i).toNat) ⟨by omega,by omega,C,by simpa using o⟩ ?_;rintro b i c ⟨x,D,y,p⟩;by_cases j:i<(k:Int)
 ·rw [if_pos (decide_eq_true j)];obtain ⟨s,t⟩:=KZ n x (by omega);rw [s,t];refine ⟨by omega,?_⟩;refine GD y p [UInt8.ofNat ((n / ((256^i.toNat:Nat):Int))%256).toNat] rfl rfl (by grind) λg d z B _=> ?_;rw [aV];refine ⟨⟨by omega,by omega,z,?_⟩,by omega⟩;have u:(i+1).toNat=i.toNat+1:=by omega
  rw [u,List.take_add_one,GS n k i.toNat (by omega),<-List.append_assoc];exact B
 ·rw [if_neg (λe=>j (of_decide_eq_true e))];have:i.toNat=k:=by omega
  rw [this,List.take_of_length_le (by rw [eN];omega)] at p;grind
theorem Be {P:Program} {n m:Int} {k:Nat} (e:m=(k:Int)) (d:k<=8) (f:h0<=h) (o:ki h0 h l bs) (hb:bs.length+8<=1099511627776) (c:∀b a,h0<=a->ki h0 a b (bs++bG n k)->K b a):EO P l n m K h:=by unfold EO;exact MU e d f o hb c
theorem K6 {sh:Shape} {sz:Nat} {src:Sl} {xs:List sh.T} {es:List (List UInt8)} {body:sh.T->Sl->(Sl->Hp->Prop)->Hp->Prop} (M:Nat) (v:∀x,(bA (sh.enc x)).length=sz) (B:0<sz) (r:Rs h0 sh sz src xs) (C:h0<=h) (o:ki h0 h l bs)
  (F:es.length=xs.length) (J:xs.length<=1000000) (u:∀x∈es,x.length<=M)
  (hb:∀(i:Nat) x e b g a k,xs[i]? =some x->es[i]? =some e->h0<=a->ki h0 a b g->g.length<=bs.length+i*M->(∀d c,h0<=c->ki h0 c d (g++e)->k d c)->body x b k a)
  (H:∀d c,h0<=c->ki h0 c d (bs++es.flatten)->K d c):
  bL (α1:=Sl) (α2:=Int) (λp b t a=>
   (if (decide (t<((src.len:Nat):Int)))=true then
    ((bI src.base src.len t)/\aN none sh a (sat src.base sz t) λx=>body x b (λr c=>p r (yw (t+(1:Int))) c) a)
   else K b a)) l (0:Int) h:=by
 have I:=r.1;refine bL.intro (λf i a=>0<=i/\i<=(xs.length:Int)/\h0<=a/\ki h0 a f (bs++(es.take i.toNat).flatten)) (λ_ i _=>(xs.length-i).toNat) ⟨by omega,by omega,C,by simpa using o⟩ ?_;rintro f i a ⟨w,G,n,A⟩;by_cases m:i<(xs.length:Int)
 ·rw [if_pos (iW)];refine Rs.get (sh:=sh) (Rw.mono n r) v B w m λx D=> ?_;have j:es[i.toNat]? =some (es[i.toNat]'(by omega)):=List.getElem?_eq_getElem (by omega);refine hb i.toNat x _ f _ a _ D j n A ?_ λd c z L=> ?_
  ·rw [List.length_append];have:((es.take i.toNat).flatMap λx=>x).length<=(es.take i.toNat).length*M:=sI _ λy E=>u y (List.mem_of_mem_take E);have s:(es.take i.toNat).length=i.toNat:=by grind
   rw [s] at this;rw [List.flatMap_id'] at this;omega
  ·rw [aV];refine ⟨⟨by omega,by omega,z,?_⟩,by omega⟩;have q:(i+1).toNat=i.toNat+1:=by omega
   rw [q,List.take_add_one,j,List.flatten_append,<-List.append_assoc];grind
 ·rw [if_neg (λe=>m (by have:=of_decide_eq_true e;omega))];have:es.take i.toNat=es:=List.take_of_length_le (by omega);grind
theorem GU {sh:Shape} {sz:Nat} {src:Sl} {xs:List sh.T} {e:sh.T->List UInt8} {body:sh.T->Sl->(Sl->Hp->Prop)->Hp->Prop} (M:Nat) (p:∀x,(bA (sh.enc x)).length=sz) (u:0<sz) (r:Rs h0 sh sz src xs) (v:h0<=h) (o:ki h0 h l bs)
  (s:xs.length<=1000000) (n:∀x∈xs,(e x).length<=M)
  (hb:∀(i:Nat) x b f c k,xs[i]? =some x->h0<=c->ki h0 c b f->f.length<=bs.length+i*M->(∀d a,h0<=a->ki h0 a d (f++e x)->k d a)->body x b k c)
  (q:∀d a,h0<=a->ki h0 a d (bs++xs.flatMap e)->K d a):
  bL (α1:=Sl) (α2:=Int) (λm b t c=>
   (if (decide (t<((src.len:Nat):Int)))=true then
    ((bI src.base src.len t)/\aN none sh c (sat src.base sz t) λx=>body x b (λr a=>m r (yw (t+(1:Int))) a) c)
   else K b c)) l (0:Int) h:=by
 refine K6 (es:=xs.map e) M p u r v o (by simp) s (λy j=>by obtain ⟨x,g,rfl⟩:=List.mem_map.1 j;exact n x g) (λi x y b f c k g j=> ?_) (by rw [<-List.flatMap_def];exact q);grind
end
end Lf
namespace Lf
open Go Go.Proofs Tryz
abbrev Us (h:Hp) (l:Sl) (a:List Int):Prop:=Rs h (af .u64) 1 l a
abbrev Is (h:Hp) (l:Sl) (a:List Int):Prop:=Rs h (af .i64) 1 l a
theorem ab6 {P:Program} {l:Sl} {a:List Int} {Q:Int->Int->Hp->Prop} {h:Hp} (r:Us h l a) (C:a.length<=8) (j:a.Pairwise (· < ·)) (n:a=[]->Q 1 0 h) (z:a≠ []->Q 0 0 h):Po P l Q h:=by
 unfold Po;have D:=r.1;split
 ·rename_i e;have e:(l.len:Int)=0:=by simpa using e
  exact n (List.length_eq_zero_iff.1 (by omega))
 ·rename_i e;have e:¬(l.len:Int)=0:=by simpa using e
  split
  ·grind
  ·refine aB.intro (λi k=>k=h/\1<=i/\i<=(a.length:Int)) (λi _=>(a.length-i).toNat) ⟨rfl,by omega,by omega⟩ ?_;rintro i k ⟨rfl,A,B⟩;split
   ·rename_i b;have b:i<(l.len:Int):=by simpa using b
    have o:yw (i-1)=i-1:=aV;rw [o];refine r.get (λ_=>rfl) (by omega) (by omega) (by omega) λ(x:Int) c=> ?_;refine r.get (λ_=>rfl) (by omega) (by omega) (by omega) λ(y:Int) f=> ?_;have E:y<x:=by
     have m:(i-1).toNat<i.toNat:=by omega
     have t:=(List.getElem?_eq_some_iff.1 c);have w:=(List.getElem?_eq_some_iff.1 f);obtain ⟨q,s⟩:=t;obtain ⟨u,v⟩:=w;rw [<-s,<-v];exact List.pairwise_iff_getElem.1 j _ _ u q m
    rw [if_neg (show ¬((x==y)=true) by simp;omega)];refine r.get (λ_=>rfl) (by omega) (by omega) (by omega) λ(F:Int) d=> ?_;rw [c] at d;cases d;refine r.get (λ_=>rfl) (by omega) (by omega) (by omega) λ(G:Int) g=> ?_;rw [f] at g;cases g;rw [if_neg (show ¬(decide (x<y)=true) by simp;omega)];have p:yw (i+1)=i+1:=aV;rw [p];exact ⟨⟨rfl,by omega,by omega⟩,by omega⟩
   grind
abbrev R2 (a h:Hp) (l:Sl) (b:List Int):Prop:=Own a h 1 (λx=>bA ((af .u64).enc x)) l b
abbrev R1 (a h:Hp) (l:Sl) (b:List Int):Prop:=Own a h 1 (λx=>bA ((af .i64).enc x)) l b
def ru (a b:Int):Bool:=(List.range 64).all λn=> !bit a n || bit b n
theorem VE {a b:Int}:ru a b=true↔∀n,n<64->bit a n=true->bit b n=true:=by unfold ru;grind
theorem abK {a b:Int} {Q:Bool->Hp->Prop} {h:Hp} (c:qW a) (hb:qW b) (d:Q (ru a b) h):zyy prog a b Q h:=by
 unfold zyy;have:(eK .andNot .u64 a b==0)=ru a b:=by rw [Bool.eq_iff_iff,Z9 c hb,VE]
 grind
def fl (a:List Int) (i j:Int):Bool:=if 0<=i/\i<(a.length:Int)/\0<=j/\j<(a.length:Int) then ru (a.getD i.toNat 0) (a.getD j.toNat 0) else false
theorem H5 {xs:List Int} {i j:Int} {x y:Int} (h:0<=i/\0<=j) (a:xs[i.toNat]? =some x) (b:xs[j.toNat]? =some y):fl xs i j=ru x y:=by have c:=(List.getElem?_eq_some_iff.1 a).1;have d:=(List.getElem?_eq_some_iff.1 b).1;unfold fl;grind
theorem N8 {xs:List Int} {i j:Int} (h:¬(0<=i/\i<(xs.length:Int)/\0<=j/\j<(xs.length:Int))):fl xs i j=false:=by unfold fl;rw [if_neg h]
def qD :List Int->Nat->List MapEntry
 | [],_=> []
 | x::r,j=>{key:=.int .u64 x,val:=.int .i64 (j:Int),born:=j}::qD r (j+1)
def place (a:Int):List Int->Nat->Option Nat
 | [],_=>none
 | x::r,j=>if a=x then some j else place a r (j+1)
theorem PA (a:Int):∀(b:List Int) (j:Nat),Instr.findNow (.int .u64) (.int .u64 a) (qD b j) j=some ((place a b j).map λ(k:Nat)=>(k,Value.int .i64 (k:Int)))
 | [],j=>rfl
 | x::r,j=>by
  simp only [qD,Instr.findNow,Instr.sameNow,if_true,place];by_cases h:a=x
  ·simp [h]
  ·have:(a==x)=false:=by simpa using h
   rw [this];simp only [if_neg h];exact PA a r (j+1)
theorem PB :∀(a:List Int) (x:Int) (j:Nat),qD (a++ [x]) j=qD a j++ [{key:=.int .u64 x,val:=.int .i64 ((j+a.length:Nat):Int),born:=j+a.length}]
 | [],x,j=>by simp [qD]
 | y::r,x,j=>by simp only [List.cons_append,qD,PB r x (j+1),List.length_cons];grind
theorem OM {a:Int}:∀ {b:List Int} {j:Nat},a∉b->place a b j=none
 | [],_,_=>rfl
 | x::r,j,h=>by simp only [place];rw [if_neg λe=>h (by grind)];exact OM λe=>h (List.mem_cons_of_mem _ e)
structure uy (h:Hp) (p:Addr) (ls:List Int):Prop where
 ex:∃(sl:Sl) (m:Nat),aZ h p [sl.v,.map (some m)]/\Us h sl ls/\h m=some (.map (qD ls 0).toArray ls.length)
theorem uy.mono {h b:Hp} {p:Addr} {c:List Int} (a:h<=b) (t:uy h p c):uy b p c:=by obtain ⟨sl,m,d,e,f⟩:=t.ex;exact ⟨sl,m,nE a d,e.mono a,a _ _ f⟩
theorem uy.sl {h:Hp} {p:Addr} {a:List Int} (t:uy h p a) {K:Sl->Prop} (d:∀sl,Us h sl a->K sl):aN none aw h (p.add 0) K:=by
 obtain ⟨sl,m,b,c,e⟩:=t.ex;refine ⟨sl,λi v hv=> ?_,d sl c⟩;cases i with
 | zero=>have:=b 0 v (by simpa [bA,Sl.v] using hv);rw [vV];exact this
 | succ i=>simp [bA] at hv
theorem uy.Iw {h:Hp} {p:Addr} {a:List Int} (t:uy h p a) {c:Bool} {K:Sl->Prop} (e:∀sl,Us h sl a->K sl):aN (some c) aw h (p.add 0) K:=by obtain ⟨sl,b,d⟩:=t.sl e;exact ⟨sl,λ_=>b,d⟩
theorem uy.map {h:Hp} {p:Addr} {a:List Int} (t:uy h p a) {K:Option Nat->Prop} (d:∀m,h m=some (.map (qD a 0).toArray a.length)->K (some m)):aN none ig h (p.add 1) K:=by
 obtain ⟨sl,m,b,e,c⟩:=t.ex;refine ⟨some m,λi v hv=> ?_,d m c⟩;cases i with
 | zero=>have:=b 1 v (by simpa [bA] using hv);rw [vV];exact this
 | succ i=>simp [bA] at hv
theorem K7 {p:Addr} {a:List Int} {i:Int} {Q:Bool->Hp->Prop} {h:Hp} (t:uy h p a) (b:Q (decide (0<=i)&&decide (i<(a.length:Int))) h):zry prog (some p) i Q h:=by unfold zry;refine aJ (t.Iw λsl c=>aE ?_);rw [c.1];exact b
theorem NL {p:Addr} {a:List Int} {i j:Int} {Q:Bool->Hp->Prop} {h:Hp} (t:uy h p a) (l:∀x∈a,qW x) (d:Q (fl a i j) h):Zu prog (some p) i j Q h:=by
 unfold Zu;refine zum (K7 t ?_);generalize c:(decide (0<=i)&&decide (i<(a.length:Int)))=ci;refine ⟨λe=>zum (K7 t ?_),λe=>⟨false,?_⟩⟩
 ·generalize b:(decide (0<=j)&&decide (j<(a.length:Int)))=q;refine aE ?_;subst e;rw [Bool.true_and];simp at c;refine aJ (t.Iw λsl f=> ?_);refine Rs.pH f (0:Int) (λ_=>rfl) (by omega) (λ_=>c) λ(x:Int) m=> ?_;refine aJ (t.Iw λo g=> ?_);refine Rs.pH g (0:Int) (λ_=>rfl) (by omega) (λe=>by grind) λ(y:Int) n=> ?_;refine ⟨λe=> ?_,λe=>⟨false,?_⟩⟩
  ·have ex:=m e;have k:=n e;rw [e] at b;simp at b;refine WZ (abK (l x (List.mem_of_getElem? ex)) (l y (List.mem_of_getElem? k)) (aE ?_));rw [e,Bool.true_and,<-H5 ⟨c.1,b.1⟩ ex k];exact d
  ·refine aE ?_;rw [e] at b ⊢;rw [Bool.false_and,<-N8 (xs:=a) (i:=i) (j:=j) (by simp at b;omega)];exact d
 ·subst e;simp at c;refine aE ?_;rw [Bool.false_and];refine aJ (t.Iw λsl f=> ?_);refine Rs.pH f (0:Int) (λ_=>rfl) (by omega) (λe=>by cases e) λ(x:Int) m=> ?_;refine aJ (t.Iw λo g=> ?_);refine Rs.pH g (0:Int) (λ_=>rfl) (by omega) (λe=>by cases e) λ(y:Int) n=> ?_;refine ⟨λe=>(by cases e),λe=>⟨false,aE ?_⟩⟩;rw [Bool.false_and,<-N8 (xs:=a) (i:=i) (j:=j) (by omega)];exact d
theorem Yf {s:Sl} {xs:List Int} {Q:Sl->Hp->Prop} {h:Hp} (r:Us h s xs) (j:xs.length<=1000000) (f:∀out b,h<=b->R2 h b out xs->Q out b):QL prog s Q h:=by
 unfold QL;refine ⟨s.base.isNone,RM (cD.cH 22 AM rfl) s,?_⟩;cases hb:s.base with
 | none=>
  rw [if_pos (show (none:Option Addr).isNone=true from rfl)];have:xs=[]:=by
   rcases r.2.2 with e | ⟨a,i,_⟩
   ·exact List.length_eq_zero_iff.1 (by omega)
   grind
  subst this;exact f _ h (Hp.le_refl h) ⟨rfl,Nat.le_refl _,.inl ⟨rfl,rfl⟩⟩
 | some a=>
  rw [jO];refine wW (xs:=([]:List Int)) (enc:=λx=>bA ((af .u64).enc x)) (sz:=1) (Hp.le_refl h) rfl (λ_=>rfl) λa g c d=> ?_;refine Cb c d (Rw.mono c r) (λ_=>rfl) (λ_=>rfl) rfl ?_ λm b k l _=> ?_
  ·simp;omega
  grind
theorem TH {b:List Int} (g:b.Pairwise (· < ·)) {t:Nat} {x:Int} (h:b[t]? =some x):x∉b.take t:=by
 intro f;obtain ⟨i,a⟩:=List.mem_iff_getElem?.1 f;rw [List.getElem?_take] at a;split at a
 ·rename_i e;obtain ⟨c,j⟩:=List.getElem?_eq_some_iff.1 a;obtain ⟨d,k⟩:=List.getElem?_eq_some_iff.1 h;have:=List.pairwise_iff_getElem.1 g i t c d e;omega
 ·cases a
theorem ab8 {l:Sl} {a:List Int} {Q:Option Addr->Int->Int->Hp->Prop} {h:Hp} (r:Us h l a) (G:a.length<=8) (s:a.Pairwise (· < ·)) (L:a=[]->Q none 1 0 h)
  (E:a≠ []->∀p g,h<=g->uy g p a->Q (some p) 0 0 g):Pt prog l Q h:=by
 unfold Pt;refine zvz (ab6 r G s (λe=> ?_) (λe=> ?_))
 ·grind
 rw [jO];refine zgj (Yf r (by omega) λout q y J=> ?_);intro m A;have z:q<=q.set m (.map #[] 0):=mY A;intro b t hb;have n:=mY (o:=.cells (([out.v,.map (some m)]:List Value).toArray) t (0,0)) hb;have I:h m=none:=qj y A;have M:b≠m:=λe=>by rw [e,nz] at hb;cases hb
 have K:Us q out a:=J.rw λ_=>rfl;refine ⟨_,rfl,out,?_,?_⟩
 ·intro i v hv;cases i with
  | zero=>rw [vV];exact Hc 0 v (by simpa [bA,Sl.v] using hv)
  | succ i=>simp [bA] at hv
 refine aB.intro (λi k=>h<=k/\0<=i/\i<=(a.length:Int)/\Us k out a/\aZ k ⟨b,0,none⟩ [out.v,.map (some m)]/\k m=some (.map (qD (a.take i.toNat) 0).toArray i.toNat)) (λi _=>(a.length-i).toNat)
  ⟨Hp.le_trans y (Hp.le_trans z n),by omega,by omega,Rw.mono (Hp.le_trans z n) K,Hc,n _ _ nz⟩ ?_
 rintro i k ⟨w,F,N,f,hp,d⟩;have O:=f.1;split
 ·rename_i e;have e:i<(out.len:Int):=by simpa using e
  refine Rs.get f (λ_=>rfl) (by omega) F (by omega) λ(x:Int) B=> ?_;refine ⟨_,rfl,some m,?_,?_⟩
  ·intro j v hv;cases j with
   | zero=>have:=hp 1 v (by simpa [bA] using hv);rw [vV];exact this
   | succ j=>simp [bA] at hv
  have H:(a.take i.toNat).length=i.toNat:=by grind
  refine ⟨m,_,_,rfl,d,.inl ⟨?_,?_⟩⟩
  ·have:=PA x (a.take i.toNat) 0;rw [OM (TH s B)] at this;exact this
  ·have u:∀o,qU k (k.set m o):=λo=>abZ d rfl;rw [aV];refine ⟨⟨KI w I,by omega,by omega,Rw.ck (u _) f,MC (u _) hp,?_⟩,by omega⟩;rw [nz];have C:(i+1).toNat=i.toNat+1:=by omega
   have c:a.take (i.toNat+1)=a.take i.toNat++ [x]:=by rw [List.take_add_one,B];rfl
   rw [C,c,PB,H];grind
 ·rename_i c;have c:¬i<(out.len:Int):=by simpa using c
  have D:i.toNat=a.length:=by omega
  rw [D,List.take_length] at d;exact E e _ _ w ⟨out,m,hp,f,d⟩
def sj :Int->List Int->Int->Int×Int
 | _,[],_=>(0,0)
 | p,x::r,i=>if x=p then (8,i) else if x<p then (7,i) else sj x r (i+1)
def jH :List Int->Int×Int
 | []=>(1,0)
 | x::r=>if 8<r.length+1 then (3,8) else sj x r 1
theorem PD :∀ {r:List Int} {p i:Int},(sj p r i).1=0↔(p::r).Pairwise (· < ·)
 | [],p,i=>by simp [sj]
 | x::r,p,i=>by
  simp only [sj];by_cases b:x=p
  ·rw [if_pos b,List.pairwise_cons];refine ⟨λe=>(by cases e),λh=> ?_⟩;have:=h.1 x (List.mem_cons_self ..);omega
  ·rw [if_neg b];by_cases c:x<p
   ·rw [if_pos c,List.pairwise_cons];refine ⟨λe=>(by cases e),λh=> ?_⟩;have:=h.1 x (List.mem_cons_self ..);omega
   ·rw [if_neg c,PD,List.pairwise_cons (a:=p)];refine ⟨λh=>⟨λy hy=> ?_,h⟩,λh=>h.2⟩;rcases List.mem_cons.1 hy with rfl | hy
    ·omega
    ·have:=(List.pairwise_cons.1 h).1 y hy;omega
theorem fN {xs:List Int}:(jH xs).1=0↔xs≠ []/\xs.length<=8/\xs.Pairwise (· < ·):=by
 cases xs with
 | nil=>simp [jH]
 | cons x r=>
  simp only [jH,List.length_cons];by_cases h:8<r.length+1
  ·grind
  ·rw [if_neg h,PD];grind
theorem GV {P:Program} {l:Sl} {f:List Int} {Q:Int->Int->Hp->Prop} {h:Hp} (r:Us h l f) (e:Q (jH f).1 (jH f).2 h):Po P l Q h:=by
 unfold Po;have o:=r.1;cases u:f with
 | nil=>subst u;rw [if_pos (by simp [o])];exact e
 | cons b a=>
  subst u;simp only [List.length_cons] at o;rw [if_neg (show ¬(((l.len:Int)==0)=true) by simp;omega)];by_cases m:(l.len:Int)>8
  ·rw [if_pos (decide_eq_true m)];have:jH (b::a)=(3,8):=by simp only [jH];rw [if_pos (by omega)]
   grind
  rw [if_neg λg=>m (of_decide_eq_true g)];have E:jH (b::a)=sj b a 1:=by simp only [jH];grind
  rw [E] at e;refine aB.intro (λi k=>k=h/\1<=i/\i<=((a.length:Int)+1)/\∃p,(b::a)[(i-1).toNat]? =some p/\sj p ((b::a).drop i.toNat) i=sj b a 1) (λi _=>(a.length+1-i).toNat)
   ⟨rfl,by omega,by omega,b,rfl,rfl⟩ ?_
  rintro i k ⟨rfl,F,G,p,hp,c⟩;split
  ·rename_i d;have d:i<(l.len:Int):=by simpa using d
   have H:((b::a).length:Int)=(a.length:Int)+1:=by simp
   rw [wrap64 (n:=i-1) (by omega) (by omega)];refine r.get (λ_=>rfl) (by omega) (by omega) (by omega) λ(x:Int) j=> ?_;refine r.get (λ_=>rfl) (by omega) (by omega) (by omega) λ(y:Int) v=> ?_;rw [hp] at v;cases v;have D:(b::a).drop i.toNat=x::(b::a).drop (i.toNat+1):=by obtain ⟨B,C⟩:=List.getElem?_eq_some_iff.1 j;rw [List.drop_eq_getElem_cons B,C]
   rw [D] at c;simp only [sj] at c;by_cases t:x=p
   ·grind
   rw [if_neg (by simpa using t)];rw [if_neg t] at c;refine r.get (λ_=>rfl) (by omega) (by omega) (by omega) λ(I:Int) s=> ?_;rw [j] at s;cases s;refine r.get (λ_=>rfl) (by omega) (by omega) (by omega) λ(J:Int) w=> ?_;rw [hp] at w;cases w;by_cases q:x<p
   ·grind
   rw [if_neg λg=>q (of_decide_eq_true g)];rw [if_neg q] at c;rw [aV];have z:(i+1).toNat=i.toNat+1:=by omega
   have A:(i+1-1).toNat=i.toNat:=by omega
   exact ⟨⟨rfl,by omega,by omega,x,by rw [A];exact j,by rw [z];exact c⟩,by omega⟩
  ·rename_i d;have d:¬i<(l.len:Int):=by simpa using d
   rw [List.drop_eq_nil_of_le (by simp;omega)] at c;rw [<-c] at e;exact e
theorem MW {l:Sl} {a:List Int} {Q:Option Addr->Int->Int->Hp->Prop} {h:Hp} (r:Us h l a) (j:(jH a).1≠0->Q none (jH a).1 (jH a).2 h)
  (d:(jH a).1=0->∀p b,h<=b->uy b p a->Q (some p) 0 0 b):Pt prog l Q h:=by
 by_cases c:(jH a).1=0
 ·obtain ⟨i,g,f⟩:=fN.1 c;exact ab8 r g f (λe=>absurd e i) λ_=>d c
 ·unfold Pt;refine zvz (GV r ?_);grind
def dR {c d:Type} (R:c->d->Prop):List c->List d->Prop
 | [],[]=>True
 | a::l,b::m=>R a b/\dR R l m
 | _,_=>False
section
variable {α β:Type} {R S:α->β->Prop}
theorem dR.len :∀ {l:List α} {m:List β},dR R l m->l.length=m.length
 | [],[],_=>rfl
 | _::l,_::m,h=>by simp [dR.len h.2]
 | [],_::_,h=>h.elim
 | _::_,[],h=>h.elim
theorem dR.imp (c:∀a b,R a b->S a b):∀ {l:List α} {m:List β},dR R l m->dR S l m
 | [],[],_=>trivial
 | _::_,_::_,h=>⟨c _ _ h.1,dR.imp c h.2⟩
 | [],_::_,h=>h.elim
 | _::_,[],h=>h.elim
theorem dR.get :∀ {l:List α} {m:List β} {i:Nat} {a:α},dR R l m->l[i]? =some a->∃b,m[i]? =some b/\R a b
 | [],_,_,_,_,e=>by simp at e
 | _::_,[],_,_,h,_=>h.elim
 | _::_,b::_,0,_,h,e=>by simp at e;subst e;exact ⟨b,rfl,h.1⟩
 | _::_,_::_,i+1,_,h,e=>by rw [List.getElem?_cons_succ] at e;obtain ⟨b,c,d⟩:=dR.get h.2 e;grind
theorem dR.get' :∀ {l:List α} {m:List β} {i:Nat} {b:β},dR R l m->m[i]? =some b->∃a,l[i]? =some a/\R a b
 | _,[],_,_,_,e=>by simp at e
 | [],_::_,_,_,h,_=>h.elim
 | a::_,_::_,0,_,h,e=>by simp at e;subst e;exact ⟨a,rfl,h.1⟩
 | _::_,_::_,i+1,_,h,e=>by rw [List.getElem?_cons_succ] at e;obtain ⟨b,c,d⟩:=dR.get' h.2 e;grind
theorem dR.app :∀ {l a:List α} {m b:List β},dR R l m->dR R a b->dR R (l++a) (m++b)
 | [],_,[],_,_,h=>h
 | _::_,_,_::_,_,h,c=>⟨h.1,dR.app h.2 c⟩
 | [],_,_::_,_,h,_=>h.elim
 | _::_,_,[],_,h,_=>h.elim
theorem dR.drop :∀ {l:List α} {m:List β} (n:Nat),dR R l m->dR R (l.drop n) (m.drop n)
 | _,_,0,h=>h
 | [],[],_+1,h=>h
 | _::_,_::_,n+1,h=>dR.drop n h.2
 | [],_::_,_+1,h=>h.elim
 | _::_,[],_+1,h=>h.elim
theorem dR.take :∀ {l:List α} {m:List β} (n:Nat),dR R l m->dR R (l.take n) (m.take n)
 | _,_,0,_=>trivial
 | [],[],_+1,h=>h
 | _::_,_::_,n+1,h=>⟨h.1,dR.take n h.2⟩
 | [],_::_,_+1,h=>h.elim
 | _::_,[],_+1,h=>h.elim
end
def mU (h:Hp) (q:bR) (p:fI):Prop:=q.Part=p.part/\∃a,nG h q.Code a/\a.map bu=p.code
abbrev HS (h:Hp) (l:Sl) (a:List bR):Prop:=Rs h bT 2 l a
structure eT (h:Hp) (c:an) (p:aL):Prop where
 labels:Us h c.aQ p.labels
 table:Is h c.Table p.table
 fuel:c.Fuel=p.fuel
 lane:c.fD=p.lane
 ag:c.bE=p.ag
 log:c.Log=p.log
 procs:∃ps,HS h c.aD ps/\dR (mU h) ps p.procs
section
variable {h b:Hp}
theorem mU.mono (f:h<=b) {q:bR} {p:fI} (a:mU h q p):mU b q p:=by obtain ⟨c,g,d,e⟩:=a;exact ⟨c,g,Rw.mono f d,e⟩
theorem eT.mono (d:h<=b) {c:an} {p:aL} (a:eT h c p):eT b c p:=by obtain ⟨i,f,g⟩:=a.procs;exact ⟨Rw.mono d a.labels,Rw.mono d a.table,a.fuel,a.lane,a.ag,a.log,i,Rw.mono d f,g.imp λ_ _ e=>e.mono d⟩
end
section
variable {P:Program} {h:Hp}
theorem yS {n a b:Int} {Q:Bool->Hp->Prop} (c:Q (within n a b) h):zyv P n a b Q h:=by unfold zyv;exact aE c
theorem GX {n dS:Int} {Q:Int->Hp->Prop} (a:Q (gg dS n) h):Ek P n dS Q h:=by unfold Ek;unfold gg at a;grind
def qw (part n:Int):Int:=if part=2 then dD 1 256 n else if part=3 then dD 1 64 n else if part=4 then dD 0 8 n else if part=5 then dD 0 4096 n else 0
theorem PE {part n:Int} {Q:Int->Hp->Prop} (c:Q (qw part n) h):zyu prog part n Q h:=by
 unfold zyu;unfold qw at c;have one:∀a b,Q (dD a b n) h->(if (!(within n a b))=true then Q 2 h else Q 0 h):=λa b c=>by unfold dD at c;grind
 by_cases d:part=2
 ·rw [if_pos d] at c;rw [if_pos (by simpa using d)];exact M1 (yS (one 1 256 c))
 ·rw [if_neg d] at c;rw [if_neg (by simpa using d)];by_cases e:part=3
  ·rw [if_pos e] at c;rw [if_pos (by simpa using e)];exact M1 (yS (one 1 64 c))
  ·rw [if_neg e] at c;rw [if_neg (by simpa using e)];by_cases f:part=4
   ·rw [if_pos f] at c;rw [if_pos (by simpa using f)];exact M1 (yS (one 0 8 c))
   ·rw [if_neg f] at c;rw [if_neg (by simpa using f)];by_cases g:part=5
    ·rw [if_pos g] at c;rw [if_pos (by simpa using g)];exact M1 (yS (one 0 4096 c))
    grind
end
theorem D0 {h:Hp} {s:Sl} {a:List Int} {p:Int->Bool} {f:xK} {Q:Int->Hp->Prop} (r:Is h s a) (w:a.length<=1000000)
  (n:∀x∈a,∀(k:Hp) (K:Bool->Hp->Prop),h<=k->(∀d,h<=d->K (p x) d)->iK prog tb (.func (.func f.g) f.first f.captured) [.int .i64 x] bH K k)
  (q:∀i j,h<=j->(0<=i↔a.any p=true)->Q i j):UB prog s f Q h:=by
 unfold UB;have z:=r.1;refine aB.intro (λi k=>h<=k/\0<=i/\i<=(a.length:Int)/\∀x∈a.take i.toNat,p x=false) (λi _=>(a.length-i).toNat) ⟨Hp.le_refl h,by omega,by omega,λx b=>by simp at b⟩ ?_;rintro i k ⟨c,m,v,u⟩;by_cases l:i<(a.length:Int)
 ·rw [if_pos (iW)];refine Rs.get (sh:=af .i64) (Rw.mono c r) (λ_=>rfl) (by omega) m l λx b=> ?_;refine n x (List.mem_of_getElem? b) k _ c λd o=> ?_;cases hp:p x with
  | true=>grind
  | false=>
   rw [jO,aV];refine ⟨⟨o,by omega,by omega,λy t=> ?_⟩,by omega⟩;have:(i+1).toNat=i.toNat+1:=by omega
   rw [this,List.take_add_one,b] at t;grind
 ·rw [if_neg (λe=>l (by have:=of_decide_eq_true e;omega))];refine q (-1) k c ⟨λe=>by omega,λe=> ?_⟩;obtain ⟨x,b,hp⟩:=List.any_eq_true.1 e;have:a.take i.toNat=a:=List.take_of_length_le (by omega);grind
theorem VH {s:Sl} {xs:List Int} {Q:Sl->Hp->Prop} {h:Hp} (r:Is h s xs) (j:xs.length<=1000000) (f:∀out b,h<=b->R1 h b out xs->Q out b):Hq prog s Q h:=by
 unfold Hq;refine ⟨s.base.isNone,RM (cD.cH 23 uX rfl) s,?_⟩;cases hb:s.base with
 | none=>
  rw [if_pos (show (none:Option Addr).isNone=true from rfl)];have:xs=[]:=by
   rcases r.2.2 with e | ⟨a,i,_⟩
   ·exact List.length_eq_zero_iff.1 (by omega)
   grind
  subst this;exact f _ h (Hp.le_refl h) ⟨rfl,Nat.le_refl _,.inl ⟨rfl,rfl⟩⟩
 | some a=>
  rw [jO];refine wW (xs:=([]:List Int)) (enc:=λx=>bA ((af .i64).enc x)) (sz:=1) (Hp.le_refl h) rfl (λ_=>rfl) λa g c d=> ?_;refine Cb c d (Rw.mono c r) (λ_=>rfl) (λ_=>rfl) rfl ?_ λm b k l _=> ?_
  ·simp;omega
  grind
theorem adN {h:Hp} {t:Sl} {xs:List Int} {n:Int} {Q:Option Addr->Int->Int->Hp->Prop} (r:Is h t xs) (D:1<=n) (F:n<=8) (B:xs≠ []) (G:xs.length<=64)
  (m:∀p i d,h<=d->Q p (if (xs.all λx=>within x 0 (n-1))=false then 2 else 0) i d):Pq prog t n Q h:=by
 unfold Pq;have H:=r.1;have J:0<xs.length:=List.length_pos_iff.2 B;intro b ty z;have l:=mY (o:=.cells (#[Value.int .i64 n]) ty (0,0)) z;have a:aZ (h.set b (.cells (#[Value.int .i64 n]) ty (0,0))) ⟨b,0,none⟩ [.int .i64 n]:=Hc (cs:=[Value.int .i64 n]);refine bg (sh:=af .i64) n a ?_;refine ⟨n,λ_=>a,?_⟩;refine aE (aE ?_);rw [if_neg (by simp;omega),if_neg (by simp;omega)];have y:(xs.any λx=>decide (x<0) || decide (x>=n))= !(xs.all λx=>within x 0 (n-1)):=by
  rw [Bool.eq_iff_iff];simp only [List.any_eq_true,Bool.not_eq_true',List.all_eq_false,Bool.or_eq_true,decide_eq_true_eq];constructor
  ·rintro ⟨x,q,hb⟩;exact ⟨x,q,by rw [dC];omega⟩
  ·rintro ⟨x,q,hb⟩;exact ⟨x,q,by rw [dC] at hb;omega⟩
 refine Ud (f:=⟨Oi, #[], #[.pointer (some ⟨b,0,none⟩)]⟩) (D0 (p:=λx=>decide (x<0) || decide (x>=n)) (Rw.mono l r) (by omega) (λx _ k K u w=> ?_) λi d c j=> ?_)
 ·refine xA (g:=Oi) rfl (KO ?_);unfold zyz;refine ⟨n,λ_=>nE u a,aE (w k u)⟩
 ·dsimp only;rw [y] at j;cases s:(xs.all λx=>within x 0 (n-1)) with
  | false=>rw [s] at j m;rw [if_pos (decide_eq_true (j.2 rfl))];exact m none i d (Hp.le_trans l c)
  | true=>rw [s] at j m;rw [if_neg (λe=>by grind)];refine bg (sh:=af .i64) n (nE c a) ?_;refine QO (VH (Rw.mono (Hp.le_trans l c) r) (by omega) λout E v I=> ?_);refine ⟨⟨nE (Hp.le_trans c v) a,trivial⟩,?_⟩;intro C t2 A;exact m _ 0 _ (Hp.le_trans (Hp.le_trans l c) (Hp.le_trans v (mY A)))
def pQ :List Int->Int->Int×Int->Int×Int
 | [],_,z=>z
 | n::r,i,z=>if qw i n≠0 then (qw i n,i) else pQ r (i+1) z
def tL (c:aL):Int×Int:=if c.procs=[] then (1,6) else if 32<c.procs.length then (3,6) else wa c.labels.length c.ag c.procs 0
theorem VJ (m:Int) (c:aL):uK m c=if m≠0 then (m,0) else if c.table=[] then (1,1) else if 64<c.table.length then (3,1)
  else if (c.table.all λp=>within p 0 (c.labels.length-1))=false then (2,1) else pQ [0,0,c.fuel,c.lane,c.ag,c.log] 0 (tL c):=by
 unfold uK;have a:qw 0 0=0:=rfl;have b:qw (0+1) 0=0:=rfl;have d:qw (0+1+1) c.fuel=dD 1 256 c.fuel:=rfl;have e:qw (0+1+1+1) c.lane=dD 1 64 c.lane:=rfl;have f:qw (0+1+1+1+1) c.ag=dD 0 8 c.ag:=rfl;have g:qw (0+1+1+1+1+1) c.log=dD 0 4096 c.log:=rfl;simp only [pQ,a,b,d,e,f,g,ne_eq,not_true_eq_false,if_false];unfold dD tL;grind
def fa (c:aL):Int×Int:=uK (jH c.labels).1 c
theorem EZ {h:Hp} {c:an} {p:aL} {Q:Int->Int->Hp->Prop} (a:eT h c p) (b:∀z,h<=z->Q (fa p).1 (fa p).2 z):EG prog c Q h:=by
 unfold EG;have le:=Hp.le_refl h;unfold fa at b;rw [VJ] at b;refine zvz (GV a.labels ?_);dsimp only;by_cases m:(jH p.labels).1≠0
 ·grind
 rw [if_neg m] at b;rw [if_neg (by simpa using m)];obtain ⟨O,b1,_⟩:=fN.1 (Classical.not_not.1 m);have R:=a.labels.1;have U:=a.table.1;have b2:0<p.labels.length:=List.length_pos_iff.2 O;refine zwa (GX ?_);by_cases g:p.table=[]
 ·rw [if_pos g] at b;have e:gg 64 (c.Table.len:Int)=1:=by unfold gg;rw [if_pos (by rw [U,g];rfl)]
  grind
 rw [if_neg g] at b;have b4:0<p.table.length:=List.length_pos_iff.2 g;by_cases A:64<p.table.length
 ·rw [if_pos A] at b;have e:gg 64 (c.Table.len:Int)=3:=by unfold gg;rw [qt,if_pos (by omega)]
  grind
 rw [if_neg A] at b;have e:gg 64 (c.Table.len:Int)=0:=by unfold gg;omega
 rw [e,if_neg (by simp)];rw [R];refine L3 (adN a.table (by omega) (by omega) g (by omega) λsp si B a8=> ?_);dsimp only;by_cases L:(p.table.all λx=>within x 0 (p.labels.length-1))=false
 ·grind
 rw [if_neg L] at b;rw [if_neg (by grind)];refine wW (h0:=B) (xs:=([0,0,p.fuel,p.lane,p.ag,p.log]:List Int)) (enc:=λx=>bA ((af .i64).enc x)) (sz:=1) (Hp.le_refl B) (by rw [a.fuel,a.lane,a.ag,a.log];rfl) (λ_=>rfl) λy C a9 o4=> ?_;have r4:Is C ⟨some y,6,6⟩ [0,0,p.fuel,p.lane,p.ag,p.log]:=o4.rw λ_=>rfl;have b0:=Hp.le_trans a8 a9;obtain ⟨w,H,F⟩:=a.procs;have S:=H.1;have T:=F.len;refine aB.intro (λi k=>C<=k/\0<=i/\i<=6/\pQ (([0,0,p.fuel,p.lane,p.ag,p.log]:List Int).drop i.toNat) i (tL p)=pQ [0,0,p.fuel,p.lane,p.ag,p.log] 0 (tL p)) (λi _=>(6-i).toNat) ⟨Hp.le_refl _,by omega,by omega,rfl⟩ ?_;rintro i k ⟨t,h0,M,d⟩;have P:=Hp.le_trans b0 t;by_cases o:i<6
 ·rw [if_pos (decide_eq_true o)];refine Rs.get (sh:=af .i64) (l:=⟨some y,6,6⟩) (Rw.mono t r4) (λ_=>rfl) (by omega) h0 (by simpa using o) λx I=> ?_;refine KM (PE ?_);have s:([0,0,p.fuel,p.lane,p.ag,p.log]:List Int).drop i.toNat=x::([0,0,p.fuel,p.lane,p.ag,p.log]:List Int).drop (i.toNat+1):=by grind
  rw [s,pQ] at d;by_cases f:qw i x≠0
  ·grind
  ·rw [if_neg f] at d;rw [if_neg (by simpa using f),aV];refine ⟨⟨t,by omega,by omega,?_⟩,by omega⟩;have:(i+1).toNat=i.toNat+1:=by omega
   grind
 ·rw [if_neg (λe=>o (of_decide_eq_true e))];have:i=6:=by omega
  subst this;rw [show ([0,0,p.fuel,p.lane,p.ag,p.log]:List Int).drop (6:Int).toNat=[] from rfl,pQ] at d;rw [<-d] at b;unfold tL at b;refine zwa (GX ?_);by_cases f:p.procs=[]
  ·rw [if_pos f] at b;have e:gg 32 (c.aD.len:Int)=1:=by unfold gg;rw [if_pos (by rw [S,T,f];rfl)]
   grind
  rw [if_neg f] at b;have b3:0<p.procs.length:=List.length_pos_iff.2 f;by_cases D:32<p.procs.length
  ·rw [if_pos D] at b;have e:gg 32 (c.aD.len:Int)=3:=by unfold gg;rw [qt,if_pos (by omega)]
   grind
  rw [if_neg D] at b;have e:gg 32 (c.aD.len:Int)=0:=by unfold gg;omega
  rw [e,if_neg (by simp)];refine aB.intro (λi J=>k<=J/\0<=i/\i<=(w.length:Int)/\wa p.labels.length p.ag (p.procs.drop i.toNat) i=wa p.labels.length p.ag p.procs 0) (λi _=>(w.length-i).toNat) ⟨Hp.le_refl _,by omega,by omega,rfl⟩ ?_;rintro i J ⟨G,h0,M,d⟩;have u:=Hp.le_trans P G;by_cases E:i<(w.length:Int)
  ·rw [if_pos (iW)];refine Rs.get (sh:=bT) (Rw.mono u H) (λ_=>rfl) (by omega) h0 E λq I=> ?_;obtain ⟨v,W,X,is,N,V⟩:=F.get I;have s:p.procs.drop i.toNat=v::p.procs.drop (i.toNat+1):=by obtain ⟨b5,Y⟩:=List.getElem?_eq_some_iff.1 W;rw [<-Y];simp
   rw [s,wa] at d;rw [wrap64 (n:=(p.labels.length:Int)-1) (by omega) (by omega)];refine M1 (yS ?_);rw [X];by_cases r:within v.part 0 ((p.labels.length:Int)-1)=false
   ·rw [if_pos r] at d;rw [if_pos (by rw [r];rfl),aV];grind
   rw [if_neg r] at d;rw [if_neg (by grind)];refine MG (OL (Rw.mono u N) λZ K=> ?_);dsimp only;rw [V,a.ag];by_cases j:(je v.code p.ag).1≠0
   ·rw [if_pos j] at d;rw [if_pos (by simpa using j),aV];rw [<-d] at b;exact b Z (Hp.le_trans u K)
   ·rw [if_neg j] at d;rw [if_neg (by simpa using j),aV];refine ⟨⟨Hp.le_trans G K,by omega,by omega,?_⟩,by omega⟩;grind
  ·rw [if_neg (λe=>E (by have:=of_decide_eq_true e;omega))];rw [List.drop_eq_nil_of_le (by omega),wa] at d;grind
theorem K8 {p:Type} {h0 h:Hp} {sz bytes:Nat} {enc:p->List Value} {zero:List Value} {l x:Sl} {xs a:List p} {K:Sl->Hp->Prop} (m:h0<=h) (o:Rw h sz enc l xs) (E:l.len=l.cap) (r:Rw h sz enc x a) (z:a≠ [])
  (f:∀x,(enc x).length=sz) (A:∀x,jL (enc x)=true) (C:zero.length=sz) (hb:xs.length+a.length<=140737488355328/\(xs.length+a.length)*bytes<=140737488355328)
  (y:∀n d,h0<=d->Own h0 d sz enc n (xs++a)->h<=d->K n d):eC sz bytes zero l x K h:=by
 obtain ⟨e,u⟩:=o;obtain ⟨g,B⟩:=r;have F:0<a.length:=List.length_pos_iff.2 z;refine ⟨a.flatMap enc,by rw [g];exact B,xs.flatMap enc,by rw [e];exact u,by rw [e,g];exact hb,tX A a,λw=>by omega,λw c b t v i=> ?_⟩;have j:h<=(h.set b (.cells (xs.flatMap enc++a.flatMap enc++fC zero (c-(l.len+x.len))).toArray t (0,0))):=mY i;refine y _ _ (Hp.le_trans m j) ⟨by simp [e,g],v,.inr ⟨b,xs.flatMap enc++a.flatMap enc++fC zero (c-(l.len+x.len)),t,rfl,by simp [Hp.set],?_,?_,?_⟩⟩ j
 ·have D:∀k,(fC zero k).length=k*sz:=λk=>by simp [fC,C]
  rw [List.length_append,List.length_append,jv f,jv f,D,<-Nat.add_mul,<-Nat.add_mul];show _=c*sz;congr 1;omega
 ·have s:(l.len+x.len)*sz=(xs.flatMap enc++a.flatMap enc).length:=by rw [List.length_append,jv f,jv f,e,g,Nat.add_mul]
  show List.take ((l.len+x.len)*sz) _=_;rw [s,List.take_left,List.flatMap_append]
 ·cases q:h0 b with
  | none=>rfl
  | some G=>rw [m _ _ q] at i;cases i
theorem GY {h:Hp} {cs:List Value} (c:List UInt8) {n:Nat} {K:Addr->Hp->Prop} (l:cs=c.map λb=>.int .u8 (b.toNat:Int)) (p:n=c.length) (m:∀a d,h<=d->Bs d ⟨some a,n,n⟩ c->K a d):
  bc cs (λa j=>qX (some a) (λ_ k=>K a k) j) h:=by
 subst p;intro b t hb;refine ⟨b,0,cs.toArray,t,rfl,nz,?_⟩;refine m ⟨b,0,none⟩ _ (λf o e=> ?_) ⟨rfl,?_,.inr ⟨_,rfl,λi v hv=> ?_⟩⟩
 ·have q:f≠b:=λg=>by rw [g,hb] at e;cases e
  simp [Hp.set,q,e]
 ·rw [jv sQ]
 ·rw [Py,<-l] at hv;rw [kE];simp only [dy,Hp.set,if_true,Nat.zero_add];simpa using hv
theorem aaE {h:Hp} {n:Int} {K:Sl->Hp->Prop} (h0:0<=n) (d:n<=1000000) (c:∀l a,h<=a->ki h a l []->K l a):dU 1 [.int .u8 0] 0 n K h:=by refine ⟨⟨by omega,h0,by omega,by omega⟩,λb t hb=> ?_⟩;refine c _ _ (mY hb) ⟨rfl,by simp,.inr ⟨b,fC [.int .u8 0] n.toNat,t,rfl,nz,?_,rfl,hb⟩⟩;simp [fC]
theorem adO {x:df} {n a b:Int} (l:a<=b) (h:(ja x n a).1=0):(ja x n b).1=0:=by
 unfold ja at h ⊢;by_cases g:x.op<0\/34<=x.op
 ·rw [if_pos g] at h;cases h
 rw [if_neg g] at h ⊢;by_cases d:du (iI x.op).1 x.a≠0
 ·rw [if_pos d] at h;exact absurd h d
 rw [if_neg d] at h ⊢;by_cases e:du (iI x.op).2.1 x.b≠0
 ·rw [if_pos e] at h;exact absurd h e
 rw [if_neg e] at h ⊢;by_cases f:du (iI x.op).2.2.1 x.c≠0
 ·rw [if_pos f] at h;exact absurd h f
 rw [if_neg f] at h ⊢;by_cases i:(iI x.op).2.2.2=false/\x.gR≠0
 ·rw [if_pos i] at h;cases h
 rw [if_neg i] at h ⊢;by_cases j:(x.op=22\/x.op=23)/\(x.gR<0\/n<x.gR)
 ·rw [if_pos j] at h;cases h
 rw [if_neg j] at h ⊢;by_cases k:(x.op=29\/x.op=30)/\(x.gR<0\/a<=x.gR)
 ·rw [if_pos k] at h;cases h
 rw [qt]
theorem TI {l:List df} {a b:Int} (c:0<=a) (f:a<=b) (hb:b<=8) (h:(je l a).1=0):(je l b).1=0:=by obtain ⟨d,e⟩:=(yZ ⟨c,by omega⟩).1 h;exact (yZ ⟨by omega,hb⟩).2 ⟨d,λx g=>adO f (e x g)⟩
theorem abM {h:Hp} {l:Sl} {xs:List aS} {Q:Sl->Int->Int->Hp->Prop} (r:nG h l xs) (hv:(je (xs.map bu) 8).1=0) (T:∀out d,h<=d->ki h d out (mF (xs.map bu))->Q out 0 0 d):zyx prog l Q h:=by
 unfold zyx;have a8:=r.1;have L:=((yZ ⟨by decide,by decide⟩).1 hv).1;rw [List.length_map] at L;refine MG (OL r λG j=> ?_);dsimp only;rw [hv,if_neg (by simp),aV];refine aaE (by omega) (by omega) λb0 h2 V W=> ?_;refine GU (h0:=G) (sh:=aT) (xs:=xs) (e:=λx=>nk (bu x)) (K:=λb f=>Q ⟨b.base,b.len,b.cap⟩ 0 0 f)
  (body:=λx b k f=>bc [(.int .u8 (IntKind.wrap .u8 x.Op)),(.int .u8 (IntKind.wrap .u8 x.A)),(.int .u8 (IntKind.wrap .u8 x.B)),(.int .u8 (IntKind.wrap .u8 x.C))] (λa m=>
   eC 1 1 [(.int .u8 (0:Int))] ⟨b.base,b.len,b.cap⟩ ⟨(some a),4,4⟩ (λr3 n=>
   bL (α1:=Sl) (α2:=Int) (λu c g o=>
   (if (decide (g<(8:Int)))=true then
   ((0:Int)<=(yw ((8:Int)*g))/\bc [(.int .u8 (IntKind.wrap .u8 (gQ .u64 (IntKind.wrap .u64 x.jM) (yw ((8:Int)*g)))))] (λa1 H=>
   eC 1 1 [(.int .u8 (0:Int))] ⟨c.base,c.len,c.cap⟩ ⟨(some a1),1,1⟩ (λr4 I=>
   u r4 (yw (g+(1:Int))) I) H) o)
   else
   k ⟨c.base,c.len,c.cap⟩ o)) r3 (0:Int) n) m) f) 12 (λ_=>rfl) (by omega) (Rw.mono j r) V W (by omega) (λx _=>by simp [nk,eN]) (λi x b v f k U M R p J=> ?_) λl' d N q=> ?_
 ·have hi:=(List.getElem?_eq_some_iff.1 U).1;have p:v.length<=0+i*12:=p;refine GD M R (bG x.Op 1++(bG x.A 1++(bG x.B 1++bG x.C 1))) (by simp [bG,mP]) rfl (by simp [eN];omega) λl4 m O S _=> ?_;refine MU (k:=8) rfl (by omega) O S (by simp [eN];omega) λl5 n P s=> ?_;refine J _ _ P ?_;rw [ze (by omega)] at s;simpa [nk,bu,List.append_assoc] using s
 ·have e:(xs.flatMap λx=>nk (bu x))=mF (xs.map bu):=by unfold mF;rw [List.flatMap_map]
  rw [List.nil_append,e] at q;refine T _ _ (Hp.le_trans j N) ?_;obtain ⟨X,Y,Z⟩:=q;refine ⟨X,Y,Z.imp id ?_⟩;rintro ⟨b,w,t,y,z,D,E,F⟩;exact ⟨b,w,t,y,z,D,E,qj j F⟩
theorem PF {e:Type} {a c h:Hp} {sz:Nat} {enc:e->List Value} {l:Sl} {d:List e} (n:a<=c) (o:Own c h sz enc l d):Own a h sz enc l d:=by obtain ⟨p,q,r⟩:=o;refine ⟨p,q,r.imp id ?_⟩;rintro ⟨b,f,t,g,i,j,k,m⟩;exact ⟨b,f,t,g,i,j,k,qj n m⟩
theorem aaF {n:Type} {g h:Hp} {sz:Nat} {enc:n->List Value} {l:Sl} {m:List n} (o:Own g h sz enc l m):∃R:List Nat,(∀c∈R,h c≠none)/\(∀c∈R,g c=none)/\∀d,h<=d->Own (mq d R) d sz enc l m:=by
 obtain ⟨j,k,e⟩:=o;rcases e with e | ⟨b,p,t,q,f,r,s,u⟩
 ·exact ⟨[],λc a=>(nomatch a),λc a=>(nomatch a),λd i=>⟨j,k,.inl e⟩⟩
 ·refine ⟨[b],λc a=> ?_,λc a=> ?_,λd i=>⟨j,k,.inr ⟨b,p,t,q,i _ _ f,r,s,KY (List.mem_singleton.2 rfl)⟩⟩⟩
  ·rw [List.mem_singleton.1 a,f];simp
  ·rw [List.mem_singleton.1 a];exact u
theorem VK {f:Type} {e h:Hp} {sz:Nat} {enc:f->List Value} {l:Sl} {j:List f} (o:Own e h sz enc l j) {a:Addr} (c:l.base=some a):e a.block=none:=by
 obtain ⟨q,r,d⟩:=o;rcases d with d | ⟨b,k,t,g,m,n,p,i⟩
 ·rw [d.1] at c;cases c
 ·rw [g] at c;cases c;exact i
theorem abO {h:Hp} {c:an} {p:aL} {Q:Sl->Int->Hp->Prop} (a:eT h c p) (h0:(fa p).1≠0->∀f,h<=f->Q ⟨none,0,0⟩ (fa p).1 f)
  (h1:(fa p).1=0->∀out f,h<=f->ki h f out (fg p)->Q out 0 f):zyt prog c Q h:=by
 unfold zyt;refine zzh (EZ a λl w=> ?_);dsimp only;by_cases j:(fa p).1≠0
 ·rw [if_pos (by simpa using j)];exact h0 j l w
 rw [if_neg (by simpa using j)];have j:=Classical.not_not.1 j;have a1:=a.mono w;obtain ⟨A,e2,e3,e4,e5,e6,m,e8,e9,g9,G⟩:=fA.1 j;obtain ⟨l1,l2,l3⟩:=fN.1 A;obtain ⟨ps,V,L⟩:=a1.procs;have d0:=a1.labels.1;have d2:=a1.table.1;have d1:=V.1;have U:=L.len;refine GY [70,66,67,70,1] rfl rfl λam k2 W bm=> ?_;refine wW (h0:=l) (xs:=bG (c.aQ.len:Int) 1) (enc:=eB) (sz:=1) W (by simp [bG,mP,eB]) sQ λg8 k3 X o3=> ?_;refine K8 (h0:=l) (Hp.le_trans W X) (Rw.mono X bm) rfl (o3.rw sQ) (by simp [bG]) sQ tn rfl (by simp [eN]) λb0 k4 f4 o4 _=> ?_;refine GU (h0:=l) (sh:=af .u64) (xs:=p.labels) (e:=λx=>bG x 8) (body:=λx b k I=>ae prog FY [b.v,(.int .u64 x),(.int .i64 (8:Int))] aw (λr4 J=>k r4 J) I)
  8 (λ_=>rfl) (by omega) a1.labels f4 o4 (by omega) (λx _=>by simp [eN]) (λi x b z H k r n u t s=> ?_) λb1 k5 f5 o5=> ?_
 ·have O:=(List.getElem?_eq_some_iff.1 r).1;refine RA (Be (k:=8) rfl (by omega) n u ?_ s);simp [eN] at t;omega
 have g:(p.labels.flatMap λx=>bG x 8).length<=p.labels.length*8:=sI _ λx _=>by simp [eN]
 refine GD f5 o5 (bG (c.Table.len:Int) 1) (by simp [bG,mP]) rfl (by simp [eN] at g ⊢;omega) λd k6 f6 o6 _=> ?_;refine GU (h0:=l) (sh:=af .i64) (xs:=p.table) (e:=λx=>bG x 1) (body:=λx b k h9=>bc [(.int .u8 (IntKind.wrap .u8 x))] (λa3 a9=>eC 1 1 [(.int .u8 (0:Int))] ⟨b.base,b.len,b.cap⟩ ⟨(some a3),1,1⟩ (λr5 b9=>k r5 b9) a9) h9)
  1 (λ_=>rfl) (by omega) a1.table f6 o6 (by omega) (λx _=>by simp [eN]) (λi x b z H k r n u t s=> ?_) λb3 k7 f7 o7=> ?_
 ·have O:=(List.getElem?_eq_some_iff.1 r).1;refine GD n u (bG x 1) (by simp [bG,mP]) rfl ?_ λl' f c7 d4 _=>s l' f c7 d4;simp [eN] at t g ⊢;omega
 have f1:(p.table.flatMap λx=>bG x 1).length<=p.table.length*1:=sI _ λx _=>by simp [eN]
 refine RA (Be (k:=2) rfl (by omega) f7 o7 (by simp [eN] at g f1 ⊢;omega) λb4 k8 f9 o8=> ?_);rw [ze (by omega)] at o8;refine GD f9 o8 (bG c.fD 1++bG c.bE 1) (by simp [bG,mP]) rfl (by simp [eN] at g f1 ⊢;omega) λb5 k9 g0 o9 _=> ?_;refine RA (Be (k:=2) rfl (by omega) g0 o9 (by simp [eN] at g f1 ⊢;omega) λb6 i3 d9 Y=> ?_);rw [ze (by omega)] at Y;refine GD d9 Y (bG (c.aD.len:Int) 1) (by simp [bG,mP]) rfl (by simp [eN] at g f1 ⊢;omega) λb7 i4 e0 g1 _=> ?_;have d6:∀q∈p.procs,(gW q).length<=3075:=λq o=>by
  have:=((yZ ⟨m.1,m.2⟩).1 (G q o).2).1;have c0:(mF q.code).length<=q.code.length*12:=sI _ λx _=>by simp [nk,eN]
  simp [gW,eN];omega
 refine K6 (h0:=l) (sh:=bT) (xs:=ps) (es:=p.procs.map gW) (K:=λd B=>Q ⟨d.base,d.len,d.cap⟩ 0 B)
  (body:=λx d k B=>jz prog Ru [x.Code.v] aw (af .i64) (af .i64) (λF i6 i7 c1=>
   bc [(.int .u8 (IntKind.wrap .u8 x.Part))] (λa5 c2=>
   eC 1 1 [(.int .u8 (0:Int))] ⟨d.base,d.len,d.cap⟩ ⟨(some a5),1,1⟩ (λg5 c3=>
   ae prog FY [g5.v,(.int .u64 (IntKind.wrap .u64 ((x.Code.len:Nat):Int))),(.int .i64 (2:Int))] aw (λg6 c4=>
   eC 1 1 [(.int .u8 (0:Int))] g6 ⟨F.base,F.len,F.cap⟩ (λg7 c5=>k g7 c5) c4) c3) c2) c1) B)
  3075 (λ_=>rfl) (by omega) V e0 g1 (by simpa using U.symm) (by omega) (λy hy=>by obtain ⟨q,o,rfl⟩:=List.mem_map.1 hy;exact d6 q o) (λi x e b z H k r N n u t s=> ?_) λb8 i5 f0 Z=> ?_
 ·have O:=(List.getElem?_eq_some_iff.1 r).1;obtain ⟨q,o,d7,is,P,D⟩:=L.get r;rw [List.getElem?_map,o] at N;cases N;have d8:=List.mem_of_getElem? o;have M:=(G q d8).2;have c0:(mF q.code).length<=q.code.length*12:=sI _ λx _=>by simp [nk,eN]
  have h5:=((yZ ⟨m.1,m.2⟩).1 M).1;have c6:=P.1;have d3:is.length=q.code.length:=by rw [<-D,List.length_map]
  have h2:z.length<=200000:=by simp [eN] at t g f1;omega
  refine WY (abM (Rw.mono n P) (by rw [D];exact TI m.1 m.2 (Int.le_refl 8) M) λout C S E=> ?_);dsimp only;rw [D] at E;obtain ⟨R,r1,r2,r3⟩:=aaF u;have d5:=r3 C S;have w4:l<=mq C R:=N6 (Hp.le_trans n S) r2;have g4:Bs (mq C R) out (mF q.code):=(E.rw sQ).same λa ha=>um λhR=>r1 _ hR (VK E ha);refine GD N4 d5 (bG x.Part 1) (by simp [bG,mP]) rfl (by simp [eN];omega) λl6 I c8 g2 _=> ?_;refine RA (Be (k:=2) rfl (by omega) c8 g2 (by simp [eN];omega) λl7 J T a8=> ?_);rw [ze (by omega)] at a8;refine Cb T a8 (Rw.mono T g4) sQ tn rfl (by simp [eN];omega) λl8 h8 c9 g3 _=> ?_;refine s _ _ (Hp.le_trans w4 c9) ?_;have A:gW q=bG x.Part 1++(bG (x.Code.len:Int) 2++mF q.code):=by rw [d7,c6,d3];rfl
  rw [A];have:=PF w4 g3;simpa [List.append_assoc] using this
 ·have e:fg p=[70,66,67,70,1]++bG (c.aQ.len:Int) 1++(p.labels.flatMap λx=>bG x 8)++bG (c.Table.len:Int) 1++(p.table.flatMap λx=>bG x 1)++bG c.Fuel 2++(bG c.fD 1++bG c.bE 1)++bG c.Log 2++bG (c.aD.len:Int) 1++(p.procs.map gW).flatten:=by rw [a.fuel,a.lane,a.ag,a.log,d0,d2,d1,U];simp [fg,List.append_assoc,List.flatMap_def]
  rw [<-e] at Z;exact h1 j _ _ (Hp.le_trans w f0) (PF w Z)
end Lf
